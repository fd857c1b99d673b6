/- Part 6. -/
import Derived.Test.YtdbogogfeffjlaaGreatQf5
namespace Go.Proofs.YtdbogogfeffjlaaGreat
set_option linter.unusedVariables false
set_option linter.unusedSimpArgs false
set_option maxRecDepth 100000
open Go.RowKit
open St1 St2 St3 St4 St5 St6 St7 St8 StA StB
theorem b79 {a:Int} (h:0<=a):a.tmod 1048576=a % 1048576:=Int.tmod_eq_emod_of_nonneg h
set_option maxHeartbeats 1000000 in
theorem b0h (a b:List Int) (ha:Okd a) (hb:Okd b) (la:a.length<=400000) (lb:b.length<=400000):
 a9 Tryz.prog 184 [e7 a,e7 b] [] (e7 (dg (val a*val b).toNat)) []:=by
 have l1:(a.map f8).length=a.length:=by simp
 have l2:(b.map f8).length=b.length:=by simp
 (refine ac Tryz.func184 ?_;(conv=>whnf);repeat (refine zy ?_;conv=>whnf))
 repeat' (first|refine zz ?_|refine a3K (by omega) (by omega) (by omega) (by decide) ?_|refine zd ?_ ?_<;>intro h<;>try omega|refine zy ?_|fail)<;>conv=>whnf
 refine o5 d7 (σ:=Nat × List Int) (fun|(i,out)=>([e7 a,e7 b,J,J,J,a0Y 0 out,a7 .i64 i,J,J,J,J,J,J,J,J,J,J,J,J,J,J,J,J,J,J,J,J,J,J,J,J,J,J,J,J,J,J,J,J,J,J,J,J,J,J,J,J,J,J,J,J,J,J,J,J,J,J,J,J,J],[s8 out])) (fun x=>a3V a b x.1 x.2) (fun x=>a.length - x.1) (0,List.replicate (a.length+b.length) 0) [some 0]
  (a3V.init a b) ⟨rfl,rfl,⟨a8 rfl rfl rfl ?_ rfl,trivial⟩,⟨i7 rfl,i7 rfl,l9 rfl (by simp;omega),rfl,trivial⟩⟩ ?_
 ·show List.replicate _ _=_
  rw [show ((((a.map f8).length:Nat):Int)+((b.map f8).length:Nat)).toNat=a.length+b.length by omega]
  simp [toC,f8,E7]
 rintro ⟨i,out⟩ hI
 have hI:a3V a b i out:=hI
 have hlen:=hI.len
 have hle:=hI.le
 conv=>whnf
 repeat' (first|refine zz ?_|refine zd ?_ ?_<;>intro h<;>try omega|refine zy ?_|fail)<;>conv=>whnf
 ·have hi:i<a.length:=by omega
  refine o5 d7 (σ:=Nat × List Int × Int) (fun|(k,out,c)=>([e7 a,e7 b,J,J,J,a0Y 0 out,a7 .i64 i,a7 .i64 c,a7 .i64 k,J,J,J,J,J,J,J,J,J,J,J,J,J,J,J,J,J,J,J,J,J,J,J,J,J,J,J,J,J,J,J,J,J,J,J,J,J,J,J,J,J,J,J,J,J,J,J,J,J,J,J],[s8 out])) (fun x=>b5L a b i x.1 x.2.1 x.2.2) (fun x=>b.length+1 - x.1) (0,out,0) [some 0]
   ⟨.inl ⟨hI.start,Nat.zero_le _⟩⟩ ⟨rfl,rfl,⟨a8 rfl rfl rfl rfl rfl,trivial⟩,⟨i7 rfl,i7 rfl,l9 rfl rfl,rfl,rfl,rfl,trivial⟩⟩ ?_
  rintro ⟨k,out,c⟩ hT
  have hT:b5L a b i k out c:=hT
  have hdb:=hb.dat k
  have hda:=ha.dat i
  have hm:=a32 (ha.dat i) (hb.dat k)
  have d2:=a53 b k (by omega)
  have e1:((i:Int)+k).toNat=i+k:=by omega
  rcases hT.out with ⟨hK,hkb⟩|⟨hk1,hc,hM⟩
  ·have hlen:=hK.len
   have hc0:=hK.c0
   have hc1:=hK.c1
   have hdo:=hK.ok.dat (i+k)
   have hz:k=b.length->dat out (i+k)=0∧dat b k=0:=fun h=>⟨hK.zero _ (by omega),P6 (by omega)⟩
   have hzm:k=b.length->dat a i*dat b k=0:=fun h=>by rw [(hz h).2,Int.mul_zero]
   conv=>whnf
   repeat' (first|refine zz ?_|refine qp d2 ?_|refine d8 (w5 (by omega)) ?_|refine a0E (by omega) (by show _<((out.length:Nat):Int);omega) ?_|refine s9 (N5 e1 (by omega)) ?_|refine ⟨by decide,_,b4G (by omega) (by omega) (by decide),?_⟩|refine an9 (by decide) ?_|refine zd ?_ ?_<;>intro h<;>try omega|refine zy ?_|fail)<;>conv=>whnf
   all_goals have hn:0<=dat out (i+k)+dat a i*dat b k+c:=by omega
   ·have hst:=hK.step ha hb hi (by omega)
    refine ⟨[some 0],(k+1,out.set (i+k) ((dat out (i+k)+dat a i*dat b k+c) % 1048576),(dat out (i+k)+dat a i*dat b k+c) / 1048576),⟨rfl,rfl,⟨a8 rfl rfl rfl ?_ rfl,trivial⟩,⟨rfl,rfl,l9 rfl (by simp),rfl,rfl,rfl,trivial⟩⟩,⟨.inl ⟨hst,by omega⟩⟩,?_⟩
    ·rw [← b79 hn];exact L8 (by omega)
    ·show b.length+1 - (k+1)<b.length+1 - k;omega
   ·have hkb2:k=b.length:=by omega
    obtain ⟨z1,z2⟩:=hz hkb2
    have z3:=hzm hkb2
    have en:dat out (i+k)+dat a i*dat b k+c=c:=by omega
    have hdone:=hK
    rw [hkb2] at hdone
    have hdone:=hdone.done ha hb hi
    rw [← hkb2] at hdone
    refine ⟨[some 0],(k+1,out.set (i+k) ((dat out (i+k)+dat a i*dat b k+c) % 1048576),(dat out (i+k)+dat a i*dat b k+c) / 1048576),⟨rfl,rfl,⟨a8 rfl rfl rfl ?_ rfl,trivial⟩,⟨rfl,rfl,l9 rfl (by simp),rfl,rfl,rfl,trivial⟩⟩,⟨.inr ⟨by show k+1=b.length+1;omega,by show (dat out (i+k)+dat a i*dat b k+c) / 1048576=0;omega,?_⟩⟩,?_⟩
    ·rw [← b79 hn];exact L8 (by omega)
    ·have e2:(dat out (i+k)+dat a i*dat b k+c) % 1048576=dat out (i+k)+c:=by omega
     rw [e2];exact hdone
    ·show b.length+1 - (k+1)<b.length+1 - k;omega
   ·have hx:=hT.exit ha hb hi (by omega) (by omega)
    exact ⟨[some 0],(i+1,out),⟨rfl,rfl,⟨a8 rfl rfl rfl rfl rfl,trivial⟩,⟨rfl,rfl,l9 rfl rfl,b9 (by omega),trivial⟩⟩,hx,by show a.length - (i+1)<a.length - i;omega⟩
  ·have hlen:=hM.len
   have hx:=hT.exit ha hb hi (by omega) (by omega)
   conv=>whnf
   repeat' (first|refine zz ?_|refine zd ?_ ?_<;>intro h<;>try omega|refine zy ?_|fail)<;>conv=>whnf
   all_goals first
    |omega
    |exact ⟨[some 0],(i+1,out),⟨rfl,rfl,⟨a8 rfl rfl rfl rfl rfl,trivial⟩,⟨rfl,rfl,l9 rfl rfl,b9 (by omega),trivial⟩⟩,hx,by show a.length - (i+1)<a.length - i;omega⟩
 ·have hi:i=a.length:=by omega
  subst hi
  have hf:=hI.fin
  have t:=a5G out (by omega)
  rw [hf] at t
  refine .inr ⟨_,_,x7 [0] t ⟨a0T (v4 (by simp) rfl (by intro h;cases h) rfl rfl (by simp)),trivial⟩ rfl,?_⟩
  conv=>whnf
  exact aa7 rfl
theorem aO2 (m n:Nat) (lm:(dg m).length<=300000) (ln:(dg n).length<=300000):
 a9 Tryz.prog 184 [e7 (dg m),e7 (dg n)] [] (e7 (dg (m*n))) []:=by
 have h:=b0h (dg m) (dg n) (t9 m) (t9 n) (by omega) (by omega)
 rw [n7,n7,show ((m:Int)*n).toNat=m*n by rw [← Int.natCast_mul];rfl] at h
 exact h
set_option maxHeartbeats 1000000 in
theorem b4L (m n:Nat) (hn:0<n) (lm:(dg m).length<=200000) (ln:(dg n).length<=200000):
 a9 Tryz.prog 244 [e7 (dg m),e7 (dg n)] [] (aU8 m n) []:=by
 have l1:((dg m).map f8).length=(dg m).length:=by simp
 have l2:((dg n).map f8).length=(dg n).length:=by simp
 (refine ac Tryz.func244 ?_;(conv=>whnf);repeat (refine zy ?_;conv=>whnf))
 repeat' (first|refine zz ?_|refine a3K (by omega) (by omega) (by omega) (by decide) ?_|refine zd ?_ ?_<;>intro h<;>try omega|refine zy ?_|fail)<;>conv=>whnf
 refine o5 d7 (σ:=Nat × List Int × Nat) (fun|(j,q,r)=>([e7 (dg m),e7 (dg n),J,J,J,J,a0Y 0 q,e7 (dg r),a7 .i64 ((j:Int) - 1),J,J,J,J,J,J,J,J,J,J,J,J,J,J,J,J,J,J,J,J,J,J,J,J,J,J,J,J,J,J,J,J,J,J,J,J,J,J,J,J,J,J,J,J,J,J,J,J,J,J,J],[s8 q])) (fun x=>a0h (dg m) n x.1 x.2.1 x.2.2) (fun x=>x.1) ((dg m).length,List.replicate (dg m).length 0,0) [some 0]
  (a0h.init _ (by omega)) ⟨rfl,rfl,⟨a8 rfl rfl rfl ?_ rfl,trivial⟩,⟨i7 rfl,i7 rfl,l9 rfl (by simp),rfl,b9 (by omega),trivial⟩⟩ ?_
 ·show List.replicate _ _=_
  simp [toC,f8,E7]
 rintro ⟨j,q,r⟩ hI
 have hI:a0h (dg m) n j q r:=hI
 have hlen:=hI.len
 have hle:=hI.le
 have hr1:=hI.r1
 by_cases hj:0<j
 ·obtain ⟨i,rfl⟩:∃i,j=i+1:=⟨j - 1,by omega⟩
  have ei:(((i+1:Nat):Int) - 1)=i:=by omega
  have hda:=(t9 m).dat i
  obtain ⟨y,hy⟩:=Int.eq_ofNat_of_zero_le hda.1
  have lr:=p4 (show r<=n by omega)
  have lm2:i<(dg m).length:=by omega
  generalize hR:r*1048576+y=R
  have hRn:R<n*1048576:=by
   have:=Nat.mul_le_mul_right 1048576 (show r+1<=n by omega)
   rw [Nat.add_mul] at this
   omega
  have lR:(dg R).length<=(dg n).length+1:=O3 (by
   have h1:=O5 n
   rw [H4]
   have h2:=Int.mul_le_mul_of_nonneg_right (a:=(n:Int)+1) (b:=pw (dg n).length) (c:=1048576) (by omega) (by decide)
   omega)
  have tr:=a5G (dat (dg m) i::dg r) (by simp;omega)
  rw [b55 (d:=n) hda,hy,Int.toNat_natCast,hR] at tr
  conv=>whnf
  repeat' (first|refine zz ?_|refine qp (toC,C4) ?_|refine qp toC ?_|refine qp 2 ?_|refine qp (toC,C4,f8,hy) ?_|refine qp (toC,Nat.add_comm) ?_|refine a3W.own ?_|refine I2 ei (w5 (by omega)) ?_|refine q9 (by simp [toC,C4]) (by simp [toC];omega) ?_|refine .inr ⟨_,_,x7 [2] tr ⟨a0T (v4 (by simp) rfl (by intro h;cases h) rfl (by simp [toC,C4,f8,hy]) (by simp [toC,Nat.add_comm])),trivial⟩ rfl,?_⟩|refine zd ?_ ?_<;>intro h<;>try omega|refine zy ?_|fail)<;>conv=>whnf
  refine o5 d7 (σ:=Nat × Nat) (fun|(lo,hi)=>([e7 (dg m),e7 (dg n),J,J,J,J,a0Y 0 q,e7 (dg R),a7 .i64 i,a7 .i64 lo,a7 .i64 hi,J,J,J,J,J,J,J,J,J,J,J,J,J,J,J,J,J,J,J,J,J,J,J,J,J,J,J,J,J,J,J,J,J,J,J,J,J,J,J,J,J,J,J,J,J,J,J,J,J],[s8 q])) (fun x=>x.1*n<=R∧R<x.2*n∧x.1<x.2∧x.2<=1048576) (fun x=>x.2 - x.1) (0,1048576) [some 0]
   ⟨by simp,by show R<1048576*n;rw [Nat.mul_comm];exact hRn,by decide,by decide⟩ ⟨rfl,rfl,⟨a8 rfl rfl rfl rfl rfl,trivial⟩,⟨rfl,rfl,l9 rfl rfl,rfl,b9 ei,rfl,rfl,trivial⟩⟩ ?_
  rintro ⟨lo,hi⟩ ⟨i1,i2,i3,i4⟩
  have i1:lo*n<=R:=i1
  have i2:R<hi*n:=i2
  have i3:lo<hi:=i3
  have i4:hi<=1048576:=i4
  have ln1:(dg n).length<=200000:=ln
  by_cases hc:1<hi - lo
  ·have hmid:(((lo:Int)+hi) / 2)=(((lo+hi) / 2:Nat):Int):=by omega
   generalize hM:(lo+hi) / 2=mid at hmid
   have tm:=b0h (dg n) [(mid:Int)] (t9 n) (by intro x hx;simp at hx;omega) (by omega) (by simp)
   have e0:val [(mid:Int)]=mid:=by simp [val]
   rw [e0,n7,show ((n:Int)*mid).toNat=n*mid by rw [← Int.natCast_mul];rfl] at tm
   have lnm:(dg (n*mid)).length<=(dg n).length+1:=Nat.le_trans (a3h _ _) (by have:=t4 (x:=(mid:Int)) (by omega) (by omega);simp only [bl,Int.natAbs_natCast] at this;omega)
   have ls:=b4e (dg R) (dg (n*mid)) (t9 _) (t9 _) (by omega) (by omega)
   rw [n7,n7] at ls
   conv=>whnf
   repeat' (first|refine zz ?_|refine qp ls ?_|refine qp (Int.tdiv_eq_ediv_of_nonneg (by omega)) ?_|refine ⟨by decide,_,D4 (y:=(mid:Int)) (by rw [Int.tdiv_eq_ediv_of_nonneg (by omega)];exact hmid) (by omega) (by omega),?_⟩|refine .inl ⟨_,_,a0k tm ⟨ai6,a0T (az9 rfl),trivial⟩ rfl,?_⟩|refine zd ?_ ?_<;>intro h<;>try omega|refine zy ?_|fail)<;>conv=>whnf
   ·have hlt:R<n*mid:=Int.ofNat_lt.1 (of_decide_eq_true (by assumption))
    exact ⟨[some 0],(lo,mid),⟨rfl,rfl,⟨a8 rfl rfl rfl rfl rfl,trivial⟩,⟨rfl,rfl,l9 rfl rfl,rfl,rfl,rfl,rfl,trivial⟩⟩,⟨i1,by show R<mid*n;rw [Nat.mul_comm];exact hlt,by show lo<mid;omega,by show mid<=1048576;omega⟩,by show mid - lo<hi - lo;omega⟩
   ·have hlt:n*mid<=R:=Nat.not_lt.1 (fun h=>absurd (Int.ofNat_lt.2 h) (of_decide_eq_false (by assumption)))
    exact ⟨[some 0],(mid,hi),⟨rfl,rfl,⟨a8 rfl rfl rfl rfl rfl,trivial⟩,⟨rfl,rfl,l9 rfl rfl,rfl,rfl,rfl,rfl,trivial⟩⟩,⟨by show mid*n<=R;rw [Nat.mul_comm];exact hlt,i2,by show mid<hi;omega,i4⟩,by show hi - mid<hi - lo;omega⟩
  ·obtain rfl:hi=lo+1:=by omega
   have hq:R / n=lo:=by
    rw [Nat.div_eq_iff hn]
    rw [Nat.add_mul] at i2
    omega
   have hm2:=Nat.div_add_mod R n
   rw [hq] at hm2
   have hrm:=Nat.mod_lt R hn
   have tl:=a5G [(lo:Int)] (by simp)
   rw [K8 (by intro x hx;simp at hx;omega),show (val [(lo:Int)]).toNat=lo by simp [val]] at tl
   have llo:(dg lo).length<=1:=by have:=t4 (x:=(lo:Int)) (by omega) (by omega);simpa [bl] using this
   have tt:=aO2 n lo (by omega) (by omega)
   have mi:=b0y (dg R) (dg (n*lo)) (t9 _) (t9 _) (by omega) (p4 (by omega)) (by rw [n7,n7];omega)
   rw [n7,n7,show ((R:Int) - ((n*lo:Nat):Int)).toNat=R % n by omega] at mi
   have hst:=hI.step (t9 m) (by omega)
   have c1:((r:Int)*1048576+dat (dg m) i)=(R:Int):=by rw [hy,←hR];simp
   rw [c1] at hst
   have c2:(R:Int) / n=(lo:Int):=by rw [← hq];simp
   have c3:(R:Int) % n=((R % n:Nat):Int):=by simp
   rw [c2,c3] at hst
   have gq:q[0+(i:Int).toNat]? =some (dat q i):=N5 (by omega) (by omega)
   conv=>whnf
   repeat' (first|refine zz ?_|refine qp tt ?_|refine qp mi ?_|refine .inl ⟨_,_,a0k tl ⟨a0T (az9 rfl),trivial⟩ rfl,?_⟩|refine a0E (by omega) (by show _<((q.length:Nat):Int);omega) ?_|refine s9 gq ?_|refine zd ?_ ?_<;>intro h<;>try omega|refine zy ?_|fail)<;>conv=>whnf
   all_goals try omega
   refine ⟨[some 0],(i,q.set i lo,R % n),⟨rfl,rfl,⟨a8 rfl rfl rfl (L8 (by omega)) rfl,trivial⟩,⟨rfl,rfl,l9 rfl (by simp),rfl,b9 (by omega),trivial⟩⟩,hst,by show i<i+1;omega⟩
 ·obtain rfl:j=0:=by omega
  obtain ⟨f1,f2⟩:=hI.fin (t9 m) (by omega)
  have tq:=a5G q (by have:=hI.len;omega)
  rw [f1,n7,show ((m:Int) / n).toNat=m / n by rw [← Int.natCast_ediv];rfl] at tq
  rw [n7] at f2
  have f3:r=m % n:=by
   have:(m:Int) % n=((m % n:Nat):Int):=by simp
   omega
  subst f3
  conv=>whnf
  repeat' (first|refine zz ?_|refine qp 0 ?_|refine .inr ⟨_,_,x7 [0] tq ⟨a0T (v4 (by simp) rfl (by intro h;cases h) rfl rfl (by simp)),trivial⟩ rfl,?_⟩|refine zd ?_ ?_<;>intro h<;>try omega|refine zy ?_|fail)<;>conv=>whnf
  all_goals try omega
  exact k8 ⟨rfl,rfl,trivial⟩
theorem a3e (b:Bg) (hl:b.dl.length<=1000000):a9 Tryz.prog 180 [bgS b] [] (f9 (J2 b)) []:=by
 have l2:(b.dl.map f8).length=b.dl.length:=by simp
 (refine ac Tryz.func180 ?_;(conv=>whnf);repeat ((first|refine b0x ?_|refine zy ?_);conv=>whnf))
 repeat' (first|refine zz ?_|refine zd ?_ ?_<;>intro h<;>try omega|refine zy ?_|fail)<;>conv=>whnf
 refine f5 d7 (fun k=>([J,S.c (C.t (T.ptr [ti b.sg,L5 b.dl])),J,a7 .i64 k,J,J,J,J,J,J,J,J,J,J,J,J,J,J,J,J,J,J,J,J,J,J,J,J,J,J,J,J,J,J,J,J,J,J,J,J,J,J,J,J,J,J,J,J,J,J,J,J,J,J,J,J],[])) b.dl.length (fun k=>(b.dl.take k).all inD=true) [] rfl
  ⟨rfl,rfl,trivial,⟨i7 rfl,rfl,trivial⟩⟩ ?_
 intro k hk hI
 by_cases hlt:k<b.dl.length
 ·conv=>whnf
  repeat' (first|refine zz ?_|refine d8 (w5 (by omega)) ?_|refine zd ?_ ?_<;>intro h<;>try omega|refine zy ?_|fail)<;>conv=>whnf
  all_goals first
   |omega
   |exact ⟨hlt,by rw [t6 (w5 hlt),hI];simp [inD];omega,[],rfl,rfl,trivial,⟨rfl,rfl,trivial⟩⟩
   |(refine b7 ?_;unfold J2;rw [x9 (w5 hlt) (by simp [inD];omega)];rfl)
 ·have hke:k=b.dl.length:=by omega
  subst hke
  have ha:b.dl.all inD=true:=by rw [← hI,lg4 (by omega)]
  have hgl:0<b.dl.length->b.dl[((((b.dl.map f8).length:Nat):Int) - 1).toNat]? =some (dat b.dl (b.dl.length - 1)):=fun h=>by rw [l2];exact a6m h
  conv=>whnf
  repeat' (first|refine zz ?_|refine o7 (by omega) (hgl (by omega)) ?_|refine zd ?_ ?_<;>intro h<;>try omega|refine zy ?_|fail)<;>conv=>whnf
  all_goals first
   |omega
   |(exfalso;simp_all;done)
   |(exfalso;simp_all;omega)
   |skip
  all_goals
   refine b7 ?_
   unfold J2
   rw [ha]
   by_cases hz:b.dl.length=0
   ·rw [if_pos hz];simp_all<;>omega
   ·rw [if_neg hz];simp_all<;>omega
theorem a0B (x:Int) (lx:bl x<=300000):a9 Tryz.prog 180 [bgS (bz x)] [] (f9 true) []:=by
 have:=a3e (bz x) (show bl x<=1000000 by omega)
 rw [a04] at this
 exact this
theorem b8G (n:Int) (h0:-9223372036854775808<=n) (h1:n<=9223372036854775807):a9 Tryz.prog 176 [a7 .i64 n] [] (bgS (bz n)) []:=by
 rcases Int.lt_trichotomy n 0 with hn|hn|hn
 ·(refine ac Tryz.func176 ?_;(conv=>whnf);repeat (refine zy ?_;conv=>whnf))
  repeat' (first|refine zz ?_|refine zd ?_ ?_<;>intro h<;>try omega|refine zy ?_|fail)<;>conv=>whnf
  all_goals try omega
  refine o5 d7 (σ:=List Int × Nat) (fun|(acc,u)=>([a7 .i64 (- (u:Int)),J,S.c (C.ptr 0 0 0),a7 .i64 (-1),a0Y 1 acc,J,J,J,J,J,J,J,J,J,J,J,J,J,J,J,J,J,J,J,J,J,J,J],[b1U,s8 acc])) (fun s=>OfI n s.1 s.2) (fun s=>s.2) ([],n.natAbs) [some 0,none]
   ⟨rfl⟩ ⟨rfl,rfl,⟨⟨rfl,rfl,rfl,.inl ⟨rfl,V4⟩⟩,⟨rfl,rfl⟩,trivial⟩,⟨b9 (by omega),⟨rfl,rfl,rfl⟩,rfl,⟨rfl,rfl,rfl⟩,trivial⟩⟩ ?_
  rintro ⟨acc,u⟩ hI
  have hI:OfI n acc u:=hI
  have hl:=hI.len h0 h1
  have hu:=hI.le
  have hm:(- (u:Int)).tmod 1048576=- ((u:Int) % 1048576):=by
   first
    |exact Int.tmod_eq_emod_of_nonneg (by omega)
    |(rw [Int.neg_tmod,Int.tmod_eq_emod_of_nonneg (by omega)])
  have hd:(- (u:Int)).tdiv 1048576=- ((u / 1048576:Nat):Int):=by
   first
    |(rw [Int.tdiv_eq_ediv_of_nonneg (by omega)];simp;done)
    |(rw [Int.neg_tdiv,Int.tdiv_eq_ediv_of_nonneg (by omega)];simp)
  by_cases hu0:0<u
  ·have hst:=hI.step hu0
   conv=>whnf
   repeat' (first|refine zz ?_|refine qp toC ?_|refine qp toC ?_|refine q9 (by simp [toC]) (by simp [toC];omega) ?_|refine ⟨by decide,_,D4 hd (by omega) (by omega),?_⟩|refine an9 (by decide) ?_|refine zd ?_ ?_<;>intro h<;>try omega|refine zy ?_|fail)<;>conv=>whnf
   all_goals try omega
   all_goals
    refine ⟨[some 0,some 2],(acc++[(u:Int) % 1048576],u / 1048576),⟨rfl,rfl,⟨⟨rfl,rfl,rfl,.inl ⟨rfl,V4⟩⟩,a8 rfl rfl rfl ?_ rfl,trivial⟩,⟨b9 rfl,⟨rfl,rfl,rfl⟩,rfl,l9 rfl (by simp [toC]),trivial⟩⟩,hst,by show u / 1048576<u;omega⟩
    have e:∀y:Int,y=(u:Int) % 1048576->(toC (acc.map f8)).take acc.length++toC [[ti y]]=toC ((acc++[(u:Int) % 1048576]).map f8):=fun y hy=>by rw [hy];exact a1D
    exact e _ (by omega)
  ·have h0u:u=0:=by omega
   subst h0u
   have e:acc=dg n.natAbs:=by have:=hI.eq;rw [W1,List.append_nil] at this;exact this
   have sg:=J8 (-1) n.natAbs (by omega) (by rw [← e];omega)
   rw [← e,show (-1)*(n.natAbs:Int)=n by omega] at sg
   conv=>whnf
   repeat' (first|refine zz ?_|refine qp 1 ?_|refine .inr ⟨_,_,x7 [1] sg ⟨ai6,a0T (v4 (by simp) rfl (by intro h;cases h) rfl rfl (by simp)),trivial⟩ rfl,?_⟩|refine zd ?_ ?_<;>intro h<;>try omega|refine zy ?_|fail)<;>conv=>whnf
   all_goals try omega
   exact k8 ⟨rfl,rfl,trivial⟩
 ·subst hn
  (refine ac Tryz.func176 ?_;(conv=>whnf);repeat (refine zy ?_;conv=>whnf))
  repeat' (first|refine zz ?_|refine zd ?_ ?_<;>intro h<;>try omega|refine zy ?_|fail)<;>conv=>whnf
  all_goals first
   |omega
   |exact k8 ⟨rfl,rfl,trivial⟩
 ·(refine ac Tryz.func176 ?_;(conv=>whnf);repeat (refine zy ?_;conv=>whnf))
  repeat' (first|refine zz ?_|refine zd ?_ ?_<;>intro h<;>try omega|refine zy ?_|fail)<;>conv=>whnf
  all_goals try omega
  refine o5 d7 (σ:=List Int × Nat) (fun|(acc,u)=>([a7 .i64 ((u:Int)),J,S.c (C.ptr 0 0 0),a7 .i64 (1),a0Y 1 acc,J,J,J,J,J,J,J,J,J,J,J,J,J,J,J,J,J,J,J,J,J,J,J],[b1U,s8 acc])) (fun s=>OfI n s.1 s.2) (fun s=>s.2) ([],n.natAbs) [some 0,none]
   ⟨rfl⟩ ⟨rfl,rfl,⟨⟨rfl,rfl,rfl,.inl ⟨rfl,V4⟩⟩,⟨rfl,rfl⟩,trivial⟩,⟨b9 (by omega),⟨rfl,rfl,rfl⟩,rfl,⟨rfl,rfl,rfl⟩,trivial⟩⟩ ?_
  rintro ⟨acc,u⟩ hI
  have hI:OfI n acc u:=hI
  have hl:=hI.len h0 h1
  have hu:=hI.le
  have hm:((u:Int)).tmod 1048576=((u:Int) % 1048576):=by
   first
    |exact Int.tmod_eq_emod_of_nonneg (by omega)
    |(rw [Int.neg_tmod,Int.tmod_eq_emod_of_nonneg (by omega)])
  have hd:((u:Int)).tdiv 1048576=((u / 1048576:Nat):Int):=by
   first
    |(rw [Int.tdiv_eq_ediv_of_nonneg (by omega)];simp;done)
    |(rw [Int.neg_tdiv,Int.tdiv_eq_ediv_of_nonneg (by omega)];simp)
  by_cases hu0:0<u
  ·have hst:=hI.step hu0
   conv=>whnf
   repeat' (first|refine zz ?_|refine qp toC ?_|refine qp toC ?_|refine q9 (by simp [toC]) (by simp [toC];omega) ?_|refine ⟨by decide,_,D4 hd (by omega) (by omega),?_⟩|refine an9 (by decide) ?_|refine zd ?_ ?_<;>intro h<;>try omega|refine zy ?_|fail)<;>conv=>whnf
   all_goals try omega
   all_goals
    refine ⟨[some 0,some 2],(acc++[(u:Int) % 1048576],u / 1048576),⟨rfl,rfl,⟨⟨rfl,rfl,rfl,.inl ⟨rfl,V4⟩⟩,a8 rfl rfl rfl ?_ rfl,trivial⟩,⟨b9 rfl,⟨rfl,rfl,rfl⟩,rfl,l9 rfl (by simp [toC]),trivial⟩⟩,hst,by show u / 1048576<u;omega⟩
    have e:∀y:Int,y=(u:Int) % 1048576->(toC (acc.map f8)).take acc.length++toC [[ti y]]=toC ((acc++[(u:Int) % 1048576]).map f8):=fun y hy=>by rw [hy];exact a1D
    exact e _ (by omega)
  ·have h0u:u=0:=by omega
   subst h0u
   have e:acc=dg n.natAbs:=by have:=hI.eq;rw [W1,List.append_nil] at this;exact this
   have sg:=J8 (1) n.natAbs (by omega) (by rw [← e];omega)
   rw [← e,show (1)*(n.natAbs:Int)=n by omega] at sg
   conv=>whnf
   repeat' (first|refine zz ?_|refine qp 1 ?_|refine .inr ⟨_,_,x7 [1] sg ⟨ai6,a0T (v4 (by simp) rfl (by intro h;cases h) rfl rfl (by simp)),trivial⟩ rfl,?_⟩|refine zd ?_ ?_<;>intro h<;>try omega|refine zy ?_|fail)<;>conv=>whnf
   all_goals try omega
   exact k8 ⟨rfl,rfl,trivial⟩
theorem b78 (x y:Int) (lx:bl x<=200000) (ly:bl y<=200000):a9 Tryz.prog 181 [bgS (bz x),bgS (bz y)] [] (.tup [bgS (bz (Int.gcd x y)),a7 .i64 0]) []:=by
 have r1:=a0B x (by omega)
 have r2:=a0B y (by omega)
 (refine ac Tryz.func181 ?_;(conv=>whnf);repeat (refine zy ?_;conv=>whnf))
 repeat' (first|refine zz ?_|refine qp r1 ?_|refine qp r2 ?_|refine zd ?_ ?_<;>intro h<;>try omega|refine zy ?_|fail)<;>conv=>whnf
 all_goals first
  |(exfalso;simp_all;done)
  |skip
 refine o5 d7 (σ:=Nat × Nat) (fun|(X,Y)=>([J,J,J,J,S.c (C.ptr 0 0 0),J,e7 (dg X),e7 (dg Y),J,J,J,J,J,J,J,J,J,J,J,J,J,J,J,J,J,J,J,J,J,J,J,J,J,J,J,J],[b1U])) (fun s=>b6Q x y s.1 s.2) (fun s=>s.2) (x.natAbs,y.natAbs) [some 2]
  ⟨rfl,lx,ly⟩ ⟨rfl,rfl,⟨⟨rfl,rfl,rfl,.inl ⟨rfl,V4⟩⟩,trivial⟩,⟨⟨rfl,rfl,rfl⟩,rfl,rfl,trivial⟩⟩ ?_
 rintro ⟨X,Y⟩ hI
 have hI:b6Q x y X Y:=hI
 obtain ⟨g1,g2,g3⟩:=hI
 have l2:((dg Y).map f8).length=(dg Y).length:=by simp
 by_cases hY:0<Y
 ·have hp:(dg Y).length≠0:=by rw [Ne,List.length_eq_zero_iff,Q5];omega
  have dv:=b4L X Y hY (by omega) (by omega)
  conv=>whnf
  repeat' (first|refine zz ?_|refine qp dv ?_|refine zd ?_ ?_<;>intro h<;>try omega|refine zy ?_|fail)<;>conv=>whnf
  all_goals first
   |omega
   |exact ⟨[some 0],(Y,X % Y),⟨rfl,rfl,⟨⟨rfl,rfl,rfl,.inl ⟨rfl,V4⟩⟩,trivial⟩,⟨⟨rfl,rfl,rfl⟩,rfl,rfl,trivial⟩⟩,⟨by rw [← g1,Nat.gcd_comm Y,←Nat.gcd_rec,Nat.gcd_comm],g3,Nat.le_trans (p4 (Nat.le_of_lt (Nat.mod_lt X hY))) g3⟩,Nat.mod_lt X hY⟩
 ·have hY:Y=0:=by omega
  subst hY
  have hp:(dg 0).length=0:=rfl
  have s1:=J8 1 X (by simp) (by omega)
  conv=>whnf
  repeat' (first|refine zz ?_|refine qp s1 ?_|refine zd ?_ ?_<;>intro h<;>try omega|refine zy ?_|fail)<;>conv=>whnf
  all_goals first
   |omega
   |skip
  refine a62 ?_
  rw [Int.one_mul,show X=Int.gcd x y by rw [Int.gcd,←g1,Nat.gcd_zero_right]]
theorem b75 (x y:Int) (hy:0<y) (hxy:x % y=0) (lx:bl x<=200000) (ly:bl y<=200000):a9 Tryz.prog 189 [bgS (bz x),bgS (bz y)] [] (.tup [bgS (bz (x / y)),bgS (bz 0),a7 .i64 0]) []:=by
 have r1:=a0B x (by omega)
 have r2:=a0B y (by omega)
 have hys:(bz y).sg=1:=by rw [ab4,Int.sign_eq_one_of_pos hy]
 have ov:=b4L x.natAbs y.natAbs (by omega) lx ly
 have hmod:x.natAbs % y.natAbs=0:=by
  have:=Int.natAbs_dvd_natAbs.2 (Int.dvd_of_emod_eq_zero hxy)
  exact Nat.mod_eq_zero_of_dvd this
 have lq:=p4 (Nat.div_le_self x.natAbs y.natAbs)
 have hsg:(bz x).sg=x.sign:=rfl
 have hs:=E9 x
 have hq:x.sign*((x.natAbs / y.natAbs:Nat):Int)=x / y:=by
  obtain ⟨k,hk⟩:=Int.dvd_of_emod_eq_zero hxy
  subst hk
  have hk2:(y*k) / y=k:=Int.mul_ediv_cancel_left _ (by omega)
  rw [hk2,Int.natAbs_mul,Nat.mul_div_cancel_left _ (by omega),Int.sign_mul,Int.sign_eq_one_of_pos hy,Int.one_mul]
  exact Int.sign_mul_natAbs k
 have s1:=J8 x.sign (x.natAbs / y.natAbs) (by
  rcases hs with ⟨h,h1⟩|⟨h,h1⟩|⟨h,h1⟩
  ·right;right;subst h1;simp
  ·exact .inl h
  ·exact .inr (.inl h)) (by unfold bl at lx;omega)
 rw [hq] at s1
 have s2:=J8 x.sign 0 (by simp) (by rw [W1];simp)
 rw [show x.sign*((0:Nat):Int)=0 by simp] at s2
 have hmul:x.sign*1=x.sign:=Int.mul_one _
 have hd0:((dg (x.natAbs % y.natAbs)).map f8).length=0:=by rw [hmod,W1];rfl
 unfold aU8 at ov
 rw [hmod] at ov hd0
 (refine ac Tryz.func189 ?_;(conv=>whnf);repeat (refine zy ?_;conv=>whnf))
 repeat' (first|refine zz ?_|refine qp r1 ?_|refine qp r2 ?_|refine qp ov ?_|refine qp s1 ?_|refine qp s2 ?_|refine qp (hys,hsg) ?_|refine ⟨_,D4 (y:=x.sign) (by rw [hys,hsg];exact hmul) (by omega) (by omega),?_⟩|refine zd ?_ ?_<;>intro h<;>try omega|refine zy ?_|fail)<;>conv=>whnf
 all_goals first
  |omega
  |(exfalso;simp_all;done)
  |exact b0U rfl rfl
theorem b0n (p q:Int) (hq:0<q) (lp:bl p<=200000) (lq:bl q<=200000):a9 Tryz.prog 114 [bgS (bz p),bgS (bz q)] [] (.tup [frS (fz (Rat.divInt p q)),a7 .i64 0]) []:=by
 have r1:=a0B p (by omega)
 have r2:=a0B q (by omega)
 have hsg:(bz q).sg=1:=by rw [ab4,Int.sign_eq_one_of_pos hq]
 have lg:=a9I p q lp lq
 have hg:0<(Int.gcd p q:Int):=by have:=Int.gcd_pos_of_ne_zero_right p (b:=q) (by omega);omega
 have g:=b78 p q lp lq
 have d1:=b75 p _ hg (Int.emod_eq_zero_of_dvd (Int.gcd_dvd_left ..)) lp lg
 have d2:=b75 q _ hg (Int.emod_eq_zero_of_dvd (Int.gcd_dvd_right ..)) lq lg
 have e:=a7q (p:=p) (q:=q) (by omega) rfl
 (refine ac Tryz.func114 ?_;(conv=>whnf);repeat (refine zy ?_;conv=>whnf))
 repeat' (first|refine zz ?_|refine qp r1 ?_|refine qp r2 ?_|refine qp g ?_|refine qp d1 ?_|refine qp d2 ?_|refine zd ?_ ?_<;>intro h<;>try omega|refine zy ?_|fail)<;>conv=>whnf
 all_goals first
  |omega
  |(exfalso;simp_all;done)
  |exact W9 e.symm
theorem b90 (p q:Int) (hq:0<q) (p0:-9223372036854775808<=p) (p1:p<=9223372036854775807) (q1:q<=9223372036854775807):
 a9 Tryz.prog 106 [a7 .i64 p,a7 .i64 q] [] (.tup [frS (fz (Rat.divInt p q)),a7 .i64 0]) []:=by
 have l1:=U2 p0 p1
 have l2:=U2 (x:=q) (by omega) q1
 have o1:=b8G p p0 p1
 have o2:=b8G q (by omega) q1
 have n:=b0n p q hq (by omega) (by omega)
 (refine ac Tryz.func106 ?_;(conv=>whnf);repeat (refine zy ?_;conv=>whnf))
 repeat' (first|refine zz ?_|refine qp o1 ?_|refine qp o2 ?_|refine qp n ?_|refine zd ?_ ?_<;>intro h<;>try omega|refine zy ?_|fail)<;>conv=>whnf
 all_goals exact W9 rfl
theorem a2M (n:Int) (p0:-9223372036854775808<=n) (p1:n<=9223372036854775807):a9 Tryz.prog 41 [a7 .i64 n] [] (frS (fz (n:Rat))) []:=by
 have o:=b90 n 1 (by decide) p0 p1 (by decide)
 have e:Rat.divInt n 1=(n:Rat):=by rw [Rat.divInt_eq_div];simp;grind
 rw [e] at o
 (refine ac Tryz.func41 ?_;(conv=>whnf);repeat (refine zy ?_;conv=>whnf))
 repeat' (first|refine zz ?_|refine qp o ?_|refine zd ?_ ?_<;>intro h<;>try omega|refine zy ?_|fail)<;>conv=>whnf
 all_goals exact k8 ⟨rfl,rfl,rfl,rfl,trivial⟩
def b7I (n:Int) (f:Fr):Bool:=decide ((f.p.dl.length:Int)<=n) && decide ((f.q.dl.length:Int)<=n)
abbrev ir (n:Int):Rat:=((n:Int):Rat)
instance:DecidableEq D9:=fun a b=>decidable_of_iff (a.terms=b.terms∧a.kind=b.kind∧a.value=b.value) ⟨fun ⟨h1,h2,h3⟩=>by cases a;cases b;simp_all,fun h=>by subst h;exact ⟨rfl,rfl,rfl⟩⟩
instance:DecidableEq g8:=fun a b=>decidable_of_iff (a.n=b.n∧a.rows=b.rows) ⟨fun ⟨h1,h2⟩=>by cases a;cases b;simp_all,fun h=>by subst h;exact ⟨rfl,rfl⟩⟩
def E8 (l:List (Int × Rat)):Prop:=∀t ∈ l,∃c:Int,t.2=((c:Int):Rat)∧bl c<=1
theorem Y4 {i:Int} {c:Int} (h0:-1048575<=c) (h1:c<=1048575):E8 [(i,((c:Int):Rat))]:=by
 intro t ht
 simp at ht
 subst ht
 exact ⟨c,rfl,t4 h0 h1⟩
theorem a89 {a b:List (Int × Rat)} (ha:E8 a) (hb:E8 b):E8 (a++b):=by
 intro t ht
 rcases List.mem_append.1 ht with h|h
 ·exact ha t h
 ·exact hb t h
theorem a5C {e:Ev} {p:Int}:∀k,E8 (j6 e p k)
 |0=>by intro t ht;cases ht
 |k+1=>by
  have ih:=a5C (e:=e) (p:=p) k
  unfold j6
  split
  ·exact ih
  ·split
   ·exact a89 ih (Y4 (by decide) (by decide))
   ·split
    ·exact a89 ih (Y4 (by decide) (by decide))
    ·exact ih
theorem a6P {l:List (Int × Rat)} {z:List Rat} {B:Nat} (h1:∀t ∈ l,rl t.2<=1) (h2:∀v ∈ z,rl v<=B):∀k,rl (k9 (l.take k) z)<=l.length*(B+4)+1:=by
 have key:∀k,k<=l.length->rl (k9 (l.take k) z)<=k*(B+4)+1:=by
  intro k
  induction k with
  |zero=>intro _;rw [List.take_zero];have:=rl0;show rl 0<=_;omega
  |succ k ih=>
   intro hk
   have ih:=ih (by omega)
   rw [List.take_succ_eq_append_getElem (show k<l.length by omega),T2]
   have a1:=h1 l[k] (List.getElem_mem _)
   have a2:rl (z.getD l[k].1.toNat 0)<=B+1:=by
    by_cases hz:l[k].1.toNat<z.length
    ·have:=h2 _ (lg2 (getD_some hz));omega
    ·rw [lg3,List.getElem?_eq_none (by omega)]
     have:=rl0
     show rl 0<=_
     omega
   have a3:=a3c l[k].2 (z.getD l[k].1.toNat 0)
   have a4:=a4e (k9 (l.take k) z) (l[k].2*z.getD l[k].1.toNat 0)
   rw [Nat.succ_mul]
   omega
 intro k
 by_cases hk:k<=l.length
 ·have h3:=key k hk
  have h4:=Nat.mul_le_mul_right (B+4) hk
  omega
 ·have h3:=key l.length (Nat.le_refl _)
  rw [lg4 (Nat.le_refl _)] at h3
  rw [lg4 (by omega)];exact h3
theorem P8 {l:List (Int × Rat)} (h:E8 l):∀t ∈ l,rl t.2<=1:=by
 intro t ht
 obtain ⟨c,hc,hb⟩:=h t ht
 rw [hc,a2k]
 have h1:bl 1<=1:=t4 (by decide) (by decide)
 omega
theorem b2c {s:g8} {g:List (Int × Rat)} {n B:Nat} (h:K3 s g n B):∀v ∈ B8 s g,rl v<=B:=by
 intro v hv
 have hb:=ac6 h
 have hn:=h.nn
 have h1:=h.b1
 obtain ⟨j,hj,rfl⟩:=a4S hv
 have hp:a0a (g4 s).length s.n.toNat (z9 s g):=S4.p
 rw [hn] at hj hp ⊢
 rw [← aT0 hp hj]
 have key:∀k,k<=(g4 s).length->rl (ptK n (z9 s g).O (z9 s g).V (fun _=>0) k j)<=B:=by
  intro k
  induction k with
  |zero=>intro _;have:=rl0;show rl 0<=_;omega
  |succ k ih=>
   intro hk
   rw [S0]
   simp only
   split
   ·exact hb.v k (by omega)
   ·exact ih (by omega)
 exact key _ (Nat.le_refl _)
theorem a0n {l:List (Int × Rat)} (h:E8 l):E8 (R4 l):=by
 intro t ht
 obtain ⟨u,hu,rfl⟩:=List.mem_map.1 ht
 obtain ⟨c,hc,hb⟩:=h u hu
 refine ⟨-c,?_,by rw [a8Z];exact hb⟩
 show u.2*((-1:Int):Rat)=((-c:Int):Rat)
 rw [hc]
 have e:((-c:Int):Rat)=-((c:Int):Rat):=by push_cast;rfl
 have e1:((-1:Int):Rat)=-1:=rfl
 rw [e,e1];grind
theorem Y2 {n:Int}:∀{l:List (Int × Rat)} {last:Int},g9 last n l=true->g9 last n (R4 l)=true
 |[],_,_=>rfl
 |a::r,last,h=>by
  unfold g9 at h
  show g9 last n ((a.1,a.2*((-1:Int):Rat))::R4 r)=true
  unfold g9
  simp only [Bool.and_eq_true,decide_eq_true_eq] at h ⊢
  refine ⟨⟨⟨h.1.1.1,h.1.1.2⟩,fun e=>h.1.2 ?_⟩,Y2 h.2⟩
  have e1:((-1:Int):Rat)=-1:=rfl
  rw [e1] at e
  grind
theorem b6J (l:List (Int × Rat)):(R4 l).length=l.length:=a1z _ _
theorem ax9 {s:g8} {g:List (Int × Rat)} (hr:j0 s=true) (hz:a0W s []=.best):a0W s g=.best∨∃c,a0W s g=.col c:=by
 rcases ar0 s g with h|⟨r,h⟩|h
 ·exact .inl h
 ·have h1:=(a2J hr rfl hz).1
  rw [b19 h] at h1;cases h1
 ·exact .inr h
structure ai0 (a b:List Int) (i:Nat) (out:List Int) (c:Int):Prop where
 len:out.length=i
 ok:Okd out
 le:i<=max a.length b.length+1
 top:i=max a.length b.length+1->c=0
 c0:0<=c
 c1:c<=1
 eq:val out+pw i*c=val (a.take i)+val (b.take i)
theorem ai0.init (a b:List Int):ai0 a b 0 [] 0:=⟨rfl,.nil,Nat.zero_le _,fun _=>rfl,by decide,by decide,by simp [val]⟩
theorem ai0.step {a b out:List Int} {i:Nat} {c:Int} (h:ai0 a b i out c) (ha:Okd a) (hb:Okd b) (hi:i<a.length∨i<b.length∨0<c):
 ai0 a b (i+1) (out++[(dat a i+dat b i+c) % 1048576]) ((dat a i+dat b i+c) / 1048576):=by
 have h1:=ha.dat i
 have h2:=hb.dat i
 have h3:=h.c0
 have h4:=h.c1
 have hl:=h.le
 have ht:=h.top
 have hi2:i<=max a.length b.length:=by
  rcases Nat.lt_or_ge (max a.length b.length) i with h5|h5
  ·have:=ht (by omega);omega
  ·exact h5
 refine ⟨by simp [h.len],h.ok.append (Okd.cons (a5d _) .nil),by omega,fun e=>?_,by omega,by omega,?_⟩
 ·have e1:dat a i=0:=P6 (by omega)
  have e2:dat b i=0:=P6 (by omega)
  rw [e1,e2];omega
 ·rw [M5,h.len,t5,t5,H4]
  have h5:=h.eq
  have h6:(dat a i+dat b i+c) % 1048576=dat a i+dat b i+c - 1048576*((dat a i+dat b i+c) / 1048576):=by omega
  simp only [val]
  rw [h6]
  grind
theorem ai0.fin {a b out:List Int} {i:Nat} {c:Int} (h:ai0 a b i out c) (la:a.length<=i) (lb:b.length<=i) (hc:c<=0):I0 out=dg (val a+val b).toNat:=by
 have h1:=h.eq
 have h2:=h.c0
 obtain rfl:c=0:=by omega
 rw [lg4 la,lg4 lb] at h1
 rw [K8 h.ok]
 congr 2
 grind
theorem b8R (a b:List Int) (ha:Okd a) (hb:Okd b) (la:a.length<=400000) (lb:b.length<=400000):
 a9 Tryz.prog 185 [e7 a,e7 b] [] (e7 (dg (val a+val b).toNat)) []:=by
 have l1:(a.map f8).length=a.length:=by simp
 have l2:(b.map f8).length=b.length:=by simp
 (refine ac Tryz.func185 ?_;(conv=>whnf);repeat (refine zy ?_;conv=>whnf))
 repeat' (first|refine zz ?_|refine zd ?_ ?_<;>intro h<;>try omega|refine zy ?_|fail)<;>conv=>whnf
 refine o5 d7 (σ:=Nat × List Int × Int) (fun|(k,out,c)=>([e7 a,e7 b,J,J,J,a0Y 0 out,a7 .i64 c,a7 .i64 k,J,J,J,J,J,J,J,J,J,J,J,J,J,J,J,J,J,J,J,J,J,J,J,J,J,J,J,J,J,J,J,J,J,J,J],[s8 out])) (fun x=>ai0 a b x.1 x.2.1 x.2.2) (fun x=>max a.length b.length+1 - x.1) (0,[],0) [none]
  (ai0.init a b) ⟨rfl,rfl,⟨⟨rfl,rfl⟩,trivial⟩,⟨i7 rfl,i7 rfl,⟨rfl,rfl,rfl⟩,rfl,rfl,trivial⟩⟩ ?_
 rintro ⟨k,out,c⟩ hI
 have hI:ai0 a b k out c:=hI
 have hlen:=hI.len
 have hle:=hI.le
 have hc0:=hI.c0
 have hc1:=hI.c1
 have hda:=ha.dat k
 have hdb:=hb.dat k
 have d1:=a53 a k (by omega)
 have d2:=a53 b k (by omega)
 have hm:(dat a k+dat b k+c).tmod 1048576=(dat a k+dat b k+c) % 1048576:=Int.tmod_eq_emod_of_nonneg (by omega)
 have hd:(dat a k+dat b k+c).tdiv 1048576=(dat a k+dat b k+c) / 1048576:=Int.tdiv_eq_ediv_of_nonneg (by omega)
 by_cases hgo:k<a.length∨k<b.length∨0<c
 ·have hst:=hI.step ha hb hgo
  have hk2:=hst.le
  conv=>whnf
  repeat' (first|refine zz ?_|refine qp d1 ?_|refine qp d2 ?_|refine qp toC ?_|refine qp toC ?_|refine q9 (by simp [toC]) (by simp [toC];omega) ?_|refine ⟨by decide,_,D4 hd (by omega) (by omega),?_⟩|refine an9 (by decide) ?_|refine zd ?_ ?_<;>intro h<;>try omega|refine zy ?_|fail)<;>conv=>whnf
  all_goals try omega
  all_goals
   refine ⟨[some 1],(k+1,out++[(dat a k+dat b k+c) % 1048576],(dat a k+dat b k+c) / 1048576),⟨rfl,rfl,⟨a8 rfl rfl rfl ?_ rfl,trivial⟩,⟨rfl,rfl,l9 rfl (by simp [toC]),rfl,b9 (by omega),trivial⟩⟩,hst,?_⟩
   ·have e:∀y:Int,y=(dat a k+dat b k+c) % 1048576->(toC (out.map f8)).take out.length++toC [[ti y]]=toC ((out++[(dat a k+dat b k+c) % 1048576]).map f8):=fun y hy=>by rw [hy];exact a1D
    exact e _ (by omega)
   ·show max a.length b.length+1 - (k+1)<max a.length b.length+1 - k
    omega
 ·have hf:=hI.fin (by omega) (by omega) (by omega)
  have t:=a5G out (by omega)
  rw [hf] at t
  conv=>whnf
  repeat' (first|refine zz ?_|refine qp 0 ?_|refine .inr ⟨_,_,x7 [0] t ⟨a0T (v4 (by simp) rfl (by intro h;cases h) rfl rfl (by simp)),trivial⟩ rfl,?_⟩|refine zd ?_ ?_<;>intro h<;>try omega|refine zy ?_|fail)<;>conv=>whnf
  all_goals first
   |omega
   |exact aa7 rfl
theorem b6w (m n:Nat) (lm:(dg m).length<=300000) (ln:(dg n).length<=300000):a9 Tryz.prog 185 [e7 (dg m),e7 (dg n)] [] (e7 (dg (m+n))) []:=by
 have h:=b8R (dg m) (dg n) (t9 m) (t9 n) (by omega) (by omega)
 rw [n7,n7,show ((m:Int)+n).toNat=m+n by omega] at h
 exact h
theorem a6G (m n:Nat) (lm:(dg m).length<=300000) (h:n<=m):a9 Tryz.prog 187 [e7 (dg m),e7 (dg n)] [] (e7 (dg (m - n))) []:=by
 have h:=b0y (dg m) (dg n) (t9 m) (t9 n) (by omega) (p4 h) (by rw [n7,n7];omega)
 rw [n7,n7,show ((m:Int) - n).toNat=m - n by omega] at h
 exact h
theorem b0o (m n:Nat) (lm:(dg m).length<=300000) (ln:(dg n).length<=300000):a9 Tryz.prog 186 [e7 (dg m),e7 (dg n)] [] (f9 (decide (m<n))) []:=by
 have h:=b4e (dg m) (dg n) (t9 m) (t9 n) (by omega) (by omega)
 rw [n7,n7,show decide ((m:Int)<n)=decide (m<n) by simp] at h
 exact h
theorem b6W (s:Int) (m:Nat) (h:Sg s m) (lm:(dg m).length<=300000):a9 Tryz.prog 180 [bgS ⟨s,dg m⟩] [] (f9 true) []:=by
 have:=a3e ⟨s,dg m⟩ (show (dg m).length<=1000000 by omega)
 rw [← a6H h,a04,a6H h] at this
 exact this
theorem b9s (x:Int) (lx:bl x<=300000):a9 Tryz.prog 188 [bgS (bz x)] [] (bgS (bz (-x))) []:=by
 have r:=a0B x lx
 have hs:=E9 x
 have hsg:(bz x).sg=x.sign:=rfl
 have sg:=J8 (0 - (bz x).sg) x.natAbs (by omega) (by unfold bl at lx;omega)
 rw [show (0 - (bz x).sg)*(x.natAbs:Int)=-x by rw [hsg];have:=sgm x;grind] at sg
 (refine ac Tryz.func188 ?_;(conv=>whnf);repeat ((first|refine b0x ?_|refine zy ?_);conv=>whnf))
 repeat' (first|refine zz ?_|refine qp r ?_|refine qp sg ?_|refine zd ?_ ?_<;>intro h<;>try omega|refine zy ?_|fail)<;>conv=>whnf
 all_goals first
  |(exfalso;simp_all;done)
  |exact k8 ⟨rfl,rfl,trivial⟩
theorem a3j {α:Type} {l:List α} {k:Nat} {x:α} (h:l[k]? =some x):l.take (k+1)=l.take k++[x]:=by
 rw [List.take_add_one,h];rfl
theorem b7T (a b:Bg) (ha:a.dl.length<=1000000) (hb:b.dl.length<=1000000):a9 Tryz.prog 245 [bgS a,bgS b] [] (f9 (decide (a.sg=b.sg∧a.dl=b.dl))) []:=by
 have l1:(a.dl.map f8).length=a.dl.length:=by simp
 have l2:(b.dl.map f8).length=b.dl.length:=by simp
 by_cases h0:¬(a.sg=b.sg∧a.dl.length=b.dl.length)
 ·(refine ac Tryz.func245 ?_;(conv=>whnf);repeat ((first|refine b0x ?_|refine zy ?_);conv=>whnf))
  repeat' (first|refine zz ?_|refine zd ?_ ?_<;>intro h<;>try omega|refine zy ?_|fail)<;>conv=>whnf
  all_goals first
   |omega
   |(refine b7 (decide_eq_false ?_).symm;rintro ⟨h1,h2⟩;rw [h2] at h0;exact h0 ⟨h1,rfl⟩)
 have h0:a.sg=b.sg∧a.dl.length=b.dl.length:=Decidable.not_not.1 h0
 (refine ac Tryz.func245 ?_;(conv=>whnf);repeat ((first|refine b0x ?_|refine zy ?_);conv=>whnf))
 repeat' (first|refine zz ?_|refine zd ?_ ?_<;>intro h<;>try omega|refine zy ?_|fail)<;>conv=>whnf
 all_goals try omega
 refine f5 d7 (fun k=>([J,J,S.c (C.t (T.ptr [ti a.sg,L5 a.dl])),S.c (C.t (T.ptr [ti b.sg,L5 b.dl])),J,a7 .i64 k,J,J,J,J,J,J,J,J,J,J,J,J,J,J,J,J,J,J,J,J,J,J,J,J,J,J,J,J,J,J,J,J],[])) a.dl.length (fun k=>a.dl.take k=b.dl.take k) [] rfl
  ⟨rfl,rfl,trivial,⟨rfl,rfl,rfl,trivial⟩⟩ ?_
 intro k hk hI
 by_cases hlt:k<a.dl.length
 ·obtain ⟨x,hx⟩:∃x,a.dl[k]? =some x:=⟨_,lg0 hlt⟩
  obtain ⟨y,hy⟩:∃y,b.dl[k]? =some y:=⟨_,lg0 (by omega)⟩
  conv=>whnf
  repeat' (first|refine zz ?_|refine d8 hx ?_|refine d8 hy ?_|refine zd ?_ ?_<;>intro h<;>try omega|refine zy ?_|fail)<;>conv=>whnf
  ·have hne:x≠y:=‹x≠y›
   refine b7 (decide_eq_false ?_).symm
   rintro ⟨_,hq⟩;rw [hq,hy] at hx;injection hx with hx;exact hne hx.symm
  ·have hxy:x=y:=by omega
   refine ⟨hlt,?_,[],rfl,rfl,trivial,⟨rfl,rfl,rfl,trivial⟩⟩
   rw [a3j hx,a3j hy,hI,hxy]
  all_goals omega
 ·rw [lg4 (by omega),lg4 (by omega)] at hI
  conv=>whnf
  repeat' (first|refine zz ?_|refine zd ?_ ?_<;>intro h<;>try omega|refine zy ?_|fail)<;>conv=>whnf
  all_goals first
   |omega
   |exact b7 (decide_eq_true ⟨h0.1,hI⟩).symm
theorem b9W:X0 .or .i64 0 0 0:=by show (0:Int)=_;decide +kernel
theorem b9U:X0 .or .i64 0 1 1:=by show (1:Int)=_;decide +kernel
theorem b9A:X0 .or .i64 1 0 1:=by show (1:Int)=_;decide +kernel
theorem b9q:X0 .or .i64 1 1 1:=by show (1:Int)=_;decide +kernel
theorem b9i:X0 .or .i64 0 (-1) (-1):=by show (-1:Int)=_;decide +kernel
theorem b9z:X0 .or .i64 (-1) 0 (-1):=by show (-1:Int)=_;decide +kernel
theorem b9t:X0 .or .i64 (-1) (-1) (-1):=by show (-1:Int)=_;decide +kernel
set_option maxHeartbeats 4000000 in
theorem b7A (s t:Int) (m n:Nat) (hs:Sg s m) (ht:Sg t n) (lm:(dg m).length<=200000) (ln:(dg n).length<=200000):
 a9 Tryz.prog 113 [bgS ⟨s,dg m⟩,bgS ⟨t,dg n⟩] [] (.tup [bgS (bz (s*m+t*n)),a7 .i64 0]) []:=by
 have r1:=b6W s m hs (by omega)
 have r2:=b6W t n ht (by omega)
 have ad:=b6w m n (by omega) (by omega)
 have c:=b0o m n (by omega) (by omega)
 have ls:=a3D m n
 have fin:∀(z:Int) (H1:Hp),z=s*m+t*n->Fin 0 (.tup [bgS (bz z),a7 .i64 0]) H1 (.tup [bgS (bz (s*m+t*n)),a7 .i64 0]) []:=fun z H1 h=>a62 (by rw [h])
 rcases hs with ⟨rfl,rfl⟩|⟨rfl,h1⟩|⟨rfl,h1⟩<;>rcases ht with ⟨rfl,rfl⟩|⟨rfl,h2⟩|⟨rfl,h2⟩
 case inl.inl=>
  have sg:=J8 (0) _ (by omega) (G7 ls (by omega))
  (refine ac Tryz.func113 ?_;(conv=>whnf);repeat ((first|refine b0x ?_|refine zy ?_);conv=>whnf))
  repeat' (first|refine zz ?_|refine qp r1 ?_|refine qp r2 ?_|refine qp ad ?_|refine qp sg ?_|refine ⟨_,b9W,?_⟩|refine zd ?_ ?_<;>intro h<;>try omega|refine zy ?_|fail)<;>conv=>whnf
  all_goals first|omega|(exfalso;simp_all;done)|exact fin _ _ (by omega)
 case inl.inr.inl=>
  have sg:=J8 (1) _ (by omega) (G7 ls (by omega))
  (refine ac Tryz.func113 ?_;(conv=>whnf);repeat ((first|refine b0x ?_|refine zy ?_);conv=>whnf))
  repeat' (first|refine zz ?_|refine qp r1 ?_|refine qp r2 ?_|refine qp ad ?_|refine qp sg ?_|refine ⟨_,b9U,?_⟩|refine zd ?_ ?_<;>intro h<;>try omega|refine zy ?_|fail)<;>conv=>whnf
  all_goals first|omega|(exfalso;simp_all;done)|exact fin _ _ (by omega)
 case inl.inr.inr=>
  have sg:=J8 (-1) _ (by omega) (G7 ls (by omega))
  (refine ac Tryz.func113 ?_;(conv=>whnf);repeat ((first|refine b0x ?_|refine zy ?_);conv=>whnf))
  repeat' (first|refine zz ?_|refine qp r1 ?_|refine qp r2 ?_|refine qp ad ?_|refine qp sg ?_|refine ⟨_,b9i,?_⟩|refine zd ?_ ?_<;>intro h<;>try omega|refine zy ?_|fail)<;>conv=>whnf
  all_goals first|omega|(exfalso;simp_all;done)|exact fin _ _ (by omega)
 case inr.inl.inl=>
  have sg:=J8 (1) _ (by omega) (G7 ls (by omega))
  (refine ac Tryz.func113 ?_;(conv=>whnf);repeat ((first|refine b0x ?_|refine zy ?_);conv=>whnf))
  repeat' (first|refine zz ?_|refine qp r1 ?_|refine qp r2 ?_|refine qp ad ?_|refine qp sg ?_|refine ⟨_,b9A,?_⟩|refine zd ?_ ?_<;>intro h<;>try omega|refine zy ?_|fail)<;>conv=>whnf
  all_goals first|omega|(exfalso;simp_all;done)|exact fin _ _ (by omega)
 case inr.inr.inl=>
  have sg:=J8 (-1) _ (by omega) (G7 ls (by omega))
  (refine ac Tryz.func113 ?_;(conv=>whnf);repeat ((first|refine b0x ?_|refine zy ?_);conv=>whnf))
  repeat' (first|refine zz ?_|refine qp r1 ?_|refine qp r2 ?_|refine qp ad ?_|refine qp sg ?_|refine ⟨_,b9z,?_⟩|refine zd ?_ ?_<;>intro h<;>try omega|refine zy ?_|fail)<;>conv=>whnf
  all_goals first|omega|(exfalso;simp_all;done)|exact fin _ _ (by omega)
 case inr.inl.inr.inl=>
  have sg:=J8 (1) _ (by omega) (G7 ls (by omega))
  (refine ac Tryz.func113 ?_;(conv=>whnf);repeat ((first|refine b0x ?_|refine zy ?_);conv=>whnf))
  repeat' (first|refine zz ?_|refine qp r1 ?_|refine qp r2 ?_|refine qp ad ?_|refine qp sg ?_|refine ⟨_,b9q,?_⟩|refine zd ?_ ?_<;>intro h<;>try omega|refine zy ?_|fail)<;>conv=>whnf
  all_goals first|omega|(exfalso;simp_all;done)|exact fin _ _ (by omega)
 case inr.inr.inr.inr=>
  have sg:=J8 (-1) _ (by omega) (G7 ls (by omega))
  (refine ac Tryz.func113 ?_;(conv=>whnf);repeat ((first|refine b0x ?_|refine zy ?_);conv=>whnf))
  repeat' (first|refine zz ?_|refine qp r1 ?_|refine qp r2 ?_|refine qp ad ?_|refine qp sg ?_|refine ⟨_,b9t,?_⟩|refine zd ?_ ?_<;>intro h<;>try omega|refine zy ?_|fail)<;>conv=>whnf
  all_goals first|omega|(exfalso;simp_all;done)|exact fin _ _ (by omega)
 case inr.inl.inr.inr=>
  rcases Nat.lt_or_ge m n with hmn|hmn
  ·rw [decide_eq_true hmn] at c
   have l3:=p4 (Nat.sub_le n m)
   (refine ac Tryz.func113 ?_;(conv=>whnf);repeat ((first|refine b0x ?_|refine zy ?_);conv=>whnf))
   repeat' (first|refine zz ?_|refine qp r1 ?_|refine qp r2 ?_|refine qp c ?_|refine qp (a6G n m (by omega) (by omega)) ?_|refine qp (J8 (-1) (n - m) (by omega) (by omega)) ?_|refine zd ?_ ?_<;>intro h<;>try omega|refine zy ?_|fail)<;>conv=>whnf
   all_goals first|omega|(exfalso;simp_all;done)|exact fin _ _ (by omega)
  ·rw [decide_eq_false (Nat.not_lt.2 hmn)] at c
   have l3:=p4 (Nat.sub_le m n)
   (refine ac Tryz.func113 ?_;(conv=>whnf);repeat ((first|refine b0x ?_|refine zy ?_);conv=>whnf))
   repeat' (first|refine zz ?_|refine qp r1 ?_|refine qp r2 ?_|refine qp c ?_|refine qp (a6G m n (by omega) (by omega)) ?_|refine qp (J8 (1) (m - n) (by omega) (by omega)) ?_|refine zd ?_ ?_<;>intro h<;>try omega|refine zy ?_|fail)<;>conv=>whnf
   all_goals first|omega|(exfalso;simp_all;done)|exact fin _ _ (by omega)
 case inr.inr.inr.inl=>
  rcases Nat.lt_or_ge m n with hmn|hmn
  ·rw [decide_eq_true hmn] at c
   have l3:=p4 (Nat.sub_le n m)
   (refine ac Tryz.func113 ?_;(conv=>whnf);repeat ((first|refine b0x ?_|refine zy ?_);conv=>whnf))
   repeat' (first|refine zz ?_|refine qp r1 ?_|refine qp r2 ?_|refine qp c ?_|refine qp (a6G n m (by omega) (by omega)) ?_|refine qp (J8 (1) (n - m) (by omega) (by omega)) ?_|refine zd ?_ ?_<;>intro h<;>try omega|refine zy ?_|fail)<;>conv=>whnf
   all_goals first|omega|(exfalso;simp_all;done)|exact fin _ _ (by omega)
  ·rw [decide_eq_false (Nat.not_lt.2 hmn)] at c
   have l3:=p4 (Nat.sub_le m n)
   (refine ac Tryz.func113 ?_;(conv=>whnf);repeat ((first|refine b0x ?_|refine zy ?_);conv=>whnf))
   repeat' (first|refine zz ?_|refine qp r1 ?_|refine qp r2 ?_|refine qp c ?_|refine qp (a6G m n (by omega) (by omega)) ?_|refine qp (J8 (-1) (m - n) (by omega) (by omega)) ?_|refine zd ?_ ?_<;>intro h<;>try omega|refine zy ?_|fail)<;>conv=>whnf
   all_goals first|omega|(exfalso;simp_all;done)|exact fin _ _ (by omega)
theorem b7c (x y:Int) (lx:bl x<=200000) (ly:bl y<=200000):a9 Tryz.prog 113 [bgS (bz x),bgS (bz y)] [] (.tup [bgS (bz (x+y)),a7 .i64 0]) []:=by
 have h:=b7A _ _ _ _ (a5v x) (a5v y) lx ly
 rw [sgm,sgm] at h
 exact h
set_option maxHeartbeats 2000000 in
theorem b8W (x y:Int) (lx:bl x<=200000) (ly:bl y<=200000):a9 Tryz.prog 115 [bgS (bz x),bgS (bz y)] [] (.tup [bgS (bz (x - y)),a7 .i64 0]) []:=by
 have r:=a0B y (by omega)
 have n:=b9s y (by omega)
 have a:=b7c x (-y) lx (by rw [a1N];exact ly)
 rw [← Int.sub_eq_add_neg] at a
 (refine ac Tryz.func115 ?_;(conv=>whnf);repeat ((first|refine b0x ?_|refine zy ?_);conv=>whnf))
 repeat' (first|refine zz ?_|refine qp r ?_|refine qp n ?_|refine qp a ?_|refine qp 6 ?_|refine qp 1 ?_|refine bl0 [6] ?_|refine bl0 [1] ?_|refine zd ?_ ?_<;>intro h<;>try omega|refine zy ?_|fail)<;>conv=>whnf
 all_goals first
  |(exfalso;simp_all;done)
  |exact a62 rfl
theorem b7P (s t:Int) (m n:Nat) (hs:Sg s m) (ht:Sg t n) (lm:(dg m).length<=200000) (ln:(dg n).length<=200000):
 a9 Tryz.prog 112 [bgS ⟨s,dg m⟩,bgS ⟨t,dg n⟩] [] (.tup [bgS (bz ((s*t)*(m*n:Nat))),a7 .i64 0]) []:=by
 have r1:=b6W s m hs (by omega)
 have r2:=b6W t n ht (by omega)
 have mu:=aO2 m n (by omega) (by omega)
 have ls:=a3h m n
 have hst:-1<=s*t∧s*t<=1∧(s*t=1∨s*t=-1∨m*n=0):=by
  rcases hs with ⟨rfl,rfl⟩|⟨rfl,h1⟩|⟨rfl,h1⟩<;>rcases ht with ⟨rfl,rfl⟩|⟨rfl,h2⟩|⟨rfl,h2⟩<;>simp
 obtain ⟨q1,q2,q3⟩:=hst
 have sg:=J8 (s*t) (m*n) q3 (by omega)
 (refine ac Tryz.func112 ?_;(conv=>whnf);repeat ((first|refine b0x ?_|refine zy ?_);conv=>whnf))
 repeat' (first|refine zz ?_|refine qp r1 ?_|refine qp r2 ?_|refine qp mu ?_|refine qp sg ?_|refine ⟨_,D4 (y:=s*t) rfl (by omega) (by omega),?_⟩|refine zd ?_ ?_<;>intro h<;>try omega|refine zy ?_|fail)<;>conv=>whnf
 all_goals first|(exfalso;simp_all;done)|exact a62 rfl
theorem a5D (x y:Int) (lx:bl x<=200000) (ly:bl y<=200000):a9 Tryz.prog 112 [bgS (bz x),bgS (bz y)] [] (.tup [bgS (bz (x*y)),a7 .i64 0]) []:=by
 have h:=b7P _ _ _ _ (a5v x) (a5v y) lx ly
 have e:(x.sign*y.sign)*((x.natAbs*y.natAbs:Nat):Int)=x*y:=by
  rw [Int.natCast_mul]
  have h1:=sgm x
  have h2:=sgm y
  grind
 rw [e] at h
 exact h
theorem b70 {x y:Int} (h:(bz x).sg=(bz y).sg∧(bz x).dl=(bz y).dl):x=y:=by
 have:bz x=bz y:=by
  obtain ⟨h1,h2⟩:=h
  cases hx:bz x with
  |mk a b=>
   cases hy:bz y with
   |mk c d=>rw [hx,hy] at h1 h2;simp only at h1 h2;rw [h1,h2]
 rw [← a3M x,←a3M y,this]
set_option maxHeartbeats 4000000 in
theorem am7 (x y:Int) (lx:bl x<=300000) (ly:bl y<=300000):a9 Tryz.prog 182 [bgS (bz x),bgS (bz y)] [] (a7 .i64 (O4 x y)) []:=by
 have r1:=a0B x lx
 have r2:=a0B y ly
 have hsx:(bz x).sg=x.sign:=rfl
 have hsy:(bz y).sg=y.sign:=rfl
 have sx:=E9 x
 have sy:=E9 y
 have sm:=b7T (bz x) (bz y) (show bl x<=1000000 by omega) (show bl y<=1000000 by omega)
 by_cases he:x=y
 ·subst he
  have sm:a9 Tryz.prog 245 [bgS (bz x),bgS (bz x)] [] (f9 true) []:=by rw [show decide ((bz x).sg=(bz x).sg∧(bz x).dl=(bz x).dl)=true from decide_eq_true ⟨rfl,rfl⟩] at sm;exact sm
  have e0:O4 x x=0:=by unfold O4;rw [if_neg (by omega),if_neg (by omega)]
  rw [e0]
  (refine ac Tryz.func182 ?_;(conv=>whnf);repeat ((first|refine b0x ?_|refine zy ?_);conv=>whnf))
  repeat' (first|refine zz ?_|refine qp r1 ?_|refine qp r2 ?_|refine qp sm ?_|refine zd ?_ ?_<;>intro h<;>try omega|refine zy ?_|fail)<;>conv=>whnf
  all_goals first
   |(exfalso;simp_all;done)
   |exact j8 rfl
 rw [decide_eq_false (fun h=>he (b70 h))] at sm
 have ls:=b0o x.natAbs y.natAbs lx ly
 rcases Int.lt_or_gt_of_ne he with hlt|hgt
 ·have e1:O4 x y=-1:=by unfold O4;rw [if_pos hlt]
  rw [e1]
  by_cases hl:x.natAbs<y.natAbs
  ·rw [decide_eq_true hl] at ls
   (refine ac Tryz.func182 ?_;(conv=>whnf);repeat ((first|refine b0x ?_|refine zy ?_);conv=>whnf))
   repeat' (first|refine zz ?_|refine qp r1 ?_|refine qp r2 ?_|refine qp sm ?_|refine qp ls ?_|refine zd ?_ ?_<;>intro h<;>try omega|refine zy ?_|fail)<;>conv=>whnf
   all_goals first
    |omega
    |(exfalso;simp_all;done)
    |exact j8 rfl
  ·rw [decide_eq_false hl] at ls
   (refine ac Tryz.func182 ?_;(conv=>whnf);repeat ((first|refine b0x ?_|refine zy ?_);conv=>whnf))
   repeat' (first|refine zz ?_|refine qp r1 ?_|refine qp r2 ?_|refine qp sm ?_|refine qp ls ?_|refine zd ?_ ?_<;>intro h<;>try omega|refine zy ?_|fail)<;>conv=>whnf
   all_goals first
    |omega
    |(exfalso;simp_all;done)
    |exact j8 rfl
 ·have e1:O4 x y=1:=by unfold O4;rw [if_neg (by omega),if_pos (by omega)]
  rw [e1]
  by_cases hl:x.natAbs<y.natAbs
  ·rw [decide_eq_true hl] at ls
   (refine ac Tryz.func182 ?_;(conv=>whnf);repeat ((first|refine b0x ?_|refine zy ?_);conv=>whnf))
   repeat' (first|refine zz ?_|refine qp r1 ?_|refine qp r2 ?_|refine qp sm ?_|refine qp ls ?_|refine zd ?_ ?_<;>intro h<;>try omega|refine zy ?_|fail)<;>conv=>whnf
   all_goals first
    |omega
    |(exfalso;simp_all;done)
    |exact j8 rfl
  ·rw [decide_eq_false hl] at ls
   (refine ac Tryz.func182 ?_;(conv=>whnf);repeat ((first|refine b0x ?_|refine zy ?_);conv=>whnf))
   repeat' (first|refine zz ?_|refine qp r1 ?_|refine qp r2 ?_|refine qp sm ?_|refine qp ls ?_|refine zd ?_ ?_<;>intro h<;>try omega|refine zy ?_|fail)<;>conv=>whnf
   all_goals first
    |omega
    |(exfalso;simp_all;done)
    |exact j8 rfl
theorem b1E {x y:Int}:O4 x y=0↔x=y:=by unfold O4;split<;>(try split)<;>omega
theorem b0C (f:Fr) (lp:f.p.dl.length<=200000) (lq:f.q.dl.length<=200000):a9 Tryz.prog 111 [frS f] [] (f9 (D7 f)) []:=by
 obtain ⟨p,q⟩:=f
 simp only at lp lq
 have r1:=a3e p (by omega)
 have r2:=a3e q (by omega)
 cases hp:J2 p with
 |false=>
  rw [hp] at r1
  (refine ac Tryz.func111 ?_;(conv=>whnf);repeat ((first|refine b0x ?_|refine zy ?_);conv=>whnf))
  repeat' (first|refine zz ?_|refine qp r1 ?_|refine qp r2 ?_|refine zd ?_ ?_<;>intro h<;>try omega|refine zy ?_|fail)<;>conv=>whnf
  all_goals (first|(exfalso;simp_all;done)|(refine b7 ?_;unfold D7;simp [hp]))
 |true=>
  rw [hp] at r1
  cases hq:J2 q with
  |false=>
   rw [hq] at r2
   (refine ac Tryz.func111 ?_;(conv=>whnf);repeat ((first|refine b0x ?_|refine zy ?_);conv=>whnf))
   repeat' (first|refine zz ?_|refine qp r1 ?_|refine qp r2 ?_|refine zd ?_ ?_<;>intro h<;>try omega|refine zy ?_|fail)<;>conv=>whnf
   all_goals (first|(exfalso;simp_all;done)|(refine b7 ?_;unfold D7;simp [hq]))
  |true=>
   rw [hq] at r2
   obtain ⟨x,rfl⟩:=a9A hp
   obtain ⟨y,rfl⟩:=a9A hq
   have hsg:(bz y).sg=y.sign:=rfl
   have hsg2:(Fr.mk (bz x) (bz y)).q.sg=y.sign:=rfl
   have sy:=E9 y
   have lg:=a9I x y lp lq
   have g:=b78 x y lp lq
   have o:=b8G 1 (by decide) (by decide)
   have c:=am7 (Int.gcd x y) 1 (by omega) (by have:=t4 (x:=1) (by decide) (by decide);omega)
   have hc:=b1E (x:=Int.gcd x y) (y:=1)
   (refine ac Tryz.func111 ?_;(conv=>whnf);repeat ((first|refine b0x ?_|refine zy ?_);conv=>whnf))
   repeat' (first|refine zz ?_|refine qp r1 ?_|refine qp r2 ?_|refine qp g ?_|refine qp o ?_|refine qp c ?_|refine qp 5 ?_|refine bl0 [5] ?_|refine zd ?_ ?_<;>intro h<;>try omega|refine zy ?_|fail)<;>conv=>whnf
   all_goals first
    |(exfalso;simp_all;done)
    |(refine b7 ?_;unfold D7;simp only [a04,a3M,Bool.true_and];simp;omega)
theorem a8R (x:Rat) (lx:rl x<=200000):a9 Tryz.prog 111 [frS (fz x)] [] (f9 true) []:=by
 have h:=b0C (fz x) (Nat.le_trans (G4 x) lx) (Nat.le_trans (H5 x) lx)
 rw [a9w] at h
 exact h
theorem a9H (x y:Rat):0<(x.den:Int)*y.den:=Int.mul_pos (by have:=x.den_pos;omega) (by have:=y.den_pos;omega)
theorem aZ5 (x y:Rat) (lx:rl x<=60000) (ly:rl y<=60000):a9 Tryz.prog 47 [frS (fz x),frS (fz y)] [] (.tup [frS (fz (x+y)),a7 .i64 0]) []:=by
 have r1:=a8R x (by omega)
 have r2:=a8R y (by omega)
 have x1:=G4 x
 have x2:=H5 x
 have y1:=G4 y
 have y2:=H5 y
 have l1:=G5 x.num y.den
 have l2:=G5 y.num x.den
 have l3:=G5 x.den y.den
 have l4:=a7r (x.num*y.den) (y.num*x.den)
 have t1:=a5D x.num y.den (by omega) (by omega)
 have t2:=a5D y.num x.den (by omega) (by omega)
 have t3:=a5D x.den y.den (by omega) (by omega)
 have a:=b7c (x.num*y.den) (y.num*x.den) (by omega) (by omega)
 have n:=b0n (x.num*y.den+y.num*x.den) (x.den*y.den) (a9H x y) (by omega) (by omega)
 rw [← a9d] at n
 (refine ac Tryz.func47 ?_;(conv=>whnf);repeat ((first|refine b0x ?_|refine zy ?_);conv=>whnf))
 repeat' (first|refine zz ?_|refine qp r1 ?_|refine qp r2 ?_|refine qp t1 ?_|refine qp t2 ?_|refine qp t3 ?_|refine qp a ?_|refine qp n ?_|refine qp 7 ?_|refine qp 5 ?_|refine bl0 [7] ?_|refine bl0 [5] ?_|refine zd ?_ ?_<;>intro h<;>try omega|refine zy ?_|fail)<;>conv=>whnf
 all_goals first
  |(exfalso;simp_all;done)
  |exact W9 rfl
theorem b9H (x y:Rat) (lx:rl x<=60000) (ly:rl y<=60000):a9 Tryz.prog 48 [frS (fz x),frS (fz y)] [] (.tup [frS (fz (x - y)),a7 .i64 0]) []:=by
 have r1:=a8R x (by omega)
 have r2:=a8R y (by omega)
 have x1:=G4 x
 have x2:=H5 x
 have y1:=G4 y
 have y2:=H5 y
 have l1:=G5 x.num y.den
 have l2:=G5 y.num x.den
 have l3:=G5 x.den y.den
 have l4:=a7r (x.num*y.den) (-(y.num*x.den))
 rw [a1N,←Int.sub_eq_add_neg] at l4
 have t1:=a5D x.num y.den (by omega) (by omega)
 have t2:=a5D y.num x.den (by omega) (by omega)
 have t3:=a5D x.den y.den (by omega) (by omega)
 have a:=b8W (x.num*y.den) (y.num*x.den) (by omega) (by omega)
 have n:=b0n (x.num*y.den - y.num*x.den) (x.den*y.den) (a9H x y) (by omega) (by omega)
 have e:Rat.divInt (x.num*y.den - y.num*x.den) (x.den*y.den)=x - y:=by
  have:=a9d x (-y)
  rw [Rat.neg_num,Rat.neg_den,Int.neg_mul,←Int.sub_eq_add_neg,←Rat.sub_eq_add_neg] at this
  exact this.symm
 rw [e] at n
 (refine ac Tryz.func48 ?_;(conv=>whnf);repeat ((first|refine b0x ?_|refine zy ?_);conv=>whnf))
 repeat' (first|refine zz ?_|refine qp r1 ?_|refine qp r2 ?_|refine qp t1 ?_|refine qp t2 ?_|refine qp t3 ?_|refine qp a ?_|refine qp n ?_|refine qp 7 ?_|refine qp 5 ?_|refine bl0 [7] ?_|refine bl0 [5] ?_|refine zd ?_ ?_<;>intro h<;>try omega|refine zy ?_|fail)<;>conv=>whnf
 all_goals first
  |(exfalso;simp_all;done)
  |exact W9 rfl
theorem b7h (x y:Rat) (lx:rl x<=60000) (ly:rl y<=60000):a9 Tryz.prog 237 [frS (fz x),frS (fz y)] [] (.tup [frS (fz (x*y)),a7 .i64 0]) []:=by
 have r1:=a8R x (by omega)
 have r2:=a8R y (by omega)
 have x1:=G4 x
 have x2:=H5 x
 have y1:=G4 y
 have y2:=H5 y
 have l1:=G5 x.num y.num
 have l3:=G5 x.den y.den
 have t1:=a5D x.num y.num (by omega) (by omega)
 have t3:=a5D x.den y.den (by omega) (by omega)
 have n:=b0n (x.num*y.num) (x.den*y.den) (a9H x y) (by omega) (by omega)
 rw [← av0] at n
 (refine ac Tryz.func237 ?_;(conv=>whnf);repeat ((first|refine b0x ?_|refine zy ?_);conv=>whnf))
 repeat' (first|refine zz ?_|refine qp r1 ?_|refine qp r2 ?_|refine qp t1 ?_|refine qp t3 ?_|refine qp n ?_|refine qp 7 ?_|refine qp 5 ?_|refine bl0 [7] ?_|refine bl0 [5] ?_|refine zd ?_ ?_<;>intro h<;>try omega|refine zy ?_|fail)<;>conv=>whnf
 all_goals first
  |(exfalso;simp_all;done)
  |exact W9 rfl
theorem al5 (x y:Rat) (lx:rl x<=60000) (ly:rl y<=60000):a9 Tryz.prog 169 [frS (fz x),frS (fz y)] [] (a7 .i64 (a2K x y)) []:=by
 have r1:=a8R x (by omega)
 have r2:=a8R y (by omega)
 have x1:=G4 x
 have x2:=H5 x
 have y1:=G4 y
 have y2:=H5 y
 have l1:=G5 x.num y.den
 have l2:=G5 y.num x.den
 have t1:=a5D x.num y.den (by omega) (by omega)
 have t2:=a5D y.num x.den (by omega) (by omega)
 have c:=am7 (x.num*y.den) (y.num*x.den) (by omega) (by omega)
 rw [aJ1] at c
 (refine ac Tryz.func169 ?_;(conv=>whnf);repeat ((first|refine b0x ?_|refine zy ?_);conv=>whnf))
 repeat' (first|refine zz ?_|refine qp r1 ?_|refine qp r2 ?_|refine qp t1 ?_|refine qp t2 ?_|refine qp c ?_|refine qp 7 ?_|refine qp 5 ?_|refine bl0 [7] ?_|refine bl0 [5] ?_|refine zd ?_ ?_<;>intro h<;>try omega|refine zy ?_|fail)<;>conv=>whnf
 all_goals first
  |(exfalso;simp_all;done)
  |exact j8 rfl
theorem a65 (x:Rat) (lx:rl x<=60000):a9 Tryz.prog 46 [frS (fz x)] [] (a7 .i64 (sgR x)) []:=by
 have r1:=a8R x (by omega)
 (refine ac Tryz.func46 ?_;(conv=>whnf);repeat ((first|refine b0x ?_|refine zy ?_);conv=>whnf))
 repeat' (first|refine zz ?_|refine qp r1 ?_|refine zd ?_ ?_<;>intro h<;>try omega|refine zy ?_|fail)<;>conv=>whnf
 all_goals first
  |(exfalso;simp_all;done)
  |exact j8 (a6l x)
theorem b4m {α:Type} {f:α->List T} {l:List α} {k:Nat} {u:α} (hu:l[k]? =some u) {Φ:List T->Prop} (h:Φ (f u)):
 ∃row,(0<=bif true then if 0 > ((k+1:Nat):Int) - 1 then 0 else ((k+1:Nat):Int) - 1 else if 0<((k+1:Nat):Int) - 1 then 0 else ((k+1:Nat):Int) - 1)∧
  (l.map f)[(bif true then if 0 > ((k+1:Nat):Int) - 1 then 0 else ((k+1:Nat):Int) - 1 else if 0<((k+1:Nat):Int) - 1 then 0 else ((k+1:Nat):Int) - 1).toNat]? =some row∧Φ row:=by
 have e:(bif true then if 0 > ((k+1:Nat):Int) - 1 then 0 else ((k+1:Nat):Int) - 1 else if 0<((k+1:Nat):Int) - 1 then 0 else ((k+1:Nat):Int) - 1)=(k:Int):=by
  show (if 0 > ((k+1:Nat):Int) - 1 then 0 else ((k+1:Nat):Int) - 1)=_
  rw [if_neg (by omega)];omega
 rw [e]
 exact ⟨f u,by omega,by rw [Int.toNat_natCast,List.getElem?_map,hu];rfl,h⟩
theorem a3x (l:List (Int × Rat)) (n:Int) (hl:l.length<=1000000) (hB:∀t ∈ l,rl t.2<=200):a9 Tryz.prog 167 [s6 l,a7 .i64 n] [] (f9 (decide (0<=n) && g9 (-1) n l)) []:=by
 have m1:(l.map j9).length=l.length:=by simp
 by_cases h0:n<0
 ·rw [decide_eq_false (by omega),Bool.false_and]
  (refine ac Tryz.func167 ?_;(conv=>whnf);repeat ((first|refine b0x ?_|refine zy ?_);conv=>whnf))
  repeat' (first|refine zz ?_|refine zd ?_ ?_<;>intro h<;>try omega|refine zy ?_|fail)<;>conv=>whnf
  all_goals first
   |omega
   |exact b7 rfl
 rw [decide_eq_true (by omega),Bool.true_and]
 (refine ac Tryz.func167 ?_;(conv=>whnf);repeat ((first|refine b0x ?_|refine zy ?_);conv=>whnf))
 repeat' (first|refine zz ?_|refine zd ?_ ?_<;>intro h<;>try omega|refine zy ?_|fail)<;>conv=>whnf
 all_goals try omega
 refine f5 d7 (fun k=>([s6 l,a7 .i64 n,J,J,J,a7 .i64 k,J,J,J,J,J,J,J,J,J,J,J,J,J,J,J,J,J,J,J,J,J,J,J,J,J,J,J,J,J,J,J,J,J,J,J,J,J,J,J,J,J,J,J,J,J,J,J,J,J,J,J,J,J,J,J,J,J,J,J],[])) l.length (fun k=>g9 (-1) n l=g9 (a2t l k) n (l.drop k)∧-1<=a2t l k) [] ⟨rfl,Int.le_refl _⟩
  ⟨rfl,rfl,trivial,⟨rfl,rfl,rfl,trivial⟩⟩ ?_
 rintro k hk ⟨hI,hJ⟩
 by_cases hlt:k<l.length
 ·obtain ⟨t,ht⟩:∃t,l[k]? =some t:=⟨_,lg0 hlt⟩
  obtain ⟨v,c⟩:=t
  have bc:=hB _ (lg2 ht)
  simp only at bc
  have rr:=a8R c (by omega)
  have sz:(fz c).p.sg=0↔c=0:=by
   show c.num.sign=0↔c=0
   rw [Int.sign_eq_zero_iff_zero]
   exact Rat.num_eq_zero
  rw [a0R ht,g9] at hI
  simp only at hI
  by_cases hok:a2t l k<v∧v<n∧c≠0
  ·rw [decide_eq_true hok.1,decide_eq_true hok.2.1,decide_eq_true hok.2.2] at hI
   simp only [Bool.true_and] at hI
   have hne:(fz (v,c).2).p.sg≠0:=fun h=>hok.2.2 (sz.1 h)
   obtain ⟨q1,q2,_⟩:=hok
   cases k with
   |zero=>
    conv=>whnf
    repeat' (first|refine zz ?_|refine qp rr ?_|refine d8 ht ?_|refine zd ?_ ?_<;>intro h<;>try omega|refine zy ?_|fail)<;>conv=>whnf
    all_goals first
     |omega
     |exact ⟨hlt,⟨by rw [S1 ht];exact hI,by rw [S1 ht];simp only;omega⟩,[],rfl,rfl,trivial,⟨rfl,rfl,rfl,trivial⟩⟩
   |succ k=>
    obtain ⟨u,hu⟩:∃u,l[k]? =some u:=⟨_,lg0 (by omega)⟩
    rw [S1 hu] at q1 hJ
    conv=>whnf
    repeat' (first|refine zz ?_|refine qp rr ?_|refine d8 ht ?_|refine b4m hu ?_|refine zd ?_ ?_<;>intro h<;>try omega|refine zy ?_|fail)<;>conv=>whnf
    all_goals first
     |omega
     |exact ⟨hlt,⟨by rw [S1 ht];exact hI,by rw [S1 ht];simp only;omega⟩,[],rfl,rfl,trivial,⟨rfl,rfl,rfl,trivial⟩⟩
  ·have hF:g9 (-1) n l=false:=by
    rw [hI]
    rw [← Bool.not_eq_true]
    simp only [Bool.and_eq_true,decide_eq_true_eq]
    exact fun h=>hok ⟨h.1.1.1,h.1.1.2,h.1.2⟩
   rw [hF]
   have hor:v<=a2t l k∨n<=v∨(fz (v,c).2).p.sg=0:=by
    by_cases q1:a2t l k<v
    ·by_cases q2:v<n
     ·refine .inr (.inr (sz.2 ?_))
      by_cases q3:c=0
      ·exact q3
      ·exact absurd ⟨q1,q2,q3⟩ hok
     ·exact .inr (.inl (by omega))
    ·exact .inl (by omega)
   clear hI hok
   cases k with
   |zero=>
    have e0:a2t l 0=-1:=rfl
    conv=>whnf
    repeat' (first|refine zz ?_|refine qp rr ?_|refine d8 ht ?_|refine zd ?_ ?_<;>intro h<;>try omega|refine zy ?_|fail)<;>conv=>whnf
    all_goals first
     |omega
     |exact b7 rfl
   |succ k=>
    obtain ⟨u,hu⟩:∃u,l[k]? =some u:=⟨_,lg0 (by omega)⟩
    rw [S1 hu] at hor
    conv=>whnf
    repeat' (first|refine zz ?_|refine qp rr ?_|refine d8 ht ?_|refine b4m hu ?_|refine zd ?_ ?_<;>intro h<;>try omega|refine zy ?_|fail)<;>conv=>whnf
    all_goals first
     |omega
     |exact b7 rfl
 ·rw [List.drop_of_length_le (by omega)] at hI
  have hI:g9 (-1) n l=true:=hI
  rw [hI]
  conv=>whnf
  repeat' (first|refine zz ?_|refine zd ?_ ?_<;>intro h<;>try omega|refine zy ?_|fail)<;>conv=>whnf
  all_goals first
   |omega
   |exact b7 rfl
theorem b9j (w:D9) (n:Int) (hl:w.terms.length<=1000000) (hB:∀t ∈ w.terms,rl t.2<=200) (hv:rl w.value<=200):a9 Tryz.prog 269 [aN9 w,a7 .i64 n] [] (f9 (decide (0<=n) && w7 n w)) []:=by
 have rt:=a3x w.terms n hl hB
 have rv:=a8R w.value (by omega)
 unfold w7
 cases h1:decide (0<=n)<;>cases h2:g9 (-1) n w.terms<;>rw [h1,h2] at rt<;>
 ·(refine ac Tryz.func269 ?_;(conv=>whnf);repeat ((first|refine b0x ?_|refine zy ?_);conv=>whnf))
  repeat' (first|refine zz ?_|refine qp rt ?_|refine qp rv ?_|refine zd ?_ ?_<;>intro h<;>try omega|refine zy ?_|fail)<;>conv=>whnf
  all_goals first
   |(exfalso;simp_all;done)
   |(refine b7 ?_;simp;done)
   |(refine b7 ?_;simp;omega)
theorem at5 (s:g8) (hb:ab1 s):a9 Tryz.prog 218 [a0U s] [] (f9 (j0 s)) []:=by
 have m1:(s.rows.map z6).length=s.rows.length:=by simp
 have l1:=hb.n0
 by_cases h0:¬(0<=s.n∧s.n<=1500∧s.rows.length<=6000)
 ·have e1:j0 s=false:=by
   unfold j0
   rw [← Bool.not_eq_true]
   simp only [Bool.and_eq_true,decide_eq_true_eq]
   exact fun h=>h0 ⟨h.1.1.1,h.1.1.2,h.1.2⟩
  rw [e1]
  (refine ac Tryz.func218 ?_;(conv=>whnf);repeat ((first|refine b0x ?_|refine zy ?_);conv=>whnf))
  repeat' (first|refine zz ?_|refine zd ?_ ?_<;>intro h<;>try omega|refine zy ?_|fail)<;>conv=>whnf
  all_goals first
   |omega
   |exact b7 rfl
 obtain ⟨c1,c2,c3⟩:=Decidable.not_not.1 h0
 have e1:j0 s=s.rows.all (w7 s.n):=by
  unfold j0
  rw [decide_eq_true c1,decide_eq_true c2,decide_eq_true c3];rfl
 rw [e1]
 clear h0
 (refine ac Tryz.func218 ?_;(conv=>whnf);repeat ((first|refine b0x ?_|refine zy ?_);conv=>whnf))
 repeat' (first|refine zz ?_|refine zd ?_ ?_<;>intro h<;>try omega|refine zy ?_|fail)<;>conv=>whnf
 all_goals try omega
 refine f5 d7 (fun k=>([J,S.c (C.t (T.ptr [ti s.n,M3 s.rows])),J,a7 .i64 k,J,J,J,J,J,J,J,J,J,J,J,J,J,J,J,J,J,J,J,J,J,J,J,J,J,J,J,J,J,J],[])) s.rows.length (fun k=>(s.rows.take k).all (w7 s.n)=true) [] rfl
  ⟨rfl,rfl,trivial,⟨rfl,rfl,trivial⟩⟩ ?_
 intro k hk hI
 by_cases hlt:k<s.rows.length
 ·obtain ⟨w,hw⟩:∃w,s.rows[k]? =some w:=⟨_,lg0 hlt⟩
  obtain ⟨b1,b2,b3⟩:=hb.t w (lg2 hw)
  have rt:=b9j w s.n (by omega) b2 b3
  rw [decide_eq_true c1,Bool.true_and] at rt
  cases hrt:w7 s.n w with
  |false=>
   rw [hrt] at rt
   rw [x9 hw hrt]
   conv=>whnf
   repeat' (first|refine zz ?_|refine qp rt ?_|refine d8 hw ?_|refine zd ?_ ?_<;>intro h<;>try omega|refine zy ?_|fail)<;>conv=>whnf
   all_goals first
    |omega
    |(exfalso;simp_all;done)
    |exact b7 rfl
  |true=>
   rw [hrt] at rt
   conv=>whnf
   repeat' (first|refine zz ?_|refine qp rt ?_|refine d8 hw ?_|refine zd ?_ ?_<;>intro h<;>try omega|refine zy ?_|fail)<;>conv=>whnf
   all_goals first
    |omega
    |(exfalso;simp_all;done)
    |exact ⟨hlt,by rw [t6 hw,hI,hrt];rfl,[],rfl,rfl,trivial,⟨rfl,rfl,trivial⟩⟩
 ·rw [lg4 (by omega)] at hI
  rw [hI]
  conv=>whnf
  repeat' (first|refine zz ?_|refine zd ?_ ?_<;>intro h<;>try omega|refine zy ?_|fail)<;>conv=>whnf
  all_goals first
   |omega
   |exact b7 rfl
theorem b5e (z:List Fr) (hl:z.length<=1000000) (hd:∀f ∈ z,f.p.dl.length<=200000∧f.q.dl.length<=200000):a9 Tryz.prog 219 [n6 z] [] (f9 (z.all D7)) []:=by
 have m1:(z.map s7).length=z.length:=by simp
 (refine ac Tryz.func219 ?_;(conv=>whnf);repeat ((first|refine b0x ?_|refine zy ?_);conv=>whnf))
 repeat' (first|refine zz ?_|refine zd ?_ ?_<;>intro h<;>try omega|refine zy ?_|fail)<;>conv=>whnf
 refine f5 d7 (fun k=>([n6 z,J,J,a7 .i64 k,J,J,J,J,J,J,J,J,J,J,J,J],[])) z.length (fun k=>(z.take k).all D7=true) [] rfl
  ⟨rfl,rfl,trivial,⟨rfl,rfl,trivial⟩⟩ ?_
 intro k hk hI
 by_cases hlt:k<z.length
 ·obtain ⟨f,hf⟩:∃f,z[k]? =some f:=⟨_,lg0 hlt⟩
  have q:=hd f (lg2 hf)
  have rr:=b0C f q.1 q.2
  cases hff:D7 f with
  |true=>
   rw [hff] at rr
   conv=>whnf
   repeat' (first|refine zz ?_|refine qp rr ?_|refine d8 hf ?_|refine zd ?_ ?_<;>intro h<;>try omega|refine zy ?_|fail)<;>conv=>whnf
   all_goals first
    |omega
    |exact ⟨hlt,by rw [t6 hf,hI,hff];rfl,[],rfl,rfl,trivial,⟨rfl,rfl,trivial⟩⟩
  |false=>
   rw [hff] at rr
   rw [x9 hf hff]
   conv=>whnf
   repeat' (first|refine zz ?_|refine qp rr ?_|refine d8 hf ?_|refine zd ?_ ?_<;>intro h<;>try omega|refine zy ?_|fail)<;>conv=>whnf
   all_goals first
    |omega
    |exact b7 rfl
 ·rw [lg4 (by omega)] at hI
  rw [hI]
  conv=>whnf
  repeat' (first|refine zz ?_|refine zd ?_ ?_<;>intro h<;>try omega|refine zy ?_|fail)<;>conv=>whnf
  all_goals first
   |omega
   |exact b7 rfl
theorem aG1 (z:List Rat) (hl:z.length<=1000000) (hd:∀v ∈ z,rl v<=200000):a9 Tryz.prog 219 [n6 (z.map fz)] [] (f9 true) []:=by
 have pt:=b5e (z.map fz) (by simpa using hl) (fun f hf=>by
  obtain ⟨x,hx,rfl⟩:=List.mem_map.1 hf
  have:=hd x hx
  have a:=G4 x
  have b:=H5 x
  exact ⟨by show bl x.num<=_;omega,by show bl x.den<=_;omega⟩)
 rw [a1e] at pt
 exact pt
set_option maxHeartbeats 1000000 in
theorem b5g (l:List (Int × Rat)) (z:List Rat) (hl:l.length<=1000000) (h1:∀t ∈ l,rl t.2<=200) (h2:∀v ∈ z,rl v<=40000) (hS:∀k,rl (k9 (l.take k) z)<=60000) (hz:z.length<=1000000) (hr:g9 (-1) z.length l=true):
 a9 Tryz.prog 165 [s6 l,n6 (z.map fz)] [] (.tup [frS (fz (k9 l z)),f9 true]) []:=by
 have m1:(l.map j9).length=l.length:=by simp
 have m2:((z.map fz).map s7).length=z.length:=by simp
 have i0:=a2M 0 (by decide) (by decide)
 have rt:=a3x l z.length hl h1
 rw [decide_eq_true (by omega),hr] at rt
 have rt2:a9 Tryz.prog 167 [s6 l,a7 .i64 (((z.map fz).map s7).length:Nat)] [] (f9 (true && true)) []:=by rw [m2];exact rt
 have pt:=aG1 z hz (fun v hv=>by have:=h2 v hv;omega)
 (refine ac Tryz.func165 ?_;(conv=>whnf);repeat ((first|refine b0x ?_|refine zy ?_);conv=>whnf))
 repeat' (first|refine zz ?_|refine qp rt2 ?_|refine qp pt ?_|refine qp i0 ?_|refine zd ?_ ?_<;>intro h<;>try omega|refine zy ?_|fail)<;>conv=>whnf
 all_goals try (exfalso;simp_all;done)
 refine f5 d7 (fun k=>([s6 l,n6 (z.map fz),J,J,S.c (C.ptr 0 0 0),J,S.c (C.ptr 1 0 0),a7 .i64 k,J,J,J,J,J,J,J,J,J,J,J,J,J,J,J,J,J,J,J,J,J,J,J,J,J,J,J,J,J,J,J,J,J,J,J,J,J,J,J,J,J,J,J,J],[frB U0,frB (fz (k9 (l.take k) z))])) l.length (fun _=>True) [some 0,some 1] trivial
  ⟨rfl,rfl,⟨⟨rfl,rfl,rfl,.inr ⟨⟨rfl,rfl,rfl,rfl,trivial⟩,trivial⟩⟩,⟨rfl,rfl,rfl,.inl ⟨rfl,N3 _⟩⟩,trivial⟩,⟨rfl,rfl,⟨rfl,rfl,rfl⟩,⟨rfl,rfl,rfl⟩,rfl,trivial⟩⟩ ?_
 intro k hk _
 by_cases hlt:k<l.length
 ·obtain ⟨t,ht⟩:∃t,l[k]? =some t:=⟨_,lg0 hlt⟩
  obtain ⟨v,c⟩:=t
  have hv:=a7p hr _ (lg2 ht)
  simp only at hv
  have bc:=h1 _ (lg2 ht)
  simp only at bc
  obtain ⟨x,hx⟩:∃x,z[v.toNat]? =some x:=⟨_,lg0 (by omega)⟩
  have hxd:z.getD v.toNat 0=x:=by rw [lg3,hx];rfl
  have bx:=h2 x (lg2 hx)
  have b3:=a3c c x
  have bs:=hS k
  have mu:=b7h c x (by omega) (by omega)
  have ad:=aZ5 (k9 (l.take k) z) (c*x) (by omega) (by omega)
  have e:k9 (l.take k) z+c*x=k9 (l.take (k+1)) z:=by
   have:l.take (k+1)=l.take k++[(v,c)]:=by rw [List.take_add_one,ht];rfl
   rw [this,T2,←hxd]
  rw [e] at ad
  have xz:(z.map fz)[v.toNat]? =some (fz x):=by rw [List.getElem?_map,hx];rfl
  conv=>whnf
  repeat' (first|refine zz ?_|refine qp mu ?_|refine qp ad ?_|refine qp 16 ?_|refine qp 5 ?_|refine d8 ht ?_|refine o7 (by omega) xz ?_|refine bl0 [16] ?_|refine bl0 [5] ?_|refine zd ?_ ?_<;>intro h<;>try omega|refine zy ?_|fail)<;>conv=>whnf
  all_goals first
   |omega
   |exact ⟨hlt,trivial,[some 0,some 1],rfl,rfl,⟨⟨rfl,rfl,rfl,.inl ⟨rfl,N3 _⟩⟩,⟨rfl,rfl,rfl,.inl ⟨rfl,N3 _⟩⟩,trivial⟩,⟨rfl,rfl,⟨rfl,rfl,rfl⟩,⟨rfl,rfl,rfl⟩,rfl,trivial⟩⟩
 ·have hke:k=l.length:=by omega
  subst hke
  rw [lg4 (Nat.le_refl _)]
  conv=>whnf
  repeat' (first|refine zz ?_|refine zd ?_ ?_<;>intro h<;>try omega|refine zy ?_|fail)<;>conv=>whnf
  all_goals first
   |omega
   |exact k8 ⟨⟨rfl,rfl,rfl,rfl,trivial⟩,rfl,trivial⟩
structure PtB (s:g8) (z:List Rat):Prop where
 v:∀v ∈ z,rl v<=40000
 S:∀w ∈ s.rows,∀k,rl (k9 (w.terms.take k) z)<=50000
 l:z.length<=1000000
theorem aT6 (w:D9) (z:List Rat) (hl:w.terms.length<=1000000) (h1:∀t ∈ w.terms,rl t.2<=200) (h3:rl w.value<=200) (h2:∀v ∈ z,rl v<=40000) (hS:∀k,rl (k9 (w.terms.take k) z)<=50000) (hz:z.length<=1000000)
 (hr:g9 (-1) z.length w.terms=true):a9 Tryz.prog 220 [aN9 w,n6 (z.map fz)] [] (f9 (Q0 w z)) []:=by
 have va:=b5g w.terms z hl h1 h2 (fun k=>by have:=hS k;omega) hz hr
 have bv:=hS w.terms.length
 rw [lg4 (Nat.le_refl _)] at bv
 have c:=al5 (k9 w.terms z) w.value (by omega) (by omega)
 have k1:=a92 (x:=k9 w.terms z) (y:=w.value)
 have k2:=ab0 (x:=k9 w.terms z) (y:=w.value)
 have hro:=a1f (w:=w) (z:=z)
 rw [← k1,←k2] at hro
 have e:f9 (Q0 w z)=f9 (decide ((a2K (k9 w.terms z) w.value<0->w.kind=1)∧(a2K (k9 w.terms z) w.value > 0->w.kind=0))):=by
  congr 1
  rw [Bool.eq_iff_iff,hro,decide_eq_true_iff]
 rw [e]
 clear hro e k1 k2
 generalize a2K (k9 w.terms z) w.value=U at c
 (refine ac Tryz.func220 ?_;(conv=>whnf);repeat ((first|refine b0x ?_|refine zy ?_);conv=>whnf))
 repeat' (first|refine zz ?_|refine qp va ?_|refine qp c ?_|refine qp 5 ?_|refine bl0 [5] ?_|refine zd ?_ ?_<;>intro h<;>try omega|refine zy ?_|fail)<;>conv=>whnf
 all_goals first
  |omega
  |(exfalso;simp_all;done)
  |(refine b7 ?_;simp;omega)
theorem b6d (s:g8) (hb:ab1 s) (hr:j0 s=true) (Z:List Rat) (hp:PtB s Z):
 a9 Tryz.prog 144 [a0U s,n6 (Z.map fz)] [] (f9 (j7 s Z)) []:=by
 have m1:(s.rows.map z6).length=s.rows.length:=by simp
 have m2:((Z.map fz).map s7).length=Z.length:=by simp
 have l1:=hb.n0
 have l2:=hp.l
 have lr:=at5 s hb
 rw [hr] at lr
 have pt:=aG1 Z hp.l (fun v hv=>by have:=hp.v v hv;omega)
 by_cases hn:(Z.length:Int)≠s.n
 ·have e2:j7 s Z=false:=by unfold j7;rw [decide_eq_false hn];simp
  rw [e2]
  (refine ac Tryz.func144 ?_;(conv=>whnf);repeat ((first|refine b0x ?_|refine zy ?_);conv=>whnf))
  repeat' (first|refine zz ?_|refine qp lr ?_|refine qp pt ?_|refine zd ?_ ?_<;>intro h<;>try omega|refine zy ?_|fail)<;>conv=>whnf
  all_goals first
   |omega
   |exact b7 rfl
 have hn:(Z.length:Int)=s.n:=by omega
 have e2:j7 s Z=(Z.all (fun v=>decide (0<=v)) && s.rows.all (fun w=>Q0 w Z)):=by unfold j7;rw [hr,decide_eq_true hn];simp
 rw [e2]
 (refine ac Tryz.func144 ?_;(conv=>whnf);repeat ((first|refine b0x ?_|refine zy ?_);conv=>whnf))
 repeat' (first|refine zz ?_|refine qp lr ?_|refine qp pt ?_|refine zd ?_ ?_<;>intro h<;>try omega|refine zy ?_|fail)<;>conv=>whnf
 all_goals try omega
 refine f5 d7 (fun k=>([J,n6 (Z.map fz),S.c (C.t (T.ptr [ti s.n,M3 s.rows])),J,J,a7 .i64 k,J,J,J,J,J,J,J,J,J,J,J,J,J,J,J,J,J,J,J,J,J,J,J,J,J,J,J,J,J,J,J,J,J,J,J,J,J,J,J,J,J,J,J],[])) Z.length (fun k=>(Z.take k).all (fun v=>decide (0<=v))=true) [] rfl
  ⟨rfl,rfl,trivial,⟨rfl,rfl,rfl,trivial⟩⟩ ?_
 intro k hk hI
 by_cases hlt:k<Z.length
 ·obtain ⟨x,hx⟩:∃x,Z[k]? =some x:=⟨_,lg0 hlt⟩
  have bx:=hp.v x (lg2 hx)
  have sg:=a65 x (by omega)
  have sn:=b12 (x:=x)
  conv=>whnf
  repeat' (first|refine zz ?_|refine qp sg ?_|refine d8 (a1y Z hx) ?_|refine zd ?_ ?_<;>intro h<;>try omega|refine zy ?_|fail)<;>conv=>whnf
  all_goals first
   |omega
   |(have h0:¬sgR x<0:=by omega
     exact ⟨hlt,by rw [t6 hx,hI];simpa using Rat.not_lt.1 (fun h=>h0 (sn.2 h)),[],rfl,rfl,trivial,⟨rfl,rfl,rfl,trivial⟩⟩)
   |(have h0:sgR x<0:=by omega
     have hF:Z.all (fun v=>decide (0<=v))=false:=x9 hx (decide_eq_false (Rat.not_le.2 (sn.1 h0)))
     refine b7 ?_;rw [hF];rfl)
 ·have hA:Z.all (fun v=>decide (0<=v))=true:=by rw [← hI,lg4 (by omega)]
  rw [hA,Bool.true_and]
  conv=>whnf
  repeat' (first|refine zz ?_|refine zd ?_ ?_<;>intro h<;>try omega|refine zy ?_|fail)<;>conv=>whnf
  all_goals try omega
  clear hI hlt hk
  refine f5 d7 (fun k=>([J,n6 (Z.map fz),S.c (C.t (T.ptr [ti s.n,M3 s.rows])),J,J,J,a7 .i64 k,J,J,J,J,J,J,J,J,J,J,J,J,J,J,J,J,J,J,J,J,J,J,J,J,J,J,J,J,J,J,J,J,J,J,J,J,J,J,J,J,J,J],[])) s.rows.length (fun k=>(s.rows.take k).all (fun w=>Q0 w Z)=true) [] rfl
   ⟨rfl,rfl,trivial,⟨rfl,rfl,rfl,trivial⟩⟩ ?_
  intro k hk hI
  by_cases hlt:k<s.rows.length
  ·obtain ⟨w,hw⟩:∃w,s.rows[k]? =some w:=⟨_,lg0 hlt⟩
   obtain ⟨b1,b2,b3⟩:=hb.t w (lg2 hw)
   have hrw:w7 s.n w=true:=by
    unfold j0 at hr
    simp only [Bool.and_eq_true,List.all_eq_true] at hr
    exact hr.2 w (lg2 hw)
   have hrt:g9 (-1) Z.length w.terms=true:=by
    unfold w7 at hrw
    simp only [Bool.and_eq_true] at hrw
    rw [hn];exact hrw.1.1
   have ho:=aT6 w Z (by omega) b2 b3 hp.v (hp.S w (lg2 hw)) hp.l hrt
   cases hro:Q0 w Z with
   |true=>
    rw [hro] at ho
    conv=>whnf
    repeat' (first|refine zz ?_|refine qp ho ?_|refine d8 hw ?_|refine zd ?_ ?_<;>intro h<;>try omega|refine zy ?_|fail)<;>conv=>whnf
    all_goals first
     |omega
     |exact ⟨hlt,by rw [t6 hw,hI,hro];rfl,[],rfl,rfl,trivial,⟨rfl,rfl,rfl,trivial⟩⟩
   |false=>
    rw [hro] at ho
    rw [x9 hw hro]
    conv=>whnf
    repeat' (first|refine zz ?_|refine qp ho ?_|refine d8 hw ?_|refine zd ?_ ?_<;>intro h<;>try omega|refine zy ?_|fail)<;>conv=>whnf
    all_goals first
     |omega
     |exact b7 rfl
  ·rw [lg4 (by omega)] at hI
   rw [hI]
   conv=>whnf
   repeat' (first|refine zz ?_|refine zd ?_ ?_<;>intro h<;>try omega|refine zy ?_|fail)<;>conv=>whnf
   all_goals first
    |omega
    |exact b7 rfl
theorem b2J (s:g8) (hb:ab1 s) (hr:j0 s=true) (Z:List Rat) (hp:PtB s Z):
 a9 Tryz.prog 43 [a0U s,n6 (Z.map fz)] [] (f9 (j7 s Z)) []:=by
 have m1:(s.rows.map z6).length=s.rows.length:=by simp
 have m2:((Z.map fz).map s7).length=Z.length:=by simp
 have l1:=hb.n0
 have l2:=hp.l
 have lr:=a6B s hb
 rw [hr] at lr
 have pt:=au3 (Z.map fz) (by simpa using hp.l) (fun f hf=>by
  obtain ⟨x,hx,rfl⟩:=List.mem_map.1 hf
  have:=hp.v x hx
  have a:=G4 x
  have b:=H5 x
  exact ⟨by show bl x.num<=_;omega,by show bl x.den<=_;omega⟩)
 rw [a1e] at pt
 by_cases hn:(Z.length:Int)≠s.n
 ·have e2:j7 s Z=false:=by unfold j7;rw [decide_eq_false hn];simp
  rw [e2]
  (refine ac Tryz.func43 ?_;(conv=>whnf);repeat ((first|refine b0x ?_|refine zy ?_);conv=>whnf))
  repeat' (first|refine zz ?_|refine qp lr ?_|refine qp pt ?_|refine zd ?_ ?_<;>intro h<;>try omega|refine zy ?_|fail)<;>conv=>whnf
  all_goals first
   |omega
   |exact b7 rfl
 have hn:(Z.length:Int)=s.n:=by omega
 have e2:j7 s Z=(Z.all (fun v=>decide (0<=v)) && s.rows.all (fun w=>Q0 w Z)):=by unfold j7;rw [hr,decide_eq_true hn];simp
 rw [e2]
 (refine ac Tryz.func43 ?_;(conv=>whnf);repeat ((first|refine b0x ?_|refine zy ?_);conv=>whnf))
 repeat' (first|refine zz ?_|refine qp lr ?_|refine qp pt ?_|refine zd ?_ ?_<;>intro h<;>try omega|refine zy ?_|fail)<;>conv=>whnf
 all_goals try omega
 refine f5 d7 (fun k=>([J,n6 (Z.map fz),S.c (C.t (T.ptr [ti s.n,M3 s.rows])),J,J,J,J,J,J,J,J,J,J,J,J,J,J,J,J,J,J,J,J,J,J,n6 (Z.map fz),a7 .i64 Z.length,a7 .i64 k,J,J,J,J,J,J,J,J,J,J,J,J,J,J,J,J,J,J,J,J,J,J,J,J,J,J,J,J,J,J,J,J,J,J,J,J,J,J],[])) Z.length (fun k=>(Z.take k).all (fun v=>decide (0<=v))=true) [] rfl
  ⟨rfl,rfl,trivial,⟨rfl,rfl,rfl,b9 (by simp),rfl,trivial⟩⟩ ?_
 intro k hk hI
 by_cases hlt:k<Z.length
 ·obtain ⟨x,hx⟩:∃x,Z[k]? =some x:=⟨_,lg0 hlt⟩
  have bx:=hp.v x (lg2 hx)
  have sg:=a35 x (by omega)
  have sn:=b12 (x:=x)
  conv=>whnf
  repeat' (first|refine zz ?_|refine qp sg ?_|refine d8 (a1y Z hx) ?_|refine zd ?_ ?_<;>intro h<;>try omega|refine zy ?_|fail)<;>conv=>whnf
  all_goals first
   |omega
   |(have h0:¬sgR x<0:=by omega
     exact ⟨hlt,by rw [t6 hx,hI];simpa using Rat.not_lt.1 (fun h=>h0 (sn.2 h)),[],rfl,rfl,trivial,⟨rfl,rfl,rfl,rfl,rfl,trivial⟩⟩)
   |(have h0:sgR x<0:=by omega
     have hF:Z.all (fun v=>decide (0<=v))=false:=x9 hx (decide_eq_false (Rat.not_le.2 (sn.1 h0)))
     refine b7 ?_;rw [hF];rfl)
 ·have hA:Z.all (fun v=>decide (0<=v))=true:=by rw [← hI,lg4 (by omega)]
  rw [hA,Bool.true_and]
  conv=>whnf
  repeat' (first|refine zz ?_|refine zd ?_ ?_<;>intro h<;>try omega|refine zy ?_|fail)<;>conv=>whnf
  all_goals try omega
  clear hI hlt hk
  refine f5 d7 (fun k=>([J,n6 (Z.map fz),J,J,J,J,J,J,J,J,J,J,J,J,J,J,J,J,J,J,J,J,J,J,J,J,J,J,J,J,J,J,J,J,J,J,S.c (C.t (M3 s.rows)),a7 .i64 s.rows.length,a7 .i64 k,J,J,J,J,J,J,J,J,J,J,J,J,J,J,J,J,J,J,J,J,J,J,J,J,J,J,J],[])) s.rows.length (fun k=>(s.rows.take k).all (fun w=>Q0 w Z)=true) [] rfl
   ⟨rfl,rfl,trivial,⟨rfl,rfl,b9 (by simp),rfl,trivial⟩⟩ ?_
  intro k hk hI
  by_cases hlt:k<s.rows.length
  ·obtain ⟨w,hw⟩:∃w,s.rows[k]? =some w:=⟨_,lg0 hlt⟩
   obtain ⟨b1,b2,b3⟩:=hb.t w (lg2 hw)
   have hrw:w7 s.n w=true:=by
    unfold j0 at hr
    simp only [Bool.and_eq_true,List.all_eq_true] at hr
    exact hr.2 w (lg2 hw)
   have hrt:g9 (-1) Z.length w.terms=true:=by
    unfold w7 at hrw
    simp only [Bool.and_eq_true] at hrw
    rw [hn];exact hrw.1.1
   have hS:=hp.S w (lg2 hw)
   have va:=aC8 w.terms Z (by omega) (fun t ht=>by have:=b2 t ht;omega) hp.v (fun k=>by have:=hS k;omega) (by omega) hrt
   have bv:=hS w.terms.length
   rw [lg4 (Nat.le_refl _)] at bv
   have c:=ag1 (k9 w.terms Z) w.value (by omega) (by omega)
   have k1:=a92 (x:=k9 w.terms Z) (y:=w.value)
   have k2:=ab0 (x:=k9 w.terms Z) (y:=w.value)
   have hro:=a1f (w:=w) (z:=Z)
   rw [← k1,←k2] at hro
   generalize a2K (k9 w.terms Z) w.value=U at c hro
   by_cases hok:(U<0->w.kind=1)∧(U > 0->w.kind=0)
   ·have hT:=hro.2 hok
    obtain ⟨q1,q2⟩:=hok
    conv=>whnf
    repeat' (first|refine zz ?_|refine qp va ?_|refine qp c ?_|refine d8 hw ?_|refine zd ?_ ?_<;>intro h<;>try omega|refine zy ?_|fail)<;>conv=>whnf
    all_goals first
     |omega
     |exact ⟨hlt,by rw [t6 hw,hI,hT];rfl,[],rfl,rfl,trivial,⟨rfl,rfl,rfl,rfl,trivial⟩⟩
   ·have hF:Q0 w Z=false:=by rw [← Bool.not_eq_true];exact fun h=>hok (hro.1 h)
    rw [x9 hw hF]
    have hor:(U<0∧w.kind≠1)∨(U > 0∧w.kind≠0):=by omega
    clear hro hok
    conv=>whnf
    repeat' (first|refine zz ?_|refine qp va ?_|refine qp c ?_|refine d8 hw ?_|refine zd ?_ ?_<;>intro h<;>try omega|refine zy ?_|fail)<;>conv=>whnf
    all_goals first
     |omega
     |exact b7 rfl
  ·rw [lg4 (by omega)] at hI
   rw [hI]
   conv=>whnf
   repeat' (first|refine zz ?_|refine zd ?_ ?_<;>intro h<;>try omega|refine zy ?_|fail)<;>conv=>whnf
   all_goals first
    |omega
    |exact b7 rfl
theorem b0Q (Y:List Rat) (n:Nat) (hl:Y.length<=1000000) (h:∀v ∈ Y,rl v<=200000):a9 Tryz.prog 238 [n6 (Y.map fz),a7 .i64 n] [] (f9 (decide (Y.length=n))) []:=by
 have m2:((Y.map fz).map s7).length=Y.length:=by simp
 (refine ac Tryz.func238 ?_;(conv=>whnf);repeat ((first|refine b0x ?_|refine zy ?_);conv=>whnf))
 repeat' (first|refine zz ?_|refine zd ?_ ?_<;>intro h<;>try omega|refine zy ?_|fail)<;>conv=>whnf
 refine f5 d7 (fun k=>([n6 (Y.map fz),a7 .i64 n,J,J,J,a7 .i64 k,J,J,J,J,J,J,J,J,J,J,J,J,J,J,J,J],[])) Y.length (fun _=>True) [] trivial
  ⟨rfl,rfl,trivial,⟨rfl,rfl,rfl,trivial⟩⟩ ?_
 intro k hk _
 by_cases hlt:k<Y.length
 ·obtain ⟨x,hx⟩:∃x,Y[k]? =some x:=⟨_,lg0 hlt⟩
  have bx:=h x (lg2 hx)
  have rr:=a8R x (by omega)
  conv=>whnf
  repeat' (first|refine zz ?_|refine qp rr ?_|refine d8 (a1y Y hx) ?_|refine zd ?_ ?_<;>intro h<;>try omega|refine zy ?_|fail)<;>conv=>whnf
  all_goals first
   |omega
   |(exfalso;simp_all;done)
   |exact ⟨hlt,trivial,[],rfl,rfl,trivial,⟨rfl,rfl,rfl,trivial⟩⟩
 ·conv=>whnf
  repeat' (first|refine zz ?_|refine zd ?_ ?_<;>intro h<;>try omega|refine zy ?_|fail)<;>conv=>whnf
  all_goals first
   |omega
   |(refine b7 (decide_eq_true ?_).symm;omega)
   |(refine b7 (decide_eq_false ?_).symm;omega)
def yN (Y:List Rat) (i:Nat):Rat:=Y.getD i 0
theorem aX7 {Y:List Rat} {k:Nat} {x:Rat} (h:Y[k]? =some x):yN Y k=x:=by unfold yN;rw [lg3,h];rfl
def sgB (s:g8) (Y:List Rat) (i:Nat):Bool:=!((decide ((A0 s i).kind=0) && decide (yN Y i<0)) || (decide ((A0 s i).kind=1) && decide (0<yN Y i)))
def a3L (s:g8) (Y:List Rat):Bool:=decide (Y.length=s.rows.length) && (List.range s.rows.length).all (sgB s Y)
theorem a5i {n k:Nat} (h:k<n):(List.range n)[k]? =some k:=by simp [h]
theorem a49 {f:Nat->Bool} {k:Nat}:(List.range (k+1)).all f=((List.range k).all f && f k):=by rw [List.range_succ,List.all_append];simp
theorem a6v {f:Nat->Bool} {n k:Nat} (h:k<n) (hf:f k=false):(List.range n).all f=false:=x9 (a5i h) hf
theorem b3m (s:g8) (hb:ab1 s) (hr:j0 s=true) (Y:List Rat) (hl:Y.length<=1000000) (hy:∀v ∈ Y,rl v<=50000):
 a9 Tryz.prog 166 [a0U s,n6 (Y.map fz)] [] (f9 (a3L s Y)) []:=by
 have m1:(s.rows.map z6).length=s.rows.length:=by simp
 have m2:((Y.map fz).map s7).length=Y.length:=by simp
 have l1:=hb.n0
 have lr:=at5 s hb
 rw [hr] at lr
 have fr:=b0Q Y s.rows.length hl (fun v hv=>by have:=hy v hv;omega)
 have fr2:a9 Tryz.prog 238 [n6 (Y.map fz),a7 .i64 ((s.rows.map z6).length:Nat)] [] (f9 (decide (Y.length=s.rows.length))) []:=by rw [m1];exact fr
 by_cases hn:Y.length≠s.rows.length
 ·have e2:a3L s Y=false:=by unfold a3L;rw [decide_eq_false hn];simp
  rw [decide_eq_false hn] at fr2
  rw [e2]
  (refine ac Tryz.func166 ?_;(conv=>whnf);repeat ((first|refine b0x ?_|refine zy ?_);conv=>whnf))
  repeat' (first|refine zz ?_|refine qp lr ?_|refine qp fr2 ?_|refine zd ?_ ?_<;>intro h<;>try omega|refine zy ?_|fail)<;>conv=>whnf
  all_goals first
   |omega
   |(exfalso;simp_all;done)
   |exact b7 rfl
 have hn:Y.length=s.rows.length:=by omega
 have e2:a3L s Y=(List.range s.rows.length).all (sgB s Y):=by unfold a3L;rw [decide_eq_true hn];simp
 rw [e2]
 rw [decide_eq_true hn] at fr2
 (refine ac Tryz.func166 ?_;(conv=>whnf);repeat ((first|refine b0x ?_|refine zy ?_);conv=>whnf))
 repeat' (first|refine zz ?_|refine qp lr ?_|refine qp fr2 ?_|refine zd ?_ ?_<;>intro h<;>try omega|refine zy ?_|fail)<;>conv=>whnf
 all_goals try (exfalso;simp_all;done)
 refine f5 d7 (fun k=>([J,n6 (Y.map fz),S.c (C.t (T.ptr [ti s.n,M3 s.rows])),J,J,a7 .i64 k,J,J,J,J,J,J,J,J,J,J,J,J,J,J,J,J,J,J,J,J,J,J,J,J,J,J,J,J,J,J,J,J,J,J,J,J,J,J,J,J,J,J,J,J,J,J,J],[])) Y.length (fun k=>(List.range k).all (sgB s Y)=true) [] rfl
  ⟨rfl,rfl,trivial,⟨rfl,rfl,rfl,trivial⟩⟩ ?_
 intro k hk hI
 by_cases hlt:k<Y.length
 ·obtain ⟨x,hx⟩:∃x,Y[k]? =some x:=⟨_,lg0 hlt⟩
  obtain ⟨w,hw⟩:∃w,s.rows[k]? =some w:=⟨_,lg0 (by omega)⟩
  have bx:=hy x (lg2 hx)
  have sg:=a65 x (by omega)
  have es:sgB s Y k=decide ((w.kind=0->¬sgR x<0)∧(w.kind=1->¬sgR x > 0)):=by
   unfold sgB
   rw [P1 hw,aX7 hx,Bool.eq_iff_iff,decide_eq_true_iff,a61,b2C]
   simp
   grind
  generalize sgR x=U at sg es
  by_cases hok:(w.kind=0->¬U<0)∧(w.kind=1->¬U > 0)
  ·rw [decide_eq_true hok] at es
   obtain ⟨q1,q2⟩:=hok
   conv=>whnf
   repeat' (first|refine zz ?_|refine qp sg ?_|refine d8 (a1y Y hx) ?_|refine d8 hw ?_|refine zd ?_ ?_<;>intro h<;>try omega|refine zy ?_|fail)<;>conv=>whnf
   all_goals first
    |omega
    |exact ⟨hlt,by rw [a49,hI,es];rfl,[],rfl,rfl,trivial,⟨rfl,rfl,rfl,trivial⟩⟩
  ·rw [decide_eq_false hok] at es
   rw [a6v (n:=s.rows.length) (by omega) es]
   have hor:(w.kind=0∧U<0)∨(w.kind=1∧U > 0):=by omega
   clear hok
   conv=>whnf
   repeat' (first|refine zz ?_|refine qp sg ?_|refine d8 (a1y Y hx) ?_|refine d8 hw ?_|refine zd ?_ ?_<;>intro h<;>try omega|refine zy ?_|fail)<;>conv=>whnf
   all_goals first
    |omega
    |exact b7 rfl
 ·have hke:k=s.rows.length:=by omega
  subst hke
  rw [hI]
  conv=>whnf
  repeat' (first|refine zz ?_|refine zd ?_ ?_<;>intro h<;>try omega|refine zy ?_|fail)<;>conv=>whnf
  all_goals first
   |omega
   |exact b7 rfl
theorem b5M {n:Int} {l:List (Int × Rat)} (hr:g9 (-1) n l=true) {i:Nat} {t:Int × Rat} (ht:l[i]? =some t):∀k,i<k->k<=l.length->M4 l k t.1.toNat=t.2:=by
 intro k hi hk
 induction k with
 |zero=>omega
 |succ k ih=>
  obtain ⟨u,hu⟩:∃u,l[k]? =some u:=⟨_,lg0 (by omega)⟩
  rw [K7 hu]
  simp only
  by_cases h:i=k
  ·subst h
   rw [ht] at hu;injection hu with hu;subst hu
   rw [if_pos rfl]
  ·have:=a3z hr i k t u (by omega) ht hu
   have:=F6 hr t (lg2 ht)
   rw [if_neg (by omega)]
   exact ih (by omega) (by omega)
theorem b0S {n:Int} {l:List (Int × Rat)} (hr:g9 (-1) n l=true) {i:Nat} {t:Int × Rat} (ht:l[i]? =some t):z7 l t.1.toNat=t.2:=
 b5M hr ht _ (lg1 ht).1 (Nat.le_refl _)
theorem aV7 (l:List (Int × Rat)) (v:Nat) {n:Int} (hr:g9 (-1) n l=true) (hl:l.length<=1000000) (hv:v<=1000000):a9 Tryz.prog 170 [s6 l,a7 .i64 v] [] (frS (fz (z7 l v))) []:=by
 have m1:(l.map j9).length=l.length:=by simp
 have i0:=a2M 0 (by decide) (by decide)
 (refine ac Tryz.func170 ?_;(conv=>whnf);repeat ((first|refine b0x ?_|refine zy ?_);conv=>whnf))
 repeat' (first|refine zz ?_|refine zd ?_ ?_<;>intro h<;>try omega|refine zy ?_|fail)<;>conv=>whnf
 refine f5 d7 (fun k=>([s6 l,a7 .i64 v,J,J,S.c (C.ptr 0 0 0),a7 .i64 k,J,J,J,J,J,J,J,J,J,J,J,J,J,J,J,J,J,J,J],[frB U0])) l.length (fun k=>∀i t,i<k->l[i]? =some t->t.1.toNat≠v) [some 0] (fun i t h=>by omega)
  ⟨rfl,rfl,⟨⟨rfl,rfl,rfl,.inr ⟨⟨rfl,rfl,rfl,rfl,trivial⟩,trivial⟩⟩,trivial⟩,⟨rfl,rfl,⟨rfl,rfl,rfl⟩,rfl,trivial⟩⟩ ?_
 intro k hk hI
 by_cases hlt:k<l.length
 ·obtain ⟨t,ht⟩:∃t,l[k]? =some t:=⟨_,lg0 hlt⟩
  have hm:=F6 hr t (lg2 ht)
  by_cases he:t.1=v
  ·have e:z7 l v=t.2:=by rw [← b0S hr ht,he];rfl
   rw [e]
   conv=>whnf
   repeat' (first|refine zz ?_|refine d8 ht ?_|refine zd ?_ ?_<;>intro h<;>try omega|refine zy ?_|fail)<;>conv=>whnf
   all_goals first
    |omega
    |exact aK2 rfl
  ·conv=>whnf
   repeat' (first|refine zz ?_|refine d8 ht ?_|refine zd ?_ ?_<;>intro h<;>try omega|refine zy ?_|fail)<;>conv=>whnf
   all_goals first
    |omega
    |exact ⟨hlt,fun i u hi hu=>by
      by_cases h:i=k
      ·subst h;rw [ht] at hu;injection hu with hu;subst hu;omega
      ·exact hI i u (by omega) hu,[some 0],rfl,rfl,⟨⟨rfl,rfl,rfl,.inl ⟨rfl,N3 _⟩⟩,trivial⟩,⟨rfl,rfl,⟨rfl,rfl,rfl⟩,rfl,trivial⟩⟩
 ·have hke:k=l.length:=by omega
  subst hke
  have e:z7 l v=((0:Int):Rat):=a2H _ hI
  rw [e]
  conv=>whnf
  repeat' (first|refine zz ?_|refine qp i0 ?_|refine zd ?_ ?_<;>intro h<;>try omega|refine zy ?_|fail)<;>conv=>whnf
  all_goals first
   |omega
   |exact aK2 rfl
theorem b3I (a b c:Rat) (ha:rl a<=60000) (hb:rl b<=50000) (hc:rl c<=200):a9 Tryz.prog 239 [frS (fz a),frS (fz b),frS (fz c)] [] (frS (fz (a+b*c))) []:=by
 have l:=a3c b c
 have mu:=b7h b c (by omega) (by omega)
 have ad:=aZ5 a (b*c) (by omega) (by omega)
 (refine ac Tryz.func239 ?_;(conv=>whnf);repeat ((first|refine b0x ?_|refine zy ?_);conv=>whnf))
 repeat' (first|refine zz ?_|refine qp mu ?_|refine qp ad ?_|refine qp 5 ?_|refine bl0 [5] ?_|refine zd ?_ ?_<;>intro h<;>try omega|refine zy ?_|fail)<;>conv=>whnf
 all_goals first
  |exact aK2 rfl
def U3 (s:g8) (y:Nat->Rat) (k:Nat):List (Int × Rat):=((List.range k).filter fun v=>decide (R3 s y v≠0)).map fun v:Nat=>((v:Int),R3 s y v)
theorem ar9 (s:g8) (y:Nat->Rat) (k:Nat):U3 s y (k+1)=if R3 s y k=0 then U3 s y k else U3 s y k++[((k:Int),R3 s y k)]:=by
 unfold U3
 rw [List.range_succ,List.filter_append,List.map_append]
 by_cases h:R3 s y k=0
 ·rw [if_pos h];simp [h]
 ·rw [if_neg h];simp [h]
theorem aD0 (s:g8) (y:Nat->Rat) (k:Nat):(U3 s y k).length<=k:=by
 unfold U3
 rw [List.length_map]
 exact Nat.le_trans (List.length_filter_le _ _) (by simp)
def a5B (s:g8) (y:Nat->Rat) (l k:Nat):Rat:=g7 (fun i=>y i*z7 (A0 s i).terms l) k
def a5u (s:g8) (y:Nat->Rat) (k:Nat):Rat:=g7 (fun i=>y i*(A0 s i).value) k
structure b44 (s:g8) (Y:List Rat):Prop where
 y:∀v ∈ Y,rl v<=40000
 n:∀l k,rl (a5B s (yN Y) l k)<=50000
 v:∀k,rl (a5u s (yN Y) k)<=50000
 l:Y.length=s.rows.length
 m:s.rows.length<=1000000
theorem b05 {l:List (Int × Rat)} (h:∀t ∈ l,rl t.2<=200) (v:Nat):rl (z7 l v)<=200:=by
 have key:∀k,rl (M4 l k v)<=200:=by
  intro k
  induction k with
  |zero=>have:=rl0;show rl 0<=_;omega
  |succ k ih=>
   cases hk:l[k]? with
   |none=>rw [M4,hk];exact ih
   |some t=>
    rw [K7 hk]
    simp only
    split
    ·exact h t (lg2 hk)
    ·exact ih
 exact key _
set_option maxHeartbeats 4000000 in
theorem b98 (s:g8) (hb:ab1 s) (hr:j0 s=true) (Y:List Rat) (hq:b44 s Y):
 a9 Tryz.prog 168 [a0U s,n6 (Y.map fz)] [] (.tup [s6 (U3 s (yN Y) s.n.toNat),frS (fz (a2z s (yN Y)))]) []:=by
 have m1:(s.rows.map z6).length=s.rows.length:=by simp
 have m2:((Y.map fz).map s7).length=Y.length:=by simp
 have l1:=hb.n0
 have hn:=hq.l
 have lr:=at5 s hb
 rw [hr] at lr
 have hnn:0<=s.n∧s.n<=1500:=by
  unfold j0 at hr
  simp only [Bool.and_eq_true,decide_eq_true_eq] at hr
  exact ⟨hr.1.1.1,hr.1.1.2⟩
 have fr:=b0Q Y s.rows.length (by omega) (fun v hv=>by have:=hq.y v hv;omega)
 have fr2:a9 Tryz.prog 238 [n6 (Y.map fz),a7 .i64 ((s.rows.map z6).length:Nat)] [] (f9 true) []:=by rw [m1];rw [decide_eq_true hn] at fr;exact fr
 have i0:=a2M 0 (by decide) (by decide)
 (refine ac Tryz.func168 ?_;(conv=>whnf);repeat ((first|refine b0x ?_|refine zy ?_);conv=>whnf))
 repeat' (first|refine zz ?_|refine qp lr ?_|refine qp fr2 ?_|refine qp i0 ?_|refine a3W.own ?_|refine zd ?_ ?_<;>intro h<;>try omega|refine zy ?_|fail)<;>conv=>whnf
 all_goals try omega
 all_goals try (exfalso;simp_all;done)
 refine f5 d7 (fun v=>([J,n6 (Y.map fz),S.c (C.t (T.ptr [ti s.n,M3 s.rows])),J,J,S.c (C.ptr 0 0 0),S.c (C.own 1 0 (U3 s (yN Y) v).length true),a7 .i64 v,J,J,J,J,J,J,J,J,J,J,J,J,J,J,J,J,J,J,J,J,J,J,J,J,J,J,J,J,J,J,J,J,J,J,J,J,J,J,J,J,J,J,J,J,J,J,J,J,J,J,J,J,J,J,J,J,J,J,J,J,J,J,J,J,J,J,J,J,J,J,J,J,J,J],[frB U0,R6 (U3 s (yN Y) v)])) s.n.toNat (fun _=>True) [some 0,some 1] trivial
  ⟨rfl,rfl,⟨⟨rfl,rfl,rfl,.inr ⟨⟨rfl,rfl,rfl,rfl,trivial⟩,trivial⟩⟩,a8 (rows:=[]) rfl rfl rfl rfl rfl,trivial⟩,⟨rfl,rfl,⟨rfl,rfl,rfl⟩,⟨rfl,rfl,rfl,fun h=>h⟩,rfl,trivial⟩⟩ ?_
 intro v hv _
 have lv:=aD0 s (yN Y) v
 by_cases hlt:v<s.n.toNat
 ·conv=>whnf
  repeat' (first|refine zz ?_|refine qp i0 ?_|refine zd ?_ ?_<;>intro h<;>try omega|refine zy ?_|fail)<;>conv=>whnf
  all_goals try omega
  refine f5 d7 (fun k=>([J,n6 (Y.map fz),S.c (C.t (T.ptr [ti s.n,M3 s.rows])),J,J,S.c (C.ptr 0 0 0),S.c (C.own 1 0 (U3 s (yN Y) v).length true),a7 .i64 v,S.c (C.ptr 2 0 0),a7 .i64 k,J,J,J,J,J,J,J,J,J,J,J,J,J,J,J,J,J,J,J,J,J,J,J,J,J,J,J,J,J,J,J,J,J,J,J,J,J,J,J,J,J,J,J,J,J,J,J,J,J,J,J,J,J,J,J,J,J,J,J,J,J,J,J,J,J,J,J,J,J,J,J,J],[frB U0,R6 (U3 s (yN Y) v),frB (fz (a5B s (yN Y) v k))])) Y.length (fun _=>True) [some 0,some 1,some 2] trivial
   ⟨rfl,rfl,⟨⟨rfl,rfl,rfl,.inr ⟨⟨rfl,rfl,rfl,rfl,trivial⟩,trivial⟩⟩,a8 (rows:=(U3 s (yN Y) v).map j9) rfl rfl rfl rfl rfl,⟨rfl,rfl,rfl,.inl ⟨rfl,N3 _⟩⟩,trivial⟩,⟨rfl,rfl,⟨rfl,rfl,rfl⟩,⟨rfl,rfl,rfl,fun h=>h⟩,rfl,⟨rfl,rfl,rfl⟩,rfl,trivial⟩⟩ ?_
  intro k hk _
  by_cases hkl:k<Y.length
  ·obtain ⟨x,hx⟩:∃x,Y[k]? =some x:=⟨_,lg0 hkl⟩
   obtain ⟨w,hw⟩:∃w,s.rows[k]? =some w:=⟨_,lg0 (by omega)⟩
   obtain ⟨b1,b2,b3⟩:=hb.t w (lg2 hw)
   have hrt:=(Z8 hr hw).1
   have bx:=hq.y x (lg2 hx)
   have co:=aV7 w.terms v hrt (by omega) (by omega)
   have bc:=b05 b2 v
   have bm:=hq.n v k
   have pl:=b3I (a5B s (yN Y) v k) x (z7 w.terms v) (by omega) (by omega) bc
   have e:a5B s (yN Y) v k+x*z7 w.terms v=a5B s (yN Y) v (k+1):=by
    show _=a5B s (yN Y) v k+yN Y k*z7 (A0 s k).terms v
    rw [P1 hw,aX7 hx]
   rw [e] at pl
   conv=>whnf
   repeat' (first|refine zz ?_|refine qp co ?_|refine qp pl ?_|refine d8 (a1y Y hx) ?_|refine d8 hw ?_|refine zd ?_ ?_<;>intro h<;>try omega|refine zy ?_|fail)<;>conv=>whnf
   all_goals first
    |omega
    |exact ⟨hkl,trivial,[some 0,some 1,some 2],rfl,rfl,⟨⟨rfl,rfl,rfl,.inr ⟨⟨rfl,rfl,rfl,rfl,trivial⟩,trivial⟩⟩,a8 (rows:=(U3 s (yN Y) v).map j9) rfl rfl rfl rfl rfl,⟨rfl,rfl,rfl,.inl ⟨rfl,N3 _⟩⟩,trivial⟩,⟨rfl,rfl,⟨rfl,rfl,rfl⟩,⟨rfl,rfl,rfl,fun h=>h⟩,rfl,⟨rfl,rfl,rfl⟩,rfl,trivial⟩⟩
  ·have hke:k=s.rows.length:=by omega
   subst hke
   have e:a5B s (yN Y) v s.rows.length=R3 s (yN Y) v:=rfl
   rw [e]
   have bm:=hq.n v s.rows.length
   rw [e] at bm
   have sg:=a65 (R3 s (yN Y) v) (by omega)
   have sz:=a6I (x:=R3 s (yN Y) v)
   have lA:(U3 s (yN Y) v).length<=(R6 (U3 s (yN Y) v)).rows.length:=by show _<=(toC _).length;simp [toC]
   by_cases hz:R3 s (yN Y) v=0
   ·have hs:=sz.2 hz
    have e2:U3 s (yN Y) (v+1)=U3 s (yN Y) v:=by rw [ar9,if_pos hz]
    rw [e2]
    conv=>whnf
    repeat' (first|refine zz ?_|refine qp sg ?_|refine zd ?_ ?_<;>intro h<;>try omega|refine zy ?_|fail)<;>conv=>whnf
    all_goals first
     |omega
     |exact ⟨hlt,trivial,[some 0,some 1],rfl,rfl,⟨⟨rfl,rfl,rfl,.inr ⟨⟨rfl,rfl,rfl,rfl,trivial⟩,trivial⟩⟩,a8 (rows:=(U3 s (yN Y) v).map j9) rfl rfl rfl rfl rfl,trivial⟩,⟨rfl,rfl,⟨rfl,rfl,rfl⟩,⟨rfl,rfl,rfl,fun h=>h⟩,rfl,trivial⟩⟩
   ·have hs:sgR (R3 s (yN Y) v)≠0:=fun h=>hz (sz.1 h)
    have e2:U3 s (yN Y) (v+1)=U3 s (yN Y) v++[((v:Int),R3 s (yN Y) v)]:=by rw [ar9,if_neg hz]
    rw [e2]
    conv=>whnf
    repeat' (first|refine zz ?_|refine qp sg ?_|refine qp toC ?_|refine q9 lA (by simp [toC];omega) ?_|refine zd ?_ ?_<;>intro h<;>try omega|refine zy ?_|fail)<;>conv=>whnf
    all_goals first
     |omega
     |(refine ⟨hlt,trivial,[some 0,some 3],rfl,rfl,⟨⟨rfl,rfl,rfl,.inr ⟨⟨rfl,rfl,rfl,rfl,trivial⟩,trivial⟩⟩,a8 (rows:=(U3 s (yN Y) v++[((v:Int),R3 s (yN Y) v)]).map j9) rfl rfl rfl ?_ ?_,trivial⟩,⟨rfl,rfl,⟨rfl,rfl,rfl⟩,⟨rfl,rfl,?_,fun h=>h⟩,rfl,trivial⟩⟩
       ·exact C9 (f:=j9) (x:=((v:Int),R3 s (yN Y) v)) rfl
       ·rfl
       ·simp [toC])
 ·have hke:v=s.n.toNat:=by omega
  subst hke
  conv=>whnf
  repeat' (first|refine zz ?_|refine qp i0 ?_|refine zd ?_ ?_<;>intro h<;>try omega|refine zy ?_|fail)<;>conv=>whnf
  all_goals try omega
  refine f5 d7 (fun k=>([J,n6 (Y.map fz),S.c (C.t (T.ptr [ti s.n,M3 s.rows])),J,J,S.c (C.ptr 0 0 0),S.c (C.own 1 0 (U3 s (yN Y) s.n.toNat).length true),J,J,J,S.c (C.ptr 2 0 0),a7 .i64 k,J,J,J,J,J,J,J,J,J,J,J,J,J,J,J,J,J,J,J,J,J,J,J,J,J,J,J,J,J,J,J,J,J,J,J,J,J,J,J,J,J,J,J,J,J,J,J,J,J,J,J,J,J,J,J,J,J,J,J,J,J,J,J,J,J,J,J,J,J,J],[frB U0,R6 (U3 s (yN Y) s.n.toNat),frB (fz (a5u s (yN Y) k))])) Y.length (fun _=>True) [some 0,some 1,some 2] trivial
   ⟨rfl,rfl,⟨⟨rfl,rfl,rfl,.inr ⟨⟨rfl,rfl,rfl,rfl,trivial⟩,trivial⟩⟩,a8 (rows:=(U3 s (yN Y) s.n.toNat).map j9) rfl rfl rfl rfl rfl,⟨rfl,rfl,rfl,.inl ⟨rfl,N3 _⟩⟩,trivial⟩,⟨rfl,rfl,⟨rfl,rfl,rfl⟩,⟨rfl,rfl,rfl,fun h=>h⟩,⟨rfl,rfl,rfl⟩,rfl,trivial⟩⟩ ?_
  intro k hk _
  by_cases hkl:k<Y.length
  ·obtain ⟨x,hx⟩:∃x,Y[k]? =some x:=⟨_,lg0 hkl⟩
   obtain ⟨w,hw⟩:∃w,s.rows[k]? =some w:=⟨_,lg0 (by omega)⟩
   obtain ⟨b1,b2,b3⟩:=hb.t w (lg2 hw)
   have bx:=hq.y x (lg2 hx)
   have bm:=hq.v k
   have pl:=b3I (a5u s (yN Y) k) x w.value (by omega) (by omega) b3
   have e:a5u s (yN Y) k+x*w.value=a5u s (yN Y) (k+1):=by
    show _=a5u s (yN Y) k+yN Y k*(A0 s k).value
    rw [P1 hw,aX7 hx]
   rw [e] at pl
   conv=>whnf
   repeat' (first|refine zz ?_|refine qp pl ?_|refine d8 (a1y Y hx) ?_|refine d8 hw ?_|refine zd ?_ ?_<;>intro h<;>try omega|refine zy ?_|fail)<;>conv=>whnf
   all_goals first
    |omega
    |exact ⟨hkl,trivial,[some 0,some 1,some 2],rfl,rfl,⟨⟨rfl,rfl,rfl,.inr ⟨⟨rfl,rfl,rfl,rfl,trivial⟩,trivial⟩⟩,a8 (rows:=(U3 s (yN Y) s.n.toNat).map j9) rfl rfl rfl rfl rfl,⟨rfl,rfl,rfl,.inl ⟨rfl,N3 _⟩⟩,trivial⟩,⟨rfl,rfl,⟨rfl,rfl,rfl⟩,⟨rfl,rfl,rfl,fun h=>h⟩,⟨rfl,rfl,rfl⟩,rfl,trivial⟩⟩
  ·have hke:k=s.rows.length:=by omega
   subst hke
   have e:a5u s (yN Y) s.rows.length=a2z s (yN Y):=rfl
   rw [e]
   conv=>whnf
   repeat' (first|refine zz ?_|refine zd ?_ ?_<;>intro h<;>try omega|refine zy ?_|fail)<;>conv=>whnf
   all_goals first
    |omega
    |exact k8 ⟨(show VC _ (fun id=>G3 [] id=true) (C.own 1 0 _ true) _ from v4 (k:=R6 (U3 s (yN Y) s.n.toNat)) rfl rfl (fun h=>h) rfl rfl (by simp)),⟨rfl,rfl,rfl,rfl,trivial⟩,trivial⟩
theorem aq6 {n:Int}:∀{l:List (Int × Rat)} {last:Int},l.Pairwise (fun a b=>a.1<b.1)->(∀ t ∈ l,last<t.1∧t.1<n∧t.2≠0)->g9 last n l=true
 |[],_,_,_=>rfl
 |a::r,last,h1,h2=>by
  unfold g9
  simp only [Bool.and_eq_true,decide_eq_true_eq]
  obtain ⟨p1,p2⟩:=List.pairwise_cons.1 h1
  have:=h2 a (List.mem_cons_self ..)
  exact ⟨⟨⟨this.1,this.2.1⟩,this.2.2⟩,aq6 p2 fun t ht=>⟨p1 t ht,(h2 t (List.mem_cons_of_mem _ ht)).2⟩⟩
theorem a9M {s:g8} {y:Nat->Rat} {k:Nat} {t:Int × Rat}:t ∈ U3 s y k↔∃v:Nat,v<k∧R3 s y v≠0∧t=((v:Int),R3 s y v):=by
 unfold U3
 rw [List.mem_map]
 constructor
 ·rintro ⟨v,hv,rfl⟩
  rw [List.mem_filter,List.mem_range] at hv
  exact ⟨v,hv.1,by simpa using hv.2,rfl⟩
 ·rintro ⟨v,h1,h2,rfl⟩
  exact ⟨v,by rw [List.mem_filter,List.mem_range];exact ⟨h1,by simpa using h2⟩,rfl⟩
theorem a9W (s:g8) (y:Nat->Rat) (k:Nat):g9 (-1) (k:Int) (U3 s y k)=true:=by
 refine aq6 ?_ fun t ht=>?_
 ·unfold U3
  rw [List.pairwise_map]
  exact ((List.pairwise_lt_range (n:=k)).filter _).imp fun {a b} h=>by show (a:Int)<b;omega
 ·obtain ⟨v,h1,h2,rfl⟩:=a9M.1 ht
  exact ⟨by simp only;omega,by simp only;omega,h2⟩
theorem b2T {s:g8} {y:Nat->Rat} {k v:Nat} (hv:v<k):z7 (U3 s y k) v=R3 s y v:=by
 by_cases h:R3 s y v=0
 ·rw [h]
  refine a2H _ fun i t _ ht=>?_
  obtain ⟨u,h1,h2,rfl⟩:=a9M.1 (lg2 ht)
  intro e
  have e:u=v:=by simpa using e
  exact h2 (e ▸ h)
 ·obtain ⟨i,hi,he⟩:=List.getElem_of_mem (a9M.2 ⟨v,hv,h,rfl⟩)
  have:=b0S (a9W s y k) (i:=i) (t:=((v:Int),R3 s y v)) (by rw [lg0 hi,he])
  simpa using this
def a3s (s:g8) (g:List (Int × Rat)) (Y:List Rat):Bool:=a3L s Y && g9 (-1) s.n g && (List.range s.n.toNat).all fun v=>decide (R3 s (yN Y) v<=z7 g v)
def ai2 (s:g8) (g:List (Int × Rat)) (Y:List Rat):S:=if a3s s g Y=true then .tup [frS (fz (a2z s (yN Y))),f9 true] else .tup [frS U0,f9 false]
set_option maxHeartbeats 2000000 in
theorem b6i (s:g8) (hb:ab1 s) (hr:j0 s=true) (g:List (Int × Rat)) (hg:g.length<=1000000) (hgb:∀t ∈ g,rl t.2<=200) (Y:List Rat) (hy:∀v ∈ Y,rl v<=40000) (hyl:Y.length<=1000000) (hq:Y.length=s.rows.length->b44 s Y):
 a9 Tryz.prog 95 [a0U s,s6 g,n6 (Y.map fz)] [] (ai2 s g Y) []:=by
 have hnn:0<=s.n∧s.n<=1500:=by
  unfold j0 at hr
  simp only [Bool.and_eq_true,decide_eq_true_eq] at hr
  exact ⟨hr.1.1.1,hr.1.1.2⟩
 have sn:=b3m s hb hr Y hyl (fun v hv=>by have:=hy v hv;omega)
 have rt:=a3x g s.n hg hgb
 rw [decide_eq_true hnn.1,Bool.true_and] at rt
 cases hs:a3L s Y with
 |false=>
  have e:ai2 s g Y=.tup [frS U0,f9 false]:=by unfold ai2 a3s;rw [hs];rfl
  rw [e]
  rw [hs] at sn
  (refine ac Tryz.func95 ?_;(conv=>whnf);repeat ((first|refine b0x ?_|refine zy ?_);conv=>whnf))
  repeat' (first|refine zz ?_|refine qp sn ?_|refine qp rt ?_|refine zd ?_ ?_<;>intro h<;>try omega|refine zy ?_|fail)<;>conv=>whnf
  all_goals first
   |(exfalso;simp_all;done)
   |exact k8 ⟨⟨rfl,rfl,rfl,rfl,trivial⟩,rfl,trivial⟩
 |true=>
 rw [hs] at sn
 cases ht:g9 (-1) s.n g with
 |false=>
  have e:ai2 s g Y=.tup [frS U0,f9 false]:=by unfold ai2 a3s;rw [hs,ht];rfl
  rw [e]
  rw [ht] at rt
  (refine ac Tryz.func95 ?_;(conv=>whnf);repeat ((first|refine b0x ?_|refine zy ?_);conv=>whnf))
  repeat' (first|refine zz ?_|refine qp sn ?_|refine qp rt ?_|refine zd ?_ ?_<;>intro h<;>try omega|refine zy ?_|fail)<;>conv=>whnf
  all_goals first
   |(exfalso;simp_all;done)
   |exact k8 ⟨⟨rfl,rfl,rfl,rfl,trivial⟩,rfl,trivial⟩
 |true=>
 rw [ht] at rt
 have hl:Y.length=s.rows.length:=by
  unfold a3L at hs
  simp only [Bool.and_eq_true,decide_eq_true_eq] at hs
  exact hs.1
 have hq:=hq hl
 have eb:a3s s g Y=(List.range s.n.toNat).all fun v=>decide (R3 s (yN Y) v<=z7 g v):=by unfold a3s;rw [hs,ht];simp
 have mx:=b98 s hb hr Y hq
 have ml:=aD0 s (yN Y) s.n.toNat
 have mr:=a9W s (yN Y) s.n.toNat
 (refine ac Tryz.func95 ?_;(conv=>whnf);repeat ((first|refine b0x ?_|refine zy ?_);conv=>whnf))
 repeat' (first|refine zz ?_|refine qp sn ?_|refine qp rt ?_|refine qp mx ?_|refine qp 5 ?_|refine bl0 [5] ?_|refine zd ?_ ?_<;>intro h<;>try omega|refine zy ?_|fail)<;>conv=>whnf
 all_goals try (exfalso;simp_all;done)
 refine f5 d7 (fun v=>([J,s6 g,J,S.c (C.t (T.ptr [ti s.n,M3 s.rows])),J,J,S.c (C.ptr 0 0 0),J,s6 (U3 s (yN Y) s.n.toNat),S.c (C.ptr 1 0 0),a7 .i64 v,J,J,J,J,J,J,J,J,J,J,J,J,J,J,J,J,J,J,J,J,J,J,J,J,J,J,J,J,J,J,J,J,J,J],[frB U0,frB (fz (a2z s (yN Y)))])) s.n.toNat (fun k=>(List.range k).all (fun v=>decide (R3 s (yN Y) v<=z7 g v))=true) [some 0,some 1] rfl
  ⟨rfl,rfl,⟨⟨rfl,rfl,rfl,.inr ⟨⟨rfl,rfl,rfl,rfl,trivial⟩,trivial⟩⟩,⟨rfl,rfl,rfl,.inl ⟨rfl,N3 _⟩⟩,trivial⟩,⟨rfl,rfl,⟨rfl,rfl,rfl⟩,rfl,⟨rfl,rfl,rfl⟩,rfl,trivial⟩⟩ ?_
 intro v hv hI
 by_cases hlt:v<s.n.toNat
 ·have c1:=aV7 (U3 s (yN Y) s.n.toNat) v mr (by omega) (by omega)
  rw [b2T hlt] at c1
  have c2:=aV7 g v ht hg (by omega)
  have b1:=hq.n v s.rows.length
  have b2:=b05 hgb v
  have b1:rl (R3 s (yN Y) v)<=50000:=b1
  have cm:=al5 (R3 s (yN Y) v) (z7 g v) (by omega) (by omega)
  have k2:=ab0 (x:=R3 s (yN Y) v) (y:=z7 g v)
  generalize a2K (R3 s (yN Y) v) (z7 g v)=U at cm k2
  by_cases hok:U > 0
  ·have hF:decide (R3 s (yN Y) v<=z7 g v)=false:=decide_eq_false (Rat.not_le.2 (k2.1 hok))
   have e:ai2 s g Y=.tup [frS U0,f9 false]:=by
    unfold ai2
    rw [eb,a6v (n:=s.n.toNat) hlt hF];rfl
   rw [e]
   clear k2
   conv=>whnf
   repeat' (first|refine zz ?_|refine qp c1 ?_|refine qp c2 ?_|refine qp cm ?_|refine zd ?_ ?_<;>intro h<;>try omega|refine zy ?_|fail)<;>conv=>whnf
   all_goals first
    |omega
    |exact k8 ⟨⟨rfl,rfl,rfl,rfl,trivial⟩,rfl,trivial⟩
  ·have hT:decide (R3 s (yN Y) v<=z7 g v)=true:=decide_eq_true (Rat.not_lt.1 (fun h=>hok (k2.2 h)))
   clear k2
   conv=>whnf
   repeat' (first|refine zz ?_|refine qp c1 ?_|refine qp c2 ?_|refine qp cm ?_|refine zd ?_ ?_<;>intro h<;>try omega|refine zy ?_|fail)<;>conv=>whnf
   all_goals first
    |omega
    |exact ⟨hlt,by rw [a49,hI,hT];rfl,[some 0,some 1],rfl,rfl,⟨⟨rfl,rfl,rfl,.inr ⟨⟨rfl,rfl,rfl,rfl,trivial⟩,trivial⟩⟩,⟨rfl,rfl,rfl,.inl ⟨rfl,N3 _⟩⟩,trivial⟩,⟨rfl,rfl,⟨rfl,rfl,rfl⟩,rfl,⟨rfl,rfl,rfl⟩,rfl,trivial⟩⟩
 ·have hke:v=s.n.toNat:=by omega
  subst hke
  have e:ai2 s g Y=.tup [frS (fz (a2z s (yN Y))),f9 true]:=by
   unfold ai2
   rw [eb,hI];rfl
  rw [e]
  conv=>whnf
  repeat' (first|refine zz ?_|refine zd ?_ ?_<;>intro h<;>try omega|refine zy ?_|fail)<;>conv=>whnf
  all_goals first
   |omega
   |exact k8 ⟨⟨rfl,rfl,rfl,rfl,trivial⟩,rfl,trivial⟩
structure b5X (z:List Fr):Prop where
 l:z.length<=1000000
 d:∀f ∈ z,f.p.dl.length<=200000∧f.q.dl.length<=200000
theorem b80 {Z:List Rat} (hl:Z.length<=1000000) (h:∀v ∈ Z,rl v<=200000):b5X (Z.map fz):=⟨by simpa using hl,fun f hf=>by
 obtain ⟨x,hx,rfl⟩:=List.mem_map.1 hf
 have:=h x hx
 have a:=G4 x
 have b:=H5 x
 exact ⟨by show bl x.num<=_;omega,by show bl x.den<=_;omega⟩⟩
theorem am3 {t:Int × Rat} {r:List (Int × Rat)} (h:∀u ∈ r,u.1.toNat≠t.1.toNat) (v:Nat):∀k,k<=r.length->M4 (t::r) (k+1) v=if v=t.1.toNat then t.2 else M4 r k v
 |0,_=>by
  rw [K7 (l:=t::r) (k:=0) (t:=t) rfl]
  simp only
  by_cases h1:v=t.1.toNat
  ·rw [if_pos h1,if_pos h1]
  ·rw [if_neg h1,if_neg h1]
   rfl
 |k+1,hk=>by
  have hx:r[k]? =some r[k]:=lg0 (by omega)
  have hne:=h _ (lg2 hx)
  rw [K7 (l:=t::r) (k:=k+1) (t:=r[k]) (by simp),K7 hx]
  have ih:=am3 h v k (by omega)
  simp only
  rw [ih]
  by_cases h1:v=t.1.toNat
  ·rw [if_pos h1,if_pos h1,if_neg (by omega)]
  ·rw [if_neg h1,if_neg h1]
theorem T4 {last n:Int} {t:Int × Rat} {r:List (Int × Rat)} (h0:-1<=last) (h:g9 last n (t::r)=true) (v:Nat):z7 (t::r) v=if v=t.1.toNat then t.2 else z7 r v:=by
 refine am3 (fun u hu=>?_) v r.length (Nat.le_refl _)
 obtain ⟨j,hj,he⟩:=List.getElem_of_mem hu
 have h1:=a3z h 0 (j+1) t u (by omega) rfl (by simp [he,hj])
 have h2:=F6 h t (List.mem_cons_self ..)
 omega
theorem a0s {last n:Int} {t:Int × Rat} {r:List (Int × Rat)} (h:g9 last n (t::r)=true):g9 t.1 n r=true:=by
 unfold g9 at h
 simp only [Bool.and_eq_true] at h
 exact h.2
theorem aL4 {last last' n:Int} (hl:last'<=last) {l:List (Int × Rat)} (h:g9 last n l=true):g9 last' n l=true:=by
 cases l with
 |nil=>rfl
 |cons t r=>
  unfold g9 at h ⊢
  simp only [Bool.and_eq_true,decide_eq_true_eq] at h ⊢
  exact ⟨⟨⟨by omega,h.1.1.2⟩,h.1.2⟩,h.2⟩
theorem af0 {last n:Int} {l:List (Int × Rat)} (h0:-1<=last) (h:g9 last n l=true) {v:Nat} (hv:(v:Int)<=last):z7 l v=0:=by
 refine a2H _ fun i t hi ht e=>?_
 have:=F6 h t (lg2 ht)
 omega
theorem aC6 (u:Int × Rat) (q:List (Int × Rat)):T.sl 5 (a0v SK.any none none) (List.drop (Int.toNat 1) (List.take (((((u::q).map j9).length:Nat):Int)).toNat ((u::q).map j9)))=.sl 5 .any (q.map j9):=by
 rw [lg4 (by omega)];rfl
theorem b4k (x:Rat):sgR x<0↔x<((0:Int):Rat):=by unfold sgR;split<;>(try split)<;>simp_all
theorem b3L {x y:Rat} {ρ:List (Option Nat)} {H:Hp} (h:x=y):a4l ρ H (frS (fz x)) (frS (fz y)):=by subst h;exact ⟨rfl,rfl,rfl,rfl,trivial⟩
theorem a8J (n lo hi:Int):a9 Tryz.prog 273 [a7 .i64 n,a7 .i64 lo,a7 .i64 hi] [] (f9 (btw n lo hi)) []:=by
 (refine ac Tryz.func273 ?_;(conv=>whnf);repeat (refine zy ?_;conv=>whnf))
 repeat' (first|refine zz ?_|refine zd ?_ ?_<;>intro h<;>try omega|refine zy ?_|fail)<;>conv=>whnf
 all_goals (refine b7 ?_;simp only [btw];simp;omega)
theorem aJ8 (c:K0):a9 Tryz.prog 297 [aN8 c] [] (f9 (O6 c)) []:=by
 have w1:=a8J c.scale 0 29
 have w2:=a8J c.grams 0 1099511627776
 have w3:=a8J c.permille 0 1000
 have w4:=a8J c.drift 0 10000000
 rw [ap3] at w1
 unfold O6
 cases h1:idx c.scale 30<;>cases h2:btw c.grams 0 1099511627776<;>cases h3:btw c.permille 0 1000<;>cases h4:btw c.drift 0 10000000<;>rw [h1] at w1<;>rw [h2] at w2<;>rw [h3] at w3<;>rw [h4] at w4<;>
 ·(refine ac Tryz.func297 ?_;(conv=>whnf);repeat (refine zy ?_;conv=>whnf))
  repeat' (first|refine zz ?_|refine qp w1 ?_|refine qp w2 ?_|refine qp w3 ?_|refine qp w4 ?_|refine zd ?_ ?_<;>intro h<;>try omega|refine zy ?_|fail)<;>conv=>whnf
  all_goals (refine b7 ?_;simp;try omega)
def a4w (o:Option Nat):Int:=match o with
 |none=>-1
 |some b=>b
set_option maxHeartbeats 2000000 in
theorem b5f (cs:List K0) (scale day:Int) (hl:cs.length<=1000000):
 a9 Tryz.prog 271 [.c (.t (Z6 cs)),a7 .i64 scale,a7 .i64 day] [] (.tup [a7 .i64 (a7C (B6 cs scale day cs.length)),f9 (B6 cs scale day cs.length).isSome]) []:=by
 have l1:(cs.map K0.row).length=cs.length:=by simp
 (refine ac Tryz.func271 ?_;(conv=>whnf);repeat ((first|refine b0x ?_|refine zy ?_);conv=>whnf))
 repeat' (first|refine zz ?_|refine zd ?_ ?_<;>intro h<;>try omega|refine zy ?_|fail)<;>conv=>whnf
 refine f5 d7 (fun k=>([S.c (C.t (Z6 cs)),a7 .i64 scale,a7 .i64 day,J,J,J,J,J,a7 .i64 (a4w (B6 cs scale day k)),a7 .i64 k,J,J,J,J,J,J,J,J,J,J,J,J,J,J,J,J,J,J,J,J,J,J,J,J,J,J,J,J,J,J,J,J,J,J,J,J,J,J,J,J,J,J,J,J,J,J,J],[])) cs.length (fun _=>True) [] trivial
  ⟨rfl,rfl,trivial,⟨rfl,rfl,rfl,rfl,rfl,trivial⟩⟩ ?_
 intro k hk _
 by_cases hlt:k<cs.length
 ·obtain ⟨c,hc⟩:∃c,cs[k]? =some c:=⟨_,lg0 hlt⟩
  have cr:=aJ8 c
  have ci:=a8J day c.since c.till
  have hst:B6 cs scale day (k+1)=if decide (c.scale=scale) && J5 c day && a3G cs (B6 cs scale day k) c then some k else B6 cs scale day k:=by
   conv=>lhs;unfold B6
   rw [hc]
  have nxt:∀z:Int,a4w (B6 cs scale day (k+1))=z->z=a4w (B6 cs scale day (k+1)):=fun z h=>h.symm
  cases hr:O6 c with
  |false=>
   have hcv:J5 c day=false:=by unfold J5;rw [hr];rfl
   rw [hcv] at hst
   simp only [Bool.and_false,Bool.false_and,Bool.false_eq_true,if_false] at hst
   rw [hr] at cr
   rw [← hst]
   conv=>whnf
   repeat' (first|refine zz ?_|refine qp cr ?_|refine d8 hc ?_|refine zd ?_ ?_<;>intro h<;>try omega|refine zy ?_|fail)<;>conv=>whnf
   all_goals first
    |omega
    |(exfalso;simp_all;done)
    |exact ⟨hlt,trivial,[],rfl,rfl,trivial,⟨rfl,rfl,rfl,rfl,rfl,trivial⟩⟩
  |true=>
  rw [hr] at cr
  cases hb:btw day c.since c.till with
  |false=>
   have hcv:J5 c day=false:=by unfold J5;rw [hr,hb];rfl
   rw [hcv] at hst
   simp only [Bool.and_false,Bool.false_and,Bool.false_eq_true,if_false] at hst
   rw [hb] at ci
   rw [← hst]
   conv=>whnf
   repeat' (first|refine zz ?_|refine qp cr ?_|refine qp ci ?_|refine d8 hc ?_|refine zd ?_ ?_<;>intro h<;>try omega|refine zy ?_|fail)<;>conv=>whnf
   all_goals first
    |omega
    |(exfalso;simp_all;done)
    |exact ⟨hlt,trivial,[],rfl,rfl,trivial,⟨rfl,rfl,rfl,rfl,rfl,trivial⟩⟩
  |true=>
   have hcv:J5 c day=true:=by unfold J5;rw [hr,hb];rfl
   rw [hcv] at hst
   rw [hb] at ci
   cases hf:B6 cs scale day k with
   |none=>
    rw [hf] at hst
    have e0:a4w none=-1:=rfl
    rw [e0]
    by_cases hsc:c.scale=scale
    ·have hst2:(k:Int)=a4w (B6 cs scale day (k+1)):=by rw [hst,if_pos (by simp [hsc,a3G])];rfl
     clear hst hcv hr hb nxt
     conv=>whnf
     repeat' (first|refine zz ?_|refine qp cr ?_|refine qp ci ?_|refine d8 hc ?_|refine zd ?_ ?_<;>intro h<;>try omega|refine zy ?_|fail)<;>conv=>whnf
     all_goals first
      |omega
      |exact ⟨hlt,trivial,[],rfl,rfl,trivial,⟨rfl,rfl,rfl,b9 hst2,rfl,trivial⟩⟩
    ·have hst2:(-1:Int)=a4w (B6 cs scale day (k+1)):=by rw [hst,if_neg (by simp [hsc])];rfl
     clear hst hcv hr hb nxt
     conv=>whnf
     repeat' (first|refine zz ?_|refine qp cr ?_|refine qp ci ?_|refine d8 hc ?_|refine zd ?_ ?_<;>intro h<;>try omega|refine zy ?_|fail)<;>conv=>whnf
     all_goals first
      |omega
      |exact ⟨hlt,trivial,[],rfl,rfl,trivial,⟨rfl,rfl,rfl,b9 hst2,rfl,trivial⟩⟩
   |some b=>
    rw [hf] at hst
    obtain ⟨hb',cb,hcb,_⟩:=L4 hf
    have hsb:=aI4 hcb
    have e0:a4w (some b)=(b:Int):=rfl
    have em:(if (0:Int) > (b:Int) then 0 else (b:Int))=(b:Int):=if_neg (by omega)
    rw [e0]
    by_cases hsc:c.scale=scale∧cb.since<=c.since
    ·have hst2:(k:Int)=a4w (B6 cs scale day (k+1)):=by rw [hst,if_pos (by simp [hsc.1,a3G,hsb,hsc.2])];rfl
     clear hst hcv hr hb nxt
     conv=>whnf
     repeat' (first|refine zz ?_|refine qp cr ?_|refine qp ci ?_|refine d8 hc ?_|refine I2 em hcb ?_|refine zd ?_ ?_<;>intro h<;>try omega|refine zy ?_|fail)<;>conv=>whnf
     all_goals first
      |omega
      |exact ⟨hlt,trivial,[],rfl,rfl,trivial,⟨rfl,rfl,rfl,b9 hst2,rfl,trivial⟩⟩
    ·have hst2:(b:Int)=a4w (B6 cs scale day (k+1)):=by
      rw [hst,if_neg (by simp only [Bool.and_eq_true,decide_eq_true_eq,a3G,hsb];intro h;exact hsc ⟨h.1.1,h.2⟩)];rfl
     clear hst hcv hr hb nxt
     conv=>whnf
     repeat' (first|refine zz ?_|refine qp cr ?_|refine qp ci ?_|refine d8 hc ?_|refine I2 em hcb ?_|refine zd ?_ ?_<;>intro h<;>try omega|refine zy ?_|fail)<;>conv=>whnf
     all_goals first
      |omega
      |exact ⟨hlt,trivial,[],rfl,rfl,trivial,⟨rfl,rfl,rfl,b9 hst2,rfl,trivial⟩⟩
 ·have hke:k=cs.length:=by omega
  subst hke
  cases hf:B6 cs scale day cs.length with
  |none=>
   have e0:a4w none=-1:=rfl
   rw [e0]
   conv=>whnf
   repeat' (first|refine zz ?_|refine zd ?_ ?_<;>intro h<;>try omega|refine zy ?_|fail)<;>conv=>whnf
   all_goals first
    |omega
    |exact k8 ⟨rfl,rfl,trivial⟩
  |some b=>
   have e0:a4w (some b)=(b:Int):=rfl
   have em:(if (0:Int) > (b:Int) then 0 else (b:Int))=(b:Int):=if_neg (by omega)
   rw [e0]
   conv=>whnf
   repeat' (first|refine zz ?_|refine zd ?_ ?_<;>intro h<;>try omega|refine zy ?_|fail)<;>conv=>whnf
   all_goals first
    |omega
    |exact k8 ⟨b9 em,rfl,trivial⟩
theorem aH9 (rs:List y0) (hl:rs.length<=1000000) (scale day:Int):a9 Tryz.prog 272 [.c (.t (J6 rs)),a7 .i64 scale,a7 .i64 day] [] (f9 (R5 rs scale day)) []:=by
 have l1:(rs.map y0.row).length=rs.length:=by simp
 (refine ac Tryz.func272 ?_;(conv=>whnf);repeat ((first|refine b0x ?_|refine zy ?_);conv=>whnf))
 repeat' (first|refine zz ?_|refine zd ?_ ?_<;>intro h<;>try omega|refine zy ?_|fail)<;>conv=>whnf
 refine f5 d7 (fun k=>([S.c (C.t (J6 rs)),a7 .i64 scale,a7 .i64 day,J,J,J,J,a7 .i64 k,J,J,J,J,J,J,J,J,J,J,J,J,J,J,J,J,J,J,J,J,J,J],[])) rs.length (fun k=>(rs.take k).any (fun r=>decide (r.scale=scale) && decide (r.since<=day))=false) [] rfl
  ⟨rfl,rfl,trivial,⟨rfl,rfl,rfl,rfl,trivial⟩⟩ ?_
 intro k hk hI
 by_cases hlt:k<rs.length
 ·obtain ⟨r,hr⟩:∃r,rs[k]? =some r:=⟨_,lg0 hlt⟩
  conv=>whnf
  repeat' (first|refine zz ?_|refine d8 hr ?_|refine zd ?_ ?_<;>intro h<;>try omega|refine zy ?_|fail)<;>conv=>whnf
  all_goals first
   |omega
   |(refine ⟨hlt,?_,[],rfl,rfl,trivial,⟨rfl,rfl,rfl,rfl,trivial⟩⟩;rw [a0D hr,hI];simp [*];done)
   |(refine ⟨hlt,?_,[],rfl,rfl,trivial,⟨rfl,rfl,rfl,rfl,trivial⟩⟩;rw [a0D hr,hI];simp;omega)
   |(refine b7 ?_;unfold R5;rw [a2W hr];simp [*];done)
   |(refine b7 ?_;unfold R5;rw [a2W hr];simp;omega)
 ·rw [lg4 (by omega)] at hI
  conv=>whnf
  repeat' (first|refine zz ?_|refine zd ?_ ?_<;>intro h<;>try omega|refine zy ?_|fail)<;>conv=>whnf
  all_goals first
   |omega
   |exact b7 hI.symm
theorem b2D (c:K0) (reading day:Int) (h:J5 c day=true) (hr:btw reading 0 1099511627776=true):a9 Tryz.prog 274 [aN8 c,a7 .i64 reading,a7 .i64 day] []
 (.tup [frS (fz (a2p c reading day)),f9 true]) []:=by
 have cr:=aJ8 c
 have ci:=a8J day c.since c.till
 have wi:=a8J reading 0 1099511627776
 have hcr:O6 c=true:=by unfold J5 at h;simp only [Bool.and_eq_true] at h;exact h.1
 have hci:btw day c.since c.till=true:=by unfold J5 at h;simp only [Bool.and_eq_true] at h;exact h.2
 rw [hcr] at cr
 rw [hci] at ci
 rw [hr] at wi
 have hc:=a31 h
 obtain ⟨p0,p1,d0,d1⟩:=b3o.of h hr
 rw [V5] at hr
 have fo:=b90 (c.permille*reading) 1000 (by decide) (by omega) (by omega) (by decide)
 have fi:=a2M (c.grams+c.drift*(day - c.since)) (by omega) (by omega)
 have h2:rl (Rat.divInt (c.permille*reading) 1000)<=4:=Nat.le_trans (Q1 (by decide)) (by have:=U2 (x:=c.permille*reading) (by omega) (by omega);have:=U2 (x:=1000) (by decide) (by decide);omega)
 have h3:rl ((c.grams+c.drift*(day - c.since):Int):Rat)<=4:=by rw [a2k];have:=U2 (x:=c.grams+c.drift*(day - c.since)) (by omega) (by omega);omega
 have ad:=aZ5 ((c.grams+c.drift*(day - c.since):Int):Rat) (Rat.divInt (c.permille*reading) 1000) (by omega) (by omega)
 (refine ac Tryz.func274 ?_;(conv=>whnf);repeat (refine zy ?_;conv=>whnf))
 repeat' (first|refine zz ?_|refine qp cr ?_|refine qp ci ?_|refine qp wi ?_|refine qp fo ?_|refine qp fi ?_|refine qp ad ?_|refine qp 7 ?_|refine qp 15 ?_|refine bl0 [7] ?_|refine bl0 [15] ?_|refine zd ?_ ?_<;>intro h<;>try omega|refine zy ?_|fail)<;>conv=>whnf
 all_goals first
  |(exfalso;simp_all;done)
  |exact b3j (by rw [Rat.add_comm];rfl) rfl
theorem aH5 (cs:List K0) (rs:List y0) (hl:cs.length<=1000000) (hl2:rs.length<=1000000) (scale reading day:Int):
 a9 Tryz.prog 224 [.c (.t (Z6 cs)),.c (.t (J6 rs)),a7 .i64 scale,a7 .i64 reading,a7 .i64 day] [] (.tup (ivL (C3 cs rs scale reading day))) []:=by
 have f:=b5f cs scale day hl
 have r:=aH9 rs hl2 scale day
 have wi:=a8J reading 0 1099511627776
 unfold C3
 cases hf:B6 cs scale day cs.length with
 |none=>
  rw [hf] at f
  (refine ac Tryz.func224 ?_;(conv=>whnf);repeat (refine zy ?_;conv=>whnf))
  repeat' (first|refine zz ?_|refine qp f ?_|refine qp r ?_|refine qp wi ?_|refine qp 1 ?_|refine bl0 [1] ?_|refine zd ?_ ?_<;>intro h<;>try omega|refine zy ?_|fail)<;>conv=>whnf
  all_goals first
   |(exfalso;simp_all;done)
   |exact k8 ⟨⟨rfl,rfl,rfl,rfl,trivial⟩,⟨rfl,rfl,rfl,rfl,trivial⟩,rfl,trivial⟩
 |some i=>
  rw [hf] at f
  obtain ⟨hb,c,hc,_,hcv⟩:=L4 hf
  have e:a0X cs i=c:=by unfold a0X;rw [hc];rfl
  simp only [e]
  cases hrec:R5 rs scale day with
  |true=>
   rw [hrec] at r
   (refine ac Tryz.func224 ?_;(conv=>whnf);repeat (refine zy ?_;conv=>whnf))
   repeat' (first|refine zz ?_|refine qp f ?_|refine qp r ?_|refine qp wi ?_|refine qp 1 ?_|refine bl0 [1] ?_|refine zd ?_ ?_<;>intro h<;>try omega|refine zy ?_|fail)<;>conv=>whnf
   all_goals first
    |(exfalso;simp_all;done)
    |exact k8 ⟨⟨rfl,rfl,rfl,rfl,trivial⟩,⟨rfl,rfl,rfl,rfl,trivial⟩,rfl,trivial⟩
  |false=>
   rw [hrec] at r
   cases hr:btw reading 0 1099511627776 with
   |false=>
    rw [hr] at wi
    (refine ac Tryz.func224 ?_;(conv=>whnf);repeat (refine zy ?_;conv=>whnf))
    repeat' (first|refine zz ?_|refine qp f ?_|refine qp r ?_|refine qp wi ?_|refine qp 1 ?_|refine bl0 [1] ?_|refine zd ?_ ?_<;>intro h<;>try omega|refine zy ?_|fail)<;>conv=>whnf
    all_goals first
     |exact k8 ⟨⟨rfl,rfl,rfl,rfl,trivial⟩,⟨rfl,rfl,rfl,rfl,trivial⟩,rfl,trivial⟩
     |(exfalso;simp_all;done)
   |true=>
    have er:=b2D c reading day hcv hr
    have l1:=aW8 hcv hr
    rw [hr] at wi
    rw [V5] at hr
    have l2:rl (reading:Rat)<=4:=by rw [a2k];have:=U2 (x:=reading) (by omega) (by omega);omega
    have fi:=a2M reading (by omega) (by omega)
    have f0:=a2M 0 (by omega) (by omega)
    have sb:=b9H (reading:Rat) (a2p c reading day) (by omega) (by omega)
    have ad:=aZ5 (reading:Rat) (a2p c reading day) (by omega) (by omega)
    have l4:=aQ7 (reading:Rat) (a2p c reading day)
    have sg:=a65 ((reading:Rat) - a2p c reading day) (by omega)
    have hs:=b4k ((reading:Rat) - a2p c reading day)
    (refine ac Tryz.func224 ?_;(conv=>whnf);repeat (refine zy ?_;conv=>whnf))
    repeat' (first|refine zz ?_|refine qp f ?_|refine qp r ?_|refine qp wi ?_|refine qp er ?_|refine qp fi ?_|refine qp f0 ?_|refine qp sb ?_|refine qp ad ?_|refine qp sg ?_|refine qp 1 ?_|refine qp 9 ?_|refine qp 6 ?_|refine d8 hc ?_|refine bl0 [1] ?_|refine bl0 [9] ?_|refine bl0 [6] ?_|refine zd ?_ ?_<;>intro h<;>try omega|refine zy ?_|fail)<;>conv=>whnf
    ·have hn:(reading:Rat) - a2p c reading day<((0:Int):Rat):=hs.1 (by omega)
     refine k8 ⟨b3L ?_,⟨rfl,rfl,rfl,rfl,trivial⟩,rfl,trivial⟩
     unfold ax6;rw [if_pos hn]
    ·have hn:¬(reading:Rat) - a2p c reading day<((0:Int):Rat):=fun h=>absurd (hs.2 h) (by omega)
     refine k8 ⟨b3L ?_,⟨rfl,rfl,rfl,rfl,trivial⟩,rfl,trivial⟩
     unfold ax6;rw [if_neg hn]
    all_goals (have hq:(some i).isSome=false:=by assumption;cases hq)
theorem a6K (n lo hi:Int):a9 Tryz.prog 157 [a7 .i64 n,a7 .i64 lo,a7 .i64 hi] [] (f9 (btw n lo hi)) []:=by
 (refine ac Tryz.func157 ?_;(conv=>whnf);repeat (refine zy ?_;conv=>whnf))
 repeat' (first|refine zz ?_|refine zd ?_ ?_<;>intro h<;>try omega|refine zy ?_|fail)<;>conv=>whnf
 all_goals (refine b7 ?_;simp only [btw];simp;omega)
theorem a2j (n m:Int):a9 Tryz.prog 157 [a7 .i64 n,a7 .i64 0,a7 .i64 (m - 1)] [] (f9 (idx n m)) []:=by
 rw [← b0k];exact a6K n 0 (m - 1)
theorem b5B (e:Ev) (hs:e.Sized):a9 Tryz.prog 231 [evS e] [] (f9 (a1F e)) []:=by
 have l1:(e.places.map J1.row).length=e.places.length:=by simp
 have l2:(e.moves.map x4.row).length=e.moves.length:=by simp
 have l3:(e.certs.map K0.row).length=e.certs.length:=by simp
 have l4:(e.recalls.map y0.row).length=e.recalls.length:=by simp
 have l5:(e.purities.map a0Z.row).length=e.purities.length:=by simp
 (refine ac Tryz.func231 ?_;(conv=>whnf);repeat ((first|refine b0x ?_|refine zy ?_);conv=>whnf))
 repeat' (first|refine zz ?_|refine zd ?_ ?_<;>intro h<;>try omega|refine zy ?_|fail)<;>conv=>whnf
 all_goals (refine b7 ?_;unfold a1F;simp;omega)
theorem b4X (e:Ev) (p:J1) (h1:1<=e.mats) (h2:e.mats<=6) (h3:0<=e.hhs) (h4:e.hhs<=100):a9 Tryz.prog 232 [evS e,.agg (p.row.map .t)] [] (f9 (W3 e p)) []:=by
 have i3:=a2j p.kind 7
 (refine ac Tryz.func232 ?_;(conv=>whnf);repeat ((first|refine b0x ?_|refine zy ?_);conv=>whnf))
 repeat' (first|refine zz ?_|refine qp (a2j p.hh e.hhs) ?_|refine qp (a2j p.mat e.mats) ?_|refine qp i3 ?_|refine zd ?_ ?_<;>intro h<;>try omega|refine zy ?_|fail)<;>conv=>whnf
 all_goals first
  |omega
  |(refine b7 ?_;simp_all [W3]<;>decide)
def a1Y (e:Ev) (k:Nat) (x:x4):Int:=if x.day<0∨100000<x.day∨(0<k∧x.day<a2C e k) then 17 else if G2 e x then 0 else 1
set_option maxHeartbeats 4000000 in
theorem b6p (e:Ev) (k:Nat) (x:x4) (hx:e.moves[k]? =some x) (hf:a1F e=false) (h1:1<=e.mats) (h3:0<=e.hhs) (h5:0<=e.scs):a9 Tryz.prog 233 [evS e,a7 .i64 k] [] (a7 .i64 (a1Y e k x)) []:=by
 have l1:(e.places.map J1.row).length=e.places.length:=by simp
 have l2:(e.moves.map x4.row).length=e.moves.length:=by simp
 have hk:k<e.moves.length:=(lg1 hx).1
 unfold a1F at hf
 simp only [Bool.or_eq_false_iff,decide_eq_false_iff_not] at hf
 obtain ⟨y,hy⟩:∃y,e.moves[k - 1]? =some y:=⟨_,lg0 (by omega)⟩
 have hl:0<k->a2C e k=y.day:=fun h=>by
  obtain ⟨j,rfl⟩:∃j,k=j+1:=⟨k - 1,by omega⟩
  exact a1A hy
 have d:=a6K x.day 0 100000
 have is:=a2j x.src (e.places.map J1.row).length
 have id:=a2j x.dst (e.places.map J1.row).length
 have ic:=a2j x.scale e.scs
 have ir:=a6K x.reading 0 1099511627776
 have hdd:(x.day<0∨100000<x.day∨(0<k∧x.day<a2C e k))↔(x.day<0∨100000<x.day∨(0<k∧x.day<y.day)):=by
  rcases Nat.eq_zero_or_pos k with h|h
  ·simp [h]
  ·rw [hl h]
 clear hl
 have em:(if (0:Int) > (k:Int) - 1 then 0 else (k:Int) - 1)=((k - 1:Nat):Int):=by split<;>omega
 by_cases hd:x.day<0∨100000<x.day∨(0<k∧x.day<y.day)
 ·have e1:a1Y e k x=17:=by unfold a1Y;rw [if_pos (hdd.2 hd)]
  clear hdd
  rw [e1]
  have hb:=V5 (a:=x.day) (b:=0) (c:=100000)
  (refine ac Tryz.func233 ?_;(conv=>whnf);repeat ((first|refine b0x ?_|refine zy ?_);conv=>whnf))
  repeat' (first|refine zz ?_|refine qp d ?_|refine d8 hx ?_|refine I2 em hy ?_|refine zd ?_ ?_<;>intro h<;>try omega|refine zy ?_|fail)<;>conv=>whnf
  all_goals first
   |exact j8 rfl
   |(exfalso;have:=hb.1 (by assumption);omega)
   |omega
 have e1:a1Y e k x=if G2 e x then 0 else 1:=by unfold a1Y;rw [if_neg (fun h=>hd (hdd.1 h))]
 clear hdd
 rw [e1]
 have hd':btw x.day 0 100000=true:=by rw [V5];omega
 rw [hd'] at d
 cases h1:idx x.src e.places.length with
 |false=>
  rw [← l1] at h1
  rw [h1] at is
  rw [l1] at h1
  (refine ac Tryz.func233 ?_;(conv=>whnf);repeat ((first|refine b0x ?_|refine zy ?_);conv=>whnf))
  repeat' (first|refine zz ?_|refine qp d ?_|refine qp is ?_|refine d8 hx ?_|refine I2 em hy ?_|refine zd ?_ ?_<;>intro h<;>try omega|refine zy ?_|fail)<;>conv=>whnf
  all_goals first
   |(refine j8 ?_;simp [G2,h1];done)
   |(exfalso;simp_all;done)
   |omega
 |true=>
  obtain ⟨hs0,p,hp,kp⟩:=a5k h1
  rw [← l1] at h1
  rw [h1] at is
  rw [l1] at h1
  cases h2:idx x.dst e.places.length with
  |false=>
   rw [← l1] at h2
   rw [h2] at id
   rw [l1] at h2
   (refine ac Tryz.func233 ?_;(conv=>whnf);repeat ((first|refine b0x ?_|refine zy ?_);conv=>whnf))
   repeat' (first|refine zz ?_|refine qp d ?_|refine qp is ?_|refine qp id ?_|refine d8 hx ?_|refine I2 em hy ?_|refine zd ?_ ?_<;>intro h<;>try omega|refine zy ?_|fail)<;>conv=>whnf
   all_goals first
    |(refine j8 ?_;simp [G2,h1,h2];done)
    |(exfalso;simp_all;done)
    |omega
  |true=>
   obtain ⟨hd0,q,hq,kq⟩:=a5k h2
   rw [← l1] at h2
   rw [h2] at id
   rw [l1] at h2
   (refine ac Tryz.func233 ?_;(conv=>whnf);repeat ((first|refine b0x ?_|refine zy ?_);conv=>whnf))
   repeat' (first|refine zz ?_|refine qp d ?_|refine qp is ?_|refine qp id ?_|refine qp ic ?_|refine qp ir ?_|refine d8 hx ?_|refine o7 hs0 hp ?_|refine o7 hd0 hq ?_|refine I2 em hy ?_|refine zd ?_ ?_<;>intro h<;>try omega|refine zy ?_|fail)<;>conv=>whnf
   all_goals first
    |(refine j8 ?_;simp_all [G2];done)
    |(exfalso;simp_all;done)
    |omega
theorem b5F (e:Ev) (hs:e.Sized) (hf:a1F e=false) (h1:1<=e.mats) (h5:0<=e.scs):a9 Tryz.prog 234 [evS e] [] (f9 (X4 e)) []:=by
 have l2:(e.certs.map K0.row).length=e.certs.length:=by simp
 have l4:(e.recalls.map y0.row).length=e.recalls.length:=by simp
 have l6:(e.purities.map a0Z.row).length=e.purities.length:=by simp
 have l8:(e.moves.map x4.row).length=e.moves.length:=by simp
 unfold a1F at hf
 simp only [Bool.or_eq_false_iff,decide_eq_false_iff_not] at hf
 (refine ac Tryz.func234 ?_;(conv=>whnf);repeat ((first|refine b0x ?_|refine zy ?_);conv=>whnf))
 repeat' (first|refine zz ?_|refine zd ?_ ?_<;>intro h<;>try omega|refine zy ?_|fail)<;>conv=>whnf
 refine f5 d7 (fun k=>([J,S.c (C.t (T.ptr (evT e))),J,a7 .i64 k,J,J,J,J,J,J,J,J,J,J,J,J,J,J,J,J,J,J,J,J,J,J,J,J,J,J,J,J,J,J,J,J,J,J,J,J,J,J,J,J,J,J,J,J,J,J,J,J,J,J,J,J,J,J,J,J,J,J,J,J,J,J,J,J,J,J,J,J,J,J,J,J,J,J,J,J,J,J,J,J,J,J,J,J,J,J,J,J,J,J,J,J,J,J,J,J,J,J,J,J,J,J,J,J,J,J,J,J,J,J,J,J,J,J,J,J,J,J,J,J,J,J,J,J],[])) e.certs.length (fun k=>(e.certs.take k).all (a3w e)=true) [] rfl
  ⟨rfl,rfl,trivial,⟨rfl,rfl,trivial⟩⟩ ?_
 intro k hk hI
 by_cases hlt:k<e.certs.length
 ·obtain ⟨x,hx⟩:∃x,e.certs[k]? =some x:=⟨_,lg0 hlt⟩
  conv=>whnf
  repeat' (first|refine zz ?_|refine qp (a2j x.scale e.scs) ?_|refine qp (a6K x.till x.since 100000) ?_|refine qp (a6K x.grams 0 1099511627776) ?_|refine qp (a6K x.permille 0 1000) ?_|refine qp (a6K x.drift 0 10000000) ?_|refine d8 hx ?_|refine zd ?_ ?_<;>intro h<;>try omega|refine zy ?_|fail)<;>conv=>whnf
  all_goals first
   |omega
   |(refine ⟨hlt,?_,[],rfl,rfl,trivial,⟨rfl,rfl,trivial⟩⟩;rw [t6 hx,hI];simp_all [a3w,btw];done)
   |(refine b7 ?_;rw [X4,x9 hx];rfl;simp_all [a3w,btw];(try omega);done)
 ·have hc:e.certs.all (a3w e)=true:=by rw [← hI,lg4 (by omega)]
  conv=>whnf
  repeat' (first|refine zz ?_|refine zd ?_ ?_<;>intro h<;>try omega|refine zy ?_|fail)<;>conv=>whnf
  all_goals try omega
  clear hI hlt hk
  refine f5 d7 (fun k=>([J,S.c (C.t (T.ptr (evT e))),J,J,J,a7 .i64 k,J,J,J,J,J,J,J,J,J,J,J,J,J,J,J,J,J,J,J,J,J,J,J,J,J,J,J,J,J,J,J,J,J,J,J,J,J,J,J,J,J,J,J,J,J,J,J,J,J,J,J,J,J,J,J,J,J,J,J,J,J,J,J,J,J,J,J,J,J,J,J,J,J,J,J,J,J,J,J,J,J,J,J,J,J,J,J,J,J,J,J,J,J,J,J,J,J,J,J,J,J,J,J,J,J,J,J,J,J,J,J,J,J,J,J,J,J,J,J,J,J,J],[])) e.recalls.length (fun k=>(e.recalls.take k).all (Z2 e)=true) [] rfl
   ⟨rfl,rfl,trivial,⟨rfl,rfl,trivial⟩⟩ ?_
  intro k hk hI
  by_cases hlt:k<e.recalls.length
  ·obtain ⟨x,hx⟩:∃x,e.recalls[k]? =some x:=⟨_,lg0 hlt⟩
   conv=>whnf
   repeat' (first|refine zz ?_|refine qp (a2j x.scale e.scs) ?_|refine qp (a6K x.since 0 100000) ?_|refine d8 hx ?_|refine zd ?_ ?_<;>intro h<;>try omega|refine zy ?_|fail)<;>conv=>whnf
   all_goals first
    |omega
    |(refine ⟨hlt,?_,[],rfl,rfl,trivial,⟨rfl,rfl,trivial⟩⟩;rw [t6 hx,hI];simp_all [Z2];done)
    |(refine b7 ?_;rw [X4,hc,x9 hx];rfl;simp_all [Z2];done)
  ·have hr:e.recalls.all (Z2 e)=true:=by rw [← hI,lg4 (by omega)]
   conv=>whnf
   repeat' (first|refine zz ?_|refine zd ?_ ?_<;>intro h<;>try omega|refine zy ?_|fail)<;>conv=>whnf
   all_goals try omega
   clear hI hlt hk
   refine f5 d7 (fun k=>([J,S.c (C.t (T.ptr (evT e))),J,J,J,J,a7 .i64 k,J,J,J,J,J,J,J,J,J,J,J,J,J,J,J,J,J,J,J,J,J,J,J,J,J,J,J,J,J,J,J,J,J,J,J,J,J,J,J,J,J,J,J,J,J,J,J,J,J,J,J,J,J,J,J,J,J,J,J,J,J,J,J,J,J,J,J,J,J,J,J,J,J,J,J,J,J,J,J,J,J,J,J,J,J,J,J,J,J,J,J,J,J,J,J,J,J,J,J,J,J,J,J,J,J,J,J,J,J,J,J,J,J,J,J,J,J,J,J,J,J],[])) e.purities.length (fun k=>(e.purities.take k).all (a07 e)=true) [] rfl
    ⟨rfl,rfl,trivial,⟨rfl,rfl,trivial⟩⟩ ?_
   intro k hk hI
   by_cases hlt:k<e.purities.length
   ·obtain ⟨x,hx⟩:∃x,e.purities[k]? =some x:=⟨_,lg0 hlt⟩
    conv=>whnf
    repeat' (first|refine zz ?_|refine qp (a2j x.move (e.moves.map x4.row).length) ?_|refine qp (a2j x.mat e.mats) ?_|refine qp (a6K x.most x.least 1000) ?_|refine d8 hx ?_|refine zd ?_ ?_<;>intro h<;>try omega|refine zy ?_|fail)<;>conv=>whnf
    all_goals first
     |omega
     |(refine ⟨hlt,?_,[],rfl,rfl,trivial,⟨rfl,rfl,trivial⟩⟩;rw [t6 hx,hI];simp_all [a07,btw];done)
     |(refine b7 ?_;rw [X4,hc,hr,x9 hx];rfl;simp_all [a07,btw];(try omega);done)
   ·have hp:e.purities.all (a07 e)=true:=by rw [← hI,lg4 (by omega)]
    conv=>whnf
    repeat' (first|refine zz ?_|refine zd ?_ ?_<;>intro h<;>try omega|refine zy ?_|fail)<;>conv=>whnf
    all_goals first
     |omega
     |(refine b7 ?_;rw [X4,hc,hr,hp];rfl)
theorem b4l (e:Ev) (hs:e.Sized):a9 Tryz.prog 155 [evS e] [] (a7 .i64 (C6 e)) []:=by
 have l1:(e.places.map J1.row).length=e.places.length:=by simp
 have l8:(e.moves.map x4.row).length=e.moves.length:=by simp
 have fu:=b5B e hs
 cases hf:a1F e with
 |true=>
  rw [hf] at fu
  (refine ac Tryz.func155 ?_;(conv=>whnf);repeat ((first|refine b0x ?_|refine zy ?_);conv=>whnf))
  repeat' (first|refine zz ?_|refine qp fu ?_|refine zd ?_ ?_<;>intro h<;>try omega|refine zy ?_|fail)<;>conv=>whnf
  all_goals first
   |(exfalso;simp_all;done)
   |(refine j8 ?_;unfold C6;rw [if_pos hf])
 |false=>
  rw [hf] at fu
  by_cases hb:e.mats<1∨e.hhs<0∨e.scs<0
  ·have e1:C6 e=1:=by
    unfold C6;rw [if_neg (by simp [hf]),if_pos (by rcases hb with h|h|h<;>simp [h])]
   rw [e1]
   (refine ac Tryz.func155 ?_;(conv=>whnf);repeat ((first|refine b0x ?_|refine zy ?_);conv=>whnf))
   repeat' (first|refine zz ?_|refine qp fu ?_|refine zd ?_ ?_<;>intro h<;>try omega|refine zy ?_|fail)<;>conv=>whnf
   all_goals first
    |(exfalso;simp_all;done)
    |omega
    |exact j8 rfl
  have hfb:=hf
  unfold a1F at hfb
  simp only [Bool.or_eq_false_iff,decide_eq_false_iff_not] at hfb
  (refine ac Tryz.func155 ?_;(conv=>whnf);repeat ((first|refine b0x ?_|refine zy ?_);conv=>whnf))
  repeat' (first|refine zz ?_|refine qp fu ?_|refine zd ?_ ?_<;>intro h<;>try omega|refine zy ?_|fail)<;>conv=>whnf
  all_goals try omega
  refine f5 d7 (fun k=>([J,S.c (C.t (T.ptr (evT e))),J,a7 .i64 k,J,J,J,J,J,J,J,J,J,J,J,J,J,J,J,J,J,J,J,J,J,J,J,J,J,J,J,J,J,J,J,J,J,J,J,J,J,J,J,J,J,J,J,J,J,J,J,J],[])) e.places.length (fun k=>(e.places.take k).all (W3 e)=true) [] rfl
   ⟨rfl,rfl,trivial,⟨rfl,rfl,trivial⟩⟩ ?_
  intro k hk hI
  by_cases hlt:k<e.places.length
  ·obtain ⟨x,hx⟩:∃x,e.places[k]? =some x:=⟨_,lg0 hlt⟩
   have pl:=b4X e x (by omega) (by omega) (by omega) (by omega)
   conv=>whnf
   repeat' (first|refine zz ?_|refine qp pl ?_|refine d8 hx ?_|refine zd ?_ ?_<;>intro h<;>try omega|refine zy ?_|fail)<;>conv=>whnf
   all_goals first
    |omega
    |(refine ⟨hlt,?_,[],rfl,rfl,trivial,⟨rfl,rfl,trivial⟩⟩;rw [t6 hx,hI];simp_all;done)
    |(refine j8 ?_;unfold C6;rw [if_neg (by simp [hf]),if_pos (.inr (.inr (.inr (x9 hx (by assumption)))))])
  have hp:e.places.all (W3 e)=true:=by rw [← hI,lg4 (by omega)]
  have hck:C6 e=if y3 e 0 e.moves≠0 then y3 e 0 e.moves else if X4 e then 0 else 1:=by
   unfold C6;rw [if_neg (by simp [hf]),if_neg (by rw [hp];simp;omega)]
  conv=>whnf
  repeat' (first|refine zz ?_|refine zd ?_ ?_<;>intro h<;>try omega|refine zy ?_|fail)<;>conv=>whnf
  all_goals try omega
  clear hI hlt hk
  refine f5 d7 (fun k=>([J,S.c (C.t (T.ptr (evT e))),J,J,a7 .i64 k,J,J,J,J,J,J,J,J,J,J,J,J,J,J,J,J,J,J,J,J,J,J,J,J,J,J,J,J,J,J,J,J,J,J,J,J,J,J,J,J,J,J,J,J,J,J,J],[])) e.moves.length (fun k=>y3 e 0 e.moves=y3 e (a2C e k) (e.moves.drop k)∧0<=a2C e k) [] ⟨rfl,Int.le_refl 0⟩
   ⟨rfl,rfl,trivial,⟨rfl,rfl,trivial⟩⟩ ?_
  rintro k hk ⟨hI,hI2⟩
  by_cases hlt:k<e.moves.length
  ·obtain ⟨x,hx⟩:∃x,e.moves[k]? =some x:=⟨_,lg0 hlt⟩
   have mv:=b6p e k x hx hf (by omega) (by omega) (by omega)
   rw [a0R hx,y3] at hI
   have hm:y3 e 0 e.moves=if a1Y e k x=0 then y3 e x.day (e.moves.drop (k+1)) else a1Y e k x:=by
    rw [hI]
    unfold a1Y
    have hk0:k=0->a2C e k=0:=fun h=>by subst h;rfl
    by_cases h1:x.day<a2C e k∨100000<x.day
    ·rw [if_pos h1,if_pos (c:=x.day<0∨100000<x.day∨(0<k∧x.day<a2C e k)) (by omega)];simp
    ·rw [if_neg h1,if_neg (c:=x.day<0∨100000<x.day∨(0<k∧x.day<a2C e k)) (by omega)]
     cases G2 e x<;>simp
   have hv:a1Y e k x=0->0<=x.day:=fun h=>by unfold a1Y at h;split at h<;>omega
   have hm0:a1Y e k x=0->y3 e 0 e.moves=y3 e x.day (e.moves.drop (k+1)):=fun h=>by rw [hm,if_pos h]
   have hm1:a1Y e k x≠0->y3 e 0 e.moves=a1Y e k x:=fun h=>by rw [hm,if_neg h]
   clear hm hI
   conv=>whnf
   repeat' (first|refine zz ?_|refine qp mv ?_|refine zd ?_ ?_<;>intro h<;>try omega|refine zy ?_|fail)<;>conv=>whnf
   all_goals first
    |omega
    |(refine ⟨hlt,⟨?_,?_⟩,[],rfl,rfl,trivial,⟨rfl,rfl,trivial⟩⟩
      ·rw [a1A hx];exact hm0 (by omega)
      ·rw [a1A hx];exact hv (by omega))
    |(refine j8 ?_
      have hne:a1Y e k x≠0:=by omega
      rw [hck,hm1 hne,if_pos hne])
  ·rw [List.drop_eq_nil_of_le (by omega),y3] at hI
   have sd:=b5F e hs hf (by omega) (by omega)
   conv=>whnf
   repeat' (first|refine zz ?_|refine qp sd ?_|refine zd ?_ ?_<;>intro h<;>try omega|refine zy ?_|fail)<;>conv=>whnf
   all_goals first
    |omega
    |(refine j8 ?_;rw [hck,hI];simp_all;done)
theorem aM1 (e:Ev) (hs:e.Sized) {k:Nat} {x:x4} (hx:e.moves[k]? =some x):a9 Tryz.prog 151 [evS e,a7 .i64 k] [] (.tup (ivL (G0 e x))) []:=by
 have l1:=hs.s3
 have l2:=hs.s4
 have iv:=aH5 e.certs e.recalls (by omega) (by omega) x.scale x.reading x.day
 unfold G0
 by_cases hsc:x.scale=-1
 ·rw [if_pos hsc]
  (refine ac Tryz.func151 ?_;(conv=>whnf);repeat ((first|refine b0x ?_|refine zy ?_);conv=>whnf))
  repeat' (first|refine zz ?_|refine qp 1 ?_|refine d8 hx ?_|refine bl0 [1] ?_|refine zd ?_ ?_<;>intro h<;>try omega|refine zy ?_|fail)<;>conv=>whnf
  all_goals first
   |omega
   |exact k8 ⟨⟨rfl,rfl,rfl,rfl,trivial⟩,⟨rfl,rfl,rfl,rfl,trivial⟩,rfl,trivial⟩
 ·rw [if_neg hsc]
  cases hiv:C3 e.certs e.recalls x.scale x.reading x.day with
  |none=>
   rw [hiv] at iv
   (refine ac Tryz.func151 ?_;(conv=>whnf);repeat ((first|refine b0x ?_|refine zy ?_);conv=>whnf))
   repeat' (first|refine zz ?_|refine qp iv ?_|refine d8 hx ?_|refine zd ?_ ?_<;>intro h<;>try omega|refine zy ?_|fail)<;>conv=>whnf
   all_goals first
    |omega
    |exact k8 ⟨⟨rfl,rfl,rfl,rfl,trivial⟩,⟨rfl,rfl,rfl,rfl,trivial⟩,rfl,trivial⟩
  |some p=>
   obtain ⟨lo,hi⟩:=p
   rw [hiv] at iv
   (refine ac Tryz.func151 ?_;(conv=>whnf);repeat ((first|refine b0x ?_|refine zy ?_);conv=>whnf))
   repeat' (first|refine zz ?_|refine qp iv ?_|refine d8 hx ?_|refine zd ?_ ?_<;>intro h<;>try omega|refine zy ?_|fail)<;>conv=>whnf
   all_goals first
    |omega
    |exact k8 ⟨⟨rfl,rfl,rfl,rfl,trivial⟩,⟨rfl,rfl,rfl,rfl,trivial⟩,rfl,trivial⟩
theorem b0J (e:Ev) (mv kind:Int):a9 Tryz.prog 156 [evS e,a7 .i64 mv,a7 .i64 kind] [] (a7 .i64 (a13 e mv kind)) []:=by
 have l2:(e.moves.map x4.row).length=e.moves.length:=by simp
 (refine ac Tryz.func156 ?_;(conv=>whnf);repeat ((first|refine b0x ?_|refine zy ?_);conv=>whnf))
 repeat' (first|refine zz ?_|refine zd ?_ ?_<;>intro h<;>try omega|refine zy ?_|fail)<;>conv=>whnf
 all_goals (refine j8 ?_;unfold a13;(repeat' split)<;>first|rfl|omega)
theorem aD1 (t:e8) (hs:t.Sized):a9 Tryz.prog 85 [trS t] [] (a7 .i64 (v8 t)) []:=by
 have l1:=hs.f
 have l2:=hs.c
 have ck:=b4l t.ev hs.ev
 have m1:(t.finds.map J9.row).length=t.finds.length:=by simp
 have m2:(t.cleans.map J3.row).length=t.cleans.length:=by simp
 by_cases h0:C6 t.ev≠0
 ·have e1:v8 t=C6 t.ev:=by unfold v8;rw [if_pos h0]
  rw [e1]
  (refine ac Tryz.func85 ?_;(conv=>whnf);repeat ((first|refine b0x ?_|refine zy ?_);conv=>whnf))
  repeat' (first|refine zz ?_|refine qp ck ?_|refine zd ?_ ?_<;>intro h<;>try omega|refine zy ?_|fail)<;>conv=>whnf
  all_goals first
   |omega
   |exact j8 rfl
 have h0:C6 t.ev=0:=by omega
 rw [h0] at ck
 by_cases h1:20<t.finds.length∨50<t.cleans.length
 ·have e1:v8 t=6:=by unfold v8;rw [if_neg (by omega),if_pos h1]
  rw [e1]
  (refine ac Tryz.func85 ?_;(conv=>whnf);repeat ((first|refine b0x ?_|refine zy ?_);conv=>whnf))
  repeat' (first|refine zz ?_|refine qp ck ?_|refine zd ?_ ?_<;>intro h<;>try omega|refine zy ?_|fail)<;>conv=>whnf
  all_goals first
   |omega
   |exact j8 rfl
 have e1:v8 t=if I4 t.ev t.finds≠0 then I4 t.ev t.finds else H3 t.ev t.cleans:=by unfold v8;rw [if_neg (by omega),if_neg h1]
 rw [e1]
 (refine ac Tryz.func85 ?_;(conv=>whnf);repeat ((first|refine b0x ?_|refine zy ?_);conv=>whnf))
 repeat' (first|refine zz ?_|refine qp ck ?_|refine zd ?_ ?_<;>intro h<;>try omega|refine zy ?_|fail)<;>conv=>whnf
 all_goals try omega
 refine f5 d7 (fun k=>([J,S.c (C.t (T.ptr (trT t))),J,J,a7 .i64 k,J,J,J,J,J,J,J,J,J,J,J,J,J,J,J,J,J,J,J,J,J,J,J,J,J,J,J,J,J,J,J,J,J,J,J,J,J,J,J,J,J,J,J,J,J,J,J,J,J,J,J,J,J,J,J,J,J,J,J,J,J,J,J,J,J,J,J,J,J,J,J,J,J],[])) t.finds.length (fun k=>I4 t.ev t.finds=I4 t.ev (t.finds.drop k)) [] rfl
  ⟨rfl,rfl,trivial,⟨rfl,rfl,trivial⟩⟩ ?_
 intro k hk hI
 by_cases hlt:k<t.finds.length
 ·obtain ⟨f,hf⟩:∃f,t.finds[k]? =some f:=⟨_,lg0 hlt⟩
  have mk:=b0J t.ev f.mv f.kind
  rw [a0R hf,I4] at hI
  by_cases hm:a13 t.ev f.mv f.kind≠0
  ·rw [if_pos hm] at hI
   rw [hI,if_pos hm]
   conv=>whnf
   repeat' (first|refine zz ?_|refine qp mk ?_|refine d8 hf ?_|refine zd ?_ ?_<;>intro h<;>try omega|refine zy ?_|fail)<;>conv=>whnf
   all_goals first
    |omega
    |exact j8 rfl
  ·rw [if_neg hm] at hI
   by_cases hg:f.grams<1∨1099511627776<f.grams
   ·rw [if_pos hg] at hI
    rw [hI]
    conv=>whnf
    repeat' (first|refine zz ?_|refine qp mk ?_|refine d8 hf ?_|refine zd ?_ ?_<;>intro h<;>try omega|refine zy ?_|fail)<;>conv=>whnf
    all_goals first
     |omega
     |exact j8 rfl
   ·rw [if_neg hg] at hI
    conv=>whnf
    repeat' (first|refine zz ?_|refine qp mk ?_|refine d8 hf ?_|refine zd ?_ ?_<;>intro h<;>try omega|refine zy ?_|fail)<;>conv=>whnf
    all_goals first
     |omega
     |exact ⟨hlt,hI,[],rfl,rfl,trivial,⟨rfl,rfl,trivial⟩⟩
 ·rw [List.drop_of_length_le (by omega)] at hI
  have hI:I4 t.ev t.finds=0:=hI
  rw [hI,if_neg (by omega)]
  conv=>whnf
  repeat' (first|refine zz ?_|refine zd ?_ ?_<;>intro h<;>try omega|refine zy ?_|fail)<;>conv=>whnf
  all_goals try omega
  refine f5 d7 (fun k=>([J,S.c (C.t (T.ptr (trT t))),J,J,J,J,a7 .i64 k,J,J,J,J,J,J,J,J,J,J,J,J,J,J,J,J,J,J,J,J,J,J,J,J,J,J,J,J,J,J,J,J,J,J,J,J,J,J,J,J,J,J,J,J,J,J,J,J,J,J,J,J,J,J,J,J,J,J,J,J,J,J,J,J,J,J,J,J,J,J,J],[])) t.cleans.length (fun k=>H3 t.ev t.cleans=H3 t.ev (t.cleans.drop k)) [] rfl
   ⟨rfl,rfl,trivial,⟨rfl,rfl,trivial⟩⟩ ?_
  intro j hj hJ
  by_cases hjt:j<t.cleans.length
  ·obtain ⟨c,hc⟩:∃c,t.cleans[j]? =some c:=⟨_,lg0 hjt⟩
   have mk:=b0J t.ev c.mv c.kind
   rw [a0R hc,H3] at hJ
   by_cases hm:a13 t.ev c.mv c.kind≠0
   ·rw [if_pos hm] at hJ
    rw [hJ]
    conv=>whnf
    repeat' (first|refine zz ?_|refine qp mk ?_|refine d8 hc ?_|refine zd ?_ ?_<;>intro h<;>try omega|refine zy ?_|fail)<;>conv=>whnf
    all_goals first
     |omega
     |exact j8 rfl
   ·rw [if_neg hm] at hJ
    conv=>whnf
    repeat' (first|refine zz ?_|refine qp mk ?_|refine d8 hc ?_|refine zd ?_ ?_<;>intro h<;>try omega|refine zy ?_|fail)<;>conv=>whnf
    all_goals first
     |omega
     |exact ⟨hjt,hJ,[],rfl,rfl,trivial,⟨rfl,rfl,trivial⟩⟩
  ·rw [List.drop_of_length_le (by omega)] at hJ
   have hJ:H3 t.ev t.cleans=0:=hJ
   rw [hJ]
   conv=>whnf
   repeat' (first|refine zz ?_|refine zd ?_ ?_<;>intro h<;>try omega|refine zy ?_|fail)<;>conv=>whnf
   all_goals first
    |omega
    |exact j8 rfl
theorem b3q (t:e8) (hs:t.Sized) (kind:Int):a9 Tryz.prog 149 [trS t,a7 .i64 kind] [] (f9 (decide (v8 t=0∧0<=kind∧kind<8))) []:=by
 have ck:=aD1 t hs
 (refine ac Tryz.func149 ?_;(conv=>whnf);repeat ((first|refine b0x ?_|refine zy ?_);conv=>whnf))
 repeat' (first|refine zz ?_|refine qp ck ?_|refine zd ?_ ?_<;>intro h<;>try omega|refine zy ?_|fail)<;>conv=>whnf
 all_goals (refine b7 ?_;simp;try omega)
theorem a98 (v n:Int) (h1:-9223372036854775808<=n) (h2:n<=9223372036854775807):a9 Tryz.prog 223 [a7 .i64 v,a7 .i64 n] [] (.agg ((j9 (v,(n:Rat))).map .t)) []:=by
 have i1:=a2M n h1 h2
 (refine ac Tryz.func223 ?_;(conv=>whnf);repeat ((first|refine b0x ?_|refine zy ?_);conv=>whnf))
 repeat' (first|refine zz ?_|refine qp i1 ?_|refine zd ?_ ?_<;>intro h<;>try omega|refine zy ?_|fail)<;>conv=>whnf
 exact k8 ⟨rfl,rfl,rfl,rfl,rfl,trivial⟩
theorem aV2 (i:Nat) (kind:Int) (v:Rat):a9 Tryz.prog 152 [a7 .i64 i,a7 .i64 kind,frS (fz v)] [] (aN9 (p7 i kind v)) []:=by
 have i1:=a98 i 1 (by decide) (by decide)
 (refine ac Tryz.func152 ?_;(conv=>whnf);repeat ((first|refine b0x ?_|refine zy ?_);conv=>whnf))
 repeat' (first|refine zz ?_|refine qp i1 ?_|refine a3W.weak ?_|refine zd ?_ ?_<;>intro h<;>try omega|refine zy ?_|fail)<;>conv=>whnf
 exact k8 ⟨rfl,rfl,rfl,rfl,rfl,rfl,trivial⟩
abbrev bb0 (f:Fr):Blk:={ mode:=.live,elem:=83,size:=4,rows:=[frC f],box:=true }
theorem aR5 (f:Fr):K2 [frC f]:=by simp [K2,frC,s7,C.isT]
set_option maxHeartbeats 4000000 in
theorem b2E (e:Ev) (h0:C6 e=0) {i:Nat} {x:x4} (hx:e.moves[i]? =some x):a9 Tryz.prog 150 [evS e,a7 .i64 i] [] (aN9 (w8 e i x)) []:=by
 obtain ⟨b1,b2,b3,b4⟩:=Z7 h0
 have hi:i<e.moves.length:=(lg1 hx).1
 have m0:(e.moves.map x4.row).length=e.moves.length:=by simp
 have i0:=a2M 0 (by decide) (by decide)
 have im:=a98 i (-1) (by decide) (by decide)
 have hil:=a27 (e:=e) (p:=x.src) i
 cases hal:x.all
 case' false=>have hK:(w8 e i x).kind=0:=by unfold w8;rw [hal];rfl
 case' true=>have hK:(w8 e i x).kind=2:=by unfold w8;rw [hal];rfl
 all_goals
  (refine ac Tryz.func150 ?_;(conv=>whnf);repeat ((first|refine b0x ?_|refine zy ?_);conv=>whnf))
  repeat' (first|refine zz ?_|refine qp i0 ?_|refine d8 hx ?_|refine zd ?_ ?_<;>intro h<;>try omega|refine zy ?_|fail)<;>conv=>whnf
  all_goals first
   |omega
   |(exfalso;simp_all;done)
   |skip
  refine f5 d7 (fun k=>([J,a7 .i64 i,S.c (C.t (T.ptr (evT e))),J,S.c (C.ptr 0 0 0),a7 .i64 x.src,S.c (C.ptr 1 0 0),a7 .i64 k,J,J,J,J,J,J,J,J,J,J,J,J,J,J,J,J,J,J,J,J,J,J,J,J,J,J,J,J,J,J,J,J,J,J,J,J,J,J,J,J,J,J,J,J,J,J,J,J,J,J,J,J,J,J,J,J,J,J],[b76,b77 2 (j6 e x.src k).length (w8 e i x).kind,R6 (j6 e x.src k)])) i (fun _=>True) [some 0,some 1,none] trivial ?_ ?_
  ·refine ⟨rfl,rfl,⟨⟨rfl,rfl,rfl,.inr ⟨⟨rfl,rfl,rfl,rfl,rfl,rfl,trivial⟩,trivial⟩⟩,⟨rfl,rfl,rfl,.inr ⟨⟨⟨rfl,rfl,rfl⟩,?_,rfl,rfl,rfl,rfl,trivial⟩,trivial⟩⟩,⟨rfl,rfl⟩,trivial⟩,⟨rfl,rfl,⟨rfl,rfl,rfl⟩,rfl,⟨rfl,rfl,rfl⟩,rfl,trivial⟩⟩
   rw [hK];rfl
  intro k hk _
  have kl:=a27 (e:=e) (p:=x.src) k
  by_cases hlt:k<i
  ·obtain ⟨y,hy⟩:∃y,e.moves[k]? =some y:=⟨_,lg0 (by omega)⟩
   have hmo:=E1 h0 (lg2 hy)
   have hne:y.src≠y.dst:=by unfold G2 at hmo;simp only [Bool.and_eq_true,decide_eq_true_eq] at hmo;exact hmo.1.1.1.1.1.2
   have t1:=a98 k 1 (by decide) (by decide)
   have tm:=a98 k (-1) (by decide) (by decide)
   have lA:(j6 e x.src k).length<=(R6 (j6 e x.src k)).rows.length:=by show _<=(toC _).length;simp [toC]
   have lC:((j6 e x.src k).length+1)*73<=140737488355328:=by omega
   by_cases c1:y.dst=x.src
   ·have et:j6 e x.src (k+1)=j6 e x.src k++[((k:Int),((1:Int):Rat))]:=by rw [T5 hy,if_pos c1]
    conv=>whnf
    repeat' (first|refine zz ?_|refine qp t1 ?_|refine qp tm ?_|refine d8 hy ?_|refine q9 lA lC ?_|refine zd ?_ ?_<;>intro h<;>try omega|refine zy ?_|fail)<;>conv=>whnf
    all_goals try omega
    refine ⟨hlt,trivial,[some 0,some 1,some 3],rfl,rfl,⟨⟨rfl,rfl,rfl,.inr ⟨⟨rfl,rfl,rfl,rfl,rfl,rfl,trivial⟩,trivial⟩⟩,⟨rfl,rfl,rfl,.inr ⟨⟨⟨rfl,rfl,?_,fun h=>h⟩,rfl,rfl,rfl,rfl,rfl,trivial⟩,trivial⟩⟩,a8 rfl rfl rfl ?_ rfl,trivial⟩,⟨rfl,rfl,⟨rfl,rfl,rfl⟩,rfl,⟨rfl,rfl,rfl⟩,rfl,trivial⟩⟩
    ·rw [et,List.length_append];rfl
    ·rw [et]
     show List.take (j6 e x.src k).length (toC ((j6 e x.src k).map j9))++toC [j9 ((k:Int),((1:Int):Rat))]=_
     exact a1a rfl
   ·by_cases c2:y.src=x.src
    ·have et:j6 e x.src (k+1)=j6 e x.src k++[((k:Int),((-1:Int):Rat))]:=by rw [T5 hy,if_neg c1,if_pos c2]
     conv=>whnf
     repeat' (first|refine zz ?_|refine qp t1 ?_|refine qp tm ?_|refine d8 hy ?_|refine q9 lA lC ?_|refine zd ?_ ?_<;>intro h<;>try omega|refine zy ?_|fail)<;>conv=>whnf
     all_goals try omega
     refine ⟨hlt,trivial,[some 0,some 1,some 3],rfl,rfl,⟨⟨rfl,rfl,rfl,.inr ⟨⟨rfl,rfl,rfl,rfl,rfl,rfl,trivial⟩,trivial⟩⟩,⟨rfl,rfl,rfl,.inr ⟨⟨⟨rfl,rfl,?_,fun h=>h⟩,rfl,rfl,rfl,rfl,rfl,trivial⟩,trivial⟩⟩,a8 rfl rfl rfl ?_ rfl,trivial⟩,⟨rfl,rfl,⟨rfl,rfl,rfl⟩,rfl,⟨rfl,rfl,rfl⟩,rfl,trivial⟩⟩
     ·rw [et,List.length_append];rfl
     ·rw [et]
      show List.take (j6 e x.src k).length (toC ((j6 e x.src k).map j9))++toC [j9 ((k:Int),((-1:Int):Rat))]=_
      exact a1a rfl
    ·have et:j6 e x.src (k+1)=j6 e x.src k:=by rw [T5 hy,if_neg c1,if_neg c2]
     conv=>whnf
     repeat' (first|refine zz ?_|refine d8 hy ?_|refine zd ?_ ?_<;>intro h<;>try omega|refine zy ?_|fail)<;>conv=>whnf
     all_goals try omega
     refine ⟨hlt,trivial,[some 0,some 1,some 2],rfl,rfl,⟨⟨rfl,rfl,rfl,.inr ⟨⟨rfl,rfl,rfl,rfl,rfl,rfl,trivial⟩,trivial⟩⟩,⟨rfl,rfl,rfl,.inr ⟨⟨⟨rfl,rfl,?_,fun h=>h⟩,rfl,rfl,rfl,rfl,rfl,trivial⟩,trivial⟩⟩,a8 rfl rfl rfl ?_ rfl,trivial⟩,⟨rfl,rfl,⟨rfl,rfl,rfl⟩,rfl,⟨rfl,rfl,rfl⟩,rfl,trivial⟩⟩
     ·rw [et]
     ·rw [et]
  ·have hke:k=i:=by omega
   subst hke
   have lA:(j6 e x.src k).length<=(R6 (j6 e x.src k)).rows.length:=by show _<=(toC _).length;simp [toC]
   have lC:((j6 e x.src k).length+1)*73<=140737488355328:=by omega
   conv=>whnf
   repeat' (first|refine zz ?_|refine qp im ?_|refine q9 lA lC ?_|refine zd ?_ ?_<;>intro h<;>try omega|refine zy ?_|fail)<;>conv=>whnf
   all_goals try omega
   refine k8 ⟨show VC _ (fun id=>G3 [] id=true) _ _ from v4 rfl rfl (by intro h;cases h) rfl (rows:=(j6 e x.src k++[((k:Int),((-1:Int):Rat))]).map j9) ?_ ?_,rfl,rfl,rfl,rfl,rfl,trivial⟩
   ·show List.take (j6 e x.src k).length (toC ((j6 e x.src k).map j9))++toC [j9 ((k:Int),((-1:Int):Rat))]=_
    exact a1a rfl
   ·rw [List.length_map,List.length_append];rfl
abbrev rEv (t:e8) (kind:Int) (k:Nat):Env:=[J,a7 .i64 kind,S.c (C.t (T.ptr (trT t))),J,S.c (C.ptr 0 0 0),J,S.c (C.ptr 1 0 0),S.c (C.ptr 2 0 0),a7 .i64 k,J,J,J,J,J,J,J,J,J,J,J,J,J,J,J,J,J,J,J,J,J,J,J,J,J,J,J,J,J,J,J,J,J,J,J,J,J,J,J,J,J,J,J,J,J,J,J,J,J,J,J,J,J,J,J,J,J,J,J,J,J,J,J,J,J,J,J,J,J,J,J,J,J,J,J,J,J,J,J,J,J,J,J,J,J,J,J,J,J,J,J,J,J,J,J,J,J,J,J,J,J,J,J,J,J,J,J,J,J,J,J,J,J,J,J,J,J,J,J,J,J,J,J,J,J,J,J,J,J,J,J,J]
abbrev rHp (t:e8) (R:List D9):Hp:=[a1m,evB t.ev,a2R t.ev.moves.length 3 R.length,M9 R]
theorem P7 {t:e8} {R:List D9} {N len:Nat} {H:Hp} {env env':Env} {rs:List (List C)} {kz:Blk} (hz:H[0]? =some kz) (hz2:a4c [some 0,some 1,some 2,some N] H kz a1m) (he:H[1]? =some (evB t.ev))
 (hs:H[2]? =some (a2R t.ev.moves.length N len)) (hr:H[N]? =some { mode:=.live,elem:=143,size:=6,rows:=rs,box:=false }) (hl:len=R.length) (hrs:rs=toC (R.map z6)) (hN:2<N)
 (hE:a0H [some 0,some 1,some 2,some N] H env env'):Ent 0 [some 0,some 1,some 2,some N] env H env' (rHp t R):=by
 have b1:Nat.beq 0 N=false:=by cases h:Nat.beq 0 N with|false=>rfl|true=>exact absurd (Nat.eq_of_beq_eq_true h) (by omega)
 refine ⟨rfl,a0w fun a b m h1 h2=>?_,⟨?_,?_,?_,?_,trivial⟩,hE⟩
 ·match a,b,h1,h2 with
  |0,0,_,_=>rfl
  |1,1,_,_=>rfl
  |2,2,_,_=>rfl
  |3,3,_,_=>rfl
  |0,1,h1,h2=>simp at h1 h2;omega
  |0,2,h1,h2=>simp at h1 h2;omega
  |0,3,h1,h2=>simp at h1 h2;omega
  |1,0,h1,h2=>simp at h1 h2;omega
  |1,2,h1,h2=>simp at h1 h2;omega
  |1,3,h1,h2=>simp at h1 h2;omega
  |2,0,h1,h2=>simp at h1 h2;omega
  |2,1,h1,h2=>simp at h1 h2;omega
  |2,3,h1,h2=>simp at h1 h2;omega
  |3,0,h1,h2=>simp at h1 h2;omega
  |3,1,h1,h2=>simp at h1 h2;omega
  |3,2,h1,h2=>simp at h1 h2;omega
  |n+4,_,h1,_=>simp at h1
  |0,n+4,_,h2=>simp at h2
  |1,n+4,_,h2=>simp at h2
  |2,n+4,_,h2=>simp at h2
  |3,n+4,_,h2=>simp at h2
 ·simp only [hz];exact hz2
 ·simp only [he];exact ⟨rfl,rfl,rfl,.inl ⟨rfl,p5 _⟩⟩
 ·simp only [hs];exact ⟨rfl,rfl,rfl,.inr ⟨⟨rfl,⟨rfl,rfl,hl,fun h=>h⟩,trivial⟩,trivial⟩⟩
 ·simp only [hr];exact a8 rfl rfl rfl hrs rfl
theorem a0o {ρ:List (Option Nat)} {H:Hp}:a4c ρ H a1m a1m:=⟨rfl,rfl,rfl,.inr ⟨⟨rfl,rfl,trivial⟩,trivial⟩⟩
theorem b64 (o:Option (Rat × Rat)):∃lo:Fr,ivL o=[frS lo,frS (hiF o),f9 o.isSome]:=by
 cases o with
 |none=>exact ⟨U0,rfl⟩
 |some p=>exact ⟨fz p.1,rfl⟩
theorem b5o {i:Nat} {kind:Int} {f:Fr} {v:Rat} (h:f=fz v):a9 Tryz.prog 152 [a7 .i64 i,a7 .i64 kind,frS f] [] (aN9 (p7 i kind v)) []:=by subst h;exact aV2 i kind v
set_option maxHeartbeats 4000000 in
theorem aZ2 (t:e8) (kind:Int) (hs:t.Sized) (h1:¬(v8 t≠0∨kind<0∨8<=kind)):a9 Tryz.prog 81 [trS t,a7 .i64 kind] [] (.tup [.agg [.t (ti t.ev.moves.length),.own 0 0 (R0 t kind).rows.length true],a7 .i64 0]) [M9 (R0 t kind).rows]:=by
 have rt:=b3q t hs kind
 have m2:(t.ev.moves.map x4.row).length=t.ev.moves.length:=by simp
 have m4:(t.finds.map J9.row).length=t.finds.length:=by simp
 have m5:(t.cleans.map J3.row).length=t.cleans.length:=by simp
 obtain ⟨k1,k2,k3⟩:v8 t=0∧0<=kind∧kind<8:=by omega
 rw [decide_eq_true ⟨k1,k2,k3⟩] at rt
 clear h1
 obtain ⟨q1,q2,q3,q4,q5⟩:=n8 k1
 obtain ⟨b1,b2,b3,b4⟩:=Z7 q1
 (refine ac Tryz.func81 ?_;(conv=>whnf);repeat ((first|refine b0x ?_|refine zy ?_);conv=>whnf))
 repeat' (first|refine zz ?_|refine qp rt ?_|refine zd ?_ ?_<;>intro h<;>try omega|refine zy ?_|fail)<;>conv=>whnf
 all_goals try omega
 refine aN7 (fun k=>(rEv t kind k,rHp t (p9 t kind k))) t.ev.moves.length (fun _=>True) [some 0,some 1,some 2,none] trivial ?_ ?_
 ·refine ⟨rfl,rfl,⟨⟨rfl,rfl,rfl,.inr ⟨⟨rfl,rfl,trivial⟩,trivial⟩⟩,⟨rfl,rfl,rfl,.inl ⟨rfl,p5 _⟩⟩,⟨rfl,rfl,rfl,.inr ⟨⟨?_,⟨rfl,rfl,rfl⟩,trivial⟩,trivial⟩⟩,⟨rfl,rfl⟩,trivial⟩,⟨rfl,rfl,⟨rfl,rfl,rfl⟩,⟨rfl,rfl,rfl⟩,⟨rfl,rfl,rfl⟩,rfl,trivial⟩⟩
  exact a9c (by rw [m2])
 intro k hk _
 refine J7 d7 ?_
 conv=>whnf
 repeat' (first|refine zz ?_|refine zd ?_ ?_<;>intro h<;>try omega|refine zy ?_|fail)<;>conv=>whnf
 ·obtain ⟨x,hx⟩:∃x,t.ev.moves[k]? =some x:=⟨_,lg0 (by omega)⟩
  have hlt:k<t.ev.moves.length:=by omega
  have hmo:=E1 q1 (lg2 hx)
  have ms:=S5 hmo
  obtain ⟨s,hsn⟩:∃s:Nat,x.src=s:=⟨x.src.toNat,by omega⟩
  obtain ⟨pl,hpl⟩:∃pl,t.ev.places[s]? =some pl:=⟨_,lg0 (by omega)⟩
  have hkd:o4 t.ev x.src=pl.kind:=by rw [hsn];exact aq9 hpl
  have st:=b2E t.ev q1 hx
  have iv:=aM1 t.ev hs.ev hx
  have rl0:=aa4 (t:=t) (kind:=kind) (k:=k) (by omega) q2 q3
  obtain ⟨lo,hlo⟩:=b64 (G0 t.ev x)
  rw [hlo] at iv
  have i0:=a2M 0 (by decide) (by decide)
  have hcr:P4 (G0 t.ev x) k=if (G0 t.ev x).isSome then [p7 k 1 (hiR (G0 t.ev x))] else []:=by cases G0 t.ev x<;>rfl
  obtain ⟨R1,hR1⟩:∃R1:List D9,R1=p9 t kind k++(if pl.kind=0 then [] else [w8 t.ev k x]):=⟨_,rfl⟩
  obtain ⟨R2,hR2⟩:∃R2:List D9,R2=R1++P4 (G0 t.ev x) k:=⟨_,rfl⟩
  have l1:R1.length<=14401:=by rw [hR1];split<;>simp<;>omega
  have l2:R2.length<=14402:=by rw [hR2,hcr];split<;>simp<;>omega
  refine a9y (a9Y ?_)
  refine a0A d7 (rEv t kind k) (rHp t R1) ?_ ?_
  ·have lA:(p9 t kind k).length<=(M9 (p9 t kind k)).rows.length:=by show _<=(toC _).length;simp [toC]
   have lC:((p9 t kind k).length+1)*97<=140737488355328:=by omega
   conv=>whnf
   repeat' (first|refine zz ?_|refine qp st ?_|refine d8 hx ?_|refine I2 hsn hpl ?_|refine q9 lA lC ?_|refine zd ?_ ?_<;>intro h<;>try omega|refine zy ?_|fail)<;>conv=>whnf
   ·have eR:R1=p9 t kind k++[w8 t.ev k x]:=by rw [hR1,if_neg (by assumption)]
    refine ⟨[some 0,some 1,some 2,some 4],P7 rfl a0o rfl rfl rfl ?_ ?_ (by decide) ⟨rfl,rfl,⟨rfl,rfl,rfl⟩,⟨rfl,rfl,rfl⟩,⟨rfl,rfl,rfl⟩,rfl,trivial⟩⟩
    ·rw [eR];simp [toC]
    ·rw [eR];exact a1d rfl
   ·have eR:R1=p9 t kind k:=by rw [hR1,if_pos (by omega),List.append_nil]
    refine ⟨[some 0,some 1,some 2,some 3],P7 rfl a0o rfl rfl rfl ?_ ?_ (by decide) ⟨rfl,rfl,⟨rfl,rfl,rfl⟩,⟨rfl,rfl,rfl⟩,⟨rfl,rfl,rfl⟩,rfl,trivial⟩⟩
    ·rw [eR]
    ·rw [eR]
  have o1:=fun h=>b5o (i:=k) (kind:=1) (f:=hiF (G0 t.ev x)) (v:=hiR (G0 t.ev x)) h
  refine a0A d7 ([J,a7 .i64 kind,S.c (C.t (T.ptr (trT t))),J,S.c (C.ptr 0 0 0),J,S.c (C.ptr 1 0 0),S.c (C.ptr 2 0 0),a7 .i64 k,J,S.c (C.ptr 4 0 0),f9 (G0 t.ev x).isSome,J,J,J,J,J,J,J,J,J,J,J,J,J,J,J,J,J,J,J,J,J,J,J,J,J,J,J,J,J,J,J,J,J,J,J,J,J,J,J,J,J,J,J,J,J,J,J,J,J,J,J,J,J,J,J,J,J,J,J,J,J,J,J,J,J,J,J,J,J,J,J,J,J,J,J,J,J,J,J,J,J,J,J,J,J,J,J,J,J,J,J,J,J,J,J,J,J,J,J,J,J,J,J,J,J,J,J,J,J,J,J,J,J,J,J,J,J,J,J,J,J,J,J,J,J,J,J,J,J]) (rHp t R1++[bb0 (hiF (G0 t.ev x))]) ?_ ?_
  ·conv=>whnf
   repeat' (first|refine zz ?_|refine qp iv ?_|refine qp 6 ?_|refine bl0 [6] ?_|refine zd ?_ ?_<;>intro h<;>try omega|refine zy ?_|fail)<;>conv=>whnf
   all_goals
    refine ⟨[some 0,some 1,some 2,some 3,some 5],rfl,rfl,⟨a0o,⟨rfl,rfl,rfl,.inl ⟨rfl,p5 _⟩⟩,⟨rfl,rfl,rfl,.inr ⟨⟨rfl,⟨rfl,rfl,rfl,fun h=>h⟩,trivial⟩,trivial⟩⟩,⟨rfl,rfl,rfl,.inl ⟨rfl,d6 _⟩⟩,⟨rfl,rfl,rfl,.inl ⟨rfl,aR5 _⟩⟩,trivial⟩,⟨rfl,rfl,⟨rfl,rfl,rfl⟩,⟨rfl,rfl,rfl⟩,⟨rfl,rfl,rfl⟩,rfl,⟨rfl,rfl,rfl⟩,b0w h.symm,trivial⟩⟩
  refine a0A d7 (rEv t kind k) (rHp t R2) ?_ ?_
  ·have lA:R1.length<=(M9 R1).rows.length:=by show _<=(toC _).length;simp [toC]
   have lC:(R1.length+1)*97<=140737488355328:=by omega
   cases hc:(G0 t.ev x).isSome with
   |true=>
    have o1:=o1 (af3 hc).1
    have eR:R2=R1++[p7 k 1 (hiR (G0 t.ev x))]:=by rw [hR2,hcr,hc];rfl
    conv=>whnf
    repeat' (first|refine zz ?_|refine qp o1 ?_|refine q9 lA lC ?_|refine zd ?_ ?_<;>intro h<;>try omega|refine zy ?_|fail)<;>conv=>whnf
    all_goals try (rw [hc] at h;exact absurd h (by decide))
    refine ⟨[some 0,some 1,some 2,some 5],P7 rfl a0o rfl rfl rfl ?_ ?_ (by decide) ⟨rfl,rfl,⟨rfl,rfl,rfl⟩,⟨rfl,rfl,rfl⟩,⟨rfl,rfl,rfl⟩,rfl,trivial⟩⟩
    ·rw [eR];simp [toC]
    ·rw [eR];exact a1d rfl
   |false=>
    have eR:R2=R1:=by rw [hR2,hcr,hc];simp
    conv=>whnf
    repeat' (first|refine zz ?_|refine zd ?_ ?_<;>intro h<;>try omega|refine zy ?_|fail)<;>conv=>whnf
    all_goals try (rw [hc] at h;exact absurd h (by decide))
    refine ⟨[some 0,some 1,some 2,some 3],P7 rfl a0o rfl rfl rfl ?_ ?_ (by decide) ⟨rfl,rfl,⟨rfl,rfl,rfl⟩,⟨rfl,rfl,rfl⟩,⟨rfl,rfl,rfl⟩,rfl,trivial⟩⟩
    ·rw [eR]
    ·rw [eR]
  obtain ⟨G,hG⟩:∃G:Nat->List D9,∀j,G j=R2++(j5 (t.finds.take j) kind k).map (fun g:Int=>p7 k 0 (g:Rat)):=⟨_,fun _=>rfl⟩
  have lG:∀j,(G j).length<=14500:=fun j=>by
   have h1:(j5 (t.finds.take j) kind k).length<=20:=by
    unfold j5;rw [List.length_map]
    exact Nat.le_trans (List.length_filter_le _ _) (by rw [List.length_take];omega)
   rw [hG];simp;omega
  refine a0A d7 (rEv t kind k) (rHp t (G t.finds.length)) ?_ ?_
  ·conv=>whnf
   repeat' (first|refine zz ?_|refine zd ?_ ?_<;>intro h<;>try omega|refine zy ?_|fail)<;>conv=>whnf
   refine f5 d7 (fun j=>([J,a7 .i64 kind,S.c (C.t (T.ptr (trT t))),J,S.c (C.ptr 0 0 0),J,S.c (C.ptr 1 0 0),S.c (C.ptr 2 0 0),a7 .i64 k,J,J,J,a7 .i64 j,J,J,J,J,J,J,J,J,J,J,J,J,J,J,J,J,J,J,J,J,J,J,J,J,J,J,J,J,J,J,J,J,J,J,J,J,J,J,J,J,J,J,J,J,J,J,J,J,J,J,J,J,J,J,J,J,J,J,J,J,J,J,J,J,J,J,J,J,J,J,J,J,J,J,J,J,J,J,J,J,J,J,J,J,J,J,J,J,J,J,J,J,J,J,J,J,J,J,J,J,J,J,J,J,J,J,J,J,J,J,J,J,J,J,J,J,J,J,J,J,J,J,J,J,J,J,J,J],rHp t (G j))) t.finds.length (fun _=>True) [some 0,some 1,some 2,some 3] trivial ?_ ?_
   ·refine P7 rfl a0o rfl rfl rfl ?_ ?_ (by decide) ⟨rfl,rfl,⟨rfl,rfl,rfl⟩,⟨rfl,rfl,rfl⟩,⟨rfl,rfl,rfl⟩,rfl,rfl,trivial⟩
    ·rw [hG];simp [j5]
    ·rw [hG];simp [j5]
   intro j hj _
   have lj:=lG j
   by_cases hjt:j<t.finds.length
   ·obtain ⟨f,hf⟩:∃f,t.finds[j]? =some f:=⟨_,lg0 hjt⟩
    have fb:=E6 q4 f (lg2 hf)
    have ig:=a2M f.grams (by omega) (by omega)
    have o0:=aV2 k 0 (f.grams:Rat)
    have lA:(G j).length<=(M9 (G j)).rows.length:=by show _<=(toC _).length;simp [toC]
    have lC:((G j).length+1)*97<=140737488355328:=by omega
    have gs:G (j+1)=if f.kind=kind∧f.mv=(k:Int) then G j++[p7 k 0 (f.grams:Rat)] else G j:=by
     rw [hG,hG,a3j hf,a6h]
     split<;>simp
    conv=>whnf
    repeat' (first|refine zz ?_|refine qp ig ?_|refine qp o0 ?_|refine d8 hf ?_|refine q9 lA lC ?_|refine zd ?_ ?_<;>intro h<;>try omega|refine zy ?_|fail)<;>conv=>whnf
    all_goals first
     |omega
     |skip
    ·rw [if_pos (by omega)] at gs
     refine ⟨hjt,trivial,[some 0,some 1,some 2,some 4],P7 rfl a0o rfl rfl rfl ?_ ?_ (by decide) ⟨rfl,rfl,⟨rfl,rfl,rfl⟩,⟨rfl,rfl,rfl⟩,⟨rfl,rfl,rfl⟩,rfl,rfl,trivial⟩⟩
     ·rw [gs];simp [toC]
     ·rw [gs];exact a1d rfl
    all_goals
     rw [if_neg (by omega)] at gs
     refine ⟨hjt,trivial,[some 0,some 1,some 2,some 3],P7 rfl a0o rfl rfl rfl ?_ ?_ (by decide) ⟨rfl,rfl,⟨rfl,rfl,rfl⟩,⟨rfl,rfl,rfl⟩,⟨rfl,rfl,rfl⟩,rfl,rfl,trivial⟩⟩
     ·rw [gs]
     ·rw [gs]
   ·have hje:j=t.finds.length:=by omega
    subst hje
    conv=>whnf
    repeat' (first|refine zz ?_|refine zd ?_ ?_<;>intro h<;>try omega|refine zy ?_|fail)<;>conv=>whnf
    all_goals first
     |omega
     |exact ⟨[some 0,some 1,some 2,some 3],P7 rfl a0o rfl rfl rfl rfl rfl (by decide) ⟨rfl,rfl,⟨rfl,rfl,rfl⟩,⟨rfl,rfl,rfl⟩,⟨rfl,rfl,rfl⟩,rfl,trivial⟩⟩
  have lGe:=lG t.finds.length
  obtain ⟨K,hK⟩:∃K:Nat->List D9,∀j,K j=G t.finds.length++List.replicate (n9 (t.cleans.take j) kind k) (p7 k 2 ((0:Int):Rat)):=⟨_,fun _=>rfl⟩
  have lK:∀j,(K j).length<=14600:=fun j=>by
   have h1:n9 (t.cleans.take j) kind k<=50:=by
    unfold n9
    exact Nat.le_trans (List.length_filter_le _ _) (by rw [List.length_take];omega)
   rw [hK];simp;omega
  have hKe:K t.cleans.length=p9 t kind (k+1):=by
   rw [hK,hG,hR2,hR1,lg4 (Nat.le_refl _),lg4 (Nat.le_refl _)]
   show _=(match t.ev.moves[k]? with|none=>p9 t kind k|some x=>p9 t kind k++N6 t kind k x)
   rw [hx]
   simp only [N6,hkd,List.append_assoc]
  refine z5 d7 _ ?_
  conv=>whnf
  repeat' (first|refine zz ?_|refine zd ?_ ?_<;>intro h<;>try omega|refine zy ?_|fail)<;>conv=>whnf
  refine f5 d7 (fun j=>([J,a7 .i64 kind,S.c (C.t (T.ptr (trT t))),J,S.c (C.ptr 0 0 0),J,S.c (C.ptr 1 0 0),S.c (C.ptr 2 0 0),a7 .i64 k,J,J,J,J,a7 .i64 j,J,J,J,J,J,J,J,J,J,J,J,J,J,J,J,J,J,J,J,J,J,J,J,J,J,J,J,J,J,J,J,J,J,J,J,J,J,J,J,J,J,J,J,J,J,J,J,J,J,J,J,J,J,J,J,J,J,J,J,J,J,J,J,J,J,J,J,J,J,J,J,J,J,J,J,J,J,J,J,J,J,J,J,J,J,J,J,J,J,J,J,J,J,J,J,J,J,J,J,J,J,J,J,J,J,J,J,J,J,J,J,J,J,J,J,J,J,J,J,J,J,J,J,J,J,J,J],rHp t (K j))) t.cleans.length (fun _=>True) [some 0,some 1,some 2,some 3] trivial ?_ ?_
  ·refine P7 rfl a0o rfl rfl rfl ?_ ?_ (by decide) ⟨rfl,rfl,⟨rfl,rfl,rfl⟩,⟨rfl,rfl,rfl⟩,⟨rfl,rfl,rfl⟩,rfl,rfl,trivial⟩
   ·rw [hK];simp [n9]
   ·rw [hK];simp [n9]
  intro j hj _
  have lj:=lK j
  by_cases hjt:j<t.cleans.length
  ·obtain ⟨c,hc⟩:∃c,t.cleans[j]? =some c:=⟨_,lg0 hjt⟩
   have o0:=aV2 k 2 ((0:Int):Rat)
   have lA:(K j).length<=(M9 (K j)).rows.length:=by show _<=(toC _).length;simp [toC]
   have lC:((K j).length+1)*97<=140737488355328:=by omega
   have gs:K (j+1)=if c.kind=kind∧c.mv=(k:Int) then K j++[p7 k 2 ((0:Int):Rat)] else K j:=by
    rw [hK,hK,a3j hc,V3]
    split<;>simp [List.replicate_succ']
   conv=>whnf
   repeat' (first|refine zz ?_|refine qp i0 ?_|refine qp o0 ?_|refine d8 hc ?_|refine q9 lA lC ?_|refine zd ?_ ?_<;>intro h<;>try omega|refine zy ?_|fail)<;>conv=>whnf
   all_goals first
    |omega
    |skip
   ·rw [if_pos (by omega)] at gs
    refine ⟨hjt,trivial,[some 0,some 1,some 2,some 4],P7 rfl a0o rfl rfl rfl ?_ ?_ (by decide) ⟨rfl,rfl,⟨rfl,rfl,rfl⟩,⟨rfl,rfl,rfl⟩,⟨rfl,rfl,rfl⟩,rfl,rfl,trivial⟩⟩
    ·rw [gs];simp [toC]
    ·rw [gs];exact a1d rfl
   all_goals
    rw [if_neg (by omega)] at gs
    refine ⟨hjt,trivial,[some 0,some 1,some 2,some 3],P7 rfl a0o rfl rfl rfl ?_ ?_ (by decide) ⟨rfl,rfl,⟨rfl,rfl,rfl⟩,⟨rfl,rfl,rfl⟩,⟨rfl,rfl,rfl⟩,rfl,rfl,trivial⟩⟩
    ·rw [gs]
    ·rw [gs]
  ·have hje:j=t.cleans.length:=by omega
   subst hje
   conv=>whnf
   repeat' (first|refine zz ?_|refine zd ?_ ?_<;>intro h<;>try omega|refine zy ?_|fail)<;>conv=>whnf
   all_goals try omega
   refine z5 d7 _ ?_
   conv=>whnf
   repeat' (first|refine zz ?_|refine zd ?_ ?_<;>intro h<;>try omega|refine zy ?_|fail)<;>conv=>whnf
   all_goals try omega
   exact ⟨hlt,trivial,[some 0,some 1,some 2,some 3],P7 rfl a0o rfl rfl rfl (by rw [hKe]) (by rw [hKe]) (by decide) ⟨rfl,rfl,⟨rfl,rfl,rfl⟩,⟨rfl,rfl,rfl⟩,⟨rfl,rfl,rfl⟩,rfl,trivial⟩⟩
 ·have hke:k=t.ev.moves.length:=by omega
  subst hke
  exact ⟨⟨[some 3],rfl,rfl,⟨a8 (rows:=(R0 t kind).rows.map z6) rfl rfl rfl rfl rfl,trivial⟩,⟨⟨rfl,⟨rfl,rfl,rfl,fun h=>h⟩,trivial⟩,rfl,trivial⟩⟩⟩
def aR7 (s:g8) (g:List (Int × Rat)):g8:=⟨s.n,s.rows++[⟨g,2,((0:Int):Rat)⟩]⟩
theorem aE4 {s:g8} {g:List (Int × Rat)} (hr:j0 s=true) (hl:s.rows.length<6000) (hg:g9 (-1) s.n g=true):j0 (aR7 s g)=true:=by
 unfold j0 at hr ⊢
 simp only [Bool.and_eq_true,decide_eq_true_eq] at hr ⊢
 refine ⟨⟨hr.1.1,by simp [aR7];omega⟩,?_⟩
 show (s.rows++[_]).all (w7 s.n)=true
 rw [List.all_append,hr.2]
 simp [w7,hg]
theorem a2T {s:g8} {g:List (Int × Rat)} (z:List Rat):∀l:List (Int × Rat),k9 (R4 l) z=-(k9 l z):=by
 intro l
 have key:∀k,k<=l.length->k9 ((R4 l).take k) z=-(k9 (l.take k) z):=by
  intro k
  induction k with
  |zero=>intro _;rw [List.take_zero,List.take_zero];show (0:Rat)=-0;grind
  |succ k ih=>
   intro hk
   have ih:=ih (by omega)
   have ht:l[k]? =some l[k]:=lg0 (by omega)
   rw [show (R4 l).take (k+1)=_ from a8r l _ ht,T2,List.take_succ_eq_append_getElem (show k<l.length by omega),T2,show (Z4 l ((-1:Int):Rat)).take k=(R4 l).take k from rfl,ih]
   have e1:((-1:Int):Rat)=-1:=rfl
   rw [e1];simp only;grind
 have:=key l.length (Nat.le_refl _)
 rwa [lg4 (by rw [b6J];exact Nat.le_refl _),lg4 (Nat.le_refl _)] at this
theorem b51 {s:g8} {Y:List Rat} (h:aI6 s (yN Y)) (hl:Y.length=s.rows.length):a3L s Y=true:=by
 unfold a3L
 rw [decide_eq_true hl,Bool.true_and,List.all_eq_true]
 intro i hi
 rw [List.mem_range] at hi
 have hx:s.rows[i]? =some s.rows[i]:=lg0 hi
 obtain ⟨h1,h2⟩:=h i _ hx
 unfold sgB
 rw [P1 hx]
 simp only [Bool.not_eq_true',Bool.or_eq_false_iff,Bool.and_eq_false_iff,decide_eq_false_iff_not]
 refine ⟨?_,?_⟩
 ·by_cases h:s.rows[i].kind=0
  ·exact .inr (Rat.not_lt.2 (h1 h))
  ·exact .inl h
 ·by_cases h:s.rows[i].kind=1
  ·exact .inr (Rat.not_lt.2 (h2 h))
  ·exact .inl h
theorem b5T {s:g8} {g:List (Int × Rat)} {Y:List Rat} {y:Nat->Rat} {v:Rat} (hr:j0 s=true) (hg:g9 (-1) ((s.n.toNat:Nat):Int) g=true) (h:b6j s (z7 g) y v) (hl:Y.length=s.rows.length) (hY:∀i,i<s.rows.length->yN Y i=y i):a3s s g Y=true∧a2z s (yN Y)=v:=by
 have hn:=a0P hr
 have e1:∀l,R3 s (yN Y) l=R3 s y l:=fun l=>f7 fun i hi=>by rw [hY i hi]
 have e2:a2z s (yN Y)=a2z s y:=f7 fun i hi=>by rw [hY i hi]
 refine ⟨?_,by rw [e2,h.val]⟩
 unfold a3s
 rw [b51 (fun i w hw=>by rw [hY i (lg1 hw).1];exact h.sign i w hw) hl,←hn,hg,Bool.true_and,Bool.true_and,List.all_eq_true]
 intro l hl
 rw [List.mem_range] at hl
 have hl:l<s.n.toNat:=by omega
 rw [e1]
 exact decide_eq_true (h.mix l hl)
theorem b2v {n:Nat} {y:Nat->Rat} {i:Nat} (h:i<n):yN (zOf n y) i=y i:=a7d h
def ag9 (D:Fd):Fd:={ D with V:=fun _=>0 }
theorem a85 {m n:Nat} {D:Fd} {y:Nat->Rat} {c:Rat}:Ids m n (ag9 D) y c↔Ids m n D y 0:=by
 constructor
 ·intro h i hi
  have h1:y (D.O i)=c*0 - g7 (fun j=>D.A i j*y (D.F j)) n:=h i hi
  show y (D.O i)=0*D.V i - g7 (fun j=>D.A i j*y (D.F j)) n
  rw [h1];grind
 ·intro h i hi
  have h1:y (D.O i)=0*D.V i - g7 (fun j=>D.A i j*y (D.F j)) n:=h i hi
  show y (D.O i)=c*0 - g7 (fun j=>D.A i j*y (D.F j)) n
  rw [h1];grind
theorem aU9 {m n:Nat} {D:Fd} (h:a0a m n D):a0a m n (ag9 D):=⟨h.oi,h.fi,h.of,h.all,h.ob,h.fb⟩
theorem aH4 {s:g8} {g:List (Int × Rat)} {B:Nat} (hI:∀w ∈ s.rows,a9x B w):aV4 (g4 s).length s.n.toNat 1 (ag9 (i5 s g)) where
 o:=fun i _=>rfl
 f:=fun j _=>rfl
 w:=fun i hi=>by
  obtain ⟨f,hf⟩:∃f,(g4 s)[i]? =some f:=⟨_,lg0 hi⟩
  obtain ⟨x,hx,_⟩:=Y6.1 (lg2 hf)
  obtain ⟨h1,h2⟩:=hI x (lg2 hx)
  have hfd:(g4 s).getD i (0,false)=f:=by rw [lg3,hf];rfl
  have eA:∀j,(i5 s g).A i j=U4 f.2 (z7 x.terms j):=fun j=>by show a29 s ((g4 s).getD i (0,false)) j=_;rw [hfd];unfold a29;rw [hx]
  have hc:∀j,∃c:Int,(i5 s g).A i j=((c:Int):Rat)∧bl c<=1:=fun j=>by
   obtain ⟨c,hc,hb⟩:=a1h h1 x.terms.length j
   obtain ⟨c',hc',hb'⟩:=b6Z (b:=f.2) (x:=z7 x.terms j) hc
   exact ⟨c',by rw [eA,hc'],by omega⟩
  refine ⟨1,0,fun j=>Classical.choose (hc j),by decide,t4 (by decide) (by decide),t4 (by decide) (by decide),fun j hj=>(Classical.choose_spec (hc j)).2,?_,fun j hj=>?_⟩
  ·have e0:((0:Int):Rat)=0:=rfl
   have e1:((1:Int):Rat)=1:=rfl
   show ((1:Int):Rat)*0=((0:Int):Rat)
   rw [e0,e1];grind
  ·show ((1:Int):Rat)*(i5 s g).A i j=((Classical.choose (hc j):Int):Rat)
   have hs:=(Classical.choose_spec (hc j)).1
   generalize Classical.choose (hc j)=x at hs
   rw [hs]
   have h1:((1:Int):Rat)=1:=rfl
   rw [h1];grind
theorem b04 {s:g8} {g:List (Int × Rat)} {B:Nat} (hI:∀w ∈ s.rows,a9x B w) (hg:E8 g) {j:Nat} (hj:j<s.n.toNat):rl ((z9 s g).G j)<=2 ^ s.n.toNat*3:=by
 have inv:=S4 (s:=s) (g:=g)
 obtain ⟨z,hz⟩:=inv.g
 have hc:∀j,∃c:Int,z7 g j=((c:Int):Rat)∧bl c<=1:=fun j=>a1h hg g.length j
 have hz0:X3 s.n.toNat (ag9 (z9 s g)) (fun j=>-(z7 g j)) (g4 s).length 0:=fun y c hy=>by
  have:=hz y 0 (a85.1 hy)
  rw [this]
  show 0*z+_=c*0+_
  have e:g7 (fun j=>(ag9 (z9 s g)).G j*y ((ag9 (z9 s g)).F j)) s.n.toNat=g7 (fun j=>(z9 s g).G j*y ((z9 s g).F j)) s.n.toNat:=rfl
  rw [e];grind
 refine b6H (D:=ag9 (z9 s g)) (aH4 (g:=g) hI) (by decide) (aU9 inv.p) (fun y c=>by rw [a85,a85];exact inv.i y 0) hz0 (q:=1) (b:=fun l=>-(Classical.choose (hc l))) (by decide) (t4 (by decide) (by decide)) (fun l hl=>?_) (fun l hl=>?_) hj
 ·have:=(Classical.choose_spec (hc l)).2
  show bl (-(Classical.choose (hc l)))<=_
  rw [a8Z];omega
 ·have hs:=(Classical.choose_spec (hc l)).1
  show ((1:Int):Rat)*-(z7 g l)=((-(Classical.choose (hc l)):Int):Rat)
  generalize Classical.choose (hc l)=x at hs ⊢
  rw [hs]
  have e:((-x:Int):Rat)=-((x:Int):Rat):=by push_cast;rfl
  rw [e]
  have h1:((1:Int):Rat)=1:=rfl
  rw [h1];grind
theorem aQ8 {f:Nat->Rat} {C:Nat}:∀n:Nat,(∀ j,j<n->rl (f j)<=C)->rl (g7 f n)<=n*(C+1)+1
 |0,_=>by have:=rl0;show rl 0<=_;omega
 |n+1,h=>by
  have ih:=aQ8 n fun j hj=>h j (by omega)
  have h1:=h n (by omega)
  have h2:=a4e (g7 f n) (f n)
  have e:(n+1)*(C+1)=n*(C+1)+(C+1):=by rw [Nat.add_mul,Nat.one_mul]
  show rl (g7 f n+f n)<=_
  omega
theorem b2o {k a:Nat} (v:Rat) (c:Nat->Rat):g7 (fun i=>(if a=i then v else 0)*c i) k=if a<k then v*c a else 0:=by
 by_cases h:a<k
 ·rw [if_pos h,a4g h]
 ·rw [if_neg h]
  exact v7 fun i hi=>by rw [if_neg (by omega)];grind
theorem b2S {s:g8} {w k:Nat} (p:Rat) (c:Nat->Rat) {P C:Nat} (hp:rl p<=P) (hc:∀i,rl (c i)<=C):rl (g7 (fun i=>chg s w p i*c i) k)<=P+C+1:=by
 by_cases h:s.n.toNat<=w
 ·rw [f7 (g:=fun i=>(if (D5 s (w - s.n.toNat)).1=i then -(U4 (D5 s (w - s.n.toNat)).2 p) else 0)*c i) fun i hi=>by
   unfold chg
   by_cases h2:(D5 s (w - s.n.toNat)).1=i
   ·rw [if_pos ⟨h,h2⟩,if_pos h2]
   ·rw [if_neg (fun e=>h2 e.2),if_neg h2]]
  rw [b2o]
  split
  ·have h1:=a3c (-(U4 (D5 s (w - s.n.toNat)).2 p)) (c (D5 s (w - s.n.toNat)).1)
   have h2:=hc (D5 s (w - s.n.toNat)).1
   have h3:rl (-(U4 (D5 s (w - s.n.toNat)).2 p))<=P:=by
    rw [S7]
    cases (D5 s (w - s.n.toNat)).2 with
    |false=>exact hp
    |true=>show rl (-p)<=P;rw [S7];exact hp
   omega
  ·have:=rl0;omega
 ·rw [v7 fun i hi=>by unfold chg;rw [if_neg (fun e=>h e.1)];grind]
  have:=rl0;omega
theorem ac1 {s:g8} {g:List (Int × Rat)} {B C:Nat} (hI:∀w ∈ s.rows,a9x B w) (hg:E8 g) (c:Nat->Rat) (hc:∀i,rl (c i)<=C) (k:Nat):
 rl (g7 (fun i=>Q9 s (z9 s g) i*c i) k)<=s.n.toNat*(2 ^ s.n.toNat*3+C+2)+1:=by
 have e:g7 (fun i=>Q9 s (z9 s g) i*c i) k=g7 (fun j=>g7 (fun i=>chg s ((z9 s g).F j) (-((z9 s g).G j)) i*c i) k) s.n.toNat:=a6A (s:=s)
 rw [e]
 exact aQ8 _ fun j hj=>b2S _ c (by rw [S7];exact b04 hI hg hj) hc
theorem b43 {s:g8} {g:List (Int × Rat)} {B:Nat} (hI:∀w ∈ s.rows,a9x B w) (hg:E8 g) (i:Nat):rl (Q9 s (z9 s g) i)<=s.n.toNat*(2 ^ s.n.toNat*3+1)+1:=by
 refine aQ8 _ fun j hj=>?_
 have h:=b04 (g:=g) hI hg hj
 unfold chg
 split
 ·rw [S7]
  cases (D5 s ((z9 s g).F j - s.n.toNat)).2 with
  |false=>show rl (-((z9 s g).G j))<=_;rw [S7];exact h
  |true=>show rl (- -((z9 s g).G j))<=_;rw [S7,S7];exact h
 ·have:=rl0
  have h2:1<=2 ^ s.n.toNat:=Nat.one_le_two_pow
  omega
theorem b3P {l:List (Int × Rat)} (h:E8 l) (v:Nat):rl (z7 l v)<=1:=by
 obtain ⟨c,hc,hb⟩:=a1h h l.length v
 have e:z7 l v=((c:Int):Rat):=hc
 rw [e,a2k]
 have:=t4 (x:=1) (by decide) (by decide)
 omega
theorem b15 {s:g8} {B:Nat} (hI:∀w ∈ s.rows,a9x B w) (hB:1<=B) (i:Nat):E8 (A0 s i).terms∧rl (A0 s i).value<=B:=by
 by_cases h:i<s.rows.length
 ·have hx:s.rows[i]? =some s.rows[i]:=lg0 h
  rw [P1 hx]
  exact hI _ (List.getElem_mem _)
 ·have e:A0 s i=⟨[],2,0⟩:=by unfold A0;rw [lg3,List.getElem?_eq_none (by omega)];rfl
  rw [e]
  exact ⟨fun (t:Int × Rat) (ht:t ∈ [])=>by simp at ht,by have:=rl0;show rl 0<=B;omega⟩
theorem b39 {s:g8} {g:List (Int × Rat)} (c:Nat->Rat) (k:Nat):g7 (fun i=>yN (zOf s.rows.length (Q9 s (z9 s g))) i*c i) k=g7 (fun i=>Q9 s (z9 s g) i*(if i<s.rows.length then c i else 0)) k:=f7 fun i hi=>by
 by_cases h:i<s.rows.length
 ·rw [b2v h,if_pos h]
 ·have:yN (zOf s.rows.length (Q9 s (z9 s g))) i=0:=by unfold yN;rw [lg3,List.getElem?_eq_none (by rw [T3];omega)];rfl
  rw [this,if_neg h];grind
theorem ad9:∀n,n<9->n*(2 ^ n*3+11+2)+1<=40000∧n*(2 ^ n*3+1)+1<=40000∧n*(2 ^ n*3+1+2)+1<=40000:=by decide
theorem b7M {s:g8} {g:List (Int × Rat)} (hI:∀w ∈ s.rows,a9x 11 w) (hg:E8 g) (hn:s.n.toNat<=8) (l k:Nat):rl (a5B s (yN (zOf s.rows.length (Q9 s (z9 s g)))) l k)<=40000:=by
 obtain ⟨p1,p2,p3⟩:=ad9 s.n.toNat (by omega)
 unfold a5B
 rw [b39]
 have:=ac1 hI hg (C:=1) (fun i=>if i<s.rows.length then z7 (A0 s i).terms l else 0) (fun i=>by
  split
  ·exact b3P (b15 hI (by decide) i).1 l
  ·exact rl0) k
 omega
theorem b7m {s:g8} {g:List (Int × Rat)} (hI:∀w ∈ s.rows,a9x 11 w) (hg:E8 g) (hn:s.n.toNat<=8) (k:Nat):rl (a5u s (yN (zOf s.rows.length (Q9 s (z9 s g)))) k)<=40000:=by
 obtain ⟨p1,p2,p3⟩:=ad9 s.n.toNat (by omega)
 unfold a5u
 rw [b39]
 have:=ac1 hI hg (C:=11) (fun i=>if i<s.rows.length then (A0 s i).value else 0) (fun i=>by
  split
  ·exact (b15 hI (by decide) i).2
  ·have:=rl0;omega) k
 omega
theorem b3x {s:g8} {g:List (Int × Rat)} (hI:∀w ∈ s.rows,a9x 11 w) (hg:E8 g) (hn:s.n.toNat<=8):∀v ∈ zOf s.rows.length (Q9 s (z9 s g)),rl v<=40000:=by
 intro v hv
 obtain ⟨p1,p2,p3⟩:=ad9 s.n.toNat (by omega)
 obtain ⟨j,hj,rfl⟩:=a4S hv
 have:=b43 hI hg j
 omega
theorem b1m {s:g8} {g:List (Int × Rat)} (hI:∀w ∈ s.rows,a9x 11 w) (hg:E8 g) (hn:s.n.toNat<=8) (hm:s.rows.length<=1000000):b44 s (zOf s.rows.length (Q9 s (z9 s g))):=
 ⟨b3x hI hg hn,fun l k=>Nat.le_trans (b7M hI hg hn l k) (by decide),fun k=>Nat.le_trans (b7m hI hg hn k) (by decide),T3,hm⟩
theorem b9o:rl ((-1:Int):Rat)<=1:=by rw [a2k];exact t4 (x:=-1) (by decide) (by decide)
theorem b7D {s:g8} {x:List Rat} {B:Nat} (hr:j0 s=true) (hI:∀w ∈ s.rows,a9x 11 w) (hB:B<=40000) (hn:s.n.toNat*(B+4)+1<=50000) (hl:x.length<=1000000) (hx:∀v ∈ x,rl v<=B):PtB s x:=by
 refine ⟨fun v hv=>Nat.le_trans (hx v hv) hB,fun w hw k=>?_,hl⟩
 obtain ⟨i,hi,rfl⟩:=List.getElem_of_mem hw
 have hrt:=(Z8 hr (lg0 hi)).1
 have h1:=a6P (P8 (hI _ hw).1) hx k
 have h2:=E0 hrt
 have h3:s.rows[i].terms.length<=s.n.toNat:=by omega
 have h4:=Nat.mul_le_mul_right (B+4) h3
 omega
def a23 (e:Ev) (m k:Int):Bool:=decide (e.mats<=k) && decide (e.hhs<=6) && decide (e.scs<=6) && decide (e.places.length<=12) && decide ((e.moves.length:Int)<=m) && decide (e.certs.length<=10) && decide (e.recalls.length<=4) && decide (e.purities.length<=6)
theorem b53 (e:Ev) (m k:Int):a9 Tryz.prog 57 [evS e,a7 .i64 m,a7 .i64 k] [] (f9 (a23 e m k)) []:=by
 have m1:(e.places.map J1.row).length=e.places.length:=by simp
 have m2:(e.moves.map x4.row).length=e.moves.length:=by simp
 have m3:(e.certs.map K0.row).length=e.certs.length:=by simp
 have m4:(e.recalls.map y0.row).length=e.recalls.length:=by simp
 have m5:(e.purities.map a0Z.row).length=e.purities.length:=by simp
 (refine ac Tryz.func57 ?_;(conv=>whnf);repeat ((first|refine b0x ?_|refine zy ?_);conv=>whnf))
 repeat' (first|refine zz ?_|refine zd ?_ ?_<;>intro h<;>try omega|refine zy ?_|fail)<;>conv=>whnf
 all_goals
  refine b7 ?_
  unfold a23
  simp only [m1,m2,m3,m4,m5] at *
  first
   |(symm;simp only [Bool.and_eq_true,decide_eq_true_eq];omega)
   |(symm;rw [← Bool.not_eq_true];simp only [Bool.and_eq_true,decide_eq_true_eq];omega)
def Z3 (t:e8) (m:Int):Bool:=a23 t.ev m 3 && decide (t.ev.hhs<=4) && decide (t.finds.length<=6) && decide (t.cleans.length<=6)
theorem aH3 (t:e8) (m:Int):a9 Tryz.prog 15 [trS t,a7 .i64 m] [] (f9 (Z3 t m)) []:=by
 have r:=b53 t.ev m 3
 have m1:(t.finds.map J9.row).length=t.finds.length:=by simp
 have m2:(t.cleans.map J3.row).length=t.cleans.length:=by simp
 unfold Z3
 cases hq:a23 t.ev m 3<;>rw [hq] at r<;>
 ·(refine ac Tryz.func15 ?_;(conv=>whnf);repeat ((first|refine b0x ?_|refine zy ?_);conv=>whnf))
  repeat' (first|refine zz ?_|refine qp r ?_|refine zd ?_ ?_<;>intro h<;>try omega|refine zy ?_|fail)<;>conv=>whnf
  all_goals
   refine b7 ?_
   simp only [m1,m2] at *
   first
    |rfl
    |(symm;simp only [Bool.true_and,Bool.and_eq_true,decide_eq_true_eq];omega)
    |(symm;rw [← Bool.not_eq_true];simp only [Bool.and_eq_true,decide_eq_true_eq];omega)
theorem a2f {t:e8} {m:Int} (hm:m<=100) (h:Z3 t m=true):t.Sized∧(t.ev.moves.length:Int)<=m∧t.ev.hhs<=4:=by
 unfold Z3 a23 at h
 simp only [Bool.and_eq_true,decide_eq_true_eq] at h
 exact ⟨⟨⟨by omega,by omega,by omega,by omega,by omega⟩,by omega,by omega⟩,by omega,by omega⟩
def aH0 (z:List Fr) (n:Nat) (d:Int):Bool:=(z.take (n+1)).all (b7I d) && decide (z.length<=n)
theorem aN0 {z:List Fr} {n:Nat} {d:Int} (h:aH0 z n d=true):z.length<=n∧∀f ∈ z,(f.p.dl.length:Int)<=d∧(f.q.dl.length:Int)<=d:=by
 unfold aH0 at h
 simp only [Bool.and_eq_true,decide_eq_true_eq] at h
 obtain ⟨h1,h2⟩:=h
 rw [lg4 (by omega),List.all_eq_true] at h1
 refine ⟨h2,fun f hf=>?_⟩
 have:=h1 f hf
 unfold b7I at this
 simp only [Bool.and_eq_true,decide_eq_true_eq] at this
 exact this
theorem ax2 {f:Nat->Rat}:∀{n:Nat},0<g7 f n->∃j,j<n∧0<f j
 |0,h=>absurd (show (0:Rat)<0 from h) (by decide +kernel)
 |n+1,h=>by
  simp only [g7] at h
  by_cases h1:0<f n
  ·exact ⟨n,by omega,h1⟩
  ·obtain ⟨j,hj,hp⟩:=ax2 (f:=f) (n:=n) (by grind)
   exact ⟨j,by omega,hp⟩
def cnt (p:Nat->Bool):Nat->Nat
 |0=>0
 |k+1=>cnt p k+if p k then 1 else 0
def z4:List (Int × Rat)->List (Int × Rat)->List (Int × Rat)
 |[],b=>b
 |t::r,[]=>t::r
 |t::r,u::q=>if t.1<u.1 then t::z4 r (u::q) else if u.1<t.1 then u::z4 (t::r) q else if t.2+u.2=0 then z4 r q else (t.1,t.2+u.2)::z4 r q
termination_by a b=>a.length+b.length
theorem W6 {last n:Int} {t:Int × Rat} {r:List (Int × Rat)} (h1:last<t.1) (h2:t.1<n) (h3:t.2≠0) (h4:g9 t.1 n r=true):g9 last n (t::r)=true:=by
 unfold g9
 simp only [Bool.and_eq_true,decide_eq_true_eq]
 exact ⟨⟨⟨h1,h2⟩,h3⟩,h4⟩
theorem ag5 {n:Int}:∀(k:Nat) {last:Int} {a b:List (Int × Rat)},a.length+b.length<=k->-1<=last->g9 last n a=true->g9 last n b=true->
 g9 last n (z4 a b)=true∧∀v,z7 (z4 a b) v=z7 a v+z7 b v:=by
 intro k
 induction k with
 |zero=>
  intro last a b hk h0 ha hb
  have:a=[]:=List.length_eq_zero_iff.1 (by omega)
  have:b=[]:=List.length_eq_zero_iff.1 (by omega)
  subst a b
  rw [z4]
  exact ⟨rfl,fun v=>by show (0:Rat)=0+0;grind⟩
 |succ k ih=>
  intro last a b hk h0 ha hb
  match a,b with
  |[],b=>rw [z4];exact ⟨hb,fun v=>by show _=(0:Rat)+_;grind⟩
  |t::r,[]=>rw [z4];exact ⟨ha,fun v=>by show _=_+(0:Rat);grind⟩
  |t::r,u::q=>
   have mt:=F6 ha t (List.mem_cons_self ..)
   have mu:=F6 hb u (List.mem_cons_self ..)
   simp only [List.length_cons] at hk
   rw [z4]
   by_cases h1:t.1<u.1
   ·rw [if_pos h1]
    have hb':g9 t.1 n (u::q)=true:=W6 h1 mu.2.1 mu.2.2 (a0s hb)
    obtain ⟨i1,i2⟩:=ih (last:=t.1) (a:=r) (b:=u::q) (by simp only [List.length_cons];omega) (by omega) (a0s ha) hb'
    have hr:=W6 mt.1 mt.2.1 mt.2.2 i1
    refine ⟨hr,fun v=>?_⟩
    rw [T4 h0 hr,T4 h0 ha,i2]
    by_cases hv:v=t.1.toNat
    ·rw [if_pos hv,if_pos hv,af0 (v:=v) (by omega) hb' (by omega)];grind
    ·rw [if_neg hv,if_neg hv]
   ·rw [if_neg h1]
    by_cases h2:u.1<t.1
    ·rw [if_pos h2]
     have ha':g9 u.1 n (t::r)=true:=W6 h2 mt.2.1 mt.2.2 (a0s ha)
     obtain ⟨i1,i2⟩:=ih (last:=u.1) (a:=t::r) (b:=q) (by simp only [List.length_cons];omega) (by omega) ha' (a0s hb)
     have hr:=W6 mu.1 mu.2.1 mu.2.2 i1
     refine ⟨hr,fun v=>?_⟩
     rw [T4 h0 hr,T4 h0 hb,i2]
     by_cases hv:v=u.1.toNat
     ·rw [if_pos hv,if_pos hv,af0 (v:=v) (by omega) ha' (by omega)];grind
     ·rw [if_neg hv,if_neg hv]
    ·rw [if_neg h2]
     have he:t.1=u.1:=by omega
     have hq':=a0s hb
     rw [← he] at hq'
     obtain ⟨i1,i2⟩:=ih (last:=t.1) (a:=r) (b:=q) (by omega) (by omega) (a0s ha) hq'
     by_cases h3:t.2+u.2=0
     ·rw [if_pos h3]
      refine ⟨aL4 (by omega) i1,fun v=>?_⟩
      rw [T4 h0 ha,T4 h0 hb,←he]
      by_cases hv:v=t.1.toNat
      ·rw [if_pos hv,if_pos hv,af0 (v:=v) (by omega) i1 (by omega)];grind
      ·rw [if_neg hv,if_neg hv,i2]
     ·rw [if_neg h3]
      have hr:=W6 (t:=(t.1,t.2+u.2)) mt.1 mt.2.1 h3 i1
      refine ⟨hr,fun v=>?_⟩
      rw [T4 h0 hr,T4 h0 ha,T4 h0 hb,←he,i2]
      by_cases hv:v=t.1.toNat
      ·simp only [if_pos hv]
      ·simp only [if_neg hv]
theorem b3F {n:Nat} {a b:List (Int × Rat)} (ha:g9 (-1) (n:Int) a=true) (hb:g9 (-1) (n:Int) b=true) (z:List Rat):k9 (z4 a b) z=k9 a z+k9 b z:=by
 obtain ⟨h1,h2⟩:=ag5 (a.length+b.length) (Nat.le_refl _) (Int.le_refl _) ha hb
 rw [O2 h1,O2 ha,O2 hb,←a0z]
 exact f7 fun j hj=>by rw [h2];grind
def a0x (B:Nat) (l:List (Int × Rat)):Prop:=∀t ∈ l,∃c:Int,t.2=((c:Int):Rat)∧c.natAbs<=B
theorem aX2:∀(k:Nat) {A B:Nat} {a b:List (Int × Rat)},a.length+b.length<=k->a0x A a->a0x B b->a0x (A+B) (z4 a b):=by
 intro k
 have up:∀{X Y:Nat} {l:List (Int × Rat)},X<=Y->a0x X l->a0x Y l:=fun h hl t ht=>by
  obtain ⟨c,h1,h2⟩:=hl t ht;exact ⟨c,h1,by omega⟩
 have tl:∀{X:Nat} {t:Int × Rat} {l:List (Int × Rat)},a0x X (t::l)->a0x X l:=fun h u hu=>h u (List.mem_cons_of_mem _ hu)
 have cons:∀{X:Nat} {t:Int × Rat} {l:List (Int × Rat)},(∃ c:Int,t.2=((c:Int):Rat)∧c.natAbs<=X)->a0x X l->a0x X (t::l):=fun h hl u hu=>by
  rcases List.mem_cons.1 hu with rfl|hu
  ·exact h
  ·exact hl u hu
 induction k with
 |zero=>
  intro A B a b hk ha hb
  have:a=[]:=List.length_eq_zero_iff.1 (by omega)
  have:b=[]:=List.length_eq_zero_iff.1 (by omega)
  subst a b
  rw [z4]
  exact up (by omega) hb
 |succ k ih=>
  intro A B a b hk ha hb
  match a,b with
  |[],b=>rw [z4];exact up (by omega) hb
  |t::r,[]=>rw [z4];exact up (by omega) ha
  |t::r,u::q=>
   simp only [List.length_cons] at hk
   obtain ⟨c,hc,hcb⟩:=ha t (List.mem_cons_self ..)
   obtain ⟨d,hd,hdb⟩:=hb u (List.mem_cons_self ..)
   rw [z4]
   split
   ·exact cons ⟨c,hc,by omega⟩ (ih (by simp only [List.length_cons];omega) (tl ha) hb)
   ·split
    ·exact cons ⟨d,hd,by omega⟩ (ih (by simp only [List.length_cons];omega) ha (tl hb))
    ·split
     ·exact ih (by omega) (tl ha) (tl hb)
     ·refine cons ⟨c+d,by show t.2+u.2=_;rw [hc,hd];push_cast;rfl,?_⟩ (ih (by omega) (tl ha) (tl hb))
      have:=Int.natAbs_add_le c d;omega
noncomputable def S2 (s:g8) (g:List (Int × Rat)):List Rat:=match a0W s (R4 g) with
 |.col c=>Y9 (B8 s []) (a5p s (R4 g) c)
 |_=>B8 s (R4 g)
structure as7 (s:g8) (g:List (Int × Rat)):Prop where
 r:j0 s=true
 z:a0W s []=.best
 t:g9 (-1) ((s.n.toNat:Nat):Int) g=true
 p:∀z,j7 s z=true->0<=k9 g z
theorem as7.og {s:g8} {g:List (Int × Rat)} (h:as7 s g):g9 (-1) ((s.n.toNat:Nat):Int) (R4 g)=true:=Y2 h.t
theorem ac5 {s:g8} {g:List (Int × Rat)} (h:as7 s g):j7 s (S2 s g)=true∧((∃ z,j7 s z=true∧0<k9 g z)->0<k9 g (S2 s g)):=by
 have h0:=(a2J h.r rfl h.z).1
 unfold S2
 rcases ax9 (g:=R4 g) h.r h.z with ho|⟨c,ho⟩
 ·rw [ho]
  simp only
  obtain ⟨p1,p2⟩:=a2J h.r h.og ho
  refine ⟨p1,fun ⟨z,hz,hp⟩=>?_⟩
  have:=p2 z hz
  rw [a2T (s:=s) (g:=g),a2T (s:=s) (g:=g)] at this
  grind
 ·rw [ho]
  simp only
  obtain ⟨h1,h2⟩:=av3 h.r h.og ho
  refine ⟨b1s h0 h1,fun _=>?_⟩
  have h3:=O8 h0
  have hn:=a0P h.r
  rw [a2B (n:=s.n.toNat) (by omega) h1.len h.t]
  rw [a2T (s:=s) (g:=g)] at h2
  have:=h.p _ h0
  grind
def N9 (gL:List (List (Int × Rat))) (out:List Bool):Nat->List (Int × Rat)
 |0=>[]
 |k+1=>if out.getD k false=true then N9 gL out k else z4 (N9 gL out k) (gL.getD k [])
noncomputable def a0O (s:g8) (gL:List (List (Int × Rat))) (out:List Bool):List Rat:=S2 s (N9 gL out gL.length)
def a1X (g:List (Int × Rat)) (x:List Rat):Bool:=decide (0<k9 g x)
noncomputable def ar5 (s:g8) (gL:List (List (Int × Rat))) (out:List Bool):List Bool:=(List.range gL.length).map fun i=>out.getD i false || a1X (gL.getD i []) (a0O s gL out)
noncomputable def x3 (s:g8) (gL:List (List (Int × Rat))):Nat->List Bool
 |0=>List.replicate gL.length false
 |k+1=>ar5 s gL (x3 s gL k)
noncomputable def Z0 (s:g8) (gL:List (List (Int × Rat))):Nat->List Rat
 |0=>a0O s gL (x3 s gL 0)
 |k+1=>Y9 (Z0 s gL k) (a0O s gL (x3 s gL (k+1)))
theorem P5 (s:g8) (gL:List (List (Int × Rat))):∀k,(x3 s gL k).length=gL.length
 |0=>by simp [x3]
 |k+1=>by simp [x3,ar5]
theorem a1p {s:g8} {gL:List (List (Int × Rat))} {k i:Nat} (hi:i<gL.length):(x3 s gL (k+1)).getD i false=((x3 s gL k).getD i false || a1X (gL.getD i []) (a0O s gL (x3 s gL k))):=by
 show (ar5 s gL (x3 s gL k)).getD i false=_
 unfold ar5
 rw [lg3]
 simp [hi]
theorem a5w {a b:List Bool} (hl:a.length=b.length) (h:∀i,i<a.length->a.getD i false=b.getD i false):a=b:=by
 refine List.ext_getElem hl fun i h1 h2=>?_
 have:=h i h1
 rwa [lg3,lg3,lg0 h1,lg0 h2] at this
def ae0:List Bool->Nat
 |[]=>0
 |b::l=>(if b then 1 else 0)+ae0 l
theorem aZ8:∀l:List Bool,ae0 l<=l.length
 |[]=>by simp [ae0]
 |b::l=>by
  have:=aZ8 l
  cases b<;>simp [ae0]<;>omega
theorem ao3:∀{a b:List Bool},a.length=b.length->(∀ i,a.getD i false=true->b.getD i false=true)->ae0 a<=ae0 b∧(a≠b->ae0 a<ae0 b)
 |[],[],_,_=>⟨Nat.le_refl _,fun h=>absurd rfl h⟩
 |x::a,y::b,hl,h=>by
  have ih:=ao3 (a:=a) (b:=b) (by simpa using hl) (fun i hi=>by have:=h (i+1);simpa using this (by simpa using hi))
  have h0:=h 0
  simp only [List.getD_cons_zero] at h0
  refine ⟨?_,fun hne=>?_⟩
  ·cases x<;>cases y<;>simp [ae0] at * <;>omega
  ·cases x<;>cases y<;>simp [ae0] at * <;>first|omega|(have:=ih.2 hne;omega)
theorem b2j {s:g8} {gL:List (List (Int × Rat))} {k i:Nat} (h:(x3 s gL k).getD i false=true):(x3 s gL (k+1)).getD i false=true:=by
 by_cases hi:i<gL.length
 ·rw [a1p hi,h];rfl
 ·rw [lg3,List.getElem?_eq_none (by rw [P5];omega)] at h;cases h
theorem aB4 {s:g8} {gL:List (List (Int × Rat))}:∀k,(∀ j,j<k->x3 s gL (j+1)≠x3 s gL j)->k<=ae0 (x3 s gL k)
 |0,_=>Nat.zero_le _
 |k+1,h=>by
  have ih:=aB4 (s:=s) (gL:=gL) k fun j hj=>h j (by omega)
  have:=(ao3 (a:=x3 s gL k) (b:=x3 s gL (k+1)) (by rw [P5,P5]) fun i hi=>b2j hi).2 fun e=>h k (by omega) e.symm
  omega
theorem a4f {s:g8} {gL:List (List (Int × Rat))} {k:Nat} (h:∀j,j<k->x3 s gL (j+1)≠x3 s gL j):k<=gL.length:=by
 have h1:=aB4 k h
 have h2:=aZ8 (x3 s gL k)
 rw [P5] at h2;omega
def b4x (s:g8) (gL:List (List (Int × Rat))) (k:Nat):Prop:=x3 s gL (k+1)=x3 s gL k∧∀j,j<k->x3 s gL (j+1)≠x3 s gL j
theorem b5x (s:g8) (gL:List (List (Int × Rat))):∃k,b4x s gL k:=by
 by_cases h:∃k,x3 s gL (k+1)=x3 s gL k
 ·obtain ⟨k,hk,hmin⟩:=a1s (fun k=>x3 s gL (k+1)=x3 s gL k) h
  exact ⟨k,hk,fun j hj e=>by have:=hmin j e;omega⟩
 ·have:=a4f (s:=s) (gL:=gL) (k:=gL.length+1) fun j _ e=>h ⟨j,e⟩
  omega
noncomputable def a0J (s:g8) (gL:List (List (Int × Rat))):Nat:=Classical.epsilon fun k=>b4x s gL k
theorem a5a (s:g8) (gL:List (List (Int × Rat))):b4x s gL (a0J s gL):=Classical.epsilon_spec (b5x s gL)
theorem b0L {s:g8} {gL:List (List (Int × Rat))} {k:Nat} (h1:x3 s gL (k+1)=x3 s gL k) (h2:∀j,j<k->x3 s gL (j+1)≠x3 s gL j):k=a0J s gL:=by
 obtain ⟨a,b⟩:=a5a s gL
 rcases Nat.lt_trichotomy k (a0J s gL) with h|h|h
 ·exact absurd h1 (b k h)
 ·exact h
 ·exact absurd a (h2 _ h)
noncomputable def isF (s:g8) (gL:List (List (Int × Rat))):List Bool:=x3 s gL (a0J s gL)
noncomputable def a9B (s:g8) (gL:List (List (Int × Rat))):List Rat:=(Z0 s gL (a0J s gL)).map fun v=>v*Rat.divInt 1 ((a0J s gL+1:Nat):Int)
structure a1K (s:g8) (gL:List (List (Int × Rat))):Prop where
 r:j0 s=true
 z:a0W s []=.best
 g:∀g ∈ gL,g9 (-1) ((s.n.toNat:Nat):Int) g=true
 p:∀g ∈ gL,∀z,j7 s z=true->0<=k9 g z
theorem Q2 {gL:List (List (Int × Rat))} {k:Nat} (h:k<gL.length):gL.getD k [] ∈ gL:=by
 rw [lg3,lg0 h];exact List.getElem_mem h
theorem a0q {s:g8} {gL:List (List (Int × Rat))} (h:a1K s gL) (out:List Bool):∀k,k<=gL.length->g9 (-1) ((s.n.toNat:Nat):Int) (N9 gL out k)=true
 |0,_=>rfl
 |k+1,hk=>by
  have ih:=a0q h out k (by omega)
  unfold N9
  split
  ·exact ih
  ·exact (ag5 _ (Nat.le_refl _) (Int.le_refl _) ih (h.g _ (Q2 (by omega)))).1
theorem a9e {s:g8} {gL:List (List (Int × Rat))} (h:a1K s gL) (out:List Bool) (z:List Rat):∀k,k<=gL.length->k9 (N9 gL out k) z=g7 (fun i=>if out.getD i false=true then 0 else k9 (gL.getD i []) z) k
 |0,_=>rfl
 |k+1,hk=>by
  have ih:=a9e h out z k (by omega)
  show _=g7 _ k+(if out.getD k false=true then 0 else k9 (gL.getD k []) z)
  unfold N9
  by_cases ho:out.getD k false=true
  ·rw [if_pos ho,if_pos ho,ih];grind
  ·rw [if_neg ho,if_neg ho,b3F (a0q h out k (by omega)) (h.g _ (Q2 (by omega))),ih]
theorem aE9 {s:g8} {gL:List (List (Int × Rat))} (h:a1K s gL) (out:List Bool):as7 s (N9 gL out gL.length):=
 ⟨h.r,h.z,a0q h out _ (Nat.le_refl _),fun z hz=>by
   rw [a9e h out z _ (Nat.le_refl _)]
   exact a1u fun i hi=>by
    split
    ·exact Rat.le_refl
    ·exact h.p _ (Q2 hi) z hz⟩
theorem a6y {s:g8} {gL:List (List (Int × Rat))} (h:a1K s gL) (out:List Bool):j7 s (a0O s gL out)=true:=(ac5 (aE9 h out)).1
theorem aD8 {s:g8} {gL:List (List (Int × Rat))} (h:a1K s gL) {i:Nat} (hi:i<gL.length):∀k,(x3 s gL k).getD i false=true->∃z,j7 s z=true∧0<k9 (gL.getD i []) z
 |0,ho=>by
  exfalso
  unfold x3 at ho
  rw [lg3] at ho
  simp [hi] at ho
 |k+1,ho=>by
  rw [a1p hi] at ho
  cases hk:(x3 s gL k).getD i false with
  |true=>exact aD8 h hi k hk
  |false=>
   rw [hk,Bool.false_or] at ho
   exact ⟨_,a6y h _,of_decide_eq_true ho⟩
theorem b4w {s:g8} {gL:List (List (Int × Rat))} (h:a1K s gL) {i:Nat} (hi:i<gL.length):(isF s gL).getD i false=true↔∃z,j7 s z=true∧0<k9 (gL.getD i []) z:=by
 constructor
 ·exact aD8 h hi _
 ·rintro ⟨z,hz,hp⟩
  cases ho:(isF s gL).getD i false with
  |true=>rfl
  |false=>
   exfalso
   have hl:=(a5a s gL).1
   have ho':(x3 s gL (a0J s gL)).getD i false=false:=ho
   have hall:0<k9 (N9 gL (x3 s gL (a0J s gL)) gL.length) z:=by
    rw [a9e h _ z _ (Nat.le_refl _)]
    refine b0l (s:=i) (fun j hj=>?_) hi ?_
    ·split
     ·exact Rat.le_refl
     ·exact h.p _ (Q2 hj) z hz
    ·rw [ho',if_neg (by decide)];exact hp
   have hx:=(ac5 (aE9 h (x3 s gL (a0J s gL)))).2 ⟨z,hz,hall⟩
   rw [a9e h _ _ _ (Nat.le_refl _)] at hx
   obtain ⟨j,hj,hpj⟩:=ax2 hx
   cases hoj:(x3 s gL (a0J s gL)).getD j false with
   |true=>rw [hoj,if_pos rfl] at hpj;exact absurd hpj (by decide +kernel)
   |false=>
    rw [hoj,if_neg (by decide)] at hpj
    have h2:(x3 s gL (a0J s gL+1)).getD j false=true:=by
     rw [a1p hj,hoj,Bool.false_or]
     exact decide_eq_true hpj
    rw [hl,hoj] at h2;cases h2
structure a7S (s:g8) (c:Rat) (z:List Rat):Prop where
 r:j0 s=true
 l:(z.length:Int)=s.n
 p:∀v ∈ z,0<=v
 w:∀w ∈ s.rows,(w.kind≠1->c*w.value<=k9 w.terms z)∧(w.kind≠0->k9 w.terms z<=c*w.value)
theorem ag3 {s:g8} {z:List Rat} (h:j7 s z=true):a7S s 1 z:=by
 obtain ⟨h1,h2,h3,h4⟩:=a0r.1 h
 exact ⟨h1,h2,h3,fun w hw=>by
  obtain ⟨a,b⟩:=h4 w hw
  have e:(1:Rat)*w.value=w.value:=by grind
  rw [e];exact ⟨a,b⟩⟩
theorem aP8 {s:g8} {c d:Rat} {x y:List Rat} (hx:a7S s c x) (hy:a7S s d y):a7S s (c+d) (Y9 x y):=by
 have hn:=a0P hx.r
 have lx:x.length=s.n.toNat:=by have:=hx.l;omega
 have ly:y.length=s.n.toNat:=by have:=hy.l;omega
 have ll:=a1O lx ly
 refine ⟨hx.r,by omega,fun v hv=>?_,fun w hw=>?_⟩
 ·obtain ⟨j,hj,rfl⟩:=List.getElem_of_mem hv
  have e:=a5f lx ly (j:=j) (by omega)
  rw [lg3,lg0 hj] at e
  have e:(Y9 x y)[j]=x.getD j 0+y.getD j 0:=e
  rw [e]
  have h1:0<=x.getD j 0:=by rw [lg3,lg0 (by omega)];exact hx.p _ (List.getElem_mem _)
  have h2:0<=y.getD j 0:=by rw [lg3,lg0 (by omega)];exact hy.p _ (List.getElem_mem _)
  grind
 ·obtain ⟨i,hi,rfl⟩:=List.getElem_of_mem hw
  have hrt:=(Z8 hx.r (lg0 hi)).1
  rw [a2B lx ly hrt]
  obtain ⟨a1,a2⟩:=hx.w _ (List.getElem_mem hi)
  obtain ⟨b1,b2⟩:=hy.w _ (List.getElem_mem hi)
  have e:(c+d)*s.rows[i].value=c*s.rows[i].value+d*s.rows[i].value:=by grind
  rw [e]
  exact ⟨fun h=>by have:=a1 h;have:=b1 h;grind,fun h=>by have:=a2 h;have:=b2 h;grind⟩
theorem ad3 {n:Nat} {l:List (Int × Rat)} {x:List Rat} (k:Rat) (hl:x.length=n) (h:g9 (-1) (n:Int) l=true):k9 l (x.map fun v=>v*k)=k*k9 l x:=by
 rw [O2 h,O2 h,←E4]
 refine f7 fun j hj=>?_
 have:(x.map fun v=>v*k).getD j 0=x.getD j 0*k:=by
  rw [lg3,List.getElem?_map,lg3,lg0 (by omega)];rfl
 rw [this];grind
theorem at4 {s:g8} {c k:Rat} {x:List Rat} (hx:a7S s c x) (k0:0<=k) (h:k*c=1):j7 s (x.map fun v=>v*k)=true:=by
 have hn:=a0P hx.r
 have lx:x.length=s.n.toNat:=by have:=hx.l;omega
 refine a0r.2 ⟨hx.r,by simpa using hx.l,fun v hv=>?_,fun w hw=>?_⟩
 ·obtain ⟨u,hu,rfl⟩:=List.mem_map.1 hv
  exact Rat.mul_nonneg (hx.p u hu) k0
 ·obtain ⟨i,hi,rfl⟩:=List.getElem_of_mem hw
  have hrt:=(Z8 hx.r (lg0 hi)).1
  rw [ad3 k lx hrt]
  obtain ⟨a1,a2⟩:=hx.w _ (List.getElem_mem hi)
  have e:s.rows[i].value=k*(c*s.rows[i].value):=by rw [← Rat.mul_assoc,h];grind
  refine ⟨fun h=>?_,fun h=>?_⟩
  ·have:=a8m (a1 h) k0;rw [← e] at this;exact this
  ·have:=a8m (a2 h) k0;rw [← e] at this;exact this
theorem sumX_holds {s:g8} {gL:List (List (Int × Rat))} (h:a1K s gL):∀k,a7S s ((k+1:Nat):Rat) (Z0 s gL k)
 |0=>ag3 (a6y h _)
 |k+1=>by
  have:=aP8 (sumX_holds h k) (ag3 (a6y h (x3 s gL (k+1))))
  have e:(((k+1+1:Nat)):Rat)=((k+1:Nat):Rat)+1:=by push_cast;rfl
  rw [e];exact this
theorem aE1 {s:g8} {gL:List (List (Int × Rat))} (h:a1K s gL) {i:Nat} (hi:i<gL.length):∀k,0<=k9 (gL.getD i []) (Z0 s gL k)∧((x3 s gL (k+1)).getD i false=true->0<k9 (gL.getD i []) (Z0 s gL k))
 |0=>by
  refine ⟨h.p _ (Q2 hi) _ (a6y h _),fun ho=>?_⟩
  rw [a1p hi] at ho
  have e:(x3 s gL 0).getD i false=false:=by
   show (List.replicate gL.length false).getD i false=false
   rw [lg3];simp [hi]
  rw [e,Bool.false_or] at ho
  exact of_decide_eq_true ho
 |k+1=>by
  obtain ⟨h1,h2⟩:=aE1 h hi k
  have hn:=a0P h.r
  have lx:(Z0 s gL k).length=s.n.toNat:=by have:=(sumX_holds h k).l;omega
  have hf:=a6y h (x3 s gL (k+1))
  have ly:(a0O s gL (x3 s gL (k+1))).length=s.n.toNat:=by have:=(O8 hf).2;omega
  have e:k9 (gL.getD i []) (Z0 s gL (k+1))=k9 (gL.getD i []) (Z0 s gL k)+k9 (gL.getD i []) (a0O s gL (x3 s gL (k+1))):=a2B lx ly (h.g _ (Q2 hi))
  have h3:=h.p _ (Q2 hi) _ hf
  rw [e]
  refine ⟨by grind,fun ho=>?_⟩
  rw [a1p hi] at ho
  cases hk:(x3 s gL (k+1)).getD i false with
  |true=>have:=h2 hk;grind
  |false=>
   rw [hk,Bool.false_or] at ho
   have:=of_decide_eq_true ho
   grind
theorem b1Z (k:Nat):0<=Rat.divInt 1 ((k+1:Nat):Int)∧Rat.divInt 1 ((k+1:Nat):Int)*((k+1:Nat):Rat)=1∧0<Rat.divInt 1 ((k+1:Nat):Int):=by
 have h0:((k+1:Nat):Rat)≠0:=by
  intro e
  have:((k+1:Nat):Rat)=((0:Nat):Rat):=e
  have:=Rat.natCast_inj.1 this
  omega
 have e:Rat.divInt 1 ((k+1:Nat):Int)=1 / ((k+1:Nat):Rat):=by rw [Rat.divInt_eq_div];rfl
 have e2:Rat.divInt 1 ((k+1:Nat):Int)*((k+1:Nat):Rat)=1:=by rw [e,Rat.div_def,Rat.mul_assoc,Rat.inv_mul_cancel _ h0];grind
 have hp:0<Rat.divInt 1 ((k+1:Nat):Int):=by
  rw [e,Rat.div_def]
  have:0<((k+1:Nat):Rat):=by
   have:((0:Nat):Rat)<((k+1:Nat):Rat):=by exact_mod_cast (show 0<k+1 by omega)
   exact this
  have:=Rat.inv_pos.2 this
  grind
 exact ⟨Rat.le_of_lt hp,e2,hp⟩
theorem b59 {s:g8} {gL:List (List (Int × Rat))} (h:a1K s gL):j7 s (a9B s gL)=true∧∀i,i<gL.length->(isF s gL).getD i false=true->0<k9 (gL.getD i []) (a9B s gL):=by
 obtain ⟨q1,q2,q3⟩:=b1Z (a0J s gL)
 have hh:=sumX_holds h (a0J s gL)
 have hn:=a0P h.r
 have lx:(Z0 s gL (a0J s gL)).length=s.n.toNat:=by have:=hh.l;omega
 refine ⟨at4 hh q1 q2,fun i hi ho=>?_⟩
 have hp:=(aE1 h hi (a0J s gL)).2 (by rw [(a5a s gL).1];exact ho)
 unfold a9B
 rw [ad3 _ lx (h.g _ (Q2 hi))]
 exact Rat.mul_pos q3 hp
theorem aQ4 (s:g8) (hb:ab1 s) (hr:j0 s=true) (z:List Fr) (hz:b5X z) (h:z.all D7=false):
 a9 Tryz.prog 43 [a0U s,n6 z] [] (f9 false) []:=by
 have m2:(z.map s7).length=z.length:=by simp
 have l1:=hb.n0
 have lr:=a6B s hb
 rw [hr] at lr
 have pt:=au3 z hz.l hz.d
 rw [h] at pt
 (refine ac Tryz.func43 ?_;(conv=>whnf);repeat ((first|refine b0x ?_|refine zy ?_);conv=>whnf))
 repeat' (first|refine zz ?_|refine qp lr ?_|refine qp pt ?_|refine zd ?_ ?_<;>intro h<;>try omega|refine zy ?_|fail)<;>conv=>whnf
 all_goals first
  |omega
  |exact b7 rfl
structure b6R where
 hh:Int
 state:Int
 w:List Fr
 wo:List Fr
 pr:List Fr
def b6R.row (v:b6R):List T:=[ti v.hh,ti v.state,F2 v.w,F2 v.wo,F2 v.pr]
def b6R.val (v:b6R):b7S:=⟨v.hh,v.state,v.w.map fv,v.wo.map fv,v.pr.map fv⟩
def aR1 (s:g8) (g:List (Int × Rat)) (y:List Fr):Bool:=(decide (y.length=s.rows.length) && y.all D7) && (a3s s g (y.map fv) && decide (a2z s (yN (y.map fv))=0))
end Go.Proofs.YtdbogogfeffjlaaGreat
