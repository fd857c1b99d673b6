/- Part 6. -/
import Derived.Test.YtdbogogfeffjlaaGreatMr5
namespace Go.Proofs.YtdbogogfeffjlaaGreat
set_option linter.unusedVariables false
set_option linter.unusedSimpArgs false
set_option maxRecDepth 100000
set_option maxHeartbeats 8000000
open Go.RowKit
open St1 St2 St3 St4 St5 St6 St7 St8 StA StB
structure ao5 (a b:List Int) (i:Nat) (out:List Int) (c:Int):Prop where
 len:out.length=i
 ok:Okd out
 le:i<=max a.length b.length+1
 top:i=max a.length b.length+1->c=0
 c0:0<=c
 c1:c<=1
 eq:val out+pw i*c=val (a.take i)+val (b.take i)
theorem ao5.init (a b:List Int):ao5 a b 0 [] 0:=⟨rfl,.nil,Nat.zero_le _,fun _=>rfl,by decide,by decide,by simp [val]⟩
theorem ao5.step {a b out:List Int} {i:Nat} {c:Int} (h:ao5 a b i out c) (ha:Okd a) (hb:Okd b) (hi:i<a.length∨i<b.length∨0<c):
 ao5 a b (i+1) (out++[(dat a i+dat b i+c) % 1048576]) ((dat a i+dat b i+c) / 1048576):=by
 have h1:=ha.dat i
 have h2:=hb.dat i
 have h3:=h.c0
 have h4:=h.c1
 have hl:=h.le
 have ht:=h.top
 have hi2:i<=max a.length b.length:=by
  rcases Nat.lt_or_ge (max a.length b.length) i with h5|h5
  ·have:=ht (by omega);omega
  ·exact h5
 refine ⟨by simp [h.len],h.ok.append (Okd.cons (a5E _) .nil),by omega,fun e=>?_,by omega,by omega,?_⟩
 ·have e1:dat a i=0:=Q1 (by omega)
  have e2:dat b i=0:=Q1 (by omega)
  rw [e1,e2];omega
 ·rw [L7,h.len,s8,s8,F3]
  have h5:=h.eq
  have h6:(dat a i+dat b i+c) % 1048576=dat a i+dat b i+c - 1048576*((dat a i+dat b i+c) / 1048576):=by omega
  simp only [val]
  rw [h6]
  grind
theorem ao5.fin {a b out:List Int} {i:Nat} {c:Int} (h:ao5 a b i out c) (la:a.length<=i) (lb:b.length<=i) (hc:c<=0):G0 out=dg (val a+val b).toNat:=by
 have h1:=h.eq
 have h2:=h.c0
 obtain rfl:c=0:=by omega
 rw [lbn la,lbn lb] at h1
 rw [K5 h.ok]
 congr 2
 grind
theorem ba5 (a b:List Int) (ha:Okd a) (hb:Okd b) (la:a.length<=400000) (lb:b.length<=400000):
 a9 Tryz.prog 185 [d6 a,d6 b] [] (d6 (dg (val a+val b).toNat)) []:=by
 have l1:(a.map c9).length=a.length:=by simp
 have l2:(b.map c9).length=b.length:=by simp
 (refine ac Tryz.func185 ?_;(conv=>whnf);repeat (refine zy ?_;conv=>whnf))
 repeat' (first|refine zx ?_|refine zd ?_ ?_<;>intro h<;>try omega|fail)<;>conv=>whnf
 refine n8 c8 (σ:=Nat × List Int × Int) (fun|(k,out,c)=>([d6 a,d6 b,J,J,J,M4 0 out,a7 .i64 c,a7 .i64 k]++Jn 35,[k8 out])) (fun x=>ao5 a b x.1 x.2.1 x.2.2) (fun x=>max a.length b.length+1 - x.1) (0,[],0) [none]
  (ao5.init a b) ⟨rfl,rfl,⟨⟨rfl,rfl⟩,trivial⟩,⟨g6 rfl,g6 rfl,⟨rfl,rfl,rfl⟩,rfl,rfl,trivial⟩⟩ ?_
 rintro ⟨k,out,c⟩ hI
 have hI:ao5 a b k out c:=hI
 have hlen:=hI.len
 have hle:=hI.le
 have hc0:=hI.c0
 have hc1:=hI.c1
 have hda:=ha.dat k
 have hdb:=hb.dat k
 have d1:=a5K a k (by omega)
 have d2:=a5K b k (by omega)
 have hm:(dat a k+dat b k+c).tmod 1048576=(dat a k+dat b k+c) % 1048576:=Int.tmod_eq_emod_of_nonneg (by omega)
 have hd:(dat a k+dat b k+c).tdiv 1048576=(dat a k+dat b k+c) / 1048576:=Int.tdiv_eq_ediv_of_nonneg (by omega)
 by_cases hgo:k<a.length∨k<b.length∨0<c
 ·have hst:=hI.step ha hb hgo
  have hk2:=hst.le
  conv=>whnf
  repeat' (first|refine zx ?_|refine qp d1 ?_|refine qp d2 ?_|refine qp toC ?_|refine qp toC ?_|refine o8 (by simp [toC]) (by simp [toC];omega) ?_|refine ⟨by decide,_,B5 hd (by omega) (by omega),?_⟩|refine au1 (by decide) ?_|refine zd ?_ ?_<;>intro h<;>try omega|fail)<;>conv=>whnf
  all_goals try omega
  all_goals
   refine ⟨[some 1],(k+1,out++[(dat a k+dat b k+c) % 1048576],(dat a k+dat b k+c) / 1048576),⟨rfl,rfl,⟨a8 rfl rfl rfl ?_ rfl,trivial⟩,⟨rfl,rfl,f8 rfl (by simp [toC]),rfl,b8 (by omega),trivial⟩⟩,hst,?_⟩
   ·have e:∀y:Int,y=(dat a k+dat b k+c) % 1048576->(toC (out.map c9)).take out.length++toC [[ti y]]=toC ((out++[(dat a k+dat b k+c) % 1048576]).map c9):=fun y hy=>by rw [hy];exact a29
    exact e _ (by omega)
   ·show max a.length b.length+1 - (k+1)<max a.length b.length+1 - k
    omega
 ·have hf:=hI.fin (by omega) (by omega) (by omega)
  have t:=a6I out (by omega)
  rw [hf] at t
  conv=>whnf
  repeat' (first|refine zx ?_|refine qp 0 ?_|refine .inr ⟨_,_,w6 [0] t ⟨a19 (u4 (by simp) rfl (by intro h;cases h) rfl rfl (by simp)),trivial⟩ rfl,?_⟩|refine zd ?_ ?_<;>intro h<;>try omega|fail)<;>conv=>whnf
  all_goals first
   |omega
   |exact ak7 rfl
theorem b7L (m n:Nat) (lm:(dg m).length<=300000) (ln:(dg n).length<=300000):a9 Tryz.prog 185 [d6 (dg m),d6 (dg n)] [] (d6 (dg (m+n))) []:=by
 have h:=ba5 (dg m) (dg n) (t5 m) (t5 n) (by omega) (by omega)
 rw [o9,o9,show ((m:Int)+n).toNat=m+n by omega] at h
 exact h
theorem a77 (m n:Nat) (lm:(dg m).length<=300000) (h:n<=m):a9 Tryz.prog 187 [d6 (dg m),d6 (dg n)] [] (d6 (dg (m - n))) []:=by
 have h:=b1I (dg m) (dg n) (t5 m) (t5 n) (by omega) (p7 h) (by rw [o9,o9];omega)
 rw [o9,o9,show ((m:Int) - n).toNat=m - n by omega] at h
 exact h
theorem b1x (m n:Nat) (lm:(dg m).length<=300000) (ln:(dg n).length<=300000):a9 Tryz.prog 186 [d6 (dg m),d6 (dg n)] [] (e8 (decide (m<n))) []:=by
 have h:=b53 (dg m) (dg n) (t5 m) (t5 n) (by omega) (by omega)
 rw [o9,o9,show decide ((m:Int)<n)=decide (m<n) by simp] at h
 exact h
theorem b6P (s:Int) (m:Nat) (h:Sg s m) (lm:(dg m).length<=300000):a9 Tryz.prog 180 [bgS ⟨s,dg m⟩] [] (e8 true) []:=by
 have:=a3B ⟨s,dg m⟩ (show (dg m).length<=1000000 by omega)
 rw [← a7C h,a0i,a7C h] at this
 exact this
theorem bg3 (x:Int) (lx:bl x<=300000):a9 Tryz.prog 188 [bgS (bz x)] [] (bgS (bz (-x))) []:=by
 have r:=a0M x lx
 have hs:=C9 x
 have hsg:(bz x).sg=x.sign:=rfl
 have sg:=I8 (0 - (bz x).sg) x.natAbs (by omega) (by unfold bl at lx;omega)
 rw [show (0 - (bz x).sg)*(x.natAbs:Int)=-x by rw [hsg];have:=sgm x;grind] at sg
 (refine ac Tryz.func188 ?_;(conv=>whnf);repeat ((first|refine b0x ?_|refine zy ?_);conv=>whnf))
 repeat' (first|refine zx ?_|refine qp r ?_|refine qp sg ?_|refine zd ?_ ?_<;>intro h<;>try omega|fail)<;>conv=>whnf
 all_goals first
  |(exfalso;simp_all;done)
  |exact k9 ⟨rfl,rfl,trivial⟩
theorem a4g {α:Type} {l:List α} {k:Nat} {x:α} (h:l[k]? =some x):l.take (k+1)=l.take k++[x]:=by
 rw [lbG,h];rfl
theorem b92 (a b:Bg) (ha:a.dl.length<=1000000) (hb:b.dl.length<=1000000):a9 Tryz.prog 245 [bgS a,bgS b] [] (e8 (decide (a.sg=b.sg∧a.dl=b.dl))) []:=by
 have l1:(a.dl.map c9).length=a.dl.length:=by simp
 have l2:(b.dl.map c9).length=b.dl.length:=by simp
 by_cases h0:¬(a.sg=b.sg∧a.dl.length=b.dl.length)
 ·(refine ac Tryz.func245 ?_;(conv=>whnf);repeat ((first|refine b0x ?_|refine zy ?_);conv=>whnf))
  repeat' (first|refine zx ?_|refine zd ?_ ?_<;>intro h<;>try omega|fail)<;>conv=>whnf
  all_goals first
   |omega
   |(refine c7 (lbJ ?_).symm;rintro ⟨h1,h2⟩;rw [h2] at h0;exact h0 ⟨h1,rfl⟩)
 have h0:a.sg=b.sg∧a.dl.length=b.dl.length:=ai7.1 h0
 (refine ac Tryz.func245 ?_;(conv=>whnf);repeat ((first|refine b0x ?_|refine zy ?_);conv=>whnf))
 repeat' (first|refine zx ?_|refine zd ?_ ?_<;>intro h<;>try omega|fail)<;>conv=>whnf
 all_goals try omega
 refine d8 c8 (fun k=>([J,J,S.c (C.t (T.ptr [ti a.sg,K4 a.dl])),S.c (C.t (T.ptr [ti b.sg,K4 b.dl])),J,a7 .i64 k]++Jn 32,[])) a.dl.length (fun k=>a.dl.take k=b.dl.take k) [] rfl
  ⟨rfl,rfl,trivial,⟨rfl,rfl,rfl,trivial⟩⟩ ?_
 intro k hk hI
 by_cases hlt:k<a.dl.length
 ·obtain ⟨x,hx⟩:∃x,a.dl[k]? =some x:=⟨_,lbf hlt⟩
  obtain ⟨y,hy⟩:∃y,b.dl[k]? =some y:=⟨_,lbf (by omega)⟩
  conv=>whnf
  repeat' (first|refine zx ?_|refine b9 hx ?_|refine b9 hy ?_|refine zd ?_ ?_<;>intro h<;>try omega|fail)<;>conv=>whnf
  ·have hne:x≠y:=‹x≠y›
   refine c7 (lbJ ?_).symm
   rintro ⟨_,hq⟩;rw [hq,hy] at hx;injection hx with hx;exact hne hx.symm
  ·have hxy:x=y:=by omega
   refine ⟨hlt,?_,[],rfl,rfl,trivial,⟨rfl,rfl,rfl,trivial⟩⟩
   rw [a4g hx,a4g hy,hI,hxy]
  all_goals omega
 ·rw [lbn (by omega),lbn (by omega)] at hI
  conv=>whnf
  repeat' (first|refine zx ?_|refine zd ?_ ?_<;>intro h<;>try omega|fail)<;>conv=>whnf
  all_goals first
   |omega
   |exact c7 (lbH ⟨h0.1,hI⟩).symm
theorem bf7:V3 .or .i64 0 0 0:=by show (0:Int)=_;decide +kernel
theorem bd5:V3 .or .i64 0 1 1:=by show (1:Int)=_;decide +kernel
theorem bi3:V3 .or .i64 1 0 1:=by show (1:Int)=_;decide +kernel
theorem bd9:V3 .or .i64 1 1 1:=by show (1:Int)=_;decide +kernel
theorem bi2:V3 .or .i64 0 (-1) (-1):=by show (-1:Int)=_;decide +kernel
theorem bc9:V3 .or .i64 (-1) 0 (-1):=by show (-1:Int)=_;decide +kernel
theorem bi8:V3 .or .i64 (-1) (-1) (-1):=by show (-1:Int)=_;decide +kernel
theorem b90 (s t:Int) (m n:Nat) (hs:Sg s m) (ht:Sg t n) (lm:(dg m).length<=200000) (ln:(dg n).length<=200000):
 a9 Tryz.prog 113 [bgS ⟨s,dg m⟩,bgS ⟨t,dg n⟩] [] (.tup [bgS (bz (s*m+t*n)),a7 .i64 0]) []:=by
 have r1:=b6P s m hs (by omega)
 have r2:=b6P t n ht (by omega)
 have ad:=b7L m n (by omega) (by omega)
 have c:=b1x m n (by omega) (by omega)
 have ls:=a40 m n
 have fin:∀(z:Int) (H1:Hp),z=s*m+t*n->Fin 0 (.tup [bgS (bz z),a7 .i64 0]) H1 (.tup [bgS (bz (s*m+t*n)),a7 .i64 0]) []:=fun z H1 h=>a6o (by rw [h])
 rcases hs with ⟨rfl,rfl⟩|⟨rfl,h1⟩|⟨rfl,h1⟩<;>rcases ht with ⟨rfl,rfl⟩|⟨rfl,h2⟩|⟨rfl,h2⟩
 case inl.inl=>
  have sg:=I8 (0) _ (by omega) (F6 ls (by omega))
  (refine ac Tryz.func113 ?_;(conv=>whnf);repeat ((first|refine b0x ?_|refine zy ?_);conv=>whnf))
  repeat' (first|refine zx ?_|refine qp r1 ?_|refine qp r2 ?_|refine qp ad ?_|refine qp sg ?_|refine ⟨_,bf7,?_⟩|refine zd ?_ ?_<;>intro h<;>try omega|fail)<;>conv=>whnf
  all_goals first|omega|(exfalso;simp_all;done)|exact fin _ _ (by omega)
 case inl.inr.inl=>
  have sg:=I8 (1) _ (by omega) (F6 ls (by omega))
  (refine ac Tryz.func113 ?_;(conv=>whnf);repeat ((first|refine b0x ?_|refine zy ?_);conv=>whnf))
  repeat' (first|refine zx ?_|refine qp r1 ?_|refine qp r2 ?_|refine qp ad ?_|refine qp sg ?_|refine ⟨_,bd5,?_⟩|refine zd ?_ ?_<;>intro h<;>try omega|fail)<;>conv=>whnf
  all_goals first|omega|(exfalso;simp_all;done)|exact fin _ _ (by omega)
 case inl.inr.inr=>
  have sg:=I8 (-1) _ (by omega) (F6 ls (by omega))
  (refine ac Tryz.func113 ?_;(conv=>whnf);repeat ((first|refine b0x ?_|refine zy ?_);conv=>whnf))
  repeat' (first|refine zx ?_|refine qp r1 ?_|refine qp r2 ?_|refine qp ad ?_|refine qp sg ?_|refine ⟨_,bi2,?_⟩|refine zd ?_ ?_<;>intro h<;>try omega|fail)<;>conv=>whnf
  all_goals first|omega|(exfalso;simp_all;done)|exact fin _ _ (by omega)
 case inr.inl.inl=>
  have sg:=I8 (1) _ (by omega) (F6 ls (by omega))
  (refine ac Tryz.func113 ?_;(conv=>whnf);repeat ((first|refine b0x ?_|refine zy ?_);conv=>whnf))
  repeat' (first|refine zx ?_|refine qp r1 ?_|refine qp r2 ?_|refine qp ad ?_|refine qp sg ?_|refine ⟨_,bi3,?_⟩|refine zd ?_ ?_<;>intro h<;>try omega|fail)<;>conv=>whnf
  all_goals first|omega|(exfalso;simp_all;done)|exact fin _ _ (by omega)
 case inr.inr.inl=>
  have sg:=I8 (-1) _ (by omega) (F6 ls (by omega))
  (refine ac Tryz.func113 ?_;(conv=>whnf);repeat ((first|refine b0x ?_|refine zy ?_);conv=>whnf))
  repeat' (first|refine zx ?_|refine qp r1 ?_|refine qp r2 ?_|refine qp ad ?_|refine qp sg ?_|refine ⟨_,bc9,?_⟩|refine zd ?_ ?_<;>intro h<;>try omega|fail)<;>conv=>whnf
  all_goals first|omega|(exfalso;simp_all;done)|exact fin _ _ (by omega)
 case inr.inl.inr.inl=>
  have sg:=I8 (1) _ (by omega) (F6 ls (by omega))
  (refine ac Tryz.func113 ?_;(conv=>whnf);repeat ((first|refine b0x ?_|refine zy ?_);conv=>whnf))
  repeat' (first|refine zx ?_|refine qp r1 ?_|refine qp r2 ?_|refine qp ad ?_|refine qp sg ?_|refine ⟨_,bd9,?_⟩|refine zd ?_ ?_<;>intro h<;>try omega|fail)<;>conv=>whnf
  all_goals first|omega|(exfalso;simp_all;done)|exact fin _ _ (by omega)
 case inr.inr.inr.inr=>
  have sg:=I8 (-1) _ (by omega) (F6 ls (by omega))
  (refine ac Tryz.func113 ?_;(conv=>whnf);repeat ((first|refine b0x ?_|refine zy ?_);conv=>whnf))
  repeat' (first|refine zx ?_|refine qp r1 ?_|refine qp r2 ?_|refine qp ad ?_|refine qp sg ?_|refine ⟨_,bi8,?_⟩|refine zd ?_ ?_<;>intro h<;>try omega|fail)<;>conv=>whnf
  all_goals first|omega|(exfalso;simp_all;done)|exact fin _ _ (by omega)
 case inr.inl.inr.inr=>
  rcases Nat.lt_or_ge m n with hmn|hmn
  ·rw [lbH hmn] at c
   have l3:=p7 (Nat.sub_le n m)
   (refine ac Tryz.func113 ?_;(conv=>whnf);repeat ((first|refine b0x ?_|refine zy ?_);conv=>whnf))
   repeat' (first|refine zx ?_|refine qp r1 ?_|refine qp r2 ?_|refine qp c ?_|refine qp (a77 n m (by omega) (by omega)) ?_|refine qp (I8 (-1) (n - m) (by omega) (by omega)) ?_|refine zd ?_ ?_<;>intro h<;>try omega|fail)<;>conv=>whnf
   all_goals first|omega|(exfalso;simp_all;done)|exact fin _ _ (by omega)
  ·rw [lbJ (Nat.not_lt.2 hmn)] at c
   have l3:=p7 (Nat.sub_le m n)
   (refine ac Tryz.func113 ?_;(conv=>whnf);repeat ((first|refine b0x ?_|refine zy ?_);conv=>whnf))
   repeat' (first|refine zx ?_|refine qp r1 ?_|refine qp r2 ?_|refine qp c ?_|refine qp (a77 m n (by omega) (by omega)) ?_|refine qp (I8 (1) (m - n) (by omega) (by omega)) ?_|refine zd ?_ ?_<;>intro h<;>try omega|fail)<;>conv=>whnf
   all_goals first|omega|(exfalso;simp_all;done)|exact fin _ _ (by omega)
 case inr.inr.inr.inl=>
  rcases Nat.lt_or_ge m n with hmn|hmn
  ·rw [lbH hmn] at c
   have l3:=p7 (Nat.sub_le n m)
   (refine ac Tryz.func113 ?_;(conv=>whnf);repeat ((first|refine b0x ?_|refine zy ?_);conv=>whnf))
   repeat' (first|refine zx ?_|refine qp r1 ?_|refine qp r2 ?_|refine qp c ?_|refine qp (a77 n m (by omega) (by omega)) ?_|refine qp (I8 (1) (n - m) (by omega) (by omega)) ?_|refine zd ?_ ?_<;>intro h<;>try omega|fail)<;>conv=>whnf
   all_goals first|omega|(exfalso;simp_all;done)|exact fin _ _ (by omega)
  ·rw [lbJ (Nat.not_lt.2 hmn)] at c
   have l3:=p7 (Nat.sub_le m n)
   (refine ac Tryz.func113 ?_;(conv=>whnf);repeat ((first|refine b0x ?_|refine zy ?_);conv=>whnf))
   repeat' (first|refine zx ?_|refine qp r1 ?_|refine qp r2 ?_|refine qp c ?_|refine qp (a77 m n (by omega) (by omega)) ?_|refine qp (I8 (-1) (m - n) (by omega) (by omega)) ?_|refine zd ?_ ?_<;>intro h<;>try omega|fail)<;>conv=>whnf
   all_goals first|omega|(exfalso;simp_all;done)|exact fin _ _ (by omega)
theorem b8B (x y:Int) (lx:bl x<=200000) (ly:bl y<=200000):a9 Tryz.prog 113 [bgS (bz x),bgS (bz y)] [] (.tup [bgS (bz (x+y)),a7 .i64 0]) []:=by
 have h:=b90 _ _ _ _ (a67 x) (a67 y) lx ly
 rw [sgm,sgm] at h
 exact h
theorem bh6 (x y:Int) (lx:bl x<=200000) (ly:bl y<=200000):a9 Tryz.prog 115 [bgS (bz x),bgS (bz y)] [] (.tup [bgS (bz (x - y)),a7 .i64 0]) []:=by
 have r:=a0M y (by omega)
 have n:=bg3 y (by omega)
 have a:=b8B x (-y) lx (by rw [a2h];exact ly)
 rw [← Int.sub_eq_add_neg] at a
 (refine ac Tryz.func115 ?_;(conv=>whnf);repeat ((first|refine b0x ?_|refine zy ?_);conv=>whnf))
 repeat' (first|refine zx ?_|refine qp r ?_|refine qp n ?_|refine qp a ?_|refine qp 6 ?_|refine qp 1 ?_|refine bl0 [6] ?_|refine bl0 [1] ?_|refine zd ?_ ?_<;>intro h<;>try omega|fail)<;>conv=>whnf
 all_goals first
  |(exfalso;simp_all;done)
  |exact a6o rfl
theorem b9G (s t:Int) (m n:Nat) (hs:Sg s m) (ht:Sg t n) (lm:(dg m).length<=200000) (ln:(dg n).length<=200000):
 a9 Tryz.prog 112 [bgS ⟨s,dg m⟩,bgS ⟨t,dg n⟩] [] (.tup [bgS (bz ((s*t)*(m*n:Nat))),a7 .i64 0]) []:=by
 have r1:=b6P s m hs (by omega)
 have r2:=b6P t n ht (by omega)
 have mu:=aK9 m n (by omega) (by omega)
 have ls:=a3K m n
 have hst:-1<=s*t∧s*t<=1∧(s*t=1∨s*t=-1∨m*n=0):=by
  rcases hs with ⟨rfl,rfl⟩|⟨rfl,h1⟩|⟨rfl,h1⟩<;>rcases ht with ⟨rfl,rfl⟩|⟨rfl,h2⟩|⟨rfl,h2⟩<;>simp
 obtain ⟨q1,q2,q3⟩:=hst
 have sg:=I8 (s*t) (m*n) q3 (by omega)
 (refine ac Tryz.func112 ?_;(conv=>whnf);repeat ((first|refine b0x ?_|refine zy ?_);conv=>whnf))
 repeat' (first|refine zx ?_|refine qp r1 ?_|refine qp r2 ?_|refine qp mu ?_|refine qp sg ?_|refine ⟨_,B5 (y:=s*t) rfl (by omega) (by omega),?_⟩|refine zd ?_ ?_<;>intro h<;>try omega|fail)<;>conv=>whnf
 all_goals first|(exfalso;simp_all;done)|exact a6o rfl
theorem a6b (x y:Int) (lx:bl x<=200000) (ly:bl y<=200000):a9 Tryz.prog 112 [bgS (bz x),bgS (bz y)] [] (.tup [bgS (bz (x*y)),a7 .i64 0]) []:=by
 have h:=b9G _ _ _ _ (a67 x) (a67 y) lx ly
 have e:(x.sign*y.sign)*((x.natAbs*y.natAbs:Nat):Int)=x*y:=by
  rw [Int.natCast_mul]
  have h1:=sgm x
  have h2:=sgm y
  grind
 rw [e] at h
 exact h
theorem b75 {x y:Int} (h:(bz x).sg=(bz y).sg∧(bz x).dl=(bz y).dl):x=y:=by
 have:bz x=bz y:=by
  obtain ⟨h1,h2⟩:=h
  cases hx:bz x with
  |mk a b=>
   cases hy:bz y with
   |mk c d=>rw [hx,hy] at h1 h2;simp only at h1 h2;rw [h1,h2]
 rw [← a4p x,←a4p y,this]
theorem aq5 (x y:Int) (lx:bl x<=300000) (ly:bl y<=300000):a9 Tryz.prog 182 [bgS (bz x),bgS (bz y)] [] (a7 .i64 (O1 x y)) []:=by
 have r1:=a0M x lx
 have r2:=a0M y ly
 have hsx:(bz x).sg=x.sign:=rfl
 have hsy:(bz y).sg=y.sign:=rfl
 have sx:=C9 x
 have sy:=C9 y
 have sm:=b92 (bz x) (bz y) (show bl x<=1000000 by omega) (show bl y<=1000000 by omega)
 by_cases he:x=y
 ·subst he
  have sm:a9 Tryz.prog 245 [bgS (bz x),bgS (bz x)] [] (e8 true) []:=by rw [show decide ((bz x).sg=(bz x).sg∧(bz x).dl=(bz x).dl)=true from lbH ⟨rfl,rfl⟩] at sm;exact sm
  have e0:O1 x x=0:=by unfold O1;rw [if_neg (by omega),if_neg (by omega)]
  rw [e0]
  (refine ac Tryz.func182 ?_;(conv=>whnf);repeat ((first|refine b0x ?_|refine zy ?_);conv=>whnf))
  repeat' (first|refine zx ?_|refine qp r1 ?_|refine qp r2 ?_|refine qp sm ?_|refine zd ?_ ?_<;>intro h<;>try omega|fail)<;>conv=>whnf
  all_goals first
   |(exfalso;simp_all;done)
   |exact k6 rfl
 rw [lbJ (fun h=>he (b75 h))] at sm
 have ls:=b1x x.natAbs y.natAbs lx ly
 rcases Int.lt_or_gt_of_ne he with hlt|hgt
 ·have e1:O1 x y=-1:=by unfold O1;rw [if_pos hlt]
  rw [e1]
  by_cases hl:x.natAbs<y.natAbs
  ·rw [lbH hl] at ls
   (refine ac Tryz.func182 ?_;(conv=>whnf);repeat ((first|refine b0x ?_|refine zy ?_);conv=>whnf))
   repeat' (first|refine zx ?_|refine qp r1 ?_|refine qp r2 ?_|refine qp sm ?_|refine qp ls ?_|refine zd ?_ ?_<;>intro h<;>try omega|fail)<;>conv=>whnf
   all_goals first
    |omega
    |(exfalso;simp_all;done)
    |exact k6 rfl
  ·rw [lbJ hl] at ls
   (refine ac Tryz.func182 ?_;(conv=>whnf);repeat ((first|refine b0x ?_|refine zy ?_);conv=>whnf))
   repeat' (first|refine zx ?_|refine qp r1 ?_|refine qp r2 ?_|refine qp sm ?_|refine qp ls ?_|refine zd ?_ ?_<;>intro h<;>try omega|fail)<;>conv=>whnf
   all_goals first
    |omega
    |(exfalso;simp_all;done)
    |exact k6 rfl
 ·have e1:O1 x y=1:=by unfold O1;rw [if_neg (by omega),if_pos (by omega)]
  rw [e1]
  by_cases hl:x.natAbs<y.natAbs
  ·rw [lbH hl] at ls
   (refine ac Tryz.func182 ?_;(conv=>whnf);repeat ((first|refine b0x ?_|refine zy ?_);conv=>whnf))
   repeat' (first|refine zx ?_|refine qp r1 ?_|refine qp r2 ?_|refine qp sm ?_|refine qp ls ?_|refine zd ?_ ?_<;>intro h<;>try omega|fail)<;>conv=>whnf
   all_goals first
    |omega
    |(exfalso;simp_all;done)
    |exact k6 rfl
  ·rw [lbJ hl] at ls
   (refine ac Tryz.func182 ?_;(conv=>whnf);repeat ((first|refine b0x ?_|refine zy ?_);conv=>whnf))
   repeat' (first|refine zx ?_|refine qp r1 ?_|refine qp r2 ?_|refine qp sm ?_|refine qp ls ?_|refine zd ?_ ?_<;>intro h<;>try omega|fail)<;>conv=>whnf
   all_goals first
    |omega
    |(exfalso;simp_all;done)
    |exact k6 rfl
theorem b2v {x y:Int}:O1 x y=0↔x=y:=by unfold O1;split<;>(try split)<;>omega
theorem b1P (f:Fr) (lp:f.p.dl.length<=200000) (lq:f.q.dl.length<=200000):a9 Tryz.prog 111 [frS f] [] (e8 (N5 f)) []:=by
 obtain ⟨p,q⟩:=f
 simp only at lp lq
 have r1:=a3B p (by omega)
 have r2:=a3B q (by omega)
 cases hp:I3 p with
 |false=>
  rw [hp] at r1
  (refine ac Tryz.func111 ?_;(conv=>whnf);repeat ((first|refine b0x ?_|refine zy ?_);conv=>whnf))
  repeat' (first|refine zx ?_|refine qp r1 ?_|refine qp r2 ?_|refine zd ?_ ?_<;>intro h<;>try omega|fail)<;>conv=>whnf
  all_goals (first|(exfalso;simp_all;done)|(refine c7 ?_;unfold N5;simp [hp]))
 |true=>
  rw [hp] at r1
  cases hq:I3 q with
  |false=>
   rw [hq] at r2
   (refine ac Tryz.func111 ?_;(conv=>whnf);repeat ((first|refine b0x ?_|refine zy ?_);conv=>whnf))
   repeat' (first|refine zx ?_|refine qp r1 ?_|refine qp r2 ?_|refine zd ?_ ?_<;>intro h<;>try omega|fail)<;>conv=>whnf
   all_goals (first|(exfalso;simp_all;done)|(refine c7 ?_;unfold N5;simp [hq]))
  |true=>
   rw [hq] at r2
   obtain ⟨x,rfl⟩:=aa7 hp
   obtain ⟨y,rfl⟩:=aa7 hq
   have hsg:(bz y).sg=y.sign:=rfl
   have hsg2:(Fr.mk (bz x) (bz y)).q.sg=y.sign:=rfl
   have sy:=C9 y
   have lg:=ab4 x y lp lq
   have g:=b8K x y lp lq
   have o:=b9j 1 (by decide) (by decide)
   have c:=aq5 (Int.gcd x y) 1 (by omega) (by have:=s9 (x:=1) (by decide) (by decide);omega)
   have hc:=b2v (x:=Int.gcd x y) (y:=1)
   (refine ac Tryz.func111 ?_;(conv=>whnf);repeat ((first|refine b0x ?_|refine zy ?_);conv=>whnf))
   repeat' (first|refine zx ?_|refine qp r1 ?_|refine qp r2 ?_|refine qp g ?_|refine qp o ?_|refine qp c ?_|refine qp 5 ?_|refine bl0 [5] ?_|refine zd ?_ ?_<;>intro h<;>try omega|fail)<;>conv=>whnf
   all_goals first
    |(exfalso;simp_all;done)
    |(refine c7 ?_;unfold N5;simp only [a0i,a4p,Bool.true_and];simp;omega)
theorem a9C (x:Rat) (lx:rl x<=200000):a9 Tryz.prog 111 [frS (fz x)] [] (e8 true) []:=by
 have h:=b1P (fz x) (lbS (G9 x) lx) (lbS (I0 x) lx)
 rw [ad8] at h
 exact h
theorem aa4 (x y:Rat):0<(x.den:Int)*y.den:=Int.mul_pos (by have:=x.den_pos;omega) (by have:=y.den_pos;omega)
theorem b1H (x y:Rat) (lx:rl x<=60000) (ly:rl y<=60000):a9 Tryz.prog 47 [frS (fz x),frS (fz y)] [] (.tup [frS (fz (x+y)),a7 .i64 0]) []:=by
 have r1:=a9C x (by omega)
 have r2:=a9C y (by omega)
 have x1:=G9 x
 have x2:=I0 x
 have y1:=G9 y
 have y2:=I0 y
 have l1:=E9 x.num y.den
 have l2:=E9 y.num x.den
 have l3:=E9 x.den y.den
 have l4:=a7Z (x.num*y.den) (y.num*x.den)
 have t1:=a6b x.num y.den (by omega) (by omega)
 have t2:=a6b y.num x.den (by omega) (by omega)
 have t3:=a6b x.den y.den (by omega) (by omega)
 have a:=b8B (x.num*y.den) (y.num*x.den) (by omega) (by omega)
 have n:=b1v (x.num*y.den+y.num*x.den) (x.den*y.den) (aa4 x y) (by omega) (by omega)
 rw [← aa0] at n
 (refine ac Tryz.func47 ?_;(conv=>whnf);repeat ((first|refine b0x ?_|refine zy ?_);conv=>whnf))
 repeat' (first|refine zx ?_|refine qp r1 ?_|refine qp r2 ?_|refine qp t1 ?_|refine qp t2 ?_|refine qp t3 ?_|refine qp a ?_|refine qp n ?_|refine qp 7 ?_|refine qp 5 ?_|refine bl0 [7] ?_|refine bl0 [5] ?_|refine zd ?_ ?_<;>intro h<;>try omega|fail)<;>conv=>whnf
 all_goals first
  |(exfalso;simp_all;done)
  |exact Y0 rfl
theorem bh8 (x y:Rat) (lx:rl x<=60000) (ly:rl y<=60000):a9 Tryz.prog 48 [frS (fz x),frS (fz y)] [] (.tup [frS (fz (x - y)),a7 .i64 0]) []:=by
 have r1:=a9C x (by omega)
 have r2:=a9C y (by omega)
 have x1:=G9 x
 have x2:=I0 x
 have y1:=G9 y
 have y2:=I0 y
 have l1:=E9 x.num y.den
 have l2:=E9 y.num x.den
 have l3:=E9 x.den y.den
 have l4:=a7Z (x.num*y.den) (-(y.num*x.den))
 rw [a2h,←Int.sub_eq_add_neg] at l4
 have t1:=a6b x.num y.den (by omega) (by omega)
 have t2:=a6b y.num x.den (by omega) (by omega)
 have t3:=a6b x.den y.den (by omega) (by omega)
 have a:=bh6 (x.num*y.den) (y.num*x.den) (by omega) (by omega)
 have n:=b1v (x.num*y.den - y.num*x.den) (x.den*y.den) (aa4 x y) (by omega) (by omega)
 have e:Rat.divInt (x.num*y.den - y.num*x.den) (x.den*y.den)=x - y:=by
  have:=aa0 x (-y)
  rw [Rat.neg_num,Rat.neg_den,Int.neg_mul,←Int.sub_eq_add_neg,←Rat.sub_eq_add_neg] at this
  exact this.symm
 rw [e] at n
 (refine ac Tryz.func48 ?_;(conv=>whnf);repeat ((first|refine b0x ?_|refine zy ?_);conv=>whnf))
 repeat' (first|refine zx ?_|refine qp r1 ?_|refine qp r2 ?_|refine qp t1 ?_|refine qp t2 ?_|refine qp t3 ?_|refine qp a ?_|refine qp n ?_|refine qp 7 ?_|refine qp 5 ?_|refine bl0 [7] ?_|refine bl0 [5] ?_|refine zd ?_ ?_<;>intro h<;>try omega|fail)<;>conv=>whnf
 all_goals first
  |(exfalso;simp_all;done)
  |exact Y0 rfl
theorem b8H (x y:Rat) (lx:rl x<=60000) (ly:rl y<=60000):a9 Tryz.prog 237 [frS (fz x),frS (fz y)] [] (.tup [frS (fz (x*y)),a7 .i64 0]) []:=by
 have r1:=a9C x (by omega)
 have r2:=a9C y (by omega)
 have x1:=G9 x
 have x2:=I0 x
 have y1:=G9 y
 have y2:=I0 y
 have l1:=E9 x.num y.num
 have l3:=E9 x.den y.den
 have t1:=a6b x.num y.num (by omega) (by omega)
 have t3:=a6b x.den y.den (by omega) (by omega)
 have n:=b1v (x.num*y.num) (x.den*y.den) (aa4 x y) (by omega) (by omega)
 rw [← ay5] at n
 (refine ac Tryz.func237 ?_;(conv=>whnf);repeat ((first|refine b0x ?_|refine zy ?_);conv=>whnf))
 repeat' (first|refine zx ?_|refine qp r1 ?_|refine qp r2 ?_|refine qp t1 ?_|refine qp t3 ?_|refine qp n ?_|refine qp 7 ?_|refine qp 5 ?_|refine bl0 [7] ?_|refine bl0 [5] ?_|refine zd ?_ ?_<;>intro h<;>try omega|fail)<;>conv=>whnf
 all_goals first
  |(exfalso;simp_all;done)
  |exact Y0 rfl
theorem as6 (x y:Rat) (lx:rl x<=60000) (ly:rl y<=60000):a9 Tryz.prog 169 [frS (fz x),frS (fz y)] [] (a7 .i64 (a42 x y)) []:=by
 have r1:=a9C x (by omega)
 have r2:=a9C y (by omega)
 have x1:=G9 x
 have x2:=I0 x
 have y1:=G9 y
 have y2:=I0 y
 have l1:=E9 x.num y.den
 have l2:=E9 y.num x.den
 have t1:=a6b x.num y.den (by omega) (by omega)
 have t2:=a6b y.num x.den (by omega) (by omega)
 have c:=aq5 (x.num*y.den) (y.num*x.den) (by omega) (by omega)
 rw [aN1] at c
 (refine ac Tryz.func169 ?_;(conv=>whnf);repeat ((first|refine b0x ?_|refine zy ?_);conv=>whnf))
 repeat' (first|refine zx ?_|refine qp r1 ?_|refine qp r2 ?_|refine qp t1 ?_|refine qp t2 ?_|refine qp c ?_|refine qp 7 ?_|refine qp 5 ?_|refine bl0 [7] ?_|refine bl0 [5] ?_|refine zd ?_ ?_<;>intro h<;>try omega|fail)<;>conv=>whnf
 all_goals first
  |(exfalso;simp_all;done)
  |exact k6 rfl
theorem a5p (x:Rat) (lx:rl x<=60000):a9 Tryz.prog 46 [frS (fz x)] [] (a7 .i64 (sgR x)) []:=by
 have r1:=a9C x (by omega)
 (refine ac Tryz.func46 ?_;(conv=>whnf);repeat ((first|refine b0x ?_|refine zy ?_);conv=>whnf))
 repeat' (first|refine zx ?_|refine qp r1 ?_|refine zd ?_ ?_<;>intro h<;>try omega|fail)<;>conv=>whnf
 all_goals first
  |(exfalso;simp_all;done)
  |exact k6 (a6X x)
theorem b4Z {α:Type} {f:α->List T} {l:List α} {k:Nat} {u:α} (hu:l[k]? =some u) {Φ:List T->Prop} (h:Φ (f u)):
 ∃row,(0<=bif true then if 0 > ((k+1:Nat):Int) - 1 then 0 else ((k+1:Nat):Int) - 1 else if 0<((k+1:Nat):Int) - 1 then 0 else ((k+1:Nat):Int) - 1)∧
  (l.map f)[(bif true then if 0 > ((k+1:Nat):Int) - 1 then 0 else ((k+1:Nat):Int) - 1 else if 0<((k+1:Nat):Int) - 1 then 0 else ((k+1:Nat):Int) - 1).toNat]? =some row∧Φ row:=by
 have e:(bif true then if 0 > ((k+1:Nat):Int) - 1 then 0 else ((k+1:Nat):Int) - 1 else if 0<((k+1:Nat):Int) - 1 then 0 else ((k+1:Nat):Int) - 1)=(k:Int):=by
  show (if 0 > ((k+1:Nat):Int) - 1 then 0 else ((k+1:Nat):Int) - 1)=_
  rw [if_neg (by omega)];omega
 rw [e]
 exact ⟨f u,by omega,by rw [lbY,lba,hu];rfl,h⟩
theorem a3Q (l:List (Int × Rat)) (n:Int) (hl:l.length<=1000000) (hB:∀t ∈ l,rl t.2<=200):a9 Tryz.prog 167 [s7 l,a7 .i64 n] [] (e8 (decide (0<=n) && f9 (-1) n l)) []:=by
 have m1:(l.map k5).length=l.length:=by simp
 by_cases h0:n<0
 ·rw [lbJ (by omega),Bool.false_and]
  (refine ac Tryz.func167 ?_;(conv=>whnf);repeat ((first|refine b0x ?_|refine zy ?_);conv=>whnf))
  repeat' (first|refine zx ?_|refine zd ?_ ?_<;>intro h<;>try omega|fail)<;>conv=>whnf
  all_goals first
   |omega
   |exact c7 rfl
 rw [lbH (by omega),Bool.true_and]
 (refine ac Tryz.func167 ?_;(conv=>whnf);repeat ((first|refine b0x ?_|refine zy ?_);conv=>whnf))
 repeat' (first|refine zx ?_|refine zd ?_ ?_<;>intro h<;>try omega|fail)<;>conv=>whnf
 all_goals try omega
 refine d8 c8 (fun k=>([s7 l,a7 .i64 n,J,J,J,a7 .i64 k]++Jn 59,[])) l.length (fun k=>f9 (-1) n l=f9 (a3f l k) n (l.drop k)∧-1<=a3f l k) [] ⟨rfl,Int.le_refl _⟩
  ⟨rfl,rfl,trivial,⟨rfl,rfl,rfl,trivial⟩⟩ ?_
 rintro k hk ⟨hI,hJ⟩
 by_cases hlt:k<l.length
 ·obtain ⟨t,ht⟩:∃t,l[k]? =some t:=⟨_,lbf hlt⟩
  obtain ⟨v,c⟩:=t
  have bc:=hB _ (lbm ht)
  simp only at bc
  have rr:=a9C c (by omega)
  have sz:(fz c).p.sg=0↔c=0:=by
   show c.num.sign=0↔c=0
   rw [Int.sign_eq_zero_iff_zero]
   exact Rat.num_eq_zero
  rw [a12 ht,f9] at hI
  simp only at hI
  by_cases hok:a3f l k<v∧v<n∧c≠0
  ·rw [lbH hok.1,lbH hok.2.1,lbH hok.2.2] at hI
   simp only [Bool.true_and] at hI
   have hne:(fz (v,c).2).p.sg≠0:=fun h=>hok.2.2 (sz.1 h)
   obtain ⟨q1,q2,_⟩:=hok
   cases k with
   |zero=>
    conv=>whnf
    repeat' (first|refine zx ?_|refine qp rr ?_|refine b9 ht ?_|refine zd ?_ ?_<;>intro h<;>try omega|fail)<;>conv=>whnf
    all_goals first
     |omega
     |exact ⟨hlt,⟨by rw [T0 ht];exact hI,by rw [T0 ht];simp only;omega⟩,[],rfl,rfl,trivial,⟨rfl,rfl,rfl,trivial⟩⟩
   |succ k=>
    obtain ⟨u,hu⟩:∃u,l[k]? =some u:=⟨_,lbf (by omega)⟩
    rw [T0 hu] at q1 hJ
    conv=>whnf
    repeat' (first|refine zx ?_|refine qp rr ?_|refine b9 ht ?_|refine b4Z hu ?_|refine zd ?_ ?_<;>intro h<;>try omega|fail)<;>conv=>whnf
    all_goals first
     |omega
     |exact ⟨hlt,⟨by rw [T0 ht];exact hI,by rw [T0 ht];simp only;omega⟩,[],rfl,rfl,trivial,⟨rfl,rfl,rfl,trivial⟩⟩
  ·have hF:f9 (-1) n l=false:=by
    rw [hI]
    rw [← lbQ]
    simp only [lbN,lbI]
    exact fun h=>hok ⟨h.1.1.1,h.1.1.2,h.1.2⟩
   rw [hF]
   have hor:v<=a3f l k∨n<=v∨(fz (v,c).2).p.sg=0:=by
    by_cases q1:a3f l k<v
    ·by_cases q2:v<n
     ·refine .inr (.inr (sz.2 ?_))
      by_cases q3:c=0
      ·exact q3
      ·exact absurd ⟨q1,q2,q3⟩ hok
     ·exact .inr (.inl (by omega))
    ·exact .inl (by omega)
   clear hI hok
   cases k with
   |zero=>
    have e0:a3f l 0=-1:=rfl
    conv=>whnf
    repeat' (first|refine zx ?_|refine qp rr ?_|refine b9 ht ?_|refine zd ?_ ?_<;>intro h<;>try omega|fail)<;>conv=>whnf
    all_goals first
     |omega
     |exact c7 rfl
   |succ k=>
    obtain ⟨u,hu⟩:∃u,l[k]? =some u:=⟨_,lbf (by omega)⟩
    rw [T0 hu] at hor
    conv=>whnf
    repeat' (first|refine zx ?_|refine qp rr ?_|refine b9 ht ?_|refine b4Z hu ?_|refine zd ?_ ?_<;>intro h<;>try omega|fail)<;>conv=>whnf
    all_goals first
     |omega
     |exact c7 rfl
 ·rw [lbo (by omega)] at hI
  have hI:f9 (-1) n l=true:=hI
  rw [hI]
  conv=>whnf
  repeat' (first|refine zx ?_|refine zd ?_ ?_<;>intro h<;>try omega|fail)<;>conv=>whnf
  all_goals first
   |omega
   |exact c7 rfl
theorem bd3 (w:D3) (n:Int) (hl:w.terms.length<=1000000) (hB:∀t ∈ w.terms,rl t.2<=200) (hv:rl w.value<=200):a9 Tryz.prog 269 [aJ0 w,a7 .i64 n] [] (e8 (decide (0<=n) && v7 n w)) []:=by
 have rt:=a3Q w.terms n hl hB
 have rv:=a9C w.value (by omega)
 unfold v7
 cases h1:decide (0<=n)<;>cases h2:f9 (-1) n w.terms<;>rw [h1,h2] at rt<;>
 ·(refine ac Tryz.func269 ?_;(conv=>whnf);repeat ((first|refine b0x ?_|refine zy ?_);conv=>whnf))
  repeat' (first|refine zx ?_|refine qp rt ?_|refine qp rv ?_|refine zd ?_ ?_<;>intro h<;>try omega|fail)<;>conv=>whnf
  all_goals first
   |(exfalso;simp_all;done)
   |(refine c7 ?_;simp;done)
   |(refine c7 ?_;simp;omega)
theorem aA3 (s:g4) (hb:aL2 s):a9 Tryz.prog 218 [a3c s] [] (e8 (j8 s)) []:=by
 have m1:(s.rows.map y4).length=s.rows.length:=by simp
 have l1:=hb.n0
 by_cases h0:¬(0<=s.n∧s.n<=1500∧s.rows.length<=6000)
 ·have e1:j8 s=false:=by
   unfold j8
   rw [← lbQ]
   simp only [lbN,lbI]
   exact fun h=>h0 ⟨h.1.1.1,h.1.1.2,h.1.2⟩
  rw [e1]
  (refine ac Tryz.func218 ?_;(conv=>whnf);repeat ((first|refine b0x ?_|refine zy ?_);conv=>whnf))
  repeat' (first|refine zx ?_|refine zd ?_ ?_<;>intro h<;>try omega|fail)<;>conv=>whnf
  all_goals first
   |omega
   |exact c7 rfl
 obtain ⟨c1,c2,c3⟩:=ai7.1 h0
 have e1:j8 s=s.rows.all (v7 s.n):=by
  unfold j8
  rw [lbH c1,lbH c2,lbH c3];rfl
 rw [e1]
 clear h0
 (refine ac Tryz.func218 ?_;(conv=>whnf);repeat ((first|refine b0x ?_|refine zy ?_);conv=>whnf))
 repeat' (first|refine zx ?_|refine zd ?_ ?_<;>intro h<;>try omega|fail)<;>conv=>whnf
 all_goals try omega
 refine d8 c8 (fun k=>([J,S.c (C.t (T.ptr [ti s.n,O7 s.rows])),J,a7 .i64 k]++Jn 30,[])) s.rows.length (fun k=>(s.rows.take k).all (v7 s.n)=true) [] rfl
  ⟨rfl,rfl,trivial,⟨rfl,rfl,trivial⟩⟩ ?_
 intro k hk hI
 by_cases hlt:k<s.rows.length
 ·obtain ⟨w,hw⟩:∃w,s.rows[k]? =some w:=⟨_,lbf hlt⟩
  obtain ⟨b1,b2,b3⟩:=hb.t w (lbm hw)
  have rt:=bd3 w s.n (by omega) b2 b3
  rw [lbH c1,Bool.true_and] at rt
  cases hrt:v7 s.n w with
  |false=>
   rw [hrt] at rt
   rw [x9 hw hrt]
   conv=>whnf
   repeat' (first|refine zx ?_|refine qp rt ?_|refine b9 hw ?_|refine zd ?_ ?_<;>intro h<;>try omega|fail)<;>conv=>whnf
   all_goals first
    |omega
    |(exfalso;simp_all;done)
    |exact c7 rfl
  |true=>
   rw [hrt] at rt
   conv=>whnf
   repeat' (first|refine zx ?_|refine qp rt ?_|refine b9 hw ?_|refine zd ?_ ?_<;>intro h<;>try omega|fail)<;>conv=>whnf
   all_goals first
    |omega
    |(exfalso;simp_all;done)
    |exact ⟨hlt,by rw [u6 hw,hI,hrt];rfl,[],rfl,rfl,trivial,⟨rfl,rfl,trivial⟩⟩
 ·rw [lbn (by omega)] at hI
  rw [hI]
  conv=>whnf
  repeat' (first|refine zx ?_|refine zd ?_ ?_<;>intro h<;>try omega|fail)<;>conv=>whnf
  all_goals first
   |omega
   |exact c7 rfl
theorem b6T (z:List Fr) (hl:z.length<=1000000) (hd:∀f ∈ z,f.p.dl.length<=200000∧f.q.dl.length<=200000):a9 Tryz.prog 219 [t4 z] [] (e8 (z.all N5)) []:=by
 have m1:(z.map t6).length=z.length:=by simp
 (refine ac Tryz.func219 ?_;(conv=>whnf);repeat ((first|refine b0x ?_|refine zy ?_);conv=>whnf))
 repeat' (first|refine zx ?_|refine zd ?_ ?_<;>intro h<;>try omega|fail)<;>conv=>whnf
 refine d8 c8 (fun k=>([t4 z,J,J,a7 .i64 k]++Jn 12,[])) z.length (fun k=>(z.take k).all N5=true) [] rfl
  ⟨rfl,rfl,trivial,⟨rfl,rfl,trivial⟩⟩ ?_
 intro k hk hI
 by_cases hlt:k<z.length
 ·obtain ⟨f,hf⟩:∃f,z[k]? =some f:=⟨_,lbf hlt⟩
  have q:=hd f (lbm hf)
  have rr:=b1P f q.1 q.2
  cases hff:N5 f with
  |true=>
   rw [hff] at rr
   conv=>whnf
   repeat' (first|refine zx ?_|refine qp rr ?_|refine b9 hf ?_|refine zd ?_ ?_<;>intro h<;>try omega|fail)<;>conv=>whnf
   all_goals first
    |omega
    |exact ⟨hlt,by rw [u6 hf,hI,hff];rfl,[],rfl,rfl,trivial,⟨rfl,rfl,trivial⟩⟩
  |false=>
   rw [hff] at rr
   rw [x9 hf hff]
   conv=>whnf
   repeat' (first|refine zx ?_|refine qp rr ?_|refine b9 hf ?_|refine zd ?_ ?_<;>intro h<;>try omega|fail)<;>conv=>whnf
   all_goals first
    |omega
    |exact c7 rfl
 ·rw [lbn (by omega)] at hI
  rw [hI]
  conv=>whnf
  repeat' (first|refine zx ?_|refine zd ?_ ?_<;>intro h<;>try omega|fail)<;>conv=>whnf
  all_goals first
   |omega
   |exact c7 rfl
theorem aQ6 (z:List Rat) (hl:z.length<=1000000) (hd:∀v ∈ z,rl v<=200000):a9 Tryz.prog 219 [t4 (z.map fz)] [] (e8 true) []:=by
 have pt:=b6T (z.map fz) (by simpa using hl) (fun f hf=>by
  obtain ⟨x,hx,rfl⟩:=lbx.1 hf
  have:=hd x hx
  have a:=G9 x
  have b:=I0 x
  exact ⟨by show bl x.num<=_;omega,by show bl x.den<=_;omega⟩)
 rw [a8m] at pt
 exact pt
theorem b85 (l:List (Int × Rat)) (z:List Rat) (hl:l.length<=1000000) (h1:∀t ∈ l,rl t.2<=200) (h2:∀v ∈ z,rl v<=40000) (hS:∀k,rl (p4 (l.take k) z)<=60000) (hz:z.length<=1000000) (hr:f9 (-1) z.length l=true):
 a9 Tryz.prog 165 [s7 l,t4 (z.map fz)] [] (.tup [frS (fz (p4 l z)),e8 true]) []:=by
 have m1:(l.map k5).length=l.length:=by simp
 have m2:((z.map fz).map t6).length=z.length:=by simp
 have i0:=a4j 0 (by decide) (by decide)
 have rt:=a3Q l z.length hl h1
 rw [lbH (by omega),hr] at rt
 have rt2:a9 Tryz.prog 167 [s7 l,a7 .i64 (((z.map fz).map t6).length:Nat)] [] (e8 (true && true)) []:=by rw [m2];exact rt
 have pt:=aQ6 z hz (fun v hv=>by have:=h2 v hv;omega)
 (refine ac Tryz.func165 ?_;(conv=>whnf);repeat ((first|refine b0x ?_|refine zy ?_);conv=>whnf))
 repeat' (first|refine zx ?_|refine qp rt2 ?_|refine qp pt ?_|refine qp i0 ?_|refine zd ?_ ?_<;>intro h<;>try omega|fail)<;>conv=>whnf
 all_goals try (exfalso;simp_all;done)
 refine d8 c8 (fun k=>([s7 l,t4 (z.map fz),J,J,S.c (C.ptr 0 0 0),J,S.c (C.ptr 1 0 0),a7 .i64 k]++Jn 44,[frB U6,frB (fz (p4 (l.take k) z))])) l.length (fun _=>True) [some 0,some 1] trivial
  ⟨rfl,rfl,⟨⟨rfl,rfl,rfl,.inr ⟨⟨rfl,rfl,rfl,rfl,trivial⟩,trivial⟩⟩,⟨rfl,rfl,rfl,.inl ⟨rfl,N9 _⟩⟩,trivial⟩,⟨rfl,rfl,⟨rfl,rfl,rfl⟩,⟨rfl,rfl,rfl⟩,rfl,trivial⟩⟩ ?_
 intro k hk _
 by_cases hlt:k<l.length
 ·obtain ⟨t,ht⟩:∃t,l[k]? =some t:=⟨_,lbf hlt⟩
  obtain ⟨v,c⟩:=t
  have hv:=a8T hr _ (lbm ht)
  simp only at hv
  have bc:=h1 _ (lbm ht)
  simp only at bc
  obtain ⟨x,hx⟩:∃x,z[v.toNat]? =some x:=⟨_,lbf (by omega)⟩
  have hxd:z.getD v.toNat 0=x:=by rw [lbl,hx];rfl
  have bx:=h2 x (lbm hx)
  have b3:=a45 c x
  have bs:=hS k
  have mu:=b8H c x (by omega) (by omega)
  have ad:=b1H (p4 (l.take k) z) (c*x) (by omega) (by omega)
  have e:p4 (l.take k) z+c*x=p4 (l.take (k+1)) z:=by
   have:l.take (k+1)=l.take k++[(v,c)]:=by rw [lbG,ht];rfl
   rw [this,T7,←hxd]
  rw [e] at ad
  have xz:(z.map fz)[v.toNat]? =some (fz x):=by rw [lba,hx];rfl
  conv=>whnf
  repeat' (first|refine zx ?_|refine qp mu ?_|refine qp ad ?_|refine qp 16 ?_|refine qp 5 ?_|refine b9 ht ?_|refine v6 (by omega) xz ?_|refine bl0 [16] ?_|refine bl0 [5] ?_|refine zd ?_ ?_<;>intro h<;>try omega|fail)<;>conv=>whnf
  all_goals first
   |omega
   |exact ⟨hlt,trivial,[some 0,some 1],rfl,rfl,⟨⟨rfl,rfl,rfl,.inl ⟨rfl,N9 _⟩⟩,⟨rfl,rfl,rfl,.inl ⟨rfl,N9 _⟩⟩,trivial⟩,⟨rfl,rfl,⟨rfl,rfl,rfl⟩,⟨rfl,rfl,rfl⟩,rfl,trivial⟩⟩
 ·have hke:k=l.length:=by omega
  subst hke
  rw [lbn (lbR _)]
  conv=>whnf
  repeat' (first|refine zx ?_|refine zd ?_ ?_<;>intro h<;>try omega|fail)<;>conv=>whnf
  all_goals first
   |omega
   |exact k9 ⟨⟨rfl,rfl,rfl,rfl,trivial⟩,rfl,trivial⟩
structure PtB (s:g4) (z:List Rat):Prop where
 v:∀v ∈ z,rl v<=40000
 S:∀w ∈ s.rows,∀k,rl (p4 (w.terms.take k) z)<=50000
 l:z.length<=1000000
theorem b0l (w:D3) (z:List Rat) (hl:w.terms.length<=1000000) (h1:∀t ∈ w.terms,rl t.2<=200) (h3:rl w.value<=200) (h2:∀v ∈ z,rl v<=40000) (hS:∀k,rl (p4 (w.terms.take k) z)<=50000) (hz:z.length<=1000000)
 (hr:f9 (-1) z.length w.terms=true):a9 Tryz.prog 220 [aJ0 w,t4 (z.map fz)] [] (e8 (U5 w z)) []:=by
 have va:=b85 w.terms z hl h1 h2 (fun k=>by have:=hS k;omega) hz hr
 have bv:=hS w.terms.length
 rw [lbn (lbR _)] at bv
 have c:=as6 (p4 w.terms z) w.value (by omega) (by omega)
 have k1:=aF8 (x:=p4 w.terms z) (y:=w.value)
 have k2:=aQ4 (x:=p4 w.terms z) (y:=w.value)
 have hro:=a3l (w:=w) (z:=z)
 rw [← k1,←k2] at hro
 have e:e8 (U5 w z)=e8 (decide ((a42 (p4 w.terms z) w.value<0->w.kind=1)∧(a42 (p4 w.terms z) w.value > 0->w.kind=0))):=by
  congr 1
  rw [Bool.eq_iff_iff,hro,decide_eq_true_iff]
 rw [e]
 clear hro e k1 k2
 generalize a42 (p4 w.terms z) w.value=U at c
 (refine ac Tryz.func220 ?_;(conv=>whnf);repeat ((first|refine b0x ?_|refine zy ?_);conv=>whnf))
 repeat' (first|refine zx ?_|refine qp va ?_|refine qp c ?_|refine qp 5 ?_|refine bl0 [5] ?_|refine zd ?_ ?_<;>intro h<;>try omega|fail)<;>conv=>whnf
 all_goals first
  |omega
  |(exfalso;simp_all;done)
  |(refine c7 ?_;simp;omega)
theorem b8e (s:g4) (hb:aL2 s) (hr:j8 s=true) (Z:List Rat) (hp:PtB s Z):
 a9 Tryz.prog 144 [a3c s,t4 (Z.map fz)] [] (e8 (o7 s Z)) []:=by
 have m1:(s.rows.map y4).length=s.rows.length:=by simp
 have m2:((Z.map fz).map t6).length=Z.length:=by simp
 have l1:=hb.n0
 have l2:=hp.l
 have lr:=aA3 s hb
 rw [hr] at lr
 have pt:=aQ6 Z hp.l (fun v hv=>by have:=hp.v v hv;omega)
 by_cases hn:(Z.length:Int)≠s.n
 ·have e2:o7 s Z=false:=by unfold o7;rw [lbJ hn];simp
  rw [e2]
  (refine ac Tryz.func144 ?_;(conv=>whnf);repeat ((first|refine b0x ?_|refine zy ?_);conv=>whnf))
  repeat' (first|refine zx ?_|refine qp lr ?_|refine qp pt ?_|refine zd ?_ ?_<;>intro h<;>try omega|fail)<;>conv=>whnf
  all_goals first
   |omega
   |exact c7 rfl
 have hn:(Z.length:Int)=s.n:=by omega
 have e2:o7 s Z=(Z.all (fun v=>decide (0<=v)) && s.rows.all (fun w=>U5 w Z)):=by unfold o7;rw [hr,lbH hn];simp
 rw [e2]
 (refine ac Tryz.func144 ?_;(conv=>whnf);repeat ((first|refine b0x ?_|refine zy ?_);conv=>whnf))
 repeat' (first|refine zx ?_|refine qp lr ?_|refine qp pt ?_|refine zd ?_ ?_<;>intro h<;>try omega|fail)<;>conv=>whnf
 all_goals try omega
 refine d8 c8 (fun k=>([J,t4 (Z.map fz),S.c (C.t (T.ptr [ti s.n,O7 s.rows])),J,J,a7 .i64 k]++Jn 43,[])) Z.length (fun k=>(Z.take k).all (fun v=>decide (0<=v))=true) [] rfl
  ⟨rfl,rfl,trivial,⟨rfl,rfl,rfl,trivial⟩⟩ ?_
 intro k hk hI
 by_cases hlt:k<Z.length
 ·obtain ⟨x,hx⟩:∃x,Z[k]? =some x:=⟨_,lbf hlt⟩
  have bx:=hp.v x (lbm hx)
  have sg:=a5p x (by omega)
  have sn:=b8r (x:=x)
  conv=>whnf
  repeat' (first|refine zx ?_|refine qp sg ?_|refine b9 (a3r Z hx) ?_|refine zd ?_ ?_<;>intro h<;>try omega|fail)<;>conv=>whnf
  all_goals first
   |omega
   |(have h0:¬sgR x<0:=by omega
     exact ⟨hlt,by rw [u6 hx,hI];simpa using lb4.1 (fun h=>h0 (sn.2 h)),[],rfl,rfl,trivial,⟨rfl,rfl,rfl,trivial⟩⟩)
   |(have h0:sgR x<0:=by omega
     have hF:Z.all (fun v=>decide (0<=v))=false:=x9 hx (lbJ (Rat.not_le.2 (sn.1 h0)))
     refine c7 ?_;rw [hF];rfl)
 ·have hA:Z.all (fun v=>decide (0<=v))=true:=by rw [← hI,lbn (by omega)]
  rw [hA,Bool.true_and]
  conv=>whnf
  repeat' (first|refine zx ?_|refine zd ?_ ?_<;>intro h<;>try omega|fail)<;>conv=>whnf
  all_goals try omega
  clear hI hlt hk
  refine d8 c8 (fun k=>([J,t4 (Z.map fz),S.c (C.t (T.ptr [ti s.n,O7 s.rows])),J,J,J,a7 .i64 k]++Jn 42,[])) s.rows.length (fun k=>(s.rows.take k).all (fun w=>U5 w Z)=true) [] rfl
   ⟨rfl,rfl,trivial,⟨rfl,rfl,rfl,trivial⟩⟩ ?_
  intro k hk hI
  by_cases hlt:k<s.rows.length
  ·obtain ⟨w,hw⟩:∃w,s.rows[k]? =some w:=⟨_,lbf hlt⟩
   obtain ⟨b1,b2,b3⟩:=hb.t w (lbm hw)
   have hrw:v7 s.n w=true:=by
    unfold j8 at hr
    simp only [lbN,lbv] at hr
    exact hr.2 w (lbm hw)
   have hrt:f9 (-1) Z.length w.terms=true:=by
    unfold v7 at hrw
    simp only [lbN] at hrw
    rw [hn];exact hrw.1.1
   have ho:=b0l w Z (by omega) b2 b3 hp.v (hp.S w (lbm hw)) hp.l hrt
   cases hro:U5 w Z with
   |true=>
    rw [hro] at ho
    conv=>whnf
    repeat' (first|refine zx ?_|refine qp ho ?_|refine b9 hw ?_|refine zd ?_ ?_<;>intro h<;>try omega|fail)<;>conv=>whnf
    all_goals first
     |omega
     |exact ⟨hlt,by rw [u6 hw,hI,hro];rfl,[],rfl,rfl,trivial,⟨rfl,rfl,rfl,trivial⟩⟩
   |false=>
    rw [hro] at ho
    rw [x9 hw hro]
    conv=>whnf
    repeat' (first|refine zx ?_|refine qp ho ?_|refine b9 hw ?_|refine zd ?_ ?_<;>intro h<;>try omega|fail)<;>conv=>whnf
    all_goals first
     |omega
     |exact c7 rfl
  ·rw [lbn (by omega)] at hI
   rw [hI]
   conv=>whnf
   repeat' (first|refine zx ?_|refine zd ?_ ?_<;>intro h<;>try omega|fail)<;>conv=>whnf
   all_goals first
    |omega
    |exact c7 rfl
theorem b0Z (Y:List Rat) (n:Nat) (hl:Y.length<=1000000) (h:∀v ∈ Y,rl v<=200000):a9 Tryz.prog 238 [t4 (Y.map fz),a7 .i64 n] [] (e8 (decide (Y.length=n))) []:=by
 have m2:((Y.map fz).map t6).length=Y.length:=by simp
 (refine ac Tryz.func238 ?_;(conv=>whnf);repeat ((first|refine b0x ?_|refine zy ?_);conv=>whnf))
 repeat' (first|refine zx ?_|refine zd ?_ ?_<;>intro h<;>try omega|fail)<;>conv=>whnf
 refine d8 c8 (fun k=>([t4 (Y.map fz),a7 .i64 n,J,J,J,a7 .i64 k]++Jn 16,[])) Y.length (fun _=>True) [] trivial
  ⟨rfl,rfl,trivial,⟨rfl,rfl,rfl,trivial⟩⟩ ?_
 intro k hk _
 by_cases hlt:k<Y.length
 ·obtain ⟨x,hx⟩:∃x,Y[k]? =some x:=⟨_,lbf hlt⟩
  have bx:=h x (lbm hx)
  have rr:=a9C x (by omega)
  conv=>whnf
  repeat' (first|refine zx ?_|refine qp rr ?_|refine b9 (a3r Y hx) ?_|refine zd ?_ ?_<;>intro h<;>try omega|fail)<;>conv=>whnf
  all_goals first
   |omega
   |(exfalso;simp_all;done)
   |exact ⟨hlt,trivial,[],rfl,rfl,trivial,⟨rfl,rfl,rfl,trivial⟩⟩
 ·conv=>whnf
  repeat' (first|refine zx ?_|refine zd ?_ ?_<;>intro h<;>try omega|fail)<;>conv=>whnf
  all_goals first
   |omega
   |(refine c7 (lbH ?_).symm;omega)
   |(refine c7 (lbJ ?_).symm;omega)
def yN (Y:List Rat) (i:Nat):Rat:=Y.getD i 0
theorem aW0 {Y:List Rat} {k:Nat} {x:Rat} (h:Y[k]? =some x):yN Y k=x:=by unfold yN;rw [lbl,h];rfl
def sgB (s:g4) (Y:List Rat) (i:Nat):Bool:=!((decide ((y6 s i).kind=0) && decide (yN Y i<0)) || (decide ((y6 s i).kind=1) && decide (0<yN Y i)))
def a4s (s:g4) (Y:List Rat):Bool:=decide (Y.length=s.rows.length) && (List.range s.rows.length).all (sgB s Y)
theorem a5u {n k:Nat} (h:k<n):(List.range n)[k]? =some k:=by simp [h]
theorem a54 {f:Nat->Bool} {k:Nat}:(List.range (k+1)).all f=((List.range k).all f && f k):=by rw [List.range_succ,List.all_append];simp
theorem a7F {f:Nat->Bool} {n k:Nat} (h:k<n) (hf:f k=false):(List.range n).all f=false:=x9 (a5u h) hf
theorem b4P (s:g4) (hb:aL2 s) (hr:j8 s=true) (Y:List Rat) (hl:Y.length<=1000000) (hy:∀v ∈ Y,rl v<=50000):
 a9 Tryz.prog 166 [a3c s,t4 (Y.map fz)] [] (e8 (a4s s Y)) []:=by
 have m1:(s.rows.map y4).length=s.rows.length:=by simp
 have m2:((Y.map fz).map t6).length=Y.length:=by simp
 have l1:=hb.n0
 have lr:=aA3 s hb
 rw [hr] at lr
 have fr:=b0Z Y s.rows.length hl (fun v hv=>by have:=hy v hv;omega)
 have fr2:a9 Tryz.prog 238 [t4 (Y.map fz),a7 .i64 ((s.rows.map y4).length:Nat)] [] (e8 (decide (Y.length=s.rows.length))) []:=by rw [m1];exact fr
 by_cases hn:Y.length≠s.rows.length
 ·have e2:a4s s Y=false:=by unfold a4s;rw [lbJ hn];simp
  rw [lbJ hn] at fr2
  rw [e2]
  (refine ac Tryz.func166 ?_;(conv=>whnf);repeat ((first|refine b0x ?_|refine zy ?_);conv=>whnf))
  repeat' (first|refine zx ?_|refine qp lr ?_|refine qp fr2 ?_|refine zd ?_ ?_<;>intro h<;>try omega|fail)<;>conv=>whnf
  all_goals first
   |omega
   |(exfalso;simp_all;done)
   |exact c7 rfl
 have hn:Y.length=s.rows.length:=by omega
 have e2:a4s s Y=(List.range s.rows.length).all (sgB s Y):=by unfold a4s;rw [lbH hn];simp
 rw [e2]
 rw [lbH hn] at fr2
 (refine ac Tryz.func166 ?_;(conv=>whnf);repeat ((first|refine b0x ?_|refine zy ?_);conv=>whnf))
 repeat' (first|refine zx ?_|refine qp lr ?_|refine qp fr2 ?_|refine zd ?_ ?_<;>intro h<;>try omega|fail)<;>conv=>whnf
 all_goals try (exfalso;simp_all;done)
 refine d8 c8 (fun k=>([J,t4 (Y.map fz),S.c (C.t (T.ptr [ti s.n,O7 s.rows])),J,J,a7 .i64 k]++Jn 47,[])) Y.length (fun k=>(List.range k).all (sgB s Y)=true) [] rfl
  ⟨rfl,rfl,trivial,⟨rfl,rfl,rfl,trivial⟩⟩ ?_
 intro k hk hI
 by_cases hlt:k<Y.length
 ·obtain ⟨x,hx⟩:∃x,Y[k]? =some x:=⟨_,lbf hlt⟩
  obtain ⟨w,hw⟩:∃w,s.rows[k]? =some w:=⟨_,lbf (by omega)⟩
  have bx:=hy x (lbm hx)
  have sg:=a5p x (by omega)
  have es:sgB s Y k=decide ((w.kind=0->¬sgR x<0)∧(w.kind=1->¬sgR x > 0)):=by
   unfold sgB
   rw [O9 hw,aW0 hx,Bool.eq_iff_iff,decide_eq_true_iff,al8,b6d]
   simp
   grind
  generalize sgR x=U at sg es
  by_cases hok:(w.kind=0->¬U<0)∧(w.kind=1->¬U > 0)
  ·rw [lbH hok] at es
   obtain ⟨q1,q2⟩:=hok
   conv=>whnf
   repeat' (first|refine zx ?_|refine qp sg ?_|refine b9 (a3r Y hx) ?_|refine b9 hw ?_|refine zd ?_ ?_<;>intro h<;>try omega|fail)<;>conv=>whnf
   all_goals first
    |omega
    |exact ⟨hlt,by rw [a54,hI,es];rfl,[],rfl,rfl,trivial,⟨rfl,rfl,rfl,trivial⟩⟩
  ·rw [lbJ hok] at es
   rw [a7F (n:=s.rows.length) (by omega) es]
   have hor:(w.kind=0∧U<0)∨(w.kind=1∧U > 0):=by omega
   clear hok
   conv=>whnf
   repeat' (first|refine zx ?_|refine qp sg ?_|refine b9 (a3r Y hx) ?_|refine b9 hw ?_|refine zd ?_ ?_<;>intro h<;>try omega|fail)<;>conv=>whnf
   all_goals first
    |omega
    |exact c7 rfl
 ·have hke:k=s.rows.length:=by omega
  subst hke
  rw [hI]
  conv=>whnf
  repeat' (first|refine zx ?_|refine zd ?_ ?_<;>intro h<;>try omega|fail)<;>conv=>whnf
  all_goals first
   |omega
   |exact c7 rfl
theorem b8u {n:Int} {l:List (Int × Rat)} (hr:f9 (-1) n l=true) {i:Nat} {t:Int × Rat} (ht:l[i]? =some t):∀k,i<k->k<=l.length->L5 l k t.1.toNat=t.2:=by
 intro k hi hk
 induction k with
 |zero=>omega
 |succ k ih=>
  obtain ⟨u,hu⟩:∃u,l[k]? =some u:=⟨_,lbf (by omega)⟩
  rw [J6 hu]
  simp only
  by_cases h:i=k
  ·subst h
   rw [ht] at hu;injection hu with hu;subst hu
   rw [if_pos rfl]
  ·have:=a3A hr i k t u (by omega) ht hu
   have:=E1 hr t (lbm ht)
   rw [if_neg (by omega)]
   exact ih (by omega) (by omega)
theorem b1m {n:Int} {l:List (Int × Rat)} (hr:f9 (-1) n l=true) {i:Nat} {t:Int × Rat} (ht:l[i]? =some t):x8 l t.1.toNat=t.2:=
 b8u hr ht _ (lbe.1 ht).1 (lbR _)
theorem b0e (l:List (Int × Rat)) (v:Nat) {n:Int} (hr:f9 (-1) n l=true) (hl:l.length<=1000000) (hv:v<=1000000):a9 Tryz.prog 170 [s7 l,a7 .i64 v] [] (frS (fz (x8 l v))) []:=by
 have m1:(l.map k5).length=l.length:=by simp
 have i0:=a4j 0 (by decide) (by decide)
 (refine ac Tryz.func170 ?_;(conv=>whnf);repeat ((first|refine b0x ?_|refine zy ?_);conv=>whnf))
 repeat' (first|refine zx ?_|refine zd ?_ ?_<;>intro h<;>try omega|fail)<;>conv=>whnf
 refine d8 c8 (fun k=>([s7 l,a7 .i64 v,J,J,S.c (C.ptr 0 0 0),a7 .i64 k]++Jn 19,[frB U6])) l.length (fun k=>∀i t,i<k->l[i]? =some t->t.1.toNat≠v) [some 0] (fun i t h=>by omega)
  ⟨rfl,rfl,⟨⟨rfl,rfl,rfl,.inr ⟨⟨rfl,rfl,rfl,rfl,trivial⟩,trivial⟩⟩,trivial⟩,⟨rfl,rfl,⟨rfl,rfl,rfl⟩,rfl,trivial⟩⟩ ?_
 intro k hk hI
 by_cases hlt:k<l.length
 ·obtain ⟨t,ht⟩:∃t,l[k]? =some t:=⟨_,lbf hlt⟩
  have hm:=E1 hr t (lbm ht)
  by_cases he:t.1=v
  ·have e:x8 l v=t.2:=by rw [← b1m hr ht,he];rfl
   rw [e]
   conv=>whnf
   repeat' (first|refine zx ?_|refine b9 ht ?_|refine zd ?_ ?_<;>intro h<;>try omega|fail)<;>conv=>whnf
   all_goals first
    |omega
    |exact aN3 rfl
  ·conv=>whnf
   repeat' (first|refine zx ?_|refine b9 ht ?_|refine zd ?_ ?_<;>intro h<;>try omega|fail)<;>conv=>whnf
   all_goals first
    |omega
    |exact ⟨hlt,fun i u hi hu=>by
      by_cases h:i=k
      ·subst h;rw [ht] at hu;injection hu with hu;subst hu;omega
      ·exact hI i u (by omega) hu,[some 0],rfl,rfl,⟨⟨rfl,rfl,rfl,.inl ⟨rfl,N9 _⟩⟩,trivial⟩,⟨rfl,rfl,⟨rfl,rfl,rfl⟩,rfl,trivial⟩⟩
 ·have hke:k=l.length:=by omega
  subst hke
  have e:x8 l v=((0:Int):Rat):=a3m _ hI
  rw [e]
  conv=>whnf
  repeat' (first|refine zx ?_|refine qp i0 ?_|refine zd ?_ ?_<;>intro h<;>try omega|fail)<;>conv=>whnf
  all_goals first
   |omega
   |exact aN3 rfl
theorem b3V (a b c:Rat) (ha:rl a<=60000) (hb:rl b<=50000) (hc:rl c<=200):a9 Tryz.prog 239 [frS (fz a),frS (fz b),frS (fz c)] [] (frS (fz (a+b*c))) []:=by
 have l:=a45 b c
 have mu:=b8H b c (by omega) (by omega)
 have ad:=b1H a (b*c) (by omega) (by omega)
 (refine ac Tryz.func239 ?_;(conv=>whnf);repeat ((first|refine b0x ?_|refine zy ?_);conv=>whnf))
 repeat' (first|refine zx ?_|refine qp mu ?_|refine qp ad ?_|refine qp 5 ?_|refine bl0 [5] ?_|refine zd ?_ ?_<;>intro h<;>try omega|fail)<;>conv=>whnf
 all_goals first
  |exact aN3 rfl
def U8 (s:g4) (y:Nat->Rat) (k:Nat):List (Int × Rat):=((List.range k).filter fun v=>decide (R9 s y v≠0)).map fun v:Nat=>((v:Int),R9 s y v)
theorem as9 (s:g4) (y:Nat->Rat) (k:Nat):U8 s y (k+1)=if R9 s y k=0 then U8 s y k else U8 s y k++[((k:Int),R9 s y k)]:=by
 unfold U8
 rw [List.range_succ,lb8,lbC]
 by_cases h:R9 s y k=0
 ·rw [if_pos h];simp [h]
 ·rw [if_neg h];simp [h]
theorem aP0 (s:g4) (y:Nat->Rat) (k:Nat):(U8 s y k).length<=k:=by
 unfold U8
 rw [lbr]
 exact lbS (lbt _ _) (by simp)
def a6f (s:g4) (y:Nat->Rat) (l k:Nat):Rat:=f7 (fun i=>y i*x8 (y6 s i).terms l) k
def a6g (s:g4) (y:Nat->Rat) (k:Nat):Rat:=f7 (fun i=>y i*(y6 s i).value) k
structure b4H (s:g4) (Y:List Rat):Prop where
 y:∀v ∈ Y,rl v<=40000
 n:∀l k,rl (a6f s (yN Y) l k)<=50000
 v:∀k,rl (a6g s (yN Y) k)<=50000
 l:Y.length=s.rows.length
 m:s.rows.length<=1000000
theorem b1K {l:List (Int × Rat)} (h:∀t ∈ l,rl t.2<=200) (v:Nat):rl (x8 l v)<=200:=by
 have key:∀k,rl (L5 l k v)<=200:=by
  intro k
  induction k with
  |zero=>have:=rl0;show rl 0<=_;omega
  |succ k ih=>
   cases hk:l[k]? with
   |none=>rw [L5,hk];exact ih
   |some t=>
    rw [J6 hk]
    simp only
    split
    ·exact h t (lbm hk)
    ·exact ih
 exact key _
theorem bi4 (s:g4) (hb:aL2 s) (hr:j8 s=true) (Y:List Rat) (hq:b4H s Y):
 a9 Tryz.prog 168 [a3c s,t4 (Y.map fz)] [] (.tup [s7 (U8 s (yN Y) s.n.toNat),frS (fz (a38 s (yN Y)))]) []:=by
 have m1:(s.rows.map y4).length=s.rows.length:=by simp
 have m2:((Y.map fz).map t6).length=Y.length:=by simp
 have l1:=hb.n0
 have hn:=hq.l
 have lr:=aA3 s hb
 rw [hr] at lr
 have hnn:0<=s.n∧s.n<=1500:=by
  unfold j8 at hr
  simp only [lbN,lbI] at hr
  exact ⟨hr.1.1.1,hr.1.1.2⟩
 have fr:=b0Z Y s.rows.length (by omega) (fun v hv=>by have:=hq.y v hv;omega)
 have fr2:a9 Tryz.prog 238 [t4 (Y.map fz),a7 .i64 ((s.rows.map y4).length:Nat)] [] (e8 true) []:=by rw [m1];rw [lbH hn] at fr;exact fr
 have i0:=a4j 0 (by decide) (by decide)
 (refine ac Tryz.func168 ?_;(conv=>whnf);repeat ((first|refine b0x ?_|refine zy ?_);conv=>whnf))
 repeat' (first|refine zz ?_|refine qp lr ?_|refine qp fr2 ?_|refine qp i0 ?_|refine a2n.own ?_|refine zd ?_ ?_<;>intro h<;>try omega|refine zy ?_|fail)<;>conv=>whnf
 all_goals try omega
 all_goals try (exfalso;simp_all;done)
 refine d8 c8 (fun v=>([J,t4 (Y.map fz),S.c (C.t (T.ptr [ti s.n,O7 s.rows])),J,J,S.c (C.ptr 0 0 0),S.c (C.own 1 0 (U8 s (yN Y) v).length true),a7 .i64 v]++Jn 74,[frB U6,S8 (U8 s (yN Y) v)])) s.n.toNat (fun _=>True) [some 0,some 1] trivial
  ⟨rfl,rfl,⟨⟨rfl,rfl,rfl,.inr ⟨⟨rfl,rfl,rfl,rfl,trivial⟩,trivial⟩⟩,a8 (rows:=[]) rfl rfl rfl rfl rfl,trivial⟩,⟨rfl,rfl,⟨rfl,rfl,rfl⟩,⟨rfl,rfl,rfl,fun h=>h⟩,rfl,trivial⟩⟩ ?_
 intro v hv _
 have lv:=aP0 s (yN Y) v
 by_cases hlt:v<s.n.toNat
 ·conv=>whnf
  repeat' (first|refine zx ?_|refine qp i0 ?_|refine zd ?_ ?_<;>intro h<;>try omega|fail)<;>conv=>whnf
  all_goals try omega
  refine d8 c8 (fun k=>([J,t4 (Y.map fz),S.c (C.t (T.ptr [ti s.n,O7 s.rows])),J,J,S.c (C.ptr 0 0 0),S.c (C.own 1 0 (U8 s (yN Y) v).length true),a7 .i64 v,S.c (C.ptr 2 0 0),a7 .i64 k]++Jn 72,[frB U6,S8 (U8 s (yN Y) v),frB (fz (a6f s (yN Y) v k))])) Y.length (fun _=>True) [some 0,some 1,some 2] trivial
   ⟨rfl,rfl,⟨⟨rfl,rfl,rfl,.inr ⟨⟨rfl,rfl,rfl,rfl,trivial⟩,trivial⟩⟩,a8 (rows:=(U8 s (yN Y) v).map k5) rfl rfl rfl rfl rfl,⟨rfl,rfl,rfl,.inl ⟨rfl,N9 _⟩⟩,trivial⟩,⟨rfl,rfl,⟨rfl,rfl,rfl⟩,⟨rfl,rfl,rfl,fun h=>h⟩,rfl,⟨rfl,rfl,rfl⟩,rfl,trivial⟩⟩ ?_
  intro k hk _
  by_cases hkl:k<Y.length
  ·obtain ⟨x,hx⟩:∃x,Y[k]? =some x:=⟨_,lbf hkl⟩
   obtain ⟨w,hw⟩:∃w,s.rows[k]? =some w:=⟨_,lbf (by omega)⟩
   obtain ⟨b1,b2,b3⟩:=hb.t w (lbm hw)
   have hrt:=(a0l hr hw).1
   have bx:=hq.y x (lbm hx)
   have co:=b0e w.terms v hrt (by omega) (by omega)
   have bc:=b1K b2 v
   have bm:=hq.n v k
   have pl:=b3V (a6f s (yN Y) v k) x (x8 w.terms v) (by omega) (by omega) bc
   have e:a6f s (yN Y) v k+x*x8 w.terms v=a6f s (yN Y) v (k+1):=by
    show _=a6f s (yN Y) v k+yN Y k*x8 (y6 s k).terms v
    rw [O9 hw,aW0 hx]
   rw [e] at pl
   conv=>whnf
   repeat' (first|refine zx ?_|refine qp co ?_|refine qp pl ?_|refine b9 (a3r Y hx) ?_|refine b9 hw ?_|refine zd ?_ ?_<;>intro h<;>try omega|fail)<;>conv=>whnf
   all_goals first
    |omega
    |exact ⟨hkl,trivial,[some 0,some 1,some 2],rfl,rfl,⟨⟨rfl,rfl,rfl,.inr ⟨⟨rfl,rfl,rfl,rfl,trivial⟩,trivial⟩⟩,a8 (rows:=(U8 s (yN Y) v).map k5) rfl rfl rfl rfl rfl,⟨rfl,rfl,rfl,.inl ⟨rfl,N9 _⟩⟩,trivial⟩,⟨rfl,rfl,⟨rfl,rfl,rfl⟩,⟨rfl,rfl,rfl,fun h=>h⟩,rfl,⟨rfl,rfl,rfl⟩,rfl,trivial⟩⟩
  ·have hke:k=s.rows.length:=by omega
   subst hke
   have e:a6f s (yN Y) v s.rows.length=R9 s (yN Y) v:=rfl
   rw [e]
   have bm:=hq.n v s.rows.length
   rw [e] at bm
   have sg:=a5p (R9 s (yN Y) v) (by omega)
   have sz:=a4N (x:=R9 s (yN Y) v)
   have lA:(U8 s (yN Y) v).length<=(S8 (U8 s (yN Y) v)).rows.length:=by show _<=(toC _).length;simp [toC]
   by_cases hz:R9 s (yN Y) v=0
   ·have hs:=sz.2 hz
    have e2:U8 s (yN Y) (v+1)=U8 s (yN Y) v:=by rw [as9,if_pos hz]
    rw [e2]
    conv=>whnf
    repeat' (first|refine zx ?_|refine qp sg ?_|refine zd ?_ ?_<;>intro h<;>try omega|fail)<;>conv=>whnf
    all_goals first
     |omega
     |exact ⟨hlt,trivial,[some 0,some 1],rfl,rfl,⟨⟨rfl,rfl,rfl,.inr ⟨⟨rfl,rfl,rfl,rfl,trivial⟩,trivial⟩⟩,a8 (rows:=(U8 s (yN Y) v).map k5) rfl rfl rfl rfl rfl,trivial⟩,⟨rfl,rfl,⟨rfl,rfl,rfl⟩,⟨rfl,rfl,rfl,fun h=>h⟩,rfl,trivial⟩⟩
   ·have hs:sgR (R9 s (yN Y) v)≠0:=fun h=>hz (sz.1 h)
    have e2:U8 s (yN Y) (v+1)=U8 s (yN Y) v++[((v:Int),R9 s (yN Y) v)]:=by rw [as9,if_neg hz]
    rw [e2]
    conv=>whnf
    repeat' (first|refine zx ?_|refine qp sg ?_|refine qp toC ?_|refine o8 lA (by simp [toC];omega) ?_|refine zd ?_ ?_<;>intro h<;>try omega|fail)<;>conv=>whnf
    all_goals first
     |omega
     |(refine ⟨hlt,trivial,[some 0,some 3],rfl,rfl,⟨⟨rfl,rfl,rfl,.inr ⟨⟨rfl,rfl,rfl,rfl,trivial⟩,trivial⟩⟩,a8 (rows:=(U8 s (yN Y) v++[((v:Int),R9 s (yN Y) v)]).map k5) rfl rfl rfl ?_ ?_,trivial⟩,⟨rfl,rfl,⟨rfl,rfl,rfl⟩,⟨rfl,rfl,?_,fun h=>h⟩,rfl,trivial⟩⟩
       ·exact B9 (f:=k5) (x:=((v:Int),R9 s (yN Y) v)) rfl
       ·rfl
       ·simp [toC])
 ·have hke:v=s.n.toNat:=by omega
  subst hke
  conv=>whnf
  repeat' (first|refine zx ?_|refine qp i0 ?_|refine zd ?_ ?_<;>intro h<;>try omega|fail)<;>conv=>whnf
  all_goals try omega
  refine d8 c8 (fun k=>([J,t4 (Y.map fz),S.c (C.t (T.ptr [ti s.n,O7 s.rows])),J,J,S.c (C.ptr 0 0 0),S.c (C.own 1 0 (U8 s (yN Y) s.n.toNat).length true),J,J,J,S.c (C.ptr 2 0 0),a7 .i64 k]++Jn 70,[frB U6,S8 (U8 s (yN Y) s.n.toNat),frB (fz (a6g s (yN Y) k))])) Y.length (fun _=>True) [some 0,some 1,some 2] trivial
   ⟨rfl,rfl,⟨⟨rfl,rfl,rfl,.inr ⟨⟨rfl,rfl,rfl,rfl,trivial⟩,trivial⟩⟩,a8 (rows:=(U8 s (yN Y) s.n.toNat).map k5) rfl rfl rfl rfl rfl,⟨rfl,rfl,rfl,.inl ⟨rfl,N9 _⟩⟩,trivial⟩,⟨rfl,rfl,⟨rfl,rfl,rfl⟩,⟨rfl,rfl,rfl,fun h=>h⟩,⟨rfl,rfl,rfl⟩,rfl,trivial⟩⟩ ?_
  intro k hk _
  by_cases hkl:k<Y.length
  ·obtain ⟨x,hx⟩:∃x,Y[k]? =some x:=⟨_,lbf hkl⟩
   obtain ⟨w,hw⟩:∃w,s.rows[k]? =some w:=⟨_,lbf (by omega)⟩
   obtain ⟨b1,b2,b3⟩:=hb.t w (lbm hw)
   have bx:=hq.y x (lbm hx)
   have bm:=hq.v k
   have pl:=b3V (a6g s (yN Y) k) x w.value (by omega) (by omega) b3
   have e:a6g s (yN Y) k+x*w.value=a6g s (yN Y) (k+1):=by
    show _=a6g s (yN Y) k+yN Y k*(y6 s k).value
    rw [O9 hw,aW0 hx]
   rw [e] at pl
   conv=>whnf
   repeat' (first|refine zx ?_|refine qp pl ?_|refine b9 (a3r Y hx) ?_|refine b9 hw ?_|refine zd ?_ ?_<;>intro h<;>try omega|fail)<;>conv=>whnf
   all_goals first
    |omega
    |exact ⟨hkl,trivial,[some 0,some 1,some 2],rfl,rfl,⟨⟨rfl,rfl,rfl,.inr ⟨⟨rfl,rfl,rfl,rfl,trivial⟩,trivial⟩⟩,a8 (rows:=(U8 s (yN Y) s.n.toNat).map k5) rfl rfl rfl rfl rfl,⟨rfl,rfl,rfl,.inl ⟨rfl,N9 _⟩⟩,trivial⟩,⟨rfl,rfl,⟨rfl,rfl,rfl⟩,⟨rfl,rfl,rfl,fun h=>h⟩,⟨rfl,rfl,rfl⟩,rfl,trivial⟩⟩
  ·have hke:k=s.rows.length:=by omega
   subst hke
   have e:a6g s (yN Y) s.rows.length=a38 s (yN Y):=rfl
   rw [e]
   conv=>whnf
   repeat' (first|refine zx ?_|refine zd ?_ ?_<;>intro h<;>try omega|fail)<;>conv=>whnf
   all_goals first
    |omega
    |exact k9 ⟨(show VC _ (fun id=>E4 [] id=true) (C.own 1 0 _ true) _ from u4 (k:=S8 (U8 s (yN Y) s.n.toNat)) rfl rfl (fun h=>h) rfl rfl (by simp)),⟨rfl,rfl,rfl,rfl,trivial⟩,trivial⟩
theorem at9 {n:Int}:∀{l:List (Int × Rat)} {last:Int},l.Pairwise (fun a b=>a.1<b.1)->(∀ t ∈ l,last<t.1∧t.1<n∧t.2≠0)->f9 last n l=true
 |[],_,_,_=>rfl
 |a::r,last,h1,h2=>by
  unfold f9
  simp only [lbN,lbI]
  obtain ⟨p1,p2⟩:=List.pairwise_cons.1 h1
  have:=h2 a (List.mem_cons_self ..)
  exact ⟨⟨⟨this.1,this.2.1⟩,this.2.2⟩,at9 p2 fun t ht=>⟨p1 t ht,(h2 t (List.mem_cons_of_mem _ ht)).2⟩⟩
theorem ak3 {s:g4} {y:Nat->Rat} {k:Nat} {t:Int × Rat}:t ∈ U8 s y k↔∃v:Nat,v<k∧R9 s y v≠0∧t=((v:Int),R9 s y v):=by
 unfold U8
 rw [lbx]
 constructor
 ·rintro ⟨v,hv,rfl⟩
  rw [lby,lbB] at hv
  exact ⟨v,hv.1,by simpa using hv.2,rfl⟩
 ·rintro ⟨v,h1,h2,rfl⟩
  exact ⟨v,by rw [lby,lbB];exact ⟨h1,by simpa using h2⟩,rfl⟩
theorem ah8 (s:g4) (y:Nat->Rat) (k:Nat):f9 (-1) (k:Int) (U8 s y k)=true:=by
 refine at9 ?_ fun t ht=>?_
 ·unfold U8
  rw [List.pairwise_map]
  exact ((List.pairwise_lt_range (n:=k)).filter _).imp fun {a b} h=>by show (a:Int)<b;omega
 ·obtain ⟨v,h1,h2,rfl⟩:=ak3.1 ht
  exact ⟨by simp only;omega,by simp only;omega,h2⟩
theorem b5F {s:g4} {y:Nat->Rat} {k v:Nat} (hv:v<k):x8 (U8 s y k) v=R9 s y v:=by
 by_cases h:R9 s y v=0
 ·rw [h]
  refine a3m _ fun i t _ ht=>?_
  obtain ⟨u,h1,h2,rfl⟩:=ak3.1 (lbm ht)
  intro e
  have e:u=v:=by simpa using e
  exact h2 (e ▸ h)
 ·obtain ⟨i,hi,he⟩:=List.getElem_of_mem (ak3.2 ⟨v,hv,h,rfl⟩)
  have:=b1m (ah8 s y k) (i:=i) (t:=((v:Int),R9 s y v)) (by rw [lbf hi,he])
  simpa using this
def a44 (s:g4) (g:List (Int × Rat)) (Y:List Rat):Bool:=a4s s Y && f9 (-1) s.n g && (List.range s.n.toNat).all fun v=>decide (R9 s (yN Y) v<=x8 g v)
def am9 (s:g4) (g:List (Int × Rat)) (Y:List Rat):S:=if a44 s g Y=true then .tup [frS (fz (a38 s (yN Y))),e8 true] else .tup [frS U6,e8 false]
theorem b72 (s:g4) (hb:aL2 s) (hr:j8 s=true) (g:List (Int × Rat)) (hg:g.length<=1000000) (hgb:∀t ∈ g,rl t.2<=200) (Y:List Rat) (hy:∀v ∈ Y,rl v<=40000) (hyl:Y.length<=1000000) (hq:Y.length=s.rows.length->b4H s Y):
 a9 Tryz.prog 95 [a3c s,s7 g,t4 (Y.map fz)] [] (am9 s g Y) []:=by
 have hnn:0<=s.n∧s.n<=1500:=by
  unfold j8 at hr
  simp only [lbN,lbI] at hr
  exact ⟨hr.1.1.1,hr.1.1.2⟩
 have sn:=b4P s hb hr Y hyl (fun v hv=>by have:=hy v hv;omega)
 have rt:=a3Q g s.n hg hgb
 rw [lbH hnn.1,Bool.true_and] at rt
 cases hs:a4s s Y with
 |false=>
  have e:am9 s g Y=.tup [frS U6,e8 false]:=by unfold am9 a44;rw [hs];rfl
  rw [e]
  rw [hs] at sn
  (refine ac Tryz.func95 ?_;(conv=>whnf);repeat ((first|refine b0x ?_|refine zy ?_);conv=>whnf))
  repeat' (first|refine zx ?_|refine qp sn ?_|refine qp rt ?_|refine zd ?_ ?_<;>intro h<;>try omega|fail)<;>conv=>whnf
  all_goals first
   |(exfalso;simp_all;done)
   |exact k9 ⟨⟨rfl,rfl,rfl,rfl,trivial⟩,rfl,trivial⟩
 |true=>
 rw [hs] at sn
 cases ht:f9 (-1) s.n g with
 |false=>
  have e:am9 s g Y=.tup [frS U6,e8 false]:=by unfold am9 a44;rw [hs,ht];rfl
  rw [e]
  rw [ht] at rt
  (refine ac Tryz.func95 ?_;(conv=>whnf);repeat ((first|refine b0x ?_|refine zy ?_);conv=>whnf))
  repeat' (first|refine zx ?_|refine qp sn ?_|refine qp rt ?_|refine zd ?_ ?_<;>intro h<;>try omega|fail)<;>conv=>whnf
  all_goals first
   |(exfalso;simp_all;done)
   |exact k9 ⟨⟨rfl,rfl,rfl,rfl,trivial⟩,rfl,trivial⟩
 |true=>
 rw [ht] at rt
 have hl:Y.length=s.rows.length:=by
  unfold a4s at hs
  simp only [lbN,lbI] at hs
  exact hs.1
 have hq:=hq hl
 have eb:a44 s g Y=(List.range s.n.toNat).all fun v=>decide (R9 s (yN Y) v<=x8 g v):=by unfold a44;rw [hs,ht];simp
 have mx:=bi4 s hb hr Y hq
 have ml:=aP0 s (yN Y) s.n.toNat
 have mr:=ah8 s (yN Y) s.n.toNat
 (refine ac Tryz.func95 ?_;(conv=>whnf);repeat ((first|refine b0x ?_|refine zy ?_);conv=>whnf))
 repeat' (first|refine zx ?_|refine qp sn ?_|refine qp rt ?_|refine qp mx ?_|refine qp 5 ?_|refine bl0 [5] ?_|refine zd ?_ ?_<;>intro h<;>try omega|fail)<;>conv=>whnf
 all_goals try (exfalso;simp_all;done)
 refine d8 c8 (fun v=>([J,s7 g,J,S.c (C.t (T.ptr [ti s.n,O7 s.rows])),J,J,S.c (C.ptr 0 0 0),J,s7 (U8 s (yN Y) s.n.toNat),S.c (C.ptr 1 0 0),a7 .i64 v]++Jn 34,[frB U6,frB (fz (a38 s (yN Y)))])) s.n.toNat (fun k=>(List.range k).all (fun v=>decide (R9 s (yN Y) v<=x8 g v))=true) [some 0,some 1] rfl
  ⟨rfl,rfl,⟨⟨rfl,rfl,rfl,.inr ⟨⟨rfl,rfl,rfl,rfl,trivial⟩,trivial⟩⟩,⟨rfl,rfl,rfl,.inl ⟨rfl,N9 _⟩⟩,trivial⟩,⟨rfl,rfl,⟨rfl,rfl,rfl⟩,rfl,⟨rfl,rfl,rfl⟩,rfl,trivial⟩⟩ ?_
 intro v hv hI
 by_cases hlt:v<s.n.toNat
 ·have c1:=b0e (U8 s (yN Y) s.n.toNat) v mr (by omega) (by omega)
  rw [b5F hlt] at c1
  have c2:=b0e g v ht hg (by omega)
  have b1:=hq.n v s.rows.length
  have b2:=b1K hgb v
  have b1:rl (R9 s (yN Y) v)<=50000:=b1
  have cm:=as6 (R9 s (yN Y) v) (x8 g v) (by omega) (by omega)
  have k2:=aQ4 (x:=R9 s (yN Y) v) (y:=x8 g v)
  generalize a42 (R9 s (yN Y) v) (x8 g v)=U at cm k2
  by_cases hok:U > 0
  ·have hF:decide (R9 s (yN Y) v<=x8 g v)=false:=lbJ (Rat.not_le.2 (k2.1 hok))
   have e:am9 s g Y=.tup [frS U6,e8 false]:=by
    unfold am9
    rw [eb,a7F (n:=s.n.toNat) hlt hF];rfl
   rw [e]
   clear k2
   conv=>whnf
   repeat' (first|refine zx ?_|refine qp c1 ?_|refine qp c2 ?_|refine qp cm ?_|refine zd ?_ ?_<;>intro h<;>try omega|fail)<;>conv=>whnf
   all_goals first
    |omega
    |exact k9 ⟨⟨rfl,rfl,rfl,rfl,trivial⟩,rfl,trivial⟩
  ·have hT:decide (R9 s (yN Y) v<=x8 g v)=true:=lbH (lb4.1 (fun h=>hok (k2.2 h)))
   clear k2
   conv=>whnf
   repeat' (first|refine zx ?_|refine qp c1 ?_|refine qp c2 ?_|refine qp cm ?_|refine zd ?_ ?_<;>intro h<;>try omega|fail)<;>conv=>whnf
   all_goals first
    |omega
    |exact ⟨hlt,by rw [a54,hI,hT];rfl,[some 0,some 1],rfl,rfl,⟨⟨rfl,rfl,rfl,.inr ⟨⟨rfl,rfl,rfl,rfl,trivial⟩,trivial⟩⟩,⟨rfl,rfl,rfl,.inl ⟨rfl,N9 _⟩⟩,trivial⟩,⟨rfl,rfl,⟨rfl,rfl,rfl⟩,rfl,⟨rfl,rfl,rfl⟩,rfl,trivial⟩⟩
 ·have hke:v=s.n.toNat:=by omega
  subst hke
  have e:am9 s g Y=.tup [frS (fz (a38 s (yN Y))),e8 true]:=by
   unfold am9
   rw [eb,hI];rfl
  rw [e]
  conv=>whnf
  repeat' (first|refine zx ?_|refine zd ?_ ?_<;>intro h<;>try omega|fail)<;>conv=>whnf
  all_goals first
   |omega
   |exact k9 ⟨⟨rfl,rfl,rfl,rfl,trivial⟩,rfl,trivial⟩
theorem aq3 {t:Int × Rat} {r:List (Int × Rat)} (h:∀u ∈ r,u.1.toNat≠t.1.toNat) (v:Nat):∀k,k<=r.length->L5 (t::r) (k+1) v=if v=t.1.toNat then t.2 else L5 r k v
 |0,_=>by
  rw [J6 (l:=t::r) (k:=0) (t:=t) rfl]
  simp only
  by_cases h1:v=t.1.toNat
  ·rw [if_pos h1,if_pos h1]
  ·rw [if_neg h1,if_neg h1]
   rfl
 |k+1,hk=>by
  have hx:r[k]? =some r[k]:=lbf (by omega)
  have hne:=h _ (lbm hx)
  rw [J6 (l:=t::r) (k:=k+1) (t:=r[k]) (by simp),J6 hx]
  have ih:=aq3 h v k (by omega)
  simp only
  rw [ih]
  by_cases h1:v=t.1.toNat
  ·rw [if_pos h1,if_pos h1,if_neg (by omega)]
  ·rw [if_neg h1,if_neg h1]
theorem T8 {last n:Int} {t:Int × Rat} {r:List (Int × Rat)} (h0:-1<=last) (h:f9 last n (t::r)=true) (v:Nat):x8 (t::r) v=if v=t.1.toNat then t.2 else x8 r v:=by
 refine aq3 (fun u hu=>?_) v r.length (lbR _)
 obtain ⟨j,hj,he⟩:=List.getElem_of_mem hu
 have h1:=a3A h 0 (j+1) t u (by omega) rfl (by simp [he,hj])
 have h2:=E1 h t (List.mem_cons_self ..)
 omega
theorem a0G {last n:Int} {t:Int × Rat} {r:List (Int × Rat)} (h:f9 last n (t::r)=true):f9 t.1 n r=true:=by
 unfold f9 at h
 simp only [lbN] at h
 exact h.2
theorem aS5 {last last' n:Int} (hl:last'<=last) {l:List (Int × Rat)} (h:f9 last n l=true):f9 last' n l=true:=by
 cases l with
 |nil=>rfl
 |cons t r=>
  unfold f9 at h ⊢
  simp only [lbN,lbI] at h ⊢
  exact ⟨⟨⟨by omega,h.1.1.2⟩,h.1.2⟩,h.2⟩
theorem ae6 {last n:Int} {l:List (Int × Rat)} (h0:-1<=last) (h:f9 last n l=true) {v:Nat} (hv:(v:Int)<=last):x8 l v=0:=by
 refine a3m _ fun i t hi ht e=>?_
 have:=E1 h t (lbm ht)
 omega
theorem aS1 (u:Int × Rat) (q:List (Int × Rat)):T.sl 5 (a0s SK.any none none) (List.drop (Int.toNat 1) (List.take (((((u::q).map k5).length:Nat):Int)).toNat ((u::q).map k5)))=.sl 5 .any (q.map k5):=by
 rw [lbn (by omega)];rfl
theorem b59 (x:Rat):sgR x<0↔x<((0:Int):Rat):=by unfold sgR;split<;>(try split)<;>simp_all
theorem b4s {x y:Rat} {ρ:List (Option Nat)} {H:Hp} (h:x=y):a4z ρ H (frS (fz x)) (frS (fz y)):=by subst h;exact ⟨rfl,rfl,rfl,rfl,trivial⟩
theorem a9b (n lo hi:Int):a9 Tryz.prog 273 [a7 .i64 n,a7 .i64 lo,a7 .i64 hi] [] (e8 (btw n lo hi)) []:=by
 (refine ac Tryz.func273 ?_;(conv=>whnf);repeat (refine zy ?_;conv=>whnf))
 repeat' (first|refine zx ?_|refine zd ?_ ?_<;>intro h<;>try omega|fail)<;>conv=>whnf
 all_goals (refine c7 ?_;simp only [btw];simp;omega)
theorem aS6 (c:J2):a9 Tryz.prog 297 [aJ3 c] [] (e8 (N0 c)) []:=by
 have w1:=a9b c.scale 0 29
 have w2:=a9b c.grams 0 1099511627776
 have w3:=a9b c.permille 0 1000
 have w4:=a9b c.drift 0 10000000
 rw [as2] at w1
 unfold N0
 cases h1:idx c.scale 30<;>cases h2:btw c.grams 0 1099511627776<;>cases h3:btw c.permille 0 1000<;>cases h4:btw c.drift 0 10000000<;>rw [h1] at w1<;>rw [h2] at w2<;>rw [h3] at w3<;>rw [h4] at w4<;>
 ·(refine ac Tryz.func297 ?_;(conv=>whnf);repeat (refine zy ?_;conv=>whnf))
  repeat' (first|refine zx ?_|refine qp w1 ?_|refine qp w2 ?_|refine qp w3 ?_|refine qp w4 ?_|refine zd ?_ ?_<;>intro h<;>try omega|fail)<;>conv=>whnf
  all_goals (refine c7 ?_;simp;try omega)
def a4W (o:Option Nat):Int:=match o with
 |none=>-1
 |some b=>b
theorem b7u (cs:List J2) (scale day:Int) (hl:cs.length<=1000000):
 a9 Tryz.prog 271 [.c (.t (X7 cs)),a7 .i64 scale,a7 .i64 day] [] (.tup [a7 .i64 (a8c (A0 cs scale day cs.length)),e8 (A0 cs scale day cs.length).isSome]) []:=by
 have l1:(cs.map J2.row).length=cs.length:=by simp
 (refine ac Tryz.func271 ?_;(conv=>whnf);repeat ((first|refine b0x ?_|refine zy ?_);conv=>whnf))
 repeat' (first|refine zx ?_|refine zd ?_ ?_<;>intro h<;>try omega|fail)<;>conv=>whnf
 refine d8 c8 (fun k=>([S.c (C.t (X7 cs)),a7 .i64 scale,a7 .i64 day,J,J,J,J,J,a7 .i64 (a4W (A0 cs scale day k)),a7 .i64 k]++Jn 47,[])) cs.length (fun _=>True) [] trivial
  ⟨rfl,rfl,trivial,⟨rfl,rfl,rfl,rfl,rfl,trivial⟩⟩ ?_
 intro k hk _
 by_cases hlt:k<cs.length
 ·obtain ⟨c,hc⟩:∃c,cs[k]? =some c:=⟨_,lbf hlt⟩
  have cr:=aS6 c
  have ci:=a9b day c.since c.till
  have hst:A0 cs scale day (k+1)=if decide (c.scale=scale) && I1 c day && a3p cs (A0 cs scale day k) c then some k else A0 cs scale day k:=by
   conv=>lhs;unfold A0
   rw [hc]
  have nxt:∀z:Int,a4W (A0 cs scale day (k+1))=z->z=a4W (A0 cs scale day (k+1)):=fun z h=>h.symm
  cases hr:N0 c with
  |false=>
   have hcv:I1 c day=false:=by unfold I1;rw [hr];rfl
   rw [hcv] at hst
   simp only [Bool.and_false,Bool.false_and,Bool.false_eq_true,if_false] at hst
   rw [hr] at cr
   rw [← hst]
   conv=>whnf
   repeat' (first|refine zx ?_|refine qp cr ?_|refine b9 hc ?_|refine zd ?_ ?_<;>intro h<;>try omega|fail)<;>conv=>whnf
   all_goals first
    |omega
    |(exfalso;simp_all;done)
    |exact ⟨hlt,trivial,[],rfl,rfl,trivial,⟨rfl,rfl,rfl,rfl,rfl,trivial⟩⟩
  |true=>
  rw [hr] at cr
  cases hb:btw day c.since c.till with
  |false=>
   have hcv:I1 c day=false:=by unfold I1;rw [hr,hb];rfl
   rw [hcv] at hst
   simp only [Bool.and_false,Bool.false_and,Bool.false_eq_true,if_false] at hst
   rw [hb] at ci
   rw [← hst]
   conv=>whnf
   repeat' (first|refine zx ?_|refine qp cr ?_|refine qp ci ?_|refine b9 hc ?_|refine zd ?_ ?_<;>intro h<;>try omega|fail)<;>conv=>whnf
   all_goals first
    |omega
    |(exfalso;simp_all;done)
    |exact ⟨hlt,trivial,[],rfl,rfl,trivial,⟨rfl,rfl,rfl,rfl,rfl,trivial⟩⟩
  |true=>
   have hcv:I1 c day=true:=by unfold I1;rw [hr,hb];rfl
   rw [hcv] at hst
   rw [hb] at ci
   cases hf:A0 cs scale day k with
   |none=>
    rw [hf] at hst
    have e0:a4W none=-1:=rfl
    rw [e0]
    by_cases hsc:c.scale=scale
    ·have hst2:(k:Int)=a4W (A0 cs scale day (k+1)):=by rw [hst,if_pos (by simp [hsc,a3p])];rfl
     clear hst hcv hr hb nxt
     conv=>whnf
     repeat' (first|refine zx ?_|refine qp cr ?_|refine qp ci ?_|refine b9 hc ?_|refine zd ?_ ?_<;>intro h<;>try omega|fail)<;>conv=>whnf
     all_goals first
      |omega
      |exact ⟨hlt,trivial,[],rfl,rfl,trivial,⟨rfl,rfl,rfl,b8 hst2,rfl,trivial⟩⟩
    ·have hst2:(-1:Int)=a4W (A0 cs scale day (k+1)):=by rw [hst,if_neg (by simp [hsc])];rfl
     clear hst hcv hr hb nxt
     conv=>whnf
     repeat' (first|refine zx ?_|refine qp cr ?_|refine qp ci ?_|refine b9 hc ?_|refine zd ?_ ?_<;>intro h<;>try omega|fail)<;>conv=>whnf
     all_goals first
      |omega
      |exact ⟨hlt,trivial,[],rfl,rfl,trivial,⟨rfl,rfl,rfl,b8 hst2,rfl,trivial⟩⟩
   |some b=>
    rw [hf] at hst
    obtain ⟨hb',cb,hcb,_⟩:=K9 hf
    have hsb:=aP3 hcb
    have e0:a4W (some b)=(b:Int):=rfl
    have em:(if (0:Int) > (b:Int) then 0 else (b:Int))=(b:Int):=if_neg (by omega)
    rw [e0]
    by_cases hsc:c.scale=scale∧cb.since<=c.since
    ·have hst2:(k:Int)=a4W (A0 cs scale day (k+1)):=by rw [hst,if_pos (by simp [hsc.1,a3p,hsb,hsc.2])];rfl
     clear hst hcv hr hb nxt
     conv=>whnf
     repeat' (first|refine zx ?_|refine qp cr ?_|refine qp ci ?_|refine b9 hc ?_|refine F4 em hcb ?_|refine zd ?_ ?_<;>intro h<;>try omega|fail)<;>conv=>whnf
     all_goals first
      |omega
      |exact ⟨hlt,trivial,[],rfl,rfl,trivial,⟨rfl,rfl,rfl,b8 hst2,rfl,trivial⟩⟩
    ·have hst2:(b:Int)=a4W (A0 cs scale day (k+1)):=by
      rw [hst,if_neg (by simp only [lbN,lbI,a3p,hsb];intro h;exact hsc ⟨h.1.1,h.2⟩)];rfl
     clear hst hcv hr hb nxt
     conv=>whnf
     repeat' (first|refine zx ?_|refine qp cr ?_|refine qp ci ?_|refine b9 hc ?_|refine F4 em hcb ?_|refine zd ?_ ?_<;>intro h<;>try omega|fail)<;>conv=>whnf
     all_goals first
      |omega
      |exact ⟨hlt,trivial,[],rfl,rfl,trivial,⟨rfl,rfl,rfl,b8 hst2,rfl,trivial⟩⟩
 ·have hke:k=cs.length:=by omega
  subst hke
  cases hf:A0 cs scale day cs.length with
  |none=>
   have e0:a4W none=-1:=rfl
   rw [e0]
   conv=>whnf
   repeat' (first|refine zx ?_|refine zd ?_ ?_<;>intro h<;>try omega|fail)<;>conv=>whnf
   all_goals first
    |omega
    |exact k9 ⟨rfl,rfl,trivial⟩
  |some b=>
   have e0:a4W (some b)=(b:Int):=rfl
   have em:(if (0:Int) > (b:Int) then 0 else (b:Int))=(b:Int):=if_neg (by omega)
   rw [e0]
   conv=>whnf
   repeat' (first|refine zx ?_|refine zd ?_ ?_<;>intro h<;>try omega|fail)<;>conv=>whnf
   all_goals first
    |omega
    |exact k9 ⟨b8 em,rfl,trivial⟩
theorem aR1 (rs:List C2) (hl:rs.length<=1000000) (scale day:Int):a9 Tryz.prog 272 [.c (.t (G2 rs)),a7 .i64 scale,a7 .i64 day] [] (e8 (a28 rs scale day)) []:=by
 have l1:(rs.map C2.row).length=rs.length:=by simp
 (refine ac Tryz.func272 ?_;(conv=>whnf);repeat ((first|refine b0x ?_|refine zy ?_);conv=>whnf))
 repeat' (first|refine zx ?_|refine zd ?_ ?_<;>intro h<;>try omega|fail)<;>conv=>whnf
 refine d8 c8 (fun k=>([S.c (C.t (G2 rs)),a7 .i64 scale,a7 .i64 day,J,J,J,J,a7 .i64 k]++Jn 22,[])) rs.length (fun k=>(rs.take k).any (fun r=>decide (r.scale=scale) && decide (r.since<=day))=false) [] rfl
  ⟨rfl,rfl,trivial,⟨rfl,rfl,rfl,rfl,trivial⟩⟩ ?_
 intro k hk hI
 by_cases hlt:k<rs.length
 ·obtain ⟨r,hr⟩:∃r,rs[k]? =some r:=⟨_,lbf hlt⟩
  conv=>whnf
  repeat' (first|refine zx ?_|refine b9 hr ?_|refine zd ?_ ?_<;>intro h<;>try omega|fail)<;>conv=>whnf
  all_goals first
   |omega
   |(refine ⟨hlt,?_,[],rfl,rfl,trivial,⟨rfl,rfl,rfl,rfl,trivial⟩⟩;rw [a0O hr,hI];simp [*];done)
   |(refine ⟨hlt,?_,[],rfl,rfl,trivial,⟨rfl,rfl,rfl,rfl,trivial⟩⟩;rw [a0O hr,hI];simp;omega)
   |(refine c7 ?_;unfold a28;rw [a6O hr];simp [*];done)
   |(refine c7 ?_;unfold a28;rw [a6O hr];simp;omega)
 ·rw [lbn (by omega)] at hI
  conv=>whnf
  repeat' (first|refine zx ?_|refine zd ?_ ?_<;>intro h<;>try omega|fail)<;>conv=>whnf
  all_goals first
   |omega
   |exact c7 hI.symm
theorem b6b (c:J2) (reading day:Int) (h:I1 c day=true) (hr:btw reading 0 1099511627776=true):a9 Tryz.prog 274 [aJ3 c,a7 .i64 reading,a7 .i64 day] []
 (.tup [frS (fz (a2R c reading day)),e8 true]) []:=by
 have cr:=aS6 c
 have ci:=a9b day c.since c.till
 have wi:=a9b reading 0 1099511627776
 have hcr:N0 c=true:=by unfold I1 at h;simp only [lbN] at h;exact h.1
 have hci:btw day c.since c.till=true:=by unfold I1 at h;simp only [lbN] at h;exact h.2
 rw [hcr] at cr
 rw [hci] at ci
 rw [hr] at wi
 have hc:=a3D h
 obtain ⟨p0,p1,d0,d1⟩:=b3E.of h hr
 rw [W6] at hr
 have fo:=be4 (c.permille*reading) 1000 (by decide) (by omega) (by omega) (by decide)
 have fi:=a4j (c.grams+c.drift*(day - c.since)) (by omega) (by omega)
 have h2:rl (Rat.divInt (c.permille*reading) 1000)<=4:=lbS (Q4 (by decide)) (by have:=U7 (x:=c.permille*reading) (by omega) (by omega);have:=U7 (x:=1000) (by decide) (by decide);omega)
 have h3:rl ((c.grams+c.drift*(day - c.since):Int):Rat)<=4:=by rw [a2K];have:=U7 (x:=c.grams+c.drift*(day - c.since)) (by omega) (by omega);omega
 have ad:=b1H ((c.grams+c.drift*(day - c.since):Int):Rat) (Rat.divInt (c.permille*reading) 1000) (by omega) (by omega)
 (refine ac Tryz.func274 ?_;(conv=>whnf);repeat (refine zy ?_;conv=>whnf))
 repeat' (first|refine zx ?_|refine qp cr ?_|refine qp ci ?_|refine qp wi ?_|refine qp fo ?_|refine qp fi ?_|refine qp ad ?_|refine qp 7 ?_|refine qp 15 ?_|refine bl0 [7] ?_|refine bl0 [15] ?_|refine zd ?_ ?_<;>intro h<;>try omega|fail)<;>conv=>whnf
 all_goals first
  |(exfalso;simp_all;done)
  |exact b44 (by rw [Rat.add_comm];rfl) rfl
theorem aL3 (cs:List J2) (rs:List C2) (hl:cs.length<=1000000) (hl2:rs.length<=1000000) (scale reading day:Int):
 a9 Tryz.prog 224 [.c (.t (X7 cs)),.c (.t (G2 rs)),a7 .i64 scale,a7 .i64 reading,a7 .i64 day] [] (.tup (ivL (G4 cs rs scale reading day))) []:=by
 have f:=b7u cs scale day hl
 have r:=aR1 rs hl2 scale day
 have wi:=a9b reading 0 1099511627776
 unfold G4
 cases hf:A0 cs scale day cs.length with
 |none=>
  rw [hf] at f
  (refine ac Tryz.func224 ?_;(conv=>whnf);repeat (refine zy ?_;conv=>whnf))
  repeat' (first|refine zx ?_|refine qp f ?_|refine qp r ?_|refine qp wi ?_|refine qp 1 ?_|refine bl0 [1] ?_|refine zd ?_ ?_<;>intro h<;>try omega|fail)<;>conv=>whnf
  all_goals first
   |(exfalso;simp_all;done)
   |exact k9 ⟨⟨rfl,rfl,rfl,rfl,trivial⟩,⟨rfl,rfl,rfl,rfl,trivial⟩,rfl,trivial⟩
 |some i=>
  rw [hf] at f
  obtain ⟨hb,c,hc,_,hcv⟩:=K9 hf
  have e:a1c cs i=c:=by unfold a1c;rw [hc];rfl
  simp only [e]
  cases hrec:a28 rs scale day with
  |true=>
   rw [hrec] at r
   (refine ac Tryz.func224 ?_;(conv=>whnf);repeat (refine zy ?_;conv=>whnf))
   repeat' (first|refine zx ?_|refine qp f ?_|refine qp r ?_|refine qp wi ?_|refine qp 1 ?_|refine bl0 [1] ?_|refine zd ?_ ?_<;>intro h<;>try omega|fail)<;>conv=>whnf
   all_goals first
    |(exfalso;simp_all;done)
    |exact k9 ⟨⟨rfl,rfl,rfl,rfl,trivial⟩,⟨rfl,rfl,rfl,rfl,trivial⟩,rfl,trivial⟩
  |false=>
   rw [hrec] at r
   cases hr:btw reading 0 1099511627776 with
   |false=>
    rw [hr] at wi
    (refine ac Tryz.func224 ?_;(conv=>whnf);repeat (refine zy ?_;conv=>whnf))
    repeat' (first|refine zx ?_|refine qp f ?_|refine qp r ?_|refine qp wi ?_|refine qp 1 ?_|refine bl0 [1] ?_|refine zd ?_ ?_<;>intro h<;>try omega|fail)<;>conv=>whnf
    all_goals first
     |exact k9 ⟨⟨rfl,rfl,rfl,rfl,trivial⟩,⟨rfl,rfl,rfl,rfl,trivial⟩,rfl,trivial⟩
     |(exfalso;simp_all;done)
   |true=>
    have er:=b6b c reading day hcv hr
    have l1:=aU5 hcv hr
    rw [hr] at wi
    rw [W6] at hr
    have l2:rl (reading:Rat)<=4:=by rw [a2K];have:=U7 (x:=reading) (by omega) (by omega);omega
    have fi:=a4j reading (by omega) (by omega)
    have f0:=a4j 0 (by omega) (by omega)
    have sb:=bh8 (reading:Rat) (a2R c reading day) (by omega) (by omega)
    have ad:=b1H (reading:Rat) (a2R c reading day) (by omega) (by omega)
    have l4:=aU3 (reading:Rat) (a2R c reading day)
    have sg:=a5p ((reading:Rat) - a2R c reading day) (by omega)
    have hs:=b59 ((reading:Rat) - a2R c reading day)
    (refine ac Tryz.func224 ?_;(conv=>whnf);repeat (refine zy ?_;conv=>whnf))
    repeat' (first|refine zx ?_|refine qp f ?_|refine qp r ?_|refine qp wi ?_|refine qp er ?_|refine qp fi ?_|refine qp f0 ?_|refine qp sb ?_|refine qp ad ?_|refine qp sg ?_|refine qp 1 ?_|refine qp 9 ?_|refine qp 6 ?_|refine b9 hc ?_|refine bl0 [1] ?_|refine bl0 [9] ?_|refine bl0 [6] ?_|refine zd ?_ ?_<;>intro h<;>try omega|fail)<;>conv=>whnf
    ·have hn:(reading:Rat) - a2R c reading day<((0:Int):Rat):=hs.1 (by omega)
     refine k9 ⟨b4s ?_,⟨rfl,rfl,rfl,rfl,trivial⟩,rfl,trivial⟩
     unfold aF0;rw [if_pos hn]
    ·have hn:¬(reading:Rat) - a2R c reading day<((0:Int):Rat):=fun h=>absurd (hs.2 h) (by omega)
     refine k9 ⟨b4s ?_,⟨rfl,rfl,rfl,rfl,trivial⟩,rfl,trivial⟩
     unfold aF0;rw [if_neg hn]
    all_goals (have hq:(some i).isSome=false:=by assumption;cases hq)
theorem a7K (n lo hi:Int):a9 Tryz.prog 157 [a7 .i64 n,a7 .i64 lo,a7 .i64 hi] [] (e8 (btw n lo hi)) []:=by
 (refine ac Tryz.func157 ?_;(conv=>whnf);repeat (refine zy ?_;conv=>whnf))
 repeat' (first|refine zx ?_|refine zd ?_ ?_<;>intro h<;>try omega|fail)<;>conv=>whnf
 all_goals (refine c7 ?_;simp only [btw];simp;omega)
theorem a2O (n m:Int):a9 Tryz.prog 157 [a7 .i64 n,a7 .i64 0,a7 .i64 (m - 1)] [] (e8 (idx n m)) []:=by
 rw [← b1B];exact a7K n 0 (m - 1)
theorem b80 (e:Ev) (hs:e.Sized):a9 Tryz.prog 231 [evS e] [] (e8 (a1M e)) []:=by
 have l1:(e.places.map G5.row).length=e.places.length:=by simp
 have l2:(e.moves.map n9.row).length=e.moves.length:=by simp
 have l3:(e.certs.map J2.row).length=e.certs.length:=by simp
 have l4:(e.recalls.map C2.row).length=e.recalls.length:=by simp
 have l5:(e.purities.map a1f.row).length=e.purities.length:=by simp
 (refine ac Tryz.func231 ?_;(conv=>whnf);repeat ((first|refine b0x ?_|refine zy ?_);conv=>whnf))
 repeat' (first|refine zx ?_|refine zd ?_ ?_<;>intro h<;>try omega|fail)<;>conv=>whnf
 all_goals (refine c7 ?_;unfold a1M;simp;omega)
theorem b47 (e:Ev) (p:G5) (h1:1<=e.mats) (h2:e.mats<=6) (h3:0<=e.hhs) (h4:e.hhs<=100):a9 Tryz.prog 232 [evS e,.agg (p.row.map .t)] [] (e8 (T9 e p)) []:=by
 have i3:=a2O p.kind 7
 (refine ac Tryz.func232 ?_;(conv=>whnf);repeat ((first|refine b0x ?_|refine zy ?_);conv=>whnf))
 repeat' (first|refine zx ?_|refine qp (a2O p.hh e.hhs) ?_|refine qp (a2O p.mat e.mats) ?_|refine qp i3 ?_|refine zd ?_ ?_<;>intro h<;>try omega|fail)<;>conv=>whnf
 all_goals first
  |omega
  |(refine c7 ?_;simp_all [T9]<;>decide)
def a2C (e:Ev) (k:Nat) (x:n9):Int:=if x.day<0∨100000<x.day∨(0<k∧x.day<a30 e k) then 17 else if D5 e x then 0 else 1
theorem b7n (e:Ev) (k:Nat) (x:n9) (hx:e.moves[k]? =some x) (hf:a1M e=false) (h1:1<=e.mats) (h3:0<=e.hhs) (h5:0<=e.scs):a9 Tryz.prog 233 [evS e,a7 .i64 k] [] (a7 .i64 (a2C e k x)) []:=by
 have l1:(e.places.map G5.row).length=e.places.length:=by simp
 have l2:(e.moves.map n9.row).length=e.moves.length:=by simp
 have hk:k<e.moves.length:=(lbe.1 hx).1
 unfold a1M at hf
 simp only [Bool.or_eq_false_iff,lbK] at hf
 obtain ⟨y,hy⟩:∃y,e.moves[k - 1]? =some y:=⟨_,lbf (by omega)⟩
 have hl:0<k->a30 e k=y.day:=fun h=>by
  obtain ⟨j,rfl⟩:∃j,k=j+1:=⟨k - 1,by omega⟩
  exact a1Z hy
 have d:=a7K x.day 0 100000
 have is:=a2O x.src (e.places.map G5.row).length
 have id:=a2O x.dst (e.places.map G5.row).length
 have ic:=a2O x.scale e.scs
 have ir:=a7K x.reading 0 1099511627776
 have hdd:(x.day<0∨100000<x.day∨(0<k∧x.day<a30 e k))↔(x.day<0∨100000<x.day∨(0<k∧x.day<y.day)):=by
  rcases Nat.eq_zero_or_pos k with h|h
  ·simp [h]
  ·rw [hl h]
 clear hl
 have em:(if (0:Int) > (k:Int) - 1 then 0 else (k:Int) - 1)=((k - 1:Nat):Int):=by split<;>omega
 by_cases hd:x.day<0∨100000<x.day∨(0<k∧x.day<y.day)
 ·have e1:a2C e k x=17:=by unfold a2C;rw [if_pos (hdd.2 hd)]
  clear hdd
  rw [e1]
  have hb:=W6 (a:=x.day) (b:=0) (c:=100000)
  (refine ac Tryz.func233 ?_;(conv=>whnf);repeat ((first|refine b0x ?_|refine zy ?_);conv=>whnf))
  repeat' (first|refine zx ?_|refine qp d ?_|refine b9 hx ?_|refine F4 em hy ?_|refine zd ?_ ?_<;>intro h<;>try omega|fail)<;>conv=>whnf
  all_goals first
   |exact k6 rfl
   |(exfalso;have:=hb.1 (by assumption);omega)
   |omega
 have e1:a2C e k x=if D5 e x then 0 else 1:=by unfold a2C;rw [if_neg (fun h=>hd (hdd.1 h))]
 clear hdd
 rw [e1]
 have hd':btw x.day 0 100000=true:=by rw [W6];omega
 rw [hd'] at d
 cases h1:idx x.src e.places.length with
 |false=>
  rw [← l1] at h1
  rw [h1] at is
  rw [l1] at h1
  (refine ac Tryz.func233 ?_;(conv=>whnf);repeat ((first|refine b0x ?_|refine zy ?_);conv=>whnf))
  repeat' (first|refine zx ?_|refine qp d ?_|refine qp is ?_|refine b9 hx ?_|refine F4 em hy ?_|refine zd ?_ ?_<;>intro h<;>try omega|fail)<;>conv=>whnf
  all_goals first
   |(refine k6 ?_;simp [D5,h1];done)
   |(exfalso;simp_all;done)
   |omega
 |true=>
  obtain ⟨hs0,p,hp,kp⟩:=a5w h1
  rw [← l1] at h1
  rw [h1] at is
  rw [l1] at h1
  cases h2:idx x.dst e.places.length with
  |false=>
   rw [← l1] at h2
   rw [h2] at id
   rw [l1] at h2
   (refine ac Tryz.func233 ?_;(conv=>whnf);repeat ((first|refine b0x ?_|refine zy ?_);conv=>whnf))
   repeat' (first|refine zx ?_|refine qp d ?_|refine qp is ?_|refine qp id ?_|refine b9 hx ?_|refine F4 em hy ?_|refine zd ?_ ?_<;>intro h<;>try omega|fail)<;>conv=>whnf
   all_goals first
    |(refine k6 ?_;simp [D5,h1,h2];done)
    |(exfalso;simp_all;done)
    |omega
  |true=>
   obtain ⟨hd0,q,hq,kq⟩:=a5w h2
   rw [← l1] at h2
   rw [h2] at id
   rw [l1] at h2
   (refine ac Tryz.func233 ?_;(conv=>whnf);repeat ((first|refine b0x ?_|refine zy ?_);conv=>whnf))
   repeat' (first|refine zx ?_|refine qp d ?_|refine qp is ?_|refine qp id ?_|refine qp ic ?_|refine qp ir ?_|refine b9 hx ?_|refine v6 hs0 hp ?_|refine v6 hd0 hq ?_|refine F4 em hy ?_|refine zd ?_ ?_<;>intro h<;>try omega|fail)<;>conv=>whnf
   all_goals first
    |(refine k6 ?_;simp_all [D5];done)
    |(exfalso;simp_all;done)
    |omega
theorem b7z (e:Ev) (hs:e.Sized) (hf:a1M e=false) (h1:1<=e.mats) (h5:0<=e.scs):a9 Tryz.prog 234 [evS e] [] (e8 (X6 e)) []:=by
 have l2:(e.certs.map J2.row).length=e.certs.length:=by simp
 have l4:(e.recalls.map C2.row).length=e.recalls.length:=by simp
 have l6:(e.purities.map a1f.row).length=e.purities.length:=by simp
 have l8:(e.moves.map n9.row).length=e.moves.length:=by simp
 unfold a1M at hf
 simp only [Bool.or_eq_false_iff,lbK] at hf
 (refine ac Tryz.func234 ?_;(conv=>whnf);repeat ((first|refine b0x ?_|refine zy ?_);conv=>whnf))
 repeat' (first|refine zx ?_|refine zd ?_ ?_<;>intro h<;>try omega|fail)<;>conv=>whnf
 refine d8 c8 (fun k=>([J,S.c (C.t (T.ptr (evT e))),J,a7 .i64 k]++Jn 124,[])) e.certs.length (fun k=>(e.certs.take k).all (a43 e)=true) [] rfl
  ⟨rfl,rfl,trivial,⟨rfl,rfl,trivial⟩⟩ ?_
 intro k hk hI
 by_cases hlt:k<e.certs.length
 ·obtain ⟨x,hx⟩:∃x,e.certs[k]? =some x:=⟨_,lbf hlt⟩
  conv=>whnf
  repeat' (first|refine zx ?_|refine qp (a2O x.scale e.scs) ?_|refine qp (a7K x.till x.since 100000) ?_|refine qp (a7K x.grams 0 1099511627776) ?_|refine qp (a7K x.permille 0 1000) ?_|refine qp (a7K x.drift 0 10000000) ?_|refine b9 hx ?_|refine zd ?_ ?_<;>intro h<;>try omega|fail)<;>conv=>whnf
  all_goals first
   |omega
   |(refine ⟨hlt,?_,[],rfl,rfl,trivial,⟨rfl,rfl,trivial⟩⟩;rw [u6 hx,hI];simp_all [a43,btw];done)
   |(refine c7 ?_;rw [X6,x9 hx];rfl;simp_all [a43,btw];(try omega);done)
 ·have hc:e.certs.all (a43 e)=true:=by rw [← hI,lbn (by omega)]
  conv=>whnf
  repeat' (first|refine zx ?_|refine zd ?_ ?_<;>intro h<;>try omega|fail)<;>conv=>whnf
  all_goals try omega
  clear hI hlt hk
  refine d8 c8 (fun k=>([J,S.c (C.t (T.ptr (evT e))),J,J,J,a7 .i64 k]++Jn 122,[])) e.recalls.length (fun k=>(e.recalls.take k).all (a0b e)=true) [] rfl
   ⟨rfl,rfl,trivial,⟨rfl,rfl,trivial⟩⟩ ?_
  intro k hk hI
  by_cases hlt:k<e.recalls.length
  ·obtain ⟨x,hx⟩:∃x,e.recalls[k]? =some x:=⟨_,lbf hlt⟩
   conv=>whnf
   repeat' (first|refine zx ?_|refine qp (a2O x.scale e.scs) ?_|refine qp (a7K x.since 0 100000) ?_|refine b9 hx ?_|refine zd ?_ ?_<;>intro h<;>try omega|fail)<;>conv=>whnf
   all_goals first
    |omega
    |(refine ⟨hlt,?_,[],rfl,rfl,trivial,⟨rfl,rfl,trivial⟩⟩;rw [u6 hx,hI];simp_all [a0b];done)
    |(refine c7 ?_;rw [X6,hc,x9 hx];rfl;simp_all [a0b];done)
  ·have hr:e.recalls.all (a0b e)=true:=by rw [← hI,lbn (by omega)]
   conv=>whnf
   repeat' (first|refine zx ?_|refine zd ?_ ?_<;>intro h<;>try omega|fail)<;>conv=>whnf
   all_goals try omega
   clear hI hlt hk
   refine d8 c8 (fun k=>([J,S.c (C.t (T.ptr (evT e))),J,J,J,J,a7 .i64 k]++Jn 121,[])) e.purities.length (fun k=>(e.purities.take k).all (a06 e)=true) [] rfl
    ⟨rfl,rfl,trivial,⟨rfl,rfl,trivial⟩⟩ ?_
   intro k hk hI
   by_cases hlt:k<e.purities.length
   ·obtain ⟨x,hx⟩:∃x,e.purities[k]? =some x:=⟨_,lbf hlt⟩
    conv=>whnf
    repeat' (first|refine zx ?_|refine qp (a2O x.move (e.moves.map n9.row).length) ?_|refine qp (a2O x.mat e.mats) ?_|refine qp (a7K x.most x.least 1000) ?_|refine b9 hx ?_|refine zd ?_ ?_<;>intro h<;>try omega|fail)<;>conv=>whnf
    all_goals first
     |omega
     |(refine ⟨hlt,?_,[],rfl,rfl,trivial,⟨rfl,rfl,trivial⟩⟩;rw [u6 hx,hI];simp_all [a06,btw];done)
     |(refine c7 ?_;rw [X6,hc,hr,x9 hx];rfl;simp_all [a06,btw];(try omega);done)
   ·have hp:e.purities.all (a06 e)=true:=by rw [← hI,lbn (by omega)]
    conv=>whnf
    repeat' (first|refine zx ?_|refine zd ?_ ?_<;>intro h<;>try omega|fail)<;>conv=>whnf
    all_goals first
     |omega
     |(refine c7 ?_;rw [X6,hc,hr,hp];rfl)
theorem b4z (e:Ev) (hs:e.Sized):a9 Tryz.prog 155 [evS e] [] (a7 .i64 (y8 e)) []:=by
 have l1:(e.places.map G5.row).length=e.places.length:=by simp
 have l8:(e.moves.map n9.row).length=e.moves.length:=by simp
 have fu:=b80 e hs
 cases hf:a1M e with
 |true=>
  rw [hf] at fu
  (refine ac Tryz.func155 ?_;(conv=>whnf);repeat ((first|refine b0x ?_|refine zy ?_);conv=>whnf))
  repeat' (first|refine zx ?_|refine qp fu ?_|refine zd ?_ ?_<;>intro h<;>try omega|fail)<;>conv=>whnf
  all_goals first
   |(exfalso;simp_all;done)
   |(refine k6 ?_;unfold y8;rw [if_pos hf])
 |false=>
  rw [hf] at fu
  by_cases hb:e.mats<1∨e.hhs<0∨e.scs<0
  ·have e1:y8 e=1:=by
    unfold y8;rw [if_neg (by simp [hf]),if_pos (by rcases hb with h|h|h<;>simp [h])]
   rw [e1]
   (refine ac Tryz.func155 ?_;(conv=>whnf);repeat ((first|refine b0x ?_|refine zy ?_);conv=>whnf))
   repeat' (first|refine zx ?_|refine qp fu ?_|refine zd ?_ ?_<;>intro h<;>try omega|fail)<;>conv=>whnf
   all_goals first
    |(exfalso;simp_all;done)
    |omega
    |exact k6 rfl
  have hfb:=hf
  unfold a1M at hfb
  simp only [Bool.or_eq_false_iff,lbK] at hfb
  (refine ac Tryz.func155 ?_;(conv=>whnf);repeat ((first|refine b0x ?_|refine zy ?_);conv=>whnf))
  repeat' (first|refine zx ?_|refine qp fu ?_|refine zd ?_ ?_<;>intro h<;>try omega|fail)<;>conv=>whnf
  all_goals try omega
  refine d8 c8 (fun k=>([J,S.c (C.t (T.ptr (evT e))),J,a7 .i64 k]++Jn 48,[])) e.places.length (fun k=>(e.places.take k).all (T9 e)=true) [] rfl
   ⟨rfl,rfl,trivial,⟨rfl,rfl,trivial⟩⟩ ?_
  intro k hk hI
  by_cases hlt:k<e.places.length
  ·obtain ⟨x,hx⟩:∃x,e.places[k]? =some x:=⟨_,lbf hlt⟩
   have pl:=b47 e x (by omega) (by omega) (by omega) (by omega)
   conv=>whnf
   repeat' (first|refine zx ?_|refine qp pl ?_|refine b9 hx ?_|refine zd ?_ ?_<;>intro h<;>try omega|fail)<;>conv=>whnf
   all_goals first
    |omega
    |(refine ⟨hlt,?_,[],rfl,rfl,trivial,⟨rfl,rfl,trivial⟩⟩;rw [u6 hx,hI];simp_all;done)
    |(refine k6 ?_;unfold y8;rw [if_neg (by simp [hf]),if_pos (.inr (.inr (.inr (x9 hx (by assumption)))))])
  have hp:e.places.all (T9 e)=true:=by rw [← hI,lbn (by omega)]
  have hck:y8 e=if w8 e 0 e.moves≠0 then w8 e 0 e.moves else if X6 e then 0 else 1:=by
   unfold y8;rw [if_neg (by simp [hf]),if_neg (by rw [hp];simp;omega)]
  conv=>whnf
  repeat' (first|refine zx ?_|refine zd ?_ ?_<;>intro h<;>try omega|fail)<;>conv=>whnf
  all_goals try omega
  clear hI hlt hk
  refine d8 c8 (fun k=>([J,S.c (C.t (T.ptr (evT e))),J,J,a7 .i64 k]++Jn 47,[])) e.moves.length (fun k=>w8 e 0 e.moves=w8 e (a30 e k) (e.moves.drop k)∧0<=a30 e k) [] ⟨rfl,Int.le_refl 0⟩
   ⟨rfl,rfl,trivial,⟨rfl,rfl,trivial⟩⟩ ?_
  rintro k hk ⟨hI,hI2⟩
  by_cases hlt:k<e.moves.length
  ·obtain ⟨x,hx⟩:∃x,e.moves[k]? =some x:=⟨_,lbf hlt⟩
   have mv:=b7n e k x hx hf (by omega) (by omega) (by omega)
   rw [a12 hx,w8] at hI
   have hm:w8 e 0 e.moves=if a2C e k x=0 then w8 e x.day (e.moves.drop (k+1)) else a2C e k x:=by
    rw [hI]
    unfold a2C
    have hk0:k=0->a30 e k=0:=fun h=>by subst h;rfl
    by_cases h1:x.day<a30 e k∨100000<x.day
    ·rw [if_pos h1,if_pos (c:=x.day<0∨100000<x.day∨(0<k∧x.day<a30 e k)) (by omega)];simp
    ·rw [if_neg h1,if_neg (c:=x.day<0∨100000<x.day∨(0<k∧x.day<a30 e k)) (by omega)]
     cases D5 e x<;>simp
   have hv:a2C e k x=0->0<=x.day:=fun h=>by unfold a2C at h;split at h<;>omega
   have hm0:a2C e k x=0->w8 e 0 e.moves=w8 e x.day (e.moves.drop (k+1)):=fun h=>by rw [hm,if_pos h]
   have hm1:a2C e k x≠0->w8 e 0 e.moves=a2C e k x:=fun h=>by rw [hm,if_neg h]
   clear hm hI
   conv=>whnf
   repeat' (first|refine zx ?_|refine qp mv ?_|refine zd ?_ ?_<;>intro h<;>try omega|fail)<;>conv=>whnf
   all_goals first
    |omega
    |(refine ⟨hlt,⟨?_,?_⟩,[],rfl,rfl,trivial,⟨rfl,rfl,trivial⟩⟩
      ·rw [a1Z hx];exact hm0 (by omega)
      ·rw [a1Z hx];exact hv (by omega))
    |(refine k6 ?_
      have hne:a2C e k x≠0:=by omega
      rw [hck,hm1 hne,if_pos hne])
  ·rw [List.drop_eq_nil_of_le (by omega),w8] at hI
   have sd:=b7z e hs hf (by omega) (by omega)
   conv=>whnf
   repeat' (first|refine zx ?_|refine qp sd ?_|refine zd ?_ ?_<;>intro h<;>try omega|fail)<;>conv=>whnf
   all_goals first
    |omega
    |(refine k6 ?_;rw [hck,hI];simp_all;done)
theorem aL1 (e:Ev) (hs:e.Sized) {k:Nat} {x:n9} (hx:e.moves[k]? =some x):a9 Tryz.prog 151 [evS e,a7 .i64 k] [] (.tup (ivL (B2 e x))) []:=by
 have l1:=hs.s3
 have l2:=hs.s4
 have iv:=aL3 e.certs e.recalls (by omega) (by omega) x.scale x.reading x.day
 unfold B2
 by_cases hsc:x.scale=-1
 ·rw [if_pos hsc]
  (refine ac Tryz.func151 ?_;(conv=>whnf);repeat ((first|refine b0x ?_|refine zy ?_);conv=>whnf))
  repeat' (first|refine zx ?_|refine qp 1 ?_|refine b9 hx ?_|refine bl0 [1] ?_|refine zd ?_ ?_<;>intro h<;>try omega|fail)<;>conv=>whnf
  all_goals first
   |omega
   |exact k9 ⟨⟨rfl,rfl,rfl,rfl,trivial⟩,⟨rfl,rfl,rfl,rfl,trivial⟩,rfl,trivial⟩
 ·rw [if_neg hsc]
  cases hiv:G4 e.certs e.recalls x.scale x.reading x.day with
  |none=>
   rw [hiv] at iv
   (refine ac Tryz.func151 ?_;(conv=>whnf);repeat ((first|refine b0x ?_|refine zy ?_);conv=>whnf))
   repeat' (first|refine zx ?_|refine qp iv ?_|refine b9 hx ?_|refine zd ?_ ?_<;>intro h<;>try omega|fail)<;>conv=>whnf
   all_goals first
    |omega
    |exact k9 ⟨⟨rfl,rfl,rfl,rfl,trivial⟩,⟨rfl,rfl,rfl,rfl,trivial⟩,rfl,trivial⟩
  |some p=>
   obtain ⟨lo,hi⟩:=p
   rw [hiv] at iv
   (refine ac Tryz.func151 ?_;(conv=>whnf);repeat ((first|refine b0x ?_|refine zy ?_);conv=>whnf))
   repeat' (first|refine zx ?_|refine qp iv ?_|refine b9 hx ?_|refine zd ?_ ?_<;>intro h<;>try omega|fail)<;>conv=>whnf
   all_goals first
    |omega
    |exact k9 ⟨⟨rfl,rfl,rfl,rfl,trivial⟩,⟨rfl,rfl,rfl,rfl,trivial⟩,rfl,trivial⟩
theorem b0Y (e:Ev) (mv kind:Int):a9 Tryz.prog 156 [evS e,a7 .i64 mv,a7 .i64 kind] [] (a7 .i64 (a1n e mv kind)) []:=by
 have l2:(e.moves.map n9.row).length=e.moves.length:=by simp
 (refine ac Tryz.func156 ?_;(conv=>whnf);repeat ((first|refine b0x ?_|refine zy ?_);conv=>whnf))
 repeat' (first|refine zx ?_|refine zd ?_ ?_<;>intro h<;>try omega|fail)<;>conv=>whnf
 all_goals (refine k6 ?_;unfold a1n;(repeat' split)<;>first|rfl|omega)
theorem aT6 (t:d9) (hs:t.Sized):a9 Tryz.prog 85 [trS t] [] (a7 .i64 (v3 t)) []:=by
 have l1:=hs.f
 have l2:=hs.c
 have ck:=b4z t.ev hs.ev
 have m1:(t.finds.map L0.row).length=t.finds.length:=by simp
 have m2:(t.cleans.map Q3.row).length=t.cleans.length:=by simp
 by_cases h0:y8 t.ev≠0
 ·have e1:v3 t=y8 t.ev:=by unfold v3;rw [if_pos h0]
  rw [e1]
  (refine ac Tryz.func85 ?_;(conv=>whnf);repeat ((first|refine b0x ?_|refine zy ?_);conv=>whnf))
  repeat' (first|refine zx ?_|refine qp ck ?_|refine zd ?_ ?_<;>intro h<;>try omega|fail)<;>conv=>whnf
  all_goals first
   |omega
   |exact k6 rfl
 have h0:y8 t.ev=0:=by omega
 rw [h0] at ck
 by_cases h1:20<t.finds.length∨50<t.cleans.length
 ·have e1:v3 t=6:=by unfold v3;rw [if_neg (by omega),if_pos h1]
  rw [e1]
  (refine ac Tryz.func85 ?_;(conv=>whnf);repeat ((first|refine b0x ?_|refine zy ?_);conv=>whnf))
  repeat' (first|refine zx ?_|refine qp ck ?_|refine zd ?_ ?_<;>intro h<;>try omega|fail)<;>conv=>whnf
  all_goals first
   |omega
   |exact k6 rfl
 have e1:v3 t=if N2 t.ev t.finds≠0 then N2 t.ev t.finds else M5 t.ev t.cleans:=by unfold v3;rw [if_neg (by omega),if_neg h1]
 rw [e1]
 (refine ac Tryz.func85 ?_;(conv=>whnf);repeat ((first|refine b0x ?_|refine zy ?_);conv=>whnf))
 repeat' (first|refine zx ?_|refine qp ck ?_|refine zd ?_ ?_<;>intro h<;>try omega|fail)<;>conv=>whnf
 all_goals try omega
 refine d8 c8 (fun k=>([J,S.c (C.t (T.ptr (trT t))),J,J,a7 .i64 k]++Jn 73,[])) t.finds.length (fun k=>N2 t.ev t.finds=N2 t.ev (t.finds.drop k)) [] rfl
  ⟨rfl,rfl,trivial,⟨rfl,rfl,trivial⟩⟩ ?_
 intro k hk hI
 by_cases hlt:k<t.finds.length
 ·obtain ⟨f,hf⟩:∃f,t.finds[k]? =some f:=⟨_,lbf hlt⟩
  have mk:=b0Y t.ev f.mv f.kind
  rw [a12 hf,N2] at hI
  by_cases hm:a1n t.ev f.mv f.kind≠0
  ·rw [if_pos hm] at hI
   rw [hI,if_pos hm]
   conv=>whnf
   repeat' (first|refine zx ?_|refine qp mk ?_|refine b9 hf ?_|refine zd ?_ ?_<;>intro h<;>try omega|fail)<;>conv=>whnf
   all_goals first
    |omega
    |exact k6 rfl
  ·rw [if_neg hm] at hI
   by_cases hg:f.grams<1∨1099511627776<f.grams
   ·rw [if_pos hg] at hI
    rw [hI]
    conv=>whnf
    repeat' (first|refine zx ?_|refine qp mk ?_|refine b9 hf ?_|refine zd ?_ ?_<;>intro h<;>try omega|fail)<;>conv=>whnf
    all_goals first
     |omega
     |exact k6 rfl
   ·rw [if_neg hg] at hI
    conv=>whnf
    repeat' (first|refine zx ?_|refine qp mk ?_|refine b9 hf ?_|refine zd ?_ ?_<;>intro h<;>try omega|fail)<;>conv=>whnf
    all_goals first
     |omega
     |exact ⟨hlt,hI,[],rfl,rfl,trivial,⟨rfl,rfl,trivial⟩⟩
 ·rw [lbo (by omega)] at hI
  have hI:N2 t.ev t.finds=0:=hI
  rw [hI,if_neg (by omega)]
  conv=>whnf
  repeat' (first|refine zx ?_|refine zd ?_ ?_<;>intro h<;>try omega|fail)<;>conv=>whnf
  all_goals try omega
  refine d8 c8 (fun k=>([J,S.c (C.t (T.ptr (trT t))),J,J,J,J,a7 .i64 k]++Jn 71,[])) t.cleans.length (fun k=>M5 t.ev t.cleans=M5 t.ev (t.cleans.drop k)) [] rfl
   ⟨rfl,rfl,trivial,⟨rfl,rfl,trivial⟩⟩ ?_
  intro j hj hJ
  by_cases hjt:j<t.cleans.length
  ·obtain ⟨c,hc⟩:∃c,t.cleans[j]? =some c:=⟨_,lbf hjt⟩
   have mk:=b0Y t.ev c.mv c.kind
   rw [a12 hc,M5] at hJ
   by_cases hm:a1n t.ev c.mv c.kind≠0
   ·rw [if_pos hm] at hJ
    rw [hJ]
    conv=>whnf
    repeat' (first|refine zx ?_|refine qp mk ?_|refine b9 hc ?_|refine zd ?_ ?_<;>intro h<;>try omega|fail)<;>conv=>whnf
    all_goals first
     |omega
     |exact k6 rfl
   ·rw [if_neg hm] at hJ
    conv=>whnf
    repeat' (first|refine zx ?_|refine qp mk ?_|refine b9 hc ?_|refine zd ?_ ?_<;>intro h<;>try omega|fail)<;>conv=>whnf
    all_goals first
     |omega
     |exact ⟨hjt,hJ,[],rfl,rfl,trivial,⟨rfl,rfl,trivial⟩⟩
  ·rw [lbo (by omega)] at hJ
   have hJ:M5 t.ev t.cleans=0:=hJ
   rw [hJ]
   conv=>whnf
   repeat' (first|refine zx ?_|refine zd ?_ ?_<;>intro h<;>try omega|fail)<;>conv=>whnf
   all_goals first
    |omega
    |exact k6 rfl
theorem b4j (t:d9) (hs:t.Sized) (kind:Int):a9 Tryz.prog 149 [trS t,a7 .i64 kind] [] (e8 (decide (v3 t=0∧0<=kind∧kind<8))) []:=by
 have ck:=aT6 t hs
 (refine ac Tryz.func149 ?_;(conv=>whnf);repeat ((first|refine b0x ?_|refine zy ?_);conv=>whnf))
 repeat' (first|refine zx ?_|refine qp ck ?_|refine zd ?_ ?_<;>intro h<;>try omega|fail)<;>conv=>whnf
 all_goals (refine c7 ?_;simp;try omega)
theorem a9N (v n:Int) (h1:-9223372036854775808<=n) (h2:n<=9223372036854775807):a9 Tryz.prog 223 [a7 .i64 v,a7 .i64 n] [] (.agg ((k5 (v,(n:Rat))).map .t)) []:=by
 have i1:=a4j n h1 h2
 (refine ac Tryz.func223 ?_;(conv=>whnf);repeat ((first|refine b0x ?_|refine zy ?_);conv=>whnf))
 repeat' (first|refine zx ?_|refine qp i1 ?_|refine zd ?_ ?_<;>intro h<;>try omega|fail)<;>conv=>whnf
 exact k9 ⟨rfl,rfl,rfl,rfl,rfl,trivial⟩
theorem b0r (i:Nat) (kind:Int) (v:Rat):a9 Tryz.prog 152 [a7 .i64 i,a7 .i64 kind,frS (fz v)] [] (aJ0 (p9 i kind v)) []:=by
 have i1:=a9N i 1 (by decide) (by decide)
 (refine ac Tryz.func152 ?_;(conv=>whnf);repeat ((first|refine b0x ?_|refine zy ?_);conv=>whnf))
 repeat' (first|refine zz ?_|refine qp i1 ?_|refine a2n.weak ?_|refine zd ?_ ?_<;>intro h<;>try omega|refine zy ?_|fail)<;>conv=>whnf
 exact k9 ⟨rfl,rfl,rfl,rfl,rfl,rfl,trivial⟩
abbrev bj9 (f:Fr):Blk:={ mode:=.live,elem:=83,size:=4,rows:=[frC f],box:=true }
theorem b0B (f:Fr):I9 [frC f]:=by simp [I9,frC,t6,C.isT]
theorem b4l (e:Ev) (h0:y8 e=0) {i:Nat} {x:n9} (hx:e.moves[i]? =some x):a9 Tryz.prog 150 [evS e,a7 .i64 i] [] (aJ0 (u9 e i x)) []:=by
 obtain ⟨b1,b2,b3,b4⟩:=a0e h0
 have hi:i<e.moves.length:=(lbe.1 hx).1
 have m0:(e.moves.map n9.row).length=e.moves.length:=by simp
 have i0:=a4j 0 (by decide) (by decide)
 have im:=a9N i (-1) (by decide) (by decide)
 have hil:=a2s (e:=e) (p:=x.src) i
 cases hal:x.all
 case' false=>have hK:(u9 e i x).kind=0:=by unfold u9;rw [hal];rfl
 case' true=>have hK:(u9 e i x).kind=2:=by unfold u9;rw [hal];rfl
 all_goals
  (refine ac Tryz.func150 ?_;(conv=>whnf);repeat ((first|refine b0x ?_|refine zy ?_);conv=>whnf))
  repeat' (first|refine zx ?_|refine qp i0 ?_|refine b9 hx ?_|refine zd ?_ ?_<;>intro h<;>try omega|fail)<;>conv=>whnf
  all_goals first
   |omega
   |(exfalso;simp_all;done)
   |skip
  refine d8 c8 (fun k=>([J,a7 .i64 i,S.c (C.t (T.ptr (evT e))),J,S.c (C.ptr 0 0 0),a7 .i64 x.src,S.c (C.ptr 1 0 0),a7 .i64 k]++Jn 58,[b8E,b8N 2 (j0 e x.src k).length (u9 e i x).kind,S8 (j0 e x.src k)])) i (fun _=>True) [some 0,some 1,none] trivial ?_ ?_
  ·refine ⟨rfl,rfl,⟨⟨rfl,rfl,rfl,.inr ⟨⟨rfl,rfl,rfl,rfl,rfl,rfl,trivial⟩,trivial⟩⟩,⟨rfl,rfl,rfl,.inr ⟨⟨⟨rfl,rfl,rfl⟩,?_,rfl,rfl,rfl,rfl,trivial⟩,trivial⟩⟩,⟨rfl,rfl⟩,trivial⟩,⟨rfl,rfl,⟨rfl,rfl,rfl⟩,rfl,⟨rfl,rfl,rfl⟩,rfl,trivial⟩⟩
   rw [hK];rfl
  intro k hk _
  have kl:=a2s (e:=e) (p:=x.src) k
  by_cases hlt:k<i
  ·obtain ⟨y,hy⟩:∃y,e.moves[k]? =some y:=⟨_,lbf (by omega)⟩
   have hmo:=p8 h0 (lbm hy)
   have hne:y.src≠y.dst:=by unfold D5 at hmo;simp only [lbN,lbI] at hmo;exact hmo.1.1.1.1.1.2
   have t1:=a9N k 1 (by decide) (by decide)
   have tm:=a9N k (-1) (by decide) (by decide)
   have lA:(j0 e x.src k).length<=(S8 (j0 e x.src k)).rows.length:=by show _<=(toC _).length;simp [toC]
   have lC:((j0 e x.src k).length+1)*73<=140737488355328:=by omega
   by_cases c1:y.dst=x.src
   ·have et:j0 e x.src (k+1)=j0 e x.src k++[((k:Int),((1:Int):Rat))]:=by rw [U2 hy,if_pos c1]
    conv=>whnf
    repeat' (first|refine zx ?_|refine qp t1 ?_|refine qp tm ?_|refine b9 hy ?_|refine o8 lA lC ?_|refine zd ?_ ?_<;>intro h<;>try omega|fail)<;>conv=>whnf
    all_goals try omega
    refine ⟨hlt,trivial,[some 0,some 1,some 3],rfl,rfl,⟨⟨rfl,rfl,rfl,.inr ⟨⟨rfl,rfl,rfl,rfl,rfl,rfl,trivial⟩,trivial⟩⟩,⟨rfl,rfl,rfl,.inr ⟨⟨⟨rfl,rfl,?_,fun h=>h⟩,rfl,rfl,rfl,rfl,rfl,trivial⟩,trivial⟩⟩,a8 rfl rfl rfl ?_ rfl,trivial⟩,⟨rfl,rfl,⟨rfl,rfl,rfl⟩,rfl,⟨rfl,rfl,rfl⟩,rfl,trivial⟩⟩
    ·rw [et,lbq];rfl
    ·rw [et]
     show List.take (j0 e x.src k).length (toC ((j0 e x.src k).map k5))++toC [k5 ((k:Int),((1:Int):Rat))]=_
     exact a1A rfl
   ·by_cases c2:y.src=x.src
    ·have et:j0 e x.src (k+1)=j0 e x.src k++[((k:Int),((-1:Int):Rat))]:=by rw [U2 hy,if_neg c1,if_pos c2]
     conv=>whnf
     repeat' (first|refine zx ?_|refine qp t1 ?_|refine qp tm ?_|refine b9 hy ?_|refine o8 lA lC ?_|refine zd ?_ ?_<;>intro h<;>try omega|fail)<;>conv=>whnf
     all_goals try omega
     refine ⟨hlt,trivial,[some 0,some 1,some 3],rfl,rfl,⟨⟨rfl,rfl,rfl,.inr ⟨⟨rfl,rfl,rfl,rfl,rfl,rfl,trivial⟩,trivial⟩⟩,⟨rfl,rfl,rfl,.inr ⟨⟨⟨rfl,rfl,?_,fun h=>h⟩,rfl,rfl,rfl,rfl,rfl,trivial⟩,trivial⟩⟩,a8 rfl rfl rfl ?_ rfl,trivial⟩,⟨rfl,rfl,⟨rfl,rfl,rfl⟩,rfl,⟨rfl,rfl,rfl⟩,rfl,trivial⟩⟩
     ·rw [et,lbq];rfl
     ·rw [et]
      show List.take (j0 e x.src k).length (toC ((j0 e x.src k).map k5))++toC [k5 ((k:Int),((-1:Int):Rat))]=_
      exact a1A rfl
    ·have et:j0 e x.src (k+1)=j0 e x.src k:=by rw [U2 hy,if_neg c1,if_neg c2]
     conv=>whnf
     repeat' (first|refine zx ?_|refine b9 hy ?_|refine zd ?_ ?_<;>intro h<;>try omega|fail)<;>conv=>whnf
     all_goals try omega
     refine ⟨hlt,trivial,[some 0,some 1,some 2],rfl,rfl,⟨⟨rfl,rfl,rfl,.inr ⟨⟨rfl,rfl,rfl,rfl,rfl,rfl,trivial⟩,trivial⟩⟩,⟨rfl,rfl,rfl,.inr ⟨⟨⟨rfl,rfl,?_,fun h=>h⟩,rfl,rfl,rfl,rfl,rfl,trivial⟩,trivial⟩⟩,a8 rfl rfl rfl ?_ rfl,trivial⟩,⟨rfl,rfl,⟨rfl,rfl,rfl⟩,rfl,⟨rfl,rfl,rfl⟩,rfl,trivial⟩⟩
     ·rw [et]
     ·rw [et]
  ·have hke:k=i:=by omega
   subst hke
   have lA:(j0 e x.src k).length<=(S8 (j0 e x.src k)).rows.length:=by show _<=(toC _).length;simp [toC]
   have lC:((j0 e x.src k).length+1)*73<=140737488355328:=by omega
   conv=>whnf
   repeat' (first|refine zx ?_|refine qp im ?_|refine o8 lA lC ?_|refine zd ?_ ?_<;>intro h<;>try omega|fail)<;>conv=>whnf
   all_goals try omega
   refine k9 ⟨show VC _ (fun id=>E4 [] id=true) _ _ from u4 rfl rfl (by intro h;cases h) rfl (rows:=(j0 e x.src k++[((k:Int),((-1:Int):Rat))]).map k5) ?_ ?_,rfl,rfl,rfl,rfl,rfl,trivial⟩
   ·show List.take (j0 e x.src k).length (toC ((j0 e x.src k).map k5))++toC [k5 ((k:Int),((-1:Int):Rat))]=_
    exact a1A rfl
   ·rw [lbr,lbq];rfl
abbrev rEv (t:d9) (kind:Int) (k:Nat):Env:=[J,a7 .i64 kind,S.c (C.t (T.ptr (trT t))),J,S.c (C.ptr 0 0 0),J,S.c (C.ptr 1 0 0),S.c (C.ptr 2 0 0),a7 .i64 k]++Jn 132
abbrev rHp (t:d9) (R:List D3):Hp:=[a22,evB t.ev,a3k t.ev.moves.length 3 R.length,L9 R]
theorem Q2 {t:d9} {R:List D3} {N len:Nat} {H:Hp} {env env':Env} {rs:List (List C)} {kz:Blk} (hz:H[0]? =some kz) (hz2:a5q [some 0,some 1,some 2,some N] H kz a22) (he:H[1]? =some (evB t.ev))
 (hs:H[2]? =some (a3k t.ev.moves.length N len)) (hr:H[N]? =some { mode:=.live,elem:=143,size:=6,rows:=rs,box:=false }) (hl:len=R.length) (hrs:rs=toC (R.map y4)) (hN:2<N)
 (hE:a14 [some 0,some 1,some 2,some N] H env env'):Ent 0 [some 0,some 1,some 2,some N] env H env' (rHp t R):=by
 have b1:Nat.beq 0 N=false:=by cases h:Nat.beq 0 N with|false=>rfl|true=>exact absurd (Nat.eq_of_beq_eq_true h) (by omega)
 refine ⟨rfl,a0A fun a b m h1 h2=>?_,⟨?_,?_,?_,?_,trivial⟩,hE⟩
 ·match a,b,h1,h2 with
  |0,0,_,_=>rfl
  |1,1,_,_=>rfl
  |2,2,_,_=>rfl
  |3,3,_,_=>rfl
  |0,1,h1,h2=>simp at h1 h2;omega
  |0,2,h1,h2=>simp at h1 h2;omega
  |0,3,h1,h2=>simp at h1 h2;omega
  |1,0,h1,h2=>simp at h1 h2;omega
  |1,2,h1,h2=>simp at h1 h2;omega
  |1,3,h1,h2=>simp at h1 h2;omega
  |2,0,h1,h2=>simp at h1 h2;omega
  |2,1,h1,h2=>simp at h1 h2;omega
  |2,3,h1,h2=>simp at h1 h2;omega
  |3,0,h1,h2=>simp at h1 h2;omega
  |3,1,h1,h2=>simp at h1 h2;omega
  |3,2,h1,h2=>simp at h1 h2;omega
  |n+4,_,h1,_=>simp at h1
  |0,n+4,_,h2=>simp at h2
  |1,n+4,_,h2=>simp at h2
  |2,n+4,_,h2=>simp at h2
  |3,n+4,_,h2=>simp at h2
 ·simp only [hz];exact hz2
 ·simp only [he];exact ⟨rfl,rfl,rfl,.inl ⟨rfl,j7 _⟩⟩
 ·simp only [hs];exact ⟨rfl,rfl,rfl,.inr ⟨⟨rfl,⟨rfl,rfl,hl,fun h=>h⟩,trivial⟩,trivial⟩⟩
 ·simp only [hr];exact a8 rfl rfl rfl hrs rfl
theorem a0w {ρ:List (Option Nat)} {H:Hp}:a5q ρ H a22 a22:=⟨rfl,rfl,rfl,.inr ⟨⟨rfl,rfl,trivial⟩,trivial⟩⟩
theorem b8q (o:Option (Rat × Rat)):∃lo:Fr,ivL o=[frS lo,frS (hiF o),e8 o.isSome]:=by
 cases o with
 |none=>exact ⟨U6,rfl⟩
 |some p=>exact ⟨fz p.1,rfl⟩
theorem b8o {i:Nat} {kind:Int} {f:Fr} {v:Rat} (h:f=fz v):a9 Tryz.prog 152 [a7 .i64 i,a7 .i64 kind,frS f] [] (aJ0 (p9 i kind v)) []:=by subst h;exact b0r i kind v
theorem b0C (t:d9) (kind:Int) (hs:t.Sized) (h1:¬(v3 t≠0∨kind<0∨8<=kind)):a9 Tryz.prog 81 [trS t,a7 .i64 kind] [] (.tup [.agg [.t (ti t.ev.moves.length),.own 0 0 (R5 t kind).rows.length true],a7 .i64 0]) [L9 (R5 t kind).rows]:=by
 have rt:=b4j t hs kind
 have m2:(t.ev.moves.map n9.row).length=t.ev.moves.length:=by simp
 have m4:(t.finds.map L0.row).length=t.finds.length:=by simp
 have m5:(t.cleans.map Q3.row).length=t.cleans.length:=by simp
 obtain ⟨k1,k2,k3⟩:v3 t=0∧0<=kind∧kind<8:=by omega
 rw [lbH ⟨k1,k2,k3⟩] at rt
 clear h1
 obtain ⟨q1,q2,q3,q4,q5⟩:=o4 k1
 obtain ⟨b1,b2,b3,b4⟩:=a0e q1
 (refine ac Tryz.func81 ?_;(conv=>whnf);repeat ((first|refine b0x ?_|refine zy ?_);conv=>whnf))
 repeat' (first|refine zx ?_|refine qp rt ?_|refine zd ?_ ?_<;>intro h<;>try omega|fail)<;>conv=>whnf
 all_goals try omega
 refine aO4 (fun k=>(rEv t kind k,rHp t (s6 t kind k))) t.ev.moves.length (fun _=>True) [some 0,some 1,some 2,none] trivial ?_ ?_
 ·refine ⟨rfl,rfl,⟨⟨rfl,rfl,rfl,.inr ⟨⟨rfl,rfl,trivial⟩,trivial⟩⟩,⟨rfl,rfl,rfl,.inl ⟨rfl,j7 _⟩⟩,⟨rfl,rfl,rfl,.inr ⟨⟨?_,⟨rfl,rfl,rfl⟩,trivial⟩,trivial⟩⟩,⟨rfl,rfl⟩,trivial⟩,⟨rfl,rfl,⟨rfl,rfl,rfl⟩,⟨rfl,rfl,rfl⟩,⟨rfl,rfl,rfl⟩,rfl,trivial⟩⟩
  exact a9T (by rw [m2])
 intro k hk _
 refine R4 c8 ?_
 conv=>whnf
 repeat' (first|refine zx ?_|refine zd ?_ ?_<;>intro h<;>try omega|fail)<;>conv=>whnf
 ·obtain ⟨x,hx⟩:∃x,t.ev.moves[k]? =some x:=⟨_,lbf (by omega)⟩
  have hlt:k<t.ev.moves.length:=by omega
  have hmo:=p8 q1 (lbm hx)
  have ms:=B6 hmo
  obtain ⟨s,hsn⟩:∃s:Nat,x.src=s:=⟨x.src.toNat,by omega⟩
  obtain ⟨pl,hpl⟩:∃pl,t.ev.places[s]? =some pl:=⟨_,lbf (by omega)⟩
  have hkd:j9 t.ev x.src=pl.kind:=by rw [hsn];exact a8J hpl
  have st:=b4l t.ev q1 hx
  have iv:=aL1 t.ev hs.ev hx
  have rl0:=ah2 (t:=t) (kind:=kind) (k:=k) (by omega) q2 q3
  obtain ⟨lo,hlo⟩:=b8q (B2 t.ev x)
  rw [hlo] at iv
  have i0:=a4j 0 (by decide) (by decide)
  have hcr:P1 (B2 t.ev x) k=if (B2 t.ev x).isSome then [p9 k 1 (hiR (B2 t.ev x))] else []:=by cases B2 t.ev x<;>rfl
  obtain ⟨R1,hR1⟩:∃R1:List D3,R1=s6 t kind k++(if pl.kind=0 then [] else [u9 t.ev k x]):=⟨_,rfl⟩
  obtain ⟨R2,hR2⟩:∃R2:List D3,R2=R1++P1 (B2 t.ev x) k:=⟨_,rfl⟩
  have l1:R1.length<=14401:=by rw [hR1];split<;>simp<;>omega
  have l2:R2.length<=14402:=by rw [hR2,hcr];split<;>simp<;>omega
  refine ac7 (ae3 ?_)
  refine a2H c8 (rEv t kind k) (rHp t R1) ?_ ?_
  ·have lA:(s6 t kind k).length<=(L9 (s6 t kind k)).rows.length:=by show _<=(toC _).length;simp [toC]
   have lC:((s6 t kind k).length+1)*97<=140737488355328:=by omega
   conv=>whnf
   repeat' (first|refine zx ?_|refine qp st ?_|refine b9 hx ?_|refine F4 hsn hpl ?_|refine o8 lA lC ?_|refine zd ?_ ?_<;>intro h<;>try omega|fail)<;>conv=>whnf
   ·have eR:R1=s6 t kind k++[u9 t.ev k x]:=by rw [hR1,if_neg (by assumption)]
    refine ⟨[some 0,some 1,some 2,some 4],Q2 rfl a0w rfl rfl rfl ?_ ?_ (by decide) ⟨rfl,rfl,⟨rfl,rfl,rfl⟩,⟨rfl,rfl,rfl⟩,⟨rfl,rfl,rfl⟩,rfl,trivial⟩⟩
    ·rw [eR];simp [toC]
    ·rw [eR];exact a1w rfl
   ·have eR:R1=s6 t kind k:=by rw [hR1,if_pos (by omega),List.append_nil]
    refine ⟨[some 0,some 1,some 2,some 3],Q2 rfl a0w rfl rfl rfl ?_ ?_ (by decide) ⟨rfl,rfl,⟨rfl,rfl,rfl⟩,⟨rfl,rfl,rfl⟩,⟨rfl,rfl,rfl⟩,rfl,trivial⟩⟩
    ·rw [eR]
    ·rw [eR]
  have o1:=fun h=>b8o (i:=k) (kind:=1) (f:=hiF (B2 t.ev x)) (v:=hiR (B2 t.ev x)) h
  refine a2H c8 ([J,a7 .i64 kind,S.c (C.t (T.ptr (trT t))),J,S.c (C.ptr 0 0 0),J,S.c (C.ptr 1 0 0),S.c (C.ptr 2 0 0),a7 .i64 k,J,S.c (C.ptr 4 0 0),e8 (B2 t.ev x).isSome]++Jn 129) (rHp t R1++[bj9 (hiF (B2 t.ev x))]) ?_ ?_
  ·conv=>whnf
   repeat' (first|refine zx ?_|refine qp iv ?_|refine qp 6 ?_|refine bl0 [6] ?_|refine zd ?_ ?_<;>intro h<;>try omega|fail)<;>conv=>whnf
   all_goals
    refine ⟨[some 0,some 1,some 2,some 3,some 5],rfl,rfl,⟨a0w,⟨rfl,rfl,rfl,.inl ⟨rfl,j7 _⟩⟩,⟨rfl,rfl,rfl,.inr ⟨⟨rfl,⟨rfl,rfl,rfl,fun h=>h⟩,trivial⟩,trivial⟩⟩,⟨rfl,rfl,rfl,.inl ⟨rfl,c6 _⟩⟩,⟨rfl,rfl,rfl,.inl ⟨rfl,b0B _⟩⟩,trivial⟩,⟨rfl,rfl,⟨rfl,rfl,rfl⟩,⟨rfl,rfl,rfl⟩,⟨rfl,rfl,rfl⟩,rfl,⟨rfl,rfl,rfl⟩,b1g h.symm,trivial⟩⟩
  refine a2H c8 (rEv t kind k) (rHp t R2) ?_ ?_
  ·have lA:R1.length<=(L9 R1).rows.length:=by show _<=(toC _).length;simp [toC]
   have lC:(R1.length+1)*97<=140737488355328:=by omega
   cases hc:(B2 t.ev x).isSome with
   |true=>
    have o1:=o1 (ae8 hc).1
    have eR:R2=R1++[p9 k 1 (hiR (B2 t.ev x))]:=by rw [hR2,hcr,hc];rfl
    conv=>whnf
    repeat' (first|refine zx ?_|refine qp o1 ?_|refine o8 lA lC ?_|refine zd ?_ ?_<;>intro h<;>try omega|fail)<;>conv=>whnf
    all_goals try (rw [hc] at h;exact absurd h (by decide))
    refine ⟨[some 0,some 1,some 2,some 5],Q2 rfl a0w rfl rfl rfl ?_ ?_ (by decide) ⟨rfl,rfl,⟨rfl,rfl,rfl⟩,⟨rfl,rfl,rfl⟩,⟨rfl,rfl,rfl⟩,rfl,trivial⟩⟩
    ·rw [eR];simp [toC]
    ·rw [eR];exact a1w rfl
   |false=>
    have eR:R2=R1:=by rw [hR2,hcr,hc];simp
    conv=>whnf
    repeat' (first|refine zx ?_|refine zd ?_ ?_<;>intro h<;>try omega|fail)<;>conv=>whnf
    all_goals try (rw [hc] at h;exact absurd h (by decide))
    refine ⟨[some 0,some 1,some 2,some 3],Q2 rfl a0w rfl rfl rfl ?_ ?_ (by decide) ⟨rfl,rfl,⟨rfl,rfl,rfl⟩,⟨rfl,rfl,rfl⟩,⟨rfl,rfl,rfl⟩,rfl,trivial⟩⟩
    ·rw [eR]
    ·rw [eR]
  obtain ⟨G,hG⟩:∃G:Nat->List D3,∀j,G j=R2++(i8 (t.finds.take j) kind k).map (fun g:Int=>p9 k 0 (g:Rat)):=⟨_,fun _=>rfl⟩
  have lG:∀j,(G j).length<=14500:=fun j=>by
   have h1:(i8 (t.finds.take j) kind k).length<=20:=by
    unfold i8;rw [lbr]
    exact lbS (lbt _ _) (by rw [lbs];omega)
   rw [hG];simp;omega
  refine a2H c8 (rEv t kind k) (rHp t (G t.finds.length)) ?_ ?_
  ·conv=>whnf
   repeat' (first|refine zx ?_|refine zd ?_ ?_<;>intro h<;>try omega|fail)<;>conv=>whnf
   refine d8 c8 (fun j=>([J,a7 .i64 kind,S.c (C.t (T.ptr (trT t))),J,S.c (C.ptr 0 0 0),J,S.c (C.ptr 1 0 0),S.c (C.ptr 2 0 0),a7 .i64 k,J,J,J,a7 .i64 j]++Jn 128,rHp t (G j))) t.finds.length (fun _=>True) [some 0,some 1,some 2,some 3] trivial ?_ ?_
   ·refine Q2 rfl a0w rfl rfl rfl ?_ ?_ (by decide) ⟨rfl,rfl,⟨rfl,rfl,rfl⟩,⟨rfl,rfl,rfl⟩,⟨rfl,rfl,rfl⟩,rfl,rfl,trivial⟩
    ·rw [hG];simp [i8]
    ·rw [hG];simp [i8]
   intro j hj _
   have lj:=lG j
   by_cases hjt:j<t.finds.length
   ·obtain ⟨f,hf⟩:∃f,t.finds[j]? =some f:=⟨_,lbf hjt⟩
    have fb:=F9 q4 f (lbm hf)
    have ig:=a4j f.grams (by omega) (by omega)
    have o0:=b0r k 0 (f.grams:Rat)
    have lA:(G j).length<=(L9 (G j)).rows.length:=by show _<=(toC _).length;simp [toC]
    have lC:((G j).length+1)*97<=140737488355328:=by omega
    have gs:G (j+1)=if f.kind=kind∧f.mv=(k:Int) then G j++[p9 k 0 (f.grams:Rat)] else G j:=by
     rw [hG,hG,a4g hf,a6Z]
     split<;>simp
    conv=>whnf
    repeat' (first|refine zx ?_|refine qp ig ?_|refine qp o0 ?_|refine b9 hf ?_|refine o8 lA lC ?_|refine zd ?_ ?_<;>intro h<;>try omega|fail)<;>conv=>whnf
    all_goals first
     |omega
     |skip
    ·rw [if_pos (by omega)] at gs
     refine ⟨hjt,trivial,[some 0,some 1,some 2,some 4],Q2 rfl a0w rfl rfl rfl ?_ ?_ (by decide) ⟨rfl,rfl,⟨rfl,rfl,rfl⟩,⟨rfl,rfl,rfl⟩,⟨rfl,rfl,rfl⟩,rfl,rfl,trivial⟩⟩
     ·rw [gs];simp [toC]
     ·rw [gs];exact a1w rfl
    all_goals
     rw [if_neg (by omega)] at gs
     refine ⟨hjt,trivial,[some 0,some 1,some 2,some 3],Q2 rfl a0w rfl rfl rfl ?_ ?_ (by decide) ⟨rfl,rfl,⟨rfl,rfl,rfl⟩,⟨rfl,rfl,rfl⟩,⟨rfl,rfl,rfl⟩,rfl,rfl,trivial⟩⟩
     ·rw [gs]
     ·rw [gs]
   ·have hje:j=t.finds.length:=by omega
    subst hje
    conv=>whnf
    repeat' (first|refine zx ?_|refine zd ?_ ?_<;>intro h<;>try omega|fail)<;>conv=>whnf
    all_goals first
     |omega
     |exact ⟨[some 0,some 1,some 2,some 3],Q2 rfl a0w rfl rfl rfl rfl rfl (by decide) ⟨rfl,rfl,⟨rfl,rfl,rfl⟩,⟨rfl,rfl,rfl⟩,⟨rfl,rfl,rfl⟩,rfl,trivial⟩⟩
  have lGe:=lG t.finds.length
  obtain ⟨K,hK⟩:∃K:Nat->List D3,∀j,K j=G t.finds.length++List.replicate (o6 (t.cleans.take j) kind k) (p9 k 2 ((0:Int):Rat)):=⟨_,fun _=>rfl⟩
  have lK:∀j,(K j).length<=14600:=fun j=>by
   have h1:o6 (t.cleans.take j) kind k<=50:=by
    unfold o6
    exact lbS (lbt _ _) (by rw [lbs];omega)
   rw [hK];simp;omega
  have hKe:K t.cleans.length=s6 t kind (k+1):=by
   rw [hK,hG,hR2,hR1,lbn (lbR _),lbn (lbR _)]
   show _=(match t.ev.moves[k]? with|none=>s6 t kind k|some x=>s6 t kind k++N6 t kind k x)
   rw [hx]
   simp only [N6,hkd,lbD]
  refine z6 c8 _ ?_
  conv=>whnf
  repeat' (first|refine zx ?_|refine zd ?_ ?_<;>intro h<;>try omega|fail)<;>conv=>whnf
  refine d8 c8 (fun j=>([J,a7 .i64 kind,S.c (C.t (T.ptr (trT t))),J,S.c (C.ptr 0 0 0),J,S.c (C.ptr 1 0 0),S.c (C.ptr 2 0 0),a7 .i64 k,J,J,J,J,a7 .i64 j]++Jn 127,rHp t (K j))) t.cleans.length (fun _=>True) [some 0,some 1,some 2,some 3] trivial ?_ ?_
  ·refine Q2 rfl a0w rfl rfl rfl ?_ ?_ (by decide) ⟨rfl,rfl,⟨rfl,rfl,rfl⟩,⟨rfl,rfl,rfl⟩,⟨rfl,rfl,rfl⟩,rfl,rfl,trivial⟩
   ·rw [hK];simp [o6]
   ·rw [hK];simp [o6]
  intro j hj _
  have lj:=lK j
  by_cases hjt:j<t.cleans.length
  ·obtain ⟨c,hc⟩:∃c,t.cleans[j]? =some c:=⟨_,lbf hjt⟩
   have o0:=b0r k 2 ((0:Int):Rat)
   have lA:(K j).length<=(L9 (K j)).rows.length:=by show _<=(toC _).length;simp [toC]
   have lC:((K j).length+1)*97<=140737488355328:=by omega
   have gs:K (j+1)=if c.kind=kind∧c.mv=(k:Int) then K j++[p9 k 2 ((0:Int):Rat)] else K j:=by
    rw [hK,hK,a4g hc,a0N]
    split<;>simp [List.replicate_succ']
   conv=>whnf
   repeat' (first|refine zx ?_|refine qp i0 ?_|refine qp o0 ?_|refine b9 hc ?_|refine o8 lA lC ?_|refine zd ?_ ?_<;>intro h<;>try omega|fail)<;>conv=>whnf
   all_goals first
    |omega
    |skip
   ·rw [if_pos (by omega)] at gs
    refine ⟨hjt,trivial,[some 0,some 1,some 2,some 4],Q2 rfl a0w rfl rfl rfl ?_ ?_ (by decide) ⟨rfl,rfl,⟨rfl,rfl,rfl⟩,⟨rfl,rfl,rfl⟩,⟨rfl,rfl,rfl⟩,rfl,rfl,trivial⟩⟩
    ·rw [gs];simp [toC]
    ·rw [gs];exact a1w rfl
   all_goals
    rw [if_neg (by omega)] at gs
    refine ⟨hjt,trivial,[some 0,some 1,some 2,some 3],Q2 rfl a0w rfl rfl rfl ?_ ?_ (by decide) ⟨rfl,rfl,⟨rfl,rfl,rfl⟩,⟨rfl,rfl,rfl⟩,⟨rfl,rfl,rfl⟩,rfl,rfl,trivial⟩⟩
    ·rw [gs]
    ·rw [gs]
  ·have hje:j=t.cleans.length:=by omega
   subst hje
   conv=>whnf
   repeat' (first|refine zx ?_|refine zd ?_ ?_<;>intro h<;>try omega|fail)<;>conv=>whnf
   all_goals try omega
   refine z6 c8 _ ?_
   conv=>whnf
   repeat' (first|refine zx ?_|refine zd ?_ ?_<;>intro h<;>try omega|fail)<;>conv=>whnf
   all_goals try omega
   exact ⟨hlt,trivial,[some 0,some 1,some 2,some 3],Q2 rfl a0w rfl rfl rfl (by rw [hKe]) (by rw [hKe]) (by decide) ⟨rfl,rfl,⟨rfl,rfl,rfl⟩,⟨rfl,rfl,rfl⟩,⟨rfl,rfl,rfl⟩,rfl,trivial⟩⟩
 ·have hke:k=t.ev.moves.length:=by omega
  subst hke
  exact ⟨⟨[some 3],rfl,rfl,⟨a8 (rows:=(R5 t kind).rows.map y4) rfl rfl rfl rfl rfl,trivial⟩,⟨⟨rfl,⟨rfl,rfl,rfl,fun h=>h⟩,trivial⟩,rfl,trivial⟩⟩⟩
def b01 (s:g4) (g:List (Int × Rat)):g4:=⟨s.n,s.rows++[⟨g,2,((0:Int):Rat)⟩]⟩
theorem aO7 {s:g4} {g:List (Int × Rat)} (hr:j8 s=true) (hl:s.rows.length<6000) (hg:f9 (-1) s.n g=true):j8 (b01 s g)=true:=by
 unfold j8 at hr ⊢
 simp only [lbN,lbI] at hr ⊢
 refine ⟨⟨hr.1.1,by simp [b01];omega⟩,?_⟩
 show (s.rows++[_]).all (v7 s.n)=true
 rw [List.all_append,hr.2]
 simp [v7,hg]
theorem a32 {s:g4} {g:List (Int × Rat)} (z:List Rat):∀l:List (Int × Rat),p4 (R8 l) z=-(p4 l z):=by
 intro l
 have key:∀k,k<=l.length->p4 ((R8 l).take k) z=-(p4 (l.take k) z):=by
  intro k
  induction k with
  |zero=>intro _;rw [List.take_zero,List.take_zero];show (0:Rat)=-0;grind
  |succ k ih=>
   intro hk
   have ih:=ih (by omega)
   have ht:l[k]? =some l[k]:=lbf (by omega)
   rw [show (R8 l).take (k+1)=_ from a8W l _ ht,T7,List.take_succ_eq_append_getElem (show k<l.length by omega),T7,show (a0g l ((-1:Int):Rat)).take k=(R8 l).take k from rfl,ih]
   have e1:((-1:Int):Rat)=-1:=rfl
   rw [e1];simp only;grind
 have:=key l.length (lbR _)
 rwa [lbn (by rw [b81];exact lbR _),lbn (lbR _)] at this
theorem b5p {s:g4} {Y:List Rat} (h:aO8 s (yN Y)) (hl:Y.length=s.rows.length):a4s s Y=true:=by
 unfold a4s
 rw [lbH hl,Bool.true_and,lbv]
 intro i hi
 rw [lbB] at hi
 have hx:s.rows[i]? =some s.rows[i]:=lbf hi
 obtain ⟨h1,h2⟩:=h i _ hx
 unfold sgB
 rw [O9 hx]
 simp only [Bool.not_eq_true',Bool.or_eq_false_iff,lbP,lbK]
 refine ⟨?_,?_⟩
 ·by_cases h:s.rows[i].kind=0
  ·exact .inr (lb4.2 (h1 h))
  ·exact .inl h
 ·by_cases h:s.rows[i].kind=1
  ·exact .inr (lb4.2 (h2 h))
  ·exact .inl h
theorem b6V {s:g4} {g:List (Int × Rat)} {Y:List Rat} {y:Nat->Rat} {v:Rat} (hr:j8 s=true) (hg:f9 (-1) ((s.n.toNat:Nat):Int) g=true) (h:b7y s (x8 g) y v) (hl:Y.length=s.rows.length) (hY:∀i,i<s.rows.length->yN Y i=y i):a44 s g Y=true∧a38 s (yN Y)=v:=by
 have hn:=a0V hr
 have e1:∀l,R9 s (yN Y) l=R9 s y l:=fun l=>e7 fun i hi=>by rw [hY i hi]
 have e2:a38 s (yN Y)=a38 s y:=e7 fun i hi=>by rw [hY i hi]
 refine ⟨?_,by rw [e2,h.val]⟩
 unfold a44
 rw [b5p (fun i w hw=>by rw [hY i (lbe.1 hw).1];exact h.sign i w hw) hl,←hn,hg,Bool.true_and,Bool.true_and,lbv]
 intro l hl
 rw [lbB] at hl
 have hl:l<s.n.toNat:=by omega
 rw [e1]
 exact lbH (h.mix l hl)
theorem b6k {n:Nat} {y:Nat->Rat} {i:Nat} (h:i<n):yN (zOf n y) i=y i:=a7u h
def ak0 (D:Fd):Fd:={ D with V:=fun _=>0 }
theorem a86 {m n:Nat} {D:Fd} {y:Nat->Rat} {c:Rat}:Ids m n (ak0 D) y c↔Ids m n D y 0:=by
 constructor
 ·intro h i hi
  have h1:y (D.O i)=c*0 - f7 (fun j=>D.A i j*y (D.F j)) n:=h i hi
  show y (D.O i)=0*D.V i - f7 (fun j=>D.A i j*y (D.F j)) n
  rw [h1];grind
 ·intro h i hi
  have h1:y (D.O i)=0*D.V i - f7 (fun j=>D.A i j*y (D.F j)) n:=h i hi
  show y (D.O i)=c*0 - f7 (fun j=>D.A i j*y (D.F j)) n
  rw [h1];grind
theorem b0i {m n:Nat} {D:Fd} (h:a0n m n D):a0n m n (ak0 D):=⟨h.oi,h.fi,h.of,h.all,h.ob,h.fb⟩
theorem aQ5 {s:g4} {g:List (Int × Rat)} {B:Nat} (hI:∀w ∈ s.rows,af6 B w):b00 (f5 s).length s.n.toNat 1 (ak0 (g7 s g)) where
 o:=fun i _=>rfl
 f:=fun j _=>rfl
 w:=fun i hi=>by
  obtain ⟨f,hf⟩:∃f,(f5 s)[i]? =some f:=⟨_,lbf hi⟩
  obtain ⟨x,hx,_⟩:=Y8.1 (lbm hf)
  obtain ⟨h1,h2⟩:=hI x (lbm hx)
  have hfd:(f5 s).getD i (0,false)=f:=by rw [lbl,hf];rfl
  have eA:∀j,(g7 s g).A i j=V4 f.2 (x8 x.terms j):=fun j=>by show a2G s ((f5 s).getD i (0,false)) j=_;rw [hfd];unfold a2G;rw [hx]
  have hc:∀j,∃c:Int,(g7 s g).A i j=((c:Int):Rat)∧bl c<=1:=fun j=>by
   obtain ⟨c,hc,hb⟩:=a1W h1 x.terms.length j
   obtain ⟨c',hc',hb'⟩:=b7J (b:=f.2) (x:=x8 x.terms j) hc
   exact ⟨c',by rw [eA,hc'],by omega⟩
  refine ⟨1,0,fun j=>Classical.choose (hc j),by decide,s9 (by decide) (by decide),s9 (by decide) (by decide),fun j hj=>(Classical.choose_spec (hc j)).2,?_,fun j hj=>?_⟩
  ·have e0:((0:Int):Rat)=0:=rfl
   have e1:((1:Int):Rat)=1:=rfl
   show ((1:Int):Rat)*0=((0:Int):Rat)
   rw [e0,e1];grind
  ·show ((1:Int):Rat)*(g7 s g).A i j=((Classical.choose (hc j):Int):Rat)
   have hs:=(Classical.choose_spec (hc j)).1
   generalize Classical.choose (hc j)=x at hs
   rw [hs]
   have h1:((1:Int):Rat)=1:=rfl
   rw [h1];grind
theorem b1V {s:g4} {g:List (Int × Rat)} {B:Nat} (hI:∀w ∈ s.rows,af6 B w) (hg:D2 g) {j:Nat} (hj:j<s.n.toNat):rl ((y3 s g).G j)<=2 ^ s.n.toNat*3:=by
 have inv:=S1 (s:=s) (g:=g)
 obtain ⟨z,hz⟩:=inv.g
 have hc:∀j,∃c:Int,x8 g j=((c:Int):Rat)∧bl c<=1:=fun j=>a1W hg g.length j
 have hz0:X3 s.n.toNat (ak0 (y3 s g)) (fun j=>-(x8 g j)) (f5 s).length 0:=fun y c hy=>by
  have:=hz y 0 (a86.1 hy)
  rw [this]
  show 0*z+_=c*0+_
  have e:f7 (fun j=>(ak0 (y3 s g)).G j*y ((ak0 (y3 s g)).F j)) s.n.toNat=f7 (fun j=>(y3 s g).G j*y ((y3 s g).F j)) s.n.toNat:=rfl
  rw [e];grind
 refine b7j (D:=ak0 (y3 s g)) (aQ5 (g:=g) hI) (by decide) (b0i inv.p) (fun y c=>by rw [a86,a86];exact inv.i y 0) hz0 (q:=1) (b:=fun l=>-(Classical.choose (hc l))) (by decide) (s9 (by decide) (by decide)) (fun l hl=>?_) (fun l hl=>?_) hj
 ·have:=(Classical.choose_spec (hc l)).2
  show bl (-(Classical.choose (hc l)))<=_
  rw [aa1];omega
 ·have hs:=(Classical.choose_spec (hc l)).1
  show ((1:Int):Rat)*-(x8 g l)=((-(Classical.choose (hc l)):Int):Rat)
  generalize Classical.choose (hc l)=x at hs ⊢
  rw [hs]
  have e:((-x:Int):Rat)=-((x:Int):Rat):=by push_cast;rfl
  rw [e]
  have h1:((1:Int):Rat)=1:=rfl
  rw [h1];grind
theorem aZ0 {f:Nat->Rat} {C:Nat}:∀n:Nat,(∀ j,j<n->rl (f j)<=C)->rl (f7 f n)<=n*(C+1)+1
 |0,_=>by have:=rl0;show rl 0<=_;omega
 |n+1,h=>by
  have ih:=aZ0 n fun j hj=>h j (by omega)
  have h1:=h n (by omega)
  have h2:=a4H (f7 f n) (f n)
  have e:(n+1)*(C+1)=n*(C+1)+(C+1):=by rw [Nat.add_mul,Nat.one_mul]
  show rl (f7 f n+f n)<=_
  omega
theorem b3A {k a:Nat} (v:Rat) (c:Nat->Rat):f7 (fun i=>(if a=i then v else 0)*c i) k=if a<k then v*c a else 0:=by
 by_cases h:a<k
 ·rw [if_pos h,a57 h]
 ·rw [if_neg h]
  exact u0 fun i hi=>by rw [if_neg (by omega)];grind
theorem b5Y {s:g4} {w k:Nat} (p:Rat) (c:Nat->Rat) {P C:Nat} (hp:rl p<=P) (hc:∀i,rl (c i)<=C):rl (f7 (fun i=>chg s w p i*c i) k)<=P+C+1:=by
 by_cases h:s.n.toNat<=w
 ·rw [e7 (g:=fun i=>(if (C3 s (w - s.n.toNat)).1=i then -(V4 (C3 s (w - s.n.toNat)).2 p) else 0)*c i) fun i hi=>by
   unfold chg
   by_cases h2:(C3 s (w - s.n.toNat)).1=i
   ·rw [if_pos ⟨h,h2⟩,if_pos h2]
   ·rw [if_neg (fun e=>h2 e.2),if_neg h2]]
  rw [b3A]
  split
  ·have h1:=a45 (-(V4 (C3 s (w - s.n.toNat)).2 p)) (c (C3 s (w - s.n.toNat)).1)
   have h2:=hc (C3 s (w - s.n.toNat)).1
   have h3:rl (-(V4 (C3 s (w - s.n.toNat)).2 p))<=P:=by
    rw [T5]
    cases (C3 s (w - s.n.toNat)).2 with
    |false=>exact hp
    |true=>show rl (-p)<=P;rw [T5];exact hp
   omega
  ·have:=rl0;omega
 ·rw [u0 fun i hi=>by unfold chg;rw [if_neg (fun e=>h e.1)];grind]
  have:=rl0;omega
theorem ag2 {s:g4} {g:List (Int × Rat)} {B C:Nat} (hI:∀w ∈ s.rows,af6 B w) (hg:D2 g) (c:Nat->Rat) (hc:∀i,rl (c i)<=C) (k:Nat):
 rl (f7 (fun i=>R6 s (y3 s g) i*c i) k)<=s.n.toNat*(2 ^ s.n.toNat*3+C+2)+1:=by
 have e:f7 (fun i=>R6 s (y3 s g) i*c i) k=f7 (fun j=>f7 (fun i=>chg s ((y3 s g).F j) (-((y3 s g).G j)) i*c i) k) s.n.toNat:=a7L (s:=s)
 rw [e]
 exact aZ0 _ fun j hj=>b5Y _ c (by rw [T5];exact b1V hI hg hj) hc
theorem b48 {s:g4} {g:List (Int × Rat)} {B:Nat} (hI:∀w ∈ s.rows,af6 B w) (hg:D2 g) (i:Nat):rl (R6 s (y3 s g) i)<=s.n.toNat*(2 ^ s.n.toNat*3+1)+1:=by
 refine aZ0 _ fun j hj=>?_
 have h:=b1V (g:=g) hI hg hj
 unfold chg
 split
 ·rw [T5]
  cases (C3 s ((y3 s g).F j - s.n.toNat)).2 with
  |false=>show rl (-((y3 s g).G j))<=_;rw [T5];exact h
  |true=>show rl (- -((y3 s g).G j))<=_;rw [T5,T5];exact h
 ·have:=rl0
  have h2:1<=2 ^ s.n.toNat:=Nat.one_le_two_pow
  omega
theorem b5o {l:List (Int × Rat)} (h:D2 l) (v:Nat):rl (x8 l v)<=1:=by
 obtain ⟨c,hc,hb⟩:=a1W h l.length v
 have e:x8 l v=((c:Int):Rat):=hc
 rw [e,a2K]
 have:=s9 (x:=1) (by decide) (by decide)
 omega
theorem b1N {s:g4} {B:Nat} (hI:∀w ∈ s.rows,af6 B w) (hB:1<=B) (i:Nat):D2 (y6 s i).terms∧rl (y6 s i).value<=B:=by
 by_cases h:i<s.rows.length
 ·have hx:s.rows[i]? =some s.rows[i]:=lbf h
  rw [O9 hx]
  exact hI _ (lbE _)
 ·have e:y6 s i=⟨[],2,0⟩:=by unfold y6;rw [lbl,lbd (by omega)];rfl
  rw [e]
  exact ⟨fun (t:Int × Rat) (ht:t ∈ [])=>by simp at ht,by have:=rl0;show rl 0<=B;omega⟩
theorem b6i {s:g4} {g:List (Int × Rat)} (c:Nat->Rat) (k:Nat):f7 (fun i=>yN (zOf s.rows.length (R6 s (y3 s g))) i*c i) k=f7 (fun i=>R6 s (y3 s g) i*(if i<s.rows.length then c i else 0)) k:=e7 fun i hi=>by
 by_cases h:i<s.rows.length
 ·rw [b6k h,if_pos h]
 ·have:yN (zOf s.rows.length (R6 s (y3 s g))) i=0:=by unfold yN;rw [lbl,lbd (by rw [U4];omega)];rfl
  rw [this,if_neg h];grind
theorem ac9:∀n,n<9->n*(2 ^ n*3+11+2)+1<=40000∧n*(2 ^ n*3+1)+1<=40000∧n*(2 ^ n*3+1+2)+1<=40000:=by decide
theorem b9Q {s:g4} {g:List (Int × Rat)} (hI:∀w ∈ s.rows,af6 11 w) (hg:D2 g) (hn:s.n.toNat<=8) (l k:Nat):rl (a6f s (yN (zOf s.rows.length (R6 s (y3 s g)))) l k)<=40000:=by
 obtain ⟨p1,p2,p3⟩:=ac9 s.n.toNat (by omega)
 unfold a6f
 rw [b6i]
 have:=ag2 hI hg (C:=1) (fun i=>if i<s.rows.length then x8 (y6 s i).terms l else 0) (fun i=>by
  split
  ·exact b5o (b1N hI (by decide) i).1 l
  ·exact rl0) k
 omega
theorem b93 {s:g4} {g:List (Int × Rat)} (hI:∀w ∈ s.rows,af6 11 w) (hg:D2 g) (hn:s.n.toNat<=8) (k:Nat):rl (a6g s (yN (zOf s.rows.length (R6 s (y3 s g)))) k)<=40000:=by
 obtain ⟨p1,p2,p3⟩:=ac9 s.n.toNat (by omega)
 unfold a6g
 rw [b6i]
 have:=ag2 hI hg (C:=11) (fun i=>if i<s.rows.length then (y6 s i).value else 0) (fun i=>by
  split
  ·exact (b1N hI (by decide) i).2
  ·have:=rl0;omega) k
 omega
theorem b5C {s:g4} {g:List (Int × Rat)} (hI:∀w ∈ s.rows,af6 11 w) (hg:D2 g) (hn:s.n.toNat<=8):∀v ∈ zOf s.rows.length (R6 s (y3 s g)),rl v<=40000:=by
 intro v hv
 obtain ⟨p1,p2,p3⟩:=ac9 s.n.toNat (by omega)
 obtain ⟨j,hj,rfl⟩:=a5F hv
 have:=b48 hI hg j
 omega
theorem b2K {s:g4} {g:List (Int × Rat)} (hI:∀w ∈ s.rows,af6 11 w) (hg:D2 g) (hn:s.n.toNat<=8) (hm:s.rows.length<=1000000):b4H s (zOf s.rows.length (R6 s (y3 s g))):=
 ⟨b5C hI hg hn,fun l k=>lbS (b9Q hI hg hn l k) (by decide),fun k=>lbS (b93 hI hg hn k) (by decide),U4,hm⟩
theorem bg9:rl ((-1:Int):Rat)<=1:=by rw [a2K];exact s9 (x:=-1) (by decide) (by decide)
theorem ba3 {s:g4} {x:List Rat} {B:Nat} (hr:j8 s=true) (hI:∀w ∈ s.rows,af6 11 w) (hB:B<=40000) (hn:s.n.toNat*(B+4)+1<=50000) (hl:x.length<=1000000) (hx:∀v ∈ x,rl v<=B):PtB s x:=by
 refine ⟨fun v hv=>lbS (hx v hv) hB,fun w hw k=>?_,hl⟩
 obtain ⟨i,hi,rfl⟩:=List.getElem_of_mem hw
 have hrt:=(a0l hr (lbf hi)).1
 have h1:=a6W (P9 (hI _ hw).1) hx k
 have h2:=C8 hrt
 have h3:s.rows[i].terms.length<=s.n.toNat:=by omega
 have h4:=lbU (B+4) h3
 omega
def a5P (e:Ev) (m k:Int):Bool:=decide (e.mats<=k) && decide (e.hhs<=6) && decide (e.scs<=6) && decide (e.places.length<=12) && decide ((e.moves.length:Int)<=m) && decide (e.certs.length<=10) && decide (e.recalls.length<=4) && decide (e.purities.length<=6)
theorem b4L (e:Ev) (m k:Int):a9 Tryz.prog 57 [evS e,a7 .i64 m,a7 .i64 k] [] (e8 (a5P e m k)) []:=by
 have m1:(e.places.map G5.row).length=e.places.length:=by simp
 have m2:(e.moves.map n9.row).length=e.moves.length:=by simp
 have m3:(e.certs.map J2.row).length=e.certs.length:=by simp
 have m4:(e.recalls.map C2.row).length=e.recalls.length:=by simp
 have m5:(e.purities.map a1f.row).length=e.purities.length:=by simp
 (refine ac Tryz.func57 ?_;(conv=>whnf);repeat ((first|refine b0x ?_|refine zy ?_);conv=>whnf))
 repeat' (first|refine zx ?_|refine zd ?_ ?_<;>intro h<;>try omega|fail)<;>conv=>whnf
 all_goals
  refine c7 ?_
  unfold a5P
  simp only [m1,m2,m3,m4,m5] at *
  first
   |(symm;simp only [lbN,lbI];omega)
   |(symm;rw [← lbQ];simp only [lbN,lbI];omega)
def a3E (t:d9) (m:Int):Bool:=a5P t.ev m 3 && decide (t.ev.hhs<=4) && decide (t.finds.length<=6) && decide (t.cleans.length<=6)
theorem b5P (t:d9) (m:Int):a9 Tryz.prog 15 [trS t,a7 .i64 m] [] (e8 (a3E t m)) []:=by
 have r:=b4L t.ev m 3
 have m1:(t.finds.map L0.row).length=t.finds.length:=by simp
 have m2:(t.cleans.map Q3.row).length=t.cleans.length:=by simp
 unfold a3E
 cases hq:a5P t.ev m 3<;>rw [hq] at r<;>
 ·(refine ac Tryz.func15 ?_;(conv=>whnf);repeat ((first|refine b0x ?_|refine zy ?_);conv=>whnf))
  repeat' (first|refine zx ?_|refine qp r ?_|refine zd ?_ ?_<;>intro h<;>try omega|fail)<;>conv=>whnf
  all_goals
   refine c7 ?_
   simp only [m1,m2] at *
   first
    |rfl
    |(symm;simp only [Bool.true_and,lbN,lbI];omega)
    |(symm;rw [← lbQ];simp only [lbN,lbI];omega)
theorem a6a {t:d9} {m:Int} (hm:m<=100) (h:a3E t m=true):t.Sized∧(t.ev.moves.length:Int)<=m∧t.ev.hhs<=4:=by
 unfold a3E a5P at h
 simp only [lbN,lbI] at h
 exact ⟨⟨⟨by omega,by omega,by omega,by omega,by omega⟩,by omega,by omega⟩,by omega,by omega⟩
theorem aE3 {f:Nat->Rat}:∀{n:Nat},0<f7 f n->∃j,j<n∧0<f j
 |0,h=>absurd (show (0:Rat)<0 from h) (by decide +kernel)
 |n+1,h=>by
  simp only [f7] at h
  by_cases h1:0<f n
  ·exact ⟨n,by omega,h1⟩
  ·obtain ⟨j,hj,hp⟩:=aE3 (f:=f) (n:=n) (by grind)
   exact ⟨j,by omega,hp⟩
def cnt (p:Nat->Bool):Nat->Nat
 |0=>0
 |k+1=>cnt p k+if p k then 1 else 0
def x7:List (Int × Rat)->List (Int × Rat)->List (Int × Rat)
 |[],b=>b
 |t::r,[]=>t::r
 |t::r,u::q=>if t.1<u.1 then t::x7 r (u::q) else if u.1<t.1 then u::x7 (t::r) q else if t.2+u.2=0 then x7 r q else (t.1,t.2+u.2)::x7 r q
termination_by a b=>a.length+b.length
theorem X8 {last n:Int} {t:Int × Rat} {r:List (Int × Rat)} (h1:last<t.1) (h2:t.1<n) (h3:t.2≠0) (h4:f9 t.1 n r=true):f9 last n (t::r)=true:=by
 unfold f9
 simp only [lbN,lbI]
 exact ⟨⟨⟨h1,h2⟩,h3⟩,h4⟩
theorem ad7 {n:Int}:∀(k:Nat) {last:Int} {a b:List (Int × Rat)},a.length+b.length<=k->-1<=last->f9 last n a=true->f9 last n b=true->
 f9 last n (x7 a b)=true∧∀v,x8 (x7 a b) v=x8 a v+x8 b v:=by
 intro k
 induction k with
 |zero=>
  intro last a b hk h0 ha hb
  have:a=[]:=List.length_eq_zero_iff.1 (by omega)
  have:b=[]:=List.length_eq_zero_iff.1 (by omega)
  subst a b
  rw [x7]
  exact ⟨rfl,fun v=>by show (0:Rat)=0+0;grind⟩
 |succ k ih=>
  intro last a b hk h0 ha hb
  match a,b with
  |[],b=>rw [x7];exact ⟨hb,fun v=>by show _=(0:Rat)+_;grind⟩
  |t::r,[]=>rw [x7];exact ⟨ha,fun v=>by show _=_+(0:Rat);grind⟩
  |t::r,u::q=>
   have mt:=E1 ha t (List.mem_cons_self ..)
   have mu:=E1 hb u (List.mem_cons_self ..)
   simp only [lbu] at hk
   rw [x7]
   by_cases h1:t.1<u.1
   ·rw [if_pos h1]
    have hb':f9 t.1 n (u::q)=true:=X8 h1 mu.2.1 mu.2.2 (a0G hb)
    obtain ⟨i1,i2⟩:=ih (last:=t.1) (a:=r) (b:=u::q) (by simp only [lbu];omega) (by omega) (a0G ha) hb'
    have hr:=X8 mt.1 mt.2.1 mt.2.2 i1
    refine ⟨hr,fun v=>?_⟩
    rw [T8 h0 hr,T8 h0 ha,i2]
    by_cases hv:v=t.1.toNat
    ·rw [if_pos hv,if_pos hv,ae6 (v:=v) (by omega) hb' (by omega)];grind
    ·rw [if_neg hv,if_neg hv]
   ·rw [if_neg h1]
    by_cases h2:u.1<t.1
    ·rw [if_pos h2]
     have ha':f9 u.1 n (t::r)=true:=X8 h2 mt.2.1 mt.2.2 (a0G ha)
     obtain ⟨i1,i2⟩:=ih (last:=u.1) (a:=t::r) (b:=q) (by simp only [lbu];omega) (by omega) ha' (a0G hb)
     have hr:=X8 mu.1 mu.2.1 mu.2.2 i1
     refine ⟨hr,fun v=>?_⟩
     rw [T8 h0 hr,T8 h0 hb,i2]
     by_cases hv:v=u.1.toNat
     ·rw [if_pos hv,if_pos hv,ae6 (v:=v) (by omega) ha' (by omega)];grind
     ·rw [if_neg hv,if_neg hv]
    ·rw [if_neg h2]
     have he:t.1=u.1:=by omega
     have hq':=a0G hb
     rw [← he] at hq'
     obtain ⟨i1,i2⟩:=ih (last:=t.1) (a:=r) (b:=q) (by omega) (by omega) (a0G ha) hq'
     by_cases h3:t.2+u.2=0
     ·rw [if_pos h3]
      refine ⟨aS5 (by omega) i1,fun v=>?_⟩
      rw [T8 h0 ha,T8 h0 hb,←he]
      by_cases hv:v=t.1.toNat
      ·rw [if_pos hv,if_pos hv,ae6 (v:=v) (by omega) i1 (by omega)];grind
      ·rw [if_neg hv,if_neg hv,i2]
     ·rw [if_neg h3]
      have hr:=X8 (t:=(t.1,t.2+u.2)) mt.1 mt.2.1 h3 i1
      refine ⟨hr,fun v=>?_⟩
      rw [T8 h0 hr,T8 h0 ha,T8 h0 hb,←he,i2]
      by_cases hv:v=t.1.toNat
      ·simp only [if_pos hv]
      ·simp only [if_neg hv]
theorem b5z {n:Nat} {a b:List (Int × Rat)} (ha:f9 (-1) (n:Int) a=true) (hb:f9 (-1) (n:Int) b=true) (z:List Rat):p4 (x7 a b) z=p4 a z+p4 b z:=by
 obtain ⟨h1,h2⟩:=ad7 (a.length+b.length) (lbR _) (Int.le_refl _) ha hb
 rw [O5 h1,O5 ha,O5 hb,←a0Q]
 exact e7 fun j hj=>by rw [h2];grind
def a0B (B:Nat) (l:List (Int × Rat)):Prop:=∀t ∈ l,∃c:Int,t.2=((c:Int):Rat)∧c.natAbs<=B
theorem aY0:∀(k:Nat) {A B:Nat} {a b:List (Int × Rat)},a.length+b.length<=k->a0B A a->a0B B b->a0B (A+B) (x7 a b):=by
 intro k
 have up:∀{X Y:Nat} {l:List (Int × Rat)},X<=Y->a0B X l->a0B Y l:=fun h hl t ht=>by
  obtain ⟨c,h1,h2⟩:=hl t ht;exact ⟨c,h1,by omega⟩
 have tl:∀{X:Nat} {t:Int × Rat} {l:List (Int × Rat)},a0B X (t::l)->a0B X l:=fun h u hu=>h u (List.mem_cons_of_mem _ hu)
 have cons:∀{X:Nat} {t:Int × Rat} {l:List (Int × Rat)},(∃ c:Int,t.2=((c:Int):Rat)∧c.natAbs<=X)->a0B X l->a0B X (t::l):=fun h hl u hu=>by
  rcases lbA.1 hu with rfl|hu
  ·exact h
  ·exact hl u hu
 induction k with
 |zero=>
  intro A B a b hk ha hb
  have:a=[]:=List.length_eq_zero_iff.1 (by omega)
  have:b=[]:=List.length_eq_zero_iff.1 (by omega)
  subst a b
  rw [x7]
  exact up (by omega) hb
 |succ k ih=>
  intro A B a b hk ha hb
  match a,b with
  |[],b=>rw [x7];exact up (by omega) hb
  |t::r,[]=>rw [x7];exact up (by omega) ha
  |t::r,u::q=>
   simp only [lbu] at hk
   obtain ⟨c,hc,hcb⟩:=ha t (List.mem_cons_self ..)
   obtain ⟨d,hd,hdb⟩:=hb u (List.mem_cons_self ..)
   rw [x7]
   split
   ·exact cons ⟨c,hc,by omega⟩ (ih (by simp only [lbu];omega) (tl ha) hb)
   ·split
    ·exact cons ⟨d,hd,by omega⟩ (ih (by simp only [lbu];omega) ha (tl hb))
    ·split
     ·exact ih (by omega) (tl ha) (tl hb)
     ·refine cons ⟨c+d,by show t.2+u.2=_;rw [hc,hd];push_cast;rfl,?_⟩ (ih (by omega) (tl ha) (tl hb))
      have:=Int.natAbs_add_le c d;omega
noncomputable def S2 (s:g4) (g:List (Int × Rat)):List Rat:=match a1d s (R8 g) with
 |.col c=>a00 (A6 s []) (a61 s (R8 g) c)
 |_=>A6 s (R8 g)
structure as8 (s:g4) (g:List (Int × Rat)):Prop where
 r:j8 s=true
 z:a1d s []=.best
 t:f9 (-1) ((s.n.toNat:Nat):Int) g=true
 p:∀z,o7 s z=true->0<=p4 g z
theorem as8.og {s:g4} {g:List (Int × Rat)} (h:as8 s g):f9 (-1) ((s.n.toNat:Nat):Int) (R8 g)=true:=Y5 h.t
theorem aa9 {s:g4} {g:List (Int × Rat)} (h:as8 s g):o7 s (S2 s g)=true∧((∃ z,o7 s z=true∧0<p4 g z)->0<p4 g (S2 s g)):=by
 have h0:=(a3o h.r rfl h.z).1
 unfold S2
 rcases aC2 (g:=R8 g) h.r h.z with ho|⟨c,ho⟩
 ·rw [ho]
  simp only
  obtain ⟨p1,p2⟩:=a3o h.r h.og ho
  refine ⟨p1,fun ⟨z,hz,hp⟩=>?_⟩
  have:=p2 z hz
  rw [a32 (s:=s) (g:=g),a32 (s:=s) (g:=g)] at this
  grind
 ·rw [ho]
  simp only
  obtain ⟨h1,h2⟩:=aB5 h.r h.og ho
  refine ⟨b3p h0 h1,fun _=>?_⟩
  have h3:=S5 h0
  have hn:=a0V h.r
  rw [a3s (n:=s.n.toNat) (by omega) h1.len h.t]
  rw [a32 (s:=s) (g:=g)] at h2
  have:=h.p _ h0
  grind
def M9 (gL:List (List (Int × Rat))) (out:List Bool):Nat->List (Int × Rat)
 |0=>[]
 |k+1=>if out.getD k false=true then M9 gL out k else x7 (M9 gL out k) (gL.getD k [])
noncomputable def a15 (s:g4) (gL:List (List (Int × Rat))) (out:List Bool):List Rat:=S2 s (M9 gL out gL.length)
def a27 (g:List (Int × Rat)) (x:List Rat):Bool:=decide (0<p4 g x)
noncomputable def aw8 (s:g4) (gL:List (List (Int × Rat))) (out:List Bool):List Bool:=(List.range gL.length).map fun i=>out.getD i false || a27 (gL.getD i []) (a15 s gL out)
noncomputable def v5 (s:g4) (gL:List (List (Int × Rat))):Nat->List Bool
 |0=>List.replicate gL.length false
 |k+1=>aw8 s gL (v5 s gL k)
noncomputable def a0a (s:g4) (gL:List (List (Int × Rat))):Nat->List Rat
 |0=>a15 s gL (v5 s gL 0)
 |k+1=>a00 (a0a s gL k) (a15 s gL (v5 s gL (k+1)))
theorem P5 (s:g4) (gL:List (List (Int × Rat))):∀k,(v5 s gL k).length=gL.length
 |0=>by simp [v5]
 |k+1=>by simp [v5,aw8]
theorem a2j {s:g4} {gL:List (List (Int × Rat))} {k i:Nat} (hi:i<gL.length):(v5 s gL (k+1)).getD i false=((v5 s gL k).getD i false || a27 (gL.getD i []) (a15 s gL (v5 s gL k))):=by
 show (aw8 s gL (v5 s gL k)).getD i false=_
 unfold aw8
 rw [lbl]
 simp [hi]
theorem a66 {a b:List Bool} (hl:a.length=b.length) (h:∀i,i<a.length->a.getD i false=b.getD i false):a=b:=by
 refine List.ext_getElem hl fun i h1 h2=>?_
 have:=h i h1
 rwa [lbl,lbl,lbf h1,lbf h2] at this
def ab9:List Bool->Nat
 |[]=>0
 |b::l=>(if b then 1 else 0)+ab9 l
theorem b2e:∀l:List Bool,ab9 l<=l.length
 |[]=>by simp [ab9]
 |b::l=>by
  have:=b2e l
  cases b<;>simp [ab9]<;>omega
theorem ay4:∀{a b:List Bool},a.length=b.length->(∀ i,a.getD i false=true->b.getD i false=true)->ab9 a<=ab9 b∧(a≠b->ab9 a<ab9 b)
 |[],[],_,_=>⟨lbR _,fun h=>absurd rfl h⟩
 |x::a,y::b,hl,h=>by
  have ih:=ay4 (a:=a) (b:=b) (by simpa using hl) (fun i hi=>by have:=h (i+1);simpa using this (by simpa using hi))
  have h0:=h 0
  simp only [List.getD_cons_zero] at h0
  refine ⟨?_,fun hne=>?_⟩
  ·cases x<;>cases y<;>simp [ab9] at * <;>omega
  ·cases x<;>cases y<;>simp [ab9] at * <;>first|omega|(have:=ih.2 hne;omega)
theorem b2M {s:g4} {gL:List (List (Int × Rat))} {k i:Nat} (h:(v5 s gL k).getD i false=true):(v5 s gL (k+1)).getD i false=true:=by
 by_cases hi:i<gL.length
 ·rw [a2j hi,h];rfl
 ·rw [lbl,lbd (by rw [P5];omega)] at h;cases h
theorem aI8 {s:g4} {gL:List (List (Int × Rat))}:∀k,(∀ j,j<k->v5 s gL (j+1)≠v5 s gL j)->k<=ab9 (v5 s gL k)
 |0,_=>Nat.zero_le _
 |k+1,h=>by
  have ih:=aI8 (s:=s) (gL:=gL) k fun j hj=>h j (by omega)
  have:=(ay4 (a:=v5 s gL k) (b:=v5 s gL (k+1)) (by rw [P5,P5]) fun i hi=>b2M hi).2 fun e=>h k (by omega) e.symm
  omega
theorem a58 {s:g4} {gL:List (List (Int × Rat))} {k:Nat} (h:∀j,j<k->v5 s gL (j+1)≠v5 s gL j):k<=gL.length:=by
 have h1:=aI8 k h
 have h2:=b2e (v5 s gL k)
 rw [P5] at h2;omega
def b4Q (s:g4) (gL:List (List (Int × Rat))) (k:Nat):Prop:=v5 s gL (k+1)=v5 s gL k∧∀j,j<k->v5 s gL (j+1)≠v5 s gL j
theorem b76 (s:g4) (gL:List (List (Int × Rat))):∃k,b4Q s gL k:=by
 by_cases h:∃k,v5 s gL (k+1)=v5 s gL k
 ·obtain ⟨k,hk,hmin⟩:=a2k (fun k=>v5 s gL (k+1)=v5 s gL k) h
  exact ⟨k,hk,fun j hj e=>by have:=hmin j e;omega⟩
 ·have:=a58 (s:=s) (gL:=gL) (k:=gL.length+1) fun j _ e=>h ⟨j,e⟩
  omega
noncomputable def a0X (s:g4) (gL:List (List (Int × Rat))):Nat:=Classical.epsilon fun k=>b4Q s gL k
theorem a5Q (s:g4) (gL:List (List (Int × Rat))):b4Q s gL (a0X s gL):=Classical.epsilon_spec (b76 s gL)
theorem b17 {s:g4} {gL:List (List (Int × Rat))} {k:Nat} (h1:v5 s gL (k+1)=v5 s gL k) (h2:∀j,j<k->v5 s gL (j+1)≠v5 s gL j):k=a0X s gL:=by
 obtain ⟨a,b⟩:=a5Q s gL
 rcases Nat.lt_trichotomy k (a0X s gL) with h|h|h
 ·exact absurd h1 (b k h)
 ·exact h
 ·exact absurd a (h2 _ h)
noncomputable def isF (s:g4) (gL:List (List (Int × Rat))):List Bool:=v5 s gL (a0X s gL)
noncomputable def ah3 (s:g4) (gL:List (List (Int × Rat))):List Rat:=(a0a s gL (a0X s gL)).map fun v=>v*Rat.divInt 1 ((a0X s gL+1:Nat):Int)
structure a20 (s:g4) (gL:List (List (Int × Rat))):Prop where
 r:j8 s=true
 z:a1d s []=.best
 g:∀g ∈ gL,f9 (-1) ((s.n.toNat:Nat):Int) g=true
 p:∀g ∈ gL,∀z,o7 s z=true->0<=p4 g z
theorem Q7 {gL:List (List (Int × Rat))} {k:Nat} (h:k<gL.length):gL.getD k [] ∈ gL:=by
 rw [lbl,lbf h];exact lbE h
theorem a0C {s:g4} {gL:List (List (Int × Rat))} (h:a20 s gL) (out:List Bool):∀k,k<=gL.length->f9 (-1) ((s.n.toNat:Nat):Int) (M9 gL out k)=true
 |0,_=>rfl
 |k+1,hk=>by
  have ih:=a0C h out k (by omega)
  unfold M9
  split
  ·exact ih
  ·exact (ad7 _ (lbR _) (Int.le_refl _) ih (h.g _ (Q7 (by omega)))).1
theorem a9L {s:g4} {gL:List (List (Int × Rat))} (h:a20 s gL) (out:List Bool) (z:List Rat):∀k,k<=gL.length->p4 (M9 gL out k) z=f7 (fun i=>if out.getD i false=true then 0 else p4 (gL.getD i []) z) k
 |0,_=>rfl
 |k+1,hk=>by
  have ih:=a9L h out z k (by omega)
  show _=f7 _ k+(if out.getD k false=true then 0 else p4 (gL.getD k []) z)
  unfold M9
  by_cases ho:out.getD k false=true
  ·rw [if_pos ho,if_pos ho,ih];grind
  ·rw [if_neg ho,if_neg ho,b5z (a0C h out k (by omega)) (h.g _ (Q7 (by omega))),ih]
theorem aJ9 {s:g4} {gL:List (List (Int × Rat))} (h:a20 s gL) (out:List Bool):as8 s (M9 gL out gL.length):=
 ⟨h.r,h.z,a0C h out _ (lbR _),fun z hz=>by
   rw [a9L h out z _ (lbR _)]
   exact a1Q fun i hi=>by
    split
    ·exact lb3
    ·exact h.p _ (Q7 hi) z hz⟩
theorem a70 {s:g4} {gL:List (List (Int × Rat))} (h:a20 s gL) (out:List Bool):o7 s (a15 s gL out)=true:=(aa9 (aJ9 h out)).1
theorem aI6 {s:g4} {gL:List (List (Int × Rat))} (h:a20 s gL) {i:Nat} (hi:i<gL.length):∀k,(v5 s gL k).getD i false=true->∃z,o7 s z=true∧0<p4 (gL.getD i []) z
 |0,ho=>by
  exfalso
  unfold v5 at ho
  rw [lbl] at ho
  simp [hi] at ho
 |k+1,ho=>by
  rw [a2j hi] at ho
  cases hk:(v5 s gL k).getD i false with
  |true=>exact aI6 h hi k hk
  |false=>
   rw [hk,Bool.false_or] at ho
   exact ⟨_,a70 h _,lbL ho⟩
theorem b5H {s:g4} {gL:List (List (Int × Rat))} (h:a20 s gL) {i:Nat} (hi:i<gL.length):(isF s gL).getD i false=true↔∃z,o7 s z=true∧0<p4 (gL.getD i []) z:=by
 constructor
 ·exact aI6 h hi _
 ·rintro ⟨z,hz,hp⟩
  cases ho:(isF s gL).getD i false with
  |true=>rfl
  |false=>
   exfalso
   have hl:=(a5Q s gL).1
   have ho':(v5 s gL (a0X s gL)).getD i false=false:=ho
   have hall:0<p4 (M9 gL (v5 s gL (a0X s gL)) gL.length) z:=by
    rw [a9L h _ z _ (lbR _)]
    refine b25 (s:=i) (fun j hj=>?_) hi ?_
    ·split
     ·exact lb3
     ·exact h.p _ (Q7 hj) z hz
    ·rw [ho',if_neg (by decide)];exact hp
   have hx:=(aa9 (aJ9 h (v5 s gL (a0X s gL)))).2 ⟨z,hz,hall⟩
   rw [a9L h _ _ _ (lbR _)] at hx
   obtain ⟨j,hj,hpj⟩:=aE3 hx
   cases hoj:(v5 s gL (a0X s gL)).getD j false with
   |true=>rw [hoj,if_pos rfl] at hpj;exact absurd hpj (by decide +kernel)
   |false=>
    rw [hoj,if_neg (by decide)] at hpj
    have h2:(v5 s gL (a0X s gL+1)).getD j false=true:=by
     rw [a2j hj,hoj,Bool.false_or]
     exact lbH hpj
    rw [hl,hoj] at h2;cases h2
structure a80 (s:g4) (c:Rat) (z:List Rat):Prop where
 r:j8 s=true
 l:(z.length:Int)=s.n
 p:∀v ∈ z,0<=v
 w:∀w ∈ s.rows,(w.kind≠1->c*w.value<=p4 w.terms z)∧(w.kind≠0->p4 w.terms z<=c*w.value)
theorem ai9 {s:g4} {z:List Rat} (h:o7 s z=true):a80 s 1 z:=by
 obtain ⟨h1,h2,h3,h4⟩:=a0u.1 h
 exact ⟨h1,h2,h3,fun w hw=>by
  obtain ⟨a,b⟩:=h4 w hw
  have e:(1:Rat)*w.value=w.value:=by grind
  rw [e];exact ⟨a,b⟩⟩
theorem b0h {s:g4} {c d:Rat} {x y:List Rat} (hx:a80 s c x) (hy:a80 s d y):a80 s (c+d) (a00 x y):=by
 have hn:=a0V hx.r
 have lx:x.length=s.n.toNat:=by have:=hx.l;omega
 have ly:y.length=s.n.toNat:=by have:=hy.l;omega
 have ll:=a2g lx ly
 refine ⟨hx.r,by omega,fun v hv=>?_,fun w hw=>?_⟩
 ·obtain ⟨j,hj,rfl⟩:=List.getElem_of_mem hv
  have e:=a5C lx ly (j:=j) (by omega)
  rw [lbl,lbf hj] at e
  have e:(a00 x y)[j]=x.getD j 0+y.getD j 0:=e
  rw [e]
  have h1:0<=x.getD j 0:=by rw [lbl,lbf (by omega)];exact hx.p _ (lbE _)
  have h2:0<=y.getD j 0:=by rw [lbl,lbf (by omega)];exact hy.p _ (lbE _)
  grind
 ·obtain ⟨i,hi,rfl⟩:=List.getElem_of_mem hw
  have hrt:=(a0l hx.r (lbf hi)).1
  rw [a3s lx ly hrt]
  obtain ⟨a1,a2⟩:=hx.w _ (lbE hi)
  obtain ⟨b1,b2⟩:=hy.w _ (lbE hi)
  have e:(c+d)*s.rows[i].value=c*s.rows[i].value+d*s.rows[i].value:=by grind
  rw [e]
  exact ⟨fun h=>by have:=a1 h;have:=b1 h;grind,fun h=>by have:=a2 h;have:=b2 h;grind⟩
theorem ae4 {n:Nat} {l:List (Int × Rat)} {x:List Rat} (k:Rat) (hl:x.length=n) (h:f9 (-1) (n:Int) l=true):p4 l (x.map fun v=>v*k)=k*p4 l x:=by
 rw [O5 h,O5 h,←C5]
 refine e7 fun j hj=>?_
 have:(x.map fun v=>v*k).getD j 0=x.getD j 0*k:=by
  rw [lbl,lba,lbl,lbf (by omega)];rfl
 rw [this];grind
theorem aD9 {s:g4} {c k:Rat} {x:List Rat} (hx:a80 s c x) (k0:0<=k) (h:k*c=1):o7 s (x.map fun v=>v*k)=true:=by
 have hn:=a0V hx.r
 have lx:x.length=s.n.toNat:=by have:=hx.l;omega
 refine a0u.2 ⟨hx.r,by simpa using hx.l,fun v hv=>?_,fun w hw=>?_⟩
 ·obtain ⟨u,hu,rfl⟩:=lbx.1 hv
  exact lb1 (hx.p u hu) k0
 ·obtain ⟨i,hi,rfl⟩:=List.getElem_of_mem hw
  have hrt:=(a0l hx.r (lbf hi)).1
  rw [ae4 k lx hrt]
  obtain ⟨a1,a2⟩:=hx.w _ (lbE hi)
  have e:s.rows[i].value=k*(c*s.rows[i].value):=by rw [← Rat.mul_assoc,h];grind
  refine ⟨fun h=>?_,fun h=>?_⟩
  ·have:=a17 (a1 h) k0;rw [← e] at this;exact this
  ·have:=a17 (a2 h) k0;rw [← e] at this;exact this
theorem sumX_holds {s:g4} {gL:List (List (Int × Rat))} (h:a20 s gL):∀k,a80 s ((k+1:Nat):Rat) (a0a s gL k)
 |0=>ai9 (a70 h _)
 |k+1=>by
  have:=b0h (sumX_holds h k) (ai9 (a70 h (v5 s gL (k+1))))
  have e:(((k+1+1:Nat)):Rat)=((k+1:Nat):Rat)+1:=by push_cast;rfl
  rw [e];exact this
theorem aK8 {s:g4} {gL:List (List (Int × Rat))} (h:a20 s gL) {i:Nat} (hi:i<gL.length):∀k,0<=p4 (gL.getD i []) (a0a s gL k)∧((v5 s gL (k+1)).getD i false=true->0<p4 (gL.getD i []) (a0a s gL k))
 |0=>by
  refine ⟨h.p _ (Q7 hi) _ (a70 h _),fun ho=>?_⟩
  rw [a2j hi] at ho
  have e:(v5 s gL 0).getD i false=false:=by
   show (List.replicate gL.length false).getD i false=false
   rw [lbl];simp [hi]
  rw [e,Bool.false_or] at ho
  exact lbL ho
 |k+1=>by
  obtain ⟨h1,h2⟩:=aK8 h hi k
  have hn:=a0V h.r
  have lx:(a0a s gL k).length=s.n.toNat:=by have:=(sumX_holds h k).l;omega
  have hf:=a70 h (v5 s gL (k+1))
  have ly:(a15 s gL (v5 s gL (k+1))).length=s.n.toNat:=by have:=(S5 hf).2;omega
  have e:p4 (gL.getD i []) (a0a s gL (k+1))=p4 (gL.getD i []) (a0a s gL k)+p4 (gL.getD i []) (a15 s gL (v5 s gL (k+1))):=a3s lx ly (h.g _ (Q7 hi))
  have h3:=h.p _ (Q7 hi) _ hf
  rw [e]
  refine ⟨by grind,fun ho=>?_⟩
  rw [a2j hi] at ho
  cases hk:(v5 s gL (k+1)).getD i false with
  |true=>have:=h2 hk;grind
  |false=>
   rw [hk,Bool.false_or] at ho
   have:=lbL ho
   grind
theorem b3x (k:Nat):0<=Rat.divInt 1 ((k+1:Nat):Int)∧Rat.divInt 1 ((k+1:Nat):Int)*((k+1:Nat):Rat)=1∧0<Rat.divInt 1 ((k+1:Nat):Int):=by
 have h0:((k+1:Nat):Rat)≠0:=by
  intro e
  have:((k+1:Nat):Rat)=((0:Nat):Rat):=e
  have:=Rat.natCast_inj.1 this
  omega
 have e:Rat.divInt 1 ((k+1:Nat):Int)=1 / ((k+1:Nat):Rat):=by rw [Rat.divInt_eq_div];rfl
 have e2:Rat.divInt 1 ((k+1:Nat):Int)*((k+1:Nat):Rat)=1:=by rw [e,Rat.div_def,Rat.mul_assoc,Rat.inv_mul_cancel _ h0];grind
 have hp:0<Rat.divInt 1 ((k+1:Nat):Int):=by
  rw [e,Rat.div_def]
  have:0<((k+1:Nat):Rat):=by
   have:((0:Nat):Rat)<((k+1:Nat):Rat):=by exact_mod_cast (show 0<k+1 by omega)
   exact this
  have:=Rat.inv_pos.2 this
  grind
 exact ⟨Rat.le_of_lt hp,e2,hp⟩
theorem b4a {s:g4} {gL:List (List (Int × Rat))} (h:a20 s gL):o7 s (ah3 s gL)=true∧∀i,i<gL.length->(isF s gL).getD i false=true->0<p4 (gL.getD i []) (ah3 s gL):=by
 obtain ⟨q1,q2,q3⟩:=b3x (a0X s gL)
 have hh:=sumX_holds h (a0X s gL)
 have hn:=a0V h.r
 have lx:(a0a s gL (a0X s gL)).length=s.n.toNat:=by have:=hh.l;omega
 refine ⟨aD9 hh q1 q2,fun i hi ho=>?_⟩
 have hp:=(aK8 h hi (a0X s gL)).2 (by rw [(a5Q s gL).1];exact ho)
 unfold ah3
 rw [ae4 _ lx (h.g _ (Q7 hi))]
 exact lb2 q3 hp
structure b6B where
 hh:Int
 state:Int
 w:List Fr
 wo:List Fr
 pr:List Fr
def b6B.row (v:b6B):List T:=[ti v.hh,ti v.state,D7 v.w,D7 v.wo,D7 v.pr]
def b6B.val (v:b6B):b9Z:=⟨v.hh,v.state,v.w.map fv,v.wo.map fv,v.pr.map fv⟩
def b0k (s:g4) (g:List (Int × Rat)) (y:List Fr):Bool:=(decide (y.length=s.rows.length) && y.all N5) && (a44 s g (y.map fv) && decide (a38 s (yN (y.map fv))=0))
def a1l (t:d9) (find:Int):Bool:=decide (v3 t=0) && decide (0<=find) && decide (find<t.finds.length)
theorem a9P (t:d9) (hs:t.Sized) (find:Int):a9 Tryz.prog 77 [trS t,a7 .i64 find] [] (e8 (a1l t find)) []:=by
 have ck:=ae1 t hs
 have m1:(t.finds.map L0.row).length=t.finds.length:=by simp
 unfold a1l
 by_cases h1:v3 t=0
 ·rw [lbH h1,Bool.true_and]
  (refine ac Tryz.func77 ?_;(conv=>whnf);repeat ((first|refine b0x ?_|refine zy ?_);conv=>whnf))
  repeat' (first|refine zx ?_|refine qp ck ?_|refine zd ?_ ?_<;>intro h<;>try omega|fail)<;>conv=>whnf
  all_goals first
   |omega
   |(refine c7 ?_;symm;simp only [lbN,lbI,lbP,lbK];omega)
 ·rw [lbJ h1,Bool.false_and,Bool.false_and]
  (refine ac Tryz.func77 ?_;(conv=>whnf);repeat ((first|refine b0x ?_|refine zy ?_);conv=>whnf))
  repeat' (first|refine zx ?_|refine qp ck ?_|refine zd ?_ ?_<;>intro h<;>try omega|fail)<;>conv=>whnf
  all_goals first
   |omega
   |exact c7 rfl
def a1V (e:Ev) (k:Nat):List Int:=(t7 e k).map fun i:Nat=>(i:Int)
theorem b3e (e:Ev) (k:Nat):(a1V e k).length=(t7 e k).length:=by simp [a1V]
theorem aV1 {e:Ev} {k:Nat} {m:n9} (h:e.moves[k]? =some m):a1V e (k+1)=if j9 e m.src=0 then a1V e k++[(k:Int)] else a1V e k:=by
 unfold a1V
 conv=>lhs;unfold t7
 rw [h]
 simp only
 split
 ·simp
 ·rfl
def X9 (e:Ev):List Int:=a1V e e.moves.length
theorem b1A (e:Ev) (hs:e.Sized) (h0:y8 e=0):a9 Tryz.prog 97 [evS e] [] (d6 (X9 e)) []:=by
 have m1:(e.moves.map n9.row).length=e.moves.length:=by simp
 have l1:=hs.s2
 unfold X9
 (refine ac Tryz.func97 ?_;(conv=>whnf);repeat ((first|refine b0x ?_|refine zy ?_);conv=>whnf))
 repeat' (first|refine zx ?_|refine zd ?_ ?_<;>intro h<;>try omega|fail)<;>conv=>whnf
 refine d8 c8 (fun k=>([J,S.c (C.t (T.ptr (evT e))),J,S.c (C.own 0 0 (a1V e k).length true),J,J,J,S.c (C.t (a1g e.moves)),a7 .i64 e.moves.length,a7 .i64 k]++Jn 18,[k8 (a1V e k)])) e.moves.length (fun _=>True) [none] trivial
  ⟨rfl,rfl,⟨⟨rfl,rfl⟩,trivial⟩,⟨rfl,⟨rfl,rfl,rfl⟩,rfl,b8 (by simp),rfl,trivial⟩⟩ ?_
 intro k hk _
 have ll:=A7 (e:=e) k
 have lA:(a1V e k).length<=(k8 (a1V e k)).rows.length:=by show _<=(toC _).length;simp [toC]
 have l2:=b3e e k
 by_cases hlt:k<e.moves.length
 ·obtain ⟨m,hm⟩:∃m,e.moves[k]? =some m:=⟨_,lbf hlt⟩
  have ms:=B6 (p8 h0 (lbm hm))
  obtain ⟨p,hp⟩:∃p,e.places[m.src.toNat]? =some p:=⟨_,lbf (by omega)⟩
  have hk0:j9 e m.src=p.kind:=by unfold j9;rw [hp];rfl
  rw [aV1 hm,hk0]
  by_cases hb:p.kind=0
  ·rw [if_pos hb]
   conv=>whnf
   repeat' (first|refine zx ?_|refine qp toC ?_|refine b9 hm ?_|refine v6 ms.1 hp ?_|refine o8 lA (by simp [toC];omega) ?_|refine zd ?_ ?_<;>intro h<;>try omega|fail)<;>conv=>whnf
   all_goals first
    |omega
    |(refine ⟨hlt,trivial,[some 2],rfl,rfl,⟨a8 (rows:=(a1V e k++[(k:Int)]).map c9) rfl rfl rfl ?_ rfl,trivial⟩,⟨rfl,⟨rfl,rfl,?_,fun h=>h⟩,rfl,rfl,b8 (by omega),trivial⟩⟩
      ·exact B9 (f:=c9) (x:=(k:Int)) rfl
      ·simp [toC])
  ·rw [if_neg hb]
   conv=>whnf
   repeat' (first|refine zx ?_|refine b9 hm ?_|refine v6 ms.1 hp ?_|refine zd ?_ ?_<;>intro h<;>try omega|fail)<;>conv=>whnf
   all_goals first
    |omega
    |exact ⟨hlt,trivial,[some 0],rfl,rfl,⟨a8 (rows:=(a1V e k).map c9) rfl rfl rfl rfl rfl,trivial⟩,⟨rfl,⟨rfl,rfl,rfl,fun h=>h⟩,rfl,rfl,b8 (by omega),trivial⟩⟩
 ·have hke:k=e.moves.length:=by omega
  subst hke
  conv=>whnf
  repeat' (first|refine zx ?_|refine zd ?_ ?_<;>intro h<;>try omega|fail)<;>conv=>whnf
  all_goals first
   |omega
   |exact I6 rfl (fun h=>h) rfl rfl (by simp)
theorem a8q (v c:Int) (h0:-9223372036854775808<=c) (h1:c<=9223372036854775807):a9 Tryz.prog 122 [a7 .i64 v,a7 .i64 c] [] (s7 [(v,((c:Int):Rat))]) []:=by
 have ic:=N4 c h0 h1
 (refine ac Tryz.func122 ?_;(conv=>whnf);repeat ((first|refine b0x ?_|refine zy ?_);conv=>whnf))
 repeat' (first|refine zx ?_|refine qp ic ?_|refine zd ?_ ?_<;>intro h<;>try omega|fail)<;>conv=>whnf
 all_goals first
  |exact k9 (show a9F [] _ _ _ from rfl)
def b84 (t:d9):List C:=[.t (ti t.ev.mats),.t (ti t.ev.hhs),.t (ti t.ev.scs),.t (a1p t.ev.places),.t (a1g t.ev.moves),.t (X7 t.ev.certs),.t (G2 t.ev.recalls),.t (a0F t.ev.purities),.t (.sl 0 .nil []),.t (a2t t.cleans)]
theorem b96 {w:World} {ι:Io} {M:Ms} {t:d9} {v:Value} (h:RS w ι M (.agg (b84 t)) v):RS w ι M (trS (v8 t)) v:=by
 cases h with
 |agg vs hl hr=>
  refine .agg vs hl fun j c hj=>?_
  by_cases h8:j=8
  ·subst h8
   injection hj with hj;subst hj
   have h9:=hr 8 _ rfl
   cases h9 with
   |t h9=>exact .t (h9.weak rfl)
  ·refine hr j c ?_
   rcases j with _|_|_|_|_|_|_|_|_|_|j
   all_goals first
    |exact hj
    |exact absurd rfl h8
theorem a9l {P:Program} {g:FuncId} {t:d9} {x:S} {H H':Hp} {r:S} (h:a9 P g [trS (v8 t),x] H r H'):a9 P g [.agg (b84 t),x] H r H':=by
 refine am4 h rfl fun w ι M j a b v hx hy hr=>?_
 rcases j with _|_|j
 ·injection hx with hx;injection hy with hy;subst hx hy;exact b96 hr
 ·injection hx with hx;injection hy with hy;subst hx hy;exact hr
 ·simp at hx
theorem b34 (t:d9) (kind:Int) (hs:t.Sized) (h1:v3 t=0) (k0:0<=kind) (k1:kind<8) (H:Hp):Z5 Tryz.prog 60 [.agg (b84 t),a7 .i64 kind] H (.tup [.agg [.t (ti t.ev.moves.length),.own H.length 0 (R5 (v8 t) kind).rows.length true],a7 .i64 0]) [L9 (R5 (v8 t) kind).rows]:=by
 have hc:¬(v3 (v8 t)≠0∨kind<0∨8<=kind):=by have:=a1z h1;omega
 have h:=a9l (b2V (v8 t) kind ⟨hs.ev,by simp [v8],hs.c⟩ hc)
 exact a6P (j:=1) h rfl rfl (c6 _) rfl rfl
def b0Q (l:List Nat) (i k:Nat):List D3:=M8 (l.take k) i
theorem b39 {l:List Nat} {i k j:Nat} (h:l[k]? =some j):b0Q l i (k+1)=if j≠i then b0Q l i k++[p9 j 2 ((0:Int):Rat)] else b0Q l i k:=by
 unfold b0Q M8
 have e:l.take (k+1)=l.take k++[j]:=by rw [lbG,h];rfl
 rw [e,lb8,lbC]
 by_cases hj:j≠i
 ·rw [if_pos hj];simp [hj]
 ·rw [if_neg hj];simp [hj]
def U9 (t:d9) (kind:Int) (i k:Nat):List D3:=(R5 (v8 t) kind).rows++b0Q (i9 t.ev) i k
theorem b0c {t:d9} {kind:Int} {i k:Nat} (hm:t.ev.moves.length<=14) (hc:t.cleans.length<=50):(U9 t kind i k).length<=750:=by
 unfold U9
 have hl:=S7 (t:=v8 t) (kind:=kind) t.ev.moves.length
 have hl2:t.ev.moves.length*(2+(v8 t).finds.length+(v8 t).cleans.length)<=14*52:=lbT hm (by show 2+0+t.cleans.length<=52;omega)
 have hl3:=a2y ((i9 t.ev).take k) i
 have hl4:=A7 (e:=t.ev) t.ev.moves.length
 have hl5:((i9 t.ev).take k).length<=(i9 t.ev).length:=by rw [lbs];omega
 have hl6:(i9 t.ev).length<=t.ev.moves.length:=hl4
 have hl7:(R5 (v8 t) kind).rows.length<=14*52:=lbS hl hl2
 rw [lbq]
 show _+(M8 ((i9 t.ev).take k) i).length<=750
 omega
theorem aX8 (t:d9) (kind:Int) (i:Nat):U9 t kind i (i9 t.ev).length=(t9 t kind i).rows:=by
 unfold U9 b0Q t9;rw [lbn (lbR _)]
theorem a6l {e:Ev} {k j:Nat} (h:(i9 e)[k]? =some j):(X9 e)[k]? =some (j:Int):=by
 unfold X9 a1V
 rw [lba]
 have:(t7 e e.moves.length)[k]? =some j:=h
 rw [this];rfl
theorem a6j (e:Ev):(X9 e).length=(i9 e).length:=by simp [X9,a1V,i9]
theorem b18 (t:d9) (hs:t.Sized) (h1:v3 t=0) (find:Int) (f:L0) (f0:0<=find) (hf:t.finds[find.toNat]? =some f) (i:Nat) (hm:t.ev.moves.length<=14):
 a9 Tryz.prog 99 [trS t,a7 .i64 find,a7 .i64 i,d6 (X9 t.ev)] [] (a3c (t9 t f.kind i)) []:=by
 obtain ⟨q1,q2,q3,q4,q5⟩:=o4 h1
 have hg:=F9 q4 f (lbm hf)
 have m1:((X9 t.ev).map c9).length=(i9 t.ev).length:=by rw [lbr,a6j]
 have sy:=fun H:Hp=>b34 t f.kind hs h1 (by omega) (by omega) H
 have i0:=N4 0 (by decide) (by decide)
 have ll:(i9 t.ev).length<=t.ev.moves.length:=A7 _
 have eK0:U9 t f.kind i 0=(R5 (v8 t) f.kind).rows:=by unfold U9 b0Q;rw [List.take_zero];simp [M8]
 (refine ac Tryz.func99 ?_;(conv=>whnf);repeat (refine zy ?_;conv=>whnf))
 repeat' (first|refine zx ?_|refine qp 5 ?_|refine v6 f0 hf ?_|refine .inl ⟨_,_,sy _,?_⟩|refine bl0 [5] ?_|refine zd ?_ ?_<;>intro h<;>try omega|fail)<;>conv=>whnf
 refine d8 c8 (fun k=>([J,J,a7 .i64 i,J,J,J,J,J,S.c (C.ptr 0 0 0),J,S.c (C.ptr 1 0 0)]++Jn 16++[d6 (X9 t.ev),a7 .i64 (i9 t.ev).length,a7 .i64 k]++Jn 17,[a22,a3k t.ev.moves.length 2 (U9 t f.kind i k).length,L9 (U9 t f.kind i k)])) (i9 t.ev).length (fun _=>True) [some 1,some 3,some 2] trivial
  ⟨rfl,rfl,⟨⟨rfl,rfl,rfl,.inr ⟨⟨rfl,rfl,trivial⟩,trivial⟩⟩,⟨rfl,rfl,rfl,.inr ⟨⟨rfl,⟨rfl,rfl,by rw [eK0],fun h=>h⟩,trivial⟩,trivial⟩⟩,a8 (rows:=(U9 t f.kind i 0).map y4) rfl rfl rfl (by rw [eK0]) rfl,trivial⟩,⟨rfl,⟨rfl,rfl,rfl⟩,⟨rfl,rfl,rfl⟩,rfl,b8 (by rw [m1]),rfl,trivial⟩⟩ ?_
 intro k hk _
 have lk:=b0c (t:=t) (kind:=f.kind) (i:=i) (k:=k) hm q3
 by_cases hlt:k<(i9 t.ev).length
 ·obtain ⟨j,hj⟩:∃j,(i9 t.ev)[k]? =some j:=⟨_,lbf hlt⟩
  have hji:=a6l hj
  have on:=a8q j 1 (by decide) (by decide)
  have eS:U9 t f.kind i (k+1)=if j≠i then U9 t f.kind i k++[p9 j 2 ((0:Int):Rat)] else U9 t f.kind i k:=by
   unfold U9
   rw [b39 hj]
   split
   ·rw [lbD]
   ·rfl
  rw [eS]
  have lA:(U9 t f.kind i k).length<=(L9 (U9 t f.kind i k)).rows.length:=by show _<=(toC _).length;simp [toC]
  by_cases hji2:j≠i
  ·rw [if_pos hji2]
   conv=>whnf
   repeat' (first|refine zx ?_|refine qp on ?_|refine qp i0 ?_|refine qp toC ?_|refine qp (0,1) ?_|refine b9 hji ?_|refine o8 lA (by simp [toC];omega) ?_|refine bl0 [0,1] ?_|refine zd ?_ ?_<;>intro h<;>try omega|fail)<;>conv=>whnf
   all_goals first
    |omega
    |(refine ⟨hlt,trivial,[some 0,some 1,some 3],rfl,rfl,⟨⟨rfl,rfl,rfl,.inr ⟨⟨rfl,rfl,trivial⟩,trivial⟩⟩,⟨rfl,rfl,rfl,.inr ⟨⟨rfl,⟨rfl,rfl,?_,fun h=>h⟩,trivial⟩,trivial⟩⟩,a8 (rows:=(U9 t f.kind i k++[p9 j 2 ((0:Int):Rat)]).map y4) rfl rfl rfl ?_ rfl,trivial⟩,⟨rfl,⟨rfl,rfl,rfl⟩,⟨rfl,rfl,rfl⟩,rfl,rfl,b8 (by omega),trivial⟩⟩
      ·simp [toC]
      ·exact B9 (f:=y4) (x:=p9 j 2 ((0:Int):Rat)) rfl)
  ·rw [if_neg hji2]
   conv=>whnf
   repeat' (first|refine zx ?_|refine qp on ?_|refine qp i0 ?_|refine b9 hji ?_|refine zd ?_ ?_<;>intro h<;>try omega|fail)<;>conv=>whnf
   all_goals first
    |omega
    |exact ⟨hlt,trivial,[some 0,some 1,some 2],rfl,rfl,⟨⟨rfl,rfl,rfl,.inr ⟨⟨rfl,rfl,trivial⟩,trivial⟩⟩,⟨rfl,rfl,rfl,.inr ⟨⟨rfl,⟨rfl,rfl,rfl,fun h=>h⟩,trivial⟩,trivial⟩⟩,d7 (c6 _),trivial⟩,⟨rfl,⟨rfl,rfl,rfl⟩,⟨rfl,rfl,rfl⟩,rfl,rfl,b8 (by omega),trivial⟩⟩
 ·have hke:k=(i9 t.ev).length:=by omega
  subst hke
  have e9:=aX8 t f.kind i
  conv=>whnf
  repeat' (first|refine zx ?_|refine zd ?_ ?_<;>intro h<;>try omega|fail)<;>conv=>whnf
  all_goals first
   |omega
   |(rw [e9];exact k9 ⟨rfl,show VC _ (fun id=>E4 [] id=true) _ _ from u4 rfl rfl (by intro h;cases h) rfl rfl (by rw [lbr]),trivial⟩)
def a9A (i:Nat):Rat:=if i % 2=0 then 1 else -1
theorem b2P (i:Nat):a9A (i+1)=-(a9A i):=by
 unfold a9A
 by_cases h:i % 2=0
 ·rw [if_pos h,if_neg (by omega)]
 ·rw [if_neg h,if_pos (by omega)];grind
def x5 (i:Nat) (M:Nat->Nat->Rat):Nat->Nat->Rat:=fun r c=>M (if r<i then r else r+1) (c+1)
def H3:Nat->(Nat->Nat->Rat)->Rat
 |0,_=>1
 |n+1,M=>f7 (fun i=>a9A i*M i 0*H3 n (x5 i M)) (n+1)
theorem N8 (n:Nat) (M:Nat->Nat->Rat):H3 (n+1) M=f7 (fun i=>a9A i*M i 0*H3 n (x5 i M)) (n+1):=rfl
theorem a2f:∀{n:Nat} {M N:Nat->Nat->Rat},(∀ i j,i<n->j<n->M i j=N i j)->H3 n M=H3 n N
 |0,_,_,_=>rfl
 |n+1,M,N,h=>by
  rw [N8,N8]
  refine e7 fun i hi=>?_
  rw [h i 0 hi (by omega),a2f (n:=n) (M:=x5 i M) (N:=x5 i N) fun r c hr hc=>?_]
  unfold x5
  split
  ·exact h _ _ (by omega) (by omega)
  ·exact h _ _ (by omega) (by omega)
def C4 (M:Nat->Nat->Rat) (r:Nat) (v:Nat->Rat):Nat->Nat->Rat:=fun i=>if i=r then v else M i
theorem a84 {M:Nat->Nat->Rat} {r:Nat}:C4 M r (M r)=M:=by
 funext i;unfold C4;by_cases h:i=r
 ·rw [if_pos h,h]
 ·rw [if_neg h]
theorem ab1 {M:Nat->Nat->Rat} {r:Nat} {v:Nat->Rat}:x5 r (C4 M r v)=x5 r M:=by
 funext a c;unfold x5 C4
 by_cases h:a<r
 ·rw [if_pos h,if_neg (by omega)]
 ·rw [if_neg h,if_neg (by omega)]
theorem aa8 {M:Nat->Nat->Rat} {i r:Nat} {v:Nat->Rat} (h:i<r):x5 i (C4 M r v)=C4 (x5 i M) (r - 1) (fun c=>v (c+1)):=by
 funext a c;unfold x5 C4
 by_cases ha:a<i
 ·simp only [if_pos ha]
  rw [if_neg (by omega),if_neg (by omega)]
 ·simp only [if_neg ha]
  by_cases h2:a+1=r
  ·rw [if_pos h2,if_pos (by omega)]
  ·rw [if_neg h2,if_neg (by omega)]
theorem ad2 {M:Nat->Nat->Rat} {i r:Nat} {v:Nat->Rat} (h:r<i):x5 i (C4 M r v)=C4 (x5 i M) r (fun c=>v (c+1)):=by
 funext a c;unfold x5 C4
 by_cases ha:a<i
 ·simp only [if_pos ha]
  by_cases h2:a=r
  ·rw [if_pos h2,if_pos h2]
  ·rw [if_neg h2,if_neg h2]
 ·simp only [if_neg ha]
  rw [if_neg (by omega),if_neg (by omega)]
theorem a5M:∀{n:Nat} {M:Nat->Nat->Rat} {r:Nat} {a b:Rat} {v w:Nat->Rat},r<n->H3 n (C4 M r fun c=>a*v c+b*w c)=a*H3 n (C4 M r v)+b*H3 n (C4 M r w)
 |0,_,_,_,_,_,_,h=>by omega
 |n+1,M,r,a,b,v,w,h=>by
  rw [N8,N8,N8,←C5,←C5,←a0Q]
  refine e7 fun i hi=>?_
  by_cases e:i=r
  ·subst e
   rw [ab1,ab1,ab1]
   unfold C4
   simp only [if_true]
   grind
  ·have e2:∀u:Nat->Rat,C4 M r u i 0=M i 0:=fun u=>by unfold C4;rw [if_neg e]
   rw [e2,e2,e2]
   by_cases h2:i<r
   ·rw [aa8 h2,aa8 h2,aa8 h2,a5M (n:=n) (M:=x5 i M) (r:=r - 1) (a:=a) (b:=b) (v:=fun c=>v (c+1)) (w:=fun c=>w (c+1)) (by omega)]
    grind
   ·rw [ad2 (by omega),ad2 (by omega),ad2 (by omega),a5M (n:=n) (M:=x5 i M) (r:=r) (a:=a) (b:=b) (v:=fun c=>v (c+1)) (w:=fun c=>w (c+1)) (by omega)]
    grind
theorem b29 {f:Nat->Rat} {r:Nat}:∀{n:Nat},r+1<n->(∀ i,i<n->i≠r->i≠r+1->f i=0)->f7 f n=f r+f (r+1)
 |0,h,_=>by omega
 |n+1,h,h0=>by
  show f7 f n+f n=_
  by_cases e:n=r+1
  ·subst e
   show f7 f r+f r+f (r+1)=_
   rw [u0 fun j hj=>h0 j (by omega) (by omega) (by omega)];grind
  ·rw [b29 (r:=r) (by omega) (fun i hi=>h0 i (by omega)),h0 n (by omega) (by omega) e];grind
theorem a5A:∀{n:Nat} {M:Nat->Nat->Rat} {r:Nat},r+1<n->M r=M (r+1)->H3 n M=0
 |0,_,_,h,_=>by omega
 |n+1,M,r,h,he=>by
  rw [N8,b29 h fun i hi h1 h2=>?_]
  ·have em:x5 r M=x5 (r+1) M:=by
    funext a c;unfold x5
    by_cases h1:a<r
    ·rw [if_pos h1,if_pos (by omega)]
    ·rw [if_neg h1]
     by_cases h2:a<r+1
     ·have:a=r:=by omega
      subst this
      rw [if_pos h2,he]
     ·rw [if_neg h2]
   rw [em,he,b2P];grind
  ·by_cases hlt:i<r
   ·rw [a5A (n:=n) (M:=x5 i M) (r:=r - 1) (by omega) (by
     funext c;unfold x5
     rw [if_neg (by omega),if_neg (by omega),show r - 1+1=r by omega,he])]
    grind
   ·rw [a5A (n:=n) (M:=x5 i M) (r:=r) (by omega) (by
     funext c;unfold x5
     rw [if_pos (by omega),if_pos (by omega),he])]
    grind
theorem a5s {M:Nat->Nat->Rat} {r s:Nat} {v w:Nat->Rat} (h:r≠s):C4 (C4 M r v) s w=C4 (C4 M s w) r v:=by
 funext i;unfold C4
 by_cases h1:i=r
 ·subst h1;rw [if_neg h,if_pos rfl,if_pos rfl]
 ·rw [if_neg h1]
  by_cases h2:i=s
  ·simp only [if_pos h2,if_neg h1]
  ·simp only [if_neg h2,if_neg h1]
theorem a0T {M:Nat->Nat->Rat} {r:Nat} {v:Nat->Rat}:C4 M r v r=v:=by unfold C4;rw [if_pos rfl]
theorem a09 {M:Nat->Nat->Rat} {r i:Nat} {v:Nat->Rat} (h:i≠r):C4 M r v i=M i:=by unfold C4;rw [if_neg h]
theorem aD7 {n:Nat} {M:Nat->Nat->Rat} {r:Nat} (v w:Nat->Rat) (h:r<n):H3 n (C4 M r fun c=>v c+w c)=H3 n (C4 M r v)+H3 n (C4 M r w):=by
 have:=a5M (M:=M) (a:=1) (b:=1) (v:=v) (w:=w) h
 have e:(fun c=>(1:Rat)*v c+1*w c)=fun c=>v c+w c:=by funext c;grind
 rw [e] at this;grind
theorem b69 {n:Nat} {M:Nat->Nat->Rat} {r:Nat} (h:r+1<n) (v w:Nat->Rat):H3 n (C4 (C4 M r v) (r+1) w)=-(H3 n (C4 (C4 M r w) (r+1) v)):=by
 have key:H3 n (C4 (C4 M r fun c=>v c+w c) (r+1) fun c=>v c+w c)=0:=a5A h (by rw [a0T,a09 (by omega),a0T])
 rw [aD7 v w h,a5s (show r≠r+1 by omega),a5s (show r≠r+1 by omega),aD7 v w (by omega),aD7 v w (by omega)] at key
 have z1:H3 n (C4 (C4 M (r+1) v) r v)=0:=a5A h (by rw [a0T,a09 (by omega),a0T])
 have z2:H3 n (C4 (C4 M (r+1) w) r w)=0:=a5A h (by rw [a0T,a09 (by omega),a0T])
 rw [z1,z2] at key
 rw [a5s (show r≠r+1 by omega),a5s (show r≠r+1 by omega)]
 grind
theorem aU9:∀(d:Nat) {n:Nat} {M:Nat->Nat->Rat} {r s:Nat},s=r+1+d->s<n->M r=M s->H3 n M=0
 |0,n,M,r,s,hs,hn,he=>by subst hs;exact a5A hn he
 |d+1,n,M,r,s,hs,hn,he=>by
  obtain ⟨q,rfl⟩:∃q,s=q+1:=⟨s - 1,by omega⟩
  have e1:M=C4 (C4 M q (M q)) (q+1) (M (q+1)):=by rw [a84,a84]
  rw [e1,b69 hn]
  have:=aU9 d (n:=n) (M:=C4 (C4 M q (M (q+1))) (q+1) (M q)) (r:=r) (s:=q) (by omega) (by omega) (by
   rw [a09 (by omega),a09 (by omega),a09 (by omega),a0T,he])
  rw [this];grind
theorem b51 {n:Nat} {M:Nat->Nat->Rat} {r s:Nat} (hr:r<n) (hs:s<n) (h:r≠s) (he:M r=M s):H3 n M=0:=by
 by_cases hlt:r<s
 ·exact aU9 (s - r - 1) (by omega) hs he
 ·exact aU9 (r - s - 1) (r:=s) (s:=r) (by omega) hr he.symm
theorem b24 {n:Nat} {M:Nat->Nat->Rat} {r:Nat} (hr:r<n) (c:Nat->Rat) (v:Nat->Nat->Rat):∀k,H3 n (C4 M r fun l=>f7 (fun i=>c i*v i l) k)=f7 (fun i=>c i*H3 n (C4 M r (v i))) k
 |0=>by
  have:=a5M (M:=M) (a:=0) (b:=0) (v:=fun _=>0) (w:=fun _=>0) hr
  have e:(fun l:Nat=>f7 (fun i=>c i*v i l) 0)=fun _=>(0:Rat)*0+0*0:=by funext l;show (0:Rat)=_;grind
  rw [e,this];show _=(0:Rat);grind
 |k+1=>by
  have ih:=b24 (M:=M) hr c v k
  have:=a5M (M:=M) (a:=1) (b:=c k) (v:=fun l=>f7 (fun i=>c i*v i l) k) (w:=v k) hr
  have e:(fun l=>f7 (fun i=>c i*v i l) (k+1))=fun l=>(1:Rat)*f7 (fun i=>c i*v i l) k+c k*v k l:=by funext l;show f7 _ k+_=_;grind
  rw [e,this,ih];show _=f7 _ k+_;grind
theorem ad3 {n:Nat} {M:Nat->Nat->Rat} {c:Nat->Rat} {u:Nat->Rat} (hu:∀l,l<n->u l=f7 (fun k=>c k*M k l) n) {j:Nat} (hj:j<n):H3 n (C4 M j u)=c j*H3 n M:=by
 have e:H3 n (C4 M j u)=H3 n (C4 M j fun l=>f7 (fun k=>c k*M k l) n):=a2f fun a b ha hb=>by
  unfold C4
  split
  ·exact hu b hb
  ·rfl
 rw [e,b24 hj,A9 hj,a84,u0 fun k hk=>?_]
 ·grind
 ·by_cases h:k=j
  ·rw [if_pos h]
  ·rw [if_neg h,b51 (r:=k) (s:=j) hk hj h (by rw [a09 h,a0T])];grind
theorem b0j (i:Nat):∃z:Int,a9A i=((z:Int):Rat)∧z.natAbs=1:=by
 unfold a9A
 split
 ·exact ⟨1,rfl,rfl⟩
 ·exact ⟨-1,rfl,rfl⟩
def a7x:Nat->(Nat->Nat)->Nat
 |0,_=>1
 |n+1,B=>(n+1)*(B 0*a7x n fun c=>B (c+1))
theorem aM5 {f:Nat->Rat} {B:Nat}:∀{n:Nat},(∀ i,i<n->∃z:Int,f i=((z:Int):Rat)∧z.natAbs<=B)->∃z:Int,f7 f n=((z:Int):Rat)∧z.natAbs<=n*B
 |0,_=>⟨0,rfl,by simp⟩
 |n+1,h=>by
  obtain ⟨a,ha,ha2⟩:=aM5 (n:=n) fun i hi=>h i (by omega)
  obtain ⟨b,hb,hb2⟩:=h n (by omega)
  refine ⟨a+b,by show f7 f n+f n=_;rw [ha,hb];push_cast;rfl,?_⟩
  have:=Int.natAbs_add_le a b
  rw [lbV];omega
theorem a5x:∀{n:Nat} {M:Nat->Nat->Rat} {B:Nat->Nat},(∀ i j,i<n->j<n->∃z:Int,M i j=((z:Int):Rat)∧z.natAbs<=B j)->∃z:Int,H3 n M=((z:Int):Rat)∧z.natAbs<=a7x n B
 |0,_,_,_=>⟨1,rfl,by simp [a7x]⟩
 |n+1,M,B,h=>by
  rw [N8]
  refine aM5 fun i hi=>?_
  obtain ⟨a,ha,ha2⟩:=b0j i
  obtain ⟨b,hb,hb2⟩:=h i 0 hi (by omega)
  obtain ⟨c,hc,hc2⟩:=a5x (n:=n) (M:=x5 i M) (B:=fun c=>B (c+1)) fun r c hr hc=>by
   unfold x5
   split
   ·exact h _ _ (by omega) (by omega)
   ·exact h _ _ (by omega) (by omega)
  refine ⟨a*b*c,by rw [ha,hb,hc];push_cast;rfl,?_⟩
  rw [Int.natAbs_mul,Int.natAbs_mul,ha2,Nat.one_mul]
  exact lbT hb2 hc2
theorem a1L {f:Nat->Rat}:∀n:Nat,f7 f (n+1)=f 0+f7 (fun l=>f (l+1)) n
 |0=>by simp only [f7];grind
 |n+1=>by
  have ih:=a1L (f:=f) n
  have e:f7 f (n+1+1)=f7 f (n+1)+f (n+1):=rfl
  rw [e,ih]
  simp only [f7];grind
def a4A:Nat->Nat->Rat:=fun i j=>if i=j then 1 else 0
theorem b2f:∀n,H3 n a4A=1
 |0=>rfl
 |n+1=>by
  rw [N8,a1L (f:=fun i=>a9A i*a4A i 0*H3 n (x5 i a4A)),u0 fun i hi=>?_]
  ·have e:x5 0 a4A=a4A:=by
    funext a c;unfold x5 a4A
    simp
   rw [e,b2f n]
   have:a9A 0=1:=rfl
   have h2:a4A 0 0=1:=rfl
   rw [this,h2];grind
  ·have:a4A (i+1) 0=0:=by unfold a4A;rw [if_neg (by omega)]
   rw [this];grind
section
def uV (n:Nat) (D0:Fd) (w:Nat):Nat->Rat
 |0=>if w<n then 0 else D0.V (w - n)
 |l+1=>if w<n then (if w=l then 1 else 0) else -(D0.A (w - n) l)
def uG (g0:Nat->Rat):Nat->Rat
 |0=>0
 |l+1=>g0 l
structure a1O (m n:Nat) (D:Fd):Prop where
 o:∀i,i<m->D.O i=n+i
 f:∀j,j<n->D.F j=j
def muF (n:Nat) (D0 D:Fd):Nat->Nat->Rat
 |0=>a4A 0
 |j+1=>uV n D0 (D.F j)
theorem b3L {m n:Nat} {D0:Fd} (h0:a1O m n D0) (l:Nat) (hl:l<n+1):Ids m n D0 (fun w=>uV n D0 w l) (a4A 0 l):=by
 intro i hi
 rw [h0.o i hi]
 rw [e7 (g:=fun j=>D0.A i j*uV n D0 j l) fun j hj=>by rw [h0.f j hj]]
 cases l with
 |zero=>
  rw [u0 fun j hj=>by show D0.A i j*(if j<n then (0:Rat) else _)=0;rw [if_pos hj];grind]
  show (if n+i<n then (0:Rat) else D0.V (n+i - n))=a4A 0 0*D0.V i - 0
  rw [if_neg (by omega),show n+i - n=i by omega]
  have:a4A 0 0=1:=rfl
  rw [this];grind
 |succ l=>
  rw [e7 (g:=fun j=>if j=l then D0.A i l else 0) fun j hj=>by
   show D0.A i j*(if j<n then (if j=l then (1:Rat) else 0) else _)=_
   rw [if_pos hj]
   by_cases h:j=l
   ·subst h;rw [if_pos rfl,if_pos rfl];grind
   ·rw [if_neg h,if_neg h];grind]
  rw [A9 (s:=l) (by omega),if_pos rfl,u0 fun j hj=>by
   by_cases h:j=l
   ·rw [if_pos h]
   ·rw [if_neg h,if_neg h]]
  show (if n+i<n then _ else -(D0.A (n+i - n) l))=a4A 0 (l+1)*D0.V i - _
  rw [if_neg (by omega),show n+i - n=i by omega]
  have:a4A 0 (l+1)=0:=rfl
  rw [this];grind
section
variable {m n:Nat} {D0 D:Fd}
def coV (D:Fd) (i:Nat):Nat->Rat
 |0=>D.V i
 |j+1=>-(D.A i j)
def coG (z:Rat) (D:Fd):Nat->Rat
 |0=>z
 |j+1=>D.G j
theorem b1U (h0:a1O m n D0) (hI:∀y c,Ids m n D0 y c↔Ids m n D y c) {i:Nat} (hi:i<m):∀l,l<n+1->uV n D0 (D.O i) l=f7 (fun k=>coV D i k*muF n D0 D k l) (n+1):=by
 intro l hl
 have h:=(hI _ _).1 (b3L h0 l hl) i hi
 rw [h,a1L]
 show _=D.V i*a4A 0 l+f7 (fun j=>-(D.A i j)*uV n D0 (D.F j) l) n
 rw [e7 (f:=fun j=>-(D.A i j)*uV n D0 (D.F j) l) (g:=fun j=>(-1:Rat)*(D.A i j*uV n D0 (D.F j) l)) fun j hj=>by grind,C5]
 grind
theorem b7W (h0:a1O m n D0) (hI:∀y c,Ids m n D0 y c↔Ids m n D y c) {g0:Nat->Rat} {z:Rat} (hg:X3 n D g0 m z):∀l,l<n+1->uG g0 l=f7 (fun k=>coG z D k*muF n D0 D k l) (n+1):=by
 intro l hl
 have h:=hg _ _ ((hI _ _).1 (b3L h0 l hl))
 rw [a1L]
 show _=z*a4A 0 l+f7 (fun j=>D.G j*uV n D0 (D.F j) l) n
 have e:f7 (fun j=>g0 j*uV n D0 j l) n=uG g0 l:=by
  cases l with
  |zero=>rw [u0 fun j hj=>by show g0 j*(if j<n then (0:Rat) else _)=0;rw [if_pos hj];grind];rfl
  |succ l=>
   rw [e7 (g:=fun j=>if j=l then g0 l else 0) fun j hj=>by
    show g0 j*(if j<n then (if j=l then (1:Rat) else 0) else _)=_
    rw [if_pos hj]
    by_cases h:j=l
    ·subst h;rw [if_pos rfl,if_pos rfl];grind
    ·rw [if_neg h,if_neg h];grind]
   rw [A9 (s:=l) (by omega),if_pos rfl,u0 fun j hj=>by
    by_cases h:j=l
    ·rw [if_pos h]
    ·rw [if_neg h,if_neg h]]
   show _=g0 l
   grind
 rw [← e,h]
 grind
theorem bh7 (h0:a1O m n D0) (hI:∀y c,Ids m n D0 y c↔Ids m n D y c) {i:Nat} (hi:i<m):H3 (n+1) (C4 (muF n D0 D) 0 (uV n D0 (D.O i)))=D.V i*H3 (n+1) (muF n D0 D):=ad3 (b1U h0 hI hi) (j:=0) (by omega)
theorem b8C (h0:a1O m n D0) (hI:∀y c,Ids m n D0 y c↔Ids m n D y c) {i j:Nat} (hi:i<m) (hj:j<n):H3 (n+1) (C4 (muF n D0 D) (j+1) (uV n D0 (D.O i)))=-(D.A i j)*H3 (n+1) (muF n D0 D):=ad3 (b1U h0 hI hi) (j:=j+1) (by omega)
theorem bi5 (h0:a1O m n D0) (hI:∀y c,Ids m n D0 y c↔Ids m n D y c) {g0:Nat->Rat} {z:Rat} (hg:X3 n D g0 m z) {j:Nat} (hj:j<n):H3 (n+1) (C4 (muF n D0 D) (j+1) (uG g0))=D.G j*H3 (n+1) (muF n D0 D):=ad3 (b7W h0 hI hg) (j:=j+1) (by omega)
theorem b3u (h0:a1O m n D0):H3 (n+1) (muF n D0 D0)=1:=by
 rw [← b2f (n+1)]
 refine a2f fun i j hi hj=>?_
 cases i with
 |zero=>rfl
 |succ i=>
  show uV n D0 (D0.F i) j=_
  rw [h0.f i (by omega)]
  cases j with
  |zero=>show (if i<n then (0:Rat) else _)=_;rw [if_pos (by omega)];rfl
  |succ j=>
   show (if i<n then (if i=j then (1:Rat) else 0) else _)=_
   rw [if_pos (by omega)]
   unfold a4A
   by_cases h:i=j
   ·rw [if_pos h,if_pos (by omega)]
   ·rw [if_neg h,if_neg (by omega)]
theorem b5A (h0:a1O m n D0) (hI:∀y c,Ids m n D0 y c↔Ids m n D y c) {r s:Nat} (hr:r<m) (hs:s<n):H3 (n+1) (muF n D0 (D.exch r s))=-(D.A r s)*H3 (n+1) (muF n D0 D):=by
 rw [← b8C h0 hI hr hs]
 refine a2f fun i j hi hj=>?_
 cases i with
 |zero=>rfl
 |succ i=>
  show uV n D0 ((D.exch r s).F i) j=C4 (muF n D0 D) (s+1) (uV n D0 (D.O r)) (i+1) j
  rw [a2l]
  by_cases h:i=s
  ·subst h;rw [if_pos rfl,a0T]
  ·rw [if_neg h,a09 (by omega)];rfl
end
theorem b5v {m n:Nat} {D0:Fd} {g0:Nat->Rat} (h0:a1O m n D0) (hv:a6E m n D0 g0 D0):∀{k:Nat} {D:Fd},itS m n k D0=some D->H3 (n+1) (muF n D0 D)≠0
 |0,D,h=>by injection h with h;subst h;rw [b3u h0];decide
 |k+1,D,h=>by
  rw [a02] at h
  cases hk:itS m n k D0 with
  |none=>rw [hk] at h;cases h
  |some D1=>
   rw [hk] at h
   have h:E8 m n D1=some D:=h
   obtain ⟨r,s,hs,rfl⟩:=a6H h
   obtain ⟨h1,h2,h3⟩:=a5T hs
   have hp:=a7D h3
   rw [b5A h0 (a31 hv hk).i h1 h2]
   intro e
   rcases Rat.mul_eq_zero.1 e with e|e
   ·exact hp (by grind)
   ·exact b5v h0 hv hk e
def b70 (K:Rat) (M:Nat->Nat->Rat):Nat->Nat->Rat:=fun i j=>if j=0 then K*M i 0 else M i j
theorem b8i (n:Nat) (K:Rat) (M:Nat->Nat->Rat):H3 (n+1) (b70 K M)=K*H3 (n+1) M:=by
 rw [N8,N8,←C5]
 refine e7 fun i hi=>?_
 have e:x5 i (b70 K M)=x5 i M:=by
  funext a c;unfold x5 b70;rw [if_neg (by omega)]
 rw [e]
 show a9A i*(if (0:Nat)=0 then K*M i 0 else _)*_=_
 rw [if_pos rfl];grind
theorem aE5 {n:Nat} {M:Nat->Nat->Rat} {r:Nat} (hr:r<n) (h:∀c,c<n->M r c=0):H3 n M=0:=by
 have e:H3 n M=H3 n (C4 M r fun c=>(0:Rat)*0+0*0):=a2f fun i j hi hj=>by
  unfold C4
  by_cases hir:i=r
  ·subst hir;rw [if_pos rfl,h j hj];grind
  ·rw [if_neg hir]
 rw [e,a5M (v:=fun _=>0) (w:=fun _=>0) hr];grind
theorem b23 {n:Nat} {M:Nat->Nat->Rat} (h1:M 0 0=1) (h0:∀c,c<n->M 0 (c+1)=0):H3 (n+1) M=H3 n (x5 0 M):=by
 rw [N8,a1L (f:=fun i=>a9A i*M i 0*H3 n (x5 i M)),u0 fun i hi=>?_]
 ·have:a9A 0=1:=rfl
  rw [this,h1];grind
 ·rw [aE5 (n:=n) (M:=x5 (i+1) M) (r:=0) (by omega) fun c hc=>by
   unfold x5;rw [if_pos (by omega)];exact h0 c hc]
  grind
structure aU6 (m n K BV BA BG:Nat) (D0:Fd) (g0:Nat->Rat):Prop where
 k:0<K
 v:∀i,i<m->∃z:Int,(K:Rat)*D0.V i=((z:Int):Rat)∧z.natAbs<=BV
 a:∀i j,i<m->j<n->∃z:Int,D0.A i j=((z:Int):Rat)∧z.natAbs<=BA
 g:∀j,j<n->∃z:Int,g0 j=((z:Int):Rat)∧z.natAbs<=BG
 a1:1<=BA
 ag:BA<=BG
theorem aG4 {m n K BV BA BG:Nat} {D0:Fd} {g0:Nat->Rat} (h:aU6 m n K BV BA BG D0 g0) {w l:Nat} (hw:w<n+m) (hl:l<n):∃z:Int,uV n D0 w (l+1)=((z:Int):Rat)∧z.natAbs<=BA:=by
 have:=h.a1
 show ∃z:Int,(if w<n then (if w=l then (1:Rat) else 0) else -(D0.A (w - n) l))=_∧_
 by_cases h1:w<n
 ·rw [if_pos h1]
  by_cases h2:w=l
  ·rw [if_pos h2];exact ⟨1,rfl,by simpa using this⟩
  ·rw [if_neg h2];exact ⟨0,rfl,by simp⟩
 ·rw [if_neg h1]
  obtain ⟨z,hz,hb⟩:=h.a (w - n) l (by omega) hl
  exact ⟨-z,by rw [hz];push_cast;rfl,by rw [Int.natAbs_neg];exact hb⟩
theorem b7h {m n K BV BA BG:Nat} {D0:Fd} {g0:Nat->Rat} (h:aU6 m n K BV BA BG D0 g0) {w:Nat} (hw:w<n+m):∃z:Int,(K:Rat)*uV n D0 w 0=((z:Int):Rat)∧z.natAbs<=BV:=by
 show ∃z:Int,(K:Rat)*(if w<n then (0:Rat) else D0.V (w - n))=_∧_
 by_cases h1:w<n
 ·rw [if_pos h1];exact ⟨0,by show _=(0:Rat);grind,by simp⟩
 ·rw [if_neg h1];exact h.v _ (by omega)
theorem b7U {m n K BV BA BG:Nat} {D0 D:Fd} {g0:Nat->Rat} (h:aU6 m n K BV BA BG D0 g0) (hf:∀j,j<n->D.F j<n+m):∃z:Int,H3 (n+1) (muF n D0 D)=((z:Int):Rat)∧z.natAbs<=a7x n fun _=>BA:=by
 rw [b23 (M:=muF n D0 D) rfl fun c hc=>rfl]
 refine a5x fun i j hi hj=>?_
 unfold x5
 rw [if_neg (by omega)]
 exact aG4 h (hf i hi) hj
theorem aN9 {m n K BV BA BG:Nat} {D0 D:Fd} {g0:Nat->Rat} (h:aU6 m n K BV BA BG D0 g0) (hf:∀j,j<n->D.F j<n+m) {B:Nat} {u:Nat->Rat} (hB:BA<=B) (hu:∀l,l<n->∃z:Int,u (l+1)=((z:Int):Rat)∧z.natAbs<=B) (j:Nat):∃z:Int,H3 (n+1) (C4 (muF n D0 D) (j+1) u)=((z:Int):Rat)∧z.natAbs<=a7x n fun _=>B:=by
 rw [b23 (M:=C4 (muF n D0 D) (j+1) u) (by rw [a09 (by omega)];rfl) fun c hc=>by rw [a09 (by omega)];rfl]
 refine a5x fun i k hi hk=>?_
 have em:x5 0 (C4 (muF n D0 D) (j+1) u) i k=C4 (muF n D0 D) (j+1) u (i+1) (k+1):=by unfold x5;rw [if_neg (by omega)]
 rw [em]
 by_cases e:i+1=j+1
 ·rw [e,a0T];exact hu k hk
 ·rw [a09 e]
  obtain ⟨z,hz,hb⟩:=aG4 h (hf i hi) hk
  exact ⟨z,hz,by omega⟩
theorem b61 {m n K BV BA BG:Nat} {D0 D:Fd} {g0:Nat->Rat} (h:aU6 m n K BV BA BG D0 g0) (hf:∀j,j<n->D.F j<n+m) {w:Nat} (hw:w<n+m):∃z:Int,(K:Rat)*H3 (n+1) (C4 (muF n D0 D) 0 (uV n D0 w))=((z:Int):Rat)∧z.natAbs<=a7x (n+1) fun c=>if c=0 then BV else BA:=by
 rw [← b8i]
 refine a5x fun i j hi hj=>?_
 have key:∀w,w<n+m->∃z:Int,(if j=0 then (K:Rat)*uV n D0 w 0 else uV n D0 w j)=((z:Int):Rat)∧z.natAbs<=if j=0 then BV else BA:=fun w hw=>by
  by_cases h1:j=0
  ·rw [if_pos h1,if_pos h1];exact b7h h hw
  ·rw [if_neg h1,if_neg h1]
   obtain ⟨l,rfl⟩:∃l,j=l+1:=⟨j - 1,by omega⟩
   exact aG4 h hw (by omega)
 unfold b70 C4
 cases i with
 |zero=>simp only [if_true];exact key w hw
 |succ i=>
  simp only [if_neg (show i+1≠0 by omega)]
  exact key (D.F i) (hf i (by omega))
theorem a9M {x:Rat} {p q:Int} (hq:q≠0) (h:((q:Int):Rat)*x=((p:Int):Rat)):rl x<=max (bl p) (bl q):=by
 have hqn:((q:Int):Rat)≠0:=by intro e;exact hq (by exact_mod_cast e)
 have e:x=Rat.divInt p q:=by
  rw [Rat.divInt_eq_div,←h]
  rw [Rat.mul_comm,Rat.div_def,Rat.mul_assoc,Rat.mul_inv_cancel _ hqn];grind
 rw [e];exact Q4 hq
theorem a6N {z:Int} {X k:Nat} (h:z.natAbs<=X) (hX:(X:Int)<pw k):bl z<=k:=N3 (by omega)
theorem b0s {m n K BV BA BG b:Nat} {D0 D:Fd} {g0:Nat->Rat} (h0:a1O m n D0) (h:aU6 m n K BV BA BG D0 g0) (hv:a6E m n D0 g0 D0) (hD:X5 m n D0 D)
 (b1:((a7x (n+1) fun c=>if c=0 then BV else BA:Nat):Int)<pw b) (b2:((a7x n fun _=>BG:Nat):Int)<pw b) (b3:((K*a7x n fun _=>BA:Nat):Int)<pw b) (b4:((a7x n fun _=>BA:Nat):Int)<pw b):
 (∀ i,i<m->rl (D.V i)<=b)∧(∀ i j,i<m->j<n->rl (D.A i j)<=b)∧∀j,j<n->rl (D.G j)<=b:=by
 obtain ⟨k,hk⟩:=hD
 have hi:=a31 hv hk
 have hn:=b5v h0 hv hk
 obtain ⟨d,hd,hdb⟩:=b7U h (D:=D) hi.p.fb
 rw [hd] at hn
 have hd0:d≠0:=fun e=>hn (by rw [e];rfl)
 refine ⟨fun i him=>?_,fun i j him hj=>?_,fun j hj=>?_⟩
 ·obtain ⟨p,hp,hpb⟩:=b61 h (D:=D) hi.p.fb (hi.p.ob i him)
  rw [bh7 h0 hi.i him,hd] at hp
  have hK:=h.k
  have e:=a9M (x:=D.V i) (p:=p) (q:=(K:Int)*d) (by
   intro e
   rcases Int.mul_eq_zero.1 e with e|e
   ·omega
   ·exact hd0 e) (by rw [← hp];push_cast;grind)
  have q1:=a6N hpb b1
  have q2:bl ((K:Int)*d)<=b:=a6N (X:=K*a7x n fun _=>BA) (by rw [Int.natAbs_mul];exact lbT (by simp) hdb) b3
  omega
 ·obtain ⟨p,hp,hpb⟩:=aN9 h (D:=D) hi.p.fb (lbR _) (u:=uV n D0 (D.O i)) (fun l hl=>aG4 h (hi.p.ob i him) hl) j
  rw [b8C h0 hi.i him hj,hd] at hp
  have e:=a9M (x:=-(D.A i j)) (p:=p) (q:=d) hd0 (by rw [← hp];grind)
  rw [T5] at e
  have q1:=a6N hpb b4
  have q2:=a6N hdb b4
  omega
 ·obtain ⟨z,hz⟩:=hi.g
  obtain ⟨p,hp,hpb⟩:=aN9 h (D:=D) hi.p.fb h.ag (u:=uG g0) (fun l hl=>h.g l hl) j
  rw [bi5 h0 hi.i hz hj,hd] at hp
  have e:=a9M (x:=D.G j) (p:=p) (q:=d) hd0 (by rw [← hp];grind)
  have q1:=a6N hpb b2
  have q2:=a6N hdb b4
  omega
end
def af3 (v:Rat):Prop:=∃z:Int,((1000:Nat):Rat)*v=((z:Int):Rat)∧z.natAbs<=2305843009213693952
def b6j (w:D3):Prop:=D2 w.terms∧af3 w.value
theorem b3r {x:Int} (h0:-1000000000000000<=x) (h1:x<=1000000000000000):af3 ((x:Int):Rat):=⟨1000*x,by push_cast;rfl,by omega⟩
theorem a6q:af3 0:=⟨0,by show _=(0:Rat);grind,by decide⟩
theorem b2z {x:Rat} (h:af3 x):af3 (-x):=by
 obtain ⟨z,h1,h2⟩:=h
 exact ⟨-z,by push_cast;rw [← h1];grind,by rw [Int.natAbs_neg];exact h2⟩
theorem b3X {cs:List J2} {rs:List C2} {scale reading day:Int} {lo hi:Rat} (h:G4 cs rs scale reading day=some (lo,hi)):af3 hi:=by
 unfold G4 at h
 split at h
 ·cases h
 ·rename_i i hi
  obtain ⟨hb,c,hc,_,hcv⟩:=K9 hi
  have e:a1c cs i=c:=by unfold a1c;rw [hc];rfl
  rw [e] at h
  split at h
  ·cases h
  ·split at h
   ·rename_i hr
    injection h with h
    injection h with h1 h2
    rw [← h2]
    unfold I1 N0 at hcv
    rw [W6] at hr
    simp only [lbN,lbI,W6] at hcv
    obtain ⟨⟨⟨⟨⟨⟨⟨h1,h2⟩,h3⟩,_⟩,h4⟩,h5⟩,h6⟩,h7⟩:=hcv
    have e1:0<=c.permille*reading:=lb0 (by omega) (by omega)
    have e2:c.permille*reading<=1000*1099511627776:=Int.mul_le_mul (by omega) (by omega) (by omega) (by omega)
    have e3:0<=c.drift*(day - c.since):=lb0 (by omega) (by omega)
    have e4:c.drift*(day - c.since)<=10000000*100000:=Int.mul_le_mul (by omega) (by omega) (by omega) (by omega)
    refine ⟨1000*reading+(c.permille*reading+1000*(c.grams+c.drift*(day - c.since))),?_,by omega⟩
    unfold a2R
    have e5:((1000:Nat):Rat)*Rat.divInt (c.permille*reading) 1000=((c.permille*reading:Int):Rat):=by
     rw [Rat.divInt_eq_div]
     have:((1000:Nat):Rat)=((1000:Int):Rat):=rfl
     rw [this]
     rw [Rat.div_def,←Rat.mul_assoc,Rat.mul_comm (((1000:Int):Rat)),Rat.mul_assoc,Rat.mul_inv_cancel _ (by decide)];grind
    have e6:((1000:Nat):Rat)*((reading:Rat)+(Rat.divInt (c.permille*reading) 1000+((c.grams+c.drift*(day - c.since):Int):Rat)))=((1000:Nat):Rat)*(reading:Rat)+(((1000:Nat):Rat)*Rat.divInt (c.permille*reading) 1000+((1000:Nat):Rat)*((c.grams+c.drift*(day - c.since):Int):Rat)):=by grind
    rw [e6,e5];push_cast;rfl
   ·cases h
theorem bd2 {t:d9} {kind:Int} (ht:v3 t=0):∀w ∈ (R5 t kind).rows,b6j w:=by
 classical
 obtain ⟨q1,q2,q3,q4,q5⟩:=o4 ht
 have key:(s6 t kind t.ev.moves.length).all (fun w=>decide (b6j w))=true:=(a16 _ (lbR _)).2 fun i x hi hx=>by
  rw [lbv]
  intro w hw
  refine lbH ?_
  unfold N6 at hw
  rw [lbz,lbz,lbz] at hw
  rcases hw with ((hw|hw)|hw)|hw
  ·split at hw
   ·cases hw
   ·simp at hw;subst hw
    exact ⟨a7Y (a69 _) (Y1 (by decide) (by decide)),a6q⟩
  ·unfold P1 at hw
   split at hw
   ·cases hw
   ·rename_i lo hi' hiv
    simp at hw;subst hw
    refine ⟨Y1 (by decide) (by decide),?_⟩
    unfold B2 at hiv
    split at hiv
    ·cases hiv
    ·exact b3X hiv
  ·obtain ⟨g,hg,rfl⟩:=lbx.1 hw
   unfold i8 at hg
   obtain ⟨f,hf',rfl⟩:=lbx.1 hg
   have:=F9 q4 f (lby.1 hf').1
   exact ⟨Y1 (by decide) (by decide),b3r (by omega) (by omega)⟩
  ·rw [List.mem_replicate] at hw
   rw [hw.2]
   exact ⟨Y1 (by decide) (by decide),a6q⟩
 intro w hw
 exact lbL (lbv.1 key w hw)
theorem ai3 {c:Int} (h:bl c<=1):c.natAbs<=1048575:=by
 have h1:=O3 c.natAbs
 have h2:(dg c.natAbs).length<=1:=h
 have h3:pw (dg c.natAbs).length<=pw 1:=by
  have:(dg c.natAbs).length=0∨(dg c.natAbs).length=1:=by omega
  rcases this with h|h<;>rw [h]
  ·decide
  ·exact Int.le_refl _
 have h4:pw 1=1048576:=by decide
 omega
theorem b7N {b:Bool} {x:Rat} {c:Int} (h:x=((c:Int):Rat)):∃c':Int,V4 b x=((c':Int):Rat)∧c'.natAbs=c.natAbs:=by
 cases b with
 |false=>exact ⟨c,h,rfl⟩
 |true=>exact ⟨-c,by show -x=_;rw [h];push_cast;rfl,Int.natAbs_neg c⟩
theorem b7D {s:g4} {g:List (Int × Rat)}:a1O (f5 s).length s.n.toNat (g7 s g):=⟨fun _ _=>rfl,fun _ _=>rfl⟩
theorem b2C {s:g4} {g:List (Int × Rat)} (hI:∀w ∈ s.rows,b6j w) (hg:D2 g):aU6 (f5 s).length s.n.toNat 1000 2305843009213693952 1048575 1048575 (g7 s g) (fun j=>-(x8 g j)) where
 k:=by decide
 v:=fun i hi=>by
  obtain ⟨f,hf⟩:∃f,(f5 s)[i]? =some f:=⟨_,lbf hi⟩
  obtain ⟨x,hx,_⟩:=Y8.1 (lbm hf)
  have h2:=(hI x (lbm hx)).2
  have hfd:(f5 s).getD i (0,false)=f:=by rw [lbl,hf];rfl
  have eV:(g7 s g).V i=V4 f.2 x.value:=by show a4o s ((f5 s).getD i (0,false))=_;rw [hfd];unfold a4o;rw [hx]
  rw [eV]
  cases f.2 with
  |false=>exact h2
  |true=>exact b2z h2
 a:=fun i j hi hj=>by
  obtain ⟨f,hf⟩:∃f,(f5 s)[i]? =some f:=⟨_,lbf hi⟩
  obtain ⟨x,hx,_⟩:=Y8.1 (lbm hf)
  have h1:=(hI x (lbm hx)).1
  have hfd:(f5 s).getD i (0,false)=f:=by rw [lbl,hf];rfl
  have eA:(g7 s g).A i j=V4 f.2 (x8 x.terms j):=by show a2G s ((f5 s).getD i (0,false)) j=_;rw [hfd];unfold a2G;rw [hx]
  rw [eA]
  obtain ⟨c,hc,hb⟩:=a1W h1 x.terms.length j
  obtain ⟨c',hc',hb'⟩:=b7N (b:=f.2) (x:=x8 x.terms j) hc
  exact ⟨c',hc',by rw [hb'];exact ai3 hb⟩
 g:=fun j hj=>by
  obtain ⟨c,hc,hb⟩:=a1W hg g.length j
  exact ⟨-c,by rw [show x8 g j=((c:Int):Rat) from hc];push_cast;rfl,by rw [Int.natAbs_neg];exact ai3 hb⟩
 a1:=by decide
 ag:=by decide
theorem b3C:∀n,n<10->((a7x (n+1) fun c=>if c=0 then 2305843009213693952 else 1048575:Nat):Int)<pw 15∧((a7x n fun _=>1048575:Nat):Int)<pw 15∧((1000*a7x n fun _=>1048575:Nat):Int)<pw 15:=by decide +kernel
structure a1h (s:g4):Prop where
 r:j8 s=true
 i:∀w ∈ s.rows,b6j w
 n:s.n<=9
 l:s.rows.length<=999
theorem b4F {s:g4} {g:List (Int × Rat)} (h:a1h s) (hg:D2 g):∀D,X5 (f5 s).length s.n.toNat (g7 s g) D->BdD (f5 s).length s.n.toNat 15 D:=by
 intro D hD
 have hn:=a0V h.r
 have:=h.n
 obtain ⟨p1,p2,p3⟩:=b3C s.n.toNat (by omega)
 obtain ⟨b1,b2,b3⟩:=b0s b7D (b2C h.i hg) a3n hD p1 p2 p3 p2
 exact ⟨b1,fun i hi j hj=>b2 i j hi hj,b3⟩
theorem a7m {v:Rat} (h:af3 v):rl v<=4:=by
 obtain ⟨z,h1,h2⟩:=h
 have:=a9M (x:=v) (p:=z) (q:=1000) (by decide) (by rw [← h1];rfl)
 have b1:bl z<=4:=a6N h2 (by decide)
 have b2:bl 1000<=4:=by have:=s9 (x:=1000) (by decide) (by decide);omega
 omega
theorem a7O {s:g4} {g:List (Int × Rat)} (h:a1h s) (hg:f9 (-1) ((s.n.toNat:Nat):Int) g=true) (hw:D2 g):J4 s g s.n.toNat 15:=by
 have hn:=a0V h.r
 have h9:=h.n
 have hl:=h.l
 have hwr:=P9 hw
 have rows:∀w ∈ s.rows,w.terms.length<=100∧(∀ t ∈ w.terms,rl t.2<=200)∧rl w.value<=200:=fun w hw=>by
  obtain ⟨i,hi,rfl⟩:=List.getElem_of_mem hw
  have hrt:=(a0l h.r (lbf hi)).1
  have h1:=C8 hrt
  have h2:=h.i _ (lbE hi)
  exact ⟨by omega,fun t ht=>by have:=P9 h2.1 t ht;omega,by have:=a7m h2.2;omega⟩
 refine ⟨⟨h.r,hg,hn.symm,by omega,fun w hw=>?_,fun t ht=>by have:=hwr t ht;omega,by omega⟩,⟨by omega,rows⟩,fun t ht=>by have:=hwr t ht;omega,b4F h hw,by decide,?_,by omega⟩
 ·obtain ⟨a1,a2,a3⟩:=rows w hw
  exact ⟨by omega,fun t ht=>by have:=a2 t ht;omega⟩
 ·have:s.n.toNat<=9:=by omega
  have:=lbU (15+2) (show s.n.toNat+3<=12 by omega)
  omega
theorem b6R {s:g4} {g:List (Int × Rat)} (h:a1h s) (hg:f9 (-1) ((s.n.toNat:Nat):Int) g=true) (hw:D2 g):∀v ∈ A6 s g,rl v<=15:=b36 (a7O h hg hw)
theorem b8G {s:g4} {g:List (Int × Rat)} {n B c:Nat} (h:J4 s g n B) (hc:c<n) {j:Nat} (hj:j<n):rl (a0m (f5 s).length n (y3 s g) 0 (fun q=>if q=c then 1 else 0) j)<=B:=by
 have hb:=af0 h
 have hB:=h.b1
 have hp:a0n (f5 s).length n (y3 s g):=by have hn:=h.nn;subst hn;exact S1.p
 rw [← b1o hp hc hj]
 have key:∀k,k<=(f5 s).length->rl (ptK n (y3 s g).O (fun i=>-((y3 s g).A i c)) (fun j=>if (y3 s g).F c<n∧j=(y3 s g).F c then 1 else 0) k j)<=B:=by
  intro k
  induction k with
  |zero=>
   intro _
   have:=rl0;have:=rl1
   show rl (if _ then (1:Rat) else 0)<=_
   split<;>omega
  |succ k ih=>
   intro hk
   rw [S0]
   simp only
   split
   ·rw [T5];exact hb.a k (by omega) c hc
   ·exact ih (by omega)
 exact key _ (lbR _)
theorem b16 {x y:List Rat} {A B:Nat} (hx:∀v ∈ x,rl v<=A) (hy:∀v ∈ y,rl v<=B):∀v ∈ a00 x y,rl v<=A+B+1:=by
 intro v hv
 unfold a00 at hv
 obtain ⟨i,hi,rfl⟩:=List.getElem_of_mem hv
 rw [List.getElem_zipWith]
 rw [List.length_zipWith] at hi
 have h1:=hx _ (lbE (show i<x.length by omega))
 have h2:=hy _ (lbE (show i<y.length by omega))
 have:=a4H x[i] y[i]
 omega
theorem b5E {s:g4} {g:List (Int × Rat)} (h:a1h s) (hg:f9 (-1) ((s.n.toNat:Nat):Int) g=true) (hw:D2 g):∀v ∈ S2 s g,rl v<=31:=by
 unfold S2
 split
 ·rename_i c hc
  refine b16 (A:=15) (B:=15) (b6R h rfl (fun t ht=>by cases ht)) fun v hv=>?_
  have hl:=a7O h (Y5 hg) (a0z hw)
  unfold a61 at hv
  obtain ⟨j,hj,rfl⟩:=a5F hv
  exact b8G hl (a7d hc).1 hj
 ·intro v hv
  have:=b6R h (Y5 hg) (a0z hw) v hv
  omega
theorem ax6 {s:g4} {g:List (Int × Rat)}:(S2 s g).length=s.n.toNat:=by
 unfold S2
 split
 ·exact a2g (by unfold A6;rw [U4]) (by unfold a61;rw [U4])
 ·unfold A6;rw [U4]
theorem b8h (n:Nat) (a b:Nat->Rat) (h0:0<n) (hn:n<=1000) (ha:∀j,j<n->rl (a j)<=60000) (hb:∀j,j<n->rl (b j)<=60000):
 a9 Tryz.prog 197 [t4 (rF n a),t4 (rF n b)] [] (t4 (rF n fun j=>a j+b j)) []:=by
 have m1:((rF n b).map t6).length=n:=by simp [O8]
 have cl:=a8f (rF n a) (by rw [O8];exact h0) (by rw [O8];omega)
 rw [O8] at cl
 have e9:rF n (fun j=>a j+b j)=rF n (smF a b n):=w9 fun j hj=>by unfold smF;rw [if_pos hj]
 rw [e9]
 (refine ac Tryz.func197 ?_;(conv=>whnf);repeat (refine zy ?_;conv=>whnf))
 repeat' (first|refine zx ?_|refine .inr ⟨_,_,cl,?_⟩|refine zd ?_ ?_<;>intro h<;>try omega|fail)<;>conv=>whnf
 refine d8 c8 (fun k=>([J,J,J,J,J,S.c (C.own 0 0 n true),J,J,J,J,t4 (rF n b),a7 .i64 n,a7 .i64 k]++Jn 18,[flB (rF n (smF a b k))])) n (fun _=>True) [some 0] trivial
  ⟨rfl,rfl,⟨a8 (rows:=(rF n a).map t6) rfl rfl rfl rfl (by rw [w9 (g:=smF a b 0) (h:=a) fun j hj=>by unfold smF;rw [if_neg (by omega)]]),trivial⟩,⟨⟨rfl,rfl,rfl,fun h=>h⟩,g6 rfl,b8 (by omega),b8 rfl,trivial⟩⟩ ?_
 intro k hk _
 by_cases hlt:k<n
 ·have eK:0+(k:Int).toNat=k:=by omega
  have ad:=a3Z (a k) (b k) (ha k hlt) (hb k hlt)
  have gp:(rF n (smF a b k))[0+(k:Int).toNat]? =some (fz (a k)):=by rw [eK,F7 hlt];unfold smF;rw [if_neg (by omega)]
  have e:t8 (flB (rF n (smF a b k))) ((flB (rF n (smF a b k))).rows.set (0+(k:Int).toNat) (frC (fz (a k+b k))))=flB (rF n (smF a b (k+1))):=by
   rw [I5 eK,T3 hlt]
   refine congrArg flB (w9 fun j hj=>?_)
   unfold smF
   by_cases h:j=k
   ·subst h;rw [if_pos rfl,if_pos (by omega)]
   ·rw [if_neg h]
    have:(j<k)↔(j<k+1):=by omega
    simp only [this]
  conv=>whnf
  repeat' (first|refine zx ?_|refine qp ad ?_|refine qp 10 ?_|refine a4S rfl hlt ?_|refine o5 gp ?_|refine bl0 [10] ?_|refine zd ?_ ?_<;>intro h<;>try omega|fail)<;>conv=>whnf
  all_goals first
   |omega
   |exact ⟨hlt,trivial,[some 0],rfl,rfl,⟨⟨rfl,rfl,rfl,.inl ⟨congrArg Blk.rows e,(congrArg Blk.rows e) ▸ c6 _⟩⟩,trivial⟩,⟨⟨rfl,rfl,rfl,fun h=>h⟩,rfl,rfl,b8 (by omega),trivial⟩⟩
 ·have hke:k=n:=by omega
  subst hke
  conv=>whnf
  repeat' (first|refine zx ?_|refine zd ?_ ?_<;>intro h<;>try omega|fail)<;>conv=>whnf
  all_goals first
   |omega
   |exact I6 rfl (fun h=>h) rfl rfl (by simp [O8])
theorem a0P (x:List Rat):x.map fz=rF x.length (fun j=>x.getD j 0):=by
 unfold rF
 refine List.ext_getElem? fun j=>?_
 rw [lba,lba]
 by_cases h:j<x.length
 ·rw [lbf h,a5u h]
  simp [lbl,lbf h]
 ·rw [lbd (by omega),lbd (by simp;omega)];rfl
theorem b40 (x y:List Rat) (h:x.length=y.length) (h0:0<x.length) (hn:x.length<=1000) (hx:∀v ∈ x,rl v<=60000) (hy:∀v ∈ y,rl v<=60000):
 a9 Tryz.prog 197 [t4 (x.map fz),t4 (y.map fz)] [] (t4 ((a00 x y).map fz)) []:=by
 have gx:∀(x:List Rat),(∀ v ∈ x,rl v<=60000)->∀j,j<x.length->rl (x.getD j 0)<=60000:=fun x hx j hj=>by
  rw [lbl,lbf hj];exact hx _ (lbE hj)
 have r:=b8h x.length (fun j=>x.getD j 0) (fun j=>y.getD j 0) h0 hn (gx x hx) (fun j hj=>gx y hy j (by omega))
 rw [← a0P x] at r
 rw [show rF x.length (fun j=>y.getD j 0)=y.map fz by rw [a0P y,h]] at r
 rw [show rF x.length (fun j=>x.getD j 0+y.getD j 0)=(a00 x y).map fz by
  rw [a0P (a00 x y),a2g (n:=x.length) rfl h.symm]
  exact w9 fun j hj=>(a5C (n:=x.length) rfl h.symm hj).symm] at r
 exact r
noncomputable def Z4 (s:g4) (g:List (Int × Rat)):List Rat:=match a1d s (R8 g) with
 |.col _=>[]
 |_=>zOf s.rows.length (R6 s (y3 s (R8 g)))
theorem aV6 (s:g4) (g:List (Int × Rat)) (h:a1h s) (hz:a1d s []=.best) (h0:0<s.n) (hg:f9 (-1) ((s.n.toNat:Nat):Int) g=true) (hw:D2 g):
 a9 Tryz.prog 121 [a3c s,s7 g] [] (.tup [t4 ((S2 s g).map fz),t4 ((Z4 s g).map fz)]) []:=by
 have hn:=a0V h.r
 have h9:=h.n
 have p:=a7O h (Y5 hg) (a0z hw)
 have i1:=N4 (-1) (by decide) (by decide)
 have tm:=b7t g ((-1:Int):Rat) (by decide) (a2x (by omega) hg) (fun t ht=>by have:=P9 hw t ht;omega) (by have:=s9 (x:=-1) (by decide) (by decide);have:=s9 (x:=1) (by decide) (by decide);show max (bl (-1)) (bl 1)<=200;omega)
 have ep:a0g g ((-1:Int):Rat)=R8 g:=rfl
 rw [ep] at tm
 have vb:∀k,rl (p4 ((R8 g).take k) (A6 s (R8 g)))<=50000:=fun k=>by
  have h1:=a6W (P9 (a0z hw)) (b6R h (Y5 hg) (a0z hw)) k
  have h2:=C8 (Y5 hg)
  have h3:(R8 g).length<=9:=by omega
  have h4:=lbU (15+4) h3
  omega
 rcases aC2 (g:=R8 g) h.r hz with ho|⟨c,ho⟩
 ·have le:=b9x p ho vb
  have e1:S2 s g=A6 s (R8 g):=by unfold S2;rw [ho]
  have e2:Z4 s g=zOf s.rows.length (R6 s (y3 s (R8 g))):=by unfold Z4;rw [ho]
  have e3:rF s.rows.length (R6 s (y3 s (R8 g)))=(Z4 s g).map fz:=by rw [e2,b0u]
  have l3:(Z4 s g).length=s.rows.length:=by rw [e2,U4]
  rw [e1]
  rw [e3] at le
  (refine ac Tryz.func121 ?_;(conv=>whnf);repeat ((first|refine b0x ?_|refine zy ?_);conv=>whnf))
  repeat' (first|refine zx ?_|refine qp i1 ?_|refine qp tm ?_|refine qp 7 ?_|refine .inl ⟨_,_,le _,?_⟩|refine bl0 [7] ?_|refine zd ?_ ?_<;>intro h<;>try omega|fail)<;>conv=>whnf
  all_goals first
   |omega
   |exact k9 ⟨rfl,(show VC _ (fun id=>E4 [] id=true) (C.own _ 0 _ true) _ from u4 (k:=flB ((Z4 s g).map fz)) rfl rfl (fun h=>h) rfl rfl (by simp [l3])),trivial⟩
 ·have hcn:c<s.n.toNat:=(a7d ho).1
  have pz:=a7O h (g:=[]) rfl (fun t ht=>by cases ht)
  have le:=b87 p pz ho hz
  have e1:S2 s g=a00 (A6 s []) (a61 s (R8 g) c):=by unfold S2;rw [ho]
  have e2:Z4 s g=[]:=by unfold Z4;rw [ho]
  have lp:(A6 s []).length=s.n.toNat:=by unfold A6;rw [U4]
  have lr:(a61 s (R8 g) c).length=s.n.toNat:=by unfold a61;rw [U4]
  have pl:=b40 (A6 s []) (a61 s (R8 g) c) (by omega) (by omega) (by omega) (fun v hv=>by have:=b6R h rfl (fun t ht=>by cases ht) v hv;omega) (fun v hv=>by
   unfold a61 at hv
   obtain ⟨j,hj,rfl⟩:=a5F hv
   have:=b8G p hcn hj
   omega)
  rw [e1,e2]
  (refine ac Tryz.func121 ?_;(conv=>whnf);repeat ((first|refine b0x ?_|refine zy ?_);conv=>whnf))
  repeat' (first|refine zx ?_|refine qp i1 ?_|refine qp tm ?_|refine qp pl ?_|refine qp 7 ?_|refine .inl ⟨_,_,le _,?_⟩|refine bl0 [7] ?_|refine zd ?_ ?_<;>intro h<;>try omega|fail)<;>conv=>whnf
  all_goals first
   |omega
   |exact k9 ⟨rfl,rfl,trivial⟩
theorem ak4 (g:List (Int × Rat)) (x:List Rat) (hg:f9 (-1) (x.length:Int) g=true) (hw:D2 g) (hx:∀v ∈ x,rl v<=40000) (hl:x.length<=9) (hb:∀k,rl (p4 (g.take k) x)<=50000):
 a9 Tryz.prog 123 [s7 g,t4 (x.map fz)] [] (e8 (a27 g x)) []:=by
 have hgl:=C8 hg
 have va:=aN4 g x (by omega) (fun t ht=>by have:=P9 hw t ht;omega) hx (fun k=>by have:=hb k;omega) (by omega) hg
 have bv:=hb g.length
 rw [lbn (lbR _)] at bv
 have sg:=a9Y (p4 g x) (by omega)
 have sp:=al8 (x:=p4 g x)
 have e:a27 g x=decide (sgR (p4 g x) > 0):=by unfold a27;rw [decide_eq_decide];exact sp.symm
 rw [e]
 generalize sgR (p4 g x)=U at sg
 clear sp e
 (refine ac Tryz.func123 ?_;(conv=>whnf);repeat ((first|refine b0x ?_|refine zy ?_);conv=>whnf))
 repeat' (first|refine zx ?_|refine qp va ?_|refine qp sg ?_|refine qp 5 ?_|refine bl0 [5] ?_|refine zd ?_ ?_<;>intro h<;>try omega|fail)<;>conv=>whnf
 all_goals first
  |omega
  |(refine c7 ?_;first|exact (lbH (by omega)).symm|exact (lbJ (by omega)).symm)
end Go.Proofs.YtdbogogfeffjlaaGreat
