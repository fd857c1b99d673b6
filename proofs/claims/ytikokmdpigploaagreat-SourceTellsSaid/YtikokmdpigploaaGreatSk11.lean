/- Part 11. -/
import Derived.Test.YtikokmdpigploaaGreatSk10
namespace Go.Proofs.YtikokmdpigploaaGreat
set_option linter.all false
set_option maxRecDepth 100000
set_option maxHeartbeats 8000000
open Go.RowKit
open St1 St2 St3 St4 St5 St6 St7 St8 StA StB StC
def b5z (m n:Nat) (hn:0<n) (lm:(dg m).length<=200000) (ln:(dg n).length<=200000):
 ec 305 [k9 (dg m),k9 (dg n)] [] (b1p m n) []:=by
 have l1:((dg m).map k6).length=(dg m).length:=zq;have l2:((dg n).map k6).length=(dg n).length:=zq;refine ac Tryz.func305 ?_;conv=>whnf
 repeat' (first|refine zx ?_|refine a1g om om om de ?_|apply zD<;>intro h<;>try omega)<;>conv=>whnf
 refine p9 d7 (σ:=Nat × LI × Nat) (fun|(j,q,r)=>([k9 (dg m),k9 (dg n),J,J,J,J,a0K 0 q,k9 (dg r),eI ((j:Int) - 1)]++Jn 51,[x9 q])) (fun x=>a0Q (dg m) n x.1 x.2.1 x.2.2) (fun x=>x.1) ((dg m).length,List.replicate (dg m).length 0,0) [some 0]
  (a0Q.init _ om) ⟨rfl,rfl,⟨e8 rfl rfl rfl ?_ rfl,trivial⟩,⟨l9 rfl,l9 rfl,o8 rfl zq,rfl,e7 om,trivial⟩⟩ ?_
 ·show List.replicate _ _=_;simp [toC,k6,B8]
 rintro ⟨j,q,r⟩ hI;have hI:a0Q (dg m) n j q r:=hI;have hlen:=hI.len;have hle:=hI.le;have hr1:=hI.r1;by_cases hj:0<j
 ·obtain ⟨i,rfl⟩:∃i,j=i+1:=⟨j - 1,om⟩;have ei:(((i+1:Nat):Int) - 1)=i:=om;have hda:=(v6 m).dat i;obtain ⟨y,hy⟩:=a5p hda.1;have lr:=q9 (show r<=n by omega);have lm2:i<(dg m).length:=om;generalize hR:r*1048576+y=R;have hRn:R<n*1048576:=by
   have:=lbT 1048576 (show r+1<=n by omega);rw [R0] at this;omega
  have lR:(dg R).length<=(dg n).length+1:=M8 (by
   have h1:=P6 n;rw [I4];have h2:=lbW (a:=(n:Int)+1) (b:=pw (dg n).length) (c:=1048576) om de;omega)
  have tr:=a79 (dat (dg m) i::dg r) zo;rw [b5Q (d:=n) hda,hy,lbX,hR] at tr;conv=>whnf
  repeat' (first|refine zz ?_|refine a4M.own ?_|refine y7 ei (w7 om) ?_|refine w6 (by simp [toC,D4]) zu ?_|refine .inr ⟨_,_,y4 [2] tr ⟨a1z (u5 zq rfl zi rfl (by simp [toC,D4,k6,hy]) (by simp [toC,az4])),trivial⟩ rfl,?_⟩|apply zD<;>intro h<;>try omega|refine zy ?_|fail)<;>conv=>whnf
  refine p9 d7 (σ:=Nat × Nat) (fun|(lo,hi)=>([k9 (dg m),k9 (dg n),J,J,J,J,a0K 0 q,k9 (dg R),eI i,eI lo,eI hi]++Jn 49,[x9 q])) (fun x=>x.1*n<=R∧R<x.2*n∧x.1<x.2∧x.2<=1048576) (fun x=>x.2 - x.1) (0,1048576) [some 0]
   ⟨zq,by show R<1048576*n;rw [a9T];exact hRn,de,de⟩ ⟨rfl,rfl,⟨e8 rfl rfl rfl rfl rfl,trivial⟩,⟨rfl,rfl,o8 rfl rfl,rfl,e7 ei,rz⟩⟩ ?_
  rintro ⟨lo,hi⟩ ⟨i1,i2,i3,i4⟩;have i1:lo*n<=R:=i1;have i2:R<hi*n:=i2;have i3:lo<hi:=i3;have i4:hi<=1048576:=i4;have ln1:(dg n).length<=200000:=ln;by_cases hc:1<hi - lo
  ·have hmid:(((lo:Int)+hi) / 2)=(((lo+hi) / 2:Nat):Int):=by omega
   generalize hM:(lo+hi) / 2=mid at hmid;have tm:=b2x (dg n) [(mid:Int)] (v6 n) (by intro x hx;simp at hx;omega) om zq;have e0:val [(mid:Int)]=mid:=by simp [val]
   rw [e0,s6,show ((n:Int)*mid).toNat=n*mid by rw [← a30];rfl] at tm;have lnm:(dg (n*mid)).length<=(dg n).length+1:=lbR (a4r _ _) (by have:=p7 (x:=(mid:Int)) om om;simp only [bl,aG9] at this;omega);have ls:=b7d (dg R) (dg (n*mid)) (v6 _) (v6 _) om om;rw [s6,s6] at ls;conv=>whnf
   repeat' (first|refine zx ?_|refine qp (a48 om) ?_|refine ⟨de,_,D7 (y:=(mid:Int)) (by rw [a48 om];exact hmid) om om,?_⟩|refine .inl ⟨_,_,a2p tm ⟨aN2,a1z (aI3 rfl),trivial⟩ rfl,?_⟩|apply zD<;>intro h<;>try omega)<;>conv=>whnf
   ·have hlt:R<n*mid:=Int.ofNat_lt.1 (lbK (by assumption));exact ⟨[some 0],(lo,mid),⟨rfl,rfl,⟨e8 rfl rfl rfl rfl rfl,trivial⟩,⟨rfl,rfl,o8 rfl rfl,rz⟩⟩,⟨i1,by show R<mid*n;rw [a9T];exact hlt,by show lo<mid;omega,by show mid<=1048576;omega⟩,by show mid - lo<hi - lo;omega⟩
   ·have hlt:n*mid<=R:=Nat.not_lt.1 (fun h=>absurd (Int.ofNat_lt.2 h) (lbL (by assumption)));exact ⟨[some 0],(mid,hi),⟨rfl,rfl,⟨e8 rfl rfl rfl rfl rfl,trivial⟩,⟨rfl,rfl,o8 rfl rfl,rz⟩⟩,⟨by show mid*n<=R;rw [a9T];exact hlt,i2,by show mid<hi;omega,i4⟩,by show hi - mid<hi - lo;omega⟩
  ·obtain rfl:hi=lo+1:=by omega
   have hq:R / n=lo:=by
    rw [Nat.div_eq_iff hn];rw [R0] at i2;omega
   have hm2:=b27 R n;rw [hq] at hm2;have hrm:=a7C R hn;have tl:=a79 [(lo:Int)] zq;rw [N2 (by intro x hx;simp at hx;omega),show (val [(lo:Int)]).toNat=lo by simp [val]] at tl;have llo:(dg lo).length<=1:=by have:=p7 (x:=(lo:Int)) om om;simpa [bl] using this
   have tt:=aT7 n lo om om;have mi:=b37 (dg R) (dg (n*lo)) (v6 _) (v6 _) om (q9 om) (by rw [s6,s6];omega);rw [s6,s6,show ((R:Int) - ((n*lo:Nat):Int)).toNat=R % n by omega] at mi;have hst:=hI.step (v6 m) om;have c1:((r:Int)*1048576+dat (dg m) i)=(R:Int):=by rw [hy,←hR];simp
   rw [c1] at hst;have c2:(R:Int) / n=(lo:Int):=by rw [← hq];simp
   have c3:(R:Int) % n=((R % n:Nat):Int):=zq;rw [c2,c3] at hst;have gq:q[0+(i:Int).toNat]? =some (dat q i):=Q6 om om;conv=>whnf
   repeat' (first|refine zx ?_|refine .inl ⟨_,_,a2p tl ⟨a1z (aI3 rfl),trivial⟩ rfl,?_⟩|refine U4 om (by show _<((q.length:Nat):Int);omega) ?_|refine s8 gq ?_|apply zD<;>intro h<;>try omega)<;>conv=>whnf
   all_goals try omega
   refine ⟨[some 0],(i,q.set i lo,R % n),⟨rfl,rfl,⟨e8 rfl rfl rfl (O0 om) rfl,trivial⟩,⟨rfl,rfl,o8 rfl zq,rfl,e7 om,trivial⟩⟩,hst,by show i<i+1;omega⟩
 ·obtain rfl:j=0:=by omega
  obtain ⟨f1,f2⟩:=hI.fin (v6 m) om;have tq:=a79 q (by have:=hI.len;omega);rw [f1,s6,show ((m:Int) / n).toNat=m / n by rw [← Int.natCast_ediv];rfl] at tq;rw [s6] at f2;have f3:r=m % n:=by
   have:(m:Int) % n=((m % n:Nat):Int):=zq;omega
  subst f3;conv=>whnf
  repeat' (first|refine zx ?_|refine .inr ⟨_,_,y4 [0] tq ⟨a1z (u5 zq rfl zi rfl rfl zq),trivial⟩ rfl,?_⟩|apply zD<;>intro h<;>try omega)<;>conv=>whnf
  all_goals try omega
  exact m9 rz
def a3T (b:Bg) (hl:b.dl.length<=1000000):ec 243 [bgS b] [] (i9 (J0 b)) []:=by
 have l2:(b.dl.map k6).length=b.dl.length:=zq
 (refine ac Tryz.func243 ?_;(conv=>whnf);repeat ((first|refine b0x ?_|refine zy ?_);conv=>whnf))
 repeat' (first|refine zx ?_|apply zD<;>intro h<;>try omega)<;>conv=>whnf
 refine j3 d7 (fun k=>([J,S.c (C.t (T.ptr [ti b.sg,x6 b.dl])),J,eI k]++Jn 52,[])) b.dl.length (fun k=>(b.dl.take k).all inD=true) [] rfl
  ⟨rfl,rfl,trivial,⟨l9 rfl,rz⟩⟩ ?_
 intro k hk hI;by_cases hlt:k<b.dl.length
 ·conv=>whnf
  repeat' (first|refine zx ?_|refine i6 (w7 om) ?_|apply zD<;>intro h<;>try omega)<;>conv=>whnf
  all_goals first|omega|exact ⟨hlt,by rw [t5 (w7 hlt),hI];simp [inD];omega,[],rz⟩|(refine d9 ?_;unfold J0;rw [x7 (w7 hlt) (by simp [inD];omega)];rfl)
 ·have hke:k=b.dl.length:=by omega
  subst hke;have ha:b.dl.all inD=true:=by rw [← hI,lbn om]
  have hgl:0<b.dl.length->b.dl[((((b.dl.map k6).length:Nat):Int) - 1).toNat]? =some (dat b.dl (b.dl.length - 1)):=fun h=>by rw [l2];exact a7B h
  conv=>whnf
  repeat' (first|refine zx ?_|refine G7 om (hgl om) ?_|apply zD<;>intro h<;>try omega)<;>conv=>whnf
  all_goals first|omega|(exfalso;simp_all;done)|(exfalso;simp_all;omega)|skip
  all_goals
   refine d9 ?_;unfold J0;rw [ha];by_cases hz:b.dl.length=0
   ·rw [if_pos hz];simp_all<;>omega
   ·rw [if_neg hz];simp_all<;>omega
def a10 (x:Int) (lx:bl x<=300000):ec 243 [bgS (bz x)] [] (i9 true) []:=by
 have:=a3T (bz x) (show bl x<=1000000 by omega);rw [a0g] at this;exact this
def b3B (n:Int) (h0:-9223372036854775808<=n) (h1:n<=9223372036854775807):ec 230 [eI n] [] (bgS (bz n)) []:=by
 rcases a3a n 0 with hn|hn|hn
 ·refine ac Tryz.func230 ?_;conv=>whnf
  repeat' (first|refine zx ?_|apply zD<;>intro h<;>try omega)<;>conv=>whnf
  all_goals try omega
  refine p9 d7 (σ:=LI × Nat) (fun|(acc,u)=>([eI (- (u:Int)),J,sP 0 0 0,eI (-1),a0K 1 acc]++Jn 23,[a5k,x9 acc])) (fun s=>OfI n s.1 s.2) (fun s=>s.2) ([],n.natAbs) [some 0,none]
   ⟨rfl⟩ ⟨rfl,rfl,⟨⟨rfl,rfl,rfl,.inl ⟨rfl,R8⟩⟩,rz⟩,⟨e7 om,rz⟩⟩ ?_
  rintro ⟨acc,u⟩ hI;have hI:OfI n acc u:=hI;have hl:=hI.len h0 h1;have hu:=hI.le;have hm:(- (u:Int)).tmod 1048576=- ((u:Int) % 1048576):=by
   first|exact a5J om|(rw [Int.neg_tmod,a5J om])
  have hd:(- (u:Int)).tdiv 1048576=- ((u / 1048576:Nat):Int):=by
   first|(rw [a48 om];simp;done)|(rw [Int.neg_tdiv,a48 om];simp)
  by_cases hu0:0<u
  ·have hst:=hI.step hu0;conv=>whnf
   repeat' (first|refine zx ?_|refine w6 zt zu ?_|refine ⟨de,_,D7 hd om om,?_⟩|refine ag7 de ?_|apply zD<;>intro h<;>try omega)<;>conv=>whnf
   all_goals try omega
   all_goals
    refine ⟨[some 0,some 2],(acc++[(u:Int) % 1048576],u / 1048576),⟨rfl,rfl,⟨⟨rfl,rfl,rfl,.inl ⟨rfl,R8⟩⟩,e8 rfl rfl rfl ?_ rfl,trivial⟩,⟨e7 rfl,rz,rfl,o8 rfl zt,trivial⟩⟩,hst,by show u / 1048576<u;omega⟩;have e:∀y:Int,y=(u:Int) % 1048576->(toC (acc.map k6)).take acc.length++toC [[ti y]]=toC ((acc++[(u:Int) % 1048576]).map k6):=fun y hy=>by rw [hy];exact a2h
    exact e _ om
  ·have h0u:u=0:=by omega
   subst h0u;have e:acc=dg n.natAbs:=by have:=hI.eq;rw [Z2,a0x] at this;exact this
   have sg:=L6 (-1) n.natAbs om (by rw [← e];omega);rw [← e,show (-1)*(n.natAbs:Int)=n by omega] at sg;conv=>whnf
   repeat' (first|refine zx ?_|refine .inr ⟨_,_,y4 [1] sg ⟨aN2,a1z (u5 zq rfl zi rfl rfl zq),trivial⟩ rfl,?_⟩|apply zD<;>intro h<;>try omega)<;>conv=>whnf
   all_goals try omega
   exact m9 rz
 ·subst hn;refine ac Tryz.func230 ?_;conv=>whnf
  repeat' (first|refine zx ?_|apply zD<;>intro h<;>try omega)<;>conv=>whnf
  all_goals first|omega|exact m9 rz
 ·refine ac Tryz.func230 ?_;conv=>whnf
  repeat' (first|refine zx ?_|apply zD<;>intro h<;>try omega)<;>conv=>whnf
  all_goals try omega
  refine p9 d7 (σ:=LI × Nat) (fun|(acc,u)=>([eI ((u:Int)),J,sP 0 0 0,eI (1),a0K 1 acc]++Jn 23,[a5k,x9 acc])) (fun s=>OfI n s.1 s.2) (fun s=>s.2) ([],n.natAbs) [some 0,none]
   ⟨rfl⟩ ⟨rfl,rfl,⟨⟨rfl,rfl,rfl,.inl ⟨rfl,R8⟩⟩,rz⟩,⟨e7 om,rz⟩⟩ ?_
  rintro ⟨acc,u⟩ hI;have hI:OfI n acc u:=hI;have hl:=hI.len h0 h1;have hu:=hI.le;have hm:((u:Int)).tmod 1048576=((u:Int) % 1048576):=by
   first|exact a5J om|(rw [Int.neg_tmod,a5J om])
  have hd:((u:Int)).tdiv 1048576=((u / 1048576:Nat):Int):=by
   first|(rw [a48 om];simp;done)|(rw [Int.neg_tdiv,a48 om];simp)
  by_cases hu0:0<u
  ·have hst:=hI.step hu0;conv=>whnf
   repeat' (first|refine zx ?_|refine w6 zt zu ?_|refine ⟨de,_,D7 hd om om,?_⟩|refine ag7 de ?_|apply zD<;>intro h<;>try omega)<;>conv=>whnf
   all_goals try omega
   all_goals
    refine ⟨[some 0,some 2],(acc++[(u:Int) % 1048576],u / 1048576),⟨rfl,rfl,⟨⟨rfl,rfl,rfl,.inl ⟨rfl,R8⟩⟩,e8 rfl rfl rfl ?_ rfl,trivial⟩,⟨e7 rfl,rz,rfl,o8 rfl zt,trivial⟩⟩,hst,by show u / 1048576<u;omega⟩;have e:∀y:Int,y=(u:Int) % 1048576->(toC (acc.map k6)).take acc.length++toC [[ti y]]=toC ((acc++[(u:Int) % 1048576]).map k6):=fun y hy=>by rw [hy];exact a2h
    exact e _ om
  ·have h0u:u=0:=by omega
   subst h0u;have e:acc=dg n.natAbs:=by have:=hI.eq;rw [Z2,a0x] at this;exact this
   have sg:=L6 (1) n.natAbs om (by rw [← e];omega);rw [← e,show (1)*(n.natAbs:Int)=n by omega] at sg;conv=>whnf
   repeat' (first|refine zx ?_|refine .inr ⟨_,_,y4 [1] sg ⟨aN2,a1z (u5 zq rfl zi rfl rfl zq),trivial⟩ rfl,?_⟩|apply zD<;>intro h<;>try omega)<;>conv=>whnf
   all_goals try omega
   exact m9 rz
def b62 (x y:Int) (lx:bl x<=200000) (ly:bl y<=200000):ec 244 [bgS (bz x),bgS (bz y)] [] (.tup [bgS (bz (Int.gcd x y)),eI 0]) []:=by
 have r1:=a10 x om;have r2:=a10 y om;refine ac Tryz.func244 ?_;conv=>whnf
 repeat' (first|refine zx ?_|apply zD<;>intro<;>try omega)<;>conv=>whnf
 all_goals first|(exfalso;simp_all;done)|skip
 refine p9 d7 (σ:=Nat × Nat) (fun|(X,Y)=>([J,J,J,J,sP 0 0 0,J,k9 (dg X),k9 (dg Y)]++Jn 28,[a5k])) (fun s=>b9d x y s.1 s.2) (fun s=>s.2) (x.natAbs,y.natAbs) [some 2]
  ⟨rfl,lx,ly⟩ ⟨rfl,rfl,⟨⟨rfl,rfl,rfl,.inl ⟨rfl,R8⟩⟩,trivial⟩,rz⟩ ?_
 rintro ⟨X,Y⟩ hI;have hI:b9d x y X Y:=hI;obtain ⟨g1,g2,g3⟩:=hI;have l2:((dg Y).map k6).length=(dg Y).length:=zq;by_cases hY:0<Y
 ·have hp:(dg Y).length≠0:=by rw [Ne,a27,K8];omega
  have dv:=b5z X Y hY om om;conv=>whnf
  repeat' (first|refine zx ?_|apply zD<;>intro<;>try omega)<;>conv=>whnf
  all_goals first|omega|exact ⟨[some 0],(Y,X % Y),⟨rfl,rfl,⟨⟨rfl,rfl,rfl,.inl ⟨rfl,R8⟩⟩,trivial⟩,rz⟩,⟨by rw [← g1,Nat.gcd_comm Y,←Nat.gcd_rec,Nat.gcd_comm],g3,lbR (q9 (aj4 (a7C X hY))) g3⟩,a7C X hY⟩
 ·have hY:Y=0:=by omega
  subst hY;have hp:(dg 0).length=0:=rfl;have s1:=L6 1 X zq om;conv=>whnf
  repeat' (first|refine zx ?_|apply zD<;>intro<;>try omega)<;>conv=>whnf
  all_goals first|omega|skip
  refine a6W ?_;rw [a1l,show X=Int.gcd x y by rw [Int.gcd,←g1,Nat.gcd_zero_right]]
def bb3 (x y:Int) (hy:0<y) (hxy:x % y=0) (lx:bl x<=200000) (ly:bl y<=200000):ec 299 [bgS (bz x),bgS (bz y)] [] (.tup [bgS (bz (x / y)),bgS (bz 0),eI 0]) []:=by
 have r1:=a10 x om;have r2:=a10 y om;have hys:(bz y).sg=1:=by rw [a7N,O5 hy]
 have ov:=b5z x.natAbs y.natAbs om lx ly;have hmod:x.natAbs % y.natAbs=0:=by
  have:=Int.natAbs_dvd_natAbs.2 (Int.dvd_of_emod_eq_zero hxy);exact Nat.mod_eq_zero_of_dvd this
 have lq:=q9 (Nat.div_le_self x.natAbs y.natAbs);have hsg:(bz x).sg=x.sign:=rfl;have hs:=C4 x;have hq:x.sign*((x.natAbs / y.natAbs:Nat):Int)=x / y:=by
  obtain ⟨k,hk⟩:=Int.dvd_of_emod_eq_zero hxy;subst hk;have hk2:(y*k) / y=k:=aK3 _ om;rw [hk2,a2x,Nat.mul_div_cancel_left _ om,Int.sign_mul,O5 hy,a1l];exact ar7 k
 have s1:=L6 x.sign (x.natAbs / y.natAbs) (by
  rcases hs with ⟨h,h1⟩|⟨h,h1⟩|⟨h,h1⟩
  ·right;right;subst h1;simp
  ·exact .inl h
  ·exact .inr (.inl h)) (by unfold bl at lx;omega)
 rw [hq] at s1;have s2:=L6 x.sign 0 zq (by rw [Z2];simp);rw [show x.sign*((0:Nat):Int)=0 by simp] at s2;have hmul:x.sign*1=x.sign:=am5 _;have hd0:((dg (x.natAbs % y.natAbs)).map k6).length=0:=by rw [hmod,Z2];rfl
 unfold b1p at ov;rw [hmod] at ov hd0;refine ac Tryz.func299 ?_;conv=>whnf
 repeat' (first|refine zx ?_|refine qp (hys,hsg) ?_|refine ⟨_,D7 (y:=x.sign) (by rw [hys,hsg];exact hmul) om om,?_⟩|apply zD<;>intro h<;>try omega)<;>conv=>whnf
 all_goals first|omega|(exfalso;simp_all;done)|exact b2b rfl rfl
def aT4 (p q:Int) (hq:0<q) (lp:bl p<=200000) (lq:bl q<=200000):ec 229 [bgS (bz p),bgS (bz q)] [] (.tup [frS (fz (Rat.divInt p q)),eI 0]) []:=by
 have r1:=a10 p om;have r2:=a10 q om;have hsg:(bz q).sg=1:=by rw [a7N,O5 hq]
 have lg:=a94 p q lp lq;have hg:0<(Int.gcd p q:Int):=by have:=b0m p (b:=q) om;omega
 have g:=b62 p q lp lq;have d1:=bb3 p _ hg (Int.emod_eq_zero_of_dvd (Int.gcd_dvd_left ..)) lp lg;have d2:=bb3 q _ hg (Int.emod_eq_zero_of_dvd (Int.gcd_dvd_right ..)) lq lg;have e:=a8T (p:=p) (q:=q) om rfl;refine ac Tryz.func229 ?_;conv=>whnf
 repeat' (first|refine zx ?_|apply zD<;>intro<;>try omega)<;>conv=>whnf
 all_goals first|omega|(exfalso;simp_all;done)|exact Z4 e.symm
def bi9 (p q:Int) (hq:0<q) (p0:-9223372036854775808<=p) (p1:p<=9223372036854775807) (q1:q<=9223372036854775807):
 ec 150 [eI p,eI q] [] (.tup [frS (fz (Rat.divInt p q)),eI 0]) []:=by
 have l1:=P7 p0 p1;have l2:=P7 (x:=q) om q1;have o1:=b3B p p0 p1;have o2:=b3B q om q1;have n:=aT4 p q hq om om;refine ac Tryz.func150 ?_;conv=>whnf
 repeat' (first|refine zx ?_|apply zD<;>intro<;>try omega)<;>conv=>whnf
 all_goals exact Z4 rfl
def a4Y (n:Int) (p0:-9223372036854775808<=n) (p1:n<=9223372036854775807):ec 81 [eI n] [] (frS (fz (n:Rat))) []:=by
 have o:=bi9 n 1 de p0 p1 de;have e:Rat.divInt n 1=(n:Rat):=by rw [a7e];simp;grind
 rw [e] at o;refine ac Tryz.func81 ?_;conv=>whnf
 repeat' (first|refine zx ?_|apply zD<;>intro<;>try omega)<;>conv=>whnf
 all_goals exact m9 rz
theorem au6 (b:Bg) (hl:b.dl.length<=1000000):d6 Tryz.prog 143 [bgS b,bgS b] [] (i9 true) []:=by
 have l2:(b.dl.map k6).length=b.dl.length:=by simp
 (refine ac Tryz.func143 ?_;(conv=>whnf);repeat ((first|refine b0x ?_|refine zy ?_);conv=>whnf))
 repeat' (first|refine zx ?_|refine zd ?_ ?_<;>intro h<;>try omega|fail)<;>conv=>whnf
 all_goals try omega
 refine j3 d7 (fun k=>([J,J,S.c (C.t (T.ptr [ti b.sg,x6 b.dl])),S.c (C.t (T.ptr [ti b.sg,x6 b.dl])),J,c9 .i64 k]++Jn 32,[])) b.dl.length (fun _=>True) [] trivial
  ⟨rfl,rfl,trivial,⟨rfl,rfl,rfl,trivial⟩⟩ ?_
 intro k hk _
 by_cases hlt:k<b.dl.length
 ·conv=>whnf
  repeat' (first|refine zx ?_|refine i6 (w7 (by omega)) ?_|refine zd ?_ ?_<;>intro h<;>try omega|fail)<;>conv=>whnf
  all_goals first
   |omega
   |exact ⟨hlt,trivial,[],rfl,rfl,trivial,⟨rfl,rfl,rfl,trivial⟩⟩
 ·conv=>whnf
  repeat' (first|refine zx ?_|refine zd ?_ ?_<;>intro h<;>try omega|fail)<;>conv=>whnf
  all_goals first
   |omega
   |exact d9 rfl
def b8u (f:Fr) (lp:f.p.dl.length<=1000000) (lq:f.q.dl.length<=1000000):ec 77 [frS f,frS f] [] (i9 true) []:=by
 have s1:=au6 f.p lp;have s2:=au6 f.q lq;refine ac Tryz.func77 ?_;conv=>whnf
 repeat' (first|refine zx ?_|apply zD<;>intro<;>try omega)<;>conv=>whnf
 all_goals first|(exfalso;simp_all;done)|exact d9 rfl
def b08 (n:Int) (f:Fr):Bool:=decide ((f.p.dl.length:Int)<=n) && decide ((f.q.dl.length:Int)<=n)
def bd4 (f:Fr) (n:Int):ec 113 [frS f,eI n] [] (i9 (b08 n f)) []:=by
 have l1:(f.p.dl.map k6).length=f.p.dl.length:=zq;have l2:(f.q.dl.map k6).length=f.q.dl.length:=zq;refine ac Tryz.func113 ?_;conv=>whnf
 repeat' (first|refine zx ?_|apply zD<;>intro<;>try omega)<;>conv=>whnf
 all_goals (refine d9 ?_;unfold b08;simp;omega)
abbrev ir (n:Int):Rat:=((n:Int):Rat)
def b6l {n:Int} (h:-1000<=n∧n<=1000):rl (ir n)<=1:=by rw [U9];have:=p7 (x:=n) om om;omega
instance:DecidableEq x4:=fun a b=>decidable_of_iff (a.terms=b.terms∧a.kind=b.kind∧a.value=b.value) ⟨fun ⟨h1,h2,h3⟩=>by cases a;cases b;simp_all,fun h=>by subst h;exact ⟨rfl,rfl,rfl⟩⟩
instance:DecidableEq i8:=fun a b=>decidable_of_iff (a.n=b.n∧a.rows=b.rows) ⟨fun ⟨h1,h2⟩=>by cases a;cases b;simp_all,fun h=>by subst h;exact ⟨rfl,rfl⟩⟩
def b0d:rl ((1:Int):Rat)<=200∧rl ((-1:Int):Rat)<=200∧rl ((0:Int):Rat)<=200:=by
 refine ⟨?_,?_,?_⟩
 ·have:=b6l (n:=1) de;unfold ir at this;omega
 ·have:=b6l (n:=-1) de;unfold ir at this;omega
 ·have:=b6l (n:=0) de;unfold ir at this;omega
def av9 (w:x4):Bool:=decide (w.terms.length<=100) && w.terms.all (fun t=>decide (rl t.2<=200)) && decide (rl w.value<=200)
def am4 {e:Ev} {p:Int}:∀k,(n9 e p k).all (fun t=>decide (rl t.2<=200))=true
 |0=>rfl
 |k+1=>by
  have ih:=am4 (e:=e) (p:=p) k;unfold n9;obtain ⟨p1,p2,p3⟩:=b0d;split
  ·exact ih
  ·split
   ·rw [a0H,ih];simpa using p1
   ·split
    ·rw [a0H,ih];simpa using p2
    ·exact ih
def b1L {i:Nat} {kind:Int} {v:Rat} (h:rl v<=200):av9 (A9 i kind v)=true:=by
 obtain ⟨p1,p2,p3⟩:=b0d;unfold av9 A9;simp [h];simpa using p1
def b88 {t:n7} {kind:Int} {i:Nat} {x:A8} (hx:t.ev.moves[i]? =some x) (hf:O2 t.ev t.finds=0) (hm:t.ev.moves.length<=14):(J7 t kind i x).all av9=true:=by
 obtain ⟨p1,p2,p3⟩:=b0d;have hi:i<t.ev.moves.length:=(lbe.1 hx).1;unfold J7;rw [a0H,a0H,a0H];simp only [lbM];refine ⟨⟨⟨?_,?_⟩,?_⟩,?_⟩
 ·split
  ·rfl
  ·simp only [aq9,List.all_nil,a8P];unfold av9 x3;simp only [lbM,lbH];have hl:=a1c (e:=t.ev) (p:=x.src) i;refine ⟨⟨?_,?_⟩,p3⟩
   ·rw [lbq];simp;omega
   ·rw [a0H,am4];simpa using p2
 ·unfold W6;split
  ·rfl
  ·rename_i lo hi' hiv;have h:=ah1 (e:=t.ev) (x:=x) (by rw [hiv];rfl);have e:hiR (N1 t.ev x)=hi':=by rw [hiv];rfl
   rw [e] at h;simpa using b1L h.2
 ·rw [List.all_map,lbv];intro g hg;unfold t6 at hg;obtain ⟨f,hf',rfl⟩:=lbw.1 hg;have:=Z8 hf f (lbx.1 hf').1;have hb:=P7 (x:=f.grams) om om;exact b1L (by rw [U9];omega)
 ·rw [lbv];intro w hw;rw [a8t] at hw;rw [hw.2];exact b1L p3
def bv0 {t:n7} {kind:Int} (ht:p6 t=0) (hm:t.ev.moves.length<=14):T9 (j1 t kind):=by
 obtain ⟨q1,q2,q3,q4,q5⟩:=G3 ht;have hall:(s7 t kind t.ev.moves.length).all av9=true:=(W2 _ (lbQ _)).2 fun i x hi hx=>b88 hx q4 hm
 refine ⟨?_,fun w hw=>?_⟩
 ·have:=a73 (t:=t) (kind:=kind) (k:=t.ev.moves.length) om q2 q3;show (s7 t kind t.ev.moves.length).length<=_;omega
 ·have:=lbv.1 hall w hw;unfold av9 at this;simp only [lbM,lbH,lbv] at this;exact ⟨this.1.1,this.1.2,this.2⟩
def a5f {x:Int} (h0:-1000000000000000000<=x) (h1:x<=1000000000000000000):bl x<=3:=M8 (by simp only [pw];omega)
def b8g {c:L8} {reading day:Int} (h:K6 c day=true) (hr:btw reading 0 1099511627776=true):rl (a2u c reading day)<=7:=by
 unfold K6 Q3 at h;rw [W8] at hr;simp only [lbM,lbH,W8] at h;obtain ⟨⟨⟨⟨⟨⟨⟨h1,h2⟩,h3⟩,_⟩,h4⟩,h5⟩,h6⟩,h7⟩:=h;have e1:0<=c.permille*reading:=lbZ om om;have e2:c.permille*reading<=1000*1099511627776:=a4y om om om om;have e3:0<=c.drift*(day - c.since):=lbZ om om;have e4:c.drift*(day - c.since)<=10000000*100000:=a4y om om om om;have b1:=a5f (x:=c.permille*reading) om om;have b2:=a5f (x:=1000) de de;have b3:=a5f (x:=c.grams+c.drift*(day - c.since)) om om;have l1:=S7 (p:=c.permille*reading) (q:=1000) de;have l2:=a0O (Rat.divInt (c.permille*reading) 1000) ((c.grams+c.drift*(day - c.since):Int):Rat);have l3:rl ((c.grams+c.drift*(day - c.since):Int):Rat)<=3:=by
  rw [U9];omega
 unfold a2u;omega
def b7k {cs:List L8} {rs:List E9} {scale reading day:Int} {lo hi:Rat} (h:L4 cs rs scale reading day=some (lo,hi)):rl hi<=11:=by
 unfold L4 at h;split at h
 ·cases h
 ·rename_i i hi;obtain ⟨hb,c,hc,_,hcv⟩:=N5 hi;have e:a1m cs i=c:=by unfold a1m;rw [hc];rfl
  rw [e] at h;split at h
  ·cases h
  ·split at h
   ·rename_i hr;injection h with h;injection h with h1 h2;have l1:=b8g hcv hr;rw [W8] at hr;have l2:rl (reading:Rat)<=3:=by rw [U9];have:=a5f (x:=reading) om om;omega
    have l3:=a0O (reading:Rat) (a2u c reading day);rw [← h2];omega
   ·cases h
def z6 (l:List (Int × Rat)):Prop:=∀t ∈ l,∃c:Int,t.2=((c:Int):Rat)∧bl c<=1
def S8 {i:Int} {c:Int} (h0:-1048575<=c) (h1:c<=1048575):z6 [(i,((c:Int):Rat))]:=by
 intro t ht;simp at ht;subst ht;exact ⟨c,rfl,p7 h0 h1⟩
def a63 {a b:List (Int × Rat)} (ha:z6 a) (hb:z6 b):z6 (a++b):=by
 intro t ht;rcases lby.1 ht with h|h
 ·exact ha t h
 ·exact hb t h
def a34 {e:Ev} {p:Int}:∀k,z6 (n9 e p k)
 |0=>by intro t ht;cases ht
 |k+1=>by
  have ih:=a34 (e:=e) (p:=p) k;unfold n9;split
  ·exact ih
  ·split
   ·exact a63 ih (S8 de de)
   ·split
    ·exact a63 ih (S8 de de)
    ·exact ih
def b5l {t:n7} {kind:Int} (ht:p6 t=0):∀w ∈ (j1 t kind).rows,a5c 11 w:=by
 classical
 obtain ⟨q1,q2,q3,q4,q5⟩:=G3 ht;have z1:rl ((0:Int):Rat)<=11:=by have:=rl0;show rl 0<=_;omega
 have key:(s7 t kind t.ev.moves.length).all (fun w=>decide (a5c 11 w))=true:=(W2 _ (lbQ _)).2 fun i x hi hx=>by
  rw [lbv];intro w hw;refine lbG ?_;unfold J7 at hw;rw [lby,lby,lby] at hw;rcases hw with ((hw|hw)|hw)|hw
  ·split at hw
   ·cases hw
   ·simp at hw;subst hw;exact ⟨a63 (a34 _) (S8 de de),z1⟩
  ·unfold W6 at hw;split at hw
   ·cases hw
   ·rename_i lo hi' hiv;simp at hw;subst hw;refine ⟨S8 de de,?_⟩;unfold N1 at hiv;split at hiv
    ·cases hiv
    ·exact b7k hiv
  ·obtain ⟨g,hg,rfl⟩:=lbw.1 hw;unfold t6 at hg;obtain ⟨f,hf',rfl⟩:=lbw.1 hg;have:=Z8 q4 f (lbx.1 hf').1;refine ⟨S8 de de,?_⟩;show rl ((f.grams:Int):Rat)<=11;rw [U9];have:=a5f (x:=f.grams) om om;have h1:bl 1<=1:=p7 de de;omega
  ·rw [a8t] at hw;rw [hw.2];exact ⟨S8 de de,z1⟩
 intro w hw;exact lbK (lbv.1 key w hw)
def bs5 {s:i8} {g:List (Int × Rat)} {B0:Nat} (hI:∀w ∈ s.rows,a5c B0 w) (hg:z6 g):∀D,M6 (f8 s).length s.n.toNat (j4 s g) D->BdD (f8 s).length s.n.toNat (2 ^ s.n.toNat*(B0+4)) D:=by
 rintro D ⟨k,hk⟩;have inv:=W7 T4 hk;have h0:=b3Q (g:=g) hI;refine ⟨fun i hi=>b9j h0 om inv.p inv.i hi,fun i hi j hj=>b2l h0 om inv.p inv.i hi hj,fun j hj=>?_⟩;obtain ⟨z,hz⟩:=inv.g;have hc:∀j,∃c:Int,y5 g j=((c:Int):Rat)∧bl c<=1:=fun j=>a19 hg g.length j
 refine b2f h0 om inv.p inv.i hz (q:=1) (b:=fun l=>-(Classical.choose (hc l))) de (by have:=p7 (x:=1) de de;omega) (fun l hl=>?_) (fun l hl=>?_) hj
 ·have:=(a2d (hc l)).2;show bl (-(Classical.choose (hc l)))<=_;rw [a4u];omega
 ·have hs:=(a2d (hc l)).1;show ((1:Int):Rat)*-(y5 g l)=((-(Classical.choose (hc l)):Int):Rat);generalize Classical.choose (hc l)=x at hs ⊢;rw [hs];have e:((-x:Int):Rat)=-((x:Int):Rat):=by push_cast;rfl
  rw [e];have h1:((1:Int):Rat)=1:=rfl;rw [h1];grind
def a1U {l:List (Int × Rat)} {z:List Rat} {B:Nat} (h1:∀t ∈ l,rl t.2<=1) (h2:∀v ∈ z,rl v<=B):∀k,rl (m7 (l.take k) z)<=l.length*(B+4)+1:=by
 have key:∀k,k<=l.length->rl (m7 (l.take k) z)<=k*(B+4)+1:=by
  intro k;induction k with
  |zero=>intro _;rw [ax9];have:=rl0;show rl 0<=_;omega
  |succ k ih=>
   intro hk;have ih:=ih om;rw [aE2 (show k<l.length by omega),I6];have a1:=h1 l[k] (lbD _);have a2:rl (z.getD l[k].1.toNat 0)<=B+1:=by
    by_cases hz:l[k].1.toNat<z.length
    ·have:=h2 _ (lbm (getD_some hz));omega
    ·rw [lbl,lbd om];have:=rl0;show rl 0<=_;omega
   have a3:=a39 l[k].2 (z.getD l[k].1.toNat 0);have a4:=a0O (m7 (l.take k) z) (l[k].2*z.getD l[k].1.toNat 0);rw [lbU];omega
 intro k;by_cases hk:k<=l.length
 ·have h3:=key k hk;have h4:=lbT (B+4) hk;omega
 ·have h3:=key l.length (lbQ _);rw [lbn (lbQ _)] at h3;rw [lbn om];exact h3
def E5 {l:List (Int × Rat)} (h:z6 l):∀t ∈ l,rl t.2<=1:=by
 intro t ht;obtain ⟨c,hc,hb⟩:=h t ht;rw [hc,U9];have h1:bl 1<=1:=p7 de de;omega
def b1x:∀n,n<=8->(n+3)*(2 ^ n*15+2)<=50000∧n*(2 ^ n*15+4)+1<=50000∧1<=2 ^ n*15:=by
 intro n hn;have:∀n,n<9->(n+3)*(2 ^ n*15+2)<=50000∧n*(2 ^ n*15+4)+1<=50000∧1<=2 ^ n*15:=de;exact this n om
def B5 {t:n7} {kind:Int} (ht:p6 t=0) (hm:t.ev.moves.length<=8) {g:List (Int × Rat)} (hg:j2 (-1) (t.ev.moves.length:Nat) g=true) (hw:z6 g):
 F3 (j1 t kind) g t.ev.moves.length (2 ^ t.ev.moves.length*15):=by
 obtain ⟨q1,q2,q3,q4,q5⟩:=G3 ht;have hB:=bv0 (kind:=kind) ht om;have hl:(j1 t kind).rows.length<=576:=by
  have h1:=W3 (t:=t) (kind:=kind) t.ev.moves.length;have h2:t.ev.moves.length*(2+t.finds.length+t.cleans.length)<=8*72:=lbS hm om;show (s7 t kind t.ev.moves.length).length<=_;omega
 have hwr:=E5 hw;refine ⟨⟨a67 om q2 q3,hg,rfl,om,fun w hw=>?_,fun t ht=>by have:=hwr t ht;omega,om⟩,hB,fun t ht=>by have:=hwr t ht;omega,?_,(b1x _ hm).2.2,(b1x _ hm).1,om⟩
 ·obtain ⟨a1,a2,a3⟩:=hB.t w hw;exact ⟨om,fun t ht=>by have:=a2 t ht;omega⟩
 ·exact bs5 (B0:=11) (b5l ht) hw
def a3l {s:i8} {g:List (Int × Rat)} {n B:Nat} (h:F3 s g n B):∀v ∈ m8 s g,rl v<=B:=by
 intro v hv;have hb:=a9u h;have hn:=h.nn;have h1:=h.b1;obtain ⟨j,hj,rfl⟩:=a4q hv;have hp:R4 (f8 s).length s.n.toNat (o6 s g):=I0.p;rw [hn] at hj hp ⊢;rw [← ai5 hp hj];have key:∀k,k<=(f8 s).length->rl (ptK n (o6 s g).O (o6 s g).V (fun _=>0) k j)<=B:=by
  intro k;induction k with
  |zero=>intro _;have:=rl0;show rl 0<=_;omega
  |succ k ih=>
   intro hk;rw [G8];simp only;split
   ·exact hb.v k om
   ·exact ih om
 exact key _ (lbQ _)
def a1H {l:List (Int × Rat)} (h:z6 l):z6 (w8 l):=by
 intro t ht;obtain ⟨u,hu,rfl⟩:=lbw.1 ht;obtain ⟨c,hc,hb⟩:=h u hu;refine ⟨-c,?_,by rw [a4u];exact hb⟩;show u.2*((-1:Int):Rat)=((-c:Int):Rat);rw [hc];have e:((-c:Int):Rat)=-((c:Int):Rat):=by push_cast;rfl
 have e1:((-1:Int):Rat)=-1:=rfl;rw [e,e1];grind
def a3w {n:Int}:∀{l:List (Int × Rat)} {last:Int},j2 last n l=true->j2 last n (w8 l)=true
 |[],_,_=>rfl
 |a::r,last,h=>by
  unfold j2 at h;show j2 last n ((a.1,a.2*((-1:Int):Rat))::w8 r)=true;unfold j2;simp only [lbM,lbH] at h ⊢;refine ⟨⟨⟨h.1.1.1,h.1.1.2⟩,fun e=>h.1.2 ?_⟩,a3w h.2⟩;have e1:((-1:Int):Rat)=-1:=rfl;rw [e1] at e;grind
def a0e (l:List (Int × Rat)):(w8 l).length=l.length:=a1Y _ _
def b12 {t:n7} {kind:Int} (ht:p6 t=0) (hm:t.ev.moves.length<=8) {g:List (Int × Rat)} (hg:j2 (-1) (t.ev.moves.length:Nat) g=true) (hw:z6 g):
 b3y (j1 t kind) g t.ev.moves.length (2 ^ t.ev.moves.length*15) (2 ^ t.ev.moves.length*15) (2 ^ t.ev.moves.length*15):=by
 have p:=B5 (kind:=kind) ht hm hg hw;have q:=B5 (kind:=kind) ht hm (a3w hg) (a1H hw);have z:=B5 (kind:=kind) ht hm (g:=[]) rfl (fun t ht=>by cases ht);have hl:g.length<=t.ev.moves.length:=by
  have:=s9 hg;omega
 have hp:=(b1x _ hm).2.1;have hmul:=lbT (2 ^ t.ev.moves.length*15+4) hl;refine ⟨p,q,z,a5B om hg,fun k=>?_,fun k=>?_⟩
 ·have:=a1U (E5 hw) (a3l p) k;omega
 ·have:=a1U (E5 (a1H hw)) (a3l q) k;rw [a0e] at this;omega
noncomputable def H9 (s:i8) (g:List (Int × Rat)) (hh:Int):a29:=
 open Classical in
 if 0<m7 g (m8 s g) then b6O s g hh else match F5 s (w8 g) with
 |.col c=>a7q s g c hh
 |_=>if m7 (w8 g) (m8 s (w8 g))<0 then bb8 s g hh else ad3 s g hh
def aj8 {z:List Rat} (hz:∀v ∈ z,0<=v):∀l:List (Int × Rat),(∀ t ∈ l,0<=t.2)->0<=m7 l z:=by
 intro l hl;have key:∀k,k<=l.length->0<=m7 (l.take k) z:=by
  intro k;induction k with
  |zero=>intro _;rw [ax9];exact lb2
  |succ k ih=>
   intro hk;have ih:=ih om;rw [aE2 (show k<l.length by omega),I6];have h1:=hl l[k] (lbD _);have h2:0<=z.getD l[k].1.toNat 0:=by
    by_cases hlt:l[k].1.toNat<z.length
    ·exact hz _ (lbm (getD_some hlt))
    ·rw [lbl,lbd om];exact lb2
   have h3:=lb0 h1 h2;grind
 have:=key l.length (lbQ _);rwa [X7] at this
def a97 {s:i8} {g:List (Int × Rat)} (hr:j6 s=true) (hg:j2 (-1) ((s.n.toNat:Nat):Int) g=true) (hp:∀t ∈ g,0<=t.2) (hz:F5 s []=.best):F5 s g=.best:=by
 rcases a3C s g with h|⟨r,h⟩|⟨c,h⟩
 ·exact h
 ·have h1:=(a0h hr rfl hz).1;rw [a7Z h] at h1;cases h1
 ·obtain ⟨h1,h2⟩:=a7U hr hg h;have:=aj8 h1.pos g hp;exact absurd h2 zg
def aK1 {s:i8} {g:List (Int × Rat)} (hr:j6 s=true) (hz:F5 s []=.best):F5 s g=.best∨∃c,F5 s g=.col c:=by
 rcases a3C s g with h|⟨r,h⟩|h
 ·exact .inl h
 ·have h1:=(a0h hr rfl hz).1;rw [a7Z h] at h1;cases h1
 ·exact .inr h
def b4c (s:i8) (g:List (Int × Rat)) (n B B1 B0:Nat) (h:b3y s g n B B1 B0) (hh:Int) (hp:∀t ∈ g,0<=t.2) (hz:F5 s []=.best):
 ec 75 [D8 s,k7 g,eI hh] [] (b1n (H9 s g hh)) []:=by
 have hn:=h.p.nn;have hg:j2 (-1) ((s.n.toNat:Nat):Int) g=true:=by rw [hn];exact h.p.o.tg
 have hb:=a97 h.p.o.r hg hp hz;unfold H9;by_cases h1:0<m7 g (m8 s g)
 ·rw [if_pos h1];exact ai6 s g n B B1 B0 h hh hb h1
 ·rw [if_neg h1];rcases aK1 (g:=w8 g) h.p.o.r hz with h2|⟨c,h2⟩
  ·rw [h2];simp only;by_cases h3:m7 (w8 g) (m8 s (w8 g))<0
   ·rw [if_pos h3];exact aM7 s g n B B1 B0 h hh hb h1 h2 h3
   ·rw [if_neg h3];exact ar8 s g n B B1 B0 h hh hb h1 h2 h3
  ·rw [h2];exact at7 s g n B B1 B0 c h hh hb h1 h2 hz
def a9B {n:Int}:∀{l:LI} {last:Int},(∀ (i:Nat) (x:Int),l[i]? =some x->last<x∧x<n)->(∀ (i:Nat) (x y:Int),l[i]? =some x->l[i+1]? =some y->x<y)->j2 last n (a33 l)=true
 |[],_,_,_=>rfl
 |a::r,last,h1,h2=>by
  show j2 last n ((a,((1:Int):Rat))::a33 r)=true;unfold j2;simp only [lbM,lbH];have h3:=h1 0 a rfl;refine ⟨⟨h3,de⟩,a9B (fun i x hx=>?_) (fun i x y hx hy=>h2 (i+1) x y (by simpa using hx) (by simpa using hy))⟩;have h4:=h1 (i+1) x (by simpa using hx);refine ⟨?_,h4.2⟩;have key:∀(i:Nat) (x:Int),r[i]? =some x->a<x:=by
   intro i;induction i with
   |zero=>intro x hx;exact h2 0 a x rfl (by simpa using hx)
   |succ i ih=>
    intro x hx;obtain ⟨y,hy⟩:∃y,r[i]? =some y:=⟨_,lbf (by have:=(lbe.1 hx).1;omega)⟩;have:=ih y hy;have:=h2 (i+1) y x (by simpa using hy) (by simpa using hx);omega
  exact key i x hx
def H7 (t:n7) (h:Int):j2 (-1) (t.ev.moves.length:Nat) (v4 t h)=true:=by
 obtain ⟨a1,a2⟩:=b3J t.ev h (-1) 0 100000;exact a9B (fun i x hx=>by have:=a1 i x hx;omega) a2
def N8 (t:n7) (h:Int):z6 (v4 t h):=by
 intro u hu;obtain ⟨i,_,rfl⟩:=lbw.1 hu;exact ⟨1,rfl,p7 de de⟩
def a8G (t:n7) (h:Int):∀u ∈ v4 t h,0<=u.2:=by
 intro u hu;obtain ⟨i,_,rfl⟩:=lbw.1 hu;show (0:Rat)<=((1:Int):Rat)
 decide
def a0V {t:n7} {h:Int}:(E7 t.ev h (-1) 0 100000).length<=t.ev.moves.length:=by
 have:=s9 (H7 t h);have e:(v4 t h).length=(E7 t.ev h (-1) 0 100000).length:=by simp [v4,a33]
 omega
noncomputable def a0l (t:n7) (kind:Int) (k:Nat):List a29:=(List.range k).map fun i:Nat=>H9 (j1 t kind) (v4 t (i:Int)) (i:Int)
def a0S (t:n7) (kind:Int) (k:Nat):(a0l t kind k).length=k:=by simp [a0l]
def aS7 (t:n7) (kind:Int) (k:Nat):a0l t kind (k+1)=a0l t kind k++[H9 (j1 t kind) (v4 t k) k]:=by simp [a0l,a5R]
abbrev bu7 (l:List a29):T:=.sl 5 .any (l.map a29.row)
abbrev aS9 (l:List a29):S:=.c (.t (bu7 l))
abbrev bm5 (l:List a29):Blk:={ mode:=.live,elem:=51,size:=5,rows:=toC (l.map a29.row),box:=false }
abbrev b6w (s:i8):Blk:={ mode:=.live,elem:=70,size:=2,rows:=[[.t (ti s.n),.t (G5 s.rows)]],box:=true }
def af2 (s:i8):I5 (b6w s).rows:=i5 [[ti s.n,G5 s.rows]]
def a5l (t:n7) (kind:Int) (hs:t.Sized) (h:a16 t kind≠0):ec 28 [trS t,eI kind] [] (.tup [aS9 [],eI 1]) []:=by
 have sy:=a5r t kind hs;refine ac Tryz.func28 ?_;conv=>whnf
 repeat' (first|refine zx ?_|refine bl0 [5] ?_|apply zD<;>intro h<;>try omega)<;>conv=>whnf
 all_goals first|omega|exact m9 rz
def a3f (t:n7) (kind:Int) (hs:t.Sized) (ht:p6 t=0) (k0:0<=kind) (k1:kind<8) (hm:t.ev.moves.length<=8) (r:Nat) (hz:F5 (j1 t kind) []=.row r):
 ec 28 [trS t,eI kind] [] (.tup [aS9 [],eI 15]) []:=by
 have sy:=a5r t kind hs;have hc:¬(p6 t≠0∨kind<0∨8<=kind):=om;have e1:a16 t kind=0:=if_neg hc;have e2:a5N t kind=j1 t kind:=if_neg hc;rw [e1,e2] at sy;have so:=au0 (j1 t kind) _ _ r (B5 (kind:=kind) ht hm (g:=[]) rfl (fun t ht=>by cases ht)) hz;refine ac Tryz.func28 ?_;conv=>whnf
 repeat' (first|refine zx ?_|refine bl0 [5] ?_|apply zD<;>intro<;>try omega)<;>conv=>whnf
 all_goals first|omega|exact m9 rz
def a6J (t:n7) (kind:Int) (hs:t.Sized) (ht:p6 t=0) (k0:0<=kind) (k1:kind<8) (hm:t.ev.moves.length<=8) (hh:Nat) (hhs:t.ev.hhs=hh) (h100:hh<=1000) (hz:F5 (j1 t kind) []=.best):
 ec 28 [trS t,eI kind] [] (.tup [aS9 (a0l t kind hh),eI 0]) []:=by
 have sy:=a5r t kind hs;have hc:¬(p6 t≠0∨kind<0∨8<=kind):=om;have e1:a16 t kind=0:=if_neg hc;have e2:a5N t kind=j1 t kind:=if_neg hc;rw [e1,e2] at sy;have lz:=B5 (kind:=kind) ht hm (g:=[]) rfl (fun t ht=>by cases ht);have so:=ah0 (j1 t kind) _ _ lz hz (fun v hv=>by have:=a8x lz v hv;omega)
 (refine ac Tryz.func28 ?_;(conv=>whnf);repeat ((first|refine b0x ?_|refine zy ?_);conv=>whnf))
 repeat' (first|refine zx ?_|refine bl0 [5] ?_|apply zD<;>intro h<;>try omega)<;>conv=>whnf
 all_goals try omega
 refine j3 d7 (fun k=>([J,J,S.c (C.t (T.ptr (trT t))),J,J,J,sP 0 0 0,J,J,J,J,S.c (C.own 1 0 k true)]++Jn 19++[eI hh,eI k]++Jn 13,[b6w (j1 t kind),bm5 (a0l t kind k)])) hh tT [some 0,none] trivial
  ⟨rfl,rfl,⟨j0 (af2 _),rz⟩,⟨l9 rfl,rz,rz,e7 hhs,e7 rfl,trivial⟩⟩ ?_
 intro k hk _;by_cases hlt:k<hh
 ·have go:=a8d t hs k (by have:=a0V (t:=t) (h:=k);omega);have eg:a0C t k=v4 t k:=if_pos ⟨ht,om,om⟩;rw [eg] at go;have ve:=b4c (j1 t kind) (v4 t k) _ _ _ _ (b12 (kind:=kind) ht hm (H7 t k) (N8 t k)) k (a8G t k) hz;have lA:k<=(bm5 (a0l t kind k)).rows.length:=by show k<=(toC _).length;simp [toC,a0S]
  conv=>whnf
  repeat' (first|refine zx ?_|refine w6 lA zu ?_|apply zD<;>intro h<;>try omega)<;>conv=>whnf
  all_goals first
   |omega
   |(refine ⟨hlt,trivial,[some 0,some 2],rfl,rfl,⟨j0 (af2 _),e8 (rows:=(a0l t kind (k+1)).map a29.row) rfl rfl rfl ?_ rfl,trivial⟩,⟨rfl,rz,⟨rfl,rfl,rfl,fun h=>h⟩,rfl,e7 om,trivial⟩⟩
     rw [aS7];exact Y0 (f:=a29.row) (x:=H9 (j1 t kind) (v4 t k) k) (a0S t kind k).symm)
 ·have hke:k=hh:=by omega
  subst hke;conv=>whnf
  repeat' (first|refine zx ?_|apply zD<;>intro h<;>try omega)<;>conv=>whnf
  all_goals first|omega|exact m9 ⟨(show VC _ (fun id=>L9 [] id=true) (C.own 1 0 k true) _ from u5 (k:=bm5 (a0l t kind k)) rfl rfl (fun h=>h) rfl rfl (by simp [a0S])),rz⟩
structure as3 (a b:LI) (i:Nat) (out:LI) (c:Int):Prop where
 len:out.length=i
 ok:Okd out
 le:i<=max a.length b.length+1
 top:i=max a.length b.length+1->c=0
 c0:0<=c
 c1:c<=1
 eq:val out+pw i*c=val (a.take i)+val (b.take i)
def as3.init (a b:LI):as3 a b 0 [] 0:=⟨rfl,.nil,H8 _,fun _=>rfl,de,de,by simp [val]⟩
def as3.step {a b out:LI} {i:Nat} {c:Int} (h:as3 a b i out c) (ha:Okd a) (hb:Okd b) (hi:i<a.length∨i<b.length∨0<c):
 as3 a b (i+1) (out++[(dat a i+dat b i+c) % 1048576]) ((dat a i+dat b i+c) / 1048576):=by
 have h1:=ha.dat i;have h2:=hb.dat i;have h3:=h.c0;have h4:=h.c1;have hl:=h.le;have ht:=h.top;have hi2:i<=max a.length b.length:=by
  rcases F6 (max a.length b.length) i with h5|h5
  ·have:=ht om;omega
  ·exact h5
 refine ⟨by simp [h.len],h.ok.append (Okd.cons (a6c _) .nil),om,fun e=>?_,om,om,?_⟩
 ·have e1:dat a i=0:=S5 om;have e2:dat b i=0:=S5 om;rw [e1,e2];omega
 ·rw [K9,h.len,u6,u6,I4];have h5:=h.eq;have h6:(dat a i+dat b i+c) % 1048576=dat a i+dat b i+c - 1048576*((dat a i+dat b i+c) / 1048576):=om;simp only [val];rw [h6];grind
def as3.fin {a b out:LI} {i:Nat} {c:Int} (h:as3 a b i out c) (la:a.length<=i) (lb:b.length<=i) (hc:c<=0):J6 out=dg (val a+val b).toNat:=by
 have h1:=h.eq;have h2:=h.c0;obtain rfl:c=0:=om;rw [lbn la,lbn lb] at h1;rw [N2 h.ok]
 congr 2
 grind
def bl8 (a b:LI) (ha:Okd a) (hb:Okd b) (la:a.length<=400000) (lb:b.length<=400000):
 ec 327 [k9 a,k9 b] [] (k9 (dg (val a+val b).toNat)) []:=by
 have l1:(a.map k6).length=a.length:=zq;have l2:(b.map k6).length=b.length:=zq;refine ac Tryz.func327 ?_;conv=>whnf
 repeat' (first|refine zx ?_|apply zD<;>intro h<;>try omega)<;>conv=>whnf
 refine p9 d7 (σ:=Nat × LI × Int) (fun|(k,out,c)=>([k9 a,k9 b,J,J,J,a0K 0 out,eI c,eI k]++Jn 35,[x9 out])) (fun x=>as3 a b x.1 x.2.1 x.2.2) (fun x=>max a.length b.length+1 - x.1) (0,[],0) [none]
  (as3.init a b) ⟨rfl,rfl,rz,⟨l9 rfl,l9 rfl,rz⟩⟩ ?_
 rintro ⟨k,out,c⟩ hI;have hI:as3 a b k out c:=hI;have hlen:=hI.len;have hle:=hI.le;have hc0:=hI.c0;have hc1:=hI.c1;have hda:=ha.dat k;have hdb:=hb.dat k;have d1:=a6n a k om;have d2:=a6n b k om;have hm:(dat a k+dat b k+c).tmod 1048576=(dat a k+dat b k+c) % 1048576:=a5J om;have hd:(dat a k+dat b k+c).tdiv 1048576=(dat a k+dat b k+c) / 1048576:=a48 om;by_cases hgo:k<a.length∨k<b.length∨0<c
 ·have hst:=hI.step ha hb hgo;have hk2:=hst.le;conv=>whnf
  repeat' (first|refine zx ?_|refine w6 zt zu ?_|refine ⟨de,_,D7 hd om om,?_⟩|refine ag7 de ?_|apply zD<;>intro h<;>try omega)<;>conv=>whnf
  all_goals try omega
  all_goals
   refine ⟨[some 1],(k+1,out++[(dat a k+dat b k+c) % 1048576],(dat a k+dat b k+c) / 1048576),⟨rfl,rfl,⟨e8 rfl rfl rfl ?_ rfl,trivial⟩,⟨rfl,rfl,o8 rfl zt,rfl,e7 om,trivial⟩⟩,hst,?_⟩
   ·have e:∀y:Int,y=(dat a k+dat b k+c) % 1048576->(toC (out.map k6)).take out.length++toC [[ti y]]=toC ((out++[(dat a k+dat b k+c) % 1048576]).map k6):=fun y hy=>by rw [hy];exact a2h
    exact e _ om
   ·show max a.length b.length+1 - (k+1)<max a.length b.length+1 - k;omega
 ·have hf:=hI.fin om om om;have t:=a79 out om;rw [hf] at t;conv=>whnf
  repeat' (first|refine zx ?_|refine .inr ⟨_,_,y4 [0] t ⟨a1z (u5 zq rfl zi rfl rfl zq),trivial⟩ rfl,?_⟩|apply zD<;>intro h<;>try omega)<;>conv=>whnf
  all_goals first|omega|exact ao9 rfl
def b8e (m n:Nat) (lm:(dg m).length<=300000) (ln:(dg n).length<=300000):ec 327 [k9 (dg m),k9 (dg n)] [] (k9 (dg (m+n))) []:=by
 have h:=bl8 (dg m) (dg n) (v6 m) (v6 n) om om;rw [s6,s6,show ((m:Int)+n).toNat=m+n by omega] at h;exact h
def a8v (m n:Nat) (lm:(dg m).length<=300000) (h:n<=m):ec 328 [k9 (dg m),k9 (dg n)] [] (k9 (dg (m - n))) []:=by
 have h:=b37 (dg m) (dg n) (v6 m) (v6 n) om (q9 h) (by rw [s6,s6];omega);rw [s6,s6,show ((m:Int) - n).toNat=m - n by omega] at h;exact h
def b32 (m n:Nat) (lm:(dg m).length<=300000) (ln:(dg n).length<=300000):ec 304 [k9 (dg m),k9 (dg n)] [] (i9 (decide (m<n))) []:=by
 have h:=b7d (dg m) (dg n) (v6 m) (v6 n) om om;rw [s6,s6,show decide ((m:Int)<n)=decide (m<n) by simp] at h;exact h
def b9L (s:Int) (m:Nat) (h:Sg s m) (lm:(dg m).length<=300000):ec 243 [bgS ⟨s,dg m⟩] [] (i9 true) []:=by
 have:=a3T ⟨s,dg m⟩ (show (dg m).length<=1000000 by omega);rw [← a7X h,a0g,a7X h] at this;exact this
def a57 (x:Int) (lx:bl x<=300000):ec 242 [bgS (bz x)] [] (bgS (bz (-x))) []:=by
 have r:=a10 x lx;have hs:=C4 x;have hsg:(bz x).sg=x.sign:=rfl;have sg:=L6 (0 - (bz x).sg) x.natAbs om (by unfold bl at lx;omega);rw [show (0 - (bz x).sg)*(x.natAbs:Int)=-x by rw [hsg];have:=sgm x;grind] at sg;refine ac Tryz.func242 ?_;conv=>whnf
 repeat' (first|refine zx ?_|apply zD<;>intro<;>try omega)<;>conv=>whnf
 all_goals first|(exfalso;simp_all;done)|exact m9 rz
def a4i {α:Type} {l:List α} {k:Nat} {x:α} (h:l[k]? =some x):l.take (k+1)=l.take k++[x]:=by
 rw [lbF,h];rfl
theorem bg9 (a b:Bg) (ha:a.dl.length<=1000000) (hb:b.dl.length<=1000000):d6 Tryz.prog 303 [bgS a,bgS b] [] (i9 (decide (a.sg=b.sg∧a.dl=b.dl))) []:=by
 have l1:(a.dl.map k6).length=a.dl.length:=by simp
 have l2:(b.dl.map k6).length=b.dl.length:=by simp
 by_cases h0:¬(a.sg=b.sg∧a.dl.length=b.dl.length)
 ·(refine ac Tryz.func303 ?_;(conv=>whnf);repeat ((first|refine b0x ?_|refine zy ?_);conv=>whnf))
  repeat' (first|refine zx ?_|refine zd ?_ ?_<;>intro h<;>try omega|fail)<;>conv=>whnf
  all_goals first
   |omega
   |(refine d9 (lbI ?_).symm;rintro ⟨h1,h2⟩;rw [h2] at h0;exact h0 ⟨h1,rfl⟩)
 have h0:a.sg=b.sg∧a.dl.length=b.dl.length:=Decidable.not_not.1 h0
 (refine ac Tryz.func303 ?_;(conv=>whnf);repeat ((first|refine b0x ?_|refine zy ?_);conv=>whnf))
 repeat' (first|refine zx ?_|refine zd ?_ ?_<;>intro h<;>try omega|fail)<;>conv=>whnf
 all_goals try omega
 refine j3 d7 (fun k=>([J,J,S.c (C.t (T.ptr [ti a.sg,x6 a.dl])),S.c (C.t (T.ptr [ti b.sg,x6 b.dl])),J,c9 .i64 k]++Jn 32,[])) a.dl.length (fun k=>a.dl.take k=b.dl.take k) [] rfl
  ⟨rfl,rfl,trivial,⟨rfl,rfl,rfl,trivial⟩⟩ ?_
 intro k hk hI
 by_cases hlt:k<a.dl.length
 ·obtain ⟨x,hx⟩:∃x,a.dl[k]? =some x:=⟨_,lbf hlt⟩
  obtain ⟨y,hy⟩:∃y,b.dl[k]? =some y:=⟨_,lbf (by omega)⟩
  conv=>whnf
  repeat' (first|refine zx ?_|refine i6 hx ?_|refine i6 hy ?_|refine zd ?_ ?_<;>intro h<;>try omega|fail)<;>conv=>whnf
  ·have hne:x≠y:=‹x≠y›
   refine d9 (lbI ?_).symm
   rintro ⟨_,hq⟩;rw [hq,hy] at hx;injection hx with hx;exact hne hx.symm
  ·have hxy:x=y:=by omega
   refine ⟨hlt,?_,[],rfl,rfl,trivial,⟨rfl,rfl,rfl,trivial⟩⟩
   rw [a4i hx,a4i hy,hI,hxy]
  all_goals omega
 ·rw [lbn (by omega),lbn (by omega)] at hI
  conv=>whnf
  repeat' (first|refine zx ?_|refine zd ?_ ?_<;>intro h<;>try omega|fail)<;>conv=>whnf
  all_goals first
   |omega
   |exact d9 (lbG ⟨h0.1,hI⟩).symm
def bq4:a01 .or .i64 0 0 0:=by show (0:Int)=_;decide +kernel
def bp5:a01 .or .i64 0 1 1:=by show (1:Int)=_;decide +kernel
def bt7:a01 .or .i64 1 0 1:=by show (1:Int)=_;decide +kernel
def bt5:a01 .or .i64 1 1 1:=by show (1:Int)=_;decide +kernel
def br6:a01 .or .i64 0 (-1) (-1):=by show (-1:Int)=_;decide +kernel
def br5:a01 .or .i64 (-1) 0 (-1):=by show (-1:Int)=_;decide +kernel
def bu2:a01 .or .i64 (-1) (-1) (-1):=by show (-1:Int)=_;decide +kernel
def bj1 (s t:Int) (m n:Nat) (hs:Sg s m) (ht:Sg t n) (lm:(dg m).length<=200000) (ln:(dg n).length<=200000):
 ec 301 [bgS ⟨s,dg m⟩,bgS ⟨t,dg n⟩] [] (.tup [bgS (bz (s*m+t*n)),eI 0]) []:=by
 have r1:=b9L s m hs om;have r2:=b9L t n ht om;have ad:=b8e m n om om;have c:=b32 m n om om;have ls:=a4w m n;have fin:∀(z:Int) (H1:Hp),z=s*m+t*n->Fin 0 (.tup [bgS (bz z),eI 0]) H1 (.tup [bgS (bz (s*m+t*n)),eI 0]) []:=fun z H1 h=>a6W (by rw [h])
 rcases hs with ⟨rfl,rfl⟩|⟨rfl,h1⟩|⟨rfl,h1⟩<;>rcases ht with ⟨rfl,rfl⟩|⟨rfl,h2⟩|⟨rfl,h2⟩
 case inl.inl=>
  have sg:=L6 (0) _ om (I8 ls om);refine ac Tryz.func301 ?_;conv=>whnf
  repeat' (first|refine zx ?_|refine ⟨_,bq4,?_⟩|apply zD<;>intro h<;>try omega)<;>conv=>whnf
  all_goals first|omega|(exfalso;simp_all;done)|exact fin _ _ om
 case inl.inr.inl=>
  have sg:=L6 (1) _ om (I8 ls om);refine ac Tryz.func301 ?_;conv=>whnf
  repeat' (first|refine zx ?_|refine ⟨_,bp5,?_⟩|apply zD<;>intro h<;>try omega)<;>conv=>whnf
  all_goals first|omega|(exfalso;simp_all;done)|exact fin _ _ om
 case inl.inr.inr=>
  have sg:=L6 (-1) _ om (I8 ls om);refine ac Tryz.func301 ?_;conv=>whnf
  repeat' (first|refine zx ?_|refine ⟨_,br6,?_⟩|apply zD<;>intro h<;>try omega)<;>conv=>whnf
  all_goals first|omega|(exfalso;simp_all;done)|exact fin _ _ om
 case inr.inl.inl=>
  have sg:=L6 (1) _ om (I8 ls om);refine ac Tryz.func301 ?_;conv=>whnf
  repeat' (first|refine zx ?_|refine ⟨_,bt7,?_⟩|apply zD<;>intro h<;>try omega)<;>conv=>whnf
  all_goals first|omega|(exfalso;simp_all;done)|exact fin _ _ om
 case inr.inr.inl=>
  have sg:=L6 (-1) _ om (I8 ls om);refine ac Tryz.func301 ?_;conv=>whnf
  repeat' (first|refine zx ?_|refine ⟨_,br5,?_⟩|apply zD<;>intro h<;>try omega)<;>conv=>whnf
  all_goals first|omega|(exfalso;simp_all;done)|exact fin _ _ om
 case inr.inl.inr.inl=>
  have sg:=L6 (1) _ om (I8 ls om);refine ac Tryz.func301 ?_;conv=>whnf
  repeat' (first|refine zx ?_|refine ⟨_,bt5,?_⟩|apply zD<;>intro h<;>try omega)<;>conv=>whnf
  all_goals first|omega|(exfalso;simp_all;done)|exact fin _ _ om
 case inr.inr.inr.inr=>
  have sg:=L6 (-1) _ om (I8 ls om);refine ac Tryz.func301 ?_;conv=>whnf
  repeat' (first|refine zx ?_|refine ⟨_,bu2,?_⟩|apply zD<;>intro h<;>try omega)<;>conv=>whnf
  all_goals first|omega|(exfalso;simp_all;done)|exact fin _ _ om
 case inr.inl.inr.inr=>
  rcases F6 m n with hmn|hmn
  ·rw [lbG hmn] at c;have l3:=q9 (a4O n m);refine ac Tryz.func301 ?_;conv=>whnf
   repeat' (first|refine zx ?_|refine qp (a8v n m om om) ?_|refine qp (L6 (-1) (n - m) om om) ?_|apply zD<;>intro h<;>try omega)<;>conv=>whnf
   all_goals first|omega|(exfalso;simp_all;done)|exact fin _ _ om
  ·rw [lbI (Nat.not_lt.2 hmn)] at c;have l3:=q9 (a4O m n);refine ac Tryz.func301 ?_;conv=>whnf
   repeat' (first|refine zx ?_|refine qp (a8v m n om om) ?_|refine qp (L6 (1) (m - n) om om) ?_|apply zD<;>intro h<;>try omega)<;>conv=>whnf
   all_goals first|omega|(exfalso;simp_all;done)|exact fin _ _ om
 case inr.inr.inr.inl=>
  rcases F6 m n with hmn|hmn
  ·rw [lbG hmn] at c;have l3:=q9 (a4O n m);refine ac Tryz.func301 ?_;conv=>whnf
   repeat' (first|refine zx ?_|refine qp (a8v n m om om) ?_|refine qp (L6 (1) (n - m) om om) ?_|apply zD<;>intro h<;>try omega)<;>conv=>whnf
   all_goals first|omega|(exfalso;simp_all;done)|exact fin _ _ om
  ·rw [lbI (Nat.not_lt.2 hmn)] at c;have l3:=q9 (a4O m n);refine ac Tryz.func301 ?_;conv=>whnf
   repeat' (first|refine zx ?_|refine qp (a8v m n om om) ?_|refine qp (L6 (-1) (m - n) om om) ?_|apply zD<;>intro h<;>try omega)<;>conv=>whnf
   all_goals first|omega|(exfalso;simp_all;done)|exact fin _ _ om
def b6m (x y:Int) (lx:bl x<=200000) (ly:bl y<=200000):ec 301 [bgS (bz x),bgS (bz y)] [] (.tup [bgS (bz (x+y)),eI 0]) []:=by
 have h:=bj1 _ _ _ _ (a6P x) (a6P y) lx ly;rw [sgm,sgm] at h;exact h
def bb0 (x y:Int) (lx:bl x<=200000) (ly:bl y<=200000):ec 318 [bgS (bz x),bgS (bz y)] [] (.tup [bgS (bz (x - y)),eI 0]) []:=by
 have r:=a10 y om;have n:=a57 y om;have a:=b6m x (-y) lx (by rw [U3];exact ly);rw [← a9c] at a;refine ac Tryz.func318 ?_;conv=>whnf
 repeat' (first|refine zx ?_|refine bl0 [6] ?_|refine bl0 [1] ?_|apply zD<;>intro<;>try omega)<;>conv=>whnf
 all_goals first|(exfalso;simp_all;done)|exact a6W rfl
def bn1 (s t:Int) (m n:Nat) (hs:Sg s m) (ht:Sg t n) (lm:(dg m).length<=200000) (ln:(dg n).length<=200000):
 ec 240 [bgS ⟨s,dg m⟩,bgS ⟨t,dg n⟩] [] (.tup [bgS (bz ((s*t)*(m*n:Nat))),eI 0]) []:=by
 have r1:=b9L s m hs om;have r2:=b9L t n ht om;have mu:=aT7 m n om om;have ls:=a4r m n;have hst:-1<=s*t∧s*t<=1∧(s*t=1∨s*t=-1∨m*n=0):=by
  rcases hs with ⟨rfl,rfl⟩|⟨rfl,h1⟩|⟨rfl,h1⟩<;>rcases ht with ⟨rfl,rfl⟩|⟨rfl,h2⟩|⟨rfl,h2⟩<;>simp
 obtain ⟨q1,q2,q3⟩:=hst;have sg:=L6 (s*t) (m*n) q3 om;refine ac Tryz.func240 ?_;conv=>whnf
 repeat' (first|refine zx ?_|refine ⟨_,D7 (y:=s*t) rfl om om,?_⟩|apply zD<;>intro<;>try omega)<;>conv=>whnf
 all_goals first|(exfalso;simp_all;done)|exact a6W rfl
def a5S (x y:Int) (lx:bl x<=200000) (ly:bl y<=200000):ec 240 [bgS (bz x),bgS (bz y)] [] (.tup [bgS (bz (x*y)),eI 0]) []:=by
 have h:=bn1 _ _ _ _ (a6P x) (a6P y) lx ly;have e:(x.sign*y.sign)*((x.natAbs*y.natAbs:Nat):Int)=x*y:=by
  rw [a30];have h1:=sgm x;have h2:=sgm y;grind
 rw [e] at h;exact h
def b7K {x y:Int} (h:(bz x).sg=(bz y).sg∧(bz x).dl=(bz y).dl):x=y:=by
 have:bz x=bz y:=by
  obtain ⟨h1,h2⟩:=h;cases hx:bz x with
  |mk a b=>
   cases hy:bz y with
   |mk c d=>rw [hx,hy] at h1 h2;simp only at h1 h2;rw [h1,h2]
 rw [← a4Q x,←a4Q y,this]
def a8F (x y:Int) (lx:bl x<=300000) (ly:bl y<=300000):ec 241 [bgS (bz x),bgS (bz y)] [] (eI (M3 x y)) []:=by
 have r1:=a10 x lx;have r2:=a10 y ly;have hsx:(bz x).sg=x.sign:=rfl;have hsy:(bz y).sg=y.sign:=rfl;have sx:=C4 x;have sy:=C4 y;have sm:=bg9 (bz x) (bz y) (show bl x<=1000000 by omega) (show bl y<=1000000 by omega);by_cases he:x=y
 ·subst he;have sm:ec 303 [bgS (bz x),bgS (bz x)] [] (i9 true) []:=by rw [show decide ((bz x).sg=(bz x).sg∧(bz x).dl=(bz x).dl)=true from lbG rz] at sm;exact sm
  have e0:M3 x x=0:=by unfold M3;rw [if_neg om,if_neg om]
  rw [e0];refine ac Tryz.func241 ?_;conv=>whnf
  repeat' (first|refine zx ?_|apply zD<;>intro h<;>try omega)<;>conv=>whnf
  all_goals first|(exfalso;simp_all;done)|exact n8 rfl
 rw [lbI (fun h=>he (b7K h))] at sm;have ls:=b32 x.natAbs y.natAbs lx ly;rcases b0o he with hlt|hgt
 ·have e1:M3 x y=-1:=by unfold M3;rw [if_pos hlt]
  rw [e1];by_cases hl:x.natAbs<y.natAbs
  ·rw [lbG hl] at ls;refine ac Tryz.func241 ?_;conv=>whnf
   repeat' (first|refine zx ?_|apply zD<;>intro h<;>try omega)<;>conv=>whnf
   all_goals first|omega|(exfalso;simp_all;done)|exact n8 rfl
  ·rw [lbI hl] at ls;refine ac Tryz.func241 ?_;conv=>whnf
   repeat' (first|refine zx ?_|apply zD<;>intro h<;>try omega)<;>conv=>whnf
   all_goals first|omega|(exfalso;simp_all;done)|exact n8 rfl
 ·have e1:M3 x y=1:=by unfold M3;rw [if_neg om,if_pos om]
  rw [e1];by_cases hl:x.natAbs<y.natAbs
  ·rw [lbG hl] at ls;refine ac Tryz.func241 ?_;conv=>whnf
   repeat' (first|refine zx ?_|apply zD<;>intro h<;>try omega)<;>conv=>whnf
   all_goals first|omega|(exfalso;simp_all;done)|exact n8 rfl
  ·rw [lbI hl] at ls;refine ac Tryz.func241 ?_;conv=>whnf
   repeat' (first|refine zx ?_|apply zD<;>intro h<;>try omega)<;>conv=>whnf
   all_goals first|omega|(exfalso;simp_all;done)|exact n8 rfl
def b3t {x y:Int}:M3 x y=0↔x=y:=by unfold M3;split<;>(try split)<;>omega
def aI6 (f:Fr) (lp:f.p.dl.length<=200000) (lq:f.q.dl.length<=200000):ec 165 [frS f] [] (i9 (t7 f)) []:=by
 obtain ⟨p,q⟩:=f;simp only at lp lq;have r1:=a3T p om;have r2:=a3T q om;cases hp:J0 p with
 |false=>
  rw [hp] at r1;refine ac Tryz.func165 ?_;conv=>whnf
  repeat' (first|refine zx ?_|apply zD<;>intro<;>try omega)<;>conv=>whnf
  all_goals (first|(exfalso;simp_all;done)|(refine d9 ?_;unfold t7;simp [hp]))
 |true=>
  rw [hp] at r1;cases hq:J0 q with
  |false=>
   rw [hq] at r2;refine ac Tryz.func165 ?_;conv=>whnf
   repeat' (first|refine zx ?_|apply zD<;>intro<;>try omega)<;>conv=>whnf
   all_goals (first|(exfalso;simp_all;done)|(refine d9 ?_;unfold t7;simp [hq]))
  |true=>
   rw [hq] at r2;obtain ⟨x,rfl⟩:=ap2 hp;obtain ⟨y,rfl⟩:=ap2 hq;have hsg:(bz y).sg=y.sign:=rfl;have hsg2:(Fr.mk (bz x) (bz y)).q.sg=y.sign:=rfl;have sy:=C4 y;have lg:=a94 x y lp lq;have g:=b62 x y lp lq;have o:=b3B 1 de de;have c:=a8F (Int.gcd x y) 1 om (by have:=p7 (x:=1) de de;omega);have hc:=b3t (x:=Int.gcd x y) (y:=1);refine ac Tryz.func165 ?_;conv=>whnf
   repeat' (first|refine zx ?_|refine bl0 [5] ?_|apply zD<;>intro<;>try omega)<;>conv=>whnf
   all_goals first|(exfalso;simp_all;done)|(refine d9 ?_;unfold t7;simp only [a0g,a4Q,C2];simp;omega)
def a9o (x:Rat) (lx:rl x<=200000):ec 165 [frS (fz x)] [] (i9 true) []:=by
 have h:=aI6 (fz x) (lbR (E0 x) lx) (lbR (D5 x) lx);rw [ah4] at h;exact h
def ai0 (x y:Rat):0<(x.den:Int)*y.den:=a9p (by have:=x.den_pos;omega) (by have:=y.den_pos;omega)
def aQ6 (x y:Rat) (lx:rl x<=60000) (ly:rl y<=60000):ec 236 [frS (fz x),frS (fz y)] [] (.tup [frS (fz (x+y)),eI 0]) []:=by
 have r1:=a9o x om;have r2:=a9o y om;have x1:=E0 x;have x2:=D5 x;have y1:=E0 y;have y2:=D5 y;have l1:=C8 x.num y.den;have l2:=C8 y.num x.den;have l3:=C8 x.den y.den;have l4:=a7k (x.num*y.den) (y.num*x.den);have t1:=a5S x.num y.den om om;have t2:=a5S y.num x.den om om;have t3:=a5S x.den y.den om om;have a:=b6m (x.num*y.den) (y.num*x.den) om om;have n:=aT4 (x.num*y.den+y.num*x.den) (x.den*y.den) (ai0 x y) om om;rw [← ae4] at n;refine ac Tryz.func236 ?_;conv=>whnf
 repeat' (first|refine zx ?_|refine bl0 [7] ?_|refine bl0 [5] ?_|apply zD<;>intro<;>try omega)<;>conv=>whnf
 all_goals first|(exfalso;simp_all;done)|exact Z4 rfl
def bb5 (x y:Rat) (lx:rl x<=60000) (ly:rl y<=60000):ec 274 [frS (fz x),frS (fz y)] [] (.tup [frS (fz (x - y)),eI 0]) []:=by
 have r1:=a9o x om;have r2:=a9o y om;have x1:=E0 x;have x2:=D5 x;have y1:=E0 y;have y2:=D5 y;have l1:=C8 x.num y.den;have l2:=C8 y.num x.den;have l3:=C8 x.den y.den;have l4:=a7k (x.num*y.den) (-(y.num*x.den));rw [U3,←a9c] at l4;have t1:=a5S x.num y.den om om;have t2:=a5S y.num x.den om om;have t3:=a5S x.den y.den om om;have a:=bb0 (x.num*y.den) (y.num*x.den) om om;have n:=aT4 (x.num*y.den - y.num*x.den) (x.den*y.den) (ai0 x y) om om;have e:Rat.divInt (x.num*y.den - y.num*x.den) (x.den*y.den)=x - y:=by
  have:=ae4 x (-y);rw [af6,Rat.neg_den,Int.neg_mul,←a9c,←b0Z] at this;exact this.symm
 rw [e] at n;refine ac Tryz.func274 ?_;conv=>whnf
 repeat' (first|refine zx ?_|refine bl0 [7] ?_|refine bl0 [5] ?_|apply zD<;>intro<;>try omega)<;>conv=>whnf
 all_goals first|(exfalso;simp_all;done)|exact Z4 rfl
def bc1 (x y:Rat) (lx:rl x<=60000) (ly:rl y<=60000):ec 235 [frS (fz x),frS (fz y)] [] (.tup [frS (fz (x*y)),eI 0]) []:=by
 have r1:=a9o x om;have r2:=a9o y om;have x1:=E0 x;have x2:=D5 x;have y1:=E0 y;have y2:=D5 y;have l1:=C8 x.num y.num;have l3:=C8 x.den y.den;have t1:=a5S x.num y.num om om;have t3:=a5S x.den y.den om om;have n:=aT4 (x.num*y.num) (x.den*y.den) (ai0 x y) om om;rw [← aG0] at n;refine ac Tryz.func235 ?_;conv=>whnf
 repeat' (first|refine zx ?_|refine bl0 [7] ?_|refine bl0 [5] ?_|apply zD<;>intro<;>try omega)<;>conv=>whnf
 all_goals first|(exfalso;simp_all;done)|exact Z4 rfl
def aA6 (x y:Rat) (lx:rl x<=60000) (ly:rl y<=60000):ec 162 [frS (fz x),frS (fz y)] [] (eI (a1p x y)) []:=by
 have r1:=a9o x om;have r2:=a9o y om;have x1:=E0 x;have x2:=D5 x;have y1:=E0 y;have y2:=D5 y;have l1:=C8 x.num y.den;have l2:=C8 y.num x.den;have t1:=a5S x.num y.den om om;have t2:=a5S y.num x.den om om;have c:=a8F (x.num*y.den) (y.num*x.den) om om;rw [aX6] at c;refine ac Tryz.func162 ?_;conv=>whnf
 repeat' (first|refine zx ?_|refine bl0 [7] ?_|refine bl0 [5] ?_|apply zD<;>intro<;>try omega)<;>conv=>whnf
 all_goals first|(exfalso;simp_all;done)|exact n8 rfl
def a4z (x:Rat) (lx:rl x<=60000):ec 92 [frS (fz x)] [] (eI (sgR x)) []:=by
 have r1:=a9o x om;refine ac Tryz.func92 ?_;conv=>whnf
 repeat' (first|refine zx ?_|apply zD<;>intro<;>try omega)<;>conv=>whnf
 all_goals first|(exfalso;simp_all;done)|exact n8 (a8o x)
def b7t {α:Type} {f:α->List T} {l:List α} {k:Nat} {u:α} (hu:l[k]? =some u) {Φ:List T->Prop} (h:Φ (f u)):
 ∃row,(0<=bif true then if 0 > ((k+1:Nat):Int) - 1 then 0 else ((k+1:Nat):Int) - 1 else if 0<((k+1:Nat):Int) - 1 then 0 else ((k+1:Nat):Int) - 1)∧
  (l.map f)[(bif true then if 0 > ((k+1:Nat):Int) - 1 then 0 else ((k+1:Nat):Int) - 1 else if 0<((k+1:Nat):Int) - 1 then 0 else ((k+1:Nat):Int) - 1).toNat]? =some row∧Φ row:=by
 have e:(bif true then if 0 > ((k+1:Nat):Int) - 1 then 0 else ((k+1:Nat):Int) - 1 else if 0<((k+1:Nat):Int) - 1 then 0 else ((k+1:Nat):Int) - 1)=(k:Int):=by
  show (if 0 > ((k+1:Nat):Int) - 1 then 0 else ((k+1:Nat):Int) - 1)=_;rw [if_neg om];omega
 rw [e];exact ⟨f u,om,by rw [lbX,lba,hu];rfl,h⟩
def K5 (l:List (Int × Rat)) (n:Int) (hl:l.length<=1000000) (hB:∀t ∈ l,rl t.2<=200):ec 160 [k7 l,eI n] [] (i9 (decide (0<=n) && j2 (-1) n l)) []:=by
 have m1:(l.map o7).length=l.length:=zq;by_cases h0:n<0
 ·rw [lbI om,a2i];refine ac Tryz.func160 ?_;conv=>whnf
  repeat' (first|refine zx ?_|apply zD<;>intro h<;>try omega)<;>conv=>whnf
  all_goals first|omega|exact d9 rfl
 rw [lbG om,C2];refine ac Tryz.func160 ?_;conv=>whnf
 repeat' (first|refine zx ?_|apply zD<;>intro h<;>try omega)<;>conv=>whnf
 all_goals try omega
 refine j3 d7 (fun k=>([k7 l,eI n,J,J,J,eI k]++Jn 59,[])) l.length (fun k=>j2 (-1) n l=j2 (a3J l k) n (l.drop k)∧-1<=a3J l k) [] ⟨rfl,Int.le_refl _⟩
  rz ?_
 rintro k hk ⟨hI,hJ⟩;by_cases hlt:k<l.length
 ·obtain ⟨t,ht⟩:∃t,l[k]? =some t:=⟨_,lbf hlt⟩;obtain ⟨v,c⟩:=t;have bc:=hB _ (lbm ht);simp only at bc;have rr:=a9o c om;have sz:(fz c).p.sg=0↔c=0:=by
   show c.num.sign=0↔c=0;rw [b1A];exact Rat.num_eq_zero
  rw [a14 ht,j2] at hI;simp only at hI;by_cases hok:a3J l k<v∧v<n∧c≠0
  ·rw [lbG hok.1,lbG hok.2.1,lbG hok.2.2] at hI;simp only [C2] at hI;have hne:(fz (v,c).2).p.sg≠0:=fun h=>hok.2.2 (sz.1 h)
   obtain ⟨q1,q2,_⟩:=hok;cases k with
   |zero=>
    conv=>whnf
    repeat' (first|refine zx ?_|refine i6 ht ?_|apply zD<;>intro h<;>try omega)<;>conv=>whnf
    all_goals first
     |omega
     |exact ⟨hlt,⟨by rw [V4 ht];exact hI,by rw [V4 ht];simp only;omega⟩,[],rz⟩
   |succ k=>
    obtain ⟨u,hu⟩:∃u,l[k]? =some u:=⟨_,lbf om⟩;rw [V4 hu] at q1 hJ;conv=>whnf
    repeat' (first|refine zx ?_|refine i6 ht ?_|refine b7t hu ?_|apply zD<;>intro h<;>try omega)<;>conv=>whnf
    all_goals first|omega|exact ⟨hlt,⟨by rw [V4 ht];exact hI,by rw [V4 ht];simp only;omega⟩,[],rz⟩
  ·have hF:j2 (-1) n l=false:=by
    rw [hI];rw [← lbP];simp only [lbM,lbH];exact fun h=>hok ⟨h.1.1.1,h.1.1.2,h.1.2⟩
   rw [hF];have hor:v<=a3J l k∨n<=v∨(fz (v,c).2).p.sg=0:=by
    by_cases q1:a3J l k<v
    ·by_cases q2:v<n
     ·refine .inr (.inr (sz.2 ?_));by_cases q3:c=0
      ·exact q3
      ·exact absurd ⟨q1,q2,q3⟩ hok
     ·exact .inr (.inl om)
    ·exact .inl om
   clear hI hok;cases k with
   |zero=>
    have e0:a3J l 0=-1:=rfl;conv=>whnf
    repeat' (first|refine zx ?_|refine i6 ht ?_|apply zD<;>intro h<;>try omega)<;>conv=>whnf
    all_goals first
     |omega
     |exact d9 rfl
   |succ k=>
    obtain ⟨u,hu⟩:∃u,l[k]? =some u:=⟨_,lbf om⟩;rw [V4 hu] at hor;conv=>whnf
    repeat' (first|refine zx ?_|refine i6 ht ?_|refine b7t hu ?_|apply zD<;>intro h<;>try omega)<;>conv=>whnf
    all_goals first|omega|exact d9 rfl
 ·rw [lbo om] at hI;have hI:j2 (-1) n l=true:=hI;rw [hI];conv=>whnf
  repeat' (first|refine zx ?_|apply zD<;>intro h<;>try omega)<;>conv=>whnf
  all_goals first|omega|exact d9 rfl
def bs8 (w:x4) (n:Int) (hl:w.terms.length<=1000000) (hB:∀t ∈ w.terms,rl t.2<=200) (hv:rl w.value<=200):ec 275 [as7 w,eI n] [] (i9 (decide (0<=n) && u4 n w)) []:=by
 have rt:=K5 w.terms n hl hB;have rv:=a9o w.value om;unfold u4;cases h1:decide (0<=n)<;>cases h2:j2 (-1) n w.terms<;>rw [h1,h2] at rt<;>
 ·refine ac Tryz.func275 ?_;conv=>whnf
  repeat' (first|refine zx ?_|apply zD<;>intro<;>try omega)<;>conv=>whnf
  all_goals first|(exfalso;simp_all;done)|(refine d9 ?_;simp;done)|(refine d9 ?_;simp;omega)
theorem a1y (s:i8) (hb:T9 s):d6 Tryz.prog 211 [D8 s] [] (i9 (j6 s)) []:=by
 have m1:(s.rows.map p4).length=s.rows.length:=by simp
 have l1:=hb.n0
 by_cases h0:¬(0<=s.n∧s.n<=1500∧s.rows.length<=6000)
 ·have e1:j6 s=false:=by
   unfold j6
   rw [← lbP]
   simp only [lbM,lbH]
   exact fun h=>h0 ⟨h.1.1.1,h.1.1.2,h.1.2⟩
  rw [e1]
  (refine ac Tryz.func211 ?_;(conv=>whnf);repeat ((first|refine b0x ?_|refine zy ?_);conv=>whnf))
  repeat' (first|refine zx ?_|refine zd ?_ ?_<;>intro h<;>try omega|fail)<;>conv=>whnf
  all_goals first
   |omega
   |exact d9 rfl
 obtain ⟨c1,c2,c3⟩:=Decidable.not_not.1 h0
 have e1:j6 s=s.rows.all (u4 s.n):=by
  unfold j6
  rw [lbG c1,lbG c2,lbG c3];rfl
 rw [e1]
 clear h0
 (refine ac Tryz.func211 ?_;(conv=>whnf);repeat ((first|refine b0x ?_|refine zy ?_);conv=>whnf))
 repeat' (first|refine zx ?_|refine zd ?_ ?_<;>intro h<;>try omega|fail)<;>conv=>whnf
 all_goals try omega
 refine j3 d7 (fun k=>([J,S.c (C.t (T.ptr [ti s.n,G5 s.rows])),J,c9 .i64 k]++Jn 30,[])) s.rows.length (fun k=>(s.rows.take k).all (u4 s.n)=true) [] rfl
  ⟨rfl,rfl,trivial,⟨rfl,rfl,trivial⟩⟩ ?_
 intro k hk hI
 by_cases hlt:k<s.rows.length
 ·obtain ⟨w,hw⟩:∃w,s.rows[k]? =some w:=⟨_,lbf hlt⟩
  obtain ⟨b1,b2,b3⟩:=hb.t w (lbm hw)
  have rt:=bs8 w s.n (by omega) b2 b3
  rw [lbG c1,C2] at rt
  cases hrt:u4 s.n w with
  |false=>
   rw [hrt] at rt
   rw [x7 hw hrt]
   conv=>whnf
   repeat' (first|refine zx ?_|refine qp rt ?_|refine i6 hw ?_|refine zd ?_ ?_<;>intro h<;>try omega|fail)<;>conv=>whnf
   all_goals first
    |omega
    |(exfalso;simp_all;done)
    |exact d9 rfl
  |true=>
   rw [hrt] at rt
   conv=>whnf
   repeat' (first|refine zx ?_|refine qp rt ?_|refine i6 hw ?_|refine zd ?_ ?_<;>intro h<;>try omega|fail)<;>conv=>whnf
   all_goals first
    |omega
    |(exfalso;simp_all;done)
    |exact ⟨hlt,by rw [t5 hw,hI,hrt];rfl,[],rfl,rfl,trivial,⟨rfl,rfl,trivial⟩⟩
 ·rw [lbn (by omega)] at hI
  rw [hI]
  conv=>whnf
  repeat' (first|refine zx ?_|refine zd ?_ ?_<;>intro h<;>try omega|fail)<;>conv=>whnf
  all_goals first
   |omega
   |exact d9 rfl
def aC9 (z:List Fr) (hl:z.length<=1000000) (hd:∀f ∈ z,f.p.dl.length<=200000∧f.q.dl.length<=200000):ec 234 [n6 z] [] (i9 (z.all t7)) []:=by
 have m1:(z.map o4).length=z.length:=zq;refine ac Tryz.func234 ?_;conv=>whnf
 repeat' (first|refine zx ?_|apply zD<;>intro<;>try omega)<;>conv=>whnf
 refine j3 d7 (fun k=>([n6 z,J,J,eI k]++Jn 12,[])) z.length (fun k=>(z.take k).all t7=true) [] rfl
  rz ?_
 intro k hk hI;by_cases hlt:k<z.length
 ·obtain ⟨f,hf⟩:∃f,z[k]? =some f:=⟨_,lbf hlt⟩;have q:=hd f (lbm hf);have rr:=aI6 f q.1 q.2;cases hff:t7 f with
  |true=>
   rw [hff] at rr;conv=>whnf
   repeat' (first|refine zx ?_|refine i6 hf ?_|apply zD<;>intro<;>try omega)<;>conv=>whnf
   all_goals first
    |omega
    |exact ⟨hlt,by rw [t5 hf,hI,hff];rfl,[],rz⟩
  |false=>
   rw [hff] at rr;rw [x7 hf hff];conv=>whnf
   repeat' (first|refine zx ?_|refine i6 hf ?_|apply zD<;>intro<;>try omega)<;>conv=>whnf
   all_goals first|omega|exact d9 rfl
 ·rw [lbn om] at hI;rw [hI];conv=>whnf
  repeat' (first|refine zx ?_|apply zD<;>intro<;>try omega)<;>conv=>whnf
  all_goals first|omega|exact d9 rfl
def ag8 (z:List Rat) (hl:z.length<=1000000) (hd:∀v ∈ z,rl v<=200000):ec 234 [n6 (z.map fz)] [] (i9 true) []:=by
 have pt:=aC9 (z.map fz) (by simpa using hl) (fun f hf=>by
  obtain ⟨x,hx,rfl⟩:=lbw.1 hf;have:=hd x hx;have a:=E0 x;have b:=D5 x;exact ⟨by show bl x.num<=_;omega,by show bl x.den<=_;omega⟩)
 rw [a6d] at pt;exact pt
def ac4 (l:List (Int × Rat)) (z:List Rat) (hl:l.length<=1000000) (h1:∀t ∈ l,rl t.2<=200) (h2:∀v ∈ z,rl v<=40000) (hS:∀k,rl (m7 (l.take k) z)<=60000) (hz:z.length<=1000000) (hr:j2 (-1) z.length l=true):
 ec 157 [k7 l,n6 (z.map fz)] [] (.tup [frS (fz (m7 l z)),i9 true]) []:=by
 have m1:(l.map o7).length=l.length:=zq;have m2:((z.map fz).map o4).length=z.length:=zq;have i0:=a4Y 0 de de;have rt:=K5 l z.length hl h1;rw [lbG om,hr] at rt;have rt2:ec 160 [k7 l,eI (((z.map fz).map o4).length:Nat)] [] (i9 (true && true)) []:=by rw [m2];exact rt
 have pt:=ag8 z hz (fun v hv=>by have:=h2 v hv;omega);refine ac Tryz.func157 ?_;conv=>whnf
 repeat' (first|refine zx ?_|apply zD<;>intro<;>try omega)<;>conv=>whnf
 all_goals try (exfalso;simp_all;done)
 refine j3 d7 (fun k=>([k7 l,n6 (z.map fz),J,J,sP 0 0 0,J,sP 1 0 0,eI k]++Jn 44,[frB C6,frB (fz (m7 (l.take k) z))])) l.length tT [some 0,some 1] trivial
  ⟨rfl,rfl,⟨⟨rfl,rfl,rfl,.inr rz⟩,⟨rfl,rfl,rfl,.inl ⟨rfl,y3 _⟩⟩,trivial⟩,rz⟩ ?_
 intro k hk _;by_cases hlt:k<l.length
 ·obtain ⟨t,ht⟩:∃t,l[k]? =some t:=⟨_,lbf hlt⟩;obtain ⟨v,c⟩:=t;have hv:=a99 hr _ (lbm ht);simp only at hv;have bc:=h1 _ (lbm ht);simp only at bc;obtain ⟨x,hx⟩:∃x,z[v.toNat]? =some x:=⟨_,lbf om⟩;have hxd:z.getD v.toNat 0=x:=by rw [lbl,hx];rfl
  have bx:=h2 x (lbm hx);have b3:=a39 c x;have bs:=hS k;have mu:=bc1 c x om om;have ad:=aQ6 (m7 (l.take k) z) (c*x) om om;have e:m7 (l.take k) z+c*x=m7 (l.take (k+1)) z:=by
   have:l.take (k+1)=l.take k++[(v,c)]:=by rw [lbF,ht];rfl
   rw [this,I6,←hxd]
  rw [e] at ad;have xz:(z.map fz)[v.toNat]? =some (fz x):=by rw [lba,hx];rfl
  conv=>whnf
  repeat' (first|refine zx ?_|refine i6 ht ?_|refine G7 om xz ?_|refine bl0 [16] ?_|refine bl0 [5] ?_|apply zD<;>intro<;>try omega)<;>conv=>whnf
  all_goals first|omega|exact ⟨hlt,trivial,[some 0,some 1],rfl,rfl,⟨⟨rfl,rfl,rfl,.inl ⟨rfl,y3 _⟩⟩,⟨rfl,rfl,rfl,.inl ⟨rfl,y3 _⟩⟩,trivial⟩,rz⟩
 ·have hke:k=l.length:=by omega
  subst hke;rw [lbn (lbQ _)];conv=>whnf
  repeat' (first|refine zx ?_|apply zD<;>intro<;>try omega)<;>conv=>whnf
  all_goals first|omega|exact m9 rz
structure PtB (s:i8) (z:List Rat):Prop where
 v:∀v ∈ z,rl v<=40000
 S:∀w ∈ s.rows,∀k,rl (m7 (w.terms.take k) z)<=50000
 l:z.length<=1000000
def b09 (w:x4) (z:List Rat) (hl:w.terms.length<=1000000) (h1:∀t ∈ w.terms,rl t.2<=200) (h3:rl w.value<=200) (h2:∀v ∈ z,rl v<=40000) (hS:∀k,rl (m7 (w.terms.take k) z)<=50000) (hz:z.length<=1000000)
 (hr:j2 (-1) z.length w.terms=true):ec 237 [as7 w,n6 (z.map fz)] [] (i9 (S2 w z)) []:=by
 have va:=ac4 w.terms z hl h1 h2 (fun k=>by have:=hS k;omega) hz hr;have bv:=hS w.terms.length;rw [lbn (lbQ _)] at bv;have c:=aA6 (m7 w.terms z) w.value om om;have k1:=ae0 (x:=m7 w.terms z) (y:=w.value);have k2:=a1b (x:=m7 w.terms z) (y:=w.value);have hro:=a1J (w:=w) (z:=z);rw [← k1,←k2] at hro;have e:i9 (S2 w z)=i9 (decide ((a1p (m7 w.terms z) w.value<0->w.kind=1)∧(a1p (m7 w.terms z) w.value > 0->w.kind=0))):=by
  congr 1
  rw [a7m,hro,decide_eq_true_iff]
 rw [e];clear hro e k1 k2;generalize a1p (m7 w.terms z) w.value=U at c;refine ac Tryz.func237 ?_;conv=>whnf
 repeat' (first|refine zx ?_|refine bl0 [5] ?_|apply zD<;>intro<;>try omega)<;>conv=>whnf
 all_goals first|omega|(exfalso;simp_all;done)|(refine d9 ?_;simp;omega)
theorem b9x (s:i8) (hb:T9 s) (hr:j6 s=true) (Z:List Rat) (hp:PtB s Z):
 d6 Tryz.prog 158 [D8 s,n6 (Z.map fz)] [] (i9 (j8 s Z)) []:=by
 have m1:(s.rows.map p4).length=s.rows.length:=by simp
 have m2:((Z.map fz).map o4).length=Z.length:=by simp
 have l1:=hb.n0
 have l2:=hp.l
 have lr:=a1y s hb
 rw [hr] at lr
 have pt:=ag8 Z hp.l (fun v hv=>by have:=hp.v v hv;omega)
 by_cases hn:(Z.length:Int)≠s.n
 ·have e2:j8 s Z=false:=by unfold j8;rw [lbI hn];simp
  rw [e2]
  (refine ac Tryz.func158 ?_;(conv=>whnf);repeat ((first|refine b0x ?_|refine zy ?_);conv=>whnf))
  repeat' (first|refine zx ?_|refine qp lr ?_|refine qp pt ?_|refine zd ?_ ?_<;>intro h<;>try omega|fail)<;>conv=>whnf
  all_goals first
   |omega
   |exact d9 rfl
 have hn:(Z.length:Int)=s.n:=by omega
 have e2:j8 s Z=(Z.all (fun v=>decide (0<=v)) && s.rows.all (fun w=>S2 w Z)):=by unfold j8;rw [hr,lbG hn];simp
 rw [e2]
 (refine ac Tryz.func158 ?_;(conv=>whnf);repeat ((first|refine b0x ?_|refine zy ?_);conv=>whnf))
 repeat' (first|refine zx ?_|refine qp lr ?_|refine qp pt ?_|refine zd ?_ ?_<;>intro h<;>try omega|fail)<;>conv=>whnf
 all_goals try omega
 refine j3 d7 (fun k=>([J,n6 (Z.map fz),S.c (C.t (T.ptr [ti s.n,G5 s.rows])),J,J,c9 .i64 k]++Jn 43,[])) Z.length (fun k=>(Z.take k).all (fun v=>decide (0<=v))=true) [] rfl
  ⟨rfl,rfl,trivial,⟨rfl,rfl,rfl,trivial⟩⟩ ?_
 intro k hk hI
 by_cases hlt:k<Z.length
 ·obtain ⟨x,hx⟩:∃x,Z[k]? =some x:=⟨_,lbf hlt⟩
  have bx:=hp.v x (lbm hx)
  have sg:=a4z x (by omega)
  have sn:=b2h (x:=x)
  conv=>whnf
  repeat' (first|refine zx ?_|refine qp sg ?_|refine i6 (W0 Z hx) ?_|refine zd ?_ ?_<;>intro h<;>try omega|fail)<;>conv=>whnf
  all_goals first
   |omega
   |(have h0:¬sgR x<0:=by omega
     exact ⟨hlt,by rw [t5 hx,hI];simpa using lb3.1 (fun h=>h0 (sn.2 h)),[],rfl,rfl,trivial,⟨rfl,rfl,rfl,trivial⟩⟩)
   |(have h0:sgR x<0:=by omega
     have hF:Z.all (fun v=>decide (0<=v))=false:=x7 hx (lbI (a5E.2 (sn.1 h0)))
     refine d9 ?_;rw [hF];rfl)
 ·have hA:Z.all (fun v=>decide (0<=v))=true:=by rw [← hI,lbn (by omega)]
  rw [hA,C2]
  conv=>whnf
  repeat' (first|refine zx ?_|refine zd ?_ ?_<;>intro h<;>try omega|fail)<;>conv=>whnf
  all_goals try omega
  clear hI hlt hk
  refine j3 d7 (fun k=>([J,n6 (Z.map fz),S.c (C.t (T.ptr [ti s.n,G5 s.rows])),J,J,J,c9 .i64 k]++Jn 42,[])) s.rows.length (fun k=>(s.rows.take k).all (fun w=>S2 w Z)=true) [] rfl
   ⟨rfl,rfl,trivial,⟨rfl,rfl,rfl,trivial⟩⟩ ?_
  intro k hk hI
  by_cases hlt:k<s.rows.length
  ·obtain ⟨w,hw⟩:∃w,s.rows[k]? =some w:=⟨_,lbf hlt⟩
   obtain ⟨b1,b2,b3⟩:=hb.t w (lbm hw)
   have hrw:u4 s.n w=true:=by
    unfold j6 at hr
    simp only [lbM,lbv] at hr
    exact hr.2 w (lbm hw)
   have hrt:j2 (-1) Z.length w.terms=true:=by
    unfold u4 at hrw
    simp only [lbM] at hrw
    rw [hn];exact hrw.1.1
   have ho:=b09 w Z (by omega) b2 b3 hp.v (hp.S w (lbm hw)) hp.l hrt
   cases hro:S2 w Z with
   |true=>
    rw [hro] at ho
    conv=>whnf
    repeat' (first|refine zx ?_|refine qp ho ?_|refine i6 hw ?_|refine zd ?_ ?_<;>intro h<;>try omega|fail)<;>conv=>whnf
    all_goals first
     |omega
     |exact ⟨hlt,by rw [t5 hw,hI,hro];rfl,[],rfl,rfl,trivial,⟨rfl,rfl,rfl,trivial⟩⟩
   |false=>
    rw [hro] at ho
    rw [x7 hw hro]
    conv=>whnf
    repeat' (first|refine zx ?_|refine qp ho ?_|refine i6 hw ?_|refine zd ?_ ?_<;>intro h<;>try omega|fail)<;>conv=>whnf
    all_goals first
     |omega
     |exact d9 rfl
  ·rw [lbn (by omega)] at hI
   rw [hI]
   conv=>whnf
   repeat' (first|refine zx ?_|refine zd ?_ ?_<;>intro h<;>try omega|fail)<;>conv=>whnf
   all_goals first
    |omega
    |exact d9 rfl
def b55 (s:i8) (hb:T9 s) (hr:j6 s=true) (Z:List Rat) (hp:PtB s Z):
 ec 135 [D8 s,n6 (Z.map fz)] [] (i9 (j8 s Z)) []:=by
 have m1:(s.rows.map p4).length=s.rows.length:=zq;have m2:((Z.map fz).map o4).length=Z.length:=zq;have l1:=hb.n0;have l2:=hp.l;have lr:=a3r s hb;rw [hr] at lr;have pt:=ae3 (Z.map fz) (by simpa using hp.l) (fun f hf=>by
  obtain ⟨x,hx,rfl⟩:=lbw.1 hf;have:=hp.v x hx;have a:=E0 x;have b:=D5 x;exact ⟨by show bl x.num<=_;omega,by show bl x.den<=_;omega⟩)
 rw [a6d] at pt;by_cases hn:(Z.length:Int)≠s.n
 ·have e2:j8 s Z=false:=by unfold j8;rw [lbI hn];simp
  rw [e2]
  (refine ac Tryz.func135 ?_;(conv=>whnf);repeat ((first|refine b0x ?_|refine zy ?_);conv=>whnf))
  repeat' (first|refine zx ?_|apply zD<;>intro h<;>try omega)<;>conv=>whnf
  all_goals first|omega|exact d9 rfl
 have hn:(Z.length:Int)=s.n:=om;have e2:j8 s Z=(Z.all (fun v=>decide (0<=v)) && s.rows.all (fun w=>S2 w Z)):=by unfold j8;rw [hr,lbG hn];simp
 rw [e2]
 (refine ac Tryz.func135 ?_;(conv=>whnf);repeat ((first|refine b0x ?_|refine zy ?_);conv=>whnf))
 repeat' (first|refine zx ?_|apply zD<;>intro h<;>try omega)<;>conv=>whnf
 all_goals try omega
 refine j3 d7 (fun k=>([J,n6 (Z.map fz),S.c (C.t (T.ptr [ti s.n,G5 s.rows]))]++Jn 22++[n6 (Z.map fz),eI Z.length,eI k]++Jn 38,[])) Z.length (fun k=>(Z.take k).all (fun v=>decide (0<=v))=true) [] rfl
  ⟨rfl,rfl,trivial,⟨rfl,rfl,rfl,e7 zq,rz⟩⟩ ?_
 intro k hk hI;by_cases hlt:k<Z.length
 ·obtain ⟨x,hx⟩:∃x,Z[k]? =some x:=⟨_,lbf hlt⟩;have bx:=hp.v x (lbm hx);have sg:=R6 x om;have sn:=b2h (x:=x);conv=>whnf
  repeat' (first|refine zx ?_|refine i6 (W0 Z hx) ?_|apply zD<;>intro h<;>try omega)<;>conv=>whnf
  all_goals first
   |omega
   |(have h0:¬sgR x<0:=by omega
     exact ⟨hlt,by rw [t5 hx,hI];simpa using lb3.1 (fun h=>h0 (sn.2 h)),[],rz⟩)
   |(have h0:sgR x<0:=by omega
     have hF:Z.all (fun v=>decide (0<=v))=false:=x7 hx (lbI (a5E.2 (sn.1 h0)));refine d9 ?_;rw [hF];rfl)
 ·have hA:Z.all (fun v=>decide (0<=v))=true:=by rw [← hI,lbn om]
  rw [hA,C2];conv=>whnf
  repeat' (first|refine zx ?_|apply zD<;>intro h<;>try omega)<;>conv=>whnf
  all_goals try omega
  clear hI hlt hk;refine j3 d7 (fun k=>([J,n6 (Z.map fz)]++Jn 34++[S.c (C.t (G5 s.rows)),eI s.rows.length,eI k]++Jn 27,[])) s.rows.length (fun k=>(s.rows.take k).all (fun w=>S2 w Z)=true) [] rfl
   ⟨rfl,rfl,trivial,⟨rfl,rfl,e7 zq,rz⟩⟩ ?_
  intro k hk hI;by_cases hlt:k<s.rows.length
  ·obtain ⟨w,hw⟩:∃w,s.rows[k]? =some w:=⟨_,lbf hlt⟩;obtain ⟨b1,b2,b3⟩:=hb.t w (lbm hw);have hrw:u4 s.n w=true:=by
    unfold j6 at hr;simp only [lbM,lbv] at hr;exact hr.2 w (lbm hw)
   have hrt:j2 (-1) Z.length w.terms=true:=by
    unfold u4 at hrw;simp only [lbM] at hrw;rw [hn];exact hrw.1.1
   have hS:=hp.S w (lbm hw);have va:=aW5 w.terms Z om (fun t ht=>by have:=b2 t ht;omega) hp.v (fun k=>by have:=hS k;omega) om hrt;have bv:=hS w.terms.length;rw [lbn (lbQ _)] at bv;have c:=a00 (m7 w.terms Z) w.value om om;have k1:=ae0 (x:=m7 w.terms Z) (y:=w.value);have k2:=a1b (x:=m7 w.terms Z) (y:=w.value);have hro:=a1J (w:=w) (z:=Z);rw [← k1,←k2] at hro;generalize a1p (m7 w.terms Z) w.value=U at c hro;by_cases hok:(U<0->w.kind=1)∧(U > 0->w.kind=0)
   ·have hT:=hro.2 hok;obtain ⟨q1,q2⟩:=hok;conv=>whnf
    repeat' (first|refine zx ?_|refine i6 hw ?_|apply zD<;>intro h<;>try omega)<;>conv=>whnf
    all_goals first|omega|exact ⟨hlt,by rw [t5 hw,hI,hT];rfl,[],rz⟩
   ·have hF:S2 w Z=false:=by rw [← lbP];exact fun h=>hok (hro.1 h)
    rw [x7 hw hF];have hor:(U<0∧w.kind≠1)∨(U > 0∧w.kind≠0):=om;clear hro hok;conv=>whnf
    repeat' (first|refine zx ?_|refine i6 hw ?_|apply zD<;>intro h<;>try omega)<;>conv=>whnf
    all_goals first|omega|exact d9 rfl
  ·rw [lbn om] at hI;rw [hI];conv=>whnf
   repeat' (first|refine zx ?_|apply zD<;>intro h<;>try omega)<;>conv=>whnf
   all_goals first|omega|exact d9 rfl
end Go.Proofs.YtikokmdpigploaaGreat
