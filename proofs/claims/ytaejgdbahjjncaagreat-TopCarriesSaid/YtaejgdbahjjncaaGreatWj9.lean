/- Part 9. -/
import Derived.Test.YtaejgdbahjjncaaGreatWj8
namespace Go.Proofs.YtaejgdbahjjncaaGreat
set_option linter.unusedVariables false
set_option linter.unusedSimpArgs false
set_option maxRecDepth 100000
set_option maxHeartbeats 8000000
open Go.RowKit
open St1 St2 St3 St4 St5 St6 St7 St8 StA StB
theorem aw4 {H:Hp} {p:Nat->Prop} {ys:List C} {us:List T} (h2:VYL H p ys us):∀{ts:List T},VYL H p (ts.map C.t++ys) (ts++us)
 |[]=>h2
 |t::r=>⟨a5X,aw4 h2⟩
theorem b5B {m n:Nat} {fr:List (Nat × Bool)} {D:Fd} {X:Hp}:VY (I2 m n fr D.V D.G D.O D.F D.A X) (fun _=>True) (.own 1 0 m true) (.sl 5 .any (a8w m n D)):=by
 refine b42 (k:=a0t 6 m n D.V) trivial rfl (fun h=>h) rfl (a4C m n D) ?_ ?_
 ·intro r hr
  obtain ⟨i,_,rfl⟩:=lbx.1 hr
  rfl
 ·intro i r hi
  have him:i<m:=by have:=(lbe.1 hi).1;rwa [a4C] at this
  rw [a84 him] at hi
  injection hi with hi
  subst hi
  refine ⟨_,a2q him,?_⟩
  show VYL _ _ ((n7 (fz (D.V i))).map C.t++[C.own (i+6) 0 n true]) _
  have hv:VY (I2 m n fr D.V D.G D.O D.F D.A X) (fun _=>True) (C.own (i+6) 0 n true) (T.sl 4 .any ((rF n (D.A i)).map n7)):=
   .vc (p4 (k:=flB (rF n (D.A i))) trivial (J3 (O3 him)) (fun h=>h) rfl rfl (by simp [a0K]))
  exact aw4 (ys:=[C.own (i+6) 0 n true]) (us:=[T.sl 4 .any ((rF n (D.A i)).map n7)]) (show _∧True from ⟨hv,trivial⟩)
theorem b8S {m n:Nat} {fr:List (Nat × Bool)} {D:Fd} {X:Hp}:VY (I2 m n fr D.V D.G D.O D.F D.A X) (fun _=>True) (.ptr 0 0 0) (.ptr (b7m m n fr D)):=by
 refine a88 (k:=aY5 m n fr.length) trivial rfl (fun h=>h) rfl ⟨a5X,b5B,?_,?_,?_,?_,trivial⟩
 ·exact .vc (p4 (k:=flB (rF n D.G)) trivial rfl (fun h=>h) rfl rfl (by simp [a0K]))
 ·exact .vc (p4 (k:=X3 m D.O) trivial rfl (fun h=>h) rfl rfl (by simp [s9]))
 ·exact .vc (p4 (k:=X3 n D.F) trivial rfl (fun h=>h) rfl rfl (by simp [s9]))
 ·exact .vc (p4 (k:=a19 fr) trivial rfl (fun h=>h) rfl rfl (by simp [Z6]))
abbrev bxD:Blk:={ mode:=.live,elem:=314,size:=1,rows:=[[.ptr 0 0 0]],box:=true }
abbrev bxI (i:Int):Blk:={ mode:=.live,elem:=3,size:=1,rows:=[[.t (ti i)]],box:=true }
theorem ay5 {m n:Nat} {fr:List (Nat × Bool)} {D:Fd} {X:Hp}:VY (I2 m n fr D.V D.G D.O D.F D.A (bxD::X)) (fun _=>True) (.ptr (m+6) 0 0) (a5F m n fr D):=by
 refine a88 (k:=bxD) trivial ?_ (fun h=>h) rfl ⟨b8S,trivial⟩
 show (((mF m n D.A).map flB)++bxD::X)[m]? =_
 rw [lbc (by simp [b8])]
 simp [b8]
theorem b3H {m n t:Nat} {fr:List (Nat × Bool)} {D:Fd} {X:Hp} {i:Int} (h:X[t]? =some (bxI i)):VY (I2 m n fr D.V D.G D.O D.F D.A X) (fun _=>True) (.ptr (m+6+t) 0 0) (.ptr [ti i]):=by
 refine a88 (k:=bxI i) trivial ?_ (fun h=>h) rfl ⟨a5X,trivial⟩
 show (I2 m n fr D.V D.G D.O D.F D.A X)[m+6+t]? =_
 rw [show m+6+t=m+t+6 by omega]
 show (((mF m n D.A).map flB)++X)[m+t]? =_
 rw [lbc (by simp [b8])]
 simpa [b8] using h
theorem b9i {m n:Nat} {fr:List (Nat × Bool)} {D:Fd} {X:Hp}:VYS (I2 m n fr D.V D.G D.O D.F D.A X) (fun _=>True) (.c (.own 3 0 m true)) (a5V m D.O):=.vc (p4 (k:=X3 m D.O) trivial rfl (fun h=>h) rfl rfl (by simp [s9]))
theorem b9z {m n:Nat} {fr:List (Nat × Bool)} {D:Fd} {X:Hp}:VYS (I2 m n fr D.V D.G D.O D.F D.A X) (fun _=>True) (.c (.own 4 0 n true)) (a5V n D.F):=.vc (p4 (k:=X3 n D.F) trivial rfl (fun h=>h) rfl rfl (by simp [s9]))
theorem a9e {m n:Nat} {fr:List (Nat × Bool)} {D:Fd} {r s:Nat} (X:Hp) (h:a8 Tryz.prog 248 [.c (.ptr 0 0 0),a7 .i64 r,a7 .i64 s] (Y8 m n fr D) (.tup []) (Y8 m n fr (D.exch r s))):
 a8 Tryz.prog 248 [.c (.ptr 0 0 0),a7 .i64 r,a7 .i64 s] (I2 m n fr D.V D.G D.O D.F D.A X) (.tup []) (I2 m n fr (D.exch r s).V (D.exch r s).G (D.exch r s).O (D.exch r s).F (D.exch r s).A X):=by
 have hl:∀{D:Fd},∀k ∈ Y8 m n fr D,k.mode=.live∧k.app=false:=by
  intro D k hk
  simp only [lbA] at hk
  rcases hk with rfl|rfl|rfl|rfl|rfl|rfl|hk
  ·exact ⟨rfl,rfl⟩
  ·exact ⟨rfl,rfl⟩
  ·exact ⟨rfl,rfl⟩
  ·exact ⟨rfl,rfl⟩
  ·exact ⟨rfl,rfl⟩
  ·exact ⟨rfl,rfl⟩
  ·obtain ⟨l,_,rfl⟩:=lbx.1 hk
   exact ⟨rfl,rfl⟩
 exact a8E (n:=m+6) X h a2y a2y (by simp [okS,okC,a7,R5]) (fun k hk=>⟨(hl k hk).1,(hl k hk).2,a6F k hk⟩) (fun k hk=>⟨(by rw [(hl k hk).1];intro h;cases h),a6F k hk⟩) rfl rfl
def aX5:b4l->Int × Int
 |.best=>(-1,-1)
 |.row r=>(r,-1)
 |.col s=>(-1,s)
 |.next r s=>(r,s)
theorem b4o {N:Nat} (h:0<N):okB N bxD:=by
 intro r hr c hc
 simp at hr;subst hr
 simp at hc;subst hc
 exact h
theorem b3T (m n:Nat) (fr:List (Nat × Bool)) (D0:Fd) (g0:Nat->Rat) (hm:m<=100000) (hn:n<=1000) (h0:a5x m n D0 g0 D0) (hB:∀D,V4 m n D0 D->BdD m n 30000 D):
 a8 Tryz.prog 196 [.c (.ptr 0 0 0)] (Y8 m n fr D0) (.tup [a7 .i64 (aX5 (C3 m n (ah4 m n D0))).1,a7 .i64 (aX5 (C3 m n (ah4 m n D0))).2]) (Y8 m n fr (ah4 m n D0)):=by
 (refine ac Tryz.func196 ?_;(conv=>whnf);repeat (refine zy ?_;conv=>whnf))
 repeat' (first|refine zx ?_|refine aK9 (b8 _ _ _) ?_|refine a92 ?_|refine zd ?_ ?_<;>intro h<;>try omega|fail)<;>conv=>whnf
 refine s7 b9 (σ:=Fd) (fun D=>([J,S.c (C.ptr (m+6) 0 0)]++Jn 69,I2 m n fr D.V D.G D.O D.F D.A [bxD])) (fun D=>V4 m n D0 D) (fun D=>a8A m n D) D0 (idR (m+7)) aS8 ?_ ?_
 ·refine S4 (T':=[]) (a0N rfl rfl rfl rfl rfl rfl (by rw [R7,R7];rfl)) rfl (by simp [b8]) (by intro k hk;simp at hk;subst hk;exact b4o (by omega)) ⟨⟨k7 (by omega),rfl,rfl⟩,trivial⟩
 intro D hD
 have bd:=hB D hD
 have inv:a5x m n D0 g0 D:=by obtain ⟨k,hk⟩:=hD;exact a2z h0 hk
 have l1:=a4O m hm D.O (fun i=>decide (D.V i<0)) 244 [a5F m n fr D] (fun i hi=>b2p m n fr D i hi)
 have l2:=a4O n (by omega) D.F (fun j=>decide (0<D.G j)) 245 [a5F m n fr D] (fun j hj=>b1X m n fr D j hj)
 have va1:∀X,a2j (I2 m n fr D.V D.G D.O D.F D.A (bxD::X)) (fun _=>True) [.c (.own 3 0 m true),.c (.fn (.func 244) [.ptr (m+6) 0 0])] [a5V m D.O,.c (.t (.fn (.func 244) [a5F m n fr D]))]:=
  fun X=>⟨b9i,b0y (show _∧True from ⟨ay5,trivial⟩),trivial⟩
 have va2:∀X,a2j (I2 m n fr D.V D.G D.O D.F D.A (bxD::X)) (fun _=>True) [.c (.own 4 0 n true),.c (.fn (.func 245) [.ptr (m+6) 0 0])] [a5V n D.F,.c (.t (.fn (.func 245) [a5F m n fr D]))]:=
  fun X=>⟨b9z,b0y (show _∧True from ⟨ay5,trivial⟩),trivial⟩
 have va3:∀X (r:Nat),a2j (I2 m n fr D.V D.G D.O D.F D.A (bxD::bxI r::X)) (fun _=>True) [.c (.own 4 0 n true),.c (.fn (.func 246) [.ptr (m+6) 0 0,.ptr (m+7) 0 0])] [a5V n D.F,.c (.t (.fn (.func 246) [a5F m n fr D,.ptr [ti r]]))]:=
  fun X r=>⟨b9z,b0y (show _∧_∧True from ⟨ay5,b3H (t:=1) rfl,trivial⟩),trivial⟩
 have va4:∀X (x:Int) (s:Nat),a2j (I2 m n fr D.V D.G D.O D.F D.A (bxD::bxI x::bxI s::X)) (fun _=>True) [.c (.own 3 0 m true),.c (.fn (.func 247) [.ptr (m+6) 0 0,.ptr (m+8) 0 0])] [a5V m D.O,.c (.t (.fn (.func 247) [a5F m n fr D,.ptr [ti s]]))]:=
  fun X x s=>⟨b9i,b0y (show _∧_∧True from ⟨ay5,b3H (t:=2) rfl,trivial⟩),trivial⟩
 have fin0:∀(X:Hp) (r c:Int),F3 m n D=none->(r,c)=aX5 (C3 m n D)->Fin (Y8 m n fr D0).length (.tup [a7 .i64 r,a7 .i64 c]) (I2 m n fr D.V D.G D.O D.F D.A X) (.tup [a7 .i64 (aX5 (C3 m n (ah4 m n D0))).1,a7 .i64 (aX5 (C3 m n (ah4 m n D0))).2]) (Y8 m n fr (ah4 m n D0)):=by
  intro X r c hn ho
  have e:=b8y h0 hD hn
  rw [← e,←ho]
  have e0:Y8 m n fr D=I2 m n fr D.V D.G D.O D.F D.A []:=by
   show _::_::_::_::_::_::_=_::_::_::_::_::_::(_++[])
   rw [R7]
  rw [e0]
  exact a9T (N:=m+6) rfl rfl (by simp [b8]) ⟨rfl,rfl,trivial⟩
 have go:∀(X:Hp) (env:Env) (r s:Nat),C3 m n D=.next r s->a2x (idR (m+7)) (I2 m n fr (D.exch r s).V (D.exch r s).G (D.exch r s).O (D.exch r s).F (D.exch r s).A (bxD::X)) env ([J,S.c (C.ptr (m+6) 0 0)]++Jn 69)->
  ∃ρ x',Ent (Y8 m n fr D0).length ρ env (I2 m n fr (D.exch r s).V (D.exch r s).G (D.exch r s).O (D.exch r s).F (D.exch r s).A (bxD::X)) ([J,S.c (C.ptr (m+6) 0 0)]++Jn 69) (I2 m n fr x'.V x'.G x'.O x'.F x'.A [bxD])∧V4 m n D0 x'∧a8A m n x'<a8A m n D:=by
  intro X env r s hs hE
  have hnx:F3 m n D=some (D.exch r s):=by unfold F3;rw [hs]
  exact ⟨idR (m+7),D.exch r s,S4 (T:=[bxD]) (T':=X) rfl rfl (by simp [b8]) (by intro k hk;simp at hk;subst hk;exact b4o (by omega)) hE,ac6 hD hnx,aX4 (b7E inv.p inv.g) hnx⟩
 have exc:∀r s:Nat,C3 m n D=.next r s->a8 Tryz.prog 248 [.c (.ptr 0 0 0),a7 .i64 r,a7 .i64 s] (Y8 m n fr D) (.tup []) (Y8 m n fr (D.exch r s)):=fun r s hs=>by
  obtain ⟨q1,q2,q3⟩:=a4L hs
  exact aV6 m n fr D r s hm hn q1 q2 (a6o q3) bd (hB _ (ac6 hD (by unfold F3;rw [hs])))
 cases hR:T4 D.O (fun i=>decide (D.V i<0)) m with
 |none=>
  rw [hR,show leI none=-1 from rfl] at l1
  cases hS:T4 D.F (fun j=>decide (0<D.G j)) n with
  |none=>
   rw [hS,show leI none=-1 from rfl] at l2
   have hst:C3 m n D=.best:=by unfold C3;rw [hR,hS]
   conv=>whnf
   repeat' (first|refine zx ?_|refine .inl ⟨_,_,j7 l1 (va1 _) rfl,?_⟩|refine .inl ⟨_,_,j7 l2 (va2 _) rfl,?_⟩|refine j3 (b8 _ _ _) ?_|refine i9 ?_|refine F7 (b8 _ _ _) ?_|refine i4 (t:=1) (b8 _ _ _) ?_|refine i4 (t:=2) (b8 _ _ _) ?_|refine i5 (t:=1) (b8 _ _ _) ?_|refine i5 (t:=2) (b8 _ _ _) ?_|refine zd ?_ ?_<;>intro h<;>try omega|fail)<;>conv=>whnf
   all_goals first
    |omega
    |exact fin0 _ _ _ (by unfold F3;rw [hst]) (by rw [hst];rfl)
  |some ss=>
   rw [hS,show leI (some ss)=ss from rfl] at l2
   have hss:=(G1 hS).1
   have l4:=a4O m hm D.O (fun i=>decide (0<D.A i ss)) 247 [a5F m n fr D,T.ptr [ti ss]] (fun i hi=>an8 m n fr D i ss hi hss)
   cases hC:T4 D.O (fun i=>decide (0<D.A i ss)) m with
   |none=>
    rw [hC,show leI none=-1 from rfl] at l4
    have hst:C3 m n D=.col ss:=by unfold C3;rw [hR,hS];show a0T m D ss=_;unfold a0T;rw [hC]
    conv=>whnf
    repeat' (first|refine zx ?_|refine .inl ⟨_,_,j7 l1 (va1 _) rfl,?_⟩|refine .inl ⟨_,_,j7 l2 (va2 _) rfl,?_⟩|refine .inl ⟨_,_,j7 l4 (va4 _ _ ss) rfl,?_⟩|refine j3 (b8 _ _ _) ?_|refine i9 ?_|refine F7 (b8 _ _ _) ?_|refine i4 (t:=1) (b8 _ _ _) ?_|refine i4 (t:=2) (b8 _ _ _) ?_|refine i5 (t:=1) (b8 _ _ _) ?_|refine i5 (t:=2) (b8 _ _ _) ?_|refine zd ?_ ?_<;>intro h<;>try omega|fail)<;>conv=>whnf
    all_goals first
     |omega
     |exact fin0 _ _ _ (by unfold F3;rw [hst]) (by rw [hst];rfl)
   |some rq=>
    rw [hC,show leI (some rq)=rq from rfl] at l4
    have hst:C3 m n D=.next rq ss:=by unfold C3;rw [hR,hS];show a0T m D ss=_;unfold a0T;rw [hC]
    have exr:=exc _ _ hst
    conv=>whnf
    repeat' (first|refine zx ?_|refine .inl ⟨_,_,j7 l1 (va1 _) rfl,?_⟩|refine .inl ⟨_,_,j7 l2 (va2 _) rfl,?_⟩|refine .inl ⟨_,_,j7 l4 (va4 _ _ ss) rfl,?_⟩|refine .inr ⟨_,_,a9e _ exr,?_⟩|refine j3 (b8 _ _ _) ?_|refine i9 ?_|refine F7 (b8 _ _ _) ?_|refine i4 (t:=1) (b8 _ _ _) ?_|refine i4 (t:=2) (b8 _ _ _) ?_|refine i5 (t:=1) (b8 _ _ _) ?_|refine i5 (t:=2) (b8 _ _ _) ?_|refine zd ?_ ?_<;>intro h<;>try omega|fail)<;>conv=>whnf
    all_goals first
     |omega
     |exact go _ _ _ _ hst ⟨⟨k7 (by omega),rfl,rfl⟩,trivial⟩
 |some rr=>
  rw [hR,show leI (some rr)=rr from rfl] at l1
  cases hS:T4 D.F (fun j=>decide (0<D.G j)) n with
  |none=>
   rw [hS,show leI none=-1 from rfl] at l2
   have hrr:=(G1 hR).1
   have l3:=a4O n (by omega) D.F (fun j=>decide (D.A rr j<0)) 246 [a5F m n fr D,T.ptr [ti rr]] (fun j hj=>ao0 m n fr D rr j hrr hj)
   cases hC:T4 D.F (fun j=>decide (D.A rr j<0)) n with
   |none=>
    rw [hC,show leI none=-1 from rfl] at l3
    have hst:C3 m n D=.row rr:=by unfold C3;rw [hR,hS];show a0Q n D rr=_;unfold a0Q;rw [hC]
    conv=>whnf
    repeat' (first|refine zx ?_|refine .inl ⟨_,_,j7 l1 (va1 _) rfl,?_⟩|refine .inl ⟨_,_,j7 l2 (va2 _) rfl,?_⟩|refine .inl ⟨_,_,j7 l3 (va3 _ rr) rfl,?_⟩|refine j3 (b8 _ _ _) ?_|refine i9 ?_|refine F7 (b8 _ _ _) ?_|refine i4 (t:=1) (b8 _ _ _) ?_|refine i4 (t:=2) (b8 _ _ _) ?_|refine i5 (t:=1) (b8 _ _ _) ?_|refine i5 (t:=2) (b8 _ _ _) ?_|refine zd ?_ ?_<;>intro h<;>try omega|fail)<;>conv=>whnf
    all_goals first
     |omega
     |exact fin0 _ _ _ (by unfold F3;rw [hst]) (by rw [hst];rfl)
   |some sq=>
    rw [hC,show leI (some sq)=sq from rfl] at l3
    have hst:C3 m n D=.next rr sq:=by unfold C3;rw [hR,hS];show a0Q n D rr=_;unfold a0Q;rw [hC]
    have exr:=exc _ _ hst
    conv=>whnf
    repeat' (first|refine zx ?_|refine .inl ⟨_,_,j7 l1 (va1 _) rfl,?_⟩|refine .inl ⟨_,_,j7 l2 (va2 _) rfl,?_⟩|refine .inl ⟨_,_,j7 l3 (va3 _ rr) rfl,?_⟩|refine .inr ⟨_,_,a9e _ exr,?_⟩|refine j3 (b8 _ _ _) ?_|refine i9 ?_|refine F7 (b8 _ _ _) ?_|refine i4 (t:=1) (b8 _ _ _) ?_|refine i4 (t:=2) (b8 _ _ _) ?_|refine i5 (t:=1) (b8 _ _ _) ?_|refine i5 (t:=2) (b8 _ _ _) ?_|refine zd ?_ ?_<;>intro h<;>try omega|fail)<;>conv=>whnf
    all_goals first
     |omega
     |exact go _ _ _ _ hst ⟨⟨k7 (by omega),rfl,rfl⟩,trivial⟩
  |some ss=>
   rw [hS,show leI (some ss)=ss from rfl] at l2
   have hrr:=(G1 hR).1
   have hss:=(G1 hS).1
   by_cases hlt:D.O rr<D.F ss
   ·skip
    have l3:=a4O n (by omega) D.F (fun j=>decide (D.A rr j<0)) 246 [a5F m n fr D,T.ptr [ti rr]] (fun j hj=>ao0 m n fr D rr j hrr hj)
    cases hC:T4 D.F (fun j=>decide (D.A rr j<0)) n with
    |none=>
     rw [hC,show leI none=-1 from rfl] at l3
     have hst:C3 m n D=.row rr:=by unfold C3 a0Q;rw [hR,hS];simp only [if_pos hlt];rw [hC]
     conv=>whnf
     repeat' (first|refine zx ?_|refine .inl ⟨_,_,j7 l1 (va1 _) rfl,?_⟩|refine .inl ⟨_,_,j7 l2 (va2 _) rfl,?_⟩|refine .inl ⟨_,_,j7 l3 (va3 _ rr) rfl,?_⟩|refine j3 (b8 _ _ _) ?_|refine i9 ?_|refine F7 (b8 _ _ _) ?_|refine i4 (t:=1) (b8 _ _ _) ?_|refine i4 (t:=2) (b8 _ _ _) ?_|refine i5 (t:=1) (b8 _ _ _) ?_|refine i5 (t:=2) (b8 _ _ _) ?_|refine a0J (r:=rr) (by omega) hrr ?_|refine a0J (r:=ss) (by omega) hss ?_|refine zd ?_ ?_<;>intro h<;>try omega|fail)<;>conv=>whnf
     all_goals first
      |omega
      |exact fin0 _ _ _ (by unfold F3;rw [hst]) (by rw [hst];rfl)
    |some sq=>
     rw [hC,show leI (some sq)=sq from rfl] at l3
     have hst:C3 m n D=.next rr sq:=by unfold C3 a0Q;rw [hR,hS];simp only [if_pos hlt];rw [hC]
     have exr:=exc _ _ hst
     conv=>whnf
     repeat' (first|refine zx ?_|refine .inl ⟨_,_,j7 l1 (va1 _) rfl,?_⟩|refine .inl ⟨_,_,j7 l2 (va2 _) rfl,?_⟩|refine .inl ⟨_,_,j7 l3 (va3 _ rr) rfl,?_⟩|refine .inr ⟨_,_,a9e _ exr,?_⟩|refine j3 (b8 _ _ _) ?_|refine i9 ?_|refine F7 (b8 _ _ _) ?_|refine i4 (t:=1) (b8 _ _ _) ?_|refine i4 (t:=2) (b8 _ _ _) ?_|refine i5 (t:=1) (b8 _ _ _) ?_|refine i5 (t:=2) (b8 _ _ _) ?_|refine a0J (r:=rr) (by omega) hrr ?_|refine a0J (r:=ss) (by omega) hss ?_|refine zd ?_ ?_<;>intro h<;>try omega|fail)<;>conv=>whnf
     all_goals first
      |omega
      |exact go _ _ _ _ hst ⟨⟨k7 (by omega),rfl,rfl⟩,trivial⟩
   ·skip
    have l4:=a4O m hm D.O (fun i=>decide (0<D.A i ss)) 247 [a5F m n fr D,T.ptr [ti ss]] (fun i hi=>an8 m n fr D i ss hi hss)
    cases hC:T4 D.O (fun i=>decide (0<D.A i ss)) m with
    |none=>
     rw [hC,show leI none=-1 from rfl] at l4
     have hst:C3 m n D=.col ss:=by unfold C3 a0T;rw [hR,hS];simp only [if_neg hlt];rw [hC]
     conv=>whnf
     repeat' (first|refine zx ?_|refine .inl ⟨_,_,j7 l1 (va1 _) rfl,?_⟩|refine .inl ⟨_,_,j7 l2 (va2 _) rfl,?_⟩|refine .inl ⟨_,_,j7 l4 (va4 _ _ ss) rfl,?_⟩|refine j3 (b8 _ _ _) ?_|refine i9 ?_|refine F7 (b8 _ _ _) ?_|refine i4 (t:=1) (b8 _ _ _) ?_|refine i4 (t:=2) (b8 _ _ _) ?_|refine i5 (t:=1) (b8 _ _ _) ?_|refine i5 (t:=2) (b8 _ _ _) ?_|refine a0J (r:=rr) (by omega) hrr ?_|refine a0J (r:=ss) (by omega) hss ?_|refine zd ?_ ?_<;>intro h<;>try omega|fail)<;>conv=>whnf
     all_goals first
      |omega
      |exact fin0 _ _ _ (by unfold F3;rw [hst]) (by rw [hst];rfl)
    |some rq=>
     rw [hC,show leI (some rq)=rq from rfl] at l4
     have hst:C3 m n D=.next rq ss:=by unfold C3 a0T;rw [hR,hS];simp only [if_neg hlt];rw [hC]
     have exr:=exc _ _ hst
     conv=>whnf
     repeat' (first|refine zx ?_|refine .inl ⟨_,_,j7 l1 (va1 _) rfl,?_⟩|refine .inl ⟨_,_,j7 l2 (va2 _) rfl,?_⟩|refine .inl ⟨_,_,j7 l4 (va4 _ _ ss) rfl,?_⟩|refine .inr ⟨_,_,a9e _ exr,?_⟩|refine j3 (b8 _ _ _) ?_|refine i9 ?_|refine F7 (b8 _ _ _) ?_|refine i4 (t:=1) (b8 _ _ _) ?_|refine i4 (t:=2) (b8 _ _ _) ?_|refine i5 (t:=1) (b8 _ _ _) ?_|refine i5 (t:=2) (b8 _ _ _) ?_|refine a0J (r:=rr) (by omega) hrr ?_|refine a0J (r:=ss) (by omega) hss ?_|refine zd ?_ ?_<;>intro h<;>try omega|fail)<;>conv=>whnf
     all_goals first
      |omega
      |exact go _ _ _ _ hst ⟨⟨k7 (by omega),rfl,rfl⟩,trivial⟩
theorem a12 {P:Program} {g:FuncId} {args:List S} {H:Hp} {b:Blk} {n:Nat} {app:Bool} (h:a8 P g args [] (.c (.own 0 0 n app)) [b]) (ha:args.all S.isT=true) (hm:b.mode=.live) (hb:C9 b.rows):
 R2 P g args H (.c (.own H.length 0 n app)) [b]:=by
 refine ⟨h.1,fun w ι M vals hl hv hH hM hf=>?_⟩
 have:=h.2 w (fun _=>none) M vals hl (fun j s hj=>(hv j s hj).tree (lbv.1 ha s (lbm hj)))
  ⟨by simp,by simp,by simp,by simp,by simp⟩ hM (fun _ _=>rfl)
 refine Calls.mono this ?_
 rintro e w' ⟨v,rfl,ι',M',h1,h2,h3,h4,h5⟩
 have hnl:∀x,¬a1Z (fun _=>none) ([]:Hp) x:=by rintro x ⟨id,k,_,_,hk,_⟩;simp at hk
 obtain ⟨l,hl0⟩:∃l,ι' 0=some l:=by
  cases h1 with
  |c h1=>cases h1 with
   |own hi=>exact ⟨_,hi⟩
   |nil hi=>exact ⟨_,hi⟩
 have hnew:A8 ι H.length [b].length (fun _=>l) H.length=some l:=by unfold A8;simp
 have hMM:∀x,a5d M [b].length (fun _=>l) x->M' x:=by
  intro x hx
  rcases hx with hx|⟨k,hk,cap,size,he⟩
  ·rcases h5.mold x hx with h|h
   ·exact h
   ·exact absurd h (hnl x)
  ·have he:l=.blk x cap size:=he
   subst he
   exact h2.liv 0 b rfl hm x cap size hl0
 refine ⟨v,rfl,fun _=>l,?_,⟨h5.os,h5.tape,h5.output,h5.size,fun x hx=>h5.keep x hx (hnl x)⟩,?_,?_,?_⟩
 ·cases h1 with
  |c h1=>cases h1 with
   |own hi q1 q2 q3 q4 q5=>
    rw [hl0] at hi;injection hi with hi
    subst hi
    exact .c (.own hnew q1 q2 q3 q4 q5)
   |nil hi=>
    rw [hl0] at hi;injection hi with hi
    subst hi
    exact .c (.nil hnew)
 ·intro k blk hk
  cases k with
  |succ k=>simp at hk
  |zero=>
   simp at hk
   subst hk
   refine ⟨hm,?_⟩
   have hbr:=h2.blk 0 b rfl (by rw [hm];intro h;cases h) l hl0
   cases l with
   |nil=>exact hbr
   |blk x cap size=>
    obtain ⟨r1,r2,r3,r4,r5,cur,r6,r7,r8⟩:=hbr
    refine ⟨r1,r2,r3,r4,r5,cur,r6,r7,fun i j c hc=>?_⟩
    obtain ⟨u,u1,u2⟩:=r8 i j c hc
    exact ⟨u,u1,aN5 hMM hb hc u2⟩
 ·intro k x cap size hk he
  have he:l=.blk x cap size:=he
  subst he
  refine ⟨?_,h3 x (h2.liv 0 b rfl hm x cap size hl0)⟩
  rcases h5.live x ⟨0,b,cap,size,rfl,hm,hl0⟩ with h|h
  ·exact absurd h (hnl x)
  ·exact h
 ·intro k k' x cap size cap' size' hk hk' _ _
  simp at hk hk'
  omega
theorem b1P (H:Hp) (n:Nat) (hn:n<=1000):R2 Tryz.prog 241 [a7 .i64 n] H (.c (.own H.length 0 n true)) [flB (rF n fun _=>0)]:=
 a12 (b6A n hn) rfl rfl (c6 _)
def a4a (l:List (Int × Rat)):Nat->Nat->Rat
 |0=>B7 l
 |k+1=>match l[k]? with
  |none=>a4a l k
  |some t=>fun j=>if j=t.1.toNat then -t.2 else a4a l k j
theorem aq7 {l:List (Int × Rat)} {k:Nat} {t:Int × Rat} (h:l[k]? =some t):a4a l (k+1)=fun j=>if j=t.1.toNat then -t.2 else a4a l k j:=by rw [a4a,h]
theorem b13 (l:List (Int × Rat)) (j:Nat):∀k,k<=l.length->a4a l k j=-(K2 l k j)∨(K2 l k j=0∧a4a l k j=B7 l j)
 |0,_=>.inr ⟨rfl,rfl⟩
 |k+1,hk=>by
  obtain ⟨t,ht⟩:∃t,l[k]? =some t:=⟨_,lbf (by omega)⟩
  rw [aq7 ht,I9 ht]
  simp only
  by_cases hj:j=t.1.toNat
  ·rw [if_pos hj,if_pos hj];exact .inl rfl
  ·rw [if_neg hj,if_neg hj];exact b13 l j k (by omega)
theorem b3R (l:List (Int × Rat)):a4a l l.length=fun j=>-(B7 l j):=by
 funext j
 rcases b13 l j l.length (lbQ _) with h|⟨h1,h2⟩
 ·exact h
 ·rw [h2]
  have:B7 l j=0:=h1
  rw [this];decide
def sgF (b:Bool) (l:List (Int × Rat)):Nat->Rat:=fun j=>U8 b (B7 l j)
theorem a0c {H:Hp} {N n:Nat} (hN:H.length=N) (hn:n<=1000):R2 Tryz.prog 241 [a7 .i64 n] H (.c (.own N 0 n true)) [flB (rF n fun _=>0)]:=by subst hN;exact b1P H n hn
abbrev pB (n k l i f:Nat):Blk:={ mode:=.live,elem:=364,size:=6,rows:=[[C.t (ti n),.own l 0 k true,.own 2 0 n true,.own i 0 k true,.t (.sl 0 .nil []),.own f 0 k true]],box:=true }
abbrev a9v (t:TypeId) (s:Nat):Blk:=⟨.dead,t,s,[],false,false⟩
abbrev a5u (n k:Nat) (V G:Nat->Rat) (O:Nat->Nat) (fr:List (Nat × Bool)) (A:Nat->Nat->Rat) (X:Hp):Hp:=
 pB n k 1 3 4::a0t 5 k n V::flB (rF n G)::X3 k O::a19 fr::((mF k n A).map flB++X)
abbrev lnX (k n:Nat) (v:Rat):Blk:={ mode:=.live,elem:=367,size:=5,rows:=[frC (fz v)++[C.own (k+6) 0 n true]],box:=true }
abbrev b1j (n k:Nat) (v:Rat) (a V G:Nat->Rat) (O:Nat->Nat) (fr:List (Nat × Bool)) (f:Nat × Bool) (A:Nat->Nat->Rat) (bx:Blk):Hp:=
 pB n (k+1) (k+8) (k+7) (k+9)::a9v 367 5::flB (rF n G)::a9v 3 1::a9v 413 2::((mF k n A).map flB++
  [bx,flB (rF n a),X3 (k+1) O,{ mode:=.live,elem:=367,size:=5,rows:=P7 5 k n V++[frC (fz v)++[C.own (k+6) 0 n true]],box:=false },a19 (fr++[f])])
theorem aA1 {k n N:Nat} {v:Rat} (h:k+6<N):okB N (lnX k n v):=by
 intro r hr c hc
 simp at hr;subst hr
 simp [frC] at hc
 rcases hc with rfl|rfl|rfl|rfl|rfl<;>first|trivial|exact h
theorem b9E {n k N l i f:Nat} (h1:l<N) (h2:i<N) (h3:f<N) (h4:2<N):okB N (pB n k l i f):=by
 intro r hr c hc
 simp at hr;subst hr
 simp at hc
 rcases hc with rfl|rfl|rfl|rfl|rfl|rfl<;>first|trivial|assumption
theorem aL3 {n k:Nat} {V G:Nat->Rat} {O:Nat->Nat} {fr:List (Nat × Bool)} {A:Nat->Nat->Rat} {X:Hp}:(a5u n k V G O fr A X).length=k+5+X.length:=by simp [b8];omega
theorem b6o {n k N:Nat} {V G:Nat->Rat} {O:Nat->Nat} {fr:List (Nat × Bool)} {A:Nat->Nat->Rat} {X:Hp} (h:k+5<=N) (hX:∀b ∈ X,okB N b):∀b ∈ a5u n k V G O fr A X,okB N b:=by
 intro b hb
 simp only [lbA,lbz] at hb
 rcases hb with rfl|rfl|rfl|rfl|rfl|hb|hb
 ·exact b9E (by omega) (by omega) (by omega) (by omega)
 ·exact ae3 h
 ·exact G5 rfl
 ·exact G5 rfl
 ·exact G5 rfl
 ·obtain ⟨l,_,rfl⟩:=lbx.1 hb
  exact G5 rfl
 ·exact hX b hb
theorem b3L {n k:Nat} {V G:Nat->Rat} {O:Nat->Nat} {fr:List (Nat × Bool)} {A:Nat->Nat->Rat} {X X':Hp}:a5u n k V G O fr A (X++X')=a5u n k V G O fr A X++X':=by
 show _::_::_::_::_::(_++(X++X'))=_::_::_::_::_::((_++X)++X')
 rw [lbD]
theorem Y7 {n0 N n k:Nat} {V G:Nat->Rat} {O:Nat->Nat} {fr:List (Nat × Bool)} {A:Nat->Nat->Rat} {X X' H:Hp} {env env':Env} (hH:H=a5u n k V G O fr A (X++X')) (hN:k+5+X.length=N) (h0:n0<=N) (hX:∀b ∈ X,okB N b)
 (hE:a2x (idR N) H env env'):Ent n0 (idR N) env H env' (a5u n k V G O fr A X):=by
 refine ao2 (by rw [aL3];exact hN) h0 (b6o (by omega) hX) (fun i hi=>?_) hE
 rw [hH,b3L,lbb (by rw [aL3];omega)]
theorem a1w {b0 b1 b2 b3 b4 c0 c1 c2 c3 c4:Blk} {L L':Hp} (h0:b0=c0) (h1:b1=c1) (h2:b2=c2) (h3:b3=c3) (h4:b4=c4) (h6:L=L'):b0::b1::b2::b3::b4::L=c0::c1::c2::c3::c4::L':=by
 subst h0 h1 h2 h3 h4 h6;rfl
def fR (N:Nat) (f:Nat->Nat):List (Option Nat):=(List.range N).map fun i=>some (f i)
theorem u9 {N i:Nat} {f:Nat->Nat} (h:i<N):(fR N f)[i]? =some (some (f i)):=by simp [fR,h]
theorem b8Y (N:Nat) (f:Nat->Nat):(fR N f).length=N:=by simp [fR]
theorem b33 {N i j:Nat} {f:Nat->Nat} (h:(fR N f)[i]? =some (some j)):i<N∧f i=j:=by
 obtain ⟨h1,h2⟩:=lbe.1 h
 simp [fR] at h1 h2
 exact ⟨h1,h2⟩
theorem af5 {ρ:List (Option Nat)}:∀{m:Nat},(∀ i:Nat,i<m->ρ[i]? =some (some i))->a1p ρ m=true
 |0,_=>rfl
 |m+1,h=>by
  unfold a1p
  rw [h m (by omega),af5 fun i hi=>h i (by omega)]
  simp
theorem b0Y {N:Nat} {f:Nat->Nat} {H H':Hp} (hn:H'.length=N) (hB:∀(i:Nat) (k':Blk),H'[i]? =some k'->∃k:Blk,H[f i]? =some k∧a2f (fR N f) H k k'):a2D (fR N f) H (fR N f) H':=
 a6R (by rw [b8Y,hn]) fun i k' hk=>by
  have hi:i<N:=by rw [← hn];exact (lbe.1 hk).1
  obtain ⟨k,h1,h2⟩:=hB i k' hk
  exact ⟨f i,k,u9 hi,h1,h2⟩
theorem aK3 {N:Nat} {f:Nat->Nat} {H:Hp} (hinj:∀i j,i<N->j<N->f i=f j->i=j):V3 (fR N f) H=true:=a2u fun i j n h1 h2=>by
 obtain ⟨a1,a2⟩:=b33 h1
 obtain ⟨b1,b2⟩:=b33 h2
 exact hinj i j a1 b1 (by omega)
theorem aT0 {n0 N:Nat} {f:Nat->Nat} {env env':Env} {H H':Hp} (hn:H'.length=N) (h0:n0<=N) (hk:∀i,i<n0->f i=i) (hinj:∀i j,i<N->j<N->f i=f j->i=j)
 (hB:∀(i:Nat) (k':Blk),H'[i]? =some k'->∃k:Blk,H[f i]? =some k∧a2f (fR N f) H k k') (hE:a2x (fR N f) H env env'):Ent n0 (fR N f) env H env' H':=
 ⟨af5 fun i hi=>by rw [u9 (by omega),hk i hi],aK3 hinj,b0Y hn hB,hE⟩
theorem b8T {n0 N:Nat} {f:Nat->Nat} {r s:S} {H H':Hp} (hn:H'.length=N) (h0:n0<=N) (hk:∀i,i<n0->f i=i) (hinj:∀i j,i<N->j<N->f i=f j->i=j)
 (hB:∀(i:Nat) (k':Blk),H'[i]? =some k'->∃k:Blk,H[f i]? =some k∧a2f (fR N f) H k k') (hE:aj7 (fR N f) H r s):Fin n0 r H s H':=
 ⟨fR N f,af5 fun i hi=>by rw [u9 (by omega),hk i hi],aK3 hinj,b0Y hn hB,hE⟩
theorem b7g (k:Blk):a26 k k=true:=by unfold a26;cases k.mode<;>simp
theorem g7 {ρ:List (Option Nat)} {H:Hp} {k:Blk} (h:C9 k.rows):a2f ρ H k k:=⟨b7g k,rfl,rfl,.inl ⟨rfl,h⟩⟩
theorem b08 {ρ:List (Option Nat)} {H:Hp} {l l':List C} (h:a8R ρ H l l'):∀ts:List T,a8R ρ H (ts.map C.t++l) (ts.map C.t++l')
 |[]=>h
 |t::r=>⟨W5 t,b08 h r⟩
theorem a1y {ρ:List (Option Nat)} {H:Hp} {m n:Nat} {V:Nat->Rat} {h h':Nat->Nat} (hh:∀i,i<m->ρ[h' i]? =some (some (h i))):
 a2f ρ H { mode:=.live,elem:=367,size:=5,rows:=(List.range m).map fun i=>frC (fz (V i))++[C.own (h i) 0 n true],box:=false } { mode:=.live,elem:=367,size:=5,rows:=(List.range m).map fun i=>frC (fz (V i))++[C.own (h' i) 0 n true],box:=false }:=by
 refine ⟨rfl,rfl,rfl,.inr (a6P (by simp) fun i x y hx hy=>?_)⟩
 have hi:i<m:=by have:=(lbe.1 hx).1;simpa using this
 simp [hi] at hx hy
 subst hx hy
 exact b08 (ts:=n7 (fz (V i))) (l:=[C.own (h i) 0 n true]) (l':=[C.own (h' i) 0 n true]) ⟨⟨hh i hi,rfl,rfl,fun h=>h⟩,trivial⟩
theorem b0i {a b:Nat} {K:Prop} (h:a<=b) (k:K):a<=b∧K:=⟨h,k⟩
theorem a48 {N:Nat} {b:Blk} (h:C9 b.rows):okB N b:=by
 intro r hr c hc
 have:=h r hr c hc
 cases c<;>first|trivial|cases this
def aC6 (k n:Nat) (v:Rat) (V:Nat->Rat):Nat->Rat:=fun i=>if i=k then v else V i
def hnd (k:Nat):Nat->Nat:=fun i=>if i=k then k+6 else i+5
theorem a9r {k n:Nat} {v:Rat} {V:Nat->Rat}:P7 5 k n V++[frC (fz v)++[C.own (k+6) 0 n true]]=(List.range (k+1)).map fun i=>frC (fz (aC6 k n v V i))++[C.own (hnd k i) 0 n true]:=by
 rw [a7U,lbC]
 congr 1
 ·refine lbp fun i hi=>?_
  have:=lbB.1 hi
  unfold aC6 hnd
  rw [if_neg (by omega),if_neg (by omega)]
 ·unfold aC6 hnd;simp
abbrev b9l (n k:Nat) (v:Rat) (a V G:Nat->Rat) (O:Nat->Nat) (fr:List (Nat × Bool)) (f:Nat × Bool) (A:Nat->Nat->Rat) (bx lx lit:Blk):Hp:=
 pB n (k+1) (k+10) (k+8) (k+11)::a9v 367 5::flB (rF n G)::a9v 3 1::a9v 413 2::((mF k n A).map flB++
  [bx,flB (rF n a),lx,X3 (k+1) O,lit,{ mode:=.live,elem:=367,size:=5,rows:=P7 5 k n V++[frC (fz v)++[C.own (k+6) 0 n true]],box:=false },a19 (fr++[f])])
def ac9 (k:Nat):Nat->Nat:=fun i=>if i<k+7 then i else if i=k+7 then k+8 else if i=k+8 then k+10 else k+11
theorem a1c {α β:Type} {f:β->α} {M:List β} {X:List α} {N t:Nat} (h:M.length=N):(M.map f++X)[N+t]? =X[t]?:=by
 rw [lbc (by simp [h])];simp [h]
theorem b7I {n0 n:Nat} {r s:S} {H H':Hp} (e:n0=n) (h:Fin n r H s H'):Fin n0 r H s H':=by subst e;exact h
theorem b0M {n k:Nat} {v:Rat} {a V G:Nat->Rat} {O:Nat->Nat} {fr:List (Nat × Bool)} {f:Nat × Bool} {A:Nat->Nat->Rat} {bx lx lit:Blk} {H:Hp} (hbx:C9 bx.rows) (hH:H=b9l n k v a V G O fr f A bx lx lit):
 Fin (k+6) (.tup []) H (.tup []) (b1j n k v a V G O fr f A bx):=by
 subst hH
 refine b8T (N:=k+10) (f:=ac9 k) (by simp [b8]) (by omega) (fun i hi=>by unfold ac9;rw [if_pos (by omega)]) (fun i j hi hj h=>by unfold ac9 at h;(repeat' split at h)<;>omega) ?_ trivial
 have r7:ac9 k (k+7)=k+8:=by unfold ac9;rw [if_neg (by omega),if_pos rfl]
 have r8:ac9 k (k+8)=k+10:=by unfold ac9;rw [if_neg (by omega),if_neg (by omega),if_pos rfl]
 have r9:ac9 k (k+9)=k+11:=by unfold ac9;rw [if_neg (by omega),if_neg (by omega),if_neg (by omega)]
 have rl:∀i,i<k+7->ac9 k i=i:=fun i hi=>by unfold ac9;rw [if_pos hi]
 intro i k' hk
 rcases i with _|_|_|_|_|i
 ·injection hk with hk;subst hk
  rw [rl 0 (by omega)]
  exact ⟨_,rfl,rfl,rfl,rfl,.inr ⟨⟨rfl,⟨by rw [u9 (by omega),r8],rfl,rfl,fun h=>h⟩,⟨by rw [u9 (by omega),rl 2 (by omega)],rfl,rfl,fun h=>h⟩,⟨by rw [u9 (by omega),r7],rfl,rfl,fun h=>h⟩,rfl,⟨by rw [u9 (by omega),r9],rfl,rfl,fun h=>h⟩,trivial⟩,trivial⟩⟩
 ·injection hk with hk;subst hk;rw [rl 1 (by omega)];exact ⟨_,rfl,g7 (by simp [C9])⟩
 ·injection hk with hk;subst hk;rw [rl 2 (by omega)];exact ⟨_,rfl,g7 (c6 _)⟩
 ·injection hk with hk;subst hk;rw [rl 3 (by omega)];exact ⟨_,rfl,g7 (by simp [C9])⟩
 ·injection hk with hk;subst hk;rw [rl 4 (by omega)];exact ⟨_,rfl,g7 (by simp [C9])⟩
 ·have hk:((mF k n A).map flB++[bx,flB (rF n a),X3 (k+1) O,{ mode:=.live,elem:=367,size:=5,rows:=P7 5 k n V++[frC (fz v)++[C.own (k+6) 0 n true]],box:=false },a19 (fr++[f])])[i]? =some k':=hk
  by_cases hi:i<k
  ·rw [J3 (O3 hi)] at hk
   injection hk with hk;subst hk
   rw [rl (i+5) (by omega)]
   exact ⟨_,J3 (O3 hi),g7 (c6 _)⟩
  ·obtain ⟨t,rfl⟩:∃t,i=k+t:=⟨i - k,by omega⟩
   rw [a1c (b8 _ _ _)] at hk
   have lk:∀j,(b9l n k v a V G O fr f A bx lx lit)[k+j+5]? =([bx,flB (rF n a),lx,X3 (k+1) O,lit,{ mode:=.live,elem:=367,size:=5,rows:=P7 5 k n V++[frC (fz v)++[C.own (k+6) 0 n true]],box:=false },a19 (fr++[f])]:Hp)[j]?:=fun j=>a1c (b8 _ _ _)
   rcases t with _|_|_|_|_|t
   ·injection hk with hk;subst hk
    rw [rl (k+0+5) (by omega)]
    exact ⟨_,lk 0,g7 hbx⟩
   ·injection hk with hk;subst hk
    rw [rl (k+1+5) (by omega)]
    exact ⟨_,lk 1,g7 (c6 _)⟩
   ·injection hk with hk;subst hk
    rw [show k+2+5=k+7 by omega,r7]
    exact ⟨_,lk 3,g7 (c6 _)⟩
   ·injection hk with hk;subst hk
    rw [show k+3+5=k+8 by omega,r8]
    refine ⟨_,lk 5,?_⟩
    rw [a9r]
    refine a1y fun j hj=>?_
    have:hnd k j<k+7:=by unfold hnd;split<;>omega
    rw [u9 (by omega),rl _ this]
   ·injection hk with hk;subst hk
    rw [show k+4+5=k+9 by omega,r9]
    exact ⟨_,lk 6,g7 (c6 _)⟩
   ·simp at hk
theorem l7 {a0 a1 a2 a3 a4 a5 a6 b0 b1 b2 b3 b4 b5 b6:Blk} (h0:a0=b0) (h1:a1=b1) (h2:a2=b2) (h3:a3=b3) (h4:a4=b4) (h5:a5=b5) (h6:a6=b6):([a0,a1,a2,a3,a4,a5,a6]:Hp)=[b0,b1,b2,b3,b4,b5,b6]:=by
 subst h0 h1 h2 h3 h4 h5 h6;rfl
theorem a8d {k:Nat} {O:Nat->Nat} {x:Int} (h:x=O k):(toC (a0D k O)).take k++toC [[ti x]]=toC (a0D (k+1) O):=by
 rw [lbn (by simp [toC,s9])]
 unfold a0D
 rw [a7U,lbC,h]
 simp [toC]
theorem af0 {fr:List (Nat × Bool)} {k:Nat} (h:fr.length=k) (f:Nat × Bool):(toC (Z6 fr)).take k++toC [[ti f.1,tb f.2]]=toC (Z6 (fr++[f])):=by
 rw [lbn (by simp [toC,Z6,h])]
 unfold Z6
 simp [toC]
theorem b9G (n k row:Nat) (w:j6) (b:Bool) (V G:Nat->Rat) (fr:List (Nat × Bool)) (hfr:fr.length=k) (A:Nat->Nat->Rat) (bx:Blk) (hbx:C9 bx.rows) (hn:n<=1000) (hk:k<=10000) (hrow:row<=100000)
 (hr:d6 (-1) n w.terms=true) (hl:w.terms.length<=1000) (hb:∀t ∈ w.terms,rl t.2<=60000) (hv:rl w.value<=60000):
 a8 Tryz.prog 242 [.c (.ptr 0 0 0),a7 .i64 row,b6g w,d9 b] (a5u n k V G (fun i=>n+i) fr A [bx]) (.tup []) (b1j n k (U8 b w.value) (sgF b w.terms) V G (fun i=>n+i) fr (row,b) A bx):=by
 have m1:(w.terms.map i8).length=w.terms.length:=by simp
 (refine ac Tryz.func242 ?_;(conv=>whnf);repeat ((first|refine b0x ?_|refine zy ?_);conv=>whnf))
 repeat' (first|refine zz ?_|refine qp b8 ?_|refine b0x ?_|refine .inl ⟨_,_,a0c (N:=k+6) (by simp [b8]) hn,?_⟩|refine j3 (b8 _ _ _) ?_|refine i9 ?_|refine i4 (t:=1) (b8 _ _ _) ?_|refine i4 (t:=2) (b8 _ _ _) ?_|refine i4 (t:=3) (b8 _ _ _) ?_|refine i5 (t:=1) (b8 _ _ _) ?_|refine i5 (t:=2) (b8 _ _ _) ?_|refine i5 (t:=3) (b8 _ _ _) ?_|refine zd ?_ ?_<;>intro h<;>try omega|refine zy ?_|fail)<;>conv=>whnf
 refine g8 b9 (fun q=>([S.c (C.ptr 0 0 0),a7 .i64 row,J,d9 b,J,J,S.c (C.t (T.ptr (C0 w))),J,S.c (C.ptr (k+7) 0 0)]++Jn 13++[j1 w.terms,a7 .i64 w.terms.length,a7 .i64 q]++Jn 73,a5u n k V G (fun i=>n+i) fr A [bx,flB (rF n (K2 w.terms q)),lnX k n w.value])) w.terms.length (fun _=>True) (idR (k+8)) trivial ?_ ?_
 ·refine Y7 (X':=[]) (a1w rfl rfl rfl rfl rfl ?_) rfl (by simp [b8]) ?_ ?_
  ·rfl
  ·intro b hb;simp at hb;rcases hb with rfl|rfl|rfl
   ·exact a48 hbx
   ·exact G5 rfl
   ·exact aA1 (by omega)
  ·exact ⟨⟨k7 (by omega),rfl,rfl⟩,rfl,rfl,g9 rfl,⟨k7 (by omega),rfl,rfl⟩,g9 rfl,c7 (by omega),c7 rfl,trivial⟩
 intro q hq _
 by_cases hlt:q<w.terms.length
 ·obtain ⟨t,ht⟩:∃t,w.terms[q]? =some t:=⟨_,lbf hlt⟩
  obtain ⟨t0,t1,t2⟩:=n9 hr t (lbm ht)
  have gp:(rF n (K2 w.terms q))[0+t.1.toNat]? =some (fz (K2 w.terms q t.1.toNat)):=by rw [D8,I1 (by omega)]
  have eV:0+t.1.toNat=t.1.toNat:=by omega
  have e:w6 (flB (rF n (K2 w.terms q))) ((flB (rF n (K2 w.terms q))).rows.set (0+t.1.toNat) (frC (fz t.2)))=flB (rF n (K2 w.terms (q+1))):=by
   have e1:=K7 (row:=rF n (K2 w.terms q)) (y:=fz t.2) eV
   rw [X9 (by omega),←I9 ht] at e1
   exact e1
  conv=>whnf
  repeat' (first|refine zx ?_|refine f9 ht ?_|refine o7 gp ?_|refine j3 (b8 _ _ _) ?_|refine i9 ?_|refine i4 (t:=1) (b8 _ _ _) ?_|refine i4 (t:=2) (b8 _ _ _) ?_|refine i4 (t:=3) (b8 _ _ _) ?_|refine i5 (t:=1) (b8 _ _ _) ?_|refine i5 (t:=2) (b8 _ _ _) ?_|refine i5 (t:=3) (b8 _ _ _) ?_|refine zd ?_ ?_<;>intro h<;>try omega|fail)<;>conv=>whnf
  all_goals first
   |omega
   |(refine ⟨hlt,trivial,idR (k+8),Y7 (X:=[bx,flB (rF n (K2 w.terms (q+1))),lnX k n w.value]) (a1w rfl rfl rfl rfl rfl (congrArg (fun z=>(mF k n A).map flB++(bx::z::lnX k n w.value::[_])) e)) rfl (by simp [b8]) ?_ ⟨⟨k7 (by omega),rfl,rfl⟩,rfl,rfl,rfl,⟨k7 (by omega),rfl,rfl⟩,rfl,rfl,c7 (by omega),trivial⟩⟩
     intro b hb;simp at hb;rcases hb with rfl|rfl|rfl
     ·exact a48 hbx
     ·exact G5 rfl
     ·exact aA1 (by omega))
 ·have hqe:q=w.terms.length:=by omega
  subst hqe
  cases b with
  |false=>
   conv=>whnf
   repeat' (first|refine aJ4 [0,1,2,3,4,5,6,7,9,10,11,12,13,14,15,16,8,17,18,19,20,21,22,23] (by decide +kernel) (by decide +kernel) ?_|refine zz ?_|refine zz ?_|refine zz ?_|refine zz ?_|refine zz ?_|refine zz ?_|refine qp (0,1,2,3,4,5,6,7,9,10,11,12,13,14,15,16,8,17,18,19,20,21,22,23) ?_|refine qp (toC,s9,C5,Z6,hfr) ?_|refine qp (toC,s9,C5,Z6) ?_|refine qp 0 ?_|refine qp (0,1,8,9,10,11,12,13,14,15) ?_|refine qp (0,1) ?_|refine qp 1 ?_|refine o6 (by simp [toC,s9,C5,Z6,hfr]) (by simp [toC,s9,C5,Z6];omega) ?_|refine bl0 [0] ?_|refine bl0 [0,1,8,9,10,11,12,13,14,15] ?_|refine bl0 [0,1] ?_|refine bl0 [1] ?_|refine j3 (b8 _ _ _) ?_|refine i9 ?_|refine i4 (t:=1) (b8 _ _ _) ?_|refine i4 (t:=2) (b8 _ _ _) ?_|refine i4 (t:=3) (b8 _ _ _) ?_|refine i5 (t:=1) (b8 _ _ _) ?_|refine i5 (t:=2) (b8 _ _ _) ?_|refine i5 (t:=3) (b8 _ _ _) ?_|refine i4 (t:=4) (b8 _ _ _) ?_|refine b0i (lbQ 1) ?_|refine zd ?_ ?_<;>intro h<;>try omega|refine zy ?_|fail)<;>conv=>whnf
   all_goals try omega
   all_goals refine b7I (n:=k+6) (by simp [b8]) (b0M (lit:=_) hbx (a1w rfl rfl rfl rfl rfl (congrArg (fun z=>(mF k n A).map flB++z) (l7 rfl rfl rfl ?_ rfl ?_ ?_))))
   ·exact congrArg (fun z=>({ mode:=.live,elem:=3,size:=1,rows:=z,box:=false }:Blk)) (a8d (x:=(n:Int)+k) (by simp))
   ·exact congrArg (fun z=>({ mode:=.live,elem:=367,size:=5,rows:=z,box:=false }:Blk)) (congrArg (fun z=>z++[frC (fz w.value)++[C.own (k+6) 0 n true]]) (lbn (by simp [C5])))
   ·exact congrArg (fun z=>({ mode:=.live,elem:=413,size:=2,rows:=z,box:=false }:Blk)) (af0 hfr (row,false))
  |true=>
   have nv:=Z1 w.value hv
   conv=>whnf
   repeat' (first|refine zx ?_|refine qp nv ?_|refine j3 (b8 _ _ _) ?_|refine i9 ?_|refine i4 (t:=1) (b8 _ _ _) ?_|refine i4 (t:=2) (b8 _ _ _) ?_|refine i4 (t:=3) (b8 _ _ _) ?_|refine i5 (t:=1) (b8 _ _ _) ?_|refine i5 (t:=2) (b8 _ _ _) ?_|refine i5 (t:=3) (b8 _ _ _) ?_|refine zd ?_ ?_<;>intro h<;>try omega|fail)<;>conv=>whnf
   all_goals try omega
   refine g8 b9 (fun q=>([S.c (C.ptr 0 0 0),a7 .i64 row,J,d9 true,J,J,J,J,S.c (C.ptr (k+7) 0 0)]++Jn 33++[j1 w.terms,a7 .i64 w.terms.length,a7 .i64 q]++Jn 53,a5u n k V G (fun i=>n+i) fr A [bx,flB (rF n (a4a w.terms q)),lnX k n (-w.value)])) w.terms.length (fun _=>True) (idR (k+8)) trivial ?_ ?_
   ·refine Y7 (X':=[]) (a1w rfl rfl rfl rfl rfl rfl) rfl (by simp [b8]) ?_ ?_
    ·intro b hb;simp at hb;rcases hb with rfl|rfl|rfl
     ·exact a48 hbx
     ·exact G5 rfl
     ·exact aA1 (by omega)
    ·exact ⟨⟨k7 (by omega),rfl,rfl⟩,rfl,rfl,⟨k7 (by omega),rfl,rfl⟩,g9 rfl,c7 (by omega),c7 rfl,trivial⟩
   intro q hq _
   by_cases hlt:q<w.terms.length
   ·obtain ⟨t,ht⟩:∃t,w.terms[q]? =some t:=⟨_,lbf hlt⟩
    obtain ⟨t0,t1,t2⟩:=n9 hr t (lbm ht)
    have nt:=Z1 t.2 (hb t (lbm ht))
    have gp:(rF n (a4a w.terms q))[0+t.1.toNat]? =some (fz (a4a w.terms q t.1.toNat)):=by rw [D8,I1 (by omega)]
    have eV:0+t.1.toNat=t.1.toNat:=by omega
    have e:w6 (flB (rF n (a4a w.terms q))) ((flB (rF n (a4a w.terms q))).rows.set (0+t.1.toNat) (frC (fz (-t.2))))=flB (rF n (a4a w.terms (q+1))):=by
     have e1:=K7 (row:=rF n (a4a w.terms q)) (y:=fz (-t.2)) eV
     rw [X9 (by omega),←aq7 ht] at e1
     exact e1
    conv=>whnf
    repeat' (first|refine zx ?_|refine qp nt ?_|refine f9 ht ?_|refine o7 gp ?_|refine j3 (b8 _ _ _) ?_|refine i9 ?_|refine i4 (t:=1) (b8 _ _ _) ?_|refine i4 (t:=2) (b8 _ _ _) ?_|refine i4 (t:=3) (b8 _ _ _) ?_|refine i5 (t:=1) (b8 _ _ _) ?_|refine i5 (t:=2) (b8 _ _ _) ?_|refine i5 (t:=3) (b8 _ _ _) ?_|refine zd ?_ ?_<;>intro h<;>try omega|fail)<;>conv=>whnf
    all_goals first
     |omega
     |(refine ⟨hlt,trivial,idR (k+8),Y7 (X:=[bx,flB (rF n (a4a w.terms (q+1))),lnX k n (-w.value)]) (a1w rfl rfl rfl rfl rfl (congrArg (fun z=>(mF k n A).map flB++(bx::z::lnX k n (-w.value)::[_])) e)) rfl (by simp [b8]) ?_ ⟨⟨k7 (by omega),rfl,rfl⟩,rfl,rfl,⟨k7 (by omega),rfl,rfl⟩,rfl,rfl,c7 (by omega),trivial⟩⟩
       intro b hb;simp at hb;rcases hb with rfl|rfl|rfl
       ·exact a48 hbx
       ·exact G5 rfl
       ·exact aA1 (by omega))
   ·have hqe:q=w.terms.length:=by omega
    subst hqe
    have ea:a4a w.terms w.terms.length=sgF true w.terms:=b3R w.terms
    conv=>whnf
    repeat' (first|refine aJ4 [0,1,2,3,4,5,6,7,9,10,11,12,13,14,15,16,8,17,18,19,20,21,22,23] (by decide +kernel) (by decide +kernel) ?_|refine zz ?_|refine zz ?_|refine zz ?_|refine zz ?_|refine zz ?_|refine zz ?_|refine qp (0,1,2,3,4,5,6,7,9,10,11,12,13,14,15,16,8,17,18,19,20,21,22,23) ?_|refine qp (toC,s9,C5,Z6,hfr) ?_|refine qp (toC,s9,C5,Z6) ?_|refine qp 0 ?_|refine qp (0,1,8,9,10,11,12,13,14,15) ?_|refine qp (0,1) ?_|refine qp 1 ?_|refine o6 (by simp [toC,s9,C5,Z6,hfr]) (by simp [toC,s9,C5,Z6];omega) ?_|refine bl0 [0] ?_|refine bl0 [0,1,8,9,10,11,12,13,14,15] ?_|refine bl0 [0,1] ?_|refine bl0 [1] ?_|refine j3 (b8 _ _ _) ?_|refine i9 ?_|refine i4 (t:=1) (b8 _ _ _) ?_|refine i4 (t:=2) (b8 _ _ _) ?_|refine i4 (t:=3) (b8 _ _ _) ?_|refine i5 (t:=1) (b8 _ _ _) ?_|refine i5 (t:=2) (b8 _ _ _) ?_|refine i5 (t:=3) (b8 _ _ _) ?_|refine i4 (t:=4) (b8 _ _ _) ?_|refine b0i (lbQ 1) ?_|refine zd ?_ ?_<;>intro h<;>try omega|refine zy ?_|fail)<;>conv=>whnf
    all_goals try omega
    all_goals refine b7I (n:=k+6) (by simp [b8]) (b0M (lit:=_) hbx (a1w rfl rfl rfl rfl rfl (congrArg (fun z=>(mF k n A).map flB++z) (l7 rfl (by rw [ea]) rfl ?_ rfl ?_ ?_))))
    ·exact congrArg (fun z=>({ mode:=.live,elem:=3,size:=1,rows:=z,box:=false }:Blk)) (a8d (x:=(n:Int)+k) (by simp))
    ·exact congrArg (fun z=>({ mode:=.live,elem:=367,size:=5,rows:=z,box:=false }:Blk)) (congrArg (fun z=>z++[frC (fz (-w.value))++[C.own (k+6) 0 n true]]) (lbn (by simp [C5])))
    ·exact congrArg (fun z=>({ mode:=.live,elem:=413,size:=2,rows:=z,box:=false }:Blk)) (af0 hfr (row,true))
def gR (N:Nat) (f:Nat->Option Nat):List (Option Nat):=(List.range N).map f
theorem a2R {N i:Nat} {f:Nat->Option Nat} (h:i<N):(gR N f)[i]? =some (f i):=by simp [gR,h]
theorem b3o {N i:Nat} {x:Option Nat} {f:Nat->Option Nat} (h:(gR N f)[i]? =some x):i<N∧f i=x:=by
 obtain ⟨h1,h2⟩:=lbe.1 h
 simp [gR] at h1 h2
 exact ⟨h1,h2⟩
theorem aJ3 {ρ:List (Option Nat)} {H:Hp}:∀{r:List (Option Nat)} {H':Hp},r.length=H'.length->(∀ (i:Nat) (k':Blk),H'[i]? =some k'->(r[i]? =some none∧k'.rows=[]∧k'.mode=.live)∨∃(j:Nat) (k:Blk),r[i]? =some (some j)∧H[j]? =some k∧a2f ρ H k k')->a2D ρ H r H'
 |[],[],_,_=>trivial
 |[],_::_,h,_=>by simp at h
 |_::_,[],h,_=>by simp at h
 |x::r,k'::H',hl,h=>by
  refine ⟨?_,aJ3 (by simpa using hl) fun i k1 hk=>by simpa using h (i+1) k1 (by simpa using hk)⟩
  rcases h 0 k' rfl with ⟨h1,h2,h3⟩|⟨j,k,h1,h2,h3⟩
  ·simp at h1;subst h1;exact ⟨h2,h3⟩
  ·simp at h1;subst h1
   simp only [h2]
   exact h3
theorem b3n {N:Nat} {f:Nat->Option Nat} {env env':Env} {H H':Hp} (hn:H'.length=N) (hinj:∀i j x,i<N->j<N->f i=some x->f j=some x->i=j)
 (hB:∀(i:Nat) (k':Blk),H'[i]? =some k'->(f i=none∧k'.rows=[]∧k'.mode=.live)∨∃(j:Nat) (k:Blk),f i=some j∧H[j]? =some k∧a2f (gR N f) H k k') (hE:a2x (gR N f) H env env'):Ent 0 (gR N f) env H env' H':=
 ⟨rfl,a2u fun i j n h1 h2=>by
   obtain ⟨a1,a2⟩:=b3o h1
   obtain ⟨b1,b2⟩:=b3o h2
   exact hinj i j n a1 b1 a2 b2,aJ3 (by simp [gR,hn]) fun i k' hk=>by
   have hi:i<N:=by rw [← hn];exact (lbe.1 hk).1
   rcases hB i k' hk with ⟨h1,h2⟩|⟨j,k,h1,h2⟩
   ·exact .inl ⟨by rw [a2R hi,h1],h2⟩
   ·exact .inr ⟨j,k,by rw [a2R hi,h1],h2⟩,hE⟩
theorem a5s {s:f7} (k:Nat):J5 s (k+1)=match s.rows[k]? with
 |none=>J5 s k
 |some w=>J5 s k++(if w.kind≠0 then [(k,false)] else [])++(if w.kind≠1 then [(k,true)] else []):=rfl
theorem ap4 {s:f7} {i:Nat}:∀d,∃rest,J5 s (i+d)=J5 s i++rest
 |0=>⟨[],by simp⟩
 |d+1=>by
  obtain ⟨r,hr⟩:=ap4 (s:=s) (i:=i) d
  rw [show i+(d+1)=(i+d)+1 by omega,a5s]
  cases s.rows[i+d]? with
  |none=>exact ⟨r,hr⟩
  |some w=>exact ⟨r++((if w.kind≠0 then [(i+d,false)] else [])++(if w.kind≠1 then [(i+d,true)] else [])),by simp only;rw [hr,lbD,lbD]⟩
theorem aq4 {s:f7} {i k:Nat} {f:Nat × Bool} (hi:i<=s.rows.length) (h:(J5 s i)[k]? =some f):(c8 s).getD k (0,false)=f:=by
 obtain ⟨r,hr⟩:=ap4 (s:=s) (i:=i) (s.rows.length - i)
 rw [show i+(s.rows.length - i)=s.rows.length by omega] at hr
 unfold c8
 rw [hr,lbl,lbb (lbe.1 h).1,h];rfl
theorem a4V {s:f7}:∀i,(J5 s i).length<=2*i
 |0=>by simp [J5]
 |i+1=>by
  have ih:=a4V (s:=s) i
  rw [a5s]
  cases s.rows[i]? with
  |none=>simp only;omega
  |some w=>
   simp only [lbq]
   split<;>split<;>simp<;>omega
theorem a9U {s:f7} {i:Nat} {w:j6} (h:s.rows[i]? =some w):J5 s (i+1)=(J5 s i++if w.kind≠0 then [(i,false)] else [])++if w.kind≠1 then [(i,true)] else []:=by
 rw [a5s,h]
def T1 (k:Nat):Nat->Nat:=fun i=>if i=0 then 0 else if i=1 then k+8 else if i=2 then 2 else if i=3 then k+7 else if i=4 then k+9 else if i<k+5 then i else if i=k+5 then k+6 else k+5
theorem ad3 {k:Nat} (i:Nat) (hi:i<k+7):(i=0∧T1 k i=0)∨(i=1∧T1 k i=k+8)∨(i=2∧T1 k i=2)∨(i=3∧T1 k i=k+7)∨(i=4∧T1 k i=k+9)∨(5<=i∧i<k+5∧T1 k i=i)∨(5<=i∧i=k+5∧T1 k i=k+6)∨(5<=i∧i=k+6∧T1 k i=k+5):=by
 unfold T1
 by_cases h0:i=0
 ·rw [if_pos h0];omega
 ·rw [if_neg h0]
  by_cases h1:i=1
  ·rw [if_pos h1];omega
  ·rw [if_neg h1]
   by_cases h2:i=2
   ·rw [if_pos h2];omega
   ·rw [if_neg h2]
    by_cases h3:i=3
    ·rw [if_pos h3];omega
    ·rw [if_neg h3]
     by_cases h4:i=4
     ·rw [if_pos h4];omega
     ·rw [if_neg h4]
      by_cases h5:i<k+5
      ·rw [if_pos h5];omega
      ·rw [if_neg h5]
       by_cases h6:i=k+5
       ·rw [if_pos h6];omega
       ·rw [if_neg h6];omega
theorem b5G {k:Nat}:T1 k (k+6)=k+5:=by
 have:=ad3 (k:=k) (k+6) (by omega)
 omega
theorem aZ1 {n k:Nat} {a V G:Nat->Rat} {v:Rat} {O:Nat->Nat} {fr:List (Nat × Bool)} {f:Nat × Bool} {A:Nat->Nat->Rat} {bx:Blk} {env env':Env} (hbx:C9 bx.rows) (hv:v=V k) (ha:a=A k)
 (hE:a2x (fR (k+7) (T1 k)) (b1j n k v a V G O fr f A bx) env env'):Ent 0 (fR (k+7) (T1 k)) env (b1j n k v a V G O fr f A bx) env' (a5u n (k+1) V G O (fr++[f]) A [bx]):=by
 subst hv ha
 have r1:T1 k 1=k+8:=rfl
 have r3:T1 k 3=k+7:=rfl
 have r4:T1 k 4=k+9:=rfl
 have ra:∀i,i<k->T1 k (i+5)=i+5:=fun i hi=>by
  unfold T1
  rw [if_neg (by omega),if_neg (by omega),if_neg (by omega),if_neg (by omega),if_neg (by omega),if_pos (by omega)]
 have rk:T1 k (k+5)=k+6:=by
  unfold T1
  rw [if_neg (by omega),if_neg (by omega),if_neg (by omega),if_neg (by omega),if_neg (by omega),if_neg (by omega),if_pos rfl]
 have rb:T1 k (k+6)=k+5:=by
  unfold T1
  rw [if_neg (by omega),if_neg (by omega),if_neg (by omega),if_neg (by omega),if_neg (by omega),if_neg (by omega),if_neg (by omega)]
 have lk:∀j,(b1j n k (V k) (A k) V G O fr f A bx)[k+j+5]? =([bx,flB (rF n (A k)),X3 (k+1) O,{ mode:=.live,elem:=367,size:=5,rows:=P7 5 k n V++[frC (fz (V k))++[C.own (k+6) 0 n true]],box:=false },a19 (fr++[f])]:Hp)[j]?:=fun j=>a1c (b8 _ _ _)
 have eV:aC6 k n (V k) V=V:=by funext i;unfold aC6;split<;>simp_all
 refine aT0 (by simp [b8]) (by omega) (fun i hi=>by omega) (fun i j hi hj h=>by have:=ad3 i hi;have:=ad3 j hj;omega) ?_ hE
 intro i k' hk
 rcases i with _|_|_|_|_|i
 ·injection hk with hk;subst hk
  exact ⟨_,rfl,rfl,rfl,rfl,.inr ⟨⟨rfl,⟨by rw [u9 (by omega),r1],rfl,rfl,fun h=>h⟩,⟨by rw [u9 (by omega)];rfl,rfl,rfl,fun h=>h⟩,⟨by rw [u9 (by omega),r3],rfl,rfl,fun h=>h⟩,rfl,⟨by rw [u9 (by omega),r4],rfl,rfl,fun h=>h⟩,trivial⟩,trivial⟩⟩
 ·injection hk with hk;subst hk
  refine ⟨_,lk 3,?_⟩
  rw [a9r,eV]
  refine a1y (h':=fun i=>i+5) fun j hj=>?_
  rw [u9 (by omega)]
  unfold hnd
  by_cases hjk:j=k
  ·subst hjk;rw [if_pos rfl,rk]
  ·rw [if_neg hjk,ra j (by omega)]
 ·injection hk with hk;subst hk;exact ⟨_,rfl,g7 (c6 _)⟩
 ·injection hk with hk;subst hk;exact ⟨_,lk 2,g7 (c6 _)⟩
 ·injection hk with hk;subst hk;exact ⟨_,lk 4,g7 (c6 _)⟩
 ·have hk:((mF (k+1) n A).map flB++[bx])[i]? =some k':=hk
  by_cases hi:i<k+1
  ·rw [J3 (O3 hi)] at hk
   injection hk with hk;subst hk
   by_cases hik:i=k
   ·subst hik;rw [rk];exact ⟨_,lk 1,g7 (c6 _)⟩
   ·rw [ra i (by omega)]
    exact ⟨_,J3 (O3 (by omega)),g7 (c6 _)⟩
  ·obtain ⟨t,rfl⟩:∃t,i=(k+1)+t:=⟨i - (k+1),by omega⟩
   rw [a1c (b8 _ _ _)] at hk
   rcases t with _|t
   ·injection hk with hk;subst hk
    rw [show k+1+0+5=k+6 by omega,rb]
    exact ⟨_,lk 0,g7 hbx⟩
   ·simp at hk
theorem b5I {b0 b1 b2 b3 b4 b5 c0 c1 c2 c3 c4 c5:Blk} {L L':Hp} (h0:b0=c0) (h1:b1=c1) (h2:b2=c2) (h3:b3=c3) (h4:b4=c4) (h5:b5=c5) (h6:L=L'):b0::b1::b2::b3::b4::b5::L=c0::c1::c2::c3::c4::c5::L':=a0N h0 h1 h2 h3 h4 h5 h6
theorem z7:∀{last n:Int} {l:List (Int × Rat)},d6 last n l=true->l.length=0∨(l.length:Int)<=n - last - 1
 |_,_,[],_=>.inl rfl
 |last,n,a::r,h=>by
  unfold d6 at h
  simp only [lbM,lbI] at h
  have ih:=z7 h.2
  have h1:=h.1.1.1
  have h2:=h.1.1.2
  right
  rw [lbu]
  rcases ih with h0|h0
  ·rw [h0];omega
  ·omega
structure b7u (s:f7) (g:List (Int × Rat)) (n:Nat):Prop where
 r:i7 s=true
 tg:d6 (-1) n g=true
 en:s.n=n
 n1:n<=1000
 b:∀w ∈ s.rows,rl w.value<=60000∧∀t ∈ w.terms,rl t.2<=60000
 bg:∀t ∈ g,rl t.2<=60000
 l:s.rows.length<=4000
abbrev rbx (w:j6):Blk:={ mode:=.live,elem:=192,size:=6,rows:=[(C0 w).map C.t],box:=true }
theorem aE1 (w:j6):C9 (rbx w).rows:=c6 [C0 w]
def a1j (s:f7):List T:=[ti s.n,R8 s.rows]
def pF1:Nat->Option Nat:=fun i=>if i=0 then some 1 else if i=2 then some 0 else none
theorem b03 {s:f7} {g:List (Int × Rat)} {k:Nat} {b:Bool} {i:Nat} {w:j6} (h:(c8 s).getD k (0,false)=(i,b)) (hw:s.rows[i]? =some w):U8 b w.value=(f8 s g).V k:=by
 show _=a3q s ((c8 s).getD k (0,false))
 rw [h];unfold a3q;simp only [hw]
theorem b1i {s:f7} {g:List (Int × Rat)} {k:Nat} {b:Bool} {i:Nat} {w:j6} (h:(c8 s).getD k (0,false)=(i,b)) (hw:s.rows[i]? =some w):sgF b w.terms=(f8 s g).A k:=by
 funext j
 show _=a3j s ((c8 s).getD k (0,false)) j
 rw [h];unfold a3j;simp only [hw];rfl
abbrev dF (m n j q:Nat):Blk:={ mode:=.live,elem:=364,size:=6,rows:=[[C.t (ti n),.own 1 0 m true,.own 2 0 n true,.own 3 0 m true,.own 4 0 j true,.own 5 0 q true]],box:=true }
abbrev b6E (m n j:Nat) (V G:Nat->Rat) (O:Nat->Nat) (fr:List (Nat × Bool)) (A:Nat->Nat->Rat) (X:Hp):Hp:=
 dF m n j fr.length::a0t 6 m n V::flB (rF n G)::X3 m O::X3 j (fun j=>j)::a19 fr::((mF m n A).map flB++X)
def fF1:Nat->Option Nat:=fun i=>if i=4 then none else if i<4 then some i else some (i - 1)
theorem b5w {m n:Nat} {V G:Nat->Rat} {O:Nat->Nat} {fr:List (Nat × Bool)} {A:Nat->Nat->Rat} {env env':Env} {H:Hp} (hm:fr.length=m) (hH:H=a5u n m V G O fr A []) (hE:a2x (gR (m+6) fF1) H env env'):
 Ent 0 (gR (m+6) fF1) env H env' (b6E m n 0 V G O fr A []):=by
 subst hH
 refine b3n (by simp [b8]) (fun i j x hi hj h1 h2=>by unfold fF1 at h1 h2;(repeat' split at h1)<;>(repeat' split at h2)<;>first|(cases h1;done)|(cases h2;done)|(injection h1 with h1;injection h2 with h2;omega)) ?_ hE
 intro i k' hk
 have fa:∀i,fF1 (i+6)=some (i+5):=fun i=>by unfold fF1;rw [if_neg (by omega),if_neg (by omega)];rfl
 rcases i with _|_|_|_|_|_|i
 ·injection hk with hk;subst hk
  exact .inr ⟨0,_,rfl,rfl,rfl,rfl,rfl,.inr ⟨⟨rfl,⟨by rw [a2R (by omega)];rfl,rfl,rfl,fun h=>h⟩,⟨by rw [a2R (by omega)];rfl,rfl,rfl,fun h=>h⟩,⟨by rw [a2R (by omega)];rfl,rfl,rfl,fun h=>h⟩,⟨by rw [a2R (by omega)];rfl,rfl,rfl⟩,⟨by rw [a2R (by omega)];rfl,rfl,hm.symm,fun h=>h⟩,trivial⟩,trivial⟩⟩
 ·injection hk with hk;subst hk
  refine .inr ⟨1,_,rfl,rfl,a1y (h:=fun i=>i+5) (h':=fun i=>i+6) fun j hj=>?_⟩
  rw [a2R (by omega),fa]
 ·injection hk with hk;subst hk;exact .inr ⟨2,_,rfl,rfl,g7 (c6 _)⟩
 ·injection hk with hk;subst hk;exact .inr ⟨3,_,rfl,rfl,g7 (c6 _)⟩
 ·injection hk with hk;subst hk;exact .inl ⟨rfl,rfl,rfl⟩
 ·injection hk with hk;subst hk;exact .inr ⟨4,_,rfl,rfl,g7 (c6 _)⟩
 ·have hk:((mF m n A).map flB++[])[i]? =some k':=hk
  have hi:i<m:=by have:=(lbe.1 hk).1;simpa [b8] using this
  rw [J3 (O3 hi)] at hk
  injection hk with hk;subst hk
  exact .inr ⟨i+5,_,fa i,J3 (O3 hi),g7 (c6 _)⟩
abbrev bb7 (m n j:Nat) (V G:Nat->Rat) (O:Nat->Nat) (fr:List (Nat × Bool)) (A:Nat->Nat->Rat):Hp:=
 { mode:=.live,elem:=364,size:=6,rows:=[[C.t (ti n),.own 1 0 m true,.own 2 0 n true,.own 3 0 m true,.own (m+6) 0 (j+1) true,.own 5 0 fr.length true]],box:=true }::
   a0t 6 m n V::flB (rF n G)::X3 m O::a9v 3 1::a19 fr::((mF m n A).map flB++[X3 (j+1) (fun j=>j)])
def fF2 (m:Nat):Nat->Nat:=fun i=>if i=4 then m+6 else i
theorem b6G {m n j:Nat} {V G:Nat->Rat} {O:Nat->Nat} {fr:List (Nat × Bool)} {A:Nat->Nat->Rat} {env env':Env} {H:Hp} (hH:H=bb7 m n j V G O fr A) (hE:a2x (fR (m+6) (fF2 m)) H env env'):
 Ent 0 (fR (m+6) (fF2 m)) env H env' (b6E m n (j+1) V G O fr A []):=by
 subst hH
 have fa:∀i,i≠4->fF2 m i=i:=fun i hi=>by unfold fF2;rw [if_neg hi]
 refine aT0 (by simp [b8]) (by omega) (fun i hi=>by omega) (fun i j hi hj h=>by unfold fF2 at h;(repeat' split at h)<;>omega) ?_ hE
 intro i k' hk
 rcases i with _|_|_|_|_|_|i
 ·injection hk with hk;subst hk
  exact ⟨_,rfl,rfl,rfl,rfl,.inr ⟨⟨rfl,⟨by rw [u9 (by omega)];rfl,rfl,rfl,fun h=>h⟩,⟨by rw [u9 (by omega)];rfl,rfl,rfl,fun h=>h⟩,⟨by rw [u9 (by omega)];rfl,rfl,rfl,fun h=>h⟩,⟨by rw [u9 (by omega)];rfl,rfl,rfl,fun h=>h⟩,⟨by rw [u9 (by omega)];rfl,rfl,rfl,fun h=>h⟩,trivial⟩,trivial⟩⟩
 ·injection hk with hk;subst hk
  refine ⟨_,rfl,a1y (h:=fun i=>i+6) (h':=fun i=>i+6) fun j hj=>?_⟩
  rw [u9 (by omega),fa _ (by omega)]
 ·injection hk with hk;subst hk;exact ⟨_,rfl,g7 (c6 _)⟩
 ·injection hk with hk;subst hk;exact ⟨_,rfl,g7 (c6 _)⟩
 ·injection hk with hk;subst hk
  refine ⟨_,a1c (t:=0) (b8 _ _ _),g7 (c6 _)⟩
 ·injection hk with hk;subst hk;exact ⟨_,rfl,g7 (c6 _)⟩
 ·have hk:((mF m n A).map flB++[])[i]? =some k':=hk
  have hi:i<m:=by have:=(lbe.1 hk).1;simpa [b8] using this
  rw [J3 (O3 hi)] at hk
  injection hk with hk;subst hk
  rw [fa _ (by omega)]
  exact ⟨_,J3 (O3 hi),g7 (c6 _)⟩
theorem a7A (s:f7) (g:List (Int × Rat)) (n:Nat) (h:b7u s g n):
 a8 Tryz.prog 195 [Q8 s,j1 g] [] (.c (.ptr 0 0 0)) (Y8 (c8 s).length n (c8 s) (f8 s g)):=by
 have m1:(s.rows.map C0).length=s.rows.length:=by simp
 have m2:(g.map i8).length=g.length:=by simp
 have z0:∀H:Hp,H.length=0->R2 Tryz.prog 241 [a7 .i64 s.n] H (.c (.own 0 0 n true)) [flB (rF n fun _=>0)]:=fun H hH=>by rw [h.en];exact a0c hH h.n1
 have hsl:=h.l
 have htg:=h.tg
 have hbg:=h.bg
 have hgl:=z7 htg
 have hn1:=h.n1
 have hen:=h.en
 have put0:∀(K i:Nat) (w:j6) (b:Bool) (F:List (Nat × Bool)) (bx:Blk),s.rows[i]? =some w->F.length=K->C9 bx.rows->K<=10000->i<=100000->
  a8 Tryz.prog 242 [.c (.ptr 0 0 0),a7 .i64 i,b6g w,d9 b] (a5u n K (f8 s g).V (fun _=>0) (fun i=>n+i) F (f8 s g).A [bx]) (.tup []) (b1j n K (U8 b w.value) (sgF b w.terms) (f8 s g).V (fun _=>0) (fun i=>n+i) F (i,b) (f8 s g).A bx):=by
  intro K i w b F bx hw hF hbx hK hi
  have hn:=O9 h.r
  have hrw:=(a0n h.r hw).1
  rw [hn,h.en] at hrw
  have hl:=z7 hrw
  have hb:=h.b w (lbm hw)
  exact b9G n K i w b _ _ F hF _ bx hbx h.n1 hK hi hrw (by have:=h.n1;omega) hb.2 hb.1
 (refine ac Tryz.func195 ?_;(conv=>whnf);repeat ((first|refine b0x ?_|refine zy ?_);conv=>whnf))
 repeat' (first|refine zz ?_|refine b0x ?_|refine .inl ⟨_,_,z0 _ rfl,?_⟩|refine zd ?_ ?_<;>intro h<;>try omega|refine zy ?_|fail)<;>conv=>whnf
 refine aF9 (fun i=>([J,j1 g,S.c (C.t (T.ptr (a1j s))),J,J,S.c (C.ptr 0 0 0)]++Jn 13++[S.c (C.t (R8 s.rows)),a7 .i64 s.rows.length,a7 .i64 i]++Jn 53,a5u n (J5 s i).length (f8 s g).V (fun _=>0) (fun i=>n+i) (J5 s i) (f8 s g).A [])) s.rows.length (fun _=>True) (gR 5 pF1) trivial ?_ ?_
 ·refine b3n rfl (fun i j x hi hj h1 h2=>by unfold pF1 at h1 h2;(repeat' split at h1)<;>(repeat' split at h2)<;>first|(cases h1;done)|(cases h2;done)|(injection h1 with h1;injection h2 with h2;omega)) ?_ ?_
  ·intro i k' hk
   rcases i with _|_|_|_|_|i
   ·injection hk with hk;subst hk
    exact .inr ⟨1,_,rfl,rfl,rfl,rfl,rfl,.inr ⟨⟨b0w (by rw [h.en]),⟨rfl,rfl,rfl⟩,⟨rfl,rfl,rfl,fun h=>h⟩,⟨rfl,rfl,rfl⟩,rfl,⟨rfl,rfl,rfl⟩,trivial⟩,trivial⟩⟩
   ·injection hk with hk;subst hk;exact .inl ⟨rfl,rfl,rfl⟩
   ·injection hk with hk;subst hk;exact .inr ⟨0,_,rfl,rfl,g7 (c6 _)⟩
   ·injection hk with hk;subst hk;exact .inl ⟨rfl,rfl,rfl⟩
   ·injection hk with hk;subst hk;exact .inl ⟨rfl,rfl,rfl⟩
   ·simp [mF,J5] at hk
  ·exact ⟨rfl,g9 rfl,⟨rfl,rfl,rfl⟩,g9 rfl,c7 (by omega),c7 rfl,trivial⟩
 intro i hi _
 refine x4 b9 ?_
 conv=>whnf
 repeat' (first|refine zx ?_|refine i9 ?_|refine zd ?_ ?_<;>intro h<;>try omega|fail)<;>conv=>whnf
 ·have hlt:i<s.rows.length:=by omega
  obtain ⟨w,hw⟩:∃w,s.rows[i]? =some w:=⟨_,lbf hlt⟩
  obtain ⟨K,hK⟩:∃K,K=(J5 s i).length:=⟨_,rfl⟩
  rw [← hK]
  obtain ⟨K1,hK1⟩:∃K1,K1=(J5 s i++if w.kind≠0 then [(i,false)] else []).length:=⟨_,rfl⟩
  obtain ⟨F1,hF1⟩:∃F1,F1=(J5 s i++if w.kind≠0 then [(i,false)] else []):=⟨_,rfl⟩
  have hKb:K<=10000:=by have:=a4V (s:=s) i;omega
  refine x4 b9 ?_
  conv=>whnf
  refine a2C (a3g ?_)
  refine x4 b9 ?_
  conv=>whnf
  repeat' (first|refine zx ?_|refine f9 hw ?_|refine j3 (b8 _ _ _) ?_|refine i9 ?_|refine i4 (t:=0) (b8 _ _ _) ?_|refine i5 (t:=0) (b8 _ _ _) ?_|refine zd ?_ ?_<;>intro h<;>try omega|fail)<;>conv=>whnf
  refine a0U b9 ([J,j1 g,S.c (C.t (T.ptr (a1j s))),J,J,S.c (C.ptr 0 0 0),a7 .i64 i,S.c (C.ptr (K1+5) 0 0)]++Jn 11++[S.c (C.t (R8 s.rows)),a7 .i64 s.rows.length,a7 .i64 i]++Jn 53) (a5u n K1 (f8 s g).V (fun _=>0) (fun i=>n+i) F1 (f8 s g).A [rbx w]) ?_ ?_
  ·by_cases hk:w.kind=0
   ·have e1:F1=J5 s i:=by rw [hF1,if_neg (by simp [hk]),R7]
    have e2:K1=K:=by rw [hK1,if_neg (by simp [hk]),R7,hK]
    subst e1 e2
    conv=>whnf
    repeat' (first|refine zx ?_|refine j3 (b8 _ _ _) ?_|refine i9 ?_|refine i4 (t:=0) (b8 _ _ _) ?_|refine i5 (t:=0) (b8 _ _ _) ?_|refine zd ?_ ?_<;>intro h<;>try omega|fail)<;>conv=>whnf
    all_goals first
     |omega
     |exact ⟨idR (K1+6),Y7 (X:=[rbx w]) (X':=[]) (a1w rfl rfl rfl rfl rfl rfl) rfl (B9 _) (by intro b hb;simp at hb;subst hb;exact a48 (aE1 w)) ⟨rfl,rfl,⟨k7 (by omega),rfl,rfl⟩,rfl,⟨k7 (by omega),rfl,rfl⟩,rfl,rfl,rfl,trivial⟩⟩
   ·have e1:F1=J5 s i++[(i,false)]:=by rw [hF1,if_pos hk]
    have e2:K1=K+1:=by rw [hK1,if_pos hk,lbq,←hK];rfl
    have hg:(c8 s).getD K (0,false)=(i,false):=by
     refine aq4 (i:=i+1) (by omega) ?_
     rw [a9U hw,if_pos hk,lbD,lbc (by omega),hK];simp
    subst e1 e2
    have pu:=put0 K i w false (J5 s i) (rbx w) hw hK.symm (aE1 w) hKb (by omega)
    conv=>whnf
    repeat' (first|refine zx ?_|refine .inr ⟨_,_,pu,?_⟩|refine j3 (b8 _ _ _) ?_|refine i9 ?_|refine i4 (t:=0) (b8 _ _ _) ?_|refine i5 (t:=0) (b8 _ _ _) ?_|refine zd ?_ ?_<;>intro h<;>try omega|fail)<;>conv=>whnf
    all_goals first
     |omega
     |exact ⟨_,aZ1 (aE1 w) (b03 hg hw) (b1i hg hw) ⟨rfl,rfl,⟨by rw [u9 (by omega)];rfl,rfl,rfl⟩,rfl,⟨by rw [u9 (by omega),b5G],rfl,rfl⟩,rfl,rfl,rfl,trivial⟩⟩
  ·have hl1:F1.length=K1:=by rw [hF1,hK1]
   have eF:J5 s (i+1)=F1++if w.kind≠1 then [(i,true)] else []:=by rw [a9U hw,hF1]
   have hK1b:K1<=10000:=by
    have:=a4V (s:=s) i
    rw [hK1,lbq]
    split<;>simp<;>omega
   by_cases hk:w.kind=1
   ·have e1:J5 s (i+1)=F1:=by rw [eF,if_neg (by simp [hk]),R7]
    refine k8 b9 _ ?_
    conv=>whnf
    repeat' (first|refine zx ?_|refine j3 (b8 _ _ _) ?_|refine i9 ?_|refine i4 (t:=0) (b8 _ _ _) ?_|refine i5 (t:=0) (b8 _ _ _) ?_|refine zd ?_ ?_<;>intro h<;>try omega|fail)<;>conv=>whnf
    all_goals try omega
    refine k8 b9 _ ?_
    conv=>whnf
    repeat' (first|refine zx ?_|refine j3 (b8 _ _ _) ?_|refine i9 ?_|refine i4 (t:=0) (b8 _ _ _) ?_|refine i5 (t:=0) (b8 _ _ _) ?_|refine zd ?_ ?_<;>intro h<;>try omega|fail)<;>conv=>whnf
    refine ⟨hlt,trivial,idR (K1+5),?_⟩
    rw [e1,hl1]
    exact Y7 (X:=[]) (X':=[rbx w]) (a1w rfl rfl rfl rfl rfl rfl) rfl (B9 _) (by simp) ⟨rfl,rfl,⟨k7 (by omega),rfl,rfl⟩,rfl,rfl,c7 (by omega),trivial⟩
   ·have e1:J5 s (i+1)=F1++[(i,true)]:=by rw [eF,if_pos hk]
    have hg:(c8 s).getD K1 (0,false)=(i,true):=by
     refine aq4 (i:=i+1) (by omega) ?_
     rw [e1,lbc (by omega),hl1];simp
    have pu:=put0 K1 i w true F1 (rbx w) hw hl1 (aE1 w) hK1b (by omega)
    refine k8 b9 _ ?_
    conv=>whnf
    repeat' (first|refine zx ?_|refine .inr ⟨_,_,pu,?_⟩|refine j3 (b8 _ _ _) ?_|refine i9 ?_|refine i4 (t:=0) (b8 _ _ _) ?_|refine i5 (t:=0) (b8 _ _ _) ?_|refine zd ?_ ?_<;>intro h<;>try omega|fail)<;>conv=>whnf
    all_goals try omega
    refine b5P (env':=[J,j1 g,S.c (C.t (T.ptr (a1j s))),J,J,S.c (C.ptr 0 0 0)]++Jn 13++[S.c (C.t (R8 s.rows)),a7 .i64 s.rows.length,a7 .i64 i]++Jn 53) _ (aZ1 (aE1 w) (b03 hg hw) (b1i hg hw) ⟨rfl,rfl,⟨by rw [u9 (by omega)];rfl,rfl,rfl⟩,rfl,rfl,rfl,trivial⟩) ?_
    refine k8 b9 _ ?_
    conv=>whnf
    repeat' (first|refine zx ?_|refine j3 (b8 _ _ _) ?_|refine i9 ?_|refine i4 (t:=0) (b8 _ _ _) ?_|refine i5 (t:=0) (b8 _ _ _) ?_|refine zd ?_ ?_<;>intro h<;>try omega|fail)<;>conv=>whnf
    refine ⟨hlt,trivial,idR (K1+1+5),?_⟩
    rw [e1,show (F1++[(i,true)]).length=K1+1 by simp [hl1]]
    exact Y7 (X:=[]) (X':=[rbx w]) (a1w rfl rfl rfl rfl rfl rfl) rfl (B9 _) (by simp) ⟨rfl,rfl,⟨k7 (by omega),rfl,rfl⟩,rfl,rfl,c7 (by omega),trivial⟩
 ·have hie:i=s.rows.length:=by omega
  subst hie
  refine k8 b9 _ ?_
  conv=>whnf
  repeat' (first|refine zx ?_|refine j3 (b8 _ _ _) ?_|refine i9 ?_|refine i4 (t:=0) (b8 _ _ _) ?_|refine i5 (t:=0) (b8 _ _ _) ?_|refine zd ?_ ?_<;>intro h<;>try omega|fail)<;>conv=>whnf
  all_goals try omega
  refine g8 b9 (fun q=>([J,J,S.c (C.t (T.ptr (a1j s))),J,J,S.c (C.ptr 0 0 0)]++Jn 35++[j1 g,a7 .i64 g.length,a7 .i64 q]++Jn 31,a5u n (c8 s).length (f8 s g).V (fun j=>-(K2 g q j)) (fun i=>n+i) (c8 s) (f8 s g).A [])) g.length (fun _=>True) (idR ((c8 s).length+5)) trivial ?_ ?_
  ·refine Y7 (X:=[]) (X':=[]) (a1w rfl rfl ?_ rfl rfl rfl) rfl (B9 _) (by simp) ⟨g9 rfl,⟨k7 (by omega),rfl,rfl⟩,g9 rfl,c7 (by omega),c7 rfl,trivial⟩
   rw [G3 (g:=fun _=>0) (h:=fun j=>-(K2 g 0 j)) fun j hj=>by show (0:Rat)=-0;decide]
  intro q hq _
  by_cases hlt:q<g.length
  ·obtain ⟨t,ht⟩:∃t,g[q]? =some t:=⟨_,lbf hlt⟩
   obtain ⟨t0,t1,t2⟩:=n9 htg t (lbm ht)
   have nt:=Z1 t.2 (hbg t (lbm ht))
   have gp:(rF n (fun j=>-(K2 g q j)))[0+t.1.toNat]? =some (fz (-(K2 g q t.1.toNat))):=by rw [D8,I1 (by omega)]
   have eV:0+t.1.toNat=t.1.toNat:=by omega
   have e:w6 (flB (rF n (fun j=>-(K2 g q j)))) ((flB (rF n (fun j=>-(K2 g q j)))).rows.set (0+t.1.toNat) (frC (fz (-t.2))))=flB (rF n (fun j=>-(K2 g (q+1) j))):=by
    have e1:=K7 (row:=rF n (fun j=>-(K2 g q j))) (y:=fz (-t.2)) eV
    rw [X9 (by omega)] at e1
    refine e1.trans ?_
    rw [I9 ht]
    refine congrArg flB ?_
    exact G3 fun j hj=>by show (if j=t.1.toNat then -t.2 else -(K2 g q j))=-(if j=t.1.toNat then t.2 else K2 g q j);split<;>rfl
   conv=>whnf
   repeat' (first|refine zx ?_|refine qp nt ?_|refine f9 ht ?_|refine o7 gp ?_|refine j3 (b8 _ _ _) ?_|refine i9 ?_|refine i4 (t:=0) (b8 _ _ _) ?_|refine i5 (t:=0) (b8 _ _ _) ?_|refine zd ?_ ?_<;>intro h<;>try omega|fail)<;>conv=>whnf
   all_goals first
    |omega
    |exact ⟨hlt,trivial,idR ((c8 s).length+5),Y7 (X:=[]) (X':=[_]) (a1w rfl rfl e rfl rfl rfl) rfl (B9 _) (by simp) ⟨rfl,⟨k7 (by omega),rfl,rfl⟩,rfl,rfl,c7 (by omega),trivial⟩⟩
  ·have hqe:q=g.length:=by omega
   subst hqe
   conv=>whnf
   repeat' (first|refine zx ?_|refine j3 (b8 _ _ _) ?_|refine i9 ?_|refine i4 (t:=0) (b8 _ _ _) ?_|refine i5 (t:=0) (b8 _ _ _) ?_|refine zd ?_ ?_<;>intro h<;>try omega|fail)<;>conv=>whnf
   all_goals try omega
   refine g8 b9 (fun q=>([J,J,J,J,J,S.c (C.ptr 0 0 0)]++Jn 53++[a7 .i64 n,a7 .i64 q]++Jn 14,b6E (c8 s).length n q (f8 s g).V (f8 s g).G (fun i=>n+i) (c8 s) (f8 s g).A [])) n (fun _=>True) (gR ((c8 s).length+6) fF1) trivial ?_ ?_
   ·exact b5w rfl rfl ⟨⟨by rw [a2R (by omega)];rfl,rfl,rfl⟩,c7 hen,c7 rfl,trivial⟩
   intro q hq _
   by_cases hlt:q<n
   ·conv=>whnf
    repeat' (first|refine zx ?_|refine qp (toC,s9) ?_|refine qp (toC,s9) ?_|refine qp 0 ?_|refine o6 (by simp [toC,s9]) (by simp [toC,s9];omega) ?_|refine bl0 [0] ?_|refine j3 (b8 _ _ _) ?_|refine i9 ?_|refine i4 (t:=0) (b8 _ _ _) ?_|refine i5 (t:=0) (b8 _ _ _) ?_|refine zd ?_ ?_<;>intro h<;>try omega|fail)<;>conv=>whnf
    all_goals first
     |omega
     |(refine ⟨hlt,trivial,fR ((c8 s).length+6) (fF2 (c8 s).length),b6G (b5I rfl rfl rfl rfl rfl rfl (congrArg (fun z=>(mF (c8 s).length n (f8 s g).A).map flB++[z]) ?_)) ⟨⟨by rw [u9 (by omega)];rfl,rfl,rfl⟩,rfl,c7 (by omega),trivial⟩⟩
       exact congrArg (fun z=>({ mode:=.live,elem:=3,size:=1,rows:=z,box:=false }:Blk)) (a8d (O:=fun j=>j) (x:=(q:Int)) rfl))
   ·have hqe:q=n:=by omega
    subst hqe
    conv=>whnf
    repeat' (first|refine zx ?_|refine j3 (b8 _ _ _) ?_|refine i9 ?_|refine i4 (t:=0) (b8 _ _ _) ?_|refine i5 (t:=0) (b8 _ _ _) ?_|refine zd ?_ ?_<;>intro h<;>try omega|fail)<;>conv=>whnf
    all_goals try omega
    refine ar9 (n:=(c8 s).length+6) a2y (B9 _) a6F (fun i _=>?_) ⟨k7 (by omega),rfl,rfl⟩
    have e0:Y8 (c8 s).length q (c8 s) (f8 s g)=b6E (c8 s).length q q (f8 s g).V (f8 s g).G (fun i=>q+i) (c8 s) (f8 s g).A []:=by
     have eO:(f8 s g).O=fun i=>q+i:=by funext i;show s.n.toNat+i=_;rw [hen];rfl
     show _::_::_::X3 _ (f8 s g).O::_::_::_=_::_::_::_::_::_::(_++[])
     rw [R7,eO];rfl
    rw [e0]
def ptK (n:Nat) (O:Nat->Nat) (v x0:Nat->Rat):Nat->Nat->Rat
 |0=>x0
 |k+1=>fun j=>if O k<n∧j=O k then v k else ptK n O v x0 k j
theorem S2 {n:Nat} {O:Nat->Nat} {v x0:Nat->Rat} {k:Nat}:ptK n O v x0 (k+1)=fun j=>if O k<n∧j=O k then v k else ptK n O v x0 k j:=rfl
theorem ah9 {n:Nat} {O:Nat->Nat} {v x0:Nat->Rat} {j:Nat}:∀{k:Nat},(∀ i,i<k->O i≠j)->ptK n O v x0 k j=x0 j
 |0,_=>rfl
 |k+1,h=>by rw [S2];simp only;rw [if_neg (fun e=>h k (by omega) e.2.symm),ah9 fun i hi=>h i (by omega)]
theorem ah0 {n:Nat} {O:Nat->Nat} {v x0:Nat->Rat} {i:Nat}:∀{k:Nat},i<k->O i<n->(∀ a,a<k->O a=O i->a=i)->ptK n O v x0 k (O i)=v i
 |0,h,_,_=>by omega
 |k+1,h,hn,hu=>by
  rw [S2];simp only
  by_cases he:O k=O i
  ·have:=hu k (by omega) he
   subst this
   rw [if_pos ⟨hn,rfl⟩]
  ·rw [if_neg (fun e=>he e.2.symm)]
   have:i≠k:=fun e=>he (by rw [e])
   exact ah0 (by omega) hn fun a ha=>hu a (by omega)
theorem b3i {m n:Nat} {D:Fd} (hP:a0F m n D) {j:Nat} (hj:j<n):ptK n D.O D.V (fun _=>0) m j=a1F m n D 1 (fun _=>0) j:=by
 rcases hP.all j (by omega) with ⟨i,hi,rfl⟩|⟨q,hq,rfl⟩
 ·rw [ah0 hi hj fun a ha he=>hP.oi a i ha hi he,a58 hP hi,p6 fun j _=>by grind];grind
 ·rw [ah9 fun i hi=>hP.of i q hi hq,a0O hP hq]
theorem b0g {m n c:Nat} {D:Fd} (hP:a0F m n D) (hc:c<n) {j:Nat} (hj:j<n):ptK n D.O (fun i=>-(D.A i c)) (fun j=>if D.F c<n∧j=D.F c then 1 else 0) m j=a1F m n D 0 (fun q=>if q=c then 1 else 0) j:=by
 rcases hP.all j (by omega) with ⟨i,hi,rfl⟩|⟨q,hq,rfl⟩
 ·rw [ah0 hi hj fun a ha he=>hP.oi a i ha hi he,a58 hP hi,d8 (g:=fun q=>(if c=q then (1:Rat) else 0)*D.A i q) fun q _=>by
   by_cases h:q=c
   ·subst h;simp only [if_true];grind
   ·rw [if_neg h,if_neg (fun e=>h e.symm)];grind,a61 hc]
  grind
 ·rw [ah9 fun i hi=>hP.of i q hi hq,a0O hP hq]
  by_cases h:q=c
  ·subst h;rw [if_pos rfl,if_pos ⟨hj,rfl⟩]
  ·rw [if_neg h,if_neg (fun e=>h (hP.fi q c hq hc e.2))]
theorem ab4 (n:Nat) (y:Nat->Rat):(zOf n y).map fz=rF n y:=by unfold zOf rF;rw [Z3];rfl
abbrev dT (m n:Nat) (fr:List (Nat × Bool)) (D:Fd):S:=.c (.t (.ptr (b7m m n fr D)))
theorem b5i (m n:Nat) (fr:List (Nat × Bool)) (D:Fd) (hP:a0F m n D) (hm:m<=100000) (hn:n<=1000):a8 Tryz.prog 197 [dT m n fr D] [] (B4 ((zOf n (a1F m n D 1 (fun _=>0))).map fz)) []:=by
 have m1:(a0D m D.O).length=m:=s9 _ _
 have z0:∀H:Hp,H.length=0->R2 Tryz.prog 241 [a7 .i64 n] H (.c (.own 0 0 n true)) [flB (rF n fun _=>0)]:=fun H hH=>a0c hH hn
 rw [ab4,←G3 (g:=ptK n D.O D.V (fun _=>0) m) fun j hj=>b3i hP hj]
 (refine ac Tryz.func197 ?_;(conv=>whnf);repeat ((first|refine b0x ?_|refine zy ?_);conv=>whnf))
 repeat' (first|refine zx ?_|refine .inl ⟨_,_,z0 _ rfl,?_⟩|refine zd ?_ ?_<;>intro h<;>try omega|fail)<;>conv=>whnf
 refine g8 b9 (fun k=>([dT m n fr D,J,J,S.c (C.own 0 0 n true)]++Jn 10++[a5V m D.O,a7 .i64 m,a7 .i64 k]++Jn 23,[flB (rF n (ptK n D.O D.V (fun _=>0) k))])) m (fun _=>True) [some 0] trivial
  ⟨rfl,rfl,⟨g7 (c6 _),trivial⟩,⟨g9 rfl,⟨rfl,rfl,rfl,fun h=>h⟩,g9 rfl,c7 (by omega),c7 rfl,trivial⟩⟩ ?_
 intro k hk _
 by_cases hlt:k<m
 ·by_cases ho:D.O k<n
  ·have gp:(rF n (ptK n D.O D.V (fun _=>0) k))[0+((D.O k:Nat):Int).toNat]? =some (fz (ptK n D.O D.V (fun _=>0) k (D.O k))):=by rw [show 0+((D.O k:Nat):Int).toNat=D.O k by omega,I1 ho]
   have e:w6 (flB (rF n (ptK n D.O D.V (fun _=>0) k))) ((flB (rF n (ptK n D.O D.V (fun _=>0) k))).rows.set (0+((D.O k:Nat):Int).toNat) (frC (fz (D.V k))))=flB (rF n (ptK n D.O D.V (fun _=>0) (k+1))):=by
    rw [K7 (show 0+((D.O k:Nat):Int).toNat=D.O k by omega),X9 ho,S2]
    refine congrArg flB (G3 fun j hj=>?_)
    simp only [ho,true_and]
   conv=>whnf
   repeat' (first|refine zx ?_|refine E5 rfl hlt ?_|refine a0B rfl hlt ?_|refine o7 gp ?_|refine zd ?_ ?_<;>intro h<;>try omega|fail)<;>conv=>whnf
   all_goals first
    |omega
    |exact ⟨hlt,trivial,[some 0],rfl,rfl,⟨⟨rfl,rfl,rfl,.inl ⟨congrArg Blk.rows e,(congrArg Blk.rows e) ▸ c6 _⟩⟩,trivial⟩,⟨rfl,⟨rfl,rfl,rfl,fun h=>h⟩,rfl,rfl,c7 (by omega),trivial⟩⟩
  ·have e:ptK n D.O D.V (fun _=>0) (k+1)=ptK n D.O D.V (fun _=>0) k:=by rw [S2];funext j;rw [if_neg (fun h=>ho h.1)]
   conv=>whnf
   repeat' (first|refine zx ?_|refine E5 rfl hlt ?_|refine zd ?_ ?_<;>intro h<;>try omega|fail)<;>conv=>whnf
   all_goals first
    |omega
    |exact ⟨hlt,trivial,[some 0],rfl,rfl,⟨b7 (rows:=(rF n (ptK n D.O D.V (fun _=>0) k)).map n7) rfl rfl rfl rfl (by rw [e]),trivial⟩,⟨rfl,⟨rfl,rfl,rfl,fun h=>h⟩,rfl,rfl,c7 (by omega),trivial⟩⟩
 ·have hke:k=m:=by omega
  subst hke
  conv=>whnf
  repeat' (first|refine zx ?_|refine zd ?_ ?_<;>intro h<;>try omega|fail)<;>conv=>whnf
  all_goals first
   |omega
   |exact K6 rfl (fun h=>h) rfl rfl (by simp [a0K])
theorem b8l (m n:Nat) (fr:List (Nat × Bool)) (D:Fd) (c:Nat) (hc:c<n) (hP:a0F m n D) (hm:m<=100000) (hn:n<=1000) (hB:∀i,i<m->rl (D.A i c)<=60000):
 a8 Tryz.prog 198 [dT m n fr D,a7 .i64 c] [] (B4 ((zOf n (a1F m n D 0 (fun q=>if q=c then 1 else 0))).map fz)) []:=by
 have m1:(a0D m D.O).length=m:=s9 _ _
 have z0:∀H:Hp,H.length=0->R2 Tryz.prog 241 [a7 .i64 n] H (.c (.own 0 0 n true)) [flB (rF n fun _=>0)]:=fun H hH=>a0c hH hn
 have i1:=H4 1 (by decide) (by decide)
 obtain ⟨x0,hx0⟩:∃x0:Nat->Rat,x0=fun j=>if D.F c<n∧j=D.F c then 1 else 0:=⟨_,rfl⟩
 rw [ab4,←G3 (g:=ptK n D.O (fun i=>-(D.A i c)) x0 m) fun j hj=>by rw [hx0];exact b0g hP hc hj]
 by_cases hf:D.F c<n
 ·have gp0:(rF n (fun _=>(0:Rat)))[0+((D.F c:Nat):Int).toNat]? =some (fz 0):=by rw [show 0+((D.F c:Nat):Int).toNat=D.F c by omega,I1 hf]
  have e0:w6 (flB (rF n (fun _=>(0:Rat)))) ((flB (rF n (fun _=>(0:Rat)))).rows.set (0+((D.F c:Nat):Int).toNat) (frC (fz ((1:Int):Rat))))=flB (rF n x0):=by
   rw [K7 (show 0+((D.F c:Nat):Int).toNat=D.F c by omega),X9 hf,hx0]
   refine congrArg flB (G3 fun j hj=>?_)
   simp only [hf,true_and];rfl
  (refine ac Tryz.func198 ?_;(conv=>whnf);repeat ((first|refine b0x ?_|refine zy ?_);conv=>whnf))
  repeat' (first|refine zx ?_|refine qp i1 ?_|refine .inl ⟨_,_,z0 _ rfl,?_⟩|refine E5 rfl hc ?_|refine o7 gp0 ?_|refine zd ?_ ?_<;>intro h<;>try omega|fail)<;>conv=>whnf
  all_goals try omega
  refine g8 b9 (fun k=>([dT m n fr D,a7 .i64 c,J,J,J,S.c (C.own 0 0 n true)]++Jn 28++[a5V m D.O,a7 .i64 m,a7 .i64 k]++Jn 27,[flB (rF n (ptK n D.O (fun i=>-(D.A i c)) x0 k))])) m (fun _=>True) [some 0] trivial
   ⟨rfl,rfl,⟨⟨rfl,rfl,rfl,.inl ⟨congrArg Blk.rows e0,(congrArg Blk.rows e0) ▸ c6 _⟩⟩,trivial⟩,⟨g9 rfl,c7 rfl,⟨rfl,rfl,rfl,fun h=>h⟩,g9 rfl,c7 (by omega),c7 rfl,trivial⟩⟩ ?_
  intro k hk _
  by_cases hlt:k<m
  ·have ng:=Z1 (D.A k c) (hB k hlt)
   by_cases ho:D.O k<n
   ·have gp:(rF n (ptK n D.O (fun i=>-(D.A i c)) x0 k))[0+((D.O k:Nat):Int).toNat]? =some (fz (ptK n D.O (fun i=>-(D.A i c)) x0 k (D.O k))):=by rw [show 0+((D.O k:Nat):Int).toNat=D.O k by omega,I1 ho]
    have e:w6 (flB (rF n (ptK n D.O (fun i=>-(D.A i c)) x0 k))) ((flB (rF n (ptK n D.O (fun i=>-(D.A i c)) x0 k))).rows.set (0+((D.O k:Nat):Int).toNat) (frC (fz (-(D.A k c)))))=flB (rF n (ptK n D.O (fun i=>-(D.A i c)) x0 (k+1))):=by
     rw [K7 (show 0+((D.O k:Nat):Int).toNat=D.O k by omega),X9 ho,S2]
     refine congrArg flB (G3 fun j hj=>?_)
     simp only [ho,true_and]
    conv=>whnf
    repeat' (first|refine zx ?_|refine qp ng ?_|refine E5 rfl hlt ?_|refine a0B rfl hlt ?_|refine a4f rfl hc ?_|refine o7 gp ?_|refine zd ?_ ?_<;>intro h<;>try omega|fail)<;>conv=>whnf
    all_goals first
     |omega
     |exact ⟨hlt,trivial,[some 0],rfl,rfl,⟨⟨rfl,rfl,rfl,.inl ⟨congrArg Blk.rows e,(congrArg Blk.rows e) ▸ c6 _⟩⟩,trivial⟩,⟨rfl,rfl,⟨rfl,rfl,rfl,fun h=>h⟩,rfl,rfl,c7 (by omega),trivial⟩⟩
   ·have e:ptK n D.O (fun i=>-(D.A i c)) x0 (k+1)=ptK n D.O (fun i=>-(D.A i c)) x0 k:=by rw [S2];funext j;rw [if_neg (fun h=>ho h.1)]
    conv=>whnf
    repeat' (first|refine zx ?_|refine E5 rfl hlt ?_|refine zd ?_ ?_<;>intro h<;>try omega|fail)<;>conv=>whnf
    all_goals first
     |omega
     |exact ⟨hlt,trivial,[some 0],rfl,rfl,⟨b7 (rows:=(rF n (ptK n D.O (fun i=>-(D.A i c)) x0 k)).map n7) rfl rfl rfl rfl (by rw [e]),trivial⟩,⟨rfl,rfl,⟨rfl,rfl,rfl,fun h=>h⟩,rfl,rfl,c7 (by omega),trivial⟩⟩
  ·have hke:k=m:=by omega
   subst hke
   conv=>whnf
   repeat' (first|refine zx ?_|refine zd ?_ ?_<;>intro h<;>try omega|fail)<;>conv=>whnf
   all_goals first
    |omega
    |exact K6 rfl (fun h=>h) rfl rfl (by simp [a0K])
 ·have e0:x0=fun _=>0:=by rw [hx0];funext j;rw [if_neg (fun h=>hf h.1)]
  (refine ac Tryz.func198 ?_;(conv=>whnf);repeat ((first|refine b0x ?_|refine zy ?_);conv=>whnf))
  repeat' (first|refine zx ?_|refine qp i1 ?_|refine .inl ⟨_,_,z0 _ rfl,?_⟩|refine E5 rfl hc ?_|refine zd ?_ ?_<;>intro h<;>try omega|fail)<;>conv=>whnf
  all_goals try omega
  refine g8 b9 (fun k=>([dT m n fr D,a7 .i64 c,J,J,J,S.c (C.own 0 0 n true)]++Jn 28++[a5V m D.O,a7 .i64 m,a7 .i64 k]++Jn 27,[flB (rF n (ptK n D.O (fun i=>-(D.A i c)) x0 k))])) m (fun _=>True) [some 0] trivial
   ⟨rfl,rfl,⟨b7 (rows:=(rF n (fun _=>0)).map n7) rfl rfl rfl rfl (by rw [e0];rfl),trivial⟩,⟨g9 rfl,c7 rfl,⟨rfl,rfl,rfl,fun h=>h⟩,g9 rfl,c7 (by omega),c7 rfl,trivial⟩⟩ ?_
  intro k hk _
  by_cases hlt:k<m
  ·have ng:=Z1 (D.A k c) (hB k hlt)
   by_cases ho:D.O k<n
   ·have gp:(rF n (ptK n D.O (fun i=>-(D.A i c)) x0 k))[0+((D.O k:Nat):Int).toNat]? =some (fz (ptK n D.O (fun i=>-(D.A i c)) x0 k (D.O k))):=by rw [show 0+((D.O k:Nat):Int).toNat=D.O k by omega,I1 ho]
    have e:w6 (flB (rF n (ptK n D.O (fun i=>-(D.A i c)) x0 k))) ((flB (rF n (ptK n D.O (fun i=>-(D.A i c)) x0 k))).rows.set (0+((D.O k:Nat):Int).toNat) (frC (fz (-(D.A k c)))))=flB (rF n (ptK n D.O (fun i=>-(D.A i c)) x0 (k+1))):=by
     rw [K7 (show 0+((D.O k:Nat):Int).toNat=D.O k by omega),X9 ho,S2]
     refine congrArg flB (G3 fun j hj=>?_)
     simp only [ho,true_and]
    conv=>whnf
    repeat' (first|refine zx ?_|refine qp ng ?_|refine E5 rfl hlt ?_|refine a0B rfl hlt ?_|refine a4f rfl hc ?_|refine o7 gp ?_|refine zd ?_ ?_<;>intro h<;>try omega|fail)<;>conv=>whnf
    all_goals first
     |omega
     |exact ⟨hlt,trivial,[some 0],rfl,rfl,⟨⟨rfl,rfl,rfl,.inl ⟨congrArg Blk.rows e,(congrArg Blk.rows e) ▸ c6 _⟩⟩,trivial⟩,⟨rfl,rfl,⟨rfl,rfl,rfl,fun h=>h⟩,rfl,rfl,c7 (by omega),trivial⟩⟩
   ·have e:ptK n D.O (fun i=>-(D.A i c)) x0 (k+1)=ptK n D.O (fun i=>-(D.A i c)) x0 k:=by rw [S2];funext j;rw [if_neg (fun h=>ho h.1)]
    conv=>whnf
    repeat' (first|refine zx ?_|refine E5 rfl hlt ?_|refine zd ?_ ?_<;>intro h<;>try omega|fail)<;>conv=>whnf
    all_goals first
     |omega
     |exact ⟨hlt,trivial,[some 0],rfl,rfl,⟨b7 (rows:=(rF n (ptK n D.O (fun i=>-(D.A i c)) x0 k)).map n7) rfl rfl rfl rfl (by rw [e]),trivial⟩,⟨rfl,rfl,⟨rfl,rfl,rfl,fun h=>h⟩,rfl,rfl,c7 (by omega),trivial⟩⟩
  ·have hke:k=m:=by omega
   subst hke
   conv=>whnf
   repeat' (first|refine zx ?_|refine zd ?_ ?_<;>intro h<;>try omega|fail)<;>conv=>whnf
   all_goals first
    |omega
    |exact K6 rfl (fun h=>h) rfl rfl (by simp [a0K])
def a6M (y:Nat->Rat) (r:Nat) (p:Rat):Nat->Rat:=fun i=>if i=r then y i+p else y i
theorem b91 (b:Bool) (p:Rat):rl (U8 b p)=rl p:=by cases b;rfl;exact R9 p
theorem a64 (m n:Nat) (fr:List (Nat × Bool)) (D:Fd) (R:Nat) (y:Nat->Rat) (k row:Nat) (b:Bool) (p:Rat) (hk:fr[k]? =some (row,b)) (hr:row<R) (hp:rl p<=50000) (hy:rl (y row)<=50000):
 a8 Tryz.prog 249 [dT m n fr D,.c (.own 0 0 R true),a7 .i64 k,frS (fz p)] [flB (rF R y)] (.tup []) [flB (rF R (a6M y row (-(U8 b p))))]:=by
 have m1:(Z6 fr).length=fr.length:=by simp [Z6]
 have eR:0+(row:Int).toNat=row:=by omega
 have gp:(rF R y)[0+(row:Int).toNat]? =some (fz (y row)):=by rw [eR,I1 hr]
 have ng:=Z1 p (by omega)
 cases b with
 |true=>
  have ad:=a4o (y row) p (by omega) (by omega)
  have e:w6 (flB (rF R y)) ((flB (rF R y)).rows.set (0+(row:Int).toNat) (frC (fz (y row+p))))=flB (rF R (a6M y row (-(U8 true p)))):=by
   rw [K7 eR,X9 hr]
   refine congrArg flB (G3 fun j hj=>?_)
   show (if j=row then y row+p else y j)=if j=row then y j+- -p else y j
   by_cases h:j=row
   ·subst h;rw [if_pos rfl,if_pos rfl,Rat.neg_neg]
   ·rw [if_neg h,if_neg h]
  (refine ac Tryz.func249 ?_;(conv=>whnf);repeat (refine zy ?_;conv=>whnf))
  repeat' (first|refine zx ?_|refine qp ng ?_|refine qp ad ?_|refine qp 12 ?_|refine f9 hk ?_|refine o7 gp ?_|refine bl0 [12] ?_|refine zd ?_ ?_<;>intro h<;>try omega|fail)<;>conv=>whnf
  all_goals first
   |omega
   |(exfalso;simp_all;done)
   |exact ⟨[some 0],rfl,rfl,⟨⟨rfl,rfl,rfl,.inl ⟨congrArg Blk.rows e,(congrArg Blk.rows e) ▸ c6 _⟩⟩,trivial⟩,trivial⟩
 |false=>
  have ad:=a4o (y row) (-p) (by omega) (by rw [R9];omega)
  have e:w6 (flB (rF R y)) ((flB (rF R y)).rows.set (0+(row:Int).toNat) (frC (fz (y row+-p))))=flB (rF R (a6M y row (-(U8 false p)))):=by
   rw [K7 eR,X9 hr]
   refine congrArg flB (G3 fun j hj=>?_)
   show (if j=row then y row+-p else y j)=if j=row then y j+-p else y j
   by_cases h:j=row
   ·subst h;rfl
   ·rw [if_neg h,if_neg h]
  (refine ac Tryz.func249 ?_;(conv=>whnf);repeat (refine zy ?_;conv=>whnf))
  repeat' (first|refine zx ?_|refine qp ng ?_|refine qp ad ?_|refine qp 12 ?_|refine f9 hk ?_|refine o7 gp ?_|refine bl0 [12] ?_|refine zd ?_ ?_<;>intro h<;>try omega|fail)<;>conv=>whnf
  all_goals first
   |omega
   |(exfalso;simp_all;done)
   |exact ⟨[some 0],rfl,rfl,⟨⟨rfl,rfl,rfl,.inl ⟨congrArg Blk.rows e,(congrArg Blk.rows e) ▸ c6 _⟩⟩,trivial⟩,trivial⟩
def yK (z:Nat->Rat) (f:Nat->Nat->Rat) (k:Nat):Nat->Rat:=fun i=>z i+i6 (fun j=>f j i) k
theorem a4v {z:Nat->Rat} {f:Nat->Nat->Rat} {k:Nat}:yK z f (k+1)=fun i=>yK z f k i+f k i:=by
 funext i;unfold yK;simp only [i6];grind
theorem a1O {f:Nat->Rat} {B:Nat}:∀k:Nat,(∀ j,j<k->rl (f j)<=B)->rl (i6 f k)<=k*(B+1)+1
 |0,_=>by
  have h0:=rl0
  have e:i6 f 0=0:=by simp only [i6,T7]
  rw [e];omega
 |k+1,h=>by
  have h1:=a1O k fun j hj=>h j (by omega)
  have h2:=h k (by omega)
  have h3:=a3Z (i6 f k) (f k)
  simp only [i6]
  rw [lbU]
  omega
theorem aB2 {s:f7} {w i B:Nat} {p:Rat} (h:rl p<=B) (hB:1<=B):rl (chg s w p i)<=B:=by
 unfold chg
 split
 ·rw [R9,b91];exact h
 ·have:=rl0;omega
theorem a9a {s:f7} {w:Nat} {p:Rat} (h:w<s.n.toNat):chg s w p=fun _=>0:=by
 funext i;unfold chg;rw [if_neg (fun e=>by omega)]
theorem ay6 {s:f7} {w k row:Nat} {b:Bool} {p:Rat} (hw:w=s.n.toNat+k) (hf:(c8 s)[k]? =some (row,b)) (y:Nat->Rat):a6M y row (-(U8 b p))=fun i=>y i+chg s w p i:=by
 funext i
 have e:I7 s (w - s.n.toNat)=(row,b):=by unfold I7;rw [show w - s.n.toNat=k by omega,lbl,hf];rfl
 unfold a6M chg
 rw [e]
 by_cases h:i=row
 ·subst h;rw [if_pos rfl,if_pos ⟨by omega,rfl⟩]
 ·rw [if_neg h,if_neg (fun e=>h e.2.symm)];grind
theorem a6q {s:f7} {k:Nat} {f:Nat × Bool} (h:(c8 s)[k]? =some f):f.1<s.rows.length:=by
 obtain ⟨w,hw,_⟩:=Z9.1 (lbm h)
 exact (lbe.1 hw).1
theorem b2D (s:f7) (n:Nat) (hn:s.n=n) (E:Fd) (hP:a0F (c8 s).length n E) (B:Nat) (hB:∀j,j<n->rl (E.G j)<=B) (hB1:1<=B) (hBn:(n+2)*(B+2)<=50000) (hm:(c8 s).length<=100000) (hR:s.rows.length<=1000) (hn1:n<=1000):
 a8 Tryz.prog 200 [dT (c8 s).length n (c8 s) E,a7 .i64 s.rows.length] [] (.c (.own 0 0 s.rows.length true)) [flB (rF s.rows.length (a2L s E))]:=by
 have m1:(a0D n E.F).length=n:=s9 _ _
 have hnn:s.n.toNat=n:=by omega
 have z0:∀H:Hp,H.length=0->R2 Tryz.prog 241 [a7 .i64 s.rows.length] H (.c (.own 0 0 s.rows.length true)) [flB (rF s.rows.length fun _=>0)]:=fun H hH=>a0c hH hR
 have eB:B<=50000:=by
  have:(n+2)*(B+2)=n*(B+2)+2*(B+2):=by rw [I3]
  omega
 obtain ⟨f,hf⟩:∃f:Nat->Nat->Rat,f=fun j=>chg s (E.F j) (-(E.G j)):=⟨_,rfl⟩
 have e9:a2L s E=yK (fun _=>0) f n:=by
  funext i;unfold a2L yK;rw [hf,hnn];grind
 rw [e9]
 (refine ac Tryz.func200 ?_;(conv=>whnf);repeat ((first|refine b0x ?_|refine zy ?_);conv=>whnf))
 repeat' (first|refine zx ?_|refine .inl ⟨_,_,z0 _ rfl,?_⟩|refine zd ?_ ?_<;>intro h<;>try omega|fail)<;>conv=>whnf
 refine g8 b9 (fun k=>([dT (c8 s).length n (c8 s) E,J,J,J,J,S.c (C.own 0 0 s.rows.length true),J,J,J,J,J,J,J,a5V n E.F,a7 .i64 n,a7 .i64 k]++Jn 29,[flB (rF s.rows.length (yK (fun _=>0) f k))])) n (fun _=>True) [some 0] trivial
  ⟨rfl,rfl,⟨b7 (rows:=(rF s.rows.length (fun _=>0)).map n7) rfl rfl rfl rfl ?_,trivial⟩,⟨g9 rfl,⟨rfl,rfl,rfl,fun h=>h⟩,g9 rfl,c7 (by omega),c7 rfl,trivial⟩⟩ ?_
 ·rw [G3 (g:=yK (fun _=>0) f 0) (h:=fun _=>0) fun j hj=>by unfold yK;simp only [i6,T7];grind]
 intro k hk _
 by_cases hlt:k<n
 ·have ng:=Z1 (E.G k) (by have:=hB k hlt;omega)
  by_cases ho:E.F k<n
  ·have e:yK (fun _=>0) f (k+1)=yK (fun _=>0) f k:=by
    rw [a4v,hf];funext i
    have e0:chg s (E.F k) (-(E.G k)) i=0:=by rw [a9a (by omega)]
    show _+chg s (E.F k) (-(E.G k)) i=_
    rw [e0];grind
   conv=>whnf
   repeat' (first|refine zx ?_|refine E5 rfl hlt ?_|refine zd ?_ ?_<;>intro h<;>try omega|fail)<;>conv=>whnf
   all_goals first
    |omega
    |exact ⟨hlt,trivial,[some 0],rfl,rfl,⟨b7 (rows:=(rF s.rows.length (yK (fun _=>0) f k)).map n7) rfl rfl rfl rfl (by rw [e]),trivial⟩,⟨rfl,⟨rfl,rfl,rfl,fun h=>h⟩,rfl,rfl,c7 (by omega),trivial⟩⟩
  ·have hfb:=hP.fb k hlt
   obtain ⟨q,hq⟩:∃q,E.F k=n+q:=⟨E.F k - n,by omega⟩
   obtain ⟨⟨row,b⟩,hfr⟩:∃x,(c8 s)[q]? =some x:=⟨_,lbf (by omega)⟩
   have hrow:row<s.rows.length:=a6q hfr
   have by1:rl (yK (fun _=>0) f k row)<=50000:=by
    have h1:=a1O (f:=fun j=>f j row) (B:=B) k fun j hj=>by rw [hf];exact aB2 (by rw [R9];exact hB j (by omega)) hB1
    have e:yK (fun _=>0) f k row=i6 (fun j=>f j row) k:=by unfold yK;grind
    rw [e]
    have:k*(B+1)<=n*(B+1):=lbT _ (by omega)
    have:(n+2)*(B+2)=n*(B+1)+n+2*(B+2):=by rw [I3,show n*(B+2)=n*(B+1)+n by rw [Nat.mul_add,Nat.mul_add];omega]
    omega
   have ch:=a64 (c8 s).length n (c8 s) E s.rows.length (yK (fun _=>0) f k) q row b (-(E.G k)) hfr hrow (by rw [R9];have:=hB k hlt;omega) by1
   have e:a6M (yK (fun _=>0) f k) row (-(U8 b (-(E.G k))))=yK (fun _=>0) f (k+1):=by rw [ay6 (s:=s) (w:=E.F k) (by omega) hfr,a4v,hf]
   rw [e,show ((q:Nat):Int)=(E.F k:Int) - n by omega] at ch
   conv=>whnf
   repeat' (first|refine zx ?_|refine qp ng ?_|refine E5 rfl hlt ?_|refine a4f rfl hlt ?_|refine .inr ⟨_,_,ch,?_⟩|refine zd ?_ ?_<;>intro h<;>try omega|fail)<;>conv=>whnf
   all_goals first
    |omega
    |exact ⟨hlt,trivial,[some 0],rfl,rfl,⟨g7 (c6 _),trivial⟩,⟨rfl,⟨rfl,rfl,rfl,fun h=>h⟩,rfl,rfl,c7 (by omega),trivial⟩⟩
 ·have hke:k=n:=by omega
  subst hke
  conv=>whnf
  repeat' (first|refine zx ?_|refine zd ?_ ?_<;>intro h<;>try omega|fail)<;>conv=>whnf
  all_goals first
   |omega
   |exact ⟨[some 0],rfl,rfl,⟨g7 (c6 _),trivial⟩,⟨rfl,rfl,rfl,fun h=>h⟩⟩
theorem aw1 (s:f7) (n r:Nat) (hn:s.n=n) (E:Fd) (hP:a0F (c8 s).length n E) (hr:r<(c8 s).length) (B:Nat) (hB:∀j,j<n->rl (E.A r j)<=B) (hB1:1<=B) (hBn:(n+3)*(B+2)<=50000) (hm:(c8 s).length<=100000) (hR:s.rows.length<=1000) (hn1:n<=1000):
 a8 Tryz.prog 199 [dT (c8 s).length n (c8 s) E,a7 .i64 s.rows.length,a7 .i64 r] [] (.c (.own 0 0 s.rows.length true)) [flB (rF s.rows.length (Y3 s E r))]:=by
 have m1:(a0D n E.F).length=n:=s9 _ _
 have hnn:s.n.toNat=n:=by omega
 have z0:∀H:Hp,H.length=0->R2 Tryz.prog 241 [a7 .i64 s.rows.length] H (.c (.own 0 0 s.rows.length true)) [flB (rF s.rows.length fun _=>0)]:=fun H hH=>a0c hH hR
 have i1:=H4 1 (by decide) (by decide)
 have eBn:(n+3)*(B+2)=n*(B+1)+n+3*(B+2):=by rw [I3,show n*(B+2)=n*(B+1)+n by rw [Nat.mul_add,Nat.mul_add];omega]
 have eB:B<=50000:=by omega
 obtain ⟨f,hf⟩:∃f:Nat->Nat->Rat,f=fun j=>chg s (E.F j) (E.A r j):=⟨_,rfl⟩
 obtain ⟨z,hz⟩:∃z:Nat->Rat,z=chg s (E.O r) 1:=⟨_,rfl⟩
 have zb:∀i,rl (z i)<=B:=fun i=>by rw [hz];exact aB2 (by have:=rl1;omega) hB1
 have e9:Y3 s E r=yK z f n:=by
  funext i;unfold Y3 yK;rw [hf,hnn,hz]
 rw [e9]
 have hob:=hP.ob r hr
 by_cases ho:E.O r<n
 ·have ez:z=fun _=>0:=by rw [hz,a9a (by omega)]
  (refine ac Tryz.func199 ?_;(conv=>whnf);repeat ((first|refine b0x ?_|refine zy ?_);conv=>whnf))
  repeat' (first|refine zx ?_|refine .inl ⟨_,_,z0 _ rfl,?_⟩|refine E5 rfl hr ?_|refine zd ?_ ?_<;>intro h<;>try omega|fail)<;>conv=>whnf
  all_goals try omega
  refine g8 b9 (fun k=>([dT (c8 s).length n (c8 s) E,J,a7 .i64 r,J,J,J,J,S.c (C.own 0 0 s.rows.length true)]++Jn 31++[a5V n E.F,a7 .i64 n,a7 .i64 k]++Jn 32,[flB (rF s.rows.length (yK z f k))])) n (fun _=>True) [some 0] trivial
   ⟨rfl,rfl,⟨b7 (rows:=(rF s.rows.length z).map n7) rfl rfl rfl (by rw [ez]) ?_,trivial⟩,⟨g9 rfl,c7 rfl,⟨rfl,rfl,rfl,fun h=>h⟩,g9 rfl,c7 (by omega),c7 rfl,trivial⟩⟩ ?_
  ·rw [G3 (g:=yK z f 0) (h:=z) fun j hj=>by unfold yK;simp only [i6,T7];grind]
  intro k hk _
  by_cases hlt:k<n
  ·have ba:=hB k hlt
   by_cases ho2:E.F k<n
   ·have e:yK z f (k+1)=yK z f k:=by
     rw [a4v,hf];funext i
     have e0:chg s (E.F k) (E.A r k) i=0:=by rw [a9a (by omega)]
     show _+chg s (E.F k) (E.A r k) i=_
     rw [e0];grind
    conv=>whnf
    repeat' (first|refine zx ?_|refine E5 rfl hlt ?_|refine zd ?_ ?_<;>intro h<;>try omega|fail)<;>conv=>whnf
    all_goals first
     |omega
     |exact ⟨hlt,trivial,[some 0],rfl,rfl,⟨b7 (rows:=(rF s.rows.length (yK z f k)).map n7) rfl rfl rfl rfl (by rw [e]),trivial⟩,⟨rfl,rfl,⟨rfl,rfl,rfl,fun h=>h⟩,rfl,rfl,c7 (by omega),trivial⟩⟩
   ·have hfb:=hP.fb k hlt
    obtain ⟨q2,hq2⟩:∃q2,E.F k=n+q2:=⟨E.F k - n,by omega⟩
    obtain ⟨⟨row2,b2⟩,hfr2⟩:∃x,(c8 s)[q2]? =some x:=⟨_,lbf (by omega)⟩
    have hrow2:row2<s.rows.length:=a6q hfr2
    have by1:rl (yK z f k row2)<=50000:=by
     have h1:=a1O (f:=fun j=>f j row2) (B:=B) k fun j hj=>by rw [hf];exact aB2 (hB j (by omega)) hB1
     have h2:=a3Z (z row2) (i6 (fun j=>f j row2) k)
     have h3:=zb row2
     have:k*(B+1)<=n*(B+1):=lbT _ (by omega)
     unfold yK
     omega
    have ch2:=a64 (c8 s).length n (c8 s) E s.rows.length (yK z f k) q2 row2 b2 (E.A r k) hfr2 hrow2 (by omega) by1
    have e:a6M (yK z f k) row2 (-(U8 b2 (E.A r k)))=yK z f (k+1):=by rw [ay6 (s:=s) (w:=E.F k) (by omega) hfr2,a4v,hf]
    rw [e,show ((q2:Nat):Int)=(E.F k:Int) - n by omega] at ch2
    conv=>whnf
    repeat' (first|refine zx ?_|refine E5 rfl hlt ?_|refine a0B rfl hr ?_|refine a4f rfl hlt ?_|refine .inr ⟨_,_,ch2,?_⟩|refine zd ?_ ?_<;>intro h<;>try omega|fail)<;>conv=>whnf
    all_goals first
     |omega
     |exact ⟨hlt,trivial,[some 0],rfl,rfl,⟨g7 (c6 _),trivial⟩,⟨rfl,rfl,⟨rfl,rfl,rfl,fun h=>h⟩,rfl,rfl,c7 (by omega),trivial⟩⟩
  ·have hke:k=n:=by omega
   subst hke
   conv=>whnf
   repeat' (first|refine zx ?_|refine zd ?_ ?_<;>intro h<;>try omega|fail)<;>conv=>whnf
   all_goals first
    |omega
    |exact ⟨[some 0],rfl,rfl,⟨g7 (c6 _),trivial⟩,⟨rfl,rfl,rfl,fun h=>h⟩⟩
 ·obtain ⟨q,hq⟩:∃q,E.O r=n+q:=⟨E.O r - n,by omega⟩
  obtain ⟨⟨row,b⟩,hfr⟩:∃x,(c8 s)[q]? =some x:=⟨_,lbf (by omega)⟩
  have hrow:row<s.rows.length:=a6q hfr
  have ch:=a64 (c8 s).length n (c8 s) E s.rows.length (fun _=>0) q row b 1 hfr hrow (by have:=rl1;omega) (by have:=rl0;omega)
  have e:rF s.rows.length (a6M (fun _=>0) row (-(U8 b 1)))=rF s.rows.length z:=G3 fun j hj=>by
   rw [ay6 (s:=s) (w:=E.O r) (by omega) hfr,hz];grind
  rw [e,show ((q:Nat):Int)=(E.O r:Int) - n by omega] at ch
  have ch:a8 Tryz.prog 249 [dT (c8 s).length n (c8 s) E,.c (.own 0 0 s.rows.length true),a7 .i64 ((E.O r:Int) - n),frS (fz ((1:Int):Rat))] [flB (rF s.rows.length fun _=>0)] (.tup []) [flB (rF s.rows.length z)]:=ch
  (refine ac Tryz.func199 ?_;(conv=>whnf);repeat ((first|refine b0x ?_|refine zy ?_);conv=>whnf))
  repeat' (first|refine zx ?_|refine qp i1 ?_|refine .inl ⟨_,_,z0 _ rfl,?_⟩|refine E5 rfl hr ?_|refine .inr ⟨_,_,ch,?_⟩|refine zd ?_ ?_<;>intro h<;>try omega|fail)<;>conv=>whnf
  all_goals try omega
  refine g8 b9 (fun k=>([dT (c8 s).length n (c8 s) E,J,a7 .i64 r,J,J,J,J,S.c (C.own 0 0 s.rows.length true)]++Jn 31++[a5V n E.F,a7 .i64 n,a7 .i64 k]++Jn 32,[flB (rF s.rows.length (yK z f k))])) n (fun _=>True) [some 0] trivial
   ⟨rfl,rfl,⟨b7 (rows:=(rF s.rows.length z).map n7) rfl rfl rfl (rfl) ?_,trivial⟩,⟨g9 rfl,c7 rfl,⟨rfl,rfl,rfl,fun h=>h⟩,g9 rfl,c7 (by omega),c7 rfl,trivial⟩⟩ ?_
  ·rw [G3 (g:=yK z f 0) (h:=z) fun j hj=>by unfold yK;simp only [i6,T7];grind]
  intro k hk _
  by_cases hlt:k<n
  ·have ba:=hB k hlt
   by_cases ho2:E.F k<n
   ·have e:yK z f (k+1)=yK z f k:=by
     rw [a4v,hf];funext i
     have e0:chg s (E.F k) (E.A r k) i=0:=by rw [a9a (by omega)]
     show _+chg s (E.F k) (E.A r k) i=_
     rw [e0];grind
    conv=>whnf
    repeat' (first|refine zx ?_|refine E5 rfl hlt ?_|refine zd ?_ ?_<;>intro h<;>try omega|fail)<;>conv=>whnf
    all_goals first
     |omega
     |exact ⟨hlt,trivial,[some 0],rfl,rfl,⟨b7 (rows:=(rF s.rows.length (yK z f k)).map n7) rfl rfl rfl rfl (by rw [e]),trivial⟩,⟨rfl,rfl,⟨rfl,rfl,rfl,fun h=>h⟩,rfl,rfl,c7 (by omega),trivial⟩⟩
   ·have hfb:=hP.fb k hlt
    obtain ⟨q2,hq2⟩:∃q2,E.F k=n+q2:=⟨E.F k - n,by omega⟩
    obtain ⟨⟨row2,b2⟩,hfr2⟩:∃x,(c8 s)[q2]? =some x:=⟨_,lbf (by omega)⟩
    have hrow2:row2<s.rows.length:=a6q hfr2
    have by1:rl (yK z f k row2)<=50000:=by
     have h1:=a1O (f:=fun j=>f j row2) (B:=B) k fun j hj=>by rw [hf];exact aB2 (hB j (by omega)) hB1
     have h2:=a3Z (z row2) (i6 (fun j=>f j row2) k)
     have h3:=zb row2
     have:k*(B+1)<=n*(B+1):=lbT _ (by omega)
     unfold yK
     omega
    have ch2:=a64 (c8 s).length n (c8 s) E s.rows.length (yK z f k) q2 row2 b2 (E.A r k) hfr2 hrow2 (by omega) by1
    have e:a6M (yK z f k) row2 (-(U8 b2 (E.A r k)))=yK z f (k+1):=by rw [ay6 (s:=s) (w:=E.F k) (by omega) hfr2,a4v,hf]
    rw [e,show ((q2:Nat):Int)=(E.F k:Int) - n by omega] at ch2
    conv=>whnf
    repeat' (first|refine zx ?_|refine E5 rfl hlt ?_|refine a0B rfl hr ?_|refine a4f rfl hlt ?_|refine .inr ⟨_,_,ch2,?_⟩|refine zd ?_ ?_<;>intro h<;>try omega|fail)<;>conv=>whnf
    all_goals first
     |omega
     |exact ⟨hlt,trivial,[some 0],rfl,rfl,⟨g7 (c6 _),trivial⟩,⟨rfl,rfl,⟨rfl,rfl,rfl,fun h=>h⟩,rfl,rfl,c7 (by omega),trivial⟩⟩
  ·have hke:k=n:=by omega
   subst hke
   conv=>whnf
   repeat' (first|refine zx ?_|refine zd ?_ ?_<;>intro h<;>try omega|fail)<;>conv=>whnf
   all_goals first
    |omega
    |exact ⟨[some 0],rfl,rfl,⟨g7 (c6 _),trivial⟩,⟨rfl,rfl,rfl,fun h=>h⟩⟩
def a6w (ρ:List (Option Nat)) (H:Hp):Env->Env->Prop
 |[],[]=>True
 |s::r,s'::r'=>match s' with
  |.junk=>a6w ρ H r r'
  |s'=>(a4X ρ H s s'∨VYS H (fun id=>E6 ρ id=true) s s')∧a6w ρ H r r'
 |_,_=>False
theorem a6w.rel {ρ:List (Option Nat)} {H:Hp}:∀{env env':Env},a6w ρ H env env'->env.length=env'.length∧∀(t:Nat) (s':S),env'[t]? =some s'->∃s,env[t]? =some s∧(a4X ρ H s s'∨VYS H (fun id=>E6 ρ id=true) s s')
 |[],[],_=>⟨rfl,by simp⟩
 |s::r,s'::r',h=>by
  have h':(a4X ρ H s s'∨VYS H (fun id=>E6 ρ id=true) s s')∧a6w ρ H r r':=by
   cases s' with
   |junk=>exact ⟨.inl trivial,h⟩
   |_=>exact h
  obtain ⟨h1,h2⟩:=a6w.rel h'.2
  refine ⟨by simp [h1],fun t s'' ht=>?_⟩
  cases t with
  |zero=>simp at ht;subst ht;exact ⟨s,rfl,h'.1⟩
  |succ t=>simpa using h2 t s'' (by simpa using ht)
 |[],_::_,h=>h.elim
 |_::_,[],h=>h.elim
structure b6x (n0:Nat) (ρ:List (Option Nat)) (env:Env) (H:Hp) (env':Env) (H':Hp):Prop where
 k:a1p ρ n0=true
 n:V3 ρ H'=true
 h:a2D ρ H ρ H'
 e:a6w ρ H env env'
theorem b6x.sim {n0:Nat} {ρ:List (Option Nat)} {env env':Env} {H H':Hp} (h:b6x n0 ρ env H env' H') {w0:World} {ι0:Io} {M0:Ms} {H0:Hp} {a:Act} {w:World} (hn:H0.length=n0) (hM0:MB w0 M0)
 (hs:Sim w0 ι0 M0 H0 a w env H):Sim w0 ι0 M0 H0 a w env' H':=by
 obtain ⟨h1,h2,h3,h4⟩:=h
 obtain ⟨ι,M,hd,hsz,he,hH,hM,hF,hst⟩:=hs
 obtain ⟨hel,heg⟩:=a6w.rel h4
 obtain ⟨q1,q2,q3⟩:=a2D.all h1 h2 h3 hn hM0 hH hst
 refine ⟨M7 ρ ι,_,hd,by omega,fun t s' ht=>?_,q1,fun b hb=>hM b hb.1,q2,q3⟩
 obtain ⟨s,r1,r2⟩:=heg t s' ht
 rcases r2 with r2|r2
 ·exact r2.rs hH (he t s r1)
 ·refine r2.rs hH (fun b hb=>hb.1) ?_ (he t s r1)
  intro id k b cap size hp hk hd hi hb
  exact hb.2 ⟨id,k,cap,size,hp,hk,hd,hi⟩
theorem S9 {P:Program} {τ:Tab} (hτ:B2 P τ) {n0:Nat} {x y:Code} {env:Env} {H:Hp} {Q:AX->Env->Hp->Prop} (E2:Env) (H2:Hp)
 (h:a0w P τ n0 x env H fun a env' H'=>match a with
   |.normal=>∃ρ,b6x n0 ρ env' H' E2 H2
   |a=>Q a env' H') (h2:Awp P n0 y E2 H2 Q):Awp P n0 (.seq x y) env H Q:=by
 refine ⟨fun w0 ι0 M0 H0 a w hn hM hs=>?_⟩
 refine wp_seq (wp_mono ((k8 hτ x h).out w0 ι0 M0 H0 a w hn hM hs) ?_)
 rintro e a' w' ⟨x,env',H',rfl,hq,hs'⟩
 cases x with
 |normal=>obtain ⟨ρ,he⟩:=hq;exact h2.out w0 ι0 M0 H0 a' w' hn hM (he.sim hn hM hs')
 |exit id=>exact ⟨_,env',H',rfl,hq,hs'⟩
 |ret=>exact ⟨_,env',H',rfl,hq,hs'⟩
theorem b1S {P:Program} {n0:Nat} {c:Operand} {t e:Code} {env:Env} {H:Hp} {Q:AX->Env->Hp->Prop} {b:Bool} (hb:F5 env c=d9 b) (h:Awp P n0 (cond b t e) env H Q):Awp P n0 (.cond c t e) env H Q:=by
 refine ⟨fun w0 ι0 M0 H0 a w hn hM hs=>?_⟩
 have hs0:=hs
 obtain ⟨ι,M,hd,hsz,he,hH,hMB,hF,hst⟩:=hs
 have hv:=(he.ev.to hb).inv_atm
 refine wp_cond hv ?_
 cases b with
 |true=>exact h.out w0 ι0 M0 H0 a w hn hM hs0
 |false=>exact h.out w0 ι0 M0 H0 a w hn hM hs0
theorem b5q {m n:Nat} {fr:List (Nat × Bool)} {D:Fd} {X:Hp} {p:Nat->Prop} (hp:∀i,i<m+6->p i):VY (I2 m n fr D.V D.G D.O D.F D.A X) p (.own 1 0 m true) (.sl 5 .any (a8w m n D)):=by
 refine b42 (k:=a0t 6 m n D.V) (hp _ (by omega)) rfl (fun h=>h) rfl (a4C m n D) ?_ ?_
 ·intro r hr
  obtain ⟨i,_,rfl⟩:=lbx.1 hr
  rfl
 ·intro i r hi
  have him:i<m:=by have:=(lbe.1 hi).1;rwa [a4C] at this
  rw [a84 him] at hi
  injection hi with hi
  subst hi
  refine ⟨_,a2q him,?_⟩
  show VYL _ _ ((n7 (fz (D.V i))).map C.t++[C.own (i+6) 0 n true]) _
  have hv:VY (I2 m n fr D.V D.G D.O D.F D.A X) p (C.own (i+6) 0 n true) (T.sl 4 .any ((rF n (D.A i)).map n7)):=
   .vc (p4 (k:=flB (rF n (D.A i))) (hp _ (by omega)) (J3 (O3 him)) (fun h=>h) rfl rfl (by simp [a0K]))
  exact aw4 (ys:=[C.own (i+6) 0 n true]) (us:=[T.sl 4 .any ((rF n (D.A i)).map n7)]) (show _∧True from ⟨hv,trivial⟩)
theorem a4J {m n:Nat} {fr:List (Nat × Bool)} {D:Fd} {X:Hp} {p:Nat->Prop} (hp:∀i,i<m+6->p i):VY (I2 m n fr D.V D.G D.O D.F D.A X) p (.ptr 0 0 0) (.ptr (b7m m n fr D)):=by
 refine a88 (k:=aY5 m n fr.length) (hp _ (by omega)) rfl (fun h=>h) rfl ⟨a5X,b5q hp,?_,?_,?_,?_,trivial⟩
 ·exact .vc (p4 (k:=flB (rF n D.G)) (hp _ (by omega)) rfl (fun h=>h) rfl rfl (by simp [a0K]))
 ·exact .vc (p4 (k:=X3 m D.O) (hp _ (by omega)) rfl (fun h=>h) rfl rfl (by simp [s9]))
 ·exact .vc (p4 (k:=X3 n D.F) (hp _ (by omega)) rfl (fun h=>h) rfl rfl (by simp [s9]))
 ·exact .vc (p4 (k:=a19 fr) (hp _ (by omega)) rfl (fun h=>h) rfl rfl (by simp [Z6]))
abbrev b9r (m n k:Nat):Blk:={ mode:=.live,elem:=364,size:=6,rows:=[[C.t (ti n),.own 2 0 m true,.own 3 0 n true,.own 4 0 m true,.own 5 0 n true,.own 6 0 k true]],box:=true }
abbrev b82 (m n:Nat) (fr:List (Nat × Bool)) (D:Fd) (b:Blk):Hp:=
 b::b9r m n fr.length::a0t 7 m n D.V::flB (rF n D.G)::X3 m D.O::X3 n D.F::a19 fr::(mF m n D.A).map flB
theorem b79 {N i:Nat} (h:i<N):(a3y [] 1 N).getD i 0=i+1:=by
 unfold a3y
 rw [af2,lbl,lba,lbh h]
 show 1+i=i+1
 omega
theorem b8a {σ:List Nat} (ts:List T) (l:List C):a2g σ (ts.map C.t++l)=ts.map C.t++a2g σ l:=by
 rw [K8,K8,lbC,Z3]
 congr 1
theorem a6H {s:f7} {g:List (Int × Rat)} {n:Nat} (b:Blk) (h:a8 Tryz.prog 195 [Q8 s,j1 g] [] (.c (.ptr 0 0 0)) (Y8 (c8 s).length n (c8 s) (f8 s g))):
 a8 Tryz.prog 195 [Q8 s,j1 g] [b] (.c (.ptr 1 0 0)) (b82 (c8 s).length n (c8 s) (f8 s g) b):=by
 have hlen:(Y8 (c8 s).length n (c8 s) (f8 s g)).length=(c8 s).length+6:=a2y
 have hl:∀k ∈ Y8 (c8 s).length n (c8 s) (f8 s g),k.mode=.live:=by
  intro k hk
  simp only [lbA] at hk
  rcases hk with rfl|rfl|rfl|rfl|rfl|rfl|hk
  ·rfl
  ·rfl
  ·rfl
  ·rfl
  ·rfl
  ·rfl
  ·obtain ⟨l,_,rfl⟩:=lbx.1 hk;rfl
 have hsub:(Y8 (c8 s).length n (c8 s) (f8 s g)).length - ([]:Hp).length=(c8 s).length+6:=by rw [hlen];simp
 have g1:∀i,i<(c8 s).length+6->(a3y [] ([b]:Hp).length ((Y8 (c8 s).length n (c8 s) (f8 s g)).length - ([]:Hp).length)).getD i 0=i+1:=fun i hi=>by
  rw [hsub];exact b79 hi
 refine N1 [] h rfl rfl rfl List.nodup_nil (by simp) (fun k hk=>by rw [hl k hk];intro h;cases h) (by simp) rfl ?_ (by rw [hsub];simp [b8];omega) ?_ ?_
 ·show S.c (.ptr 1 0 0)=S.c (.ptr _ 0 0)
  rw [g1 0 (by omega)]
 ·intro i k hk
  have hi:i<(c8 s).length+6:=by rw [← hlen];exact (lbe.1 hk).1
  rw [g1 i hi]
  rcases i with _|_|_|_|_|_|i
  ·injection hk with hk;subst hk
   refine ⟨_,rfl,rfl,rfl,rfl,rfl,?_⟩
   simp only [a8W,a9L,List.map_nil,a2g,Z5]
   rw [g1 1 (by omega),g1 2 (by omega),g1 3 (by omega),g1 4 (by omega),g1 5 (by omega)]
  ·injection hk with hk;subst hk
   refine ⟨_,rfl,rfl,rfl,rfl,rfl,?_⟩
   unfold a8W
   show P7 7 _ _ _=(P7 6 _ _ _).map _
   unfold P7
   rw [Z3]
   refine lbp fun j hj=>?_
   have hj:=lbB.1 hj
   show _=a2g _ ((n7 (fz ((f8 s g).V j))).map C.t++[C.own (j+6) 0 n true])
   rw [b8a]
   simp only [a2g,Z5]
   rw [g1 (j+6) (by omega)]
   rfl
  ·injection hk with hk;subst hk;exact ⟨_,rfl,v8 rfl⟩
  ·injection hk with hk;subst hk;exact ⟨_,rfl,v8 rfl⟩
  ·injection hk with hk;subst hk;exact ⟨_,rfl,v8 rfl⟩
  ·injection hk with hk;subst hk;exact ⟨_,rfl,v8 rfl⟩
  ·have hk:((mF (c8 s).length n (f8 s g).A).map flB)[i]? =some k:=hk
   refine ⟨k,hk,?_⟩
   obtain ⟨l,_,rfl⟩:=lbx.1 (lbm hk)
   exact v8 rfl
 ·intro j hj _
  have:j=0:=by simpa using hj
  subst this;rfl
def fS (m:Nat):Nat->Nat:=fun i=>if i<m+6 then i+1 else 0
theorem a2G {m n:Nat} {fr:List (Nat × Bool)} {D:Fd} {b:Blk} {env env':Env} {H:Hp} (hb:C9 b.rows) (hH:H=b82 m n fr D b) (hE:a2x (fR (m+7) (fS m)) H env env'):
 Ent 0 (fR (m+7) (fS m)) env H env' (I2 m n fr D.V D.G D.O D.F D.A [b]):=by
 subst hH
 have fa:∀i,i<m+6->fS m i=i+1:=fun i hi=>by unfold fS;rw [if_pos hi]
 refine aT0 (by simp [b8]) (by omega) (fun i hi=>by omega) (fun i j hi hj h=>by unfold fS at h;(repeat' split at h)<;>omega) ?_ hE
 intro i k' hk
 rcases i with _|_|_|_|_|_|i
 ·injection hk with hk;subst hk
  rw [fa 0 (by omega)]
  exact ⟨_,rfl,rfl,rfl,rfl,.inr ⟨⟨rfl,⟨by rw [u9 (by omega),fa _ (by omega)],rfl,rfl,fun h=>h⟩,⟨by rw [u9 (by omega),fa _ (by omega)],rfl,rfl,fun h=>h⟩,⟨by rw [u9 (by omega),fa _ (by omega)],rfl,rfl,fun h=>h⟩,⟨by rw [u9 (by omega),fa _ (by omega)],rfl,rfl,fun h=>h⟩,⟨by rw [u9 (by omega),fa _ (by omega)],rfl,rfl,fun h=>h⟩,trivial⟩,trivial⟩⟩
 ·injection hk with hk;subst hk
  rw [fa 1 (by omega)]
  refine ⟨_,rfl,a1y (h:=fun i=>i+7) (h':=fun i=>i+6) fun j hj=>?_⟩
  rw [u9 (by omega),fa _ (by omega)]
 ·injection hk with hk;subst hk;rw [fa 2 (by omega)];exact ⟨_,rfl,g7 (c6 _)⟩
 ·injection hk with hk;subst hk;rw [fa 3 (by omega)];exact ⟨_,rfl,g7 (c6 _)⟩
 ·injection hk with hk;subst hk;rw [fa 4 (by omega)];exact ⟨_,rfl,g7 (c6 _)⟩
 ·injection hk with hk;subst hk;rw [fa 5 (by omega)];exact ⟨_,rfl,g7 (c6 _)⟩
 ·have hk:((mF m n D.A).map flB++[b])[i]? =some k':=hk
  by_cases hi:i<m
  ·rw [J3 (O3 hi)] at hk
   injection hk with hk;subst hk
   rw [fa _ (by omega)]
   refine ⟨flB (rF n (D.A i)),?_,g7 (c6 _)⟩
   show ((mF m n D.A).map flB)[i]? =_
   rw [lba,O3 hi];rfl
  ·obtain ⟨t,rfl⟩:∃t,i=m+t:=⟨i - m,by omega⟩
   rw [a1c (b8 _ _ _)] at hk
   rcases t with _|t
   ·injection hk with hk;subst hk
    have:fS m (m+0+6)=0:=by unfold fS;rw [if_neg (by omega)]
    rw [this]
    exact ⟨_,rfl,g7 hb⟩
   ·simp at hk
theorem a15 {m n:Nat} {fr:List (Nat × Bool)} {D E:Fd} {r:S} (X:Hp) (hr:b0V r=true) (hr':r.isT=true) (h:a8 Tryz.prog 196 [.c (.ptr 0 0 0)] (Y8 m n fr D) r (Y8 m n fr E)):
 a8 Tryz.prog 196 [.c (.ptr 0 0 0)] (I2 m n fr D.V D.G D.O D.F D.A X) r (I2 m n fr E.V E.G E.O E.F E.A X):=by
 have hl:∀{D:Fd},∀k ∈ Y8 m n fr D,k.mode=.live∧k.app=false:=by
  intro D k hk
  simp only [lbA] at hk
  rcases hk with rfl|rfl|rfl|rfl|rfl|rfl|hk
  ·exact ⟨rfl,rfl⟩
  ·exact ⟨rfl,rfl⟩
  ·exact ⟨rfl,rfl⟩
  ·exact ⟨rfl,rfl⟩
  ·exact ⟨rfl,rfl⟩
  ·exact ⟨rfl,rfl⟩
  ·obtain ⟨l,_,rfl⟩:=lbx.1 hk
   exact ⟨rfl,rfl⟩
 exact a8E (n:=m+6) X h a2y a2y (by simp [okS,okC,R5]) (fun k hk=>⟨(hl k hk).1,(hl k hk).2,a6F k hk⟩) (fun k hk=>⟨(by rw [(hl k hk).1];intro h;cases h),a6F k hk⟩) hr hr'
end Go.Proofs.YtaejgdbahjjncaaGreat
