/- Part 5. -/
import Derived.Test.YtikokmdpigploaaGreatPz4
namespace Go.Proofs.YtikokmdpigploaaGreat
set_option linter.unusedVariables false
set_option linter.unusedSimpArgs false
set_option maxRecDepth 100000
set_option maxHeartbeats 8000000
open Go.RowKit
open St1 St2 St3 St4 St5 St6 St7 St8 StA StB
theorem aA7 {H:Hp} {p:Nat->Prop} {ys:List C} {us:List T} (h2:VYL H p ys us):∀{ts:List T},VYL H p (ts.map C.t++ys) (ts++us)
 |[]=>h2
 |t::r=>⟨a2h,aA7 h2⟩
theorem b75 {m n:Nat} {fr:List (Nat × Bool)} {D:Fd} {X:Hp}:VY (L3 m n fr D.V D.G D.O D.F D.A X) (fun _=>True) (.own 1 0 m true) (.sl 5 .any (a8Y m n D)):=by
 refine b5w (k:=a0V 6 m n D.V) trivial rfl (fun h=>h) rfl (a5t m n D) ?_ ?_
 ·intro r hr
  obtain ⟨i,_,rfl⟩:=lbx.1 hr
  rfl
 ·intro i r hi
  have him:i<m:=by have:=(lbe.1 hi).1;rwa [a5t] at this
  rw [a8w him] at hi
  injection hi with hi
  subst hi
  refine ⟨_,a32 him,?_⟩
  show VYL _ _ ((s9 (fz (D.V i))).map C.t++[C.own (i+6) 0 n true]) _
  have hv:VY (L3 m n fr D.V D.G D.O D.F D.A X) (fun _=>True) (C.own (i+6) 0 n true) (T.sl 4 .any ((rF n (D.A i)).map s9)):=
   .vc (B7 (k:=flB (rF n (D.A i))) trivial (L9 (Q8 him)) (fun h=>h) rfl rfl (by simp [P7]))
  exact aA7 (ys:=[C.own (i+6) 0 n true]) (us:=[T.sl 4 .any ((rF n (D.A i)).map s9)]) (show _∧True from ⟨hv,trivial⟩)
theorem bc1 {m n:Nat} {fr:List (Nat × Bool)} {D:Fd} {X:Hp}:VY (L3 m n fr D.V D.G D.O D.F D.A X) (fun _=>True) (.ptr 0 0 0) (.ptr (b8M m n fr D)):=by
 refine a6F (k:=b0H m n fr.length) trivial rfl (fun h=>h) rfl ⟨a2h,b75,?_,?_,?_,?_,trivial⟩
 ·exact .vc (B7 (k:=flB (rF n D.G)) trivial rfl (fun h=>h) rfl rfl (by simp [P7]))
 ·exact .vc (B7 (k:=Z6 m D.O) trivial rfl (fun h=>h) rfl rfl (by simp [z9]))
 ·exact .vc (B7 (k:=Z6 n D.F) trivial rfl (fun h=>h) rfl rfl (by simp [z9]))
 ·exact .vc (B7 (k:=a1K fr) trivial rfl (fun h=>h) rfl rfl (by simp [a0p]))
abbrev bxD:Blk:={ mode:=.live,elem:=233,size:=1,rows:=[[.ptr 0 0 0]],box:=true }
abbrev bxI (i:Int):Blk:={ mode:=.live,elem:=3,size:=1,rows:=[[.t (ti i)]],box:=true }
theorem aC8 {m n:Nat} {fr:List (Nat × Bool)} {D:Fd} {X:Hp}:VY (L3 m n fr D.V D.G D.O D.F D.A (bxD::X)) (fun _=>True) (.ptr (m+6) 0 0) (a6v m n fr D):=by
 refine a6F (k:=bxD) trivial ?_ (fun h=>h) rfl ⟨bc1,trivial⟩
 show (((mF m n D.A).map flB)++bxD::X)[m]? =_
 rw [lbc (by simp [e7])]
 simp [e7]
theorem b5g {m n t:Nat} {fr:List (Nat × Bool)} {D:Fd} {X:Hp} {i:Int} (h:X[t]? =some (bxI i)):VY (L3 m n fr D.V D.G D.O D.F D.A X) (fun _=>True) (.ptr (m+6+t) 0 0) (.ptr [ti i]):=by
 refine a6F (k:=bxI i) trivial ?_ (fun h=>h) rfl ⟨a2h,trivial⟩
 show (L3 m n fr D.V D.G D.O D.F D.A X)[m+6+t]? =_
 rw [show m+6+t=m+t+6 by omega]
 show (((mF m n D.A).map flB)++X)[m+t]? =_
 rw [lbc (by simp [e7])]
 simpa [e7] using h
theorem be8 {m n:Nat} {fr:List (Nat × Bool)} {D:Fd} {X:Hp}:VYS (L3 m n fr D.V D.G D.O D.F D.A X) (fun _=>True) (.c (.own 3 0 m true)) (a6M m D.O):=.vc (B7 (k:=Z6 m D.O) trivial rfl (fun h=>h) rfl rfl (by simp [z9]))
theorem bg6 {m n:Nat} {fr:List (Nat × Bool)} {D:Fd} {X:Hp}:VYS (L3 m n fr D.V D.G D.O D.F D.A X) (fun _=>True) (.c (.own 4 0 n true)) (a6M n D.F):=.vc (B7 (k:=Z6 n D.F) trivial rfl (fun h=>h) rfl rfl (by simp [z9]))
theorem a9O {m n:Nat} {fr:List (Nat × Bool)} {D:Fd} {r s:Nat} (X:Hp) (h:b9 Tryz.prog 297 [.c (.ptr 0 0 0),b7 .i64 r,b7 .i64 s] (a0i m n fr D) (.tup []) (a0i m n fr (D.exch r s))):
 b9 Tryz.prog 297 [.c (.ptr 0 0 0),b7 .i64 r,b7 .i64 s] (L3 m n fr D.V D.G D.O D.F D.A X) (.tup []) (L3 m n fr (D.exch r s).V (D.exch r s).G (D.exch r s).O (D.exch r s).F (D.exch r s).A X):=by
 have hl:∀{D:Fd},∀k ∈ a0i m n fr D,k.mode=.live∧k.app=false:=by
  intro D k hk
  simp only [lbA] at hk
  rcases hk with rfl|rfl|rfl|rfl|rfl|rfl|hk
  ·exact ⟨rfl,rfl⟩
  ·exact ⟨rfl,rfl⟩
  ·exact ⟨rfl,rfl⟩
  ·exact ⟨rfl,rfl⟩
  ·exact ⟨rfl,rfl⟩
  ·exact ⟨rfl,rfl⟩
  ·obtain ⟨l,_,rfl⟩:=lbx.1 hk
   exact ⟨rfl,rfl⟩
 exact a97 (n:=m+6) X h a39 a39 (by simp [okS,okC,b7,Nat.blt_eq]) (fun k hk=>⟨(hl k hk).1,(hl k hk).2,a7x k hk⟩) (fun k hk=>⟨(by rw [(hl k hk).1];intro h;cases h),a7x k hk⟩) rfl rfl
def b0u:b5S->Int × Int
 |.best=>(-1,-1)
 |.row r=>(r,-1)
 |.col s=>(-1,s)
 |.next r s=>(r,s)
theorem b5V {N:Nat} (h:0<N):okB N bxD:=by
 intro r hr c hc
 simp at hr;subst hr
 simp at hc;subst hc
 exact h
theorem b5r (m n:Nat) (fr:List (Nat × Bool)) (D0:Fd) (g0:Nat->Rat) (hm:m<=100000) (hn:n<=1000) (h0:a6q m n D0 g0 D0) (hB:∀D,V8 m n D0 D->BdD m n 30000 D):
 b9 Tryz.prog 219 [.c (.ptr 0 0 0)] (a0i m n fr D0) (.tup [b7 .i64 (b0u (F2 m n (ak8 m n D0))).1,b7 .i64 (b0u (F2 m n (ak8 m n D0))).2]) (a0i m n fr (ak8 m n D0)):=by
 (refine ac Tryz.func219 ?_;(conv=>whnf);repeat (refine zy ?_;conv=>whnf))
 repeat' (first|refine zx ?_|refine a52 (e7 _ _ _) ?_|refine a3B ?_|refine zd ?_ ?_<;>intro h<;>try omega|fail)<;>conv=>whnf
 refine w5 g6 (σ:=Fd) (fun D=>([J,S.c (C.ptr (m+6) 0 0)]++Jn 69,L3 m n fr D.V D.G D.O D.F D.A [bxD])) (fun D=>V8 m n D0 D) (fun D=>a92 m n D) D0 (idR (m+7)) aX0 ?_ ?_
 ·refine W5 (T':=[]) (a1c rfl rfl rfl rfl rfl rfl (by rw [List.append_nil,List.append_nil];rfl)) rfl (by simp [e7]) (by intro k hk;simp at hk;subst hk;exact b5V (by omega)) ⟨⟨s8 (by omega),rfl,rfl⟩,trivial⟩
 intro D hD
 have bd:=hB D hD
 have inv:a6q m n D0 g0 D:=by obtain ⟨k,hk⟩:=hD;exact a1C h0 hk
 have l1:=a5J m hm D.O (fun i=>decide (D.V i<0)) 293 [a6v m n fr D] (fun i hi=>b3L m n fr D i hi)
 have l2:=a5J n (by omega) D.F (fun j=>decide (0<D.G j)) 294 [a6v m n fr D] (fun j hj=>b3k m n fr D j hj)
 have va1:∀X,a0O (L3 m n fr D.V D.G D.O D.F D.A (bxD::X)) (fun _=>True) [.c (.own 3 0 m true),.c (.fn (.func 293) [.ptr (m+6) 0 0])] [a6M m D.O,.c (.t (.fn (.func 293) [a6v m n fr D]))]:=
  fun X=>⟨be8,b1F (show _∧True from ⟨aC8,trivial⟩),trivial⟩
 have va2:∀X,a0O (L3 m n fr D.V D.G D.O D.F D.A (bxD::X)) (fun _=>True) [.c (.own 4 0 n true),.c (.fn (.func 294) [.ptr (m+6) 0 0])] [a6M n D.F,.c (.t (.fn (.func 294) [a6v m n fr D]))]:=
  fun X=>⟨bg6,b1F (show _∧True from ⟨aC8,trivial⟩),trivial⟩
 have va3:∀X (r:Nat),a0O (L3 m n fr D.V D.G D.O D.F D.A (bxD::bxI r::X)) (fun _=>True) [.c (.own 4 0 n true),.c (.fn (.func 295) [.ptr (m+6) 0 0,.ptr (m+7) 0 0])] [a6M n D.F,.c (.t (.fn (.func 295) [a6v m n fr D,.ptr [ti r]]))]:=
  fun X r=>⟨bg6,b1F (show _∧_∧True from ⟨aC8,b5g (t:=1) rfl,trivial⟩),trivial⟩
 have va4:∀X (x:Int) (s:Nat),a0O (L3 m n fr D.V D.G D.O D.F D.A (bxD::bxI x::bxI s::X)) (fun _=>True) [.c (.own 3 0 m true),.c (.fn (.func 296) [.ptr (m+6) 0 0,.ptr (m+8) 0 0])] [a6M m D.O,.c (.t (.fn (.func 296) [a6v m n fr D,.ptr [ti s]]))]:=
  fun X x s=>⟨be8,b1F (show _∧_∧True from ⟨aC8,b5g (t:=2) rfl,trivial⟩),trivial⟩
 have fin0:∀(X:Hp) (r c:Int),I4 m n D=none->(r,c)=b0u (F2 m n D)->Fin (a0i m n fr D0).length (.tup [b7 .i64 r,b7 .i64 c]) (L3 m n fr D.V D.G D.O D.F D.A X) (.tup [b7 .i64 (b0u (F2 m n (ak8 m n D0))).1,b7 .i64 (b0u (F2 m n (ak8 m n D0))).2]) (a0i m n fr (ak8 m n D0)):=by
  intro X r c hn ho
  have e:=ba7 h0 hD hn
  rw [← e,←ho]
  have e0:a0i m n fr D=L3 m n fr D.V D.G D.O D.F D.A []:=by
   show _::_::_::_::_::_::_=_::_::_::_::_::_::(_++[])
   rw [List.append_nil]
  rw [e0]
  exact ac6 (N:=m+6) rfl rfl (by simp [e7]) ⟨rfl,rfl,trivial⟩
 have go:∀(X:Hp) (env:Env) (r s:Nat),F2 m n D=.next r s->a19 (idR (m+7)) (L3 m n fr (D.exch r s).V (D.exch r s).G (D.exch r s).O (D.exch r s).F (D.exch r s).A (bxD::X)) env ([J,S.c (C.ptr (m+6) 0 0)]++Jn 69)->
  ∃ρ x',Ent (a0i m n fr D0).length ρ env (L3 m n fr (D.exch r s).V (D.exch r s).G (D.exch r s).O (D.exch r s).F (D.exch r s).A (bxD::X)) ([J,S.c (C.ptr (m+6) 0 0)]++Jn 69) (L3 m n fr x'.V x'.G x'.O x'.F x'.A [bxD])∧V8 m n D0 x'∧a92 m n x'<a92 m n D:=by
  intro X env r s hs hE
  have hnx:I4 m n D=some (D.exch r s):=by unfold I4;rw [hs]
  exact ⟨idR (m+7),D.exch r s,W5 (T:=[bxD]) (T':=X) rfl rfl (by simp [e7]) (by intro k hk;simp at hk;subst hk;exact b5V (by omega)) hE,af8 hD hnx,b0s (b97 inv.p inv.g) hnx⟩
 have exc:∀r s:Nat,F2 m n D=.next r s->b9 Tryz.prog 297 [.c (.ptr 0 0 0),b7 .i64 r,b7 .i64 s] (a0i m n fr D) (.tup []) (a0i m n fr (D.exch r s)):=fun r s hs=>by
  obtain ⟨q1,q2,q3⟩:=a5B hs
  exact b0a m n fr D r s hm hn q1 q2 (a7h q3) bd (hB _ (af8 hD (by unfold I4;rw [hs])))
 cases hR:X5 D.O (fun i=>decide (D.V i<0)) m with
 |none=>
  rw [hR,show leI none=-1 from rfl] at l1
  cases hS:X5 D.F (fun j=>decide (0<D.G j)) n with
  |none=>
   rw [hS,show leI none=-1 from rfl] at l2
   have hst:F2 m n D=.best:=by unfold F2;rw [hR,hS]
   conv=>whnf
   repeat' (first|refine zx ?_|refine .inl ⟨_,_,s6 l1 (va1 _) rfl,?_⟩|refine .inl ⟨_,_,s6 l2 (va2 _) rfl,?_⟩|refine p6 (e7 _ _ _) ?_|refine m9 ?_|refine G2 (e7 _ _ _) ?_|refine j6 (t:=1) (e7 _ _ _) ?_|refine j6 (t:=2) (e7 _ _ _) ?_|refine k5 (t:=1) (e7 _ _ _) ?_|refine k5 (t:=2) (e7 _ _ _) ?_|refine zd ?_ ?_<;>intro h<;>try omega|fail)<;>conv=>whnf
   all_goals first
    |omega
    |exact fin0 _ _ _ (by unfold I4;rw [hst]) (by rw [hst];rfl)
  |some ss=>
   rw [hS,show leI (some ss)=ss from rfl] at l2
   have hss:=(J3 hS).1
   have l4:=a5J m hm D.O (fun i=>decide (0<D.A i ss)) 296 [a6v m n fr D,T.ptr [ti ss]] (fun i hi=>ar6 m n fr D i ss hi hss)
   cases hC:X5 D.O (fun i=>decide (0<D.A i ss)) m with
   |none=>
    rw [hC,show leI none=-1 from rfl] at l4
    have hst:F2 m n D=.col ss:=by unfold F2;rw [hR,hS];show a1h m D ss=_;unfold a1h;rw [hC]
    conv=>whnf
    repeat' (first|refine zx ?_|refine .inl ⟨_,_,s6 l1 (va1 _) rfl,?_⟩|refine .inl ⟨_,_,s6 l2 (va2 _) rfl,?_⟩|refine .inl ⟨_,_,s6 l4 (va4 _ _ ss) rfl,?_⟩|refine p6 (e7 _ _ _) ?_|refine m9 ?_|refine G2 (e7 _ _ _) ?_|refine j6 (t:=1) (e7 _ _ _) ?_|refine j6 (t:=2) (e7 _ _ _) ?_|refine k5 (t:=1) (e7 _ _ _) ?_|refine k5 (t:=2) (e7 _ _ _) ?_|refine zd ?_ ?_<;>intro h<;>try omega|fail)<;>conv=>whnf
    all_goals first
     |omega
     |exact fin0 _ _ _ (by unfold I4;rw [hst]) (by rw [hst];rfl)
   |some rq=>
    rw [hC,show leI (some rq)=rq from rfl] at l4
    have hst:F2 m n D=.next rq ss:=by unfold F2;rw [hR,hS];show a1h m D ss=_;unfold a1h;rw [hC]
    have exr:=exc _ _ hst
    conv=>whnf
    repeat' (first|refine zx ?_|refine .inl ⟨_,_,s6 l1 (va1 _) rfl,?_⟩|refine .inl ⟨_,_,s6 l2 (va2 _) rfl,?_⟩|refine .inl ⟨_,_,s6 l4 (va4 _ _ ss) rfl,?_⟩|refine .inr ⟨_,_,a9O _ exr,?_⟩|refine p6 (e7 _ _ _) ?_|refine m9 ?_|refine G2 (e7 _ _ _) ?_|refine j6 (t:=1) (e7 _ _ _) ?_|refine j6 (t:=2) (e7 _ _ _) ?_|refine k5 (t:=1) (e7 _ _ _) ?_|refine k5 (t:=2) (e7 _ _ _) ?_|refine zd ?_ ?_<;>intro h<;>try omega|fail)<;>conv=>whnf
    all_goals first
     |omega
     |exact go _ _ _ _ hst ⟨⟨s8 (by omega),rfl,rfl⟩,trivial⟩
 |some rr=>
  rw [hR,show leI (some rr)=rr from rfl] at l1
  cases hS:X5 D.F (fun j=>decide (0<D.G j)) n with
  |none=>
   rw [hS,show leI none=-1 from rfl] at l2
   have hrr:=(J3 hR).1
   have l3:=a5J n (by omega) D.F (fun j=>decide (D.A rr j<0)) 295 [a6v m n fr D,T.ptr [ti rr]] (fun j hj=>as2 m n fr D rr j hrr hj)
   cases hC:X5 D.F (fun j=>decide (D.A rr j<0)) n with
   |none=>
    rw [hC,show leI none=-1 from rfl] at l3
    have hst:F2 m n D=.row rr:=by unfold F2;rw [hR,hS];show a1g n D rr=_;unfold a1g;rw [hC]
    conv=>whnf
    repeat' (first|refine zx ?_|refine .inl ⟨_,_,s6 l1 (va1 _) rfl,?_⟩|refine .inl ⟨_,_,s6 l2 (va2 _) rfl,?_⟩|refine .inl ⟨_,_,s6 l3 (va3 _ rr) rfl,?_⟩|refine p6 (e7 _ _ _) ?_|refine m9 ?_|refine G2 (e7 _ _ _) ?_|refine j6 (t:=1) (e7 _ _ _) ?_|refine j6 (t:=2) (e7 _ _ _) ?_|refine k5 (t:=1) (e7 _ _ _) ?_|refine k5 (t:=2) (e7 _ _ _) ?_|refine zd ?_ ?_<;>intro h<;>try omega|fail)<;>conv=>whnf
    all_goals first
     |omega
     |exact fin0 _ _ _ (by unfold I4;rw [hst]) (by rw [hst];rfl)
   |some sq=>
    rw [hC,show leI (some sq)=sq from rfl] at l3
    have hst:F2 m n D=.next rr sq:=by unfold F2;rw [hR,hS];show a1g n D rr=_;unfold a1g;rw [hC]
    have exr:=exc _ _ hst
    conv=>whnf
    repeat' (first|refine zx ?_|refine .inl ⟨_,_,s6 l1 (va1 _) rfl,?_⟩|refine .inl ⟨_,_,s6 l2 (va2 _) rfl,?_⟩|refine .inl ⟨_,_,s6 l3 (va3 _ rr) rfl,?_⟩|refine .inr ⟨_,_,a9O _ exr,?_⟩|refine p6 (e7 _ _ _) ?_|refine m9 ?_|refine G2 (e7 _ _ _) ?_|refine j6 (t:=1) (e7 _ _ _) ?_|refine j6 (t:=2) (e7 _ _ _) ?_|refine k5 (t:=1) (e7 _ _ _) ?_|refine k5 (t:=2) (e7 _ _ _) ?_|refine zd ?_ ?_<;>intro h<;>try omega|fail)<;>conv=>whnf
    all_goals first
     |omega
     |exact go _ _ _ _ hst ⟨⟨s8 (by omega),rfl,rfl⟩,trivial⟩
  |some ss=>
   rw [hS,show leI (some ss)=ss from rfl] at l2
   have hrr:=(J3 hR).1
   have hss:=(J3 hS).1
   by_cases hlt:D.O rr<D.F ss
   ·skip
    have l3:=a5J n (by omega) D.F (fun j=>decide (D.A rr j<0)) 295 [a6v m n fr D,T.ptr [ti rr]] (fun j hj=>as2 m n fr D rr j hrr hj)
    cases hC:X5 D.F (fun j=>decide (D.A rr j<0)) n with
    |none=>
     rw [hC,show leI none=-1 from rfl] at l3
     have hst:F2 m n D=.row rr:=by unfold F2 a1g;rw [hR,hS];simp only [if_pos hlt];rw [hC]
     conv=>whnf
     repeat' (first|refine zx ?_|refine .inl ⟨_,_,s6 l1 (va1 _) rfl,?_⟩|refine .inl ⟨_,_,s6 l2 (va2 _) rfl,?_⟩|refine .inl ⟨_,_,s6 l3 (va3 _ rr) rfl,?_⟩|refine p6 (e7 _ _ _) ?_|refine m9 ?_|refine G2 (e7 _ _ _) ?_|refine j6 (t:=1) (e7 _ _ _) ?_|refine j6 (t:=2) (e7 _ _ _) ?_|refine k5 (t:=1) (e7 _ _ _) ?_|refine k5 (t:=2) (e7 _ _ _) ?_|refine a1b (r:=rr) (by omega) hrr ?_|refine a1b (r:=ss) (by omega) hss ?_|refine zd ?_ ?_<;>intro h<;>try omega|fail)<;>conv=>whnf
     all_goals first
      |omega
      |exact fin0 _ _ _ (by unfold I4;rw [hst]) (by rw [hst];rfl)
    |some sq=>
     rw [hC,show leI (some sq)=sq from rfl] at l3
     have hst:F2 m n D=.next rr sq:=by unfold F2 a1g;rw [hR,hS];simp only [if_pos hlt];rw [hC]
     have exr:=exc _ _ hst
     conv=>whnf
     repeat' (first|refine zx ?_|refine .inl ⟨_,_,s6 l1 (va1 _) rfl,?_⟩|refine .inl ⟨_,_,s6 l2 (va2 _) rfl,?_⟩|refine .inl ⟨_,_,s6 l3 (va3 _ rr) rfl,?_⟩|refine .inr ⟨_,_,a9O _ exr,?_⟩|refine p6 (e7 _ _ _) ?_|refine m9 ?_|refine G2 (e7 _ _ _) ?_|refine j6 (t:=1) (e7 _ _ _) ?_|refine j6 (t:=2) (e7 _ _ _) ?_|refine k5 (t:=1) (e7 _ _ _) ?_|refine k5 (t:=2) (e7 _ _ _) ?_|refine a1b (r:=rr) (by omega) hrr ?_|refine a1b (r:=ss) (by omega) hss ?_|refine zd ?_ ?_<;>intro h<;>try omega|fail)<;>conv=>whnf
     all_goals first
      |omega
      |exact go _ _ _ _ hst ⟨⟨s8 (by omega),rfl,rfl⟩,trivial⟩
   ·skip
    have l4:=a5J m hm D.O (fun i=>decide (0<D.A i ss)) 296 [a6v m n fr D,T.ptr [ti ss]] (fun i hi=>ar6 m n fr D i ss hi hss)
    cases hC:X5 D.O (fun i=>decide (0<D.A i ss)) m with
    |none=>
     rw [hC,show leI none=-1 from rfl] at l4
     have hst:F2 m n D=.col ss:=by unfold F2 a1h;rw [hR,hS];simp only [if_neg hlt];rw [hC]
     conv=>whnf
     repeat' (first|refine zx ?_|refine .inl ⟨_,_,s6 l1 (va1 _) rfl,?_⟩|refine .inl ⟨_,_,s6 l2 (va2 _) rfl,?_⟩|refine .inl ⟨_,_,s6 l4 (va4 _ _ ss) rfl,?_⟩|refine p6 (e7 _ _ _) ?_|refine m9 ?_|refine G2 (e7 _ _ _) ?_|refine j6 (t:=1) (e7 _ _ _) ?_|refine j6 (t:=2) (e7 _ _ _) ?_|refine k5 (t:=1) (e7 _ _ _) ?_|refine k5 (t:=2) (e7 _ _ _) ?_|refine a1b (r:=rr) (by omega) hrr ?_|refine a1b (r:=ss) (by omega) hss ?_|refine zd ?_ ?_<;>intro h<;>try omega|fail)<;>conv=>whnf
     all_goals first
      |omega
      |exact fin0 _ _ _ (by unfold I4;rw [hst]) (by rw [hst];rfl)
    |some rq=>
     rw [hC,show leI (some rq)=rq from rfl] at l4
     have hst:F2 m n D=.next rq ss:=by unfold F2 a1h;rw [hR,hS];simp only [if_neg hlt];rw [hC]
     have exr:=exc _ _ hst
     conv=>whnf
     repeat' (first|refine zx ?_|refine .inl ⟨_,_,s6 l1 (va1 _) rfl,?_⟩|refine .inl ⟨_,_,s6 l2 (va2 _) rfl,?_⟩|refine .inl ⟨_,_,s6 l4 (va4 _ _ ss) rfl,?_⟩|refine .inr ⟨_,_,a9O _ exr,?_⟩|refine p6 (e7 _ _ _) ?_|refine m9 ?_|refine G2 (e7 _ _ _) ?_|refine j6 (t:=1) (e7 _ _ _) ?_|refine j6 (t:=2) (e7 _ _ _) ?_|refine k5 (t:=1) (e7 _ _ _) ?_|refine k5 (t:=2) (e7 _ _ _) ?_|refine a1b (r:=rr) (by omega) hrr ?_|refine a1b (r:=ss) (by omega) hss ?_|refine zd ?_ ?_<;>intro h<;>try omega|fail)<;>conv=>whnf
     all_goals first
      |omega
      |exact go _ _ _ _ hst ⟨⟨s8 (by omega),rfl,rfl⟩,trivial⟩
theorem a0C {P:Program} {g:FuncId} {args:List S} {H:Hp} {b:Blk} {n:Nat} {app:Bool} (h:b9 P g args [] (.c (.own 0 0 n app)) [b]) (ha:args.all S.isT=true) (hm:b.mode=.live) (hb:L8 b.rows):
 Y9 P g args H (.c (.own H.length 0 n app)) [b]:=by
 refine ⟨h.1,fun w ι M vals hl hv hH hM hf=>?_⟩
 have:=h.2 w (fun _=>none) M vals hl (fun j s hj=>(hv j s hj).tree (lbv.1 ha s (lbm hj)))
  ⟨by simp,by simp,by simp,by simp,by simp⟩ hM (fun _ _=>rfl)
 refine Calls.mono this ?_
 rintro e w' ⟨v,rfl,ι',M',h1,h2,h3,h4,h5⟩
 have hnl:∀x,¬a34 (fun _=>none) ([]:Hp) x:=by rintro x ⟨id,k,_,_,hk,_⟩;simp at hk
 obtain ⟨l,hl0⟩:∃l,ι' 0=some l:=by
  cases h1 with
  |c h1=>cases h1 with
   |own hi=>exact ⟨_,hi⟩
   |nil hi=>exact ⟨_,hi⟩
 have hnew:C3 ι H.length [b].length (fun _=>l) H.length=some l:=by unfold C3;simp
 have hMM:∀x,a53 M [b].length (fun _=>l) x->M' x:=by
  intro x hx
  rcases hx with hx|⟨k,hk,cap,size,he⟩
  ·rcases h5.mold x hx with h|h
   ·exact h
   ·exact absurd h (hnl x)
  ·have he:l=.blk x cap size:=he
   subst he
   exact h2.liv 0 b rfl hm x cap size hl0
 refine ⟨v,rfl,fun _=>l,?_,⟨h5.os,h5.tape,h5.output,h5.size,fun x hx=>h5.keep x hx (hnl x)⟩,?_,?_,?_⟩
 ·cases h1 with
  |c h1=>cases h1 with
   |own hi q1 q2 q3 q4 q5=>
    rw [hl0] at hi;injection hi with hi
    subst hi
    exact .c (.own hnew q1 q2 q3 q4 q5)
   |nil hi=>
    rw [hl0] at hi;injection hi with hi
    subst hi
    exact .c (.nil hnew)
 ·intro k blk hk
  cases k with
  |succ k=>simp at hk
  |zero=>
   simp at hk
   subst hk
   refine ⟨hm,?_⟩
   have hbr:=h2.blk 0 b rfl (by rw [hm];intro h;cases h) l hl0
   cases l with
   |nil=>exact hbr
   |blk x cap size=>
    obtain ⟨r1,r2,r3,r4,r5,cur,r6,r7,r8⟩:=hbr
    refine ⟨r1,r2,r3,r4,r5,cur,r6,r7,fun i j c hc=>?_⟩
    obtain ⟨u,u1,u2⟩:=r8 i j c hc
    exact ⟨u,u1,al0 hMM hb hc u2⟩
 ·intro k x cap size hk he
  have he:l=.blk x cap size:=he
  subst he
  refine ⟨?_,h3 x (h2.liv 0 b rfl hm x cap size hl0)⟩
  rcases h5.live x ⟨0,b,cap,size,rfl,hm,hl0⟩ with h|h
  ·exact absurd h (hnl x)
  ·exact h
 ·intro k k' x cap size cap' size' hk hk' _ _
  simp at hk hk'
  omega
theorem b3b (H:Hp) (n:Nat) (hn:n<=1000):Y9 Tryz.prog 289 [b7 .i64 n] H (.c (.own H.length 0 n true)) [flB (rF n fun _=>0)]:=
 a0C (b85 n hn) rfl rfl (i8 _)
def a4Y (l:List (Int × Rat)):Nat->Nat->Rat
 |0=>L1 l
 |k+1=>match l[k]? with
  |none=>a4Y l k
  |some t=>fun j=>if j=t.1.toNat then -t.2 else a4Y l k j
theorem av1 {l:List (Int × Rat)} {k:Nat} {t:Int × Rat} (h:l[k]? =some t):a4Y l (k+1)=fun j=>if j=t.1.toNat then -t.2 else a4Y l k j:=by rw [a4Y,h]
theorem b2f (l:List (Int × Rat)) (j:Nat):∀k,k<=l.length->a4Y l k j=-(Q1 l k j)∨(Q1 l k j=0∧a4Y l k j=L1 l j)
 |0,_=>.inr ⟨rfl,rfl⟩
 |k+1,hk=>by
  obtain ⟨t,ht⟩:∃t,l[k]? =some t:=⟨_,lbf (by omega)⟩
  rw [av1 ht,U7 ht]
  simp only
  by_cases hj:j=t.1.toNat
  ·rw [if_pos hj,if_pos hj];exact .inl rfl
  ·rw [if_neg hj,if_neg hj];exact b2f l j k (by omega)
theorem b5q (l:List (Int × Rat)):a4Y l l.length=fun j=>-(L1 l j):=by
 funext j
 rcases b2f l j l.length (lbQ _) with h|⟨h1,h2⟩
 ·exact h
 ·rw [h2]
  have:L1 l j=0:=h1
  rw [this];decide
def sgF (b:Bool) (l:List (Int × Rat)):Nat->Rat:=fun j=>Z5 b (L1 l j)
theorem a0H {H:Hp} {N n:Nat} (hN:H.length=N) (hn:n<=1000):Y9 Tryz.prog 289 [b7 .i64 n] H (.c (.own N 0 n true)) [flB (rF n fun _=>0)]:=by subst hN;exact b3b H n hn
abbrev pB (n k l i f:Nat):Blk:={ mode:=.live,elem:=285,size:=6,rows:=[[C.t (ti n),.own l 0 k true,.own 2 0 n true,.own i 0 k true,.t (.sl 0 .nil []),.own f 0 k true]],box:=true }
abbrev aa0 (t:TypeId) (s:Nat):Blk:=⟨.dead,t,s,[],false,false⟩
abbrev a6k (n k:Nat) (V G:Nat->Rat) (O:Nat->Nat) (fr:List (Nat × Bool)) (A:Nat->Nat->Rat) (X:Hp):Hp:=
 pB n k 1 3 4::a0V 5 k n V::flB (rF n G)::Z6 k O::a1K fr::((mF k n A).map flB++X)
abbrev lnX (k n:Nat) (v:Rat):Blk:={ mode:=.live,elem:=288,size:=5,rows:=[frC (fz v)++[C.own (k+6) 0 n true]],box:=true }
abbrev b2w (n k:Nat) (v:Rat) (a V G:Nat->Rat) (O:Nat->Nat) (fr:List (Nat × Bool)) (f:Nat × Bool) (A:Nat->Nat->Rat) (bx:Blk):Hp:=
 pB n (k+1) (k+8) (k+7) (k+9)::aa0 288 5::flB (rF n G)::aa0 3 1::aa0 306 2::((mF k n A).map flB++
  [bx,flB (rF n a),Z6 (k+1) O,{ mode:=.live,elem:=288,size:=5,rows:=S3 5 k n V++[frC (fz v)++[C.own (k+6) 0 n true]],box:=false },a1K (fr++[f])])
theorem aE7 {k n N:Nat} {v:Rat} (h:k+6<N):okB N (lnX k n v):=by
 intro r hr c hc
 simp at hr;subst hr
 simp [frC] at hc
 rcases hc with rfl|rfl|rfl|rfl|rfl<;>first|trivial|exact h
theorem bh2 {n k N l i f:Nat} (h1:l<N) (h2:i<N) (h3:f<N) (h4:2<N):okB N (pB n k l i f):=by
 intro r hr c hc
 simp at hr;subst hr
 simp at hc
 rcases hc with rfl|rfl|rfl|rfl|rfl|rfl<;>first|trivial|assumption
theorem aQ0 {n k:Nat} {V G:Nat->Rat} {O:Nat->Nat} {fr:List (Nat × Bool)} {A:Nat->Nat->Rat} {X:Hp}:(a6k n k V G O fr A X).length=k+5+X.length:=by simp [e7];omega
theorem b7T {n k N:Nat} {V G:Nat->Rat} {O:Nat->Nat} {fr:List (Nat × Bool)} {A:Nat->Nat->Rat} {X:Hp} (h:k+5<=N) (hX:∀b ∈ X,okB N b):∀b ∈ a6k n k V G O fr A X,okB N b:=by
 intro b hb
 simp only [lbA,lbz] at hb
 rcases hb with rfl|rfl|rfl|rfl|rfl|hb|hb
 ·exact bh2 (by omega) (by omega) (by omega) (by omega)
 ·exact ah1 h
 ·exact I6 rfl
 ·exact I6 rfl
 ·exact I6 rfl
 ·obtain ⟨l,_,rfl⟩:=lbx.1 hb
  exact I6 rfl
 ·exact hX b hb
theorem b5j {n k:Nat} {V G:Nat->Rat} {O:Nat->Nat} {fr:List (Nat × Bool)} {A:Nat->Nat->Rat} {X X':Hp}:a6k n k V G O fr A (X++X')=a6k n k V G O fr A X++X':=by
 show _::_::_::_::_::(_++(X++X'))=_::_::_::_::_::((_++X)++X')
 rw [lbD]
theorem a0g {n0 N n k:Nat} {V G:Nat->Rat} {O:Nat->Nat} {fr:List (Nat × Bool)} {A:Nat->Nat->Rat} {X X' H:Hp} {env env':Env} (hH:H=a6k n k V G O fr A (X++X')) (hN:k+5+X.length=N) (h0:n0<=N) (hX:∀b ∈ X,okB N b)
 (hE:a19 (idR N) H env env'):Ent n0 (idR N) env H env' (a6k n k V G O fr A X):=by
 refine a8g (by rw [aQ0];exact hN) h0 (b7T (by omega) hX) (fun i hi=>?_) hE
 rw [hH,b5j,lbb (by rw [aQ0];omega)]
theorem a24 {b0 b1 b2 b3 b4 c0 c1 c2 c3 c4:Blk} {L L':Hp} (h0:b0=c0) (h1:b1=c1) (h2:b2=c2) (h3:b3=c3) (h4:b4=c4) (h6:L=L'):b0::b1::b2::b3::b4::L=c0::c1::c2::c3::c4::L':=by
 subst h0 h1 h2 h3 h4 h6;rfl
def fR (N:Nat) (f:Nat->Nat):List (Option Nat):=(List.range N).map fun i=>some (f i)
theorem C1 {N i:Nat} {f:Nat->Nat} (h:i<N):(fR N f)[i]? =some (some (f i)):=by simp [fR,h]
theorem bc6 (N:Nat) (f:Nat->Nat):(fR N f).length=N:=by simp [fR]
theorem b4q {N i j:Nat} {f:Nat->Nat} (h:(fR N f)[i]? =some (some j)):i<N∧f i=j:=by
 obtain ⟨h1,h2⟩:=lbe.1 h
 simp [fR] at h1 h2
 exact ⟨h1,h2⟩
theorem ah8 {ρ:List (Option Nat)}:∀{m:Nat},(∀ i:Nat,i<m->ρ[i]? =some (some i))->a1X ρ m=true
 |0,_=>rfl
 |m+1,h=>by
  unfold a1X
  rw [h m (by omega),ah8 fun i hi=>h i (by omega)]
  simp
theorem b28 {N:Nat} {f:Nat->Nat} {H H':Hp} (hn:H'.length=N) (hB:∀(i:Nat) (k':Blk),H'[i]? =some k'->∃k:Blk,H[f i]? =some k∧a6G (fR N f) H k k'):a3i (fR N f) H (fR N f) H':=
 a5I (by rw [bc6,hn]) fun i k' hk=>by
  have hi:i<N:=by rw [← hn];exact (lbe.1 hk).1
  obtain ⟨k,h1,h2⟩:=hB i k' hk
  exact ⟨f i,k,C1 hi,h1,h2⟩
theorem aP1 {N:Nat} {f:Nat->Nat} {H:Hp} (hinj:∀i j,i<N->j<N->f i=f j->i=j):S7 (fR N f) H=true:=a1y fun i j n h1 h2=>by
 obtain ⟨a1,a2⟩:=b4q h1
 obtain ⟨b1,b2⟩:=b4q h2
 exact hinj i j a1 b1 (by omega)
theorem aX3 {n0 N:Nat} {f:Nat->Nat} {env env':Env} {H H':Hp} (hn:H'.length=N) (h0:n0<=N) (hk:∀i,i<n0->f i=i) (hinj:∀i j,i<N->j<N->f i=f j->i=j)
 (hB:∀(i:Nat) (k':Blk),H'[i]? =some k'->∃k:Blk,H[f i]? =some k∧a6G (fR N f) H k k') (hE:a19 (fR N f) H env env'):Ent n0 (fR N f) env H env' H':=
 ⟨ah8 fun i hi=>by rw [C1 (by omega),hk i hi],aP1 hinj,b28 hn hB,hE⟩
theorem bc2 {n0 N:Nat} {f:Nat->Nat} {r s:S} {H H':Hp} (hn:H'.length=N) (h0:n0<=N) (hk:∀i,i<n0->f i=i) (hinj:∀i j,i<N->j<N->f i=f j->i=j)
 (hB:∀(i:Nat) (k':Blk),H'[i]? =some k'->∃k:Blk,H[f i]? =some k∧a6G (fR N f) H k k') (hE:a9p (fR N f) H r s):Fin n0 r H s H':=
 ⟨fR N f,ah8 fun i hi=>by rw [C1 (by omega),hk i hi],aP1 hinj,b28 hn hB,hE⟩
theorem b8G (k:Blk):a2K k k=true:=by unfold a2K;cases k.mode<;>simp
theorem m6 {ρ:List (Option Nat)} {H:Hp} {k:Blk} (h:L8 k.rows):a6G ρ H k k:=⟨b8G k,rfl,rfl,.inl ⟨rfl,h⟩⟩
theorem b12 {ρ:List (Option Nat)} {H:Hp} {l l':List C} (h:a3I ρ H l l'):∀ts:List T,a3I ρ H (ts.map C.t++l) (ts.map C.t++l')
 |[]=>h
 |t::r=>⟨a0F t,b12 h r⟩
theorem a26 {ρ:List (Option Nat)} {H:Hp} {m n:Nat} {V:Nat->Rat} {h h':Nat->Nat} (hh:∀i,i<m->ρ[h' i]? =some (some (h i))):
 a6G ρ H { mode:=.live,elem:=288,size:=5,rows:=(List.range m).map fun i=>frC (fz (V i))++[C.own (h i) 0 n true],box:=false } { mode:=.live,elem:=288,size:=5,rows:=(List.range m).map fun i=>frC (fz (V i))++[C.own (h' i) 0 n true],box:=false }:=by
 refine ⟨rfl,rfl,rfl,.inr (aj3 (by simp) fun i x y hx hy=>?_)⟩
 have hi:i<m:=by have:=(lbe.1 hx).1;simpa using this
 simp [hi] at hx hy
 subst hx hy
 exact b12 (ts:=s9 (fz (V i))) (l:=[C.own (h i) 0 n true]) (l':=[C.own (h' i) 0 n true]) ⟨⟨hh i hi,rfl,rfl,fun h=>h⟩,trivial⟩
theorem b1d {a b:Nat} {K:Prop} (h:a<=b) (k:K):a<=b∧K:=⟨h,k⟩
theorem a4X {N:Nat} {b:Blk} (h:L8 b.rows):okB N b:=by
 intro r hr c hc
 have:=h r hr c hc
 cases c<;>first|trivial|cases this
def aH2 (k n:Nat) (v:Rat) (V:Nat->Rat):Nat->Rat:=fun i=>if i=k then v else V i
def hnd (k:Nat):Nat->Nat:=fun i=>if i=k then k+6 else i+5
theorem a9X {k n:Nat} {v:Rat} {V:Nat->Rat}:S3 5 k n V++[frC (fz v)++[C.own (k+6) 0 n true]]=(List.range (k+1)).map fun i=>frC (fz (aH2 k n v V i))++[C.own (hnd k i) 0 n true]:=by
 rw [List.range_succ,lbC]
 congr 1
 ·refine lbp fun i hi=>?_
  have:=lbB.1 hi
  unfold aH2 hnd
  rw [if_neg (by omega),if_neg (by omega)]
 ·unfold aH2 hnd;simp
abbrev bf2 (n k:Nat) (v:Rat) (a V G:Nat->Rat) (O:Nat->Nat) (fr:List (Nat × Bool)) (f:Nat × Bool) (A:Nat->Nat->Rat) (bx lx lit:Blk):Hp:=
 pB n (k+1) (k+10) (k+8) (k+11)::aa0 288 5::flB (rF n G)::aa0 3 1::aa0 306 2::((mF k n A).map flB++
  [bx,flB (rF n a),lx,Z6 (k+1) O,lit,{ mode:=.live,elem:=288,size:=5,rows:=S3 5 k n V++[frC (fz v)++[C.own (k+6) 0 n true]],box:=false },a1K (fr++[f])])
def ag1 (k:Nat):Nat->Nat:=fun i=>if i<k+7 then i else if i=k+7 then k+8 else if i=k+8 then k+10 else k+11
theorem a1Q {α β:Type} {f:β->α} {M:List β} {X:List α} {N t:Nat} (h:M.length=N):(M.map f++X)[N+t]? =X[t]?:=by
 rw [lbc (by simp [h])];simp [h]
theorem b9f {n0 n:Nat} {r s:S} {H H':Hp} (e:n0=n) (h:Fin n r H s H'):Fin n0 r H s H':=by subst e;exact h
theorem b1T {n k:Nat} {v:Rat} {a V G:Nat->Rat} {O:Nat->Nat} {fr:List (Nat × Bool)} {f:Nat × Bool} {A:Nat->Nat->Rat} {bx lx lit:Blk} {H:Hp} (hbx:L8 bx.rows) (hH:H=bf2 n k v a V G O fr f A bx lx lit):
 Fin (k+6) (.tup []) H (.tup []) (b2w n k v a V G O fr f A bx):=by
 subst hH
 refine bc2 (N:=k+10) (f:=ag1 k) (by simp [e7]) (by omega) (fun i hi=>by unfold ag1;rw [if_pos (by omega)]) (fun i j hi hj h=>by unfold ag1 at h;(repeat' split at h)<;>omega) ?_ trivial
 have r7:ag1 k (k+7)=k+8:=by unfold ag1;rw [if_neg (by omega),if_pos rfl]
 have r8:ag1 k (k+8)=k+10:=by unfold ag1;rw [if_neg (by omega),if_neg (by omega),if_pos rfl]
 have r9:ag1 k (k+9)=k+11:=by unfold ag1;rw [if_neg (by omega),if_neg (by omega),if_neg (by omega)]
 have rl:∀i,i<k+7->ag1 k i=i:=fun i hi=>by unfold ag1;rw [if_pos hi]
 intro i k' hk
 rcases i with _|_|_|_|_|i
 ·injection hk with hk;subst hk
  rw [rl 0 (by omega)]
  exact ⟨_,rfl,rfl,rfl,rfl,.inr ⟨⟨rfl,⟨by rw [C1 (by omega),r8],rfl,rfl,fun h=>h⟩,⟨by rw [C1 (by omega),rl 2 (by omega)],rfl,rfl,fun h=>h⟩,⟨by rw [C1 (by omega),r7],rfl,rfl,fun h=>h⟩,rfl,⟨by rw [C1 (by omega),r9],rfl,rfl,fun h=>h⟩,trivial⟩,trivial⟩⟩
 ·injection hk with hk;subst hk;rw [rl 1 (by omega)];exact ⟨_,rfl,m6 (by simp [L8])⟩
 ·injection hk with hk;subst hk;rw [rl 2 (by omega)];exact ⟨_,rfl,m6 (i8 _)⟩
 ·injection hk with hk;subst hk;rw [rl 3 (by omega)];exact ⟨_,rfl,m6 (by simp [L8])⟩
 ·injection hk with hk;subst hk;rw [rl 4 (by omega)];exact ⟨_,rfl,m6 (by simp [L8])⟩
 ·have hk:((mF k n A).map flB++[bx,flB (rF n a),Z6 (k+1) O,{ mode:=.live,elem:=288,size:=5,rows:=S3 5 k n V++[frC (fz v)++[C.own (k+6) 0 n true]],box:=false },a1K (fr++[f])])[i]? =some k':=hk
  by_cases hi:i<k
  ·rw [L9 (Q8 hi)] at hk
   injection hk with hk;subst hk
   rw [rl (i+5) (by omega)]
   exact ⟨_,L9 (Q8 hi),m6 (i8 _)⟩
  ·obtain ⟨t,rfl⟩:∃t,i=k+t:=⟨i - k,by omega⟩
   rw [a1Q (e7 _ _ _)] at hk
   have lk:∀j,(bf2 n k v a V G O fr f A bx lx lit)[k+j+5]? =([bx,flB (rF n a),lx,Z6 (k+1) O,lit,{ mode:=.live,elem:=288,size:=5,rows:=S3 5 k n V++[frC (fz v)++[C.own (k+6) 0 n true]],box:=false },a1K (fr++[f])]:Hp)[j]?:=fun j=>a1Q (e7 _ _ _)
   rcases t with _|_|_|_|_|t
   ·injection hk with hk;subst hk
    rw [rl (k+0+5) (by omega)]
    exact ⟨_,lk 0,m6 hbx⟩
   ·injection hk with hk;subst hk
    rw [rl (k+1+5) (by omega)]
    exact ⟨_,lk 1,m6 (i8 _)⟩
   ·injection hk with hk;subst hk
    rw [show k+2+5=k+7 by omega,r7]
    exact ⟨_,lk 3,m6 (i8 _)⟩
   ·injection hk with hk;subst hk
    rw [show k+3+5=k+8 by omega,r8]
    refine ⟨_,lk 5,?_⟩
    rw [a9X]
    refine a26 fun j hj=>?_
    have:hnd k j<k+7:=by unfold hnd;split<;>omega
    rw [C1 (by omega),rl _ this]
   ·injection hk with hk;subst hk
    rw [show k+4+5=k+9 by omega,r9]
    exact ⟨_,lk 6,m6 (i8 _)⟩
   ·simp at hk
theorem l7 {a0 a1 a2 a3 a4 a5 a6 b0 b1 b2 b3 b4 b5 b6:Blk} (h0:a0=b0) (h1:a1=b1) (h2:a2=b2) (h3:a3=b3) (h4:a4=b4) (h5:a5=b5) (h6:a6=b6):([a0,a1,a2,a3,a4,a5,a6]:Hp)=[b0,b1,b2,b3,b4,b5,b6]:=by
 subst h0 h1 h2 h3 h4 h5 h6;rfl
theorem a8D {k:Nat} {O:Nat->Nat} {x:Int} (h:x=O k):(toC (a15 k O)).take k++toC [[ti x]]=toC (a15 (k+1) O):=by
 rw [lbn (by simp [toC,z9])]
 unfold a15
 rw [List.range_succ,lbC,h]
 simp [toC]
theorem ah5 {fr:List (Nat × Bool)} {k:Nat} (h:fr.length=k) (f:Nat × Bool):(toC (a0p fr)).take k++toC [[ti f.1,tb f.2]]=toC (a0p (fr++[f])):=by
 rw [lbn (by simp [toC,a0p,h])]
 unfold a0p
 simp [toC]
theorem bh4 (n k row:Nat) (w:H4) (b:Bool) (V G:Nat->Rat) (fr:List (Nat × Bool)) (hfr:fr.length=k) (A:Nat->Nat->Rat) (bx:Blk) (hbx:L8 bx.rows) (hn:n<=1000) (hk:k<=10000) (hrow:row<=100000)
 (hr:k7 (-1) n w.terms=true) (hl:w.terms.length<=1000) (hb:∀t ∈ w.terms,rl t.2<=60000) (hv:rl w.value<=60000):
 b9 Tryz.prog 290 [.c (.ptr 0 0 0),b7 .i64 row,b9U w,j0 b] (a6k n k V G (fun i=>n+i) fr A [bx]) (.tup []) (b2w n k (Z5 b w.value) (sgF b w.terms) V G (fun i=>n+i) fr (row,b) A bx):=by
 have m1:(w.terms.map H9).length=w.terms.length:=by simp
 (refine ac Tryz.func290 ?_;(conv=>whnf);repeat ((first|refine b0x ?_|refine zy ?_);conv=>whnf))
 repeat' (first|refine zz ?_|refine qp e7 ?_|refine b0x ?_|refine .inl ⟨_,_,a0H (N:=k+6) (by simp [e7]) hn,?_⟩|refine p6 (e7 _ _ _) ?_|refine m9 ?_|refine j6 (t:=1) (e7 _ _ _) ?_|refine j6 (t:=2) (e7 _ _ _) ?_|refine j6 (t:=3) (e7 _ _ _) ?_|refine k5 (t:=1) (e7 _ _ _) ?_|refine k5 (t:=2) (e7 _ _ _) ?_|refine k5 (t:=3) (e7 _ _ _) ?_|refine zd ?_ ?_<;>intro h<;>try omega|refine zy ?_|fail)<;>conv=>whnf
 refine j7 g6 (fun q=>([S.c (C.ptr 0 0 0),b7 .i64 row,J,j0 b,J,J,S.c (C.t (T.ptr (D9 w))),J,S.c (C.ptr (k+7) 0 0)]++Jn 13++[w6 w.terms,b7 .i64 w.terms.length,b7 .i64 q]++Jn 73,a6k n k V G (fun i=>n+i) fr A [bx,flB (rF n (Q1 w.terms q)),lnX k n w.value])) w.terms.length (fun _=>True) (idR (k+8)) trivial ?_ ?_
 ·refine a0g (X':=[]) (a24 rfl rfl rfl rfl rfl ?_) rfl (by simp [e7]) ?_ ?_
  ·rfl
  ·intro b hb;simp at hb;rcases hb with rfl|rfl|rfl
   ·exact a4X hbx
   ·exact I6 rfl
   ·exact aE7 (by omega)
  ·exact ⟨⟨s8 (by omega),rfl,rfl⟩,rfl,rfl,k9 rfl,⟨s8 (by omega),rfl,rfl⟩,k9 rfl,e8 (by omega),e8 rfl,trivial⟩
 intro q hq _
 by_cases hlt:q<w.terms.length
 ·obtain ⟨t,ht⟩:∃t,w.terms[q]? =some t:=⟨_,lbf hlt⟩
  obtain ⟨t0,t1,t2⟩:=K9 hr t (lbm ht)
  have gp:(rF n (Q1 w.terms q))[0+t.1.toNat]? =some (fz (Q1 w.terms q t.1.toNat)):=by rw [Nat.zero_add,L2 (by omega)]
  have eV:0+t.1.toNat=t.1.toNat:=by omega
  have e:C2 (flB (rF n (Q1 w.terms q))) ((flB (rF n (Q1 w.terms q))).rows.set (0+t.1.toNat) (frC (fz t.2)))=flB (rF n (Q1 w.terms (q+1))):=by
   have e1:=P2 (row:=rF n (Q1 w.terms q)) (y:=fz t.2) eV
   rw [a05 (by omega),←U7 ht] at e1
   exact e1
  conv=>whnf
  repeat' (first|refine zx ?_|refine i3 ht ?_|refine q9 gp ?_|refine p6 (e7 _ _ _) ?_|refine m9 ?_|refine j6 (t:=1) (e7 _ _ _) ?_|refine j6 (t:=2) (e7 _ _ _) ?_|refine j6 (t:=3) (e7 _ _ _) ?_|refine k5 (t:=1) (e7 _ _ _) ?_|refine k5 (t:=2) (e7 _ _ _) ?_|refine k5 (t:=3) (e7 _ _ _) ?_|refine zd ?_ ?_<;>intro h<;>try omega|fail)<;>conv=>whnf
  all_goals first
   |omega
   |(refine ⟨hlt,trivial,idR (k+8),a0g (X:=[bx,flB (rF n (Q1 w.terms (q+1))),lnX k n w.value]) (a24 rfl rfl rfl rfl rfl (congrArg (fun z=>(mF k n A).map flB++(bx::z::lnX k n w.value::[_])) e)) rfl (by simp [e7]) ?_ ⟨⟨s8 (by omega),rfl,rfl⟩,rfl,rfl,rfl,⟨s8 (by omega),rfl,rfl⟩,rfl,rfl,e8 (by omega),trivial⟩⟩
     intro b hb;simp at hb;rcases hb with rfl|rfl|rfl
     ·exact a4X hbx
     ·exact I6 rfl
     ·exact aE7 (by omega))
 ·have hqe:q=w.terms.length:=by omega
  subst hqe
  cases b with
  |false=>
   conv=>whnf
   repeat' (first|refine ag6 [0,1,2,3,4,5,6,7,9,10,11,12,13,14,15,16,8,17,18,19,20,21,22,23] (by decide +kernel) (by decide +kernel) ?_|refine zz ?_|refine zz ?_|refine zz ?_|refine zz ?_|refine zz ?_|refine zz ?_|refine qp (0,1,2,3,4,5,6,7,9,10,11,12,13,14,15,16,8,17,18,19,20,21,22,23) ?_|refine qp (toC,z9,F3,a0p,hfr) ?_|refine qp (toC,z9,F3,a0p) ?_|refine qp 0 ?_|refine qp (0,1,8,9,10,11,12,13,14,15) ?_|refine qp (0,1) ?_|refine qp 1 ?_|refine D5 (by simp [toC,z9,F3,a0p,hfr]) (by simp [toC,z9,F3,a0p];omega) ?_|refine bl0 [0] ?_|refine bl0 [0,1,8,9,10,11,12,13,14,15] ?_|refine bl0 [0,1] ?_|refine bl0 [1] ?_|refine p6 (e7 _ _ _) ?_|refine m9 ?_|refine j6 (t:=1) (e7 _ _ _) ?_|refine j6 (t:=2) (e7 _ _ _) ?_|refine j6 (t:=3) (e7 _ _ _) ?_|refine k5 (t:=1) (e7 _ _ _) ?_|refine k5 (t:=2) (e7 _ _ _) ?_|refine k5 (t:=3) (e7 _ _ _) ?_|refine j6 (t:=4) (e7 _ _ _) ?_|refine b1d (lbQ 1) ?_|refine zd ?_ ?_<;>intro h<;>try omega|refine zy ?_|fail)<;>conv=>whnf
   all_goals try omega
   all_goals refine b9f (n:=k+6) (by simp [e7]) (b1T (lit:=_) hbx (a24 rfl rfl rfl rfl rfl (congrArg (fun z=>(mF k n A).map flB++z) (l7 rfl rfl rfl ?_ rfl ?_ ?_))))
   ·exact congrArg (fun z=>({ mode:=.live,elem:=3,size:=1,rows:=z,box:=false }:Blk)) (a8D (x:=(n:Int)+k) (by simp))
   ·exact congrArg (fun z=>({ mode:=.live,elem:=288,size:=5,rows:=z,box:=false }:Blk)) (congrArg (fun z=>z++[frC (fz w.value)++[C.own (k+6) 0 n true]]) (lbn (by simp [F3])))
   ·exact congrArg (fun z=>({ mode:=.live,elem:=306,size:=2,rows:=z,box:=false }:Blk)) (ah5 hfr (row,false))
  |true=>
   have nv:=a6I w.value hv
   conv=>whnf
   repeat' (first|refine zx ?_|refine qp nv ?_|refine p6 (e7 _ _ _) ?_|refine m9 ?_|refine j6 (t:=1) (e7 _ _ _) ?_|refine j6 (t:=2) (e7 _ _ _) ?_|refine j6 (t:=3) (e7 _ _ _) ?_|refine k5 (t:=1) (e7 _ _ _) ?_|refine k5 (t:=2) (e7 _ _ _) ?_|refine k5 (t:=3) (e7 _ _ _) ?_|refine zd ?_ ?_<;>intro h<;>try omega|fail)<;>conv=>whnf
   all_goals try omega
   refine j7 g6 (fun q=>([S.c (C.ptr 0 0 0),b7 .i64 row,J,j0 true,J,J,J,J,S.c (C.ptr (k+7) 0 0)]++Jn 33++[w6 w.terms,b7 .i64 w.terms.length,b7 .i64 q]++Jn 53,a6k n k V G (fun i=>n+i) fr A [bx,flB (rF n (a4Y w.terms q)),lnX k n (-w.value)])) w.terms.length (fun _=>True) (idR (k+8)) trivial ?_ ?_
   ·refine a0g (X':=[]) (a24 rfl rfl rfl rfl rfl rfl) rfl (by simp [e7]) ?_ ?_
    ·intro b hb;simp at hb;rcases hb with rfl|rfl|rfl
     ·exact a4X hbx
     ·exact I6 rfl
     ·exact aE7 (by omega)
    ·exact ⟨⟨s8 (by omega),rfl,rfl⟩,rfl,rfl,⟨s8 (by omega),rfl,rfl⟩,k9 rfl,e8 (by omega),e8 rfl,trivial⟩
   intro q hq _
   by_cases hlt:q<w.terms.length
   ·obtain ⟨t,ht⟩:∃t,w.terms[q]? =some t:=⟨_,lbf hlt⟩
    obtain ⟨t0,t1,t2⟩:=K9 hr t (lbm ht)
    have nt:=a6I t.2 (hb t (lbm ht))
    have gp:(rF n (a4Y w.terms q))[0+t.1.toNat]? =some (fz (a4Y w.terms q t.1.toNat)):=by rw [Nat.zero_add,L2 (by omega)]
    have eV:0+t.1.toNat=t.1.toNat:=by omega
    have e:C2 (flB (rF n (a4Y w.terms q))) ((flB (rF n (a4Y w.terms q))).rows.set (0+t.1.toNat) (frC (fz (-t.2))))=flB (rF n (a4Y w.terms (q+1))):=by
     have e1:=P2 (row:=rF n (a4Y w.terms q)) (y:=fz (-t.2)) eV
     rw [a05 (by omega),←av1 ht] at e1
     exact e1
    conv=>whnf
    repeat' (first|refine zx ?_|refine qp nt ?_|refine i3 ht ?_|refine q9 gp ?_|refine p6 (e7 _ _ _) ?_|refine m9 ?_|refine j6 (t:=1) (e7 _ _ _) ?_|refine j6 (t:=2) (e7 _ _ _) ?_|refine j6 (t:=3) (e7 _ _ _) ?_|refine k5 (t:=1) (e7 _ _ _) ?_|refine k5 (t:=2) (e7 _ _ _) ?_|refine k5 (t:=3) (e7 _ _ _) ?_|refine zd ?_ ?_<;>intro h<;>try omega|fail)<;>conv=>whnf
    all_goals first
     |omega
     |(refine ⟨hlt,trivial,idR (k+8),a0g (X:=[bx,flB (rF n (a4Y w.terms (q+1))),lnX k n (-w.value)]) (a24 rfl rfl rfl rfl rfl (congrArg (fun z=>(mF k n A).map flB++(bx::z::lnX k n (-w.value)::[_])) e)) rfl (by simp [e7]) ?_ ⟨⟨s8 (by omega),rfl,rfl⟩,rfl,rfl,⟨s8 (by omega),rfl,rfl⟩,rfl,rfl,e8 (by omega),trivial⟩⟩
       intro b hb;simp at hb;rcases hb with rfl|rfl|rfl
       ·exact a4X hbx
       ·exact I6 rfl
       ·exact aE7 (by omega))
   ·have hqe:q=w.terms.length:=by omega
    subst hqe
    have ea:a4Y w.terms w.terms.length=sgF true w.terms:=b5q w.terms
    conv=>whnf
    repeat' (first|refine ag6 [0,1,2,3,4,5,6,7,9,10,11,12,13,14,15,16,8,17,18,19,20,21,22,23] (by decide +kernel) (by decide +kernel) ?_|refine zz ?_|refine zz ?_|refine zz ?_|refine zz ?_|refine zz ?_|refine zz ?_|refine qp (0,1,2,3,4,5,6,7,9,10,11,12,13,14,15,16,8,17,18,19,20,21,22,23) ?_|refine qp (toC,z9,F3,a0p,hfr) ?_|refine qp (toC,z9,F3,a0p) ?_|refine qp 0 ?_|refine qp (0,1,8,9,10,11,12,13,14,15) ?_|refine qp (0,1) ?_|refine qp 1 ?_|refine D5 (by simp [toC,z9,F3,a0p,hfr]) (by simp [toC,z9,F3,a0p];omega) ?_|refine bl0 [0] ?_|refine bl0 [0,1,8,9,10,11,12,13,14,15] ?_|refine bl0 [0,1] ?_|refine bl0 [1] ?_|refine p6 (e7 _ _ _) ?_|refine m9 ?_|refine j6 (t:=1) (e7 _ _ _) ?_|refine j6 (t:=2) (e7 _ _ _) ?_|refine j6 (t:=3) (e7 _ _ _) ?_|refine k5 (t:=1) (e7 _ _ _) ?_|refine k5 (t:=2) (e7 _ _ _) ?_|refine k5 (t:=3) (e7 _ _ _) ?_|refine j6 (t:=4) (e7 _ _ _) ?_|refine b1d (lbQ 1) ?_|refine zd ?_ ?_<;>intro h<;>try omega|refine zy ?_|fail)<;>conv=>whnf
    all_goals try omega
    all_goals refine b9f (n:=k+6) (by simp [e7]) (b1T (lit:=_) hbx (a24 rfl rfl rfl rfl rfl (congrArg (fun z=>(mF k n A).map flB++z) (l7 rfl (by rw [ea]) rfl ?_ rfl ?_ ?_))))
    ·exact congrArg (fun z=>({ mode:=.live,elem:=3,size:=1,rows:=z,box:=false }:Blk)) (a8D (x:=(n:Int)+k) (by simp))
    ·exact congrArg (fun z=>({ mode:=.live,elem:=288,size:=5,rows:=z,box:=false }:Blk)) (congrArg (fun z=>z++[frC (fz (-w.value))++[C.own (k+6) 0 n true]]) (lbn (by simp [F3])))
    ·exact congrArg (fun z=>({ mode:=.live,elem:=306,size:=2,rows:=z,box:=false }:Blk)) (ah5 hfr (row,true))
def gR (N:Nat) (f:Nat->Option Nat):List (Option Nat):=(List.range N).map f
theorem a3x {N i:Nat} {f:Nat->Option Nat} (h:i<N):(gR N f)[i]? =some (f i):=by simp [gR,h]
theorem b4W {N i:Nat} {x:Option Nat} {f:Nat->Option Nat} (h:(gR N f)[i]? =some x):i<N∧f i=x:=by
 obtain ⟨h1,h2⟩:=lbe.1 h
 simp [gR] at h1 h2
 exact ⟨h1,h2⟩
theorem aN9 {ρ:List (Option Nat)} {H:Hp}:∀{r:List (Option Nat)} {H':Hp},r.length=H'.length->(∀ (i:Nat) (k':Blk),H'[i]? =some k'->(r[i]? =some none∧k'.rows=[]∧k'.mode=.live)∨∃(j:Nat) (k:Blk),r[i]? =some (some j)∧H[j]? =some k∧a6G ρ H k k')->a3i ρ H r H'
 |[],[],_,_=>trivial
 |[],_::_,h,_=>by simp at h
 |_::_,[],h,_=>by simp at h
 |x::r,k'::H',hl,h=>by
  refine ⟨?_,aN9 (by simpa using hl) fun i k1 hk=>by simpa using h (i+1) k1 (by simpa using hk)⟩
  rcases h 0 k' rfl with ⟨h1,h2,h3⟩|⟨j,k,h1,h2,h3⟩
  ·simp at h1;subst h1;exact ⟨h2,h3⟩
  ·simp at h1;subst h1
   simp only [h2]
   exact h3
theorem b4U {N:Nat} {f:Nat->Option Nat} {env env':Env} {H H':Hp} (hn:H'.length=N) (hinj:∀i j x,i<N->j<N->f i=some x->f j=some x->i=j)
 (hB:∀(i:Nat) (k':Blk),H'[i]? =some k'->(f i=none∧k'.rows=[]∧k'.mode=.live)∨∃(j:Nat) (k:Blk),f i=some j∧H[j]? =some k∧a6G (gR N f) H k k') (hE:a19 (gR N f) H env env'):Ent 0 (gR N f) env H env' H':=
 ⟨rfl,a1y fun i j n h1 h2=>by
   obtain ⟨a1,a2⟩:=b4W h1
   obtain ⟨b1,b2⟩:=b4W h2
   exact hinj i j n a1 b1 a2 b2,aN9 (by simp [gR,hn]) fun i k' hk=>by
   have hi:i<N:=by rw [← hn];exact (lbe.1 hk).1
   rcases hB i k' hk with ⟨h1,h2⟩|⟨j,k,h1,h2⟩
   ·exact .inl ⟨by rw [a3x hi,h1],h2⟩
   ·exact .inr ⟨j,k,by rw [a3x hi,h1],h2⟩,hE⟩
theorem a6i {s:l9} (k:Nat):M4 s (k+1)=match s.rows[k]? with
 |none=>M4 s k
 |some w=>M4 s k++(if w.kind≠0 then [(k,false)] else [])++(if w.kind≠1 then [(k,true)] else []):=rfl
theorem at5 {s:l9} {i:Nat}:∀d,∃rest,M4 s (i+d)=M4 s i++rest
 |0=>⟨[],by simp⟩
 |d+1=>by
  obtain ⟨r,hr⟩:=at5 (s:=s) (i:=i) d
  rw [show i+(d+1)=(i+d)+1 by omega,a6i]
  cases s.rows[i+d]? with
  |none=>exact ⟨r,hr⟩
  |some w=>exact ⟨r++((if w.kind≠0 then [(i+d,false)] else [])++(if w.kind≠1 then [(i+d,true)] else [])),by simp only;rw [hr,lbD,lbD]⟩
theorem au8 {s:l9} {i k:Nat} {f:Nat × Bool} (hi:i<=s.rows.length) (h:(M4 s i)[k]? =some f):(g8 s).getD k (0,false)=f:=by
 obtain ⟨r,hr⟩:=at5 (s:=s) (i:=i) (s.rows.length - i)
 rw [show i+(s.rows.length - i)=s.rows.length by omega] at hr
 unfold g8
 rw [hr,lbl,lbb (lbe.1 h).1,h];rfl
theorem a5M {s:l9}:∀i,(M4 s i).length<=2*i
 |0=>by simp [M4]
 |i+1=>by
  have ih:=a5M (s:=s) i
  rw [a6i]
  cases s.rows[i]? with
  |none=>simp only;omega
  |some w=>
   simp only [lbq]
   split<;>split<;>simp<;>omega
theorem ac8 {s:l9} {i:Nat} {w:H4} (h:s.rows[i]? =some w):M4 s (i+1)=(M4 s i++if w.kind≠0 then [(i,false)] else [])++if w.kind≠1 then [(i,true)] else []:=by
 rw [a6i,h]
def X0 (k:Nat):Nat->Nat:=fun i=>if i=0 then 0 else if i=1 then k+8 else if i=2 then 2 else if i=3 then k+7 else if i=4 then k+9 else if i<k+5 then i else if i=k+5 then k+6 else k+5
theorem ag4 {k:Nat} (i:Nat) (hi:i<k+7):(i=0∧X0 k i=0)∨(i=1∧X0 k i=k+8)∨(i=2∧X0 k i=2)∨(i=3∧X0 k i=k+7)∨(i=4∧X0 k i=k+9)∨(5<=i∧i<k+5∧X0 k i=i)∨(5<=i∧i=k+5∧X0 k i=k+6)∨(5<=i∧i=k+6∧X0 k i=k+5):=by
 unfold X0
 by_cases h0:i=0
 ·rw [if_pos h0];omega
 ·rw [if_neg h0]
  by_cases h1:i=1
  ·rw [if_pos h1];omega
  ·rw [if_neg h1]
   by_cases h2:i=2
   ·rw [if_pos h2];omega
   ·rw [if_neg h2]
    by_cases h3:i=3
    ·rw [if_pos h3];omega
    ·rw [if_neg h3]
     by_cases h4:i=4
     ·rw [if_pos h4];omega
     ·rw [if_neg h4]
      by_cases h5:i<k+5
      ·rw [if_pos h5];omega
      ·rw [if_neg h5]
       by_cases h6:i=k+5
       ·rw [if_pos h6];omega
       ·rw [if_neg h6];omega
theorem b79 {k:Nat}:X0 k (k+6)=k+5:=by
 have:=ag4 (k:=k) (k+6) (by omega)
 omega
theorem b0P {n k:Nat} {a V G:Nat->Rat} {v:Rat} {O:Nat->Nat} {fr:List (Nat × Bool)} {f:Nat × Bool} {A:Nat->Nat->Rat} {bx:Blk} {env env':Env} (hbx:L8 bx.rows) (hv:v=V k) (ha:a=A k)
 (hE:a19 (fR (k+7) (X0 k)) (b2w n k v a V G O fr f A bx) env env'):Ent 0 (fR (k+7) (X0 k)) env (b2w n k v a V G O fr f A bx) env' (a6k n (k+1) V G O (fr++[f]) A [bx]):=by
 subst hv ha
 have r1:X0 k 1=k+8:=rfl
 have r3:X0 k 3=k+7:=rfl
 have r4:X0 k 4=k+9:=rfl
 have ra:∀i,i<k->X0 k (i+5)=i+5:=fun i hi=>by
  unfold X0
  rw [if_neg (by omega),if_neg (by omega),if_neg (by omega),if_neg (by omega),if_neg (by omega),if_pos (by omega)]
 have rk:X0 k (k+5)=k+6:=by
  unfold X0
  rw [if_neg (by omega),if_neg (by omega),if_neg (by omega),if_neg (by omega),if_neg (by omega),if_neg (by omega),if_pos rfl]
 have rb:X0 k (k+6)=k+5:=by
  unfold X0
  rw [if_neg (by omega),if_neg (by omega),if_neg (by omega),if_neg (by omega),if_neg (by omega),if_neg (by omega),if_neg (by omega)]
 have lk:∀j,(b2w n k (V k) (A k) V G O fr f A bx)[k+j+5]? =([bx,flB (rF n (A k)),Z6 (k+1) O,{ mode:=.live,elem:=288,size:=5,rows:=S3 5 k n V++[frC (fz (V k))++[C.own (k+6) 0 n true]],box:=false },a1K (fr++[f])]:Hp)[j]?:=fun j=>a1Q (e7 _ _ _)
 have eV:aH2 k n (V k) V=V:=by funext i;unfold aH2;split<;>simp_all
 refine aX3 (by simp [e7]) (by omega) (fun i hi=>by omega) (fun i j hi hj h=>by have:=ag4 i hi;have:=ag4 j hj;omega) ?_ hE
 intro i k' hk
 rcases i with _|_|_|_|_|i
 ·injection hk with hk;subst hk
  exact ⟨_,rfl,rfl,rfl,rfl,.inr ⟨⟨rfl,⟨by rw [C1 (by omega),r1],rfl,rfl,fun h=>h⟩,⟨by rw [C1 (by omega)];rfl,rfl,rfl,fun h=>h⟩,⟨by rw [C1 (by omega),r3],rfl,rfl,fun h=>h⟩,rfl,⟨by rw [C1 (by omega),r4],rfl,rfl,fun h=>h⟩,trivial⟩,trivial⟩⟩
 ·injection hk with hk;subst hk
  refine ⟨_,lk 3,?_⟩
  rw [a9X,eV]
  refine a26 (h':=fun i=>i+5) fun j hj=>?_
  rw [C1 (by omega)]
  unfold hnd
  by_cases hjk:j=k
  ·subst hjk;rw [if_pos rfl,rk]
  ·rw [if_neg hjk,ra j (by omega)]
 ·injection hk with hk;subst hk;exact ⟨_,rfl,m6 (i8 _)⟩
 ·injection hk with hk;subst hk;exact ⟨_,lk 2,m6 (i8 _)⟩
 ·injection hk with hk;subst hk;exact ⟨_,lk 4,m6 (i8 _)⟩
 ·have hk:((mF (k+1) n A).map flB++[bx])[i]? =some k':=hk
  by_cases hi:i<k+1
  ·rw [L9 (Q8 hi)] at hk
   injection hk with hk;subst hk
   by_cases hik:i=k
   ·subst hik;rw [rk];exact ⟨_,lk 1,m6 (i8 _)⟩
   ·rw [ra i (by omega)]
    exact ⟨_,L9 (Q8 (by omega)),m6 (i8 _)⟩
  ·obtain ⟨t,rfl⟩:∃t,i=(k+1)+t:=⟨i - (k+1),by omega⟩
   rw [a1Q (e7 _ _ _)] at hk
   rcases t with _|t
   ·injection hk with hk;subst hk
    rw [show k+1+0+5=k+6 by omega,rb]
    exact ⟨_,lk 0,m6 hbx⟩
   ·simp at hk
theorem b7a {b0 b1 b2 b3 b4 b5 c0 c1 c2 c3 c4 c5:Blk} {L L':Hp} (h0:b0=c0) (h1:b1=c1) (h2:b2=c2) (h3:b3=c3) (h4:b4=c4) (h5:b5=c5) (h6:L=L'):b0::b1::b2::b3::b4::b5::L=c0::c1::c2::c3::c4::c5::L':=a1c h0 h1 h2 h3 h4 h5 h6
theorem J1:∀{last n:Int} {l:List (Int × Rat)},k7 last n l=true->l.length=0∨(l.length:Int)<=n - last - 1
 |_,_,[],_=>.inl rfl
 |last,n,a::r,h=>by
  unfold k7 at h
  simp only [lbM,lbI] at h
  have ih:=J1 h.2
  have h1:=h.1.1.1
  have h2:=h.1.1.2
  right
  rw [lbu]
  rcases ih with h0|h0
  ·rw [h0];omega
  ·omega
structure b8W (s:l9) (g:List (Int × Rat)) (n:Nat):Prop where
 r:p5 s=true
 tg:k7 (-1) n g=true
 en:s.n=n
 n1:n<=1000
 b:∀w ∈ s.rows,rl w.value<=60000∧∀t ∈ w.terms,rl t.2<=60000
 bg:∀t ∈ g,rl t.2<=60000
 l:s.rows.length<=4000
abbrev rbx (w:H4):Blk:={ mode:=.live,elem:=133,size:=6,rows:=[(D9 w).map C.t],box:=true }
theorem aI6 (w:H4):L8 (rbx w).rows:=i8 [D9 w]
def a9l (s:l9):List T:=[ti s.n,a0d s.rows]
def pF1:Nat->Option Nat:=fun i=>if i=0 then some 1 else if i=2 then some 0 else none
theorem b0Z {s:l9} {g:List (Int × Rat)} {k:Nat} {b:Bool} {i:Nat} {w:H4} (h:(g8 s).getD k (0,false)=(i,b)) (hw:s.rows[i]? =some w):Z5 b w.value=(k6 s g).V k:=by
 show _=a4f s ((g8 s).getD k (0,false))
 rw [h];unfold a4f;simp only [hw]
theorem b2t {s:l9} {g:List (Int × Rat)} {k:Nat} {b:Bool} {i:Nat} {w:H4} (h:(g8 s).getD k (0,false)=(i,b)) (hw:s.rows[i]? =some w):sgF b w.terms=(k6 s g).A k:=by
 funext j
 show _=a49 s ((g8 s).getD k (0,false)) j
 rw [h];unfold a49;simp only [hw];rfl
abbrev dF (m n j q:Nat):Blk:={ mode:=.live,elem:=285,size:=6,rows:=[[C.t (ti n),.own 1 0 m true,.own 2 0 n true,.own 3 0 m true,.own 4 0 j true,.own 5 0 q true]],box:=true }
abbrev b8a (m n j:Nat) (V G:Nat->Rat) (O:Nat->Nat) (fr:List (Nat × Bool)) (A:Nat->Nat->Rat) (X:Hp):Hp:=
 dF m n j fr.length::a0V 6 m n V::flB (rF n G)::Z6 m O::Z6 j (fun j=>j)::a1K fr::((mF m n A).map flB++X)
def fF1:Nat->Option Nat:=fun i=>if i=4 then none else if i<4 then some i else some (i - 1)
theorem b6Z {m n:Nat} {V G:Nat->Rat} {O:Nat->Nat} {fr:List (Nat × Bool)} {A:Nat->Nat->Rat} {env env':Env} {H:Hp} (hm:fr.length=m) (hH:H=a6k n m V G O fr A []) (hE:a19 (gR (m+6) fF1) H env env'):
 Ent 0 (gR (m+6) fF1) env H env' (b8a m n 0 V G O fr A []):=by
 subst hH
 refine b4U (by simp [e7]) (fun i j x hi hj h1 h2=>by unfold fF1 at h1 h2;(repeat' split at h1)<;>(repeat' split at h2)<;>first|(cases h1;done)|(cases h2;done)|(injection h1 with h1;injection h2 with h2;omega)) ?_ hE
 intro i k' hk
 have fa:∀i,fF1 (i+6)=some (i+5):=fun i=>by unfold fF1;rw [if_neg (by omega),if_neg (by omega)];rfl
 rcases i with _|_|_|_|_|_|i
 ·injection hk with hk;subst hk
  exact .inr ⟨0,_,rfl,rfl,rfl,rfl,rfl,.inr ⟨⟨rfl,⟨by rw [a3x (by omega)];rfl,rfl,rfl,fun h=>h⟩,⟨by rw [a3x (by omega)];rfl,rfl,rfl,fun h=>h⟩,⟨by rw [a3x (by omega)];rfl,rfl,rfl,fun h=>h⟩,⟨by rw [a3x (by omega)];rfl,rfl,rfl⟩,⟨by rw [a3x (by omega)];rfl,rfl,hm.symm,fun h=>h⟩,trivial⟩,trivial⟩⟩
 ·injection hk with hk;subst hk
  refine .inr ⟨1,_,rfl,rfl,a26 (h:=fun i=>i+5) (h':=fun i=>i+6) fun j hj=>?_⟩
  rw [a3x (by omega),fa]
 ·injection hk with hk;subst hk;exact .inr ⟨2,_,rfl,rfl,m6 (i8 _)⟩
 ·injection hk with hk;subst hk;exact .inr ⟨3,_,rfl,rfl,m6 (i8 _)⟩
 ·injection hk with hk;subst hk;exact .inl ⟨rfl,rfl,rfl⟩
 ·injection hk with hk;subst hk;exact .inr ⟨4,_,rfl,rfl,m6 (i8 _)⟩
 ·have hk:((mF m n A).map flB++[])[i]? =some k':=hk
  have hi:i<m:=by have:=(lbe.1 hk).1;simpa [e7] using this
  rw [L9 (Q8 hi)] at hk
  injection hk with hk;subst hk
  exact .inr ⟨i+5,_,fa i,L9 (Q8 hi),m6 (i8 _)⟩
abbrev bm3 (m n j:Nat) (V G:Nat->Rat) (O:Nat->Nat) (fr:List (Nat × Bool)) (A:Nat->Nat->Rat):Hp:=
 { mode:=.live,elem:=285,size:=6,rows:=[[C.t (ti n),.own 1 0 m true,.own 2 0 n true,.own 3 0 m true,.own (m+6) 0 (j+1) true,.own 5 0 fr.length true]],box:=true }::
   a0V 6 m n V::flB (rF n G)::Z6 m O::aa0 3 1::a1K fr::((mF m n A).map flB++[Z6 (j+1) (fun j=>j)])
def fF2 (m:Nat):Nat->Nat:=fun i=>if i=4 then m+6 else i
theorem b8b {m n j:Nat} {V G:Nat->Rat} {O:Nat->Nat} {fr:List (Nat × Bool)} {A:Nat->Nat->Rat} {env env':Env} {H:Hp} (hH:H=bm3 m n j V G O fr A) (hE:a19 (fR (m+6) (fF2 m)) H env env'):
 Ent 0 (fR (m+6) (fF2 m)) env H env' (b8a m n (j+1) V G O fr A []):=by
 subst hH
 have fa:∀i,i≠4->fF2 m i=i:=fun i hi=>by unfold fF2;rw [if_neg hi]
 refine aX3 (by simp [e7]) (by omega) (fun i hi=>by omega) (fun i j hi hj h=>by unfold fF2 at h;(repeat' split at h)<;>omega) ?_ hE
 intro i k' hk
 rcases i with _|_|_|_|_|_|i
 ·injection hk with hk;subst hk
  exact ⟨_,rfl,rfl,rfl,rfl,.inr ⟨⟨rfl,⟨by rw [C1 (by omega)];rfl,rfl,rfl,fun h=>h⟩,⟨by rw [C1 (by omega)];rfl,rfl,rfl,fun h=>h⟩,⟨by rw [C1 (by omega)];rfl,rfl,rfl,fun h=>h⟩,⟨by rw [C1 (by omega)];rfl,rfl,rfl,fun h=>h⟩,⟨by rw [C1 (by omega)];rfl,rfl,rfl,fun h=>h⟩,trivial⟩,trivial⟩⟩
 ·injection hk with hk;subst hk
  refine ⟨_,rfl,a26 (h:=fun i=>i+6) (h':=fun i=>i+6) fun j hj=>?_⟩
  rw [C1 (by omega),fa _ (by omega)]
 ·injection hk with hk;subst hk;exact ⟨_,rfl,m6 (i8 _)⟩
 ·injection hk with hk;subst hk;exact ⟨_,rfl,m6 (i8 _)⟩
 ·injection hk with hk;subst hk
  refine ⟨_,a1Q (t:=0) (e7 _ _ _),m6 (i8 _)⟩
 ·injection hk with hk;subst hk;exact ⟨_,rfl,m6 (i8 _)⟩
 ·have hk:((mF m n A).map flB++[])[i]? =some k':=hk
  have hi:i<m:=by have:=(lbe.1 hk).1;simpa [e7] using this
  rw [L9 (Q8 hi)] at hk
  injection hk with hk;subst hk
  rw [fa _ (by omega)]
  exact ⟨_,L9 (Q8 hi),m6 (i8 _)⟩
theorem aA5 (s:l9) (g:List (Int × Rat)) (n:Nat) (h:b8W s g n):
 b9 Tryz.prog 218 [a1s s,w6 g] [] (.c (.ptr 0 0 0)) (a0i (g8 s).length n (g8 s) (k6 s g)):=by
 have m1:(s.rows.map D9).length=s.rows.length:=by simp
 have m2:(g.map H9).length=g.length:=by simp
 have z0:∀H:Hp,H.length=0->Y9 Tryz.prog 289 [b7 .i64 s.n] H (.c (.own 0 0 n true)) [flB (rF n fun _=>0)]:=fun H hH=>by rw [h.en];exact a0H hH h.n1
 have hsl:=h.l
 have htg:=h.tg
 have hbg:=h.bg
 have hgl:=J1 htg
 have hn1:=h.n1
 have hen:=h.en
 have put0:∀(K i:Nat) (w:H4) (b:Bool) (F:List (Nat × Bool)) (bx:Blk),s.rows[i]? =some w->F.length=K->L8 bx.rows->K<=10000->i<=100000->
  b9 Tryz.prog 290 [.c (.ptr 0 0 0),b7 .i64 i,b9U w,j0 b] (a6k n K (k6 s g).V (fun _=>0) (fun i=>n+i) F (k6 s g).A [bx]) (.tup []) (b2w n K (Z5 b w.value) (sgF b w.terms) (k6 s g).V (fun _=>0) (fun i=>n+i) F (i,b) (k6 s g).A bx):=by
  intro K i w b F bx hw hF hbx hK hi
  have hn:=a4C h.r
  have hrw:=(a1t h.r hw).1
  rw [hn,h.en] at hrw
  have hl:=J1 hrw
  have hb:=h.b w (lbm hw)
  exact bh4 n K i w b _ _ F hF _ bx hbx h.n1 hK hi hrw (by have:=h.n1;omega) hb.2 hb.1
 (refine ac Tryz.func218 ?_;(conv=>whnf);repeat ((first|refine b0x ?_|refine zy ?_);conv=>whnf))
 repeat' (first|refine zz ?_|refine b0x ?_|refine .inl ⟨_,_,z0 _ rfl,?_⟩|refine zd ?_ ?_<;>intro h<;>try omega|refine zy ?_|fail)<;>conv=>whnf
 refine b58 (fun i=>([J,w6 g,S.c (C.t (T.ptr (a9l s))),J,J,S.c (C.ptr 0 0 0)]++Jn 13++[S.c (C.t (a0d s.rows)),b7 .i64 s.rows.length,b7 .i64 i]++Jn 53,a6k n (M4 s i).length (k6 s g).V (fun _=>0) (fun i=>n+i) (M4 s i) (k6 s g).A [])) s.rows.length (fun _=>True) (gR 5 pF1) trivial ?_ ?_
 ·refine b4U rfl (fun i j x hi hj h1 h2=>by unfold pF1 at h1 h2;(repeat' split at h1)<;>(repeat' split at h2)<;>first|(cases h1;done)|(cases h2;done)|(injection h1 with h1;injection h2 with h2;omega)) ?_ ?_
  ·intro i k' hk
   rcases i with _|_|_|_|_|i
   ·injection hk with hk;subst hk
    exact .inr ⟨1,_,rfl,rfl,rfl,rfl,rfl,.inr ⟨⟨aC2 (by rw [h.en]),⟨rfl,rfl,rfl⟩,⟨rfl,rfl,rfl,fun h=>h⟩,⟨rfl,rfl,rfl⟩,rfl,⟨rfl,rfl,rfl⟩,trivial⟩,trivial⟩⟩
   ·injection hk with hk;subst hk;exact .inl ⟨rfl,rfl,rfl⟩
   ·injection hk with hk;subst hk;exact .inr ⟨0,_,rfl,rfl,m6 (i8 _)⟩
   ·injection hk with hk;subst hk;exact .inl ⟨rfl,rfl,rfl⟩
   ·injection hk with hk;subst hk;exact .inl ⟨rfl,rfl,rfl⟩
   ·simp [mF,M4] at hk
  ·exact ⟨rfl,k9 rfl,⟨rfl,rfl,rfl⟩,k9 rfl,e8 (by omega),e8 rfl,trivial⟩
 intro i hi _
 refine C5 g6 ?_
 conv=>whnf
 repeat' (first|refine zx ?_|refine m9 ?_|refine zd ?_ ?_<;>intro h<;>try omega|fail)<;>conv=>whnf
 ·have hlt:i<s.rows.length:=by omega
  obtain ⟨w,hw⟩:∃w,s.rows[i]? =some w:=⟨_,lbf hlt⟩
  obtain ⟨K,hK⟩:∃K,K=(M4 s i).length:=⟨_,rfl⟩
  rw [← hK]
  obtain ⟨K1,hK1⟩:∃K1,K1=(M4 s i++if w.kind≠0 then [(i,false)] else []).length:=⟨_,rfl⟩
  obtain ⟨F1,hF1⟩:∃F1,F1=(M4 s i++if w.kind≠0 then [(i,false)] else []):=⟨_,rfl⟩
  have hKb:K<=10000:=by have:=a5M (s:=s) i;omega
  refine C5 g6 ?_
  conv=>whnf
  refine aN3 (b0r ?_)
  refine C5 g6 ?_
  conv=>whnf
  repeat' (first|refine zx ?_|refine i3 hw ?_|refine p6 (e7 _ _ _) ?_|refine m9 ?_|refine j6 (t:=0) (e7 _ _ _) ?_|refine k5 (t:=0) (e7 _ _ _) ?_|refine zd ?_ ?_<;>intro h<;>try omega|fail)<;>conv=>whnf
  refine a2r g6 ([J,w6 g,S.c (C.t (T.ptr (a9l s))),J,J,S.c (C.ptr 0 0 0),b7 .i64 i,S.c (C.ptr (K1+5) 0 0)]++Jn 11++[S.c (C.t (a0d s.rows)),b7 .i64 s.rows.length,b7 .i64 i]++Jn 53) (a6k n K1 (k6 s g).V (fun _=>0) (fun i=>n+i) F1 (k6 s g).A [rbx w]) ?_ ?_
  ·by_cases hk:w.kind=0
   ·have e1:F1=M4 s i:=by rw [hF1,if_neg (by simp [hk]),List.append_nil]
    have e2:K1=K:=by rw [hK1,if_neg (by simp [hk]),List.append_nil,hK]
    subst e1 e2
    conv=>whnf
    repeat' (first|refine zx ?_|refine p6 (e7 _ _ _) ?_|refine m9 ?_|refine j6 (t:=0) (e7 _ _ _) ?_|refine k5 (t:=0) (e7 _ _ _) ?_|refine zd ?_ ?_<;>intro h<;>try omega|fail)<;>conv=>whnf
    all_goals first
     |omega
     |exact ⟨idR (K1+6),a0g (X:=[rbx w]) (X':=[]) (a24 rfl rfl rfl rfl rfl rfl) rfl (Nat.zero_le _) (by intro b hb;simp at hb;subst hb;exact a4X (aI6 w)) ⟨rfl,rfl,⟨s8 (by omega),rfl,rfl⟩,rfl,⟨s8 (by omega),rfl,rfl⟩,rfl,rfl,rfl,trivial⟩⟩
   ·have e1:F1=M4 s i++[(i,false)]:=by rw [hF1,if_pos hk]
    have e2:K1=K+1:=by rw [hK1,if_pos hk,lbq,←hK];rfl
    have hg:(g8 s).getD K (0,false)=(i,false):=by
     refine au8 (i:=i+1) (by omega) ?_
     rw [ac8 hw,if_pos hk,lbD,lbc (by omega),hK];simp
    subst e1 e2
    have pu:=put0 K i w false (M4 s i) (rbx w) hw hK.symm (aI6 w) hKb (by omega)
    conv=>whnf
    repeat' (first|refine zx ?_|refine .inr ⟨_,_,pu,?_⟩|refine p6 (e7 _ _ _) ?_|refine m9 ?_|refine j6 (t:=0) (e7 _ _ _) ?_|refine k5 (t:=0) (e7 _ _ _) ?_|refine zd ?_ ?_<;>intro h<;>try omega|fail)<;>conv=>whnf
    all_goals first
     |omega
     |exact ⟨_,b0P (aI6 w) (b0Z hg hw) (b2t hg hw) ⟨rfl,rfl,⟨by rw [C1 (by omega)];rfl,rfl,rfl⟩,rfl,⟨by rw [C1 (by omega),b79],rfl,rfl⟩,rfl,rfl,rfl,trivial⟩⟩
  ·have hl1:F1.length=K1:=by rw [hF1,hK1]
   have eF:M4 s (i+1)=F1++if w.kind≠1 then [(i,true)] else []:=by rw [ac8 hw,hF1]
   have hK1b:K1<=10000:=by
    have:=a5M (s:=s) i
    rw [hK1,lbq]
    split<;>simp<;>omega
   by_cases hk:w.kind=1
   ·have e1:M4 s (i+1)=F1:=by rw [eF,if_neg (by simp [hk]),List.append_nil]
    refine y3 g6 _ ?_
    conv=>whnf
    repeat' (first|refine zx ?_|refine p6 (e7 _ _ _) ?_|refine m9 ?_|refine j6 (t:=0) (e7 _ _ _) ?_|refine k5 (t:=0) (e7 _ _ _) ?_|refine zd ?_ ?_<;>intro h<;>try omega|fail)<;>conv=>whnf
    all_goals try omega
    refine y3 g6 _ ?_
    conv=>whnf
    repeat' (first|refine zx ?_|refine p6 (e7 _ _ _) ?_|refine m9 ?_|refine j6 (t:=0) (e7 _ _ _) ?_|refine k5 (t:=0) (e7 _ _ _) ?_|refine zd ?_ ?_<;>intro h<;>try omega|fail)<;>conv=>whnf
    refine ⟨hlt,trivial,idR (K1+5),?_⟩
    rw [e1,hl1]
    exact a0g (X:=[]) (X':=[rbx w]) (a24 rfl rfl rfl rfl rfl rfl) rfl (Nat.zero_le _) (by simp) ⟨rfl,rfl,⟨s8 (by omega),rfl,rfl⟩,rfl,rfl,e8 (by omega),trivial⟩
   ·have e1:M4 s (i+1)=F1++[(i,true)]:=by rw [eF,if_pos hk]
    have hg:(g8 s).getD K1 (0,false)=(i,true):=by
     refine au8 (i:=i+1) (by omega) ?_
     rw [e1,lbc (by omega),hl1];simp
    have pu:=put0 K1 i w true F1 (rbx w) hw hl1 (aI6 w) hK1b (by omega)
    refine y3 g6 _ ?_
    conv=>whnf
    repeat' (first|refine zx ?_|refine .inr ⟨_,_,pu,?_⟩|refine p6 (e7 _ _ _) ?_|refine m9 ?_|refine j6 (t:=0) (e7 _ _ _) ?_|refine k5 (t:=0) (e7 _ _ _) ?_|refine zd ?_ ?_<;>intro h<;>try omega|fail)<;>conv=>whnf
    all_goals try omega
    refine b7f (env':=[J,w6 g,S.c (C.t (T.ptr (a9l s))),J,J,S.c (C.ptr 0 0 0)]++Jn 13++[S.c (C.t (a0d s.rows)),b7 .i64 s.rows.length,b7 .i64 i]++Jn 53) _ (b0P (aI6 w) (b0Z hg hw) (b2t hg hw) ⟨rfl,rfl,⟨by rw [C1 (by omega)];rfl,rfl,rfl⟩,rfl,rfl,rfl,trivial⟩) ?_
    refine y3 g6 _ ?_
    conv=>whnf
    repeat' (first|refine zx ?_|refine p6 (e7 _ _ _) ?_|refine m9 ?_|refine j6 (t:=0) (e7 _ _ _) ?_|refine k5 (t:=0) (e7 _ _ _) ?_|refine zd ?_ ?_<;>intro h<;>try omega|fail)<;>conv=>whnf
    refine ⟨hlt,trivial,idR (K1+1+5),?_⟩
    rw [e1,show (F1++[(i,true)]).length=K1+1 by simp [hl1]]
    exact a0g (X:=[]) (X':=[rbx w]) (a24 rfl rfl rfl rfl rfl rfl) rfl (Nat.zero_le _) (by simp) ⟨rfl,rfl,⟨s8 (by omega),rfl,rfl⟩,rfl,rfl,e8 (by omega),trivial⟩
 ·have hie:i=s.rows.length:=by omega
  subst hie
  refine y3 g6 _ ?_
  conv=>whnf
  repeat' (first|refine zx ?_|refine p6 (e7 _ _ _) ?_|refine m9 ?_|refine j6 (t:=0) (e7 _ _ _) ?_|refine k5 (t:=0) (e7 _ _ _) ?_|refine zd ?_ ?_<;>intro h<;>try omega|fail)<;>conv=>whnf
  all_goals try omega
  refine j7 g6 (fun q=>([J,J,S.c (C.t (T.ptr (a9l s))),J,J,S.c (C.ptr 0 0 0)]++Jn 35++[w6 g,b7 .i64 g.length,b7 .i64 q]++Jn 31,a6k n (g8 s).length (k6 s g).V (fun j=>-(Q1 g q j)) (fun i=>n+i) (g8 s) (k6 s g).A [])) g.length (fun _=>True) (idR ((g8 s).length+5)) trivial ?_ ?_
  ·refine a0g (X:=[]) (X':=[]) (a24 rfl rfl ?_ rfl rfl rfl) rfl (Nat.zero_le _) (by simp) ⟨k9 rfl,⟨s8 (by omega),rfl,rfl⟩,k9 rfl,e8 (by omega),e8 rfl,trivial⟩
   rw [G1 (g:=fun _=>0) (h:=fun j=>-(Q1 g 0 j)) fun j hj=>by show (0:Rat)=-0;decide]
  intro q hq _
  by_cases hlt:q<g.length
  ·obtain ⟨t,ht⟩:∃t,g[q]? =some t:=⟨_,lbf hlt⟩
   obtain ⟨t0,t1,t2⟩:=K9 htg t (lbm ht)
   have nt:=a6I t.2 (hbg t (lbm ht))
   have gp:(rF n (fun j=>-(Q1 g q j)))[0+t.1.toNat]? =some (fz (-(Q1 g q t.1.toNat))):=by rw [Nat.zero_add,L2 (by omega)]
   have eV:0+t.1.toNat=t.1.toNat:=by omega
   have e:C2 (flB (rF n (fun j=>-(Q1 g q j)))) ((flB (rF n (fun j=>-(Q1 g q j)))).rows.set (0+t.1.toNat) (frC (fz (-t.2))))=flB (rF n (fun j=>-(Q1 g (q+1) j))):=by
    have e1:=P2 (row:=rF n (fun j=>-(Q1 g q j))) (y:=fz (-t.2)) eV
    rw [a05 (by omega)] at e1
    refine e1.trans ?_
    rw [U7 ht]
    refine congrArg flB ?_
    exact G1 fun j hj=>by show (if j=t.1.toNat then -t.2 else -(Q1 g q j))=-(if j=t.1.toNat then t.2 else Q1 g q j);split<;>rfl
   conv=>whnf
   repeat' (first|refine zx ?_|refine qp nt ?_|refine i3 ht ?_|refine q9 gp ?_|refine p6 (e7 _ _ _) ?_|refine m9 ?_|refine j6 (t:=0) (e7 _ _ _) ?_|refine k5 (t:=0) (e7 _ _ _) ?_|refine zd ?_ ?_<;>intro h<;>try omega|fail)<;>conv=>whnf
   all_goals first
    |omega
    |exact ⟨hlt,trivial,idR ((g8 s).length+5),a0g (X:=[]) (X':=[_]) (a24 rfl rfl e rfl rfl rfl) rfl (Nat.zero_le _) (by simp) ⟨rfl,⟨s8 (by omega),rfl,rfl⟩,rfl,rfl,e8 (by omega),trivial⟩⟩
  ·have hqe:q=g.length:=by omega
   subst hqe
   conv=>whnf
   repeat' (first|refine zx ?_|refine p6 (e7 _ _ _) ?_|refine m9 ?_|refine j6 (t:=0) (e7 _ _ _) ?_|refine k5 (t:=0) (e7 _ _ _) ?_|refine zd ?_ ?_<;>intro h<;>try omega|fail)<;>conv=>whnf
   all_goals try omega
   refine j7 g6 (fun q=>([J,J,J,J,J,S.c (C.ptr 0 0 0)]++Jn 53++[b7 .i64 n,b7 .i64 q]++Jn 14,b8a (g8 s).length n q (k6 s g).V (k6 s g).G (fun i=>n+i) (g8 s) (k6 s g).A [])) n (fun _=>True) (gR ((g8 s).length+6) fF1) trivial ?_ ?_
   ·exact b6Z rfl rfl ⟨⟨by rw [a3x (by omega)];rfl,rfl,rfl⟩,e8 hen,e8 rfl,trivial⟩
   intro q hq _
   by_cases hlt:q<n
   ·conv=>whnf
    repeat' (first|refine zx ?_|refine qp (toC,z9) ?_|refine qp (toC,z9) ?_|refine qp 0 ?_|refine D5 (by simp [toC,z9]) (by simp [toC,z9];omega) ?_|refine bl0 [0] ?_|refine p6 (e7 _ _ _) ?_|refine m9 ?_|refine j6 (t:=0) (e7 _ _ _) ?_|refine k5 (t:=0) (e7 _ _ _) ?_|refine zd ?_ ?_<;>intro h<;>try omega|fail)<;>conv=>whnf
    all_goals first
     |omega
     |(refine ⟨hlt,trivial,fR ((g8 s).length+6) (fF2 (g8 s).length),b8b (b7a rfl rfl rfl rfl rfl rfl (congrArg (fun z=>(mF (g8 s).length n (k6 s g).A).map flB++[z]) ?_)) ⟨⟨by rw [C1 (by omega)];rfl,rfl,rfl⟩,rfl,e8 (by omega),trivial⟩⟩
       exact congrArg (fun z=>({ mode:=.live,elem:=3,size:=1,rows:=z,box:=false }:Blk)) (a8D (O:=fun j=>j) (x:=(q:Int)) rfl))
   ·have hqe:q=n:=by omega
    subst hqe
    conv=>whnf
    repeat' (first|refine zx ?_|refine p6 (e7 _ _ _) ?_|refine m9 ?_|refine j6 (t:=0) (e7 _ _ _) ?_|refine k5 (t:=0) (e7 _ _ _) ?_|refine zd ?_ ?_<;>intro h<;>try omega|fail)<;>conv=>whnf
    all_goals try omega
    refine aw5 (n:=(g8 s).length+6) a39 (Nat.zero_le _) a7x (fun i _=>?_) ⟨s8 (by omega),rfl,rfl⟩
    have e0:a0i (g8 s).length q (g8 s) (k6 s g)=b8a (g8 s).length q q (k6 s g).V (k6 s g).G (fun i=>q+i) (g8 s) (k6 s g).A []:=by
     have eO:(k6 s g).O=fun i=>q+i:=by funext i;show s.n.toNat+i=_;rw [hen];rfl
     show _::_::_::Z6 _ (k6 s g).O::_::_::_=_::_::_::_::_::_::(_++[])
     rw [List.append_nil,eO];rfl
    rw [e0]
def ptK (n:Nat) (O:Nat->Nat) (v x0:Nat->Rat):Nat->Nat->Rat
 |0=>x0
 |k+1=>fun j=>if O k<n∧j=O k then v k else ptK n O v x0 k j
theorem R7 {n:Nat} {O:Nat->Nat} {v x0:Nat->Rat} {k:Nat}:ptK n O v x0 (k+1)=fun j=>if O k<n∧j=O k then v k else ptK n O v x0 k j:=rfl
theorem al5 {n:Nat} {O:Nat->Nat} {v x0:Nat->Rat} {j:Nat}:∀{k:Nat},(∀ i,i<k->O i≠j)->ptK n O v x0 k j=x0 j
 |0,_=>rfl
 |k+1,h=>by rw [R7];simp only;rw [if_neg (fun e=>h k (by omega) e.2.symm),al5 fun i hi=>h i (by omega)]
theorem ak4 {n:Nat} {O:Nat->Nat} {v x0:Nat->Rat} {i:Nat}:∀{k:Nat},i<k->O i<n->(∀ a,a<k->O a=O i->a=i)->ptK n O v x0 k (O i)=v i
 |0,h,_,_=>by omega
 |k+1,h,hn,hu=>by
  rw [R7];simp only
  by_cases he:O k=O i
  ·have:=hu k (by omega) he
   subst this
   rw [if_pos ⟨hn,rfl⟩]
  ·rw [if_neg (fun e=>he e.2.symm)]
   have:i≠k:=fun e=>he (by rw [e])
   exact ak4 (by omega) hn fun a ha=>hu a (by omega)
theorem aV0 {m n:Nat} {D:Fd} (hP:Y3 m n D) {j:Nat} (hj:j<n):ptK n D.O D.V (fun _=>0) m j=N4 m n D 1 (fun _=>0) j:=by
 rcases hP.all j (by omega) with ⟨i,hi,rfl⟩|⟨q,hq,rfl⟩
 ·rw [ak4 hi hj fun a ha he=>hP.oi a i ha hi he,a4b hP hi,w9 fun j _=>by grind];grind
 ·rw [al5 fun i hi=>hP.of i q hi hq,a0q hP hq]
theorem b1a {m n c:Nat} {D:Fd} (hP:Y3 m n D) (hc:c<n) {j:Nat} (hj:j<n):ptK n D.O (fun i=>-(D.A i c)) (fun j=>if D.F c<n∧j=D.F c then 1 else 0) m j=N4 m n D 0 (fun q=>if q=c then 1 else 0) j:=by
 rcases hP.all j (by omega) with ⟨i,hi,rfl⟩|⟨q,hq,rfl⟩
 ·rw [ak4 hi hj fun a ha he=>hP.oi a i ha hi he,a4b hP hi,i9 (g:=fun q=>(if c=q then (1:Rat) else 0)*D.A i q) fun q _=>by
   by_cases h:q=c
   ·subst h;simp only [if_true];grind
   ·rw [if_neg h,if_neg (fun e=>h e.symm)];grind,b42 hc]
  grind
 ·rw [al5 fun i hi=>hP.of i q hi hq,a0q hP hq]
  by_cases h:q=c
  ·subst h;rw [if_pos rfl,if_pos ⟨hj,rfl⟩]
  ·rw [if_neg h,if_neg (fun e=>h (hP.fi q c hq hc e.2))]
theorem a6p (n:Nat) (y:Nat->Rat):(zOf n y).map fz=rF n y:=by unfold zOf rF;rw [List.map_map];rfl
abbrev dT (m n:Nat) (fr:List (Nat × Bool)) (D:Fd):S:=.c (.t (.ptr (b8M m n fr D)))
theorem b6R (m n:Nat) (fr:List (Nat × Bool)) (D:Fd) (hP:Y3 m n D) (hm:m<=100000) (hn:n<=1000):b9 Tryz.prog 220 [dT m n fr D] [] (G3 ((zOf n (N4 m n D 1 (fun _=>0))).map fz)) []:=by
 have m1:(a15 m D.O).length=m:=z9 _ _
 have z0:∀H:Hp,H.length=0->Y9 Tryz.prog 289 [b7 .i64 n] H (.c (.own 0 0 n true)) [flB (rF n fun _=>0)]:=fun H hH=>a0H hH hn
 rw [a6p,←G1 (g:=ptK n D.O D.V (fun _=>0) m) fun j hj=>aV0 hP hj]
 (refine ac Tryz.func220 ?_;(conv=>whnf);repeat ((first|refine b0x ?_|refine zy ?_);conv=>whnf))
 repeat' (first|refine zx ?_|refine .inl ⟨_,_,z0 _ rfl,?_⟩|refine zd ?_ ?_<;>intro h<;>try omega|fail)<;>conv=>whnf
 refine j7 g6 (fun k=>([dT m n fr D,J,J,S.c (C.own 0 0 n true)]++Jn 10++[a6M m D.O,b7 .i64 m,b7 .i64 k]++Jn 23,[flB (rF n (ptK n D.O D.V (fun _=>0) k))])) m (fun _=>True) [some 0] trivial
  ⟨rfl,rfl,⟨m6 (i8 _),trivial⟩,⟨k9 rfl,⟨rfl,rfl,rfl,fun h=>h⟩,k9 rfl,e8 (by omega),e8 rfl,trivial⟩⟩ ?_
 intro k hk _
 by_cases hlt:k<m
 ·by_cases ho:D.O k<n
  ·have gp:(rF n (ptK n D.O D.V (fun _=>0) k))[0+((D.O k:Nat):Int).toNat]? =some (fz (ptK n D.O D.V (fun _=>0) k (D.O k))):=by rw [show 0+((D.O k:Nat):Int).toNat=D.O k by omega,L2 ho]
   have e:C2 (flB (rF n (ptK n D.O D.V (fun _=>0) k))) ((flB (rF n (ptK n D.O D.V (fun _=>0) k))).rows.set (0+((D.O k:Nat):Int).toNat) (frC (fz (D.V k))))=flB (rF n (ptK n D.O D.V (fun _=>0) (k+1))):=by
    rw [P2 (show 0+((D.O k:Nat):Int).toNat=D.O k by omega),a05 ho,R7]
    refine congrArg flB (G1 fun j hj=>?_)
    simp only [ho,true_and]
   conv=>whnf
   repeat' (first|refine zx ?_|refine G6 rfl hlt ?_|refine a13 rfl hlt ?_|refine q9 gp ?_|refine zd ?_ ?_<;>intro h<;>try omega|fail)<;>conv=>whnf
   all_goals first
    |omega
    |exact ⟨hlt,trivial,[some 0],rfl,rfl,⟨⟨rfl,rfl,rfl,.inl ⟨congrArg Blk.rows e,(congrArg Blk.rows e) ▸ i8 _⟩⟩,trivial⟩,⟨rfl,⟨rfl,rfl,rfl,fun h=>h⟩,rfl,rfl,e8 (by omega),trivial⟩⟩
  ·have e:ptK n D.O D.V (fun _=>0) (k+1)=ptK n D.O D.V (fun _=>0) k:=by rw [R7];funext j;rw [if_neg (fun h=>ho h.1)]
   conv=>whnf
   repeat' (first|refine zx ?_|refine G6 rfl hlt ?_|refine zd ?_ ?_<;>intro h<;>try omega|fail)<;>conv=>whnf
   all_goals first
    |omega
    |exact ⟨hlt,trivial,[some 0],rfl,rfl,⟨b8 (rows:=(rF n (ptK n D.O D.V (fun _=>0) k)).map s9) rfl rfl rfl rfl (by rw [e]),trivial⟩,⟨rfl,⟨rfl,rfl,rfl,fun h=>h⟩,rfl,rfl,e8 (by omega),trivial⟩⟩
 ·have hke:k=m:=by omega
  subst hke
  conv=>whnf
  repeat' (first|refine zx ?_|refine zd ?_ ?_<;>intro h<;>try omega|fail)<;>conv=>whnf
  all_goals first
   |omega
   |exact R3 rfl (fun h=>h) rfl rfl (by simp [P7])
theorem b9T (m n:Nat) (fr:List (Nat × Bool)) (D:Fd) (c:Nat) (hc:c<n) (hP:Y3 m n D) (hm:m<=100000) (hn:n<=1000) (hB:∀i,i<m->rl (D.A i c)<=60000):
 b9 Tryz.prog 221 [dT m n fr D,b7 .i64 c] [] (G3 ((zOf n (N4 m n D 0 (fun q=>if q=c then 1 else 0))).map fz)) []:=by
 have m1:(a15 m D.O).length=m:=z9 _ _
 have z0:∀H:Hp,H.length=0->Y9 Tryz.prog 289 [b7 .i64 n] H (.c (.own 0 0 n true)) [flB (rF n fun _=>0)]:=fun H hH=>a0H hH hn
 have i1:=I3 1 (by decide) (by decide)
 obtain ⟨x0,hx0⟩:∃x0:Nat->Rat,x0=fun j=>if D.F c<n∧j=D.F c then 1 else 0:=⟨_,rfl⟩
 rw [a6p,←G1 (g:=ptK n D.O (fun i=>-(D.A i c)) x0 m) fun j hj=>by rw [hx0];exact b1a hP hc hj]
 by_cases hf:D.F c<n
 ·have gp0:(rF n (fun _=>(0:Rat)))[0+((D.F c:Nat):Int).toNat]? =some (fz 0):=by rw [show 0+((D.F c:Nat):Int).toNat=D.F c by omega,L2 hf]
  have e0:C2 (flB (rF n (fun _=>(0:Rat)))) ((flB (rF n (fun _=>(0:Rat)))).rows.set (0+((D.F c:Nat):Int).toNat) (frC (fz ((1:Int):Rat))))=flB (rF n x0):=by
   rw [P2 (show 0+((D.F c:Nat):Int).toNat=D.F c by omega),a05 hf,hx0]
   refine congrArg flB (G1 fun j hj=>?_)
   simp only [hf,true_and];rfl
  (refine ac Tryz.func221 ?_;(conv=>whnf);repeat ((first|refine b0x ?_|refine zy ?_);conv=>whnf))
  repeat' (first|refine zx ?_|refine qp i1 ?_|refine .inl ⟨_,_,z0 _ rfl,?_⟩|refine G6 rfl hc ?_|refine q9 gp0 ?_|refine zd ?_ ?_<;>intro h<;>try omega|fail)<;>conv=>whnf
  all_goals try omega
  refine j7 g6 (fun k=>([dT m n fr D,b7 .i64 c,J,J,J,S.c (C.own 0 0 n true)]++Jn 28++[a6M m D.O,b7 .i64 m,b7 .i64 k]++Jn 27,[flB (rF n (ptK n D.O (fun i=>-(D.A i c)) x0 k))])) m (fun _=>True) [some 0] trivial
   ⟨rfl,rfl,⟨⟨rfl,rfl,rfl,.inl ⟨congrArg Blk.rows e0,(congrArg Blk.rows e0) ▸ i8 _⟩⟩,trivial⟩,⟨k9 rfl,e8 rfl,⟨rfl,rfl,rfl,fun h=>h⟩,k9 rfl,e8 (by omega),e8 rfl,trivial⟩⟩ ?_
  intro k hk _
  by_cases hlt:k<m
  ·have ng:=a6I (D.A k c) (hB k hlt)
   by_cases ho:D.O k<n
   ·have gp:(rF n (ptK n D.O (fun i=>-(D.A i c)) x0 k))[0+((D.O k:Nat):Int).toNat]? =some (fz (ptK n D.O (fun i=>-(D.A i c)) x0 k (D.O k))):=by rw [show 0+((D.O k:Nat):Int).toNat=D.O k by omega,L2 ho]
    have e:C2 (flB (rF n (ptK n D.O (fun i=>-(D.A i c)) x0 k))) ((flB (rF n (ptK n D.O (fun i=>-(D.A i c)) x0 k))).rows.set (0+((D.O k:Nat):Int).toNat) (frC (fz (-(D.A k c)))))=flB (rF n (ptK n D.O (fun i=>-(D.A i c)) x0 (k+1))):=by
     rw [P2 (show 0+((D.O k:Nat):Int).toNat=D.O k by omega),a05 ho,R7]
     refine congrArg flB (G1 fun j hj=>?_)
     simp only [ho,true_and]
    conv=>whnf
    repeat' (first|refine zx ?_|refine qp ng ?_|refine G6 rfl hlt ?_|refine a13 rfl hlt ?_|refine a40 rfl hc ?_|refine q9 gp ?_|refine zd ?_ ?_<;>intro h<;>try omega|fail)<;>conv=>whnf
    all_goals first
     |omega
     |exact ⟨hlt,trivial,[some 0],rfl,rfl,⟨⟨rfl,rfl,rfl,.inl ⟨congrArg Blk.rows e,(congrArg Blk.rows e) ▸ i8 _⟩⟩,trivial⟩,⟨rfl,rfl,⟨rfl,rfl,rfl,fun h=>h⟩,rfl,rfl,e8 (by omega),trivial⟩⟩
   ·have e:ptK n D.O (fun i=>-(D.A i c)) x0 (k+1)=ptK n D.O (fun i=>-(D.A i c)) x0 k:=by rw [R7];funext j;rw [if_neg (fun h=>ho h.1)]
    conv=>whnf
    repeat' (first|refine zx ?_|refine G6 rfl hlt ?_|refine zd ?_ ?_<;>intro h<;>try omega|fail)<;>conv=>whnf
    all_goals first
     |omega
     |exact ⟨hlt,trivial,[some 0],rfl,rfl,⟨b8 (rows:=(rF n (ptK n D.O (fun i=>-(D.A i c)) x0 k)).map s9) rfl rfl rfl rfl (by rw [e]),trivial⟩,⟨rfl,rfl,⟨rfl,rfl,rfl,fun h=>h⟩,rfl,rfl,e8 (by omega),trivial⟩⟩
  ·have hke:k=m:=by omega
   subst hke
   conv=>whnf
   repeat' (first|refine zx ?_|refine zd ?_ ?_<;>intro h<;>try omega|fail)<;>conv=>whnf
   all_goals first
    |omega
    |exact R3 rfl (fun h=>h) rfl rfl (by simp [P7])
 ·have e0:x0=fun _=>0:=by rw [hx0];funext j;rw [if_neg (fun h=>hf h.1)]
  (refine ac Tryz.func221 ?_;(conv=>whnf);repeat ((first|refine b0x ?_|refine zy ?_);conv=>whnf))
  repeat' (first|refine zx ?_|refine qp i1 ?_|refine .inl ⟨_,_,z0 _ rfl,?_⟩|refine G6 rfl hc ?_|refine zd ?_ ?_<;>intro h<;>try omega|fail)<;>conv=>whnf
  all_goals try omega
  refine j7 g6 (fun k=>([dT m n fr D,b7 .i64 c,J,J,J,S.c (C.own 0 0 n true)]++Jn 28++[a6M m D.O,b7 .i64 m,b7 .i64 k]++Jn 27,[flB (rF n (ptK n D.O (fun i=>-(D.A i c)) x0 k))])) m (fun _=>True) [some 0] trivial
   ⟨rfl,rfl,⟨b8 (rows:=(rF n (fun _=>0)).map s9) rfl rfl rfl rfl (by rw [e0];rfl),trivial⟩,⟨k9 rfl,e8 rfl,⟨rfl,rfl,rfl,fun h=>h⟩,k9 rfl,e8 (by omega),e8 rfl,trivial⟩⟩ ?_
  intro k hk _
  by_cases hlt:k<m
  ·have ng:=a6I (D.A k c) (hB k hlt)
   by_cases ho:D.O k<n
   ·have gp:(rF n (ptK n D.O (fun i=>-(D.A i c)) x0 k))[0+((D.O k:Nat):Int).toNat]? =some (fz (ptK n D.O (fun i=>-(D.A i c)) x0 k (D.O k))):=by rw [show 0+((D.O k:Nat):Int).toNat=D.O k by omega,L2 ho]
    have e:C2 (flB (rF n (ptK n D.O (fun i=>-(D.A i c)) x0 k))) ((flB (rF n (ptK n D.O (fun i=>-(D.A i c)) x0 k))).rows.set (0+((D.O k:Nat):Int).toNat) (frC (fz (-(D.A k c)))))=flB (rF n (ptK n D.O (fun i=>-(D.A i c)) x0 (k+1))):=by
     rw [P2 (show 0+((D.O k:Nat):Int).toNat=D.O k by omega),a05 ho,R7]
     refine congrArg flB (G1 fun j hj=>?_)
     simp only [ho,true_and]
    conv=>whnf
    repeat' (first|refine zx ?_|refine qp ng ?_|refine G6 rfl hlt ?_|refine a13 rfl hlt ?_|refine a40 rfl hc ?_|refine q9 gp ?_|refine zd ?_ ?_<;>intro h<;>try omega|fail)<;>conv=>whnf
    all_goals first
     |omega
     |exact ⟨hlt,trivial,[some 0],rfl,rfl,⟨⟨rfl,rfl,rfl,.inl ⟨congrArg Blk.rows e,(congrArg Blk.rows e) ▸ i8 _⟩⟩,trivial⟩,⟨rfl,rfl,⟨rfl,rfl,rfl,fun h=>h⟩,rfl,rfl,e8 (by omega),trivial⟩⟩
   ·have e:ptK n D.O (fun i=>-(D.A i c)) x0 (k+1)=ptK n D.O (fun i=>-(D.A i c)) x0 k:=by rw [R7];funext j;rw [if_neg (fun h=>ho h.1)]
    conv=>whnf
    repeat' (first|refine zx ?_|refine G6 rfl hlt ?_|refine zd ?_ ?_<;>intro h<;>try omega|fail)<;>conv=>whnf
    all_goals first
     |omega
     |exact ⟨hlt,trivial,[some 0],rfl,rfl,⟨b8 (rows:=(rF n (ptK n D.O (fun i=>-(D.A i c)) x0 k)).map s9) rfl rfl rfl rfl (by rw [e]),trivial⟩,⟨rfl,rfl,⟨rfl,rfl,rfl,fun h=>h⟩,rfl,rfl,e8 (by omega),trivial⟩⟩
  ·have hke:k=m:=by omega
   subst hke
   conv=>whnf
   repeat' (first|refine zx ?_|refine zd ?_ ?_<;>intro h<;>try omega|fail)<;>conv=>whnf
   all_goals first
    |omega
    |exact R3 rfl (fun h=>h) rfl rfl (by simp [P7])
def a7C (y:Nat->Rat) (r:Nat) (p:Rat):Nat->Rat:=fun i=>if i=r then y i+p else y i
theorem bc8 (b:Bool) (p:Rat):rl (Z5 b p)=rl p:=by cases b;rfl;exact a2T p
theorem a6U (m n:Nat) (fr:List (Nat × Bool)) (D:Fd) (R:Nat) (y:Nat->Rat) (k row:Nat) (b:Bool) (p:Rat) (hk:fr[k]? =some (row,b)) (hr:row<R) (hp:rl p<=50000) (hy:rl (y row)<=50000):
 b9 Tryz.prog 298 [dT m n fr D,.c (.own 0 0 R true),b7 .i64 k,frS (fz p)] [flB (rF R y)] (.tup []) [flB (rF R (a7C y row (-(Z5 b p))))]:=by
 have m1:(a0p fr).length=fr.length:=by simp [a0p]
 have eR:0+(row:Int).toNat=row:=by omega
 have gp:(rF R y)[0+(row:Int).toNat]? =some (fz (y row)):=by rw [eR,L2 hr]
 have ng:=a6I p (by omega)
 cases b with
 |true=>
  have ad:=a5f (y row) p (by omega) (by omega)
  have e:C2 (flB (rF R y)) ((flB (rF R y)).rows.set (0+(row:Int).toNat) (frC (fz (y row+p))))=flB (rF R (a7C y row (-(Z5 true p)))):=by
   rw [P2 eR,a05 hr]
   refine congrArg flB (G1 fun j hj=>?_)
   show (if j=row then y row+p else y j)=if j=row then y j+- -p else y j
   by_cases h:j=row
   ·subst h;rw [if_pos rfl,if_pos rfl,Rat.neg_neg]
   ·rw [if_neg h,if_neg h]
  (refine ac Tryz.func298 ?_;(conv=>whnf);repeat (refine zy ?_;conv=>whnf))
  repeat' (first|refine zx ?_|refine qp ng ?_|refine qp ad ?_|refine qp 12 ?_|refine i3 hk ?_|refine q9 gp ?_|refine bl0 [12] ?_|refine zd ?_ ?_<;>intro h<;>try omega|fail)<;>conv=>whnf
  all_goals first
   |omega
   |(exfalso;simp_all;done)
   |exact ⟨[some 0],rfl,rfl,⟨⟨rfl,rfl,rfl,.inl ⟨congrArg Blk.rows e,(congrArg Blk.rows e) ▸ i8 _⟩⟩,trivial⟩,trivial⟩
 |false=>
  have ad:=a5f (y row) (-p) (by omega) (by rw [a2T];omega)
  have e:C2 (flB (rF R y)) ((flB (rF R y)).rows.set (0+(row:Int).toNat) (frC (fz (y row+-p))))=flB (rF R (a7C y row (-(Z5 false p)))):=by
   rw [P2 eR,a05 hr]
   refine congrArg flB (G1 fun j hj=>?_)
   show (if j=row then y row+-p else y j)=if j=row then y j+-p else y j
   by_cases h:j=row
   ·subst h;rfl
   ·rw [if_neg h,if_neg h]
  (refine ac Tryz.func298 ?_;(conv=>whnf);repeat (refine zy ?_;conv=>whnf))
  repeat' (first|refine zx ?_|refine qp ng ?_|refine qp ad ?_|refine qp 12 ?_|refine i3 hk ?_|refine q9 gp ?_|refine bl0 [12] ?_|refine zd ?_ ?_<;>intro h<;>try omega|fail)<;>conv=>whnf
  all_goals first
   |omega
   |(exfalso;simp_all;done)
   |exact ⟨[some 0],rfl,rfl,⟨⟨rfl,rfl,rfl,.inl ⟨congrArg Blk.rows e,(congrArg Blk.rows e) ▸ i8 _⟩⟩,trivial⟩,trivial⟩
def yK (z:Nat->Rat) (f:Nat->Nat->Rat) (k:Nat):Nat->Rat:=fun i=>z i+j8 (fun j=>f j i) k
theorem a5k {z:Nat->Rat} {f:Nat->Nat->Rat} {k:Nat}:yK z f (k+1)=fun i=>yK z f k i+f k i:=by
 funext i;unfold yK;simp only [j8];grind
theorem a9B {f:Nat->Rat} {B:Nat}:∀k:Nat,(∀ j,j<k->rl (f j)<=B)->rl (j8 f k)<=k*(B+1)+1
 |0,_=>by
  have h0:=rl0
  have e:j8 f 0=0:=by simp only [j8,a0Q]
  rw [e];omega
 |k+1,h=>by
  have h1:=a9B k fun j hj=>h j (by omega)
  have h2:=h k (by omega)
  have h3:=a2O (j8 f k) (f k)
  simp only [j8]
  rw [lbU]
  omega
theorem aG2 {s:l9} {w i B:Nat} {p:Rat} (h:rl p<=B) (hB:1<=B):rl (chg s w p i)<=B:=by
 unfold chg
 split
 ·rw [a2T,bc8];exact h
 ·have:=rl0;omega
theorem a9H {s:l9} {w:Nat} {p:Rat} (h:w<s.n.toNat):chg s w p=fun _=>0:=by
 funext i;unfold chg;rw [if_neg (fun e=>by omega)]
theorem aC9 {s:l9} {w k row:Nat} {b:Bool} {p:Rat} (hw:w=s.n.toNat+k) (hf:(g8 s)[k]? =some (row,b)) (y:Nat->Rat):a7C y row (-(Z5 b p))=fun i=>y i+chg s w p i:=by
 funext i
 have e:aB9 s (w - s.n.toNat)=(row,b):=by unfold aB9;rw [show w - s.n.toNat=k by omega,lbl,hf];rfl
 unfold a7C chg
 rw [e]
 by_cases h:i=row
 ·subst h;rw [if_pos rfl,if_pos ⟨by omega,rfl⟩]
 ·rw [if_neg h,if_neg (fun e=>h e.2.symm)];grind
theorem a7i {s:l9} {k:Nat} {f:Nat × Bool} (h:(g8 s)[k]? =some f):f.1<s.rows.length:=by
 obtain ⟨w,hw,_⟩:=a0y.1 (lbm h)
 exact (lbe.1 hw).1
theorem b3X (s:l9) (n:Nat) (hn:s.n=n) (E:Fd) (hP:Y3 (g8 s).length n E) (B:Nat) (hB:∀j,j<n->rl (E.G j)<=B) (hB1:1<=B) (hBn:(n+2)*(B+2)<=50000) (hm:(g8 s).length<=100000) (hR:s.rows.length<=1000) (hn1:n<=1000):
 b9 Tryz.prog 223 [dT (g8 s).length n (g8 s) E,b7 .i64 s.rows.length] [] (.c (.own 0 0 s.rows.length true)) [flB (rF s.rows.length (a2z s E))]:=by
 have m1:(a15 n E.F).length=n:=z9 _ _
 have hnn:s.n.toNat=n:=by omega
 have z0:∀H:Hp,H.length=0->Y9 Tryz.prog 289 [b7 .i64 s.rows.length] H (.c (.own 0 0 s.rows.length true)) [flB (rF s.rows.length fun _=>0)]:=fun H hH=>a0H hH hR
 have eB:B<=50000:=by
  have:(n+2)*(B+2)=n*(B+2)+2*(B+2):=by rw [Nat.add_mul]
  omega
 obtain ⟨f,hf⟩:∃f:Nat->Nat->Rat,f=fun j=>chg s (E.F j) (-(E.G j)):=⟨_,rfl⟩
 have e9:a2z s E=yK (fun _=>0) f n:=by
  funext i;unfold a2z yK;rw [hf,hnn];grind
 rw [e9]
 (refine ac Tryz.func223 ?_;(conv=>whnf);repeat ((first|refine b0x ?_|refine zy ?_);conv=>whnf))
 repeat' (first|refine zx ?_|refine .inl ⟨_,_,z0 _ rfl,?_⟩|refine zd ?_ ?_<;>intro h<;>try omega|fail)<;>conv=>whnf
 refine j7 g6 (fun k=>([dT (g8 s).length n (g8 s) E,J,J,J,J,S.c (C.own 0 0 s.rows.length true),J,J,J,J,J,J,J,a6M n E.F,b7 .i64 n,b7 .i64 k]++Jn 29,[flB (rF s.rows.length (yK (fun _=>0) f k))])) n (fun _=>True) [some 0] trivial
  ⟨rfl,rfl,⟨b8 (rows:=(rF s.rows.length (fun _=>0)).map s9) rfl rfl rfl rfl ?_,trivial⟩,⟨k9 rfl,⟨rfl,rfl,rfl,fun h=>h⟩,k9 rfl,e8 (by omega),e8 rfl,trivial⟩⟩ ?_
 ·rw [G1 (g:=yK (fun _=>0) f 0) (h:=fun _=>0) fun j hj=>by unfold yK;simp only [j8,a0Q];grind]
 intro k hk _
 by_cases hlt:k<n
 ·have ng:=a6I (E.G k) (by have:=hB k hlt;omega)
  by_cases ho:E.F k<n
  ·have e:yK (fun _=>0) f (k+1)=yK (fun _=>0) f k:=by
    rw [a5k,hf];funext i
    have e0:chg s (E.F k) (-(E.G k)) i=0:=by rw [a9H (by omega)]
    show _+chg s (E.F k) (-(E.G k)) i=_
    rw [e0];grind
   conv=>whnf
   repeat' (first|refine zx ?_|refine G6 rfl hlt ?_|refine zd ?_ ?_<;>intro h<;>try omega|fail)<;>conv=>whnf
   all_goals first
    |omega
    |exact ⟨hlt,trivial,[some 0],rfl,rfl,⟨b8 (rows:=(rF s.rows.length (yK (fun _=>0) f k)).map s9) rfl rfl rfl rfl (by rw [e]),trivial⟩,⟨rfl,⟨rfl,rfl,rfl,fun h=>h⟩,rfl,rfl,e8 (by omega),trivial⟩⟩
  ·have hfb:=hP.fb k hlt
   obtain ⟨q,hq⟩:∃q,E.F k=n+q:=⟨E.F k - n,by omega⟩
   obtain ⟨⟨row,b⟩,hfr⟩:∃x,(g8 s)[q]? =some x:=⟨_,lbf (by omega)⟩
   have hrow:row<s.rows.length:=a7i hfr
   have by1:rl (yK (fun _=>0) f k row)<=50000:=by
    have h1:=a9B (f:=fun j=>f j row) (B:=B) k fun j hj=>by rw [hf];exact aG2 (by rw [a2T];exact hB j (by omega)) hB1
    have e:yK (fun _=>0) f k row=j8 (fun j=>f j row) k:=by unfold yK;grind
    rw [e]
    have:k*(B+1)<=n*(B+1):=lbT _ (by omega)
    have:(n+2)*(B+2)=n*(B+1)+n+2*(B+2):=by rw [Nat.add_mul,show n*(B+2)=n*(B+1)+n by rw [Nat.mul_add,Nat.mul_add];omega]
    omega
   have ch:=a6U (g8 s).length n (g8 s) E s.rows.length (yK (fun _=>0) f k) q row b (-(E.G k)) hfr hrow (by rw [a2T];have:=hB k hlt;omega) by1
   have e:a7C (yK (fun _=>0) f k) row (-(Z5 b (-(E.G k))))=yK (fun _=>0) f (k+1):=by rw [aC9 (s:=s) (w:=E.F k) (by omega) hfr,a5k,hf]
   rw [e,show ((q:Nat):Int)=(E.F k:Int) - n by omega] at ch
   conv=>whnf
   repeat' (first|refine zx ?_|refine qp ng ?_|refine G6 rfl hlt ?_|refine a40 rfl hlt ?_|refine .inr ⟨_,_,ch,?_⟩|refine zd ?_ ?_<;>intro h<;>try omega|fail)<;>conv=>whnf
   all_goals first
    |omega
    |exact ⟨hlt,trivial,[some 0],rfl,rfl,⟨m6 (i8 _),trivial⟩,⟨rfl,⟨rfl,rfl,rfl,fun h=>h⟩,rfl,rfl,e8 (by omega),trivial⟩⟩
 ·have hke:k=n:=by omega
  subst hke
  conv=>whnf
  repeat' (first|refine zx ?_|refine zd ?_ ?_<;>intro h<;>try omega|fail)<;>conv=>whnf
  all_goals first
   |omega
   |exact ⟨[some 0],rfl,rfl,⟨m6 (i8 _),trivial⟩,⟨rfl,rfl,rfl,fun h=>h⟩⟩
theorem aA3 (s:l9) (n r:Nat) (hn:s.n=n) (E:Fd) (hP:Y3 (g8 s).length n E) (hr:r<(g8 s).length) (B:Nat) (hB:∀j,j<n->rl (E.A r j)<=B) (hB1:1<=B) (hBn:(n+3)*(B+2)<=50000) (hm:(g8 s).length<=100000) (hR:s.rows.length<=1000) (hn1:n<=1000):
 b9 Tryz.prog 222 [dT (g8 s).length n (g8 s) E,b7 .i64 s.rows.length,b7 .i64 r] [] (.c (.own 0 0 s.rows.length true)) [flB (rF s.rows.length (a91 s E r))]:=by
 have m1:(a15 n E.F).length=n:=z9 _ _
 have hnn:s.n.toNat=n:=by omega
 have z0:∀H:Hp,H.length=0->Y9 Tryz.prog 289 [b7 .i64 s.rows.length] H (.c (.own 0 0 s.rows.length true)) [flB (rF s.rows.length fun _=>0)]:=fun H hH=>a0H hH hR
 have i1:=I3 1 (by decide) (by decide)
 have eBn:(n+3)*(B+2)=n*(B+1)+n+3*(B+2):=by rw [Nat.add_mul,show n*(B+2)=n*(B+1)+n by rw [Nat.mul_add,Nat.mul_add];omega]
 have eB:B<=50000:=by omega
 obtain ⟨f,hf⟩:∃f:Nat->Nat->Rat,f=fun j=>chg s (E.F j) (E.A r j):=⟨_,rfl⟩
 obtain ⟨z,hz⟩:∃z:Nat->Rat,z=chg s (E.O r) 1:=⟨_,rfl⟩
 have zb:∀i,rl (z i)<=B:=fun i=>by rw [hz];exact aG2 (by have:=rl1;omega) hB1
 have e9:a91 s E r=yK z f n:=by
  funext i;unfold a91 yK;rw [hf,hnn,hz]
 rw [e9]
 have hob:=hP.ob r hr
 by_cases ho:E.O r<n
 ·have ez:z=fun _=>0:=by rw [hz,a9H (by omega)]
  (refine ac Tryz.func222 ?_;(conv=>whnf);repeat ((first|refine b0x ?_|refine zy ?_);conv=>whnf))
  repeat' (first|refine zx ?_|refine .inl ⟨_,_,z0 _ rfl,?_⟩|refine G6 rfl hr ?_|refine zd ?_ ?_<;>intro h<;>try omega|fail)<;>conv=>whnf
  all_goals try omega
  refine j7 g6 (fun k=>([dT (g8 s).length n (g8 s) E,J,b7 .i64 r,J,J,J,J,S.c (C.own 0 0 s.rows.length true)]++Jn 31++[a6M n E.F,b7 .i64 n,b7 .i64 k]++Jn 32,[flB (rF s.rows.length (yK z f k))])) n (fun _=>True) [some 0] trivial
   ⟨rfl,rfl,⟨b8 (rows:=(rF s.rows.length z).map s9) rfl rfl rfl (by rw [ez]) ?_,trivial⟩,⟨k9 rfl,e8 rfl,⟨rfl,rfl,rfl,fun h=>h⟩,k9 rfl,e8 (by omega),e8 rfl,trivial⟩⟩ ?_
  ·rw [G1 (g:=yK z f 0) (h:=z) fun j hj=>by unfold yK;simp only [j8,a0Q];grind]
  intro k hk _
  by_cases hlt:k<n
  ·have ba:=hB k hlt
   by_cases ho2:E.F k<n
   ·have e:yK z f (k+1)=yK z f k:=by
     rw [a5k,hf];funext i
     have e0:chg s (E.F k) (E.A r k) i=0:=by rw [a9H (by omega)]
     show _+chg s (E.F k) (E.A r k) i=_
     rw [e0];grind
    conv=>whnf
    repeat' (first|refine zx ?_|refine G6 rfl hlt ?_|refine zd ?_ ?_<;>intro h<;>try omega|fail)<;>conv=>whnf
    all_goals first
     |omega
     |exact ⟨hlt,trivial,[some 0],rfl,rfl,⟨b8 (rows:=(rF s.rows.length (yK z f k)).map s9) rfl rfl rfl rfl (by rw [e]),trivial⟩,⟨rfl,rfl,⟨rfl,rfl,rfl,fun h=>h⟩,rfl,rfl,e8 (by omega),trivial⟩⟩
   ·have hfb:=hP.fb k hlt
    obtain ⟨q2,hq2⟩:∃q2,E.F k=n+q2:=⟨E.F k - n,by omega⟩
    obtain ⟨⟨row2,b2⟩,hfr2⟩:∃x,(g8 s)[q2]? =some x:=⟨_,lbf (by omega)⟩
    have hrow2:row2<s.rows.length:=a7i hfr2
    have by1:rl (yK z f k row2)<=50000:=by
     have h1:=a9B (f:=fun j=>f j row2) (B:=B) k fun j hj=>by rw [hf];exact aG2 (hB j (by omega)) hB1
     have h2:=a2O (z row2) (j8 (fun j=>f j row2) k)
     have h3:=zb row2
     have:k*(B+1)<=n*(B+1):=lbT _ (by omega)
     unfold yK
     omega
    have ch2:=a6U (g8 s).length n (g8 s) E s.rows.length (yK z f k) q2 row2 b2 (E.A r k) hfr2 hrow2 (by omega) by1
    have e:a7C (yK z f k) row2 (-(Z5 b2 (E.A r k)))=yK z f (k+1):=by rw [aC9 (s:=s) (w:=E.F k) (by omega) hfr2,a5k,hf]
    rw [e,show ((q2:Nat):Int)=(E.F k:Int) - n by omega] at ch2
    conv=>whnf
    repeat' (first|refine zx ?_|refine G6 rfl hlt ?_|refine a13 rfl hr ?_|refine a40 rfl hlt ?_|refine .inr ⟨_,_,ch2,?_⟩|refine zd ?_ ?_<;>intro h<;>try omega|fail)<;>conv=>whnf
    all_goals first
     |omega
     |exact ⟨hlt,trivial,[some 0],rfl,rfl,⟨m6 (i8 _),trivial⟩,⟨rfl,rfl,⟨rfl,rfl,rfl,fun h=>h⟩,rfl,rfl,e8 (by omega),trivial⟩⟩
  ·have hke:k=n:=by omega
   subst hke
   conv=>whnf
   repeat' (first|refine zx ?_|refine zd ?_ ?_<;>intro h<;>try omega|fail)<;>conv=>whnf
   all_goals first
    |omega
    |exact ⟨[some 0],rfl,rfl,⟨m6 (i8 _),trivial⟩,⟨rfl,rfl,rfl,fun h=>h⟩⟩
 ·obtain ⟨q,hq⟩:∃q,E.O r=n+q:=⟨E.O r - n,by omega⟩
  obtain ⟨⟨row,b⟩,hfr⟩:∃x,(g8 s)[q]? =some x:=⟨_,lbf (by omega)⟩
  have hrow:row<s.rows.length:=a7i hfr
  have ch:=a6U (g8 s).length n (g8 s) E s.rows.length (fun _=>0) q row b 1 hfr hrow (by have:=rl1;omega) (by have:=rl0;omega)
  have e:rF s.rows.length (a7C (fun _=>0) row (-(Z5 b 1)))=rF s.rows.length z:=G1 fun j hj=>by
   rw [aC9 (s:=s) (w:=E.O r) (by omega) hfr,hz];grind
  rw [e,show ((q:Nat):Int)=(E.O r:Int) - n by omega] at ch
  have ch:b9 Tryz.prog 298 [dT (g8 s).length n (g8 s) E,.c (.own 0 0 s.rows.length true),b7 .i64 ((E.O r:Int) - n),frS (fz ((1:Int):Rat))] [flB (rF s.rows.length fun _=>0)] (.tup []) [flB (rF s.rows.length z)]:=ch
  (refine ac Tryz.func222 ?_;(conv=>whnf);repeat ((first|refine b0x ?_|refine zy ?_);conv=>whnf))
  repeat' (first|refine zx ?_|refine qp i1 ?_|refine .inl ⟨_,_,z0 _ rfl,?_⟩|refine G6 rfl hr ?_|refine .inr ⟨_,_,ch,?_⟩|refine zd ?_ ?_<;>intro h<;>try omega|fail)<;>conv=>whnf
  all_goals try omega
  refine j7 g6 (fun k=>([dT (g8 s).length n (g8 s) E,J,b7 .i64 r,J,J,J,J,S.c (C.own 0 0 s.rows.length true)]++Jn 31++[a6M n E.F,b7 .i64 n,b7 .i64 k]++Jn 32,[flB (rF s.rows.length (yK z f k))])) n (fun _=>True) [some 0] trivial
   ⟨rfl,rfl,⟨b8 (rows:=(rF s.rows.length z).map s9) rfl rfl rfl (rfl) ?_,trivial⟩,⟨k9 rfl,e8 rfl,⟨rfl,rfl,rfl,fun h=>h⟩,k9 rfl,e8 (by omega),e8 rfl,trivial⟩⟩ ?_
  ·rw [G1 (g:=yK z f 0) (h:=z) fun j hj=>by unfold yK;simp only [j8,a0Q];grind]
  intro k hk _
  by_cases hlt:k<n
  ·have ba:=hB k hlt
   by_cases ho2:E.F k<n
   ·have e:yK z f (k+1)=yK z f k:=by
     rw [a5k,hf];funext i
     have e0:chg s (E.F k) (E.A r k) i=0:=by rw [a9H (by omega)]
     show _+chg s (E.F k) (E.A r k) i=_
     rw [e0];grind
    conv=>whnf
    repeat' (first|refine zx ?_|refine G6 rfl hlt ?_|refine zd ?_ ?_<;>intro h<;>try omega|fail)<;>conv=>whnf
    all_goals first
     |omega
     |exact ⟨hlt,trivial,[some 0],rfl,rfl,⟨b8 (rows:=(rF s.rows.length (yK z f k)).map s9) rfl rfl rfl rfl (by rw [e]),trivial⟩,⟨rfl,rfl,⟨rfl,rfl,rfl,fun h=>h⟩,rfl,rfl,e8 (by omega),trivial⟩⟩
   ·have hfb:=hP.fb k hlt
    obtain ⟨q2,hq2⟩:∃q2,E.F k=n+q2:=⟨E.F k - n,by omega⟩
    obtain ⟨⟨row2,b2⟩,hfr2⟩:∃x,(g8 s)[q2]? =some x:=⟨_,lbf (by omega)⟩
    have hrow2:row2<s.rows.length:=a7i hfr2
    have by1:rl (yK z f k row2)<=50000:=by
     have h1:=a9B (f:=fun j=>f j row2) (B:=B) k fun j hj=>by rw [hf];exact aG2 (hB j (by omega)) hB1
     have h2:=a2O (z row2) (j8 (fun j=>f j row2) k)
     have h3:=zb row2
     have:k*(B+1)<=n*(B+1):=lbT _ (by omega)
     unfold yK
     omega
    have ch2:=a6U (g8 s).length n (g8 s) E s.rows.length (yK z f k) q2 row2 b2 (E.A r k) hfr2 hrow2 (by omega) by1
    have e:a7C (yK z f k) row2 (-(Z5 b2 (E.A r k)))=yK z f (k+1):=by rw [aC9 (s:=s) (w:=E.F k) (by omega) hfr2,a5k,hf]
    rw [e,show ((q2:Nat):Int)=(E.F k:Int) - n by omega] at ch2
    conv=>whnf
    repeat' (first|refine zx ?_|refine G6 rfl hlt ?_|refine a13 rfl hr ?_|refine a40 rfl hlt ?_|refine .inr ⟨_,_,ch2,?_⟩|refine zd ?_ ?_<;>intro h<;>try omega|fail)<;>conv=>whnf
    all_goals first
     |omega
     |exact ⟨hlt,trivial,[some 0],rfl,rfl,⟨m6 (i8 _),trivial⟩,⟨rfl,rfl,⟨rfl,rfl,rfl,fun h=>h⟩,rfl,rfl,e8 (by omega),trivial⟩⟩
  ·have hke:k=n:=by omega
   subst hke
   conv=>whnf
   repeat' (first|refine zx ?_|refine zd ?_ ?_<;>intro h<;>try omega|fail)<;>conv=>whnf
   all_goals first
    |omega
    |exact ⟨[some 0],rfl,rfl,⟨m6 (i8 _),trivial⟩,⟨rfl,rfl,rfl,fun h=>h⟩⟩
def a7p (ρ:List (Option Nat)) (H:Hp):Env->Env->Prop
 |[],[]=>True
 |s::r,s'::r'=>match s' with
  |.junk=>a7p ρ H r r'
  |s'=>(a5T ρ H s s'∨VYS H (fun id=>O3 ρ id=true) s s')∧a7p ρ H r r'
 |_,_=>False
theorem a7p.rel {ρ:List (Option Nat)} {H:Hp}:∀{env env':Env},a7p ρ H env env'->env.length=env'.length∧∀(t:Nat) (s':S),env'[t]? =some s'->∃s,env[t]? =some s∧(a5T ρ H s s'∨VYS H (fun id=>O3 ρ id=true) s s')
 |[],[],_=>⟨rfl,by simp⟩
 |s::r,s'::r',h=>by
  have h':(a5T ρ H s s'∨VYS H (fun id=>O3 ρ id=true) s s')∧a7p ρ H r r':=by
   cases s' with
   |junk=>exact ⟨.inl trivial,h⟩
   |_=>exact h
  obtain ⟨h1,h2⟩:=a7p.rel h'.2
  refine ⟨by simp [h1],fun t s'' ht=>?_⟩
  cases t with
  |zero=>simp at ht;subst ht;exact ⟨s,rfl,h'.1⟩
  |succ t=>simpa using h2 t s'' (by simpa using ht)
 |[],_::_,h=>h.elim
 |_::_,[],h=>h.elim
structure b7Z (n0:Nat) (ρ:List (Option Nat)) (env:Env) (H:Hp) (env':Env) (H':Hp):Prop where
 k:a1X ρ n0=true
 n:S7 ρ H'=true
 h:a3i ρ H ρ H'
 e:a7p ρ H env env'
theorem b7Z.sim {n0:Nat} {ρ:List (Option Nat)} {env env':Env} {H H':Hp} (h:b7Z n0 ρ env H env' H') {w0:World} {ι0:Io} {M0:Ms} {H0:Hp} {a:Act} {w:World} (hn:H0.length=n0) (hM0:MB w0 M0)
 (hs:Sim w0 ι0 M0 H0 a w env H):Sim w0 ι0 M0 H0 a w env' H':=by
 obtain ⟨h1,h2,h3,h4⟩:=h
 obtain ⟨ι,M,hd,hsz,he,hH,hM,hF,hst⟩:=hs
 obtain ⟨hel,heg⟩:=a7p.rel h4
 obtain ⟨q1,q2,q3⟩:=a3i.all h1 h2 h3 hn hM0 hH hst
 refine ⟨O8 ρ ι,_,hd,by omega,fun t s' ht=>?_,q1,fun b hb=>hM b hb.1,q2,q3⟩
 obtain ⟨s,r1,r2⟩:=heg t s' ht
 rcases r2 with r2|r2
 ·exact r2.rs hH (he t s r1)
 ·refine r2.rs hH (fun b hb=>hb.1) ?_ (he t s r1)
  intro id k b cap size hp hk hd hi hb
  exact hb.2 ⟨id,k,cap,size,hp,hk,hd,hi⟩
theorem a4E {P:Program} {τ:Tab} (hτ:D3 P τ) {n0:Nat} {x y:Code} {env:Env} {H:Hp} {Q:AX->Env->Hp->Prop} (E2:Env) (H2:Hp)
 (h:a4P P τ n0 x env H fun a env' H'=>match a with
   |.normal=>∃ρ,b7Z n0 ρ env' H' E2 H2
   |a=>Q a env' H') (h2:Awp P n0 y E2 H2 Q):Awp P n0 (.seq x y) env H Q:=by
 refine ⟨fun w0 ι0 M0 H0 a w hn hM hs=>?_⟩
 refine wp_seq (wp_mono ((y3 hτ x h).out w0 ι0 M0 H0 a w hn hM hs) ?_)
 rintro e a' w' ⟨x,env',H',rfl,hq,hs'⟩
 cases x with
 |normal=>obtain ⟨ρ,he⟩:=hq;exact h2.out w0 ι0 M0 H0 a' w' hn hM (he.sim hn hM hs')
 |exit id=>exact ⟨_,env',H',rfl,hq,hs'⟩
 |ret=>exact ⟨_,env',H',rfl,hq,hs'⟩
theorem b3h {P:Program} {n0:Nat} {c:Operand} {t e:Code} {env:Env} {H:Hp} {Q:AX->Env->Hp->Prop} {b:Bool} (hb:I7 env c=j0 b) (h:Awp P n0 (cond b t e) env H Q):Awp P n0 (.cond c t e) env H Q:=by
 refine ⟨fun w0 ι0 M0 H0 a w hn hM hs=>?_⟩
 have hs0:=hs
 obtain ⟨ι,M,hd,hsz,he,hH,hMB,hF,hst⟩:=hs
 have hv:=(he.ev.to hb).inv_atm
 refine wp_cond hv ?_
 cases b with
 |true=>exact h.out w0 ι0 M0 H0 a w hn hM hs0
 |false=>exact h.out w0 ι0 M0 H0 a w hn hM hs0
theorem b6W {m n:Nat} {fr:List (Nat × Bool)} {D:Fd} {X:Hp} {p:Nat->Prop} (hp:∀i,i<m+6->p i):VY (L3 m n fr D.V D.G D.O D.F D.A X) p (.own 1 0 m true) (.sl 5 .any (a8Y m n D)):=by
 refine b5w (k:=a0V 6 m n D.V) (hp _ (by omega)) rfl (fun h=>h) rfl (a5t m n D) ?_ ?_
 ·intro r hr
  obtain ⟨i,_,rfl⟩:=lbx.1 hr
  rfl
 ·intro i r hi
  have him:i<m:=by have:=(lbe.1 hi).1;rwa [a5t] at this
  rw [a8w him] at hi
  injection hi with hi
  subst hi
  refine ⟨_,a32 him,?_⟩
  show VYL _ _ ((s9 (fz (D.V i))).map C.t++[C.own (i+6) 0 n true]) _
  have hv:VY (L3 m n fr D.V D.G D.O D.F D.A X) p (C.own (i+6) 0 n true) (T.sl 4 .any ((rF n (D.A i)).map s9)):=
   .vc (B7 (k:=flB (rF n (D.A i))) (hp _ (by omega)) (L9 (Q8 him)) (fun h=>h) rfl rfl (by simp [P7]))
  exact aA7 (ys:=[C.own (i+6) 0 n true]) (us:=[T.sl 4 .any ((rF n (D.A i)).map s9)]) (show _∧True from ⟨hv,trivial⟩)
theorem a9G {m n:Nat} {fr:List (Nat × Bool)} {D:Fd} {X:Hp} {p:Nat->Prop} (hp:∀i,i<m+6->p i):VY (L3 m n fr D.V D.G D.O D.F D.A X) p (.ptr 0 0 0) (.ptr (b8M m n fr D)):=by
 refine a6F (k:=b0H m n fr.length) (hp _ (by omega)) rfl (fun h=>h) rfl ⟨a2h,b6W hp,?_,?_,?_,?_,trivial⟩
 ·exact .vc (B7 (k:=flB (rF n D.G)) (hp _ (by omega)) rfl (fun h=>h) rfl rfl (by simp [P7]))
 ·exact .vc (B7 (k:=Z6 m D.O) (hp _ (by omega)) rfl (fun h=>h) rfl rfl (by simp [z9]))
 ·exact .vc (B7 (k:=Z6 n D.F) (hp _ (by omega)) rfl (fun h=>h) rfl rfl (by simp [z9]))
 ·exact .vc (B7 (k:=a1K fr) (hp _ (by omega)) rfl (fun h=>h) rfl rfl (by simp [a0p]))
abbrev bf7 (m n k:Nat):Blk:={ mode:=.live,elem:=285,size:=6,rows:=[[C.t (ti n),.own 2 0 m true,.own 3 0 n true,.own 4 0 m true,.own 5 0 n true,.own 6 0 k true]],box:=true }
abbrev b9z (m n:Nat) (fr:List (Nat × Bool)) (D:Fd) (b:Blk):Hp:=
 b::bf7 m n fr.length::a0V 7 m n D.V::flB (rF n D.G)::Z6 m D.O::Z6 n D.F::a1K fr::(mF m n D.A).map flB
theorem b8C {N i:Nat} (h:i<N):(a3S [] 1 N).getD i 0=i+1:=by
 unfold a3S
 rw [List.nil_append,lbl,lba,lbh h]
 show 1+i=i+1
 omega
theorem b9L {σ:List Nat} (ts:List T) (l:List C):a2b σ (ts.map C.t++l)=ts.map C.t++a2b σ l:=by
 rw [N5,N5,lbC,List.map_map]
 congr 1
theorem a9I {s:l9} {g:List (Int × Rat)} {n:Nat} (b:Blk) (h:b9 Tryz.prog 218 [a1s s,w6 g] [] (.c (.ptr 0 0 0)) (a0i (g8 s).length n (g8 s) (k6 s g))):
 b9 Tryz.prog 218 [a1s s,w6 g] [b] (.c (.ptr 1 0 0)) (b9z (g8 s).length n (g8 s) (k6 s g) b):=by
 have hlen:(a0i (g8 s).length n (g8 s) (k6 s g)).length=(g8 s).length+6:=a39
 have hl:∀k ∈ a0i (g8 s).length n (g8 s) (k6 s g),k.mode=.live:=by
  intro k hk
  simp only [lbA] at hk
  rcases hk with rfl|rfl|rfl|rfl|rfl|rfl|hk
  ·rfl
  ·rfl
  ·rfl
  ·rfl
  ·rfl
  ·rfl
  ·obtain ⟨l,_,rfl⟩:=lbx.1 hk;rfl
 have hsub:(a0i (g8 s).length n (g8 s) (k6 s g)).length - ([]:Hp).length=(g8 s).length+6:=by rw [hlen];simp
 have g1:∀i,i<(g8 s).length+6->(a3S [] ([b]:Hp).length ((a0i (g8 s).length n (g8 s) (k6 s g)).length - ([]:Hp).length)).getD i 0=i+1:=fun i hi=>by
  rw [hsub];exact b8C hi
 refine L6 [] h rfl rfl rfl List.nodup_nil (by simp) (fun k hk=>by rw [hl k hk];intro h;cases h) (by simp) rfl ?_ (by rw [hsub];simp [e7];omega) ?_ ?_
 ·show S.c (.ptr 1 0 0)=S.c (.ptr _ 0 0)
  rw [g1 0 (by omega)]
 ·intro i k hk
  have hi:i<(g8 s).length+6:=by rw [← hlen];exact (lbe.1 hk).1
  rw [g1 i hi]
  rcases i with _|_|_|_|_|_|i
  ·injection hk with hk;subst hk
   refine ⟨_,rfl,rfl,rfl,rfl,rfl,?_⟩
   simp only [a8k,List.map_cons,List.map_nil,a2b,Z8]
   rw [g1 1 (by omega),g1 2 (by omega),g1 3 (by omega),g1 4 (by omega),g1 5 (by omega)]
  ·injection hk with hk;subst hk
   refine ⟨_,rfl,rfl,rfl,rfl,rfl,?_⟩
   unfold a8k
   show S3 7 _ _ _=(S3 6 _ _ _).map _
   unfold S3
   rw [List.map_map]
   refine lbp fun j hj=>?_
   have hj:=lbB.1 hj
   show _=a2b _ ((s9 (fz ((k6 s g).V j))).map C.t++[C.own (j+6) 0 n true])
   rw [b9L]
   simp only [a2b,Z8]
   rw [g1 (j+6) (by omega)]
   rfl
  ·injection hk with hk;subst hk;exact ⟨_,rfl,E4 rfl⟩
  ·injection hk with hk;subst hk;exact ⟨_,rfl,E4 rfl⟩
  ·injection hk with hk;subst hk;exact ⟨_,rfl,E4 rfl⟩
  ·injection hk with hk;subst hk;exact ⟨_,rfl,E4 rfl⟩
  ·have hk:((mF (g8 s).length n (k6 s g).A).map flB)[i]? =some k:=hk
   refine ⟨k,hk,?_⟩
   obtain ⟨l,_,rfl⟩:=lbx.1 (lbm hk)
   exact E4 rfl
 ·intro j hj _
  have:j=0:=by simpa using hj
  subst this;rfl
def fS (m:Nat):Nat->Nat:=fun i=>if i<m+6 then i+1 else 0
theorem a7w {m n:Nat} {fr:List (Nat × Bool)} {D:Fd} {b:Blk} {env env':Env} {H:Hp} (hb:L8 b.rows) (hH:H=b9z m n fr D b) (hE:a19 (fR (m+7) (fS m)) H env env'):
 Ent 0 (fR (m+7) (fS m)) env H env' (L3 m n fr D.V D.G D.O D.F D.A [b]):=by
 subst hH
 have fa:∀i,i<m+6->fS m i=i+1:=fun i hi=>by unfold fS;rw [if_pos hi]
 refine aX3 (by simp [e7]) (by omega) (fun i hi=>by omega) (fun i j hi hj h=>by unfold fS at h;(repeat' split at h)<;>omega) ?_ hE
 intro i k' hk
 rcases i with _|_|_|_|_|_|i
 ·injection hk with hk;subst hk
  rw [fa 0 (by omega)]
  exact ⟨_,rfl,rfl,rfl,rfl,.inr ⟨⟨rfl,⟨by rw [C1 (by omega),fa _ (by omega)],rfl,rfl,fun h=>h⟩,⟨by rw [C1 (by omega),fa _ (by omega)],rfl,rfl,fun h=>h⟩,⟨by rw [C1 (by omega),fa _ (by omega)],rfl,rfl,fun h=>h⟩,⟨by rw [C1 (by omega),fa _ (by omega)],rfl,rfl,fun h=>h⟩,⟨by rw [C1 (by omega),fa _ (by omega)],rfl,rfl,fun h=>h⟩,trivial⟩,trivial⟩⟩
 ·injection hk with hk;subst hk
  rw [fa 1 (by omega)]
  refine ⟨_,rfl,a26 (h:=fun i=>i+7) (h':=fun i=>i+6) fun j hj=>?_⟩
  rw [C1 (by omega),fa _ (by omega)]
 ·injection hk with hk;subst hk;rw [fa 2 (by omega)];exact ⟨_,rfl,m6 (i8 _)⟩
 ·injection hk with hk;subst hk;rw [fa 3 (by omega)];exact ⟨_,rfl,m6 (i8 _)⟩
 ·injection hk with hk;subst hk;rw [fa 4 (by omega)];exact ⟨_,rfl,m6 (i8 _)⟩
 ·injection hk with hk;subst hk;rw [fa 5 (by omega)];exact ⟨_,rfl,m6 (i8 _)⟩
 ·have hk:((mF m n D.A).map flB++[b])[i]? =some k':=hk
  by_cases hi:i<m
  ·rw [L9 (Q8 hi)] at hk
   injection hk with hk;subst hk
   rw [fa _ (by omega)]
   refine ⟨flB (rF n (D.A i)),?_,m6 (i8 _)⟩
   show ((mF m n D.A).map flB)[i]? =_
   rw [lba,Q8 hi];rfl
  ·obtain ⟨t,rfl⟩:∃t,i=m+t:=⟨i - m,by omega⟩
   rw [a1Q (e7 _ _ _)] at hk
   rcases t with _|t
   ·injection hk with hk;subst hk
    have:fS m (m+0+6)=0:=by unfold fS;rw [if_neg (by omega)]
    rw [this]
    exact ⟨_,rfl,m6 hb⟩
   ·simp at hk
theorem a5H {m n:Nat} {fr:List (Nat × Bool)} {D E:Fd} {r:S} (X:Hp) (hr:av2 r=true) (hr':r.isT=true) (h:b9 Tryz.prog 219 [.c (.ptr 0 0 0)] (a0i m n fr D) r (a0i m n fr E)):
 b9 Tryz.prog 219 [.c (.ptr 0 0 0)] (L3 m n fr D.V D.G D.O D.F D.A X) r (L3 m n fr E.V E.G E.O E.F E.A X):=by
 have hl:∀{D:Fd},∀k ∈ a0i m n fr D,k.mode=.live∧k.app=false:=by
  intro D k hk
  simp only [lbA] at hk
  rcases hk with rfl|rfl|rfl|rfl|rfl|rfl|hk
  ·exact ⟨rfl,rfl⟩
  ·exact ⟨rfl,rfl⟩
  ·exact ⟨rfl,rfl⟩
  ·exact ⟨rfl,rfl⟩
  ·exact ⟨rfl,rfl⟩
  ·exact ⟨rfl,rfl⟩
  ·obtain ⟨l,_,rfl⟩:=lbx.1 hk
   exact ⟨rfl,rfl⟩
 exact a97 (n:=m+6) X h a39 a39 (by simp [okS,okC,Nat.blt_eq]) (fun k hk=>⟨(hl k hk).1,(hl k hk).2,a7x k hk⟩) (fun k hk=>⟨(by rw [(hl k hk).1];intro h;cases h),a7x k hk⟩) hr hr'
theorem aO7 (l:List (Int × Rat)) (z:List Rat) (hl:l.length<=1000000) (h1:∀t ∈ l,rl t.2<=20000) (h2:∀v ∈ z,rl v<=40000) (hS:∀k,rl (n7 (l.take k) z)<=60000) (hz:z.length<=1000000) (hr:k7 (-1) z.length l=true):
 b9 Tryz.prog 208 [w6 l,G3 (z.map fz)] [] (frS (fz (n7 l z))) []:=by
 have m1:(l.map H9).length=l.length:=by simp
 have m2:((z.map fz).map s9).length=z.length:=by simp
 have i0:=I3 0 (by decide) (by decide)
 (refine ac Tryz.func208 ?_;(conv=>whnf);repeat ((first|refine b0x ?_|refine zy ?_);conv=>whnf))
 repeat' (first|refine zx ?_|refine qp i0 ?_|refine zd ?_ ?_<;>intro h<;>try omega|fail)<;>conv=>whnf
 refine j7 g6 (fun k=>([J,G3 (z.map fz),J,J,S.c (C.ptr 0 0 0),S.c (C.ptr 1 0 0),J,J,J,J,J,w6 l,b7 .i64 l.length,b7 .i64 k]++Jn 22,[frB a2A,frB (fz (n7 (l.take k) z))])) l.length (fun _=>True) [some 0,some 1] trivial
  ⟨rfl,rfl,⟨⟨rfl,rfl,rfl,.inr ⟨⟨rfl,rfl,rfl,rfl,trivial⟩,trivial⟩⟩,⟨rfl,rfl,rfl,.inl ⟨rfl,a9V _⟩⟩,trivial⟩,⟨rfl,⟨rfl,rfl,rfl⟩,⟨rfl,rfl,rfl⟩,rfl,e8 (by simp),rfl,trivial⟩⟩ ?_
 intro k hk _
 by_cases hlt:k<l.length
 ·obtain ⟨t,ht⟩:∃t,l[k]? =some t:=⟨_,lbf hlt⟩
  obtain ⟨v,c⟩:=t
  have hv:=au0 hr _ (lbm ht)
  simp only at hv
  have bc:=h1 _ (lbm ht)
  simp only at bc
  obtain ⟨x,hx⟩:∃x,z[v.toNat]? =some x:=⟨_,lbf (by omega)⟩
  have hxd:z.getD v.toNat 0=x:=by rw [lbl,hx];rfl
  have bx:=h2 x (lbm hx)
  have b3:=b0g c x
  have bs:=hS k
  have mu:=b07 c x (by omega) (by omega)
  have ad:=a5f (n7 (l.take k) z) (c*x) (by omega) (by omega)
  have e:n7 (l.take k) z+c*x=n7 (l.take (k+1)) z:=by
   have:l.take (k+1)=l.take k++[(v,c)]:=by rw [lbG,ht];rfl
   rw [this,Q6,←hxd]
  rw [e] at ad
  have xz:(z.map fz)[v.toNat]? =some (fz x):=by rw [lba,hx];rfl
  conv=>whnf
  repeat' (first|refine zx ?_|refine qp mu ?_|refine qp ad ?_|refine qp 10 ?_|refine qp 5 ?_|refine i3 ht ?_|refine M8 (by omega) xz ?_|refine bl0 [10] ?_|refine bl0 [5] ?_|refine zd ?_ ?_<;>intro h<;>try omega|fail)<;>conv=>whnf
  all_goals first
   |omega
   |exact ⟨hlt,trivial,[some 0,some 1],rfl,rfl,⟨⟨rfl,rfl,rfl,.inl ⟨rfl,a9V _⟩⟩,⟨rfl,rfl,rfl,.inl ⟨rfl,a9V _⟩⟩,trivial⟩,⟨rfl,⟨rfl,rfl,rfl⟩,⟨rfl,rfl,rfl⟩,rfl,rfl,rfl,trivial⟩⟩
 ·have hke:k=l.length:=by omega
  subst hke
  rw [lbn (lbQ _)]
  conv=>whnf
  repeat' (first|refine zx ?_|refine zd ?_ ?_<;>intro h<;>try omega|fail)<;>conv=>whnf
  all_goals first
   |omega
   |exact bi9 rfl
theorem as3 (z:List Rat):(z.map fz).all N2=true:=by
 rw [lbv];intro f hf
 obtain ⟨x,_,rfl⟩:=lbx.1 hf
 exact aa6 x
theorem b5Y (l:List (Int × Rat)) (z:List Rat) (hl:l.length<=1000000) (h1:∀t ∈ l,rl t.2<=200) (h2:∀v ∈ z,rl v<=40000) (hS:∀k,rl (n7 (l.take k) z)<=60000) (hz:z.length<=1000000) (hr:k7 (-1) z.length l=true):
 b9 Tryz.prog 151 [w6 l,G3 (z.map fz)] [] (.tup [frS (fz (n7 l z)),j0 true]) []:=by
 have m2:((z.map fz).map s9).length=z.length:=by simp
 have rt:=U5 l z.length hl h1
 rw [lbH (by omega),hr] at rt
 have pt:=b1K (z.map fz) (by simpa using hz) (fun f hf=>by
  obtain ⟨x,hx,rfl⟩:=lbx.1 hf
  have:=h2 x hx
  have a:=V7 x
  have b:=V9 x
  exact ⟨by show bl x.num<=_;omega,by show bl x.den<=_;omega⟩)
 rw [as3] at pt
 have va:=aO7 l z hl (fun t ht=>by have:=h1 t ht;omega) h2 hS hz hr
 have rt2:b9 Tryz.prog 153 [w6 l,b7 .i64 (((z.map fz).map s9).length:Nat)] [] (j0 (true && true)) []:=by rw [m2];exact rt
 (refine ac Tryz.func151 ?_;(conv=>whnf);repeat ((first|refine b0x ?_|refine zy ?_);conv=>whnf))
 repeat' (first|refine zx ?_|refine qp rt2 ?_|refine qp pt ?_|refine qp va ?_|refine zd ?_ ?_<;>intro h<;>try omega|fail)<;>conv=>whnf
 all_goals first
  |(exfalso;simp_all;done)
  |exact s7 ⟨⟨rfl,rfl,rfl,rfl,trivial⟩,rfl,trivial⟩
structure E8 (s:l9) (g:List (Int × Rat)) (n B:Nat):Prop where
 o:b8W s g n
 sb:b4b s
 gb:∀t ∈ g,rl t.2<=200
 bd:∀D,V8 (g8 s).length n (k6 s g) D->BdD (g8 s).length n B D
 b1:1<=B
 bn:(n+3)*(B+2)<=50000
 r:s.rows.length<=1000
theorem E8.nn {s:l9} {g:List (Int × Rat)} {n B:Nat} (h:E8 s g n B):s.n.toNat=n:=by have:=h.o.en;omega
theorem E8.bb {s:l9} {g:List (Int × Rat)} {n B:Nat} (h:E8 s g n B):B<=17000:=by
 have h1:=h.bn
 have:(n+3)*(B+2)=n*(B+2)+3*(B+2):=by rw [Nat.add_mul]
 omega
theorem E8.m {s:l9} {g:List (Int × Rat)} {n B:Nat} (h:E8 s g n B):(g8 s).length<=2000:=by
 have:=a5M (s:=s) s.rows.length
 have:=h.r
 show (M4 s s.rows.length).length<=_
 omega
abbrev bO (cells:List C):Blk:={ mode:=.live,elem:=174,size:=8,rows:=[cells],box:=true }
abbrev z8:List C:=[.t (ti 0),.t (ti 0),.t (.sl 0 .nil []),.t (ti 0),.t (.sl 0 .nil []),.t (.sl 0 .nil []),.t (.sl 0 .nil []),.t (.sl 0 .nil [])]
theorem aI8:L8 (bO z8).rows:=i8 [[ti 0,ti 0,.sl 0 .nil [],ti 0,.sl 0 .nil [],.sl 0 .nil [],.sl 0 .nil [],.sl 0 .nil []]]
theorem a1j {s:l9} {g:List (Int × Rat)} {n B:Nat} (h:E8 s g n B):
 b9 Tryz.prog 219 [.c (.ptr 0 0 0)] (a0i (g8 s).length n (g8 s) (k6 s g)) (.tup [b7 .i64 (b0u (J2 s g)).1,b7 .i64 (b0u (J2 s g)).2]) (a0i (g8 s).length n (g8 s) (F9 s g)):=by
 have hn:=h.nn
 subst hn
 have hm:=h.m
 exact b5r _ _ (g8 s) (k6 s g) _ (by omega) h.o.n1 a1D (fun D hD=>by
  have hb:=h.bd D hD
  have hB:=h.bb
  exact ⟨fun i hi=>by have:=hb.v i hi;omega,fun i hi j hj=>by have:=hb.a i hi j hj;omega,fun j hj=>by have:=hb.g j hj;omega⟩)
theorem a6x {s:l9} {g:List (Int × Rat)} {n B:Nat} (h:E8 s g n B):(p7 s g).length=n:=by unfold p7;rw [aC6];exact h.nn
theorem a9a {s:l9} {g:List (Int × Rat)} {n B:Nat} (h:E8 s g n B):b9 Tryz.prog 220 [dT (g8 s).length n (g8 s) (F9 s g)] [] (G3 ((p7 s g).map fz)) []:=by
 have hn:=h.nn
 subst hn
 exact b6R _ _ _ _ X4.p (by have:=h.m;omega) h.o.n1
theorem a8G {s:l9} {g:List (Int × Rat)} {n B:Nat} (h:E8 s g n B):BdD (g8 s).length n B (F9 s g):=by
 have hn:=h.nn
 subst hn
 exact h.bd _ (a5d a1D).1
theorem az3 {s:l9} {g:List (Int × Rat)} {n B:Nat} (h:E8 s g n B) (H:Hp):Y9 Tryz.prog 223 [dT (g8 s).length n (g8 s) (F9 s g),b7 .i64 s.rows.length] H (.c (.own H.length 0 s.rows.length true)) [flB (rF s.rows.length (a2z s (F9 s g)))]:=by
 have hb:=a8G h
 have hp:Y3 (g8 s).length n (F9 s g):=by have hn:=h.nn;subst hn;exact X4.p
 refine a0C (b3X s n h.o.en (F9 s g) hp B hb.g h.b1 ?_ (by have:=h.m;omega) h.r h.o.n1) rfl rfl (i8 _)
 have:=h.bn
 have:(n+3)*(B+2)=(n+2)*(B+2)+(B+2):=by rw [show n+3=(n+2)+1 by omega,lbU]
 omega
theorem a5z {i m:Nat} (h:i<m):O3 [some m] i=true:=by
 unfold O3
 have:Nat.beq m i=false:=by
  cases hb:Nat.beq m i with
  |false=>rfl
  |true=>have:=Nat.eq_of_beq_eq_true hb;omega
 rw [this];rfl
theorem ax7 {m n:Nat} {fr:List (Nat × Bool)} {D:Fd} {env env':Env} (b:Blk) (hb:L8 b.rows) (hE:a7p [some (m+6)] (L3 m n fr D.V D.G D.O D.F D.A [b]) env env'):b7Z 0 [some (m+6)] env (L3 m n fr D.V D.G D.O D.F D.A [b]) env' [b]:=by
 refine ⟨rfl,?_,a5I rfl fun i k' hk=>?_,hE⟩
 ·simp only [S7,a54];cases b.mode<;>rfl
 ·rcases i with _|i
  ·injection hk with hk;subst hk
   exact ⟨m+6,_,rfl,a1Q (t:=0) (e7 _ _ _),m6 hb⟩
  ·simp at hk
theorem a3F (s:l9) (g:List (Int × Rat)) (n B:Nat) (h:E8 s g n B) (hout:J2 s g=.best) (hS:∀k,rl (n7 (g.take k) (p7 s g))<=60000) (hpt:∀v ∈ p7 s g,rl v<=40000):
 b9 Tryz.prog 141 [a1s s,w6 g] [] (.tup [.agg (C.t (ti 0)::frC (fz (n7 g (p7 s g)))++[.t (R0 ((p7 s g).map fz)),.own 0 0 s.rows.length true,.t (.sl 0 .nil [])]),b7 .i64 0]) [flB (rF s.rows.length (a2z s (F9 s g)))]:=by
 have hn:=h.nn
 have hm:=h.m
 have hr1:=h.r
 have hgl:=J1 h.o.tg
 have hn1:=h.o.n1
 have lr:=a7a s h.sb
 rw [h.o.r] at lr
 have rt:=U5 g s.n (by have:=h.o.n1;omega) h.gb
 rw [h.o.en,lbH (by omega),h.o.tg,←h.o.en] at rt
 have op:=a9I (bO z8) (aA5 s g n h.o)
 have se:=a1j h
 rw [hout] at se
 have m1:(s.rows.map D9).length=s.rows.length:=by simp
 have pt:=a9a h
 have va:=b5Y g (p7 s g) (by omega) h.gb hpt hS (by rw [a6x h];omega) (by rw [a6x h];exact h.o.tg)
 have pr:∀H:Hp,Y9 Tryz.prog 223 [dT (g8 s).length n (g8 s) (F9 s g),b7 .i64 ((s.rows.map D9).length:Nat)] H (.c (.own H.length 0 s.rows.length true)) [flB (rF s.rows.length (a2z s (F9 s g)))]:=by rw [m1];exact az3 h
 (refine a1I g6 Tryz.func141 rfl (by decide) ?_;refine C5 g6 ?_;(conv=>whnf);repeat ((first|refine b0x ?_|refine zy ?_);conv=>whnf))
 repeat' (first|refine zz ?_|refine b0x ?_|refine zd ?_ ?_<;>intro h<;>try omega|refine zy ?_|fail)<;>conv=>whnf
 (refine C5 g6 ?_;conv=>whnf)
 repeat' (first|refine zx ?_|refine qp lr ?_|refine qp rt ?_|refine zd ?_ ?_<;>intro h<;>try omega|fail)<;>conv=>whnf
 all_goals try (exfalso;simp_all;done)
 refine a2r g6 ([J,w6 g,S.c (C.t (T.ptr (a9l s))),J,S.c (C.ptr ((g8 s).length+6) 0 0),b7 .i64 0,S.c (C.ptr 0 0 0)]++Jn 71) (L3 (g8 s).length n (g8 s) (k6 s g).V (k6 s g).G (k6 s g).O (k6 s g).F (k6 s g).A [bO z8]) ?_ ?_
 ·conv=>whnf
  repeat' (first|refine zx ?_|refine .inr ⟨_,_,op,?_⟩|refine I2 ?_|refine zd ?_ ?_<;>intro h<;>try omega|fail)<;>conv=>whnf
  exact ⟨_,a7w aI8 rfl ⟨rfl,k9 rfl,⟨by rw [C1 (by omega)];simp [fS],rfl,rfl⟩,rfl,⟨by rw [C1 (by omega)];simp [fS],rfl,rfl⟩,trivial⟩⟩
 refine a4E g6 ([J,w6 g,S.c (C.t (T.ptr (a9l s))),J,S.c (C.ptr 0 0 0),b7 .i64 0,dT (g8 s).length n (g8 s) (F9 s g),b7 .i64 (-1),b7 .i64 (-1)]++Jn 69) [bO z8] ?_ ?_
 ·have si:=a5H [bO z8] rfl rfl se
  conv=>whnf
  repeat' (first|refine zx ?_|refine qp 4 ?_|refine .inr ⟨_,_,si,?_⟩|refine m9 ?_|refine bl0 [4] ?_|refine zd ?_ ?_<;>intro h<;>try omega|fail)<;>conv=>whnf
  exact ⟨_,ax7 (bO z8) aI8 ⟨.inl (k9 rfl),.inl (k9 rfl),.inl ⟨rfl,rfl,rfl⟩,.inl rfl,.inr (a9G fun i hi=>a5z hi),.inl rfl,.inl rfl,trivial⟩⟩
 (refine C5 g6 ?_;conv=>whnf)
 repeat' (first|refine zx ?_|refine zd ?_ ?_<;>intro h<;>try omega|fail)<;>conv=>whnf
 all_goals try omega
 (refine C5 g6 ?_;conv=>whnf)
 repeat' (first|refine zx ?_|refine zd ?_ ?_<;>intro h<;>try omega|fail)<;>conv=>whnf
 all_goals try omega
 (refine C5 g6 ?_;conv=>whnf)
 repeat' (first|refine zx ?_|refine qp pt ?_|refine zd ?_ ?_<;>intro h<;>try omega|fail)<;>conv=>whnf
 (refine C5 g6 ?_;conv=>whnf)
 repeat' (first|refine zx ?_|refine qp va ?_|refine qp 4 ?_|refine qp 5 ?_|refine bl0 [4] ?_|refine bl0 [5] ?_|refine zd ?_ ?_<;>intro h<;>try omega|fail)<;>conv=>whnf
 (refine C5 g6 ?_;conv=>whnf)
 repeat' (first|refine zx ?_|refine .inl ⟨_,_,pr _,?_⟩|refine zd ?_ ?_<;>intro h<;>try omega|fail)<;>conv=>whnf
 refine y3 g6 _ ?_
 conv=>whnf
 repeat' (first|refine zx ?_|refine zd ?_ ?_<;>intro h<;>try omega|fail)<;>conv=>whnf
 exact ⟨[some 2],rfl,rfl,⟨m6 (i8 _),trivial⟩,⟨⟨rfl,rfl,rfl,rfl,rfl,rfl,⟨rfl,rfl,rfl,fun h=>h⟩,rfl,trivial⟩,rfl,trivial⟩⟩
theorem aa2 {P:Program} {g:FuncId} {args args':List S} {H H':Hp} {r:S} (h:b9 P g args' H r H') (hl:args.length=args'.length)
 (hw:∀(w:World) (ι:Io) (M:Ms) (j:Nat) (s s':S) (v:Value),args[j]? =some s->args'[j]? =some s'->RS w ι M s v->RS w ι M s' v):b9 P g args H r H':=by
 refine ⟨h.1,fun w ι M vals hl2 hv hH hM hf=>h.2 w ι M vals (by omega) (fun j s' hj=>?_) hH hM hf⟩
 have hlt:=(lbe.1 hj).1
 exact hw w ι M j _ s' _ (lbf (by omega)) hj (hv j _ (lbf (by omega)))
theorem b54 {s:l9} {n:Nat} (b:Blk) (h:b9 Tryz.prog 218 [a1s s,w6 []] [] (.c (.ptr 0 0 0)) (a0i (g8 s).length n (g8 s) (k6 s []))):
 b9 Tryz.prog 218 [a1s s,.c (.t (.sl 0 .nil []))] [b] (.c (.ptr 1 0 0)) (b9z (g8 s).length n (g8 s) (k6 s []) b):=by
 refine aa2 (a9I b h) rfl fun w ι M j x y v hx hy hr=>?_
 rcases j with _|_|j
 ·injection hx with hx;injection hy with hy;subst hx hy;exact hr
 ·injection hx with hx;injection hy with hy;subst hx hy
  cases hr with
  |c hr=>cases hr with
   |t hr=>exact .c (.t (hr.weak rfl))
 ·simp at hx
theorem a8s {s:l9} {g:List (Int × Rat)} {n B r:Nat} (h:E8 s g n B) (hr:r<(g8 s).length) (H:Hp):Y9 Tryz.prog 222 [dT (g8 s).length n (g8 s) (F9 s g),b7 .i64 s.rows.length,b7 .i64 r] H (.c (.own H.length 0 s.rows.length true)) [flB (rF s.rows.length (a91 s (F9 s g) r))]:=by
 have hb:=a8G h
 have hp:Y3 (g8 s).length n (F9 s g):=by have hn:=h.nn;subst hn;exact X4.p
 exact a0C (aA3 s n r h.o.en (F9 s g) hp hr B (hb.a r hr) h.b1 h.bn (by have:=h.m;omega) h.r h.o.n1) rfl rfl (i8 _)
theorem b3O {s:l9} {g:List (Int × Rat)} {n B c:Nat} (h:E8 s g n B) (hc:c<n):b9 Tryz.prog 221 [dT (g8 s).length n (g8 s) (F9 s g),b7 .i64 c] [] (G3 ((a9n s g c).map fz)) []:=by
 have hb:=a8G h
 have hB:=h.bb
 have hn:=h.nn
 subst hn
 exact b9T _ _ _ _ c hc X4.p (by have:=h.m;omega) h.o.n1 (fun i hi=>by have:=hb.a i hi c hc;omega)
abbrev bc3:List C:=frC a2A
theorem aJ4 (s:l9) (g:List (Int × Rat)) (n B r:Nat) (h:E8 s g n B) (hout:J2 s g=.row r):
 b9 Tryz.prog 141 [a1s s,w6 g] [] (.tup [.agg (C.t (ti 1)::bc3++[.t (.sl 0 .nil []),.own 0 0 s.rows.length true,.t (.sl 0 .nil [])]),b7 .i64 0]) [flB (rF s.rows.length (a91 s (F9 s g) r))]:=by
 have hn:=h.nn
 have hm:=h.m
 have hr1:=h.r
 have hgl:=J1 h.o.tg
 have hn1:=h.o.n1
 have hrm:r<(g8 s).length:=by have:=(aS4 hout).1;exact this
 have lr:=a7a s h.sb
 rw [h.o.r] at lr
 have rt:=U5 g s.n (by have:=h.o.n1;omega) h.gb
 rw [h.o.en,lbH (by omega),h.o.tg,←h.o.en] at rt
 have op:=a9I (bO z8) (aA5 s g n h.o)
 have se:=a1j h
 rw [hout] at se
 have m1:(s.rows.map D9).length=s.rows.length:=by simp
 have rf:∀H:Hp,Y9 Tryz.prog 222 [dT (g8 s).length n (g8 s) (F9 s g),b7 .i64 ((s.rows.map D9).length:Nat),b7 .i64 r] H (.c (.own H.length 0 s.rows.length true)) [flB (rF s.rows.length (a91 s (F9 s g) r))]:=by rw [m1];exact a8s h hrm
 (refine a1I g6 Tryz.func141 rfl (by decide) ?_;refine C5 g6 ?_;(conv=>whnf);repeat ((first|refine b0x ?_|refine zy ?_);conv=>whnf))
 repeat' (first|refine zz ?_|refine b0x ?_|refine zd ?_ ?_<;>intro h<;>try omega|refine zy ?_|fail)<;>conv=>whnf
 (refine C5 g6 ?_;conv=>whnf)
 repeat' (first|refine zx ?_|refine qp lr ?_|refine qp rt ?_|refine zd ?_ ?_<;>intro h<;>try omega|fail)<;>conv=>whnf
 all_goals try (exfalso;simp_all;done)
 refine a2r g6 ([J,w6 g,S.c (C.t (T.ptr (a9l s))),J,S.c (C.ptr ((g8 s).length+6) 0 0),b7 .i64 0,S.c (C.ptr 0 0 0)]++Jn 71) (L3 (g8 s).length n (g8 s) (k6 s g).V (k6 s g).G (k6 s g).O (k6 s g).F (k6 s g).A [bO z8]) ?_ ?_
 ·conv=>whnf
  repeat' (first|refine zx ?_|refine .inr ⟨_,_,op,?_⟩|refine I2 ?_|refine zd ?_ ?_<;>intro h<;>try omega|fail)<;>conv=>whnf
  exact ⟨_,a7w aI8 rfl ⟨rfl,k9 rfl,⟨by rw [C1 (by omega)];simp [fS],rfl,rfl⟩,rfl,⟨by rw [C1 (by omega)];simp [fS],rfl,rfl⟩,trivial⟩⟩
 refine a4E g6 ([J,w6 g,S.c (C.t (T.ptr (a9l s))),J,S.c (C.ptr 0 0 0),b7 .i64 0,dT (g8 s).length n (g8 s) (F9 s g),b7 .i64 r,b7 .i64 (-1)]++Jn 69) [bO z8] ?_ ?_
 ·have si:=a5H [bO z8] rfl rfl se
  conv=>whnf
  repeat' (first|refine zx ?_|refine qp 4 ?_|refine .inr ⟨_,_,si,?_⟩|refine m9 ?_|refine bl0 [4] ?_|refine zd ?_ ?_<;>intro h<;>try omega|fail)<;>conv=>whnf
  exact ⟨_,ax7 (bO z8) aI8 ⟨.inl (k9 rfl),.inl (k9 rfl),.inl ⟨rfl,rfl,rfl⟩,.inl rfl,.inr (a9G fun i hi=>a5z hi),.inl rfl,.inl rfl,trivial⟩⟩
 (refine C5 g6 ?_;conv=>whnf)
 repeat' (first|refine zx ?_|refine zd ?_ ?_<;>intro h<;>try omega|fail)<;>conv=>whnf
 all_goals try omega
 (refine C5 g6 ?_;conv=>whnf)
 repeat' (first|refine zx ?_|refine .inl ⟨_,_,rf _,?_⟩|refine zd ?_ ?_<;>intro h<;>try omega|fail)<;>conv=>whnf
 all_goals first
  |omega
  |exact ⟨[some 1],rfl,rfl,⟨m6 (i8 _),trivial⟩,⟨⟨rfl,rfl,rfl,rfl,rfl,rfl,⟨rfl,rfl,rfl,fun h=>h⟩,rfl,trivial⟩,rfl,trivial⟩⟩
theorem b2C {P:Program} {n0:Nat} {c:Operand} {t e:Code} {env:Env} {H:Hp} {Q:AX->Env->Hp->Prop} (hb:I7 env c=j0 true) (h:Awp P n0 t env H Q):Awp P n0 (.cond c t e) env H Q:=b3h hb h
theorem aA4 (s:l9) (g:List (Int × Rat)) (n B B0 c:Nat) (h:E8 s g n B) (h0:E8 s [] n B0) (hout:J2 s g=.col c) (hout0:J2 s []=.best):
 b9 Tryz.prog 141 [a1s s,w6 g] [] (.tup [.agg (C.t (ti 2)::bc3++[.t (R0 ((p7 s []).map fz)),.t (.sl 0 .nil []),.t (R0 ((a9n s g c).map fz))]),b7 .i64 0]) []:=by
 have hn:=h.nn
 have hm:=h.m
 have hr1:=h.r
 have hgl:=J1 h.o.tg
 have hn1:=h.o.n1
 have hcn:c<n:=by have:=(al2 hout).1;omega
 have lr:=a7a s h.sb
 rw [h.o.r] at lr
 have rt:=U5 g s.n (by have:=h.o.n1;omega) h.gb
 rw [h.o.en,lbH (by omega),h.o.tg,←h.o.en] at rt
 have op:=a9I (bO z8) (aA5 s g n h.o)
 have se:=a1j h
 rw [hout] at se
 have op0:=b54 (bO z8) (aA5 s [] n h0.o)
 have se0:=a1j h0
 rw [hout0] at se0
 have m1:(s.rows.map D9).length=s.rows.length:=by simp
 have pt:=a9a h0
 have ra:=b3O h hcn
 (refine a1I g6 Tryz.func141 rfl (by decide) ?_;refine C5 g6 ?_;(conv=>whnf);repeat ((first|refine b0x ?_|refine zy ?_);conv=>whnf))
 repeat' (first|refine zz ?_|refine b0x ?_|refine zd ?_ ?_<;>intro h<;>try omega|refine zy ?_|fail)<;>conv=>whnf
 (refine C5 g6 ?_;conv=>whnf)
 repeat' (first|refine zx ?_|refine qp lr ?_|refine qp rt ?_|refine zd ?_ ?_<;>intro h<;>try omega|fail)<;>conv=>whnf
 all_goals try (exfalso;simp_all;done)
 refine a2r g6 ([J,w6 g,S.c (C.t (T.ptr (a9l s))),J,S.c (C.ptr ((g8 s).length+6) 0 0),b7 .i64 0,S.c (C.ptr 0 0 0)]++Jn 71) (L3 (g8 s).length n (g8 s) (k6 s g).V (k6 s g).G (k6 s g).O (k6 s g).F (k6 s g).A [bO z8]) ?_ ?_
 ·conv=>whnf
  repeat' (first|refine zx ?_|refine .inr ⟨_,_,op,?_⟩|refine I2 ?_|refine zd ?_ ?_<;>intro h<;>try omega|fail)<;>conv=>whnf
  exact ⟨_,a7w aI8 rfl ⟨rfl,k9 rfl,⟨by rw [C1 (by omega)];simp [fS],rfl,rfl⟩,rfl,⟨by rw [C1 (by omega)];simp [fS],rfl,rfl⟩,trivial⟩⟩
 refine a4E g6 ([J,w6 g,S.c (C.t (T.ptr (a9l s))),J,S.c (C.ptr 0 0 0),b7 .i64 0,dT (g8 s).length n (g8 s) (F9 s g),b7 .i64 (-1),b7 .i64 c]++Jn 69) [bO z8] ?_ ?_
 ·have si:=a5H [bO z8] rfl rfl se
  conv=>whnf
  repeat' (first|refine zx ?_|refine qp 4 ?_|refine .inr ⟨_,_,si,?_⟩|refine m9 ?_|refine bl0 [4] ?_|refine zd ?_ ?_<;>intro h<;>try omega|fail)<;>conv=>whnf
  exact ⟨_,ax7 (bO z8) aI8 ⟨.inl (k9 rfl),.inl (k9 rfl),.inl ⟨rfl,rfl,rfl⟩,.inl rfl,.inr (a9G fun i hi=>a5z hi),.inl rfl,.inl rfl,trivial⟩⟩
 refine aN3 ?_
 refine C5 g6 ?_
 conv=>whnf
 repeat' (first|refine zx ?_|refine zd ?_ ?_<;>intro h<;>try omega|fail)<;>conv=>whnf
 all_goals try omega
 refine b2C rfl ?_
 refine a2r g6 ([J,w6 g,S.c (C.t (T.ptr (a9l s))),J,S.c (C.ptr ((g8 s).length+6) 0 0),b7 .i64 0,dT (g8 s).length n (g8 s) (F9 s g),b7 .i64 (-1),b7 .i64 c,S.c (C.ptr 0 0 0)]++Jn 68) (L3 (g8 s).length n (g8 s) (k6 s []).V (k6 s []).G (k6 s []).O (k6 s []).F (k6 s []).A [bO z8]) ?_ ?_
 ·conv=>whnf
  repeat' (first|refine zx ?_|refine .inr ⟨_,_,op0,?_⟩|refine I2 ?_|refine zd ?_ ?_<;>intro h<;>try omega|fail)<;>conv=>whnf
  exact ⟨_,a7w aI8 rfl ⟨rfl,k9 rfl,⟨by rw [C1 (by omega)];simp [fS],rfl,rfl⟩,rfl,k9 rfl,rfl,rfl,⟨by rw [C1 (by omega)];simp [fS],rfl,rfl⟩,trivial⟩⟩
 refine a4E g6 ([J,w6 g,S.c (C.t (T.ptr (a9l s))),J,S.c (C.ptr 0 0 0),b7 .i64 0,dT (g8 s).length n (g8 s) (F9 s g),b7 .i64 (-1),b7 .i64 c,dT (g8 s).length n (g8 s) (F9 s []),b7 .i64 (-1),b7 .i64 (-1)]++Jn 66) [bO z8] ?_ ?_
 ·have si:=a5H [bO z8] rfl rfl se0
  conv=>whnf
  repeat' (first|refine zx ?_|refine qp 4 ?_|refine .inr ⟨_,_,si,?_⟩|refine m9 ?_|refine bl0 [4] ?_|refine zd ?_ ?_<;>intro h<;>try omega|fail)<;>conv=>whnf
  exact ⟨_,ax7 (bO z8) aI8 ⟨.inl (k9 rfl),.inl (k9 rfl),.inl ⟨rfl,rfl,rfl⟩,.inl rfl,.inl (k9 rfl),.inl rfl,.inl rfl,.inr (a9G fun i hi=>a5z hi),.inl rfl,.inl rfl,trivial⟩⟩
 refine y3 g6 _ ?_
 conv=>whnf
 repeat' (first|refine zx ?_|refine qp pt ?_|refine qp ra ?_|refine zd ?_ ?_<;>intro h<;>try omega|fail)<;>conv=>whnf
 all_goals first
  |omega
  |exact ⟨[],rfl,rfl,trivial,⟨⟨rfl,rfl,rfl,rfl,rfl,rfl,rfl,rfl,trivial⟩,rfl,trivial⟩⟩
theorem b8f (e:Ev) (hs:e.Sized) (n:Int) (g:FuncId) (caps:List T) (q:t4->Bool) (hg:∀(k:Nat) (m:t4),e.moves[k]? =some m->J4 e=0->b9 Tryz.prog g (b2q m::caps.map fun x=>.c (.t x)) [] (j0 (q m)) []):
 b9 Tryz.prog 144 [evS e,b7 .i64 n,.c (.t (.fn (.func g) caps))] [] (i7 (if J4 e=0 then m7 (fun k m=>decide ((k:Int)<n) && q m) 0 e.moves else [])) []:=by
 have l1:=hs.s2
 have l2:(e.moves.map t4.row).length=e.moves.length:=by simp
 (refine ac Tryz.func144 ?_;(conv=>whnf);repeat (refine zy ?_;conv=>whnf))
 repeat' (first|refine zx ?_|refine qp (b24 _ hs) ?_|refine zd ?_ ?_<;>intro h<;>try omega|fail)<;>conv=>whnf
 ·refine s7 ?_
  rw [if_neg h]
  exact rfl
 have h0:J4 e=0:=by omega
 rw [if_pos h0]
 let P:Nat->t4->Bool:=fun k m=>decide ((k:Int)<n) && q m
 refine j7 g6 (fun k=>([J,b7 .i64 n,S.c (C.t (T.fn (.func g) caps)),S.c (C.ptr 0 0 0),J,J,J,Z7 1 (D8 P e.moves k),J,J,J,J,J,J,S.c (C.t (a2P e.moves)),b7 .i64 e.moves.length,b7 .i64 k]++Jn 18,[evB e,t8 (D8 P e.moves k)])) e.moves.length (fun k=>True) [some 0,none] trivial
  ⟨rfl,rfl,⟨⟨rfl,rfl,rfl,.inl ⟨rfl,k8 e⟩⟩,⟨rfl,rfl⟩,trivial⟩,⟨rfl,rfl,⟨rfl,rfl,rfl⟩,⟨rfl,rfl,rfl⟩,k9 rfl,e8 (by simp),e8 rfl,trivial⟩⟩ ?_
 intro k hk hI
 conv=>whnf
 repeat' (first|refine zx ?_|refine zd ?_ ?_<;>intro h<;>try omega|fail)<;>conv=>whnf
 ·have hlt:k<e.moves.length:=by omega
  obtain ⟨x,hx⟩:∃x,e.moves[k]? =some x:=⟨_,lbf hlt⟩
  refine i3 hx ?_
  conv=>whnf
  have hpl:=a2C P e.moves k
  have ha:(b2q x::caps.map fun x=>S.c (C.t x)).all S.isT=true:=by simp [S.isT,C.isT,t4.cs,t4.row]
  repeat' (first|refine zx ?_|refine qp toC ?_|refine qp toC ?_|refine .inl ⟨_,_,E9 (hg k x hx h0) ha rfl,?_⟩|refine zz ?_|refine D5 (by simp [toC]) (by simp [toC];omega) ?_|refine zd ?_ ?_<;>intro h<;>try omega|fail)<;>conv=>whnf
  ·have hP:P k x=true:=by simp [P,h];omega
   refine ⟨hlt,trivial,[some 0,some 3],rfl,rfl,⟨⟨rfl,rfl,rfl,.inl ⟨rfl,k8 e⟩⟩,b8 rfl rfl rfl ?_ rfl,trivial⟩,⟨rfl,rfl,⟨rfl,rfl,rfl⟩,m8 rfl ?_,rfl,rfl,rfl,trivial⟩⟩
   ·rw [a20 P hx hP,lbC]
    exact (congrArg (fun n=>List.take n (toC ((D8 P e.moves k).map g9))++toC [[ti k]]) (by simp)).trans a7t
   ·rw [a20 P hx hP];simp [toC]
  all_goals
   have hP:P k x=false:=by simp [P];first|(intro hq;omega)|(intro _;assumption)
   refine ⟨hlt,trivial,[some 0,some 1],rfl,rfl,⟨⟨rfl,rfl,rfl,.inl ⟨rfl,k8 e⟩⟩,b8 rfl rfl rfl ?_ rfl,trivial⟩,⟨rfl,rfl,⟨rfl,rfl,rfl⟩,m8 rfl ?_,rfl,rfl,rfl,trivial⟩⟩
   ·rw [Z0 P hx hP]
   ·rw [Z0 P hx hP]
 ·have hk':m7 P 0 e.moves=D8 P e.moves k:=(a6m P (by omega)).symm
  show Fin 0 _ _ (i7 (m7 P 0 e.moves)) []
  rw [hk']
  exact R3 rfl (by intro h;cases h) rfl rfl (by simp)
abbrev a4U (n:Int):T:=.ptr [ti n]
theorem b2F (e:Ev) (hs:e.Sized) (h0:J4 e=0) (m:t4) (hm:m ∈ e.moves) (hh mat lo hi:Int):
 b9 Tryz.prog 145 (b2q m::[T.ptr (evT e),a4U hh,a4U mat,a4U lo,a4U hi].map fun x=>.c (.t x)) [] (j0 (aj4 e hh mat lo hi m)) []:=by
 have l1:=hs.s1
 have l2:(e.places.map a0b.row).length=e.places.length:=by simp
 have hmk:=K6 h0 hm
 have h1:=Y2 hmk
 obtain ⟨x,hx⟩:∃x,e.places[m.src.toNat]? =some x:=⟨_,lbf (by omega)⟩
 (refine ac Tryz.func145 ?_;(conv=>whnf);repeat (refine zy ?_;conv=>whnf))
 repeat' (first|refine zx ?_|refine qp (a3g _ _ _) ?_|refine M8 h1.1 hx ?_|refine zd ?_ ?_<;>intro h<;>try omega|fail)<;>conv=>whnf
 all_goals (refine i4 ?_;unfold aj4;rw [hx];simp_all;done)
theorem b0N (e:Ev) (hs:e.Sized) (hh mat lo hi:Int):b9 Tryz.prog 78 [evS e,b7 .i64 hh,b7 .i64 mat,b7 .i64 lo,b7 .i64 hi] [] (i7 (Q2 e hh mat lo hi)) []:=by
 have l1:=hs.s2
 have l2:(e.moves.map t4.row).length=e.moves.length:=by simp
 (refine ac Tryz.func78 ?_;(conv=>whnf);repeat (refine zy ?_;conv=>whnf))
 refine .inr ⟨_,_,E7 [0,1,2,3,4] (b8f e hs (e.moves.map t4.row).length 145 [T.ptr (evT e),a4U hh,a4U mat,a4U lo,a4U hi] (aj4 e hh mat lo hi) fun k m hm h0=>b2F e hs h0 m (lbm hm) hh mat lo hi)
  ⟨bk8 e,b3T,a2N (bk0 ?_),trivial⟩ rfl,?_⟩
 ·refine a5o (ac7 (by simp) rfl (by intro h;cases h) rfl rfl) (a5o (ac7 (by simp) rfl (by intro h;cases h) rfl rfl) (a5o (ac7 (by simp) rfl (by intro h;cases h) rfl rfl) (a5o (ac7 (by simp) rfl (by intro h;cases h) rfl rfl) (a5o (ac7 (by simp) rfl (by intro h;cases h) rfl rfl) b6X))))
 conv=>whnf
 repeat' (first|refine zx ?_|refine zd ?_ ?_<;>intro h<;>try omega|fail)<;>conv=>whnf
 refine s7 ?_
 have:(if J4 e=0 then m7 (fun k m=>decide ((k:Int)<(e.moves.map t4.row).length) && aj4 e hh mat lo hi m) 0 e.moves else [])=Q2 e hh mat lo hi:=by
  unfold Q2
  split
  ·refine ac2 _ e.moves.length (fun k m hk=>?_) 0 (by omega)
   simp;intro _;omega
  ·rfl
 rw [← this]
 exact rfl
def aP5 (A:Nat->List T) (g:Nat->List Int) (B:Nat->List T) (id:Nat) (i:Nat):List C:=(A i).map .t++.own id 0 (g i).length true::(B i).map .t
def a3d (n:Nat) (A:Nat->List T) (g:Nat->List Int) (B:Nat->List T):List (List C):=(List.range n).map fun i=>aP5 A g B (i+1) i
def b9K (el:TypeId) (size n:Nat) (A:Nat->List T) (g:Nat->List Int) (B:Nat->List T):Blk:={ mode:=.live,elem:=el,size:=size,rows:=a3d n A g B,box:=false }
def a00 (el:TypeId) (size n:Nat) (A:Nat->List T) (g:Nat->List Int) (B:Nat->List T):Hp:=b9K el size n A g B::(List.range n).map fun i=>t8 (g i)
theorem a0M {n:Nat} {A:Nat->List T} {g:Nat->List Int} {B:Nat->List T}:(a3d n A g B).length=n:=by simp [a3d]
theorem a3p {n i:Nat} {A:Nat->List T} {g:Nat->List Int} {B:Nat->List T} (h:i<n):(a3d n A g B)[i]? =some (aP5 A g B (i+1) i):=by simp [a3d,h]
theorem a7T {el:TypeId} {size n:Nat} {A:Nat->List T} {g:Nat->List Int} {B:Nat->List T}:(a00 el size n A g B).length=n+1:=by simp [a00]
def a9b (n j N:Nat):List (Option Nat):=(List.range (n+1)).map fun i=>some (if i=j+1 then N else i)
theorem Z3 {n j N i:Nat} (h:i<n+1):(a9b n j N)[i]? =some (some (if i=j+1 then N else i)):=by simp [a9b,h]
theorem ax1 {n j N:Nat}:(a9b n j N).length=n+1:=by simp [a9b]
theorem Q5 {ρ:List (Option Nat)} {H:Hp}:∀l:List T,a3I ρ H (l.map C.t) (l.map C.t)
 |[]=>trivial
 |x::r=>⟨a0F x,Q5 r⟩
theorem a4q {ρ:List (Option Nat)} {H:Hp}:∀{a b c d:List C},a3I ρ H a b->a3I ρ H c d->a3I ρ H (a++c) (b++d)
 |[],[],_,_,_,h=>h
 |x::a,y::b,_,_,h1,h2=>⟨h1.1,a4q h1.2 h2⟩
 |[],_::_,_,_,h,_=>h.elim
 |_::_,[],_,_,h,_=>h.elim
theorem a5j {ρ:List (Option Nat)} {H:Hp}:∀{xs ys:List (List C)},xs.length=ys.length->(∀ (i:Nat) (x y:List C),xs[i]? =some x->ys[i]? =some y->a3I ρ H x y)->a4s ρ H xs ys
 |[],[],_,_=>trivial
 |[],_::_,h,_=>by simp at h
 |_::_,[],h,_=>by simp at h
 |x::xs,y::ys,h,hh=>⟨hh 0 x y rfl rfl,a5j (by simpa using h) fun i a b ha hb=>hh (i+1) a b (by simpa using ha) (by simpa using hb)⟩
def a4w (g:Nat->List Int) (j:Nat) (l:List Int):Nat->List Int:=fun i=>if i=j then l else g i
theorem b5h {el:TypeId} {size n j N:Nat} {A:Nat->List T} {g:Nat->List Int} {B:Nat->List T} {l:List Int} {env env':Env} {H:Hp} {k0:Blk} (hj:j<n) (hnN:n<N)
 (h0:H[0]? =some k0) (hk0:k0.mode=.live∧k0.app=false∧k0.elem=el∧k0.size=size) (hr:k0.rows=(a3d n A g B).set j ((A j).map .t++.own N 0 l.length true::(B j).map .t))
 (hm:∀m,m<n->m≠j->H[m+1]? =some (t8 (g m))) (hN:H[N]? =some (t8 l)) (hE:a19 (a9b n j N) H env env'):Ent 0 (a9b n j N) env H env' (a00 el size n A (a4w g j l) B):=by
 refine ⟨rfl,a1y fun a b m h1 h2=>?_,a5I (by rw [ax1,a7T]) fun i k' hk=>?_,hE⟩
 ·have ha:=(lbe.1 h1).1
  have hb:=(lbe.1 h2).1
  rw [ax1] at ha hb
  rw [Z3 ha] at h1
  rw [Z3 hb] at h2
  simp only [lb3] at h1 h2
  split at h1<;>split at h2<;>omega
 ·have hi:=(lbe.1 hk).1
  rw [a7T] at hi
  refine ⟨if i=j+1 then N else i,?_⟩
  cases i with
  |zero=>
   refine ⟨k0,Z3 hi,by simpa using h0,?_⟩
   simp [a00] at hk
   subst hk
   obtain ⟨q1,q2,q3,q4⟩:=hk0
   refine ⟨by unfold a2K;rw [q1,q2];rfl,q3,q4,.inr ?_⟩
   rw [hr]
   refine a5j (by rw [List.length_set,a0M];exact a0M.symm) fun a x y hx hy=>?_
   have han:a<n:=by have:=(lbe.1 hy).1;rw [show (b9K el size n A (a4w g j l) B).rows=a3d n A (a4w g j l) B from rfl,a0M] at this;exact this
   have hy:(a3d n A (a4w g j l) B)[a]? =some y:=hy
   rw [a3p han] at hy
   injection hy with hy
   subst hy
   rw [lbg,a0M] at hx
   by_cases haj:j=a
   ·subst haj
    rw [if_pos rfl,if_pos hj] at hx
    injection hx with hx
    subst hx
    unfold aP5
    have e1:a4w g j l j=l:=by simp [a4w]
    rw [e1]
    refine a4q (Q5 _) ⟨⟨?_,rfl,rfl,fun h=>h⟩,Q5 _⟩
    rw [Z3 (by omega),if_pos rfl]
   ·rw [if_neg haj,a3p han] at hx
    injection hx with hx
    subst hx
    unfold aP5
    have e1:a4w g j l a=g a:=by unfold a4w;rw [if_neg (fun h=>haj h.symm)]
    rw [e1]
    refine a4q (Q5 _) ⟨⟨?_,rfl,rfl,fun h=>h⟩,Q5 _⟩
    rw [Z3 (by omega),if_neg (by omega)]
  |succ i=>
   have hin:i<n:=by omega
   have hk:((List.range n).map fun i=>t8 (a4w g j l i))[i]? =some k':=hk
   rw [lba,lbh hin] at hk
   injection hk with hk
   subst hk
   by_cases hij:i=j
   ·subst hij
    refine ⟨t8 l,Z3 hi,by rw [if_pos rfl];exact hN,?_⟩
    have e1:a4w g i l i=l:=by simp [a4w]
    show a6G _ _ _ (t8 (a4w g i l i))
    rw [e1]
    exact ⟨rfl,rfl,rfl,.inl ⟨rfl,i8 _⟩⟩
   ·refine ⟨t8 (g i),Z3 hi,by rw [if_neg (by omega)];exact hm i hin hij,?_⟩
    have e1:a4w g j l i=g i:=by unfold a4w;rw [if_neg hij]
    show a6G _ _ _ (t8 (a4w g j l i))
    rw [e1]
    exact ⟨rfl,rfl,rfl,.inl ⟨rfl,i8 _⟩⟩
def aZ9 (id n:Nat):List (Option Nat):=some id::List.replicate n none
theorem aO3 {ρ:List (Option Nat)} {H:Hp}:∀{n:Nat} {R:List Blk},R.length=n->(∀ k ∈ R,k.rows=[]∧k.mode=.live)->a3i ρ H (List.replicate n none) R
 |0,[],_,_=>trivial
 |n+1,k::R,h,hh=>⟨hh k (by simp),aO3 (by simpa using h) fun k hk=>hh k (by simp [hk])⟩
 |0,_::_,h,_=>by simp at h
 |n+1,[],h,_=>by simp at h
theorem ae5 {H:Hp}:∀{n:Nat},S7 (List.replicate n none) H=true
 |0=>by cases H<;>rfl
 |n+1=>by
  rw [List.replicate_succ]
  cases H with
  |nil=>rfl
  |cons k H=>exact ae5 (H:=H)
theorem as1 {m:Nat}:∀{n:Nat} {H:Hp},a54 m (List.replicate n none) H=false
 |0,H=>by cases H<;>rfl
 |n+1,[]=>rfl
 |n+1,k::H=>by
  rw [List.replicate_succ]
  unfold a54
  rw [as1]
  cases k.mode<;>rfl
theorem b87 {el:TypeId} {size n id:Nat} {A B:Nat->List T} {env env':Env} {H:Hp} {k0:Blk} {s:Nat}
 (h0:H[id]? =some k0) (hk0:k0.mode=.live∧k0.app=false∧k0.elem=el∧k0.size=size) (hr:k0.rows=(List.range n).map fun i=>(A i).map .t++.t (.sl s .nil [])::(B i).map .t)
 (hE:a19 (aZ9 id n) H env env'):Ent 0 (aZ9 id n) env H env' (a00 el size n A (fun _=>[]) B):=by
 obtain ⟨q1,q2,q3,q4⟩:=hk0
 refine ⟨rfl,?_,⟨?_,?_⟩,hE⟩
 ·unfold aZ9 a00 S7
  rw [as1,ae5]
  rfl
 ·simp only [h0]
  refine ⟨by unfold a2K;rw [q1,q2];rfl,q3,q4,.inr ?_⟩
  rw [hr]
  refine a5j (by rw [show (b9K el size n A (fun _=>[]) B).rows=a3d n A (fun _=>[]) B from rfl,a0M];simp) fun a x y hx hy=>?_
  have han:a<n:=by have:=(lbe.1 hx).1;simpa using this
  have hy:(a3d n A (fun _=>[]) B)[a]? =some y:=hy
  rw [a3p han] at hy
  injection hy with hy
  subst hy
  rw [lba,lbh han] at hx
  injection hx with hx
  subst hx
  unfold aP5
  refine a4q (Q5 _) ⟨⟨?_,rfl,rfl⟩,Q5 _⟩
  show (aZ9 id n)[a+1]? =some none
  unfold aZ9
  rw [List.getElem?_cons_succ,lbk,if_pos han]
 ·refine aO3 (by simp) fun k hk=>?_
  obtain ⟨i,_,rfl⟩:=lbx.1 hk
  exact ⟨rfl,rfl⟩
theorem b63 {el:TypeId} {size n:Nat} {A:Nat->List T} {g:Nat->List Int} {B:Nat->List T} {env env':Env}
 (hE:a19 [some 0] (a00 el size n A g B) env env'):Ent 0 [some 0] env (a00 el size n A g B) env' [{ mode:=.live,elem:=el,size:=size,rows:=toC ((List.range n).map fun i=>A i++E1 (g i)::B i),box:=false }]:=by
 refine ⟨rfl,rfl,⟨⟨rfl,rfl,rfl,.inr ?_⟩,trivial⟩,hE⟩
 show a4s _ _ (a3d n A g B) (toC _)
 refine a5j (by rw [a0M];simp [toC]) fun a x y hx hy=>?_
 have han:a<n:=by have:=(lbe.1 hx).1;rw [a0M] at this;exact this
 rw [a3p han] at hx
 injection hx with hx
 subst hx
 have hy:(((List.range n).map fun i=>A i++E1 (g i)::B i).map (·.map C.t))[a]? =some y:=hy
 rw [lba,lba,lbh han] at hy
 injection hy with hy
 subst hy
 show a3I _ _ _ ((A a++E1 (g a)::B a).map C.t)
 rw [lbC,List.map_cons]
 unfold aP5
 refine a4q (Q5 _) ⟨?_,Q5 _⟩
 have hk:(a00 el size n A g B)[a+1]? =some (t8 (g a)):=by simp [a00,han]
 exact show VC _ _ _ _ from B7 (by simp [O3];rfl) hk (by intro h;cases h) rfl rfl (by simp)
theorem b55 {el:TypeId} {size n:Nat} {A:Nat->List T} {g:Nat->List Int} {B:Nat->List T}:∀k ∈ a00 el size n A g B,okB (n+1) k:=by
 intro k hk
 rcases lbA.1 hk with rfl|hk
 ·intro r hr c hc
  obtain ⟨i,hi,rfl⟩:=lbx.1 hr
  have hi:=lbB.1 hi
  unfold aP5 at hc
  rcases lbz.1 hc with hc|hc
  ·obtain ⟨x,_,rfl⟩:=lbx.1 hc;trivial
  ·rcases lbA.1 hc with rfl|hc
   ·show i+1<n+1;omega
   ·obtain ⟨x,_,rfl⟩:=lbx.1 hc;trivial
 ·obtain ⟨i,_,rfl⟩:=lbx.1 hk
  exact I6 rfl
theorem b30 {el:TypeId} {size n:Nat} {A:Nat->List T} {g:Nat->List Int} {B:Nat->List T} {env env':Env} {R:Hp} (hE:a19 (idR (n+1)) (a00 el size n A g B++R) env env'):Ent 0 (idR (n+1)) env (a00 el size n A g B++R) env' (a00 el size n A g B):=
 aW9 a7T (Nat.zero_le _) b55 hE
def aT7 (h:Fr) (b:Bool) (gs:List Int) (n:Int):List T:=[ti h.p.sg,E1 h.p.dl,ti h.q.sg,E1 h.q.dl,tb b,E1 gs,ti n]
abbrev bb3 (h:Fr) (b:Bool) (gs:List Int) (n:Int):S:=.agg ((aT7 h b gs n).map .t)
def hiF (o:Option (Rat × Rat)):Fr:=match o with
 |some (_,hi)=>fz hi
 |none=>a2A
def a0o (e:Ev) (i:Nat):Option (Rat × Rat):=match e.moves[i]? with
 |some x=>O5 e x
 |none=>none
theorem a79 {e:Ev} {i:Nat} {x:t4} (h:e.moves[i]? =some x):a0o e i=O5 e x:=by unfold a0o;rw [h]
def U4 (t:g7) (kind:Int) (i:Nat):List T:=aT7 (hiF (a0o t.ev i)) (a0o t.ev i).isSome (j9 t.finds kind i) (p8 t.cleans kind i)
abbrev a1S (t:g7) (kind:Int):T:=.sl 7 .any ((List.range t.ev.moves.length).map (U4 t kind))
def a6g (b:Bool) (hi:Rat) (gs:List Int) (n:Int) (z:Rat):Int:=if b=true∧hi<z then 20 else if gs.any (fun g=>decide (z<(g:Rat))) then 24 else if 0<n∧z≠0 then 13 else 0
theorem b3n (H:Fr) (b:Bool) (hi:Rat) (gs:List Int) (n:Int) (z:Rat) (hH:b=true->H=fz hi∧rl hi<=200) (hz:rl z<=200) (hg:∀g ∈ gs,1<=g∧g<=1099511627776) (hl:gs.length<=1000000):
 b9 Tryz.prog 117 [bb3 H b gs n,frS (fz z)] [] (b7 .i64 (a6g b hi gs n z)) []:=by
 have m1:(gs.map g9).length=gs.length:=by simp
 have c:b=true->b9 Tryz.prog 54 [frS (fz z),frS H] [] (b7 .i64 (Z9 z hi)) []:=fun hb=>by
  rw [(hH hb).1];have:=(hH hb).2;exact a0N z hi (by omega) (by omega)
 have cg:=ag5 (x:=z) (y:=hi)
 have sg:=X8 z (by omega)
 have sz:=a51 (x:=z)
 by_cases hcap:b=true∧hi<z
 ·have e1:a6g b hi gs n z=20:=by unfold a6g;rw [if_pos hcap]
  have c1:=c hcap.1
  rw [e1]
  have h1:Z9 z hi > 0:=cg.2 hcap.2
  clear c
  obtain ⟨rfl,_⟩:=hcap
  (refine ac Tryz.func117 ?_;(conv=>whnf);repeat ((first|refine b0x ?_|refine zy ?_);conv=>whnf))
  repeat' (first|refine zx ?_|refine qp c1 ?_|refine zd ?_ ?_<;>intro h<;>try omega|fail)<;>conv=>whnf
  all_goals first
   |omega
   |exact t6 rfl
 have e1:a6g b hi gs n z=if gs.any (fun g=>decide (z<(g:Rat))) then 24 else if 0<n∧z≠0 then 13 else 0:=by unfold a6g;rw [if_neg hcap]
 rw [e1]
 clear e1
 have h1:b=true->¬Z9 z hi > 0:=fun hb h=>hcap ⟨hb,cg.1 h⟩
 clear cg hcap
 cases b
 case' true=>
  have c1:=c rfl
  have h2:=h1 rfl
 case' false=>
  have c1:=sg
  have h2:=True.intro
 all_goals
  clear c h1
  (refine ac Tryz.func117 ?_;(conv=>whnf);repeat ((first|refine b0x ?_|refine zy ?_);conv=>whnf))
  repeat' (first|refine zx ?_|refine qp c1 ?_|refine zd ?_ ?_<;>intro h<;>try omega|fail)<;>conv=>whnf
  all_goals try omega
  refine j7 g6 (fun k=>([J,J,S.c (C.t (T.ptr (aT7 H _ gs n))),S.c (C.t (T.ptr (s9 (fz z))))]++Jn 13++[S.c (C.t (E1 gs)),b7 .i64 gs.length,b7 .i64 k]++Jn 17,[])) gs.length (fun k=>(gs.take k).any (fun g=>decide (z<(g:Rat)))=false) [] rfl
   ⟨rfl,rfl,trivial,⟨rfl,rfl,rfl,e8 (by simp),rfl,trivial⟩⟩ ?_
  intro k hk hI
  by_cases hlt:k<gs.length
  ·obtain ⟨g,hgk⟩:∃g,gs[k]? =some g:=⟨_,lbf hlt⟩
   have bg:=hg g (lbm hgk)
   have fi:=I3 g (by omega) (by omega)
   have rg:rl (g:Rat)<=4:=by rw [a17];have:=a18 (x:=g) (by omega) (by omega);omega
   have cm:=a0N z (g:Rat) (by omega) (by omega)
   have cl:=a7q (x:=z) (y:=(g:Rat))
   by_cases hzg:z<(g:Rat)
   ·have h2:=cl.2 hzg
    rw [a6t hgk (by simpa using hzg),if_pos rfl]
    conv=>whnf
    repeat' (first|refine zx ?_|refine qp fi ?_|refine qp cm ?_|refine i3 hgk ?_|refine zd ?_ ?_<;>intro h<;>try omega|fail)<;>conv=>whnf
    all_goals first
     |omega
     |exact t6 rfl
   ·have h2:¬Z9 z (g:Rat)<0:=fun h=>hzg (cl.1 h)
    conv=>whnf
    repeat' (first|refine zx ?_|refine qp fi ?_|refine qp cm ?_|refine i3 hgk ?_|refine zd ?_ ?_<;>intro h<;>try omega|fail)<;>conv=>whnf
    all_goals first
     |omega
     |exact ⟨hlt,by rw [a2S hgk,hI];simpa using hzg,[],rfl,rfl,trivial,⟨rfl,rfl,rfl,rfl,rfl,trivial⟩⟩
  ·rw [lbn (by omega)] at hI
   rw [hI,if_neg (by simp)]
   by_cases h3:0<n∧z≠0
   ·rw [if_pos h3]
    have h4:sgR z≠0:=fun h=>h3.2 (sz.1 h)
    obtain ⟨h5,_⟩:=h3
    conv=>whnf
    repeat' (first|refine zx ?_|refine qp sg ?_|refine zd ?_ ?_<;>intro h<;>try omega|fail)<;>conv=>whnf
    all_goals first
     |omega
     |exact t6 rfl
   ·rw [if_neg h3]
    have h4:n<=0∨sgR z=0:=by
     by_cases h5:0<n
     ·refine .inr (sz.2 ?_)
      by_cases h6:z=0
      ·exact h6
      ·exact absurd ⟨h5,h6⟩ h3
     ·exact .inl (by omega)
    conv=>whnf
    repeat' (first|refine zx ?_|refine qp sg ?_|refine zd ?_ ?_<;>intro h<;>try omega|fail)<;>conv=>whnf
    all_goals first
     |omega
     |exact t6 rfl
theorem b5b {t:g7} {kind:Int} {i:Nat} {x:t4} (hx:t.ev.moves[i]? =some x) {z hi:Rat} (hh:∀lo hi',a0o t.ev i=some (lo,hi')->hi'=hi):
 a6g (a0o t.ev i).isSome hi (j9 t.finds kind i) (p8 t.cleans kind i) z=a0R t kind i x z:=by
 unfold a6g a0R
 rw [a79 hx] at hh ⊢
 cases hiv:O5 t.ev x with
 |none=>
  simp only [Option.isSome_none,Bool.false_eq_true,false_and,if_false,aM3,reduceCtorEq]
  have:(0<(p8 t.cleans kind i:Int))↔0<p8 t.cleans kind i:=by omega
  simp only [this]
 |some p=>
  obtain ⟨lo,hi'⟩:=p
  have:=hh lo hi' hiv
  subst this
  have e1:(aM3 (some (lo,hi')) z=false)↔hi'<z:=by
   unfold aM3
   rw [lbK];exact Rat.not_le
  have e2:(0<(p8 t.cleans kind i:Int))↔0<p8 t.cleans kind i:=by omega
  simp only [Option.isSome_some,true_and,e1,e2]
def kn1 (e:Ev) (k i:Nat):List T:=
 let h:=if i<k then hiF (a0o e i) else a2A
 [ti h.p.sg,E1 h.p.dl,ti h.q.sg,E1 h.q.dl,tb (decide (i<k) && (a0o e i).isSome),.sl 0 .nil [],ti 0]
abbrev knB (rows:List (List T)):Blk:={ mode:=.live,elem:=147,size:=7,rows:=toC rows,box:=false }
theorem aJ3 {e:Ev} {k i:Nat} (h:i≠k):kn1 e (k+1) i=kn1 e k i:=by
 unfold kn1
 by_cases h1:i<k
 ·simp only [if_pos h1,if_pos (show i<k+1 by omega),h1,show i<k+1 by omega]
 ·simp only [if_neg h1,if_neg (show ¬i<k+1 by omega),h1,show ¬i<k+1 by omega]
theorem b1v {e:Ev} {k n:Nat} (h:k<n):(toC ((List.range n).map (kn1 e k))).set k ((kn1 e (k+1) k).map C.t)=toC ((List.range n).map (kn1 e (k+1))):=by
 apply List.ext_getElem?
 intro i
 unfold toC
 rw [lbg,lba,lba,lba]
 by_cases hi:k=i
 ·subst hi
  rw [if_pos rfl]
  simp [h]
 ·rw [if_neg hi,lba]
  cases hr:(List.range n)[i]? with
  |none=>rfl
  |some j=>
   have:j=i:=by
    obtain ⟨h1,h2⟩:=lbe.1 hr
    simp at h2;omega
   subst this
   show some ((kn1 e k j).map C.t)=some ((kn1 e (k+1) j).map C.t)
   rw [aJ3 (fun h=>hi h.symm)]
theorem aI0 {e:Ev} {k:Nat} (h:a0o e k=none):kn1 e (k+1) k=kn1 e k k:=by
 unfold kn1
 simp only [if_pos (show k<k+1 by omega),if_neg (show ¬k<k by omega),h]
 simp [hiF]
theorem aF5 {e:Ev} {k n:Nat} (h:a0o e k=none):(List.range n).map (kn1 e (k+1))=(List.range n).map (kn1 e k):=lbp fun i _=>by
 by_cases hi:i=k
 ·subst hi;exact aI0 h
 ·exact aJ3 hi
theorem b5p {e:Ev} {n:Nat} {ρ:List (Option Nat)} {H:Hp}:a4s ρ H (List.replicate n [C.t (ti 0),C.t (.sl 0 .nil []),C.t (ti 0),C.t (.sl 0 .nil []),C.t (tb false),C.t (.sl 0 .nil []),C.t (ti 0)]) (toC ((List.range n).map (kn1 e 0))):=by
 refine a5j (by simp [toC]) fun i x y hx hy=>?_
 have hi:i<n:=by have:=(lbe.1 hx).1;simpa using this
 rw [lbk,if_pos hi] at hx
 injection hx with hx
 subst hx
 unfold toC at hy
 rw [lba,lba,lbh hi] at hy
 injection hy with hy
 subst hy
 show a3I _ _ _ ((kn1 e 0 i).map C.t)
 unfold kn1
 simp only [if_neg (show ¬i<0 by omega)]
 exact ⟨rfl,rfl,rfl,rfl,rfl,rfl,rfl,trivial⟩
def knA (e:Ev) (i:Nat):List T:=[ti (hiF (a0o e i)).p.sg,E1 (hiF (a0o e i)).p.dl,ti (hiF (a0o e i)).q.sg,E1 (hiF (a0o e i)).q.dl,tb (a0o e i).isSome]
def H7 (t:g7) (kind:Int) (k i:Nat):List Int:=j9 (t.finds.take k) kind i
theorem a72 (l:List J9) (f:J9) (kind:Int) (i:Nat):j9 (l++[f]) kind i=if f.kind=kind∧f.mv=(i:Int) then j9 l kind i++[f.grams] else j9 l kind i:=by
 rw [a1i];split<;>simp
theorem W8 {α:Type} {l:List α} {k:Nat} {x:α} (h:l[k]? =some x):l.take (k+1)=l.take k++[x]:=by rw [lbG,h];rfl
def kn3 (t:g7) (kind:Int) (k i:Nat):List T:=knA t.ev i++E1 (j9 t.finds kind i)::[ti (p8 (t.cleans.take k) kind i)]
theorem be1 (t:g7) (kind:Int) (k i:Nat):p8 (t.cleans.take k) kind i<=t.cleans.length:=lbR (lbt _ _) (by simp;omega)
theorem b7W {t:g7} {kind:Int} {n:Nat}:(List.range n).map (kn3 t kind t.cleans.length)=(List.range n).map (U4 t kind):=lbp fun i _=>by
 unfold kn3;rw [lbn (lbQ _)];rfl
theorem b4Q {t:g7} {kind:Int} {n k:Nat} {c:D6} (h:t.cleans[k]? =some c) (hk:c.kind≠kind):(List.range n).map (kn3 t kind (k+1))=(List.range n).map (kn3 t kind k):=lbp fun i _=>by
 unfold kn3
 rw [W8 h,Q7,if_neg (fun h=>hk h.1)];rfl
theorem b8I {t:g7} {kind:Int} {n k m:Nat} {c:D6} (hm:m<n) (h:t.cleans[k]? =some c) (hk:c.kind=kind) (hmv:c.mv=m):
 (toC ((List.range n).map (kn3 t kind k))).set m ((knA t.ev m++E1 (j9 t.finds kind m)::[ti ((p8 (t.cleans.take k) kind m:Int)+1)]).map C.t)=toC ((List.range n).map (kn3 t kind (k+1))):=by
 have key:∀i,i<n->i≠m->kn3 t kind (k+1) i=kn3 t kind k i:=fun i _ hi=>by
  unfold kn3
  rw [W8 h,Q7,if_neg (fun h=>hi (by omega))];rfl
 have own:kn3 t kind (k+1) m=knA t.ev m++E1 (j9 t.finds kind m)::[ti ((p8 (t.cleans.take k) kind m:Int)+1)]:=by
  unfold kn3
  rw [W8 h,Q7,if_pos ⟨hk,hmv⟩];rfl
 rw [← own]
 unfold toC
 rw [← List.map_set]
 congr 1
 apply List.ext_getElem?
 intro i
 simp only [lbg,lba,lbr,List.length_range]
 by_cases hi:m=i
 ·subst hi;simp [hm]
 ·rw [if_neg hi]
  by_cases hin:i<n
  ·rw [lbh hin]
   show some _=some _
   rw [key i hin (fun h=>hi h.symm)]
  ·rw [lbd (by simp;omega)];rfl
theorem b6S {l:List Int} {x:Int}:List.take l.length (toC (l.map g9))++toC [[ti x]]=toC ((l++[x]).map g9):=by
 rw [lbn (by simp [toC])]
 simp [toC,g9]
theorem b1B (t:g7) (kind:Int) (hs:t.Sized) (h0:J4 t.ev=0) (hf:∀f ∈ t.finds,0<=f.mv∧f.mv<t.ev.moves.length) (hc:∀c ∈ t.cleans,0<=c.mv∧c.mv<t.ev.moves.length):
 b9 Tryz.prog 115 [trS t,b7 .i64 kind] [] (.c (.t (a1S t kind))) []:=by
 obtain ⟨b1,b2,b3,b4⟩:=a1l h0
 have l1:=hs.f
 have l2:=hs.c
 have m0:(t.ev.moves.map t4.row).length=t.ev.moves.length:=by simp
 have m1:(t.finds.map J9.row).length=t.finds.length:=by simp
 have m2:(t.cleans.map D6.row).length=t.cleans.length:=by simp
 have s3:=hs.ev.s3
 have s4:=hs.ev.s4
 (refine ac Tryz.func115 ?_;(conv=>whnf);repeat ((first|refine b0x ?_|refine zy ?_);conv=>whnf))
 repeat' (first|refine zx ?_|refine a4e (by omega) (by omega) (by omega) (by decide) ?_|refine zd ?_ ?_<;>intro h<;>try omega|fail)<;>conv=>whnf
 refine j7 g6 (fun k=>([J,b7 .i64 kind,S.c (C.t (T.ptr (trT t))),J,J,S.c (C.ptr 0 0 0),S.c (C.own 1 0 t.ev.moves.length true)]++Jn 13++[S.c (C.t (a2P t.ev.moves)),b7 .i64 t.ev.moves.length,b7 .i64 k]++Jn 80,[evB t.ev,knB ((List.range t.ev.moves.length).map (kn1 t.ev k))])) t.ev.moves.length (fun _=>True) [some 0,some 1] trivial ?_ ?_
 ·refine ⟨rfl,rfl,⟨⟨rfl,rfl,rfl,.inl ⟨rfl,k8 _⟩⟩,⟨rfl,rfl,rfl,.inr ?_⟩,trivial⟩,⟨rfl,rfl,⟨rfl,rfl,rfl⟩,⟨rfl,rfl,?_,fun h=>h⟩,rfl,e8 (by simp),rfl,trivial⟩⟩
  ·have e9:((((t.ev.moves.map t4.row).length:Nat):Int)).toNat=t.ev.moves.length:=by omega
   rw [← e9]
   exact b5p
  ·omega
 intro k hk _
 by_cases hlt:k<t.ev.moves.length
 ·obtain ⟨x,hx⟩:∃x,t.ev.moves[k]? =some x:=⟨_,lbf hlt⟩
  have iv:=b0c t.ev.certs t.ev.recalls (by omega) (by omega) x.scale x.reading x.day
  have eK:0+(k:Int).toNat=k:=by omega
  have hk0:(List.range t.ev.moves.length)[0+(k:Int).toNat]? =some k:=by rw [eK,lbh hlt]
  have gs:∀c,((knB ((List.range t.ev.moves.length).map (kn1 t.ev k))).rows.set (0+(k:Int).toNat) c)[0+(k:Int).toNat]? =some c:=fun c=>by
   rw [List.getElem?_set_self]
   show _<(toC _).length
   simp [toC];omega
  by_cases hsc:x.scale=-1
  ·have hn:a0o t.ev k=none:=by rw [a79 hx];unfold O5;rw [if_pos hsc]
   have e1:=aF5 (n:=t.ev.moves.length) hn
   conv=>whnf
   repeat' (first|refine zx ?_|refine i3 hx ?_|refine zd ?_ ?_<;>intro h<;>try omega|fail)<;>conv=>whnf
   all_goals try omega
   refine ⟨hlt,trivial,[some 0,some 1],rfl,rfl,⟨⟨rfl,rfl,rfl,.inl ⟨rfl,k8 _⟩⟩,b8 rfl rfl rfl ?_ rfl,trivial⟩,⟨rfl,rfl,⟨rfl,rfl,rfl⟩,⟨rfl,rfl,rfl,fun h=>h⟩,rfl,rfl,rfl,trivial⟩⟩
   rw [e1]
  ·have hiv:a0o t.ev k=Q3 t.ev.certs t.ev.recalls x.scale x.reading x.day:=by rw [a79 hx];unfold O5;rw [if_neg hsc]
   rw [← hiv] at iv
   cases hi:a0o t.ev k with
   |none=>
    rw [hi] at iv
    have er:(kn1 t.ev (k+1) k).map C.t=frC a2A++[C.t (tb false),C.t (.sl 0 .nil []),C.t (ti 0)]:=by rw [aI0 hi];simp [kn1]
    conv=>whnf
    repeat' (first|refine zx ?_|refine qp iv ?_|refine qp (2,3,18) ?_|refine i3 hx ?_|refine q9 hk0 ?_|refine ⟨_,gs _,?_⟩|refine bl0 [2,3,18] ?_|refine zd ?_ ?_<;>intro h<;>try omega|fail)<;>conv=>whnf
    all_goals try omega
    refine ⟨hlt,trivial,[some 0,some 1],rfl,rfl,⟨⟨rfl,rfl,rfl,.inl ⟨rfl,k8 _⟩⟩,b8 rfl rfl rfl ?_ rfl,trivial⟩,⟨rfl,rfl,⟨rfl,rfl,rfl⟩,⟨rfl,rfl,rfl,fun h=>h⟩,rfl,rfl,rfl,trivial⟩⟩
    have e2:=b1v (e:=t.ev) hlt
    rw [er] at e2
    rw [← e2]
    show ((toC _).set (0+(k:Int).toNat) _).set (0+(k:Int).toNat) _=_
    rw [List.set_set,eK]
    rfl
   |some p=>
    obtain ⟨lo,hi'⟩:=p
    rw [hi] at iv
    have er:(kn1 t.ev (k+1) k).map C.t=frC (fz hi')++[C.t (tb true),C.t (.sl 0 .nil []),C.t (ti 0)]:=by simp [kn1,hi,hiF]
    conv=>whnf
    repeat' (first|refine zx ?_|refine qp iv ?_|refine qp (2,3,18) ?_|refine i3 hx ?_|refine q9 hk0 ?_|refine ⟨_,gs _,?_⟩|refine bl0 [2,3,18] ?_|refine zd ?_ ?_<;>intro h<;>try omega|fail)<;>conv=>whnf
    all_goals try omega
    refine ⟨hlt,trivial,[some 0,some 1],rfl,rfl,⟨⟨rfl,rfl,rfl,.inl ⟨rfl,k8 _⟩⟩,b8 rfl rfl rfl ?_ rfl,trivial⟩,⟨rfl,rfl,⟨rfl,rfl,rfl⟩,⟨rfl,rfl,rfl,fun h=>h⟩,rfl,rfl,rfl,trivial⟩⟩
    have e2:=b1v (e:=t.ev) hlt
    rw [er] at e2
    rw [← e2]
    show ((toC _).set (0+(k:Int).toNat) _).set (0+(k:Int).toNat) _=_
    rw [List.set_set,eK]
    rfl
 ·conv=>whnf
  repeat' (first|refine zx ?_|refine zd ?_ ?_<;>intro h<;>try omega|fail)<;>conv=>whnf
  all_goals try omega
  have e0:H7 t kind 0=fun _=>[]:=by funext i;simp [H7,j9]
  refine j7 g6 (fun k=>([J,b7 .i64 kind,S.c (C.t (T.ptr (trT t))),J,J,J,S.c (C.own 0 0 t.ev.moves.length true)]++Jn 48++[S.c (C.t (a8l t.finds)),b7 .i64 t.finds.length,b7 .i64 k]++Jn 45,a00 147 7 t.ev.moves.length (knA t.ev) (H7 t kind k) (fun _=>[ti 0]))) t.finds.length (fun _=>True) (aZ9 1 t.ev.moves.length) trivial ?_ ?_
  ·have hke:k=t.ev.moves.length:=by omega
   subst hke
   refine (?_:Ent 0 (aZ9 1 t.ev.moves.length) _ _ _ (a00 147 7 t.ev.moves.length (knA t.ev) (H7 t kind 0) (fun _=>[ti 0])))
   rw [e0]
   refine b87 (k0:=knB ((List.range t.ev.moves.length).map (kn1 t.ev t.ev.moves.length))) (s:=0) rfl ⟨rfl,rfl,rfl,rfl⟩ ?_ ?_
   ·show toC _=_
    unfold toC
    rw [List.map_map]
    refine lbp fun i hi=>?_
    have:=lbB.1 hi
    simp [kn1,knA,this]
   ·exact ⟨rfl,rfl,⟨rfl,rfl,rfl,fun h=>h⟩,k9 rfl,e8 (by simp),rfl,trivial⟩
  intro j hj _
  by_cases hjt:j<t.finds.length
  ·obtain ⟨f,hfj⟩:∃f,t.finds[j]? =some f:=⟨_,lbf hjt⟩
   obtain ⟨f1,f2⟩:=hf f (lbm hfj)
   obtain ⟨m,hm⟩:∃m:Nat,f.mv=m:=⟨f.mv.toNat,by omega⟩
   have hmn:m<t.ev.moves.length:=by omega
   have eM:0+f.mv.toNat=m:=by omega
   have rL:(List.range t.ev.moves.length).length=t.ev.moves.length:=by simp
   have rG:(List.range t.ev.moves.length)[m]? =some m:=lbh hmn
   have gR:(a3d t.ev.moves.length (knA t.ev) (H7 t kind j) (fun _=>[ti 0]))[0+f.mv.toNat]? =some (aP5 (knA t.ev) (H7 t kind j) (fun _=>[ti 0]) (m+1) m):=by rw [eM];exact a3p hmn
   have gl:(H7 t kind j m).length<=t.finds.length:=by
    unfold H7 j9
    rw [lbr]
    exact lbR (lbt _ _) (by simp;omega)
   have hbox:∀(fB:Nat->Blk) (dead nb fb:Blk),(((((List.range t.ev.moves.length).map fB++[fb]).set m dead)++[nb])[t.ev.moves.length]?)=some fb:=fun fB dead nb fb=>by
    rw [lbb (by simp),lbg,if_neg (by omega),lbc (by simp)]
    simp
   have hnew:∀(fB:Nat->Blk) (dead nb fb:Blk),(((((List.range t.ev.moves.length).map fB++[fb]).set m dead)++[nb])[t.ev.moves.length+1]?)=some nb:=fun fB dead nb fb=>by
    rw [lbc (by simp)]
    simp
   have hold:∀(fB:Nat->Blk) (dead nb fb:Blk) (p:Nat),p<t.ev.moves.length->p≠m->(((((List.range t.ev.moves.length).map fB++[fb]).set m dead)++[nb])[p]?)=some (fB p):=fun fB dead nb fb p hp hpm=>by
    rw [lbb (by simp;omega),lbg,if_neg (by omega),lbb (by simpa using hp),lba,lbh hp];rfl
   by_cases hkd:f.kind=kind
   ·conv=>whnf
    repeat' (first|refine zx ?_|refine qp toC ?_|refine qp toC ?_|refine qp (0,1,2) ?_|refine i3 hfj ?_|refine p6 rL ?_|refine a52 rL ?_|refine I2 ?_|refine a3B ?_|refine ⟨_,gR,?_⟩|refine a9A (hbox _ _ _ _) ?_|refine Y7 rG ?_|refine aK6 rG ?_|refine G2 rL ?_|refine j6 rL ?_|refine a7Z rL ?_|refine k5 rL ?_|refine aC5 ?_|refine D5 (by simp [toC]) (by simp [toC];omega) ?_|refine bl0 [0,1,2] ?_|refine zd ?_ ?_<;>intro h<;>try omega|fail)<;>conv=>whnf
    all_goals try omega
    refine ⟨hjt,trivial,a9b t.ev.moves.length m (t.ev.moves.length+2),?_⟩
    refine (?_:Ent 0 (a9b t.ev.moves.length m (t.ev.moves.length+2)) _ _ _ (a00 147 7 t.ev.moves.length (knA t.ev) (H7 t kind (j+1)) (fun _=>[ti 0])))
    have eg:H7 t kind (j+1)=a4w (H7 t kind j) m (H7 t kind j m++[f.grams]):=by
     funext i
     unfold H7 a4w
     rw [W8 hfj,a72]
     by_cases hi:i=m
     ·subst hi;rw [if_pos ⟨hkd,hm⟩,if_pos rfl]
     ·rw [if_neg (fun h=>hi (by omega)),if_neg hi]
    rw [eg]
    refine b5h hmn (by omega) rfl ⟨rfl,rfl,rfl,rfl⟩ ?_ ?_ ?_ ?_
    ·show (a3d _ _ _ _).set (0+f.mv.toNat) _=_
     rw [eM,lbq]
     rfl
    ·intro p hp hpm
     exact hold _ _ _ _ p hp hpm
    ·refine (hnew _ _ _ _).trans ?_
     show some (Blk.mk .live _ 1 (List.take _ (toC ((H7 t kind j m).map g9))++toC [[ti f.grams]]) false false)=_
     rw [b6S]
    ·exact ⟨rfl,rfl,⟨by rw [Z3 (by omega)];rfl,rfl,rfl,fun h=>h⟩,rfl,rfl,rfl,trivial⟩
   ·conv=>whnf
    repeat' (first|refine zx ?_|refine i3 hfj ?_|refine p6 rL ?_|refine a52 rL ?_|refine I2 ?_|refine a3B ?_|refine G2 rL ?_|refine j6 rL ?_|refine a7Z rL ?_|refine k5 rL ?_|refine zd ?_ ?_<;>intro h<;>try omega|fail)<;>conv=>whnf
    all_goals try omega
    refine ⟨hjt,trivial,idR (t.ev.moves.length+1),?_⟩
    refine (?_:Ent 0 (idR (t.ev.moves.length+1)) _ (a00 147 7 t.ev.moves.length (knA t.ev) (H7 t kind j) (fun _=>[ti 0])++_) _ (a00 147 7 t.ev.moves.length (knA t.ev) (H7 t kind (j+1)) (fun _=>[ti 0])))
    have eg:H7 t kind (j+1)=H7 t kind j:=by
     funext i
     unfold H7
     rw [W8 hfj,a72,if_neg (fun h=>hkd h.1)]
    rw [eg]
    exact b30 ⟨rfl,rfl,⟨s8 (by omega),rfl,rfl,fun h=>h⟩,rfl,rfl,rfl,trivial⟩
  ·have hje:j=t.finds.length:=by omega
   subst hje
   have rL:(List.range t.ev.moves.length).length=t.ev.moves.length:=by simp
   conv=>whnf
   repeat' (first|refine zx ?_|refine I2 ?_|refine a3B ?_|refine a52 rL ?_|refine zd ?_ ?_<;>intro h<;>try omega|fail)<;>conv=>whnf
   all_goals try omega
   have eg:H7 t kind t.finds.length=j9 t.finds kind:=by funext i;unfold H7;rw [lbn (lbQ _)]
   rw [eg]
   refine j7 g6 (fun k=>([J,b7 .i64 kind,J,J,J,J,S.c (C.own 0 0 t.ev.moves.length true)]++Jn 75++[S.c (C.t (a5E t.cleans)),b7 .i64 t.cleans.length,b7 .i64 k]++Jn 18,[knB ((List.range t.ev.moves.length).map (kn3 t kind k))])) t.cleans.length (fun _=>True) [some 0] trivial ?_ ?_
   ·exact b63 (g:=j9 t.finds kind) ⟨rfl,⟨rfl,rfl,rfl,fun h=>h⟩,k9 rfl,e8 (by simp),rfl,trivial⟩
   intro q hq _
   by_cases hqt:q<t.cleans.length
   ·obtain ⟨c,hcq⟩:∃c,t.cleans[q]? =some c:=⟨_,lbf hqt⟩
    obtain ⟨g1,g2⟩:=hc c (lbm hcq)
    obtain ⟨m,hm⟩:∃m:Nat,c.mv=m:=⟨c.mv.toNat,by omega⟩
    have hmn:m<t.ev.moves.length:=by omega
    have eM:0+c.mv.toNat=m:=by omega
    have hk0:(List.range t.ev.moves.length)[0+c.mv.toNat]? =some m:=by rw [eM];exact lbh hmn
    have cb:=be1 t kind q m
    by_cases hkd:c.kind=kind
    ·conv=>whnf
     repeat' (first|refine zx ?_|refine i3 hcq ?_|refine q9 hk0 ?_|refine zd ?_ ?_<;>intro h<;>try omega|fail)<;>conv=>whnf
     all_goals try omega
     refine ⟨hqt,trivial,[some 0],rfl,rfl,⟨b8 rfl rfl rfl ?_ rfl,trivial⟩,⟨rfl,⟨rfl,rfl,rfl,fun h=>h⟩,rfl,rfl,rfl,trivial⟩⟩
     show (toC _).set (0+c.mv.toNat) _=_
     rw [eM,←b8I hmn hcq hkd hm]
     rfl
    ·have e3:=b4Q (t:=t) (kind:=kind) (n:=t.ev.moves.length) hcq hkd
     conv=>whnf
     repeat' (first|refine zx ?_|refine i3 hcq ?_|refine q9 hk0 ?_|refine zd ?_ ?_<;>intro h<;>try omega|fail)<;>conv=>whnf
     all_goals try omega
     refine ⟨hqt,trivial,[some 0],rfl,rfl,⟨b8 rfl rfl rfl ?_ rfl,trivial⟩,⟨rfl,⟨rfl,rfl,rfl,fun h=>h⟩,rfl,rfl,rfl,trivial⟩⟩
     rw [e3]
   ·have hqe:q=t.cleans.length:=by omega
    subst hqe
    conv=>whnf
    repeat' (first|refine zx ?_|refine zd ?_ ?_<;>intro h<;>try omega|fail)<;>conv=>whnf
    all_goals try omega
    rw [b7W]
    exact R3 (k:=knB ((List.range t.ev.moves.length).map (U4 t kind))) rfl (by intro h;cases h) rfl rfl (by simp)
abbrev af3 (l:List (Int × Rat)):Blk:={ mode:=.live,elem:=109,size:=5,rows:=toC (l.map H9),box:=false }
abbrev V5 (l:List H4):Blk:={ mode:=.live,elem:=133,size:=6,rows:=toC (l.map D9),box:=false }
abbrev a3V (n:Int) (id len:Nat):Blk:={ mode:=.live,elem:=70,size:=2,rows:=[[.t (ti n),.own id 0 len true]],box:=true }
abbrev bf4 (id len:Nat) (kind:Int):Blk:={ mode:=.live,elem:=133,size:=6,rows:=[.own id 0 len true::.t (ti kind)::frC (fz zR)],box:=true }
abbrev b7e (x:t4):Blk:={ mode:=.live,elem:=149,size:=6,rows:=[x.row.map .t],box:=true }
theorem a3O (x:t4):L8 [x.row.map C.t]:=by simp [L8,t4.row,C.isT]
abbrev bk4:Blk:={ mode:=.live,elem:=133,size:=6,rows:=[.t (aC7 [])::.t (ti 0)::frC a2A],box:=true }
abbrev b25 (el:TypeId) (size:Nat):Blk:=⟨.dead,el,size,[],false,false⟩
theorem at4 {l:List H4} {w:H4} {n:Nat} (h:n=l.length):List.take n (toC (l.map D9))++toC [D9 w]=toC ((l++[w]).map D9):=by
 rw [lbn (by simp [toC,h])]
 simp [toC]
theorem b9t (n:Int) (rows:List H4) (hr:rows.length<=1000000) (mv:Nat) (kind:Int) (v:Rat):
 b9 Tryz.prog 132 [b7 .i64 mv,b7 .i64 kind,frS (fz v),.c (.ptr 0 0 0)] [a3V n 1 rows.length,V5 rows] (.tup []) [a3V n 2 (rows.length+1),b25 133 6,V5 (rows++[w7 mv kind v])]:=by
 have i1:=I3 1 (by decide) (by decide)
 (refine ac Tryz.func132 ?_;(conv=>whnf);repeat ((first|refine b0x ?_|refine zy ?_);conv=>whnf))
 repeat' (first|refine zz ?_|refine qp i1 ?_|refine qp toC ?_|refine qp toC ?_|refine a4m.weak ?_|refine D5 (by simp [toC]) (by simp [toC];omega) ?_|refine zd ?_ ?_<;>intro h<;>try omega|refine zy ?_|fail)<;>conv=>whnf
 refine ⟨⟨[some 0,some 1,some 2],rfl,rfl,⟨⟨rfl,rfl,rfl,.inr ⟨⟨rfl,⟨rfl,rfl,rfl,fun h=>h⟩,trivial⟩,trivial⟩⟩,⟨rfl,rfl,rfl,.inl ⟨rfl,by simp [L8]⟩⟩,b8 rfl rfl rfl ?_ rfl,trivial⟩,trivial⟩⟩
 show List.take rows.length (toC (rows.map D9))++toC [D9 (w7 mv kind v)]=_
 exact at4 rfl
theorem bc4 {H:Hp} {id:Nat} {n:Int} {rows:List H4} (hs:H[2]? =some (a3V n id rows.length)) (hid:H[id]? =some (V5 rows)) (hne:id≠2) (hr:rows.length<=1000000) (mv:Nat) (kind:Int) (v:Rat):
 b9 Tryz.prog 132 [b7 .i64 mv,b7 .i64 kind,frS (fz v),.c (.ptr 2 0 0)] H (.tup []) (((H.set 2 (a3V n H.length (rows.length+1))).set id (b25 133 6))++[V5 (rows++[w7 mv kind v])]):=by
 have h2:2<H.length:=(lbe.1 hs).1
 have hi:id<H.length:=(lbe.1 hid).1
 have ex:a3S [2,id] H.length 1=[2,id,H.length]:=by simp [a3S]
 refine L6 [2,id] (b9t n rows hr mv kind v) rfl rfl rfl (by simp;omega) ?_ ?_ (by simp) rfl rfl (by simp) ?_ ?_
 ·intro i k hk
  match i,hk with
  |0,hk=>
   injection hk with hk
   subst hk
   exact ⟨rfl,rfl,by simp [okL,okC],_,hs,⟨rfl,rfl,rfl,rfl,by simp [a8k,a2b,Z8]⟩⟩
  |1,hk=>
   injection hk with hk
   subst hk
   exact ⟨rfl,rfl,a2a _,_,hid,E4 rfl⟩
 ·intro k hk
  simp at hk
  rcases hk with rfl|rfl|rfl<;>(intro h;cases h)
 ·intro i k hk
  show ∃k',_[(a3S [2,id] H.length 1).getD i 0]? =some k'∧az5 (a3S [2,id] H.length 1) k k'
  rw [ex]
  match i,hk with
  |0,hk=>
   injection hk with hk
   subst hk
   refine ⟨a3V n H.length (rows.length+1),?_,⟨rfl,rfl,rfl,rfl,by simp [a8k,a2b,Z8]⟩⟩
   show (_++_)[2]? =_
   rw [lbb (by simp;omega),lbg,if_neg (by omega),lbg,if_pos rfl,if_pos h2]
  |1,hk=>
   injection hk with hk
   subst hk
   refine ⟨b25 133 6,?_,⟨rfl,rfl,rfl,rfl,rfl⟩⟩
   show (_++_)[id]? =_
   rw [lbb (by simp;omega),lbg,if_pos rfl,if_pos (by simp;omega)]
  |2,hk=>
   injection hk with hk
   subst hk
   refine ⟨V5 (rows++[w7 mv kind v]),?_,E4 rfl⟩
   show (_++_)[H.length]? =_
   rw [lbc (by simp)]
   simp
 ·intro j hj hjn
  simp at hjn
  rw [lbb (by simp;omega),lbg,if_neg (by omega),lbg,if_neg (by omega)]
theorem a8I {l:List (Int × Rat)} {w:Int × Rat} {n:Nat} (h:n=l.length):List.take n (toC (l.map H9))++toC [H9 w]=toC ((l++[w]).map H9):=by
 rw [lbn (by simp [toC,h])]
 simp [toC]
theorem a3A {e:Ev} {p:Int} {k:Nat} {y:t4} (h:e.moves[k]? =some y):t7 e p (k+1)=if y.dst=p then t7 e p k++[((k:Int),((1:Int):Rat))] else if y.src=p then t7 e p k++[((k:Int),((-1:Int):Rat))] else t7 e p k:=by rw [t7,h]
theorem a4V {e:Ev} {p:Int}:∀k,(t7 e p k).length<=k
 |0=>by simp [t7]
 |k+1=>by
  have ih:=a4V (e:=e) (p:=p) k
  unfold t7
  cases e.moves[k]? with
  |none=>simp only;omega
  |some y=>
   simp only
   split
   ·simp;omega
   ·split
    ·simp;omega
    ·omega
theorem b7t (e:Ev) (h0:J4 e=0) {i:Nat} {x:t4} (hx:e.moves[i]? =some x):b9 Tryz.prog 133 [evS e,b7 .i64 i] [] (b9U (C8 e i x)) []:=by
 obtain ⟨b1,b2,b3,b4⟩:=a1l h0
 have hi:i<e.moves.length:=(lbe.1 hx).1
 have m0:(e.moves.map t4.row).length=e.moves.length:=by simp
 have i0:=I3 0 (by decide) (by decide)
 have i1:=I3 1 (by decide) (by decide)
 have im:=I3 (-1) (by decide) (by decide)
 have tk:(e.moves.map t4.row).take i=(e.moves.take i).map t4.row:=(List.map_take ..).symm
 have tl:(e.moves.take i).length=i:=by simp;omega
 have mt:((e.moves.take i).map t4.row).length=i:=by simp;omega
 cases hal:x.all
 case' false=>have hK:(C8 e i x).kind=0:=by unfold C8;rw [hal];rfl
 case' true=>have hK:(C8 e i x).kind=2:=by unfold C8;rw [hal];rfl
 all_goals
  (refine ac Tryz.func133 ?_;(conv=>whnf);repeat ((first|refine b0x ?_|refine zy ?_);conv=>whnf))
  repeat' (first|refine zx ?_|refine qp i0 ?_|refine i3 hx ?_|refine aM4 (by omega) (by omega) (by omega) ?_|refine zd ?_ ?_<;>intro h<;>try omega|fail)<;>conv=>whnf
  all_goals first
   |omega
   |(exfalso;simp_all;done)
   |skip
  refine j7 g6 (fun k=>([J,b7 .i64 i,J,J,S.c (C.ptr 0 0 0),S.c (C.ptr 1 0 0),S.c (C.ptr 2 0 0)]++Jn 15++[S.c (C.t (a2P (e.moves.take i))),b7 .i64 i,b7 .i64 k]++Jn 40,[bk4,b7e x,bf4 3 (t7 e x.src k).length (C8 e i x).kind,af3 (t7 e x.src k)])) i (fun _=>True) [some 0,some 1,some 2,none] trivial ?_ ?_
  ·rw [hK]
   refine ⟨rfl,rfl,⟨⟨rfl,rfl,rfl,.inr ⟨⟨rfl,rfl,rfl,rfl,rfl,rfl,trivial⟩,trivial⟩⟩,⟨rfl,rfl,rfl,.inl ⟨rfl,a3O x⟩⟩,⟨rfl,rfl,rfl,.inr ⟨⟨⟨rfl,rfl,rfl⟩,rfl,rfl,rfl,rfl,rfl,trivial⟩,trivial⟩⟩,⟨rfl,rfl⟩,trivial⟩,⟨rfl,⟨rfl,rfl,rfl⟩,⟨rfl,rfl,rfl⟩,⟨rfl,rfl,rfl⟩,k9 ?_,e8 ?_,rfl,trivial⟩⟩
   ·show T.sl 6 _ (((e.moves.map t4.row).take ((i:Int)).toNat).drop 0)=_
    rw [lbX,tk];rfl
   ·show ((((e.moves.map t4.row).take ((i:Int)).toNat).drop 0).length:Int)=i
    rw [lbX,tk,List.drop_zero,mt]
  intro k hk _
  have kl:=a4V (e:=e) (p:=x.src) k
  by_cases hlt:k<i
  ·obtain ⟨y,hy⟩:∃y,e.moves[k]? =some y:=⟨_,lbf (by omega)⟩
   have hyt:(e.moves.take i)[k]? =some y:=by rw [lbi,if_pos hlt];exact hy
   by_cases c1:y.dst=x.src
   ·have et:t7 e x.src (k+1)=t7 e x.src k++[((k:Int),((1:Int):Rat))]:=by rw [a3A hy,if_pos c1]
    conv=>whnf
    repeat' (first|refine zx ?_|refine qp i1 ?_|refine qp toC ?_|refine qp toC ?_|refine i3 hyt ?_|refine D5 (by simp [toC]) (by simp [toC];omega) ?_|refine zd ?_ ?_<;>intro h<;>try omega|fail)<;>conv=>whnf
    all_goals try omega
    refine ⟨hlt,trivial,[some 0,some 1,some 2,some 5],rfl,rfl,⟨⟨rfl,rfl,rfl,.inr ⟨⟨rfl,rfl,rfl,rfl,rfl,rfl,trivial⟩,trivial⟩⟩,⟨rfl,rfl,rfl,.inl ⟨rfl,a3O x⟩⟩,⟨rfl,rfl,rfl,.inr ⟨⟨⟨rfl,rfl,?_,fun h=>h⟩,rfl,rfl,rfl,rfl,rfl,trivial⟩,trivial⟩⟩,b8 rfl rfl rfl ?_ rfl,trivial⟩,⟨rfl,⟨rfl,rfl,rfl⟩,⟨rfl,rfl,rfl⟩,⟨rfl,rfl,rfl⟩,rfl,rfl,rfl,trivial⟩⟩
    ·rw [et,lbq];rfl
    ·rw [et]
     show List.take (t7 e x.src k).length (toC ((t7 e x.src k).map H9))++toC [H9 ((k:Int),((1:Int):Rat))]=_
     exact a8I rfl
   ·by_cases c2:y.src=x.src
    ·have et:t7 e x.src (k+1)=t7 e x.src k++[((k:Int),((-1:Int):Rat))]:=by rw [a3A hy,if_neg c1,if_pos c2]
     conv=>whnf
     repeat' (first|refine zx ?_|refine qp im ?_|refine qp toC ?_|refine qp toC ?_|refine i3 hyt ?_|refine D5 (by simp [toC]) (by simp [toC];omega) ?_|refine zd ?_ ?_<;>intro h<;>try omega|fail)<;>conv=>whnf
     all_goals try omega
     refine ⟨hlt,trivial,[some 0,some 1,some 2,some 5],rfl,rfl,⟨⟨rfl,rfl,rfl,.inr ⟨⟨rfl,rfl,rfl,rfl,rfl,rfl,trivial⟩,trivial⟩⟩,⟨rfl,rfl,rfl,.inl ⟨rfl,a3O x⟩⟩,⟨rfl,rfl,rfl,.inr ⟨⟨⟨rfl,rfl,?_,fun h=>h⟩,rfl,rfl,rfl,rfl,rfl,trivial⟩,trivial⟩⟩,b8 rfl rfl rfl ?_ rfl,trivial⟩,⟨rfl,⟨rfl,rfl,rfl⟩,⟨rfl,rfl,rfl⟩,⟨rfl,rfl,rfl⟩,rfl,rfl,rfl,trivial⟩⟩
     ·rw [et,lbq];rfl
     ·rw [et]
      show List.take (t7 e x.src k).length (toC ((t7 e x.src k).map H9))++toC [H9 ((k:Int),((-1:Int):Rat))]=_
      exact a8I rfl
    ·have et:t7 e x.src (k+1)=t7 e x.src k:=by rw [a3A hy,if_neg c1,if_neg c2]
     conv=>whnf
     repeat' (first|refine zx ?_|refine i3 hyt ?_|refine zd ?_ ?_<;>intro h<;>try omega|fail)<;>conv=>whnf
     all_goals try omega
     refine ⟨hlt,trivial,[some 0,some 1,some 2,some 3],rfl,rfl,⟨⟨rfl,rfl,rfl,.inr ⟨⟨rfl,rfl,rfl,rfl,rfl,rfl,trivial⟩,trivial⟩⟩,⟨rfl,rfl,rfl,.inl ⟨rfl,a3O x⟩⟩,⟨rfl,rfl,rfl,.inr ⟨⟨⟨rfl,rfl,?_,fun h=>h⟩,rfl,rfl,rfl,rfl,rfl,trivial⟩,trivial⟩⟩,b8 rfl rfl rfl ?_ rfl,trivial⟩,⟨rfl,⟨rfl,rfl,rfl⟩,⟨rfl,rfl,rfl⟩,⟨rfl,rfl,rfl⟩,rfl,rfl,rfl,trivial⟩⟩
     ·rw [et]
     ·rw [et]
  ·have hke:k=i:=by omega
   subst hke
   conv=>whnf
   repeat' (first|refine zx ?_|refine qp im ?_|refine qp toC ?_|refine qp toC ?_|refine D5 (by simp [toC]) (by simp [toC];omega) ?_|refine zd ?_ ?_<;>intro h<;>try omega|fail)<;>conv=>whnf
   all_goals try omega
   refine s7 ⟨show VC _ (fun id=>O3 [] id=true) _ _ from B7 rfl rfl (by intro h;cases h) rfl (rows:=(t7 e x.src k++[((k:Int),((-1:Int):Rat))]).map H9) ?_ ?_,rfl,rfl,rfl,rfl,rfl,trivial⟩
   ·show List.take (t7 e x.src k).length (toC ((t7 e x.src k).map H9))++toC [H9 ((k:Int),((-1:Int):Rat))]=_
    exact a8I rfl
   ·rw [lbr,lbq];rfl
theorem a4M {e:Ev}:∀{l:List D6},N0 e l=0->∀c ∈ l,0<=c.mv∧c.mv<e.moves.length
 |[],_,c,hc=>by cases hc
 |g::r,h,c,hc=>by
  unfold N0 at h
  by_cases h1:a0l e g.mv g.kind≠0
  ·rw [if_pos h1] at h;exact absurd h h1
  rw [if_neg h1] at h
  rcases lbA.1 hc with rfl|hc
  ·unfold a0l at h1
   by_cases h3:c.mv<0∨(e.moves.length:Int)<=c.mv
   ·rw [if_pos h3] at h1;exact absurd (by decide) h1
   omega
  ·exact a4M h c hc
theorem b2o {e:Ev} {Z:List Rat} (hZ:∀v ∈ Z,rl v<=200) (hm:e.moves.length<=200) {k:Nat} (hk:k<=200) (p:Nat):rl (H8 e Z k p)<=50000:=by
 have hB:∀l ∈ col Z,∀x ∈ l,rl x<=200:=fun l hl x hx=>by
  obtain ⟨v,hv,rfl⟩:=lbx.1 hl
  simp at hx
  subst hx
  exact hZ x hv
 have:=b4V (e:=e) hB (by decide) k p 0
 have h2:=lbT (200+1) hk
 unfold H8
 omega
def hiR (o:Option (Rat × Rat)):Rat:=match o with
 |some (_,hi)=>hi
 |none=>0
theorem b4d {o:Option (Rat × Rat)} {lo hi:Rat} (h:o=some (lo,hi)):hi=hiR o:=by rw [h];rfl
theorem a6V {e:Ev} {x:t4} (h:(O5 e x).isSome=true):hiF (O5 e x)=fz (hiR (O5 e x))∧rl (hiR (O5 e x))<=200:=by
 cases hiv:O5 e x with
 |none=>rw [hiv] at h;cases h
 |some p=>
  obtain ⟨lo,hi⟩:=p
  refine ⟨rfl,?_⟩
  show rl hi<=200
  unfold O5 at hiv
  by_cases hs:x.scale=-1
  ·rw [if_pos hs] at hiv;cases hiv
  ·rw [if_neg hs] at hiv
   have:=(aJ6 hiv).2
   omega
theorem b5t {t:g7} {kind:Int} {i:Nat} {x:t4} (hx:t.ev.moves[i]? =some x) (ht:J6 t.ev t.finds=0) (hl:t.finds.length<=1000000) (z:Rat) (hz:rl z<=200):
 b9 Tryz.prog 117 [.agg ((U4 t kind i).map .t),frS (fz z)] [] (b7 .i64 (a0R t kind i x z)) []:=by
 have h:=b3n (hiF (a0o t.ev i)) (a0o t.ev i).isSome (hiR (a0o t.ev i)) (j9 t.finds kind i) (p8 t.cleans kind i) z
  (by rw [a79 hx];exact a6V) hz (fun g hg=>by
    unfold j9 at hg
    obtain ⟨f,hf,rfl⟩:=lbx.1 hg
    have:=S9 ht f (lby.1 hf).1
    omega) (by unfold j9;rw [lbr];exact lbR (lbt _ _) hl)
 rw [b5b hx (fun lo hi' h=>(b4d h))] at h
 exact h
theorem aI2 {l:List Fr} {i:Nat} {y:Fr}:(toC (l.map s9)).set i (frC y)=toC ((l.set i y).map s9):=by simp [toC,List.map_set,s9]
theorem aY2 {n:Nat} {ρ:List (Option Nat)} {H:Hp}:a4s ρ H (List.replicate n [C.t (ti 0),C.t (.sl 0 .nil []),C.t (ti 0),C.t (.sl 0 .nil [])]) (toC ((a2i 0 n).map s9)):=by
 rw [b0G]
 refine a5j (by simp [toC]) fun i x y hx hy=>?_
 have hi:i<n:=by have:=(lbe.1 hx).1;simpa using this
 rw [lbk,if_pos hi] at hx
 injection hx with hx
 subst hx
 unfold toC at hy
 rw [lba,lba,lbk,if_pos hi] at hy
 injection hy with hy
 subst hy
 exact ⟨rfl,rfl,rfl,rfl,trivial⟩
theorem b2P {e:Ev} {Z:List Rat} {j k s d:Nat} {x:t4} {v:Rat} (hx:e.moves[j]? =some x) (hv:Z.getD j 0=v) (hs:x.src=s) (hd:x.dst=d) (hsk:s<k) (hdk:d<k) (hsd:s≠d):
 ((a6s k (H8 e Z j)).set s (fz (H8 e Z j s - v))).set d (fz (H8 e Z j d+v))=a6s k (H8 e Z (j+1)):=by
 rw [aN0 hsk,aN0 hdk]
 congr 1
 funext p
 rw [a81 hx,hv]
 have c1:(x.src=(p:Int))↔p=s:=by omega
 have c2:(x.dst=(p:Int))↔p=d:=by omega
 simp only [c1,c2]
 by_cases h1:p=d
 ·subst h1
  rw [if_pos rfl,if_neg (fun h=>hsd h.symm),if_pos rfl]
 ·rw [if_neg h1]
  by_cases h2:p=s
  ·subst h2;rw [if_pos rfl,if_pos rfl]
  ·rw [if_neg h2,if_neg h2,if_neg h1]
theorem b3w {x y:Rat}:Z9 x y=0↔x=y:=by
 have h1:=b1O (x:=x) (y:=y)
 have h2:=a7q (x:=x) (y:=y)
 constructor
 ·intro h
  have q1:x<=y:=h1.1 (by omega)
  have q2:¬x<y:=fun h'=>by have:=h2.2 h';omega
  grind
 ·intro h
  have q1:Z9 x y<=0:=h1.2 (by grind)
  have q2:¬Z9 x y<0:=fun h'=>by have:=h2.1 h';grind
  omega
theorem aj0 (t:g7) (kind:Int) (z:List Fr) (hs:t.Sized) (hl:z.length<=1000000) (hd:∀f ∈ z,f.p.dl.length<=200∧f.q.dl.length<=200):
 b9 Tryz.prog 50 [trS t,b7 .i64 kind,G3 z] [] (b7 .i64 (O9 t kind z)) []:=by
 have ck:=a38 t hs
 have m1:(z.map s9).length=z.length:=by simp
 have m2:(t.ev.moves.map t4.row).length=t.ev.moves.length:=by simp
 have m3:(t.ev.places.map a0b.row).length=t.ev.places.length:=by simp
 by_cases h1:n9 t≠0∨kind<0∨8<=kind
 ·have e1:O9 t kind z=1:=by unfold O9;rw [if_pos h1]
  rw [e1]
  (refine ac Tryz.func50 ?_;(conv=>whnf);repeat ((first|refine b0x ?_|refine zy ?_);conv=>whnf))
  repeat' (first|refine zx ?_|refine qp ck ?_|refine zd ?_ ?_<;>intro h<;>try omega|fail)<;>conv=>whnf
  all_goals first
   |omega
   |exact t6 rfl
 obtain ⟨k1,k2,k3⟩:n9 t=0∧0<=kind∧kind<8:=by omega
 rw [k1] at ck
 by_cases h2:z.length≠t.ev.moves.length
 ·have e1:O9 t kind z=2:=by unfold O9;rw [if_neg h1,if_pos h2]
  rw [e1]
  (refine ac Tryz.func50 ?_;(conv=>whnf);repeat ((first|refine b0x ?_|refine zy ?_);conv=>whnf))
  repeat' (first|refine zx ?_|refine qp ck ?_|refine zd ?_ ?_<;>intro h<;>try omega|fail)<;>conv=>whnf
  all_goals first
   |omega
   |exact t6 rfl
 have h2:z.length=t.ev.moves.length:=by omega
 have e1:O9 t kind z=if z.all N2 then X9 t kind (z.map fv) 0 t.ev.moves else 2:=by unfold O9;rw [if_neg h1,if_neg (by omega)]
 rw [e1]
 clear e1 h1
 obtain ⟨q1,q2,q3,q4,q5⟩:=z6 k1
 obtain ⟨b1,b2,b3,b4⟩:=a1l q1
 have kn:=b1B t kind hs q1 (fun f hf=>by have:=S9 q4 f hf;omega) (fun c hc=>a4M q5 c hc)
 have i0:=I3 0 (by decide) (by decide)
 (refine ac Tryz.func50 ?_;(conv=>whnf);repeat ((first|refine b0x ?_|refine zy ?_);conv=>whnf))
 repeat' (first|refine zx ?_|refine qp ck ?_|refine zd ?_ ?_<;>intro h<;>try omega|fail)<;>conv=>whnf
 all_goals try omega
 refine j7 g6 (fun k=>([J,b7 .i64 kind,G3 z,S.c (C.t (T.ptr (trT t))),J,J,J,S.c (C.ptr 0 0 0)]++Jn 28++[G3 z,b7 .i64 z.length,b7 .i64 k]++Jn 112,[evB t.ev])) z.length (fun k=>(z.take k).all N2=true) [some 0] rfl
  ⟨rfl,rfl,⟨⟨rfl,rfl,rfl,.inl ⟨rfl,k8 _⟩⟩,trivial⟩,⟨rfl,rfl,rfl,⟨rfl,rfl,rfl⟩,rfl,e8 (by simp),rfl,trivial⟩⟩ ?_
 intro k hk hI
 by_cases hlt:k<z.length
 ·obtain ⟨f,hf⟩:∃f,z[k]? =some f:=⟨_,lbf hlt⟩
  obtain ⟨d1,d2⟩:=hd f (lbm hf)
  have r:=ag8 f (by omega) (by omega)
  cases hr:N2 f with
  |true=>
   rw [hr] at r
   conv=>whnf
   repeat' (first|refine zx ?_|refine qp r ?_|refine i3 hf ?_|refine zd ?_ ?_<;>intro h<;>try omega|fail)<;>conv=>whnf
   all_goals first
    |omega
    |exact ⟨hlt,by rw [F8 hf,hI,hr];rfl,[some 0],rfl,rfl,⟨⟨rfl,rfl,rfl,.inl ⟨rfl,k8 _⟩⟩,trivial⟩,⟨rfl,rfl,rfl,⟨rfl,rfl,rfl⟩,rfl,rfl,rfl,trivial⟩⟩
  |false=>
   rw [hr] at r
   rw [K5 hf hr]
   conv=>whnf
   repeat' (first|refine zx ?_|refine qp r ?_|refine i3 hf ?_|refine zd ?_ ?_<;>intro h<;>try omega|fail)<;>conv=>whnf
   all_goals first
    |omega
    |exact t6 rfl
 have hz:z.all N2=true:=by rw [← hI,lbn (by omega)]
 rw [if_pos hz]
 obtain ⟨Z,rfl⟩:=ak9 hz
 rw [aB5]
 have hZ:∀v ∈ Z,rl v<=200:=fun v hv=>by
  have:=hd (fz v) (lbx.2 ⟨v,hv,rfl⟩)
  exact Nat.max_le.2 this
 have zl:Z.length=t.ev.moves.length:=by simpa using h2
 generalize hN:t.ev.places.length=N at *
 conv=>whnf
 repeat' (first|refine zx ?_|refine a4e (by omega) (by omega) (by omega) (by decide) ?_|refine zd ?_ ?_<;>intro h<;>try omega|fail)<;>conv=>whnf
 all_goals try omega
 clear hI hlt hk
 refine j7 g6 (fun k=>([J,b7 .i64 kind,G3 (Z.map fz),S.c (C.t (T.ptr (trT t))),J,J,J,S.c (C.ptr 0 0 0),J,J,S.c (C.own 1 0 N true)]++Jn 40++[b7 .i64 N,b7 .i64 k]++Jn 98,[evB t.ev,b7M (a2i k N)])) N (fun _=>True) [some 0,some 1] trivial ?_ ?_
 ·refine ⟨rfl,rfl,⟨⟨rfl,rfl,rfl,.inl ⟨rfl,k8 _⟩⟩,⟨rfl,rfl,rfl,.inr ?_⟩,trivial⟩,⟨rfl,rfl,rfl,⟨rfl,rfl,rfl⟩,⟨rfl,rfl,?_,fun h=>h⟩,e8 (by omega),rfl,trivial⟩⟩
  ·have e9:((((t.ev.places.map a0b.row).length:Nat):Int)).toNat=N:=by omega
   show a4s _ _ (List.replicate ((((t.ev.places.map a0b.row).length:Nat):Int)).toNat _) _
   rw [e9]
   exact aY2
  ·omega
 intro k hk _
 by_cases hlt:k<N
 ·have eM:0+(k:Int).toNat=k:=by omega
  obtain ⟨pf,hpf⟩:∃pf,(a2i k N)[k]? =some pf:=⟨_,a5h hlt⟩
  have gp:(a2i k N)[0+(k:Int).toNat]? =some pf:=by rw [eM];exact hpf
  conv=>whnf
  repeat' (first|refine zx ?_|refine qp i0 ?_|refine q9 gp ?_|refine zd ?_ ?_<;>intro h<;>try omega|fail)<;>conv=>whnf
  all_goals try omega
  refine ⟨hlt,trivial,[some 0,some 1],rfl,rfl,⟨⟨rfl,rfl,rfl,.inl ⟨rfl,k8 _⟩⟩,b8 rfl rfl rfl ?_ rfl,trivial⟩,⟨rfl,rfl,rfl,⟨rfl,rfl,rfl⟩,⟨rfl,rfl,rfl,fun h=>h⟩,rfl,rfl,trivial⟩⟩
  have e:=b4J (row:=a2i k N) (y:=fz zR) eM
  rw [b2K hlt] at e
  exact congrArg Blk.rows e
 have hke:k=N:=by omega
 subst hke
 conv=>whnf
 repeat' (first|refine zx ?_|refine qp kn ?_|refine zd ?_ ?_<;>intro h<;>try omega|fail)<;>conv=>whnf
 all_goals try omega
 clear hlt hk
 refine j7 g6 (fun j=>([J,J,G3 (Z.map fz),J,J,J,J,S.c (C.ptr 0 0 0),J,J,S.c (C.own 1 0 k true)]++Jn 51++[S.c (C.t (a1S t kind)),b7 .i64 t.ev.moves.length,b7 .i64 j]++Jn 86,[evB t.ev,b7M (a6s k (H8 t.ev Z j))])) t.ev.moves.length (fun j=>X9 t kind Z j (t.ev.moves.drop j)=X9 t kind Z 0 t.ev.moves) [some 0,some 1] rfl ?_ ?_
 ·refine ⟨rfl,rfl,⟨⟨rfl,rfl,rfl,.inl ⟨rfl,k8 _⟩⟩,b8 rfl rfl rfl ?_ rfl,trivial⟩,⟨rfl,⟨rfl,rfl,rfl⟩,⟨rfl,rfl,rfl,fun h=>h⟩,rfl,e8 (by simp),rfl,trivial⟩⟩
  rw [b2u]
  rfl
 intro j hj hI
 by_cases hlt:j<t.ev.moves.length
 ·obtain ⟨x,hx⟩:∃x,t.ev.moves[j]? =some x:=⟨_,lbf hlt⟩
  have hmo:=K6 q1 (lbm hx)
  have ms:=Y2 hmo
  have md:=a6y hmo
  have hne:x.src≠x.dst:=by unfold R9 at hmo;simp only [lbM,lbI] at hmo;exact hmo.1.1.1.1.1.2
  obtain ⟨s,hsn⟩:∃s:Nat,x.src=s:=⟨x.src.toNat,by omega⟩
  obtain ⟨d,hdn⟩:∃d:Nat,x.dst=d:=⟨x.dst.toNat,by omega⟩
  have hsk:s<k:=by omega
  have hdk:d<k:=by omega
  have hsd:s≠d:=by omega
  obtain ⟨v,hv⟩:∃v,Z[j]? =some v:=⟨_,lbf (by omega)⟩
  have hvd:Z.getD j 0=v:=by rw [lbl,hv];rfl
  have bv:=hZ v (lbm hv)
  have bs:=b2o (e:=t.ev) hZ b4 (k:=j) (by omega) s
  have bd:=b2o (e:=t.ev) hZ b4 (k:=j) (by omega) d
  have cm:=a0N v (H8 t.ev Z j s) (by omega) (by omega)
  have sg:=X8 v (by omega)
  have sb:=b0b (H8 t.ev Z j s) v (by omega) (by omega)
  have ad:=a5f (H8 t.ev Z j d) v (by omega) (by omega)
  have bn:=b9e t.ev q1 hx
  have al:=b5t (kind:=kind) hx q4 hs.f v bv
  have gk:(List.range t.ev.moves.length)[j]? =some j:=lbh hlt
  have zk:=aN8 Z hv
  have eS:0+x.src.toNat=s:=by omega
  have eD:0+x.dst.toNat=d:=by omega
  have xs:(a6s k (H8 t.ev Z j))[0+x.src.toNat]? =some (fz (H8 t.ev Z j s)):=by rw [eS];exact a7N hsk
  have xd:(a6s k (H8 t.ev Z j))[0+x.dst.toNat]? =some (fz (H8 t.ev Z j d)):=by rw [eD];exact a7N hdk
  have cg:=ag5 (x:=v) (y:=H8 t.ev Z j s)
  have cz:=b3w (x:=v) (y:=H8 t.ev Z j s)
  have sn:=b18 (x:=v)
  rw [a4p hx] at hI
  have hI:(if tAt t kind Z j x≠0 then tAt t kind Z j x else X9 t kind Z (j+1) (t.ev.moves.drop (j+1)))=X9 t kind Z 0 t.ev.moves:=hI
  have hta:tAt t kind Z j x=a0u t kind j x v (H8 t.ev Z j s):=by unfold tAt;rw [hvd,show x.src.toNat=s by omega]
  rw [hta] at hI
  have fin3:∀(c:Int) (H1:Hp),a0u t kind j x v (H8 t.ev Z j s)=c->c≠0->Fin 0 (b7 .i64 c) H1 (b7 .i64 (X9 t kind Z 0 t.ev.moves)) []:=fun c H1 h hc=>t6 (by rw [← hI,h,if_pos hc])
  generalize Z9 v (H8 t.ev Z j s)=U at cm cg cz
  generalize sgR v=W at sg sn
  have hse:0+x.src.toNat≠0+x.dst.toNat:=by omega
  have e0:as4 t.ev x v (H8 t.ev Z j s)=if v<0 then 3 else if B6 t.ev x.src≠0∧H8 t.ev Z j s<v then 4 else if x.all=true∧v≠H8 t.ev Z j s then 7 else 0:=rfl
  by_cases c1:v<0
  ·have e3:a0u t kind j x v (H8 t.ev Z j s)=3:=by unfold a0u;rw [e0,if_pos c1];rfl
   have w1:W<0:=sn.2 c1
   conv=>whnf
   repeat' (first|refine zx ?_|refine qp cm ?_|refine qp sg ?_|refine qp bn ?_|refine qp al ?_|refine qp sb ?_|refine qp ad ?_|refine qp 15 ?_|refine i3 hx ?_|refine i3 gk ?_|refine i3 zk ?_|refine q9 xs ?_|refine a23 hse xd ?_|refine bl0 [15] ?_|refine zd ?_ ?_<;>intro h<;>try omega|fail)<;>conv=>whnf
   all_goals first
    |omega
    |exact fin3 3 _ e3 (by decide)
  have w1:¬W<0:=fun h=>c1 (sn.1 h)
  rw [if_neg c1] at e0
  by_cases c2:B6 t.ev x.src≠0∧H8 t.ev Z j s<v
  ·have e3:a0u t kind j x v (H8 t.ev Z j s)=4:=by unfold a0u;rw [e0,if_pos c2];rfl
   have w2:U > 0:=cg.2 c2.2
   rw [lbJ c2.1] at bn
   conv=>whnf
   repeat' (first|refine zx ?_|refine qp cm ?_|refine qp sg ?_|refine qp bn ?_|refine qp al ?_|refine qp sb ?_|refine qp ad ?_|refine qp 15 ?_|refine i3 hx ?_|refine i3 gk ?_|refine i3 zk ?_|refine q9 xs ?_|refine a23 hse xd ?_|refine bl0 [15] ?_|refine zd ?_ ?_<;>intro h<;>try omega|fail)<;>conv=>whnf
   all_goals first
    |omega
    |exact fin3 4 _ e3 (by decide)
  rw [if_neg c2] at e0
  have w2:B6 t.ev x.src=0∨¬U > 0:=by
   by_cases h:B6 t.ev x.src=0
   ·exact .inl h
   ·exact .inr fun h'=>c2 ⟨h,cg.1 h'⟩
  by_cases c3:x.all=true∧v≠H8 t.ev Z j s
  ·have e3:a0u t kind j x v (H8 t.ev Z j s)=7:=by unfold a0u;rw [e0,if_pos c3];rfl
   have w3:U≠0:=fun h=>c3.2 (cz.1 h)
   have w4:=c3.1
   by_cases hb:B6 t.ev x.src=0
   ·rw [lbH hb] at bn
    conv=>whnf
    repeat' (first|refine zx ?_|refine qp cm ?_|refine qp sg ?_|refine qp bn ?_|refine qp al ?_|refine qp sb ?_|refine qp ad ?_|refine qp 15 ?_|refine i3 hx ?_|refine i3 gk ?_|refine i3 zk ?_|refine q9 xs ?_|refine a23 hse xd ?_|refine bl0 [15] ?_|refine zd ?_ ?_<;>intro h<;>try omega|fail)<;>conv=>whnf
    all_goals first
     |omega
     |exact fin3 7 _ e3 (by decide)
     |(exfalso;simp_all;done)
   ·rw [lbJ hb] at bn
    conv=>whnf
    repeat' (first|refine zx ?_|refine qp cm ?_|refine qp sg ?_|refine qp bn ?_|refine qp al ?_|refine qp sb ?_|refine qp ad ?_|refine qp 15 ?_|refine i3 hx ?_|refine i3 gk ?_|refine i3 zk ?_|refine q9 xs ?_|refine a23 hse xd ?_|refine bl0 [15] ?_|refine zd ?_ ?_<;>intro h<;>try omega|fail)<;>conv=>whnf
    all_goals first
     |omega
     |exact fin3 7 _ e3 (by decide)
     |(exfalso;simp_all;done)
  rw [if_neg c3] at e0
  have w3:x.all=false∨U=0:=by
   cases h:x.all with
   |false=>exact .inl rfl
   |true=>
    refine .inr (cz.2 ?_)
    by_cases h':v=H8 t.ev Z j s
    ·exact h'
    ·exact absurd ⟨h,h'⟩ c3
  have e3:a0u t kind j x v (H8 t.ev Z j s)=a0R t kind j x v:=by unfold a0u;rw [e0,if_neg (by simp)]
  have er:=b2P hx hvd hsn hdn hsk hdk hsd
  have bnx:b9 Tryz.prog 116 [evS t.ev,b7 .i64 j] [] (j0 (decide (B6 t.ev x.src=0))) []:=bn
  by_cases ha:a0R t kind j x v≠0
  ·have fa:=fun H1=>fin3 _ H1 e3 ha
   generalize a0R t kind j x v=Q at al ha fa
   rcases w3 with w3|w3
   all_goals
    by_cases hb:B6 t.ev x.src=0
    case' pos=>rw [lbH hb] at bn
    case' neg=>rw [lbJ hb] at bn
    all_goals
     conv=>whnf
     repeat' (first|refine zx ?_|refine qp cm ?_|refine qp sg ?_|refine qp bn ?_|refine qp al ?_|refine qp sb ?_|refine qp ad ?_|refine qp 15 ?_|refine i3 hx ?_|refine i3 gk ?_|refine i3 zk ?_|refine q9 xs ?_|refine a23 hse xd ?_|refine bl0 [15] ?_|refine zd ?_ ?_<;>intro h<;>try omega|fail)<;>conv=>whnf
     all_goals first
      |omega
      |exact fa _
      |(exfalso;simp_all;done)
  ·have ha:a0R t kind j x v=0:=by omega
   rw [e3,ha,if_neg (by simp)] at hI
   rw [ha] at al
   have nxt:((toC ((a6s k (H8 t.ev Z j)).map s9)).set (0+x.src.toNat) (frC (fz (H8 t.ev Z j s - v)))).set (0+x.dst.toNat) (frC (fz (H8 t.ev Z j d+v)))=toC ((a6s k (H8 t.ev Z (j+1))).map s9):=by
    rw [aI2,aI2,eS,eD,er]
   rcases w3 with w3|w3
   all_goals
    by_cases hb:B6 t.ev x.src=0
    case' pos=>rw [lbH hb] at bn
    case' neg=>rw [lbJ hb] at bn
    all_goals
     conv=>whnf
     repeat' (first|refine zx ?_|refine qp cm ?_|refine qp sg ?_|refine qp bn ?_|refine qp al ?_|refine qp sb ?_|refine qp ad ?_|refine qp 15 ?_|refine i3 hx ?_|refine i3 gk ?_|refine i3 zk ?_|refine q9 xs ?_|refine a23 hse xd ?_|refine bl0 [15] ?_|refine zd ?_ ?_<;>intro h<;>try omega|fail)<;>conv=>whnf
     all_goals first
      |omega
      |exact ⟨hlt,hI,[some 0,some 1],rfl,rfl,⟨⟨rfl,rfl,rfl,.inl ⟨rfl,k8 _⟩⟩,b8 rfl rfl rfl nxt rfl,trivial⟩,⟨rfl,⟨rfl,rfl,rfl⟩,⟨rfl,rfl,rfl,fun h=>h⟩,rfl,rfl,rfl,trivial⟩⟩
      |(exfalso;simp_all;done)
 ·rw [lbo (by omega)] at hI
  have hI:0=X9 t kind Z 0 t.ev.moves:=hI
  conv=>whnf
  repeat' (first|refine zx ?_|refine zd ?_ ?_<;>intro h<;>try omega|fail)<;>conv=>whnf
  all_goals first
   |omega
   |exact t6 hI
end Go.Proofs.YtikokmdpigploaaGreat
