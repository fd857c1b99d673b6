/- Part 5. -/
import Derived.Test.YtdbogogfeffjlaaGreatQf4
namespace Go.Proofs.YtdbogogfeffjlaaGreat
set_option linter.unusedVariables false
set_option linter.unusedSimpArgs false
set_option maxRecDepth 100000
open Go.RowKit
open St1 St2 St3 St4 St5 St6 St7 St8 StA StB
theorem au8 {H:Hp} {p:Nat->Prop} {ys:List C} {us:List T} (h2:VYL H p ys us):∀{ts:List T},VYL H p (ts.map C.t++ys) (ts++us)
 |[]=>h2
 |t::r=>⟨b2h,au8 h2⟩
theorem b5G {m n:Nat} {fr:List (Nat × Bool)} {D:Fd} {X:Hp}:VY (L3 m n fr D.V D.G D.O D.F D.A X) (fun _=>True) (.own 1 0 m true) (.sl 5 .any (a8C m n D)):=by
 refine b2Y (k:=a0N 6 m n D.V) trivial rfl (fun h=>h) rfl (a4Z m n D) ?_ ?_
 ·intro r hr
  obtain ⟨i,_,rfl⟩:=List.mem_map.1 hr
  rfl
 ·intro i r hi
  have him:i<m:=by have:=(lg1 hi).1;rwa [a4Z] at this
  rw [a8h him] at hi
  injection hi with hi
  subst hi
  refine ⟨_,a2w him,?_⟩
  show VYL _ _ ((s7 (fz (D.V i))).map C.t++[C.own (i+6) 0 n true]) _
  have hv:VY (L3 m n fr D.V D.G D.O D.F D.A X) (fun _=>True) (C.own (i+6) 0 n true) (T.sl 4 .any ((rF n (D.A i)).map s7)):=
   .vc (v4 (k:=flB (rF n (D.A i))) trivial (L2 (Q8 him)) (fun h=>h) rfl rfl (by simp [M6]))
  exact au8 (ys:=[C.own (i+6) 0 n true]) (us:=[T.sl 4 .any ((rF n (D.A i)).map s7)]) (show _∧True from ⟨hv,trivial⟩)
theorem b83 {m n:Nat} {fr:List (Nat × Bool)} {D:Fd} {X:Hp}:VY (L3 m n fr D.V D.G D.O D.F D.A X) (fun _=>True) (.ptr 0 0 0) (.ptr (b5K m n fr D)):=by
 refine ad6 (k:=aV8 m n fr.length) trivial rfl (fun h=>h) rfl ⟨b2h,b5G,?_,?_,?_,?_,trivial⟩
 ·exact .vc (v4 (k:=flB (rF n D.G)) trivial rfl (fun h=>h) rfl rfl (by simp [M6]))
 ·exact .vc (v4 (k:=Y7 m D.O) trivial rfl (fun h=>h) rfl rfl (by simp [y4]))
 ·exact .vc (v4 (k:=Y7 n D.F) trivial rfl (fun h=>h) rfl rfl (by simp [y4]))
 ·exact .vc (v4 (k:=a1V fr) trivial rfl (fun h=>h) rfl rfl (by simp [a0e]))
abbrev bxD:Blk:={ mode:=.live,elem:=217,size:=1,rows:=[[.ptr 0 0 0]],box:=true }
abbrev bxI (i:Int):Blk:={ mode:=.live,elem:=3,size:=1,rows:=[[.t (ti i)]],box:=true }
theorem aw6 {m n:Nat} {fr:List (Nat × Bool)} {D:Fd} {X:Hp}:VY (L3 m n fr D.V D.G D.O D.F D.A (bxD::X)) (fun _=>True) (.ptr (m+6) 0 0) (a69 m n fr D):=by
 refine ad6 (k:=bxD) trivial ?_ (fun h=>h) rfl ⟨b83,trivial⟩
 show (((mF m n D.A).map flB)++bxD::X)[m]? =_
 rw [List.getElem?_append_right (by simp [b8])]
 simp [b8]
theorem b3v {m n t:Nat} {fr:List (Nat × Bool)} {D:Fd} {X:Hp} {i:Int} (h:X[t]? =some (bxI i)):VY (L3 m n fr D.V D.G D.O D.F D.A X) (fun _=>True) (.ptr (m+6+t) 0 0) (.ptr [ti i]):=by
 refine ad6 (k:=bxI i) trivial ?_ (fun h=>h) rfl ⟨b2h,trivial⟩
 show (L3 m n fr D.V D.G D.O D.F D.A X)[m+6+t]? =_
 rw [show m+6+t=m+t+6 by omega]
 show (((mF m n D.A).map flB)++X)[m+t]? =_
 rw [List.getElem?_append_right (by simp [b8])]
 simpa [b8] using h
theorem b94 {m n:Nat} {fr:List (Nat × Bool)} {D:Fd} {X:Hp}:VYS (L3 m n fr D.V D.G D.O D.F D.A X) (fun _=>True) (.c (.own 3 0 m true)) (a7G m D.O):=.vc (v4 (k:=Y7 m D.O) trivial rfl (fun h=>h) rfl rfl (by simp [y4]))
theorem b9u {m n:Nat} {fr:List (Nat × Bool)} {D:Fd} {X:Hp}:VYS (L3 m n fr D.V D.G D.O D.F D.A X) (fun _=>True) (.c (.own 4 0 n true)) (a7G n D.F):=.vc (v4 (k:=Y7 n D.F) trivial rfl (fun h=>h) rfl rfl (by simp [y4]))
theorem a9f {m n:Nat} {fr:List (Nat × Bool)} {D:Fd} {r s:Nat} (X:Hp) (h:a9 Tryz.prog 262 [.c (.ptr 0 0 0),a7 .i64 r,a7 .i64 s] (a09 m n fr D) (.tup []) (a09 m n fr (D.exch r s))):
 a9 Tryz.prog 262 [.c (.ptr 0 0 0),a7 .i64 r,a7 .i64 s] (L3 m n fr D.V D.G D.O D.F D.A X) (.tup []) (L3 m n fr (D.exch r s).V (D.exch r s).G (D.exch r s).O (D.exch r s).F (D.exch r s).A X):=by
 have hl:∀{D:Fd},∀k ∈ a09 m n fr D,k.mode=.live∧k.app=false:=by
  intro D k hk
  simp only [List.mem_cons] at hk
  rcases hk with rfl|rfl|rfl|rfl|rfl|rfl|hk
  ·exact ⟨rfl,rfl⟩
  ·exact ⟨rfl,rfl⟩
  ·exact ⟨rfl,rfl⟩
  ·exact ⟨rfl,rfl⟩
  ·exact ⟨rfl,rfl⟩
  ·exact ⟨rfl,rfl⟩
  ·obtain ⟨l,_,rfl⟩:=List.mem_map.1 hk
   exact ⟨rfl,rfl⟩
 exact a8L (n:=m+6) X h a2O a2O (by simp [okS,okC,a7,Nat.blt_eq]) (fun k hk=>⟨(hl k hk).1,(hl k hk).2,a6z k hk⟩) (fun k hk=>⟨(by rw [(hl k hk).1];intro h;cases h),a6z k hk⟩) rfl rfl
def aR0:b2B->Int × Int
 |.best=>(-1,-1)
 |.row r=>(r,-1)
 |.col s=>(-1,s)
 |.next r s=>(r,s)
theorem b46 {N:Nat} (h:0<N):okB N bxD:=by
 intro r hr c hc
 simp at hr;subst hr
 simp at hc;subst hc
 exact h
set_option maxHeartbeats 4000000 in
theorem b5a (m n:Nat) (fr:List (Nat × Bool)) (D0:Fd) (g0:Nat->Rat) (hm:m<=100000) (hn:n<=1000) (h0:a5Q m n D0 g0 D0) (hB:∀D,W5 m n D0 D->BdD m n 30000 D):
 a9 Tryz.prog 200 [.c (.ptr 0 0 0)] (a09 m n fr D0) (.tup [a7 .i64 (aR0 (C7 m n (a9j m n D0))).1,a7 .i64 (aR0 (C7 m n (a9j m n D0))).2]) (a09 m n fr (a9j m n D0)):=by
 (refine ac Tryz.func200 ?_;(conv=>whnf);repeat (refine zy ?_;conv=>whnf))
 repeat' (first|refine zz ?_|refine a4B (b8 _ _ _) ?_|refine a3v ?_|refine zd ?_ ?_<;>intro h<;>try omega|refine zy ?_|fail)<;>conv=>whnf
 refine o5 d7 (σ:=Fd) (fun D=>([J,S.c (C.ptr (m+6) 0 0),J,J,J,J,J,J,J,J,J,J,J,J,J,J,J,J,J,J,J,J,J,J,J,J,J,J,J,J,J,J,J,J,J,J,J,J,J,J,J,J,J,J,J,J,J,J,J,J,J,J,J,J,J,J,J,J,J,J,J,J,J,J,J,J,J,J,J,J,J],L3 m n fr D.V D.G D.O D.F D.A [bxD])) (fun D=>W5 m n D0 D) (fun D=>a8E m n D) D0 (idR (m+7)) aQ2 ?_ ?_
 ·refine U5 (T':=[]) (a0V rfl rfl rfl rfl rfl rfl (by rw [List.append_nil,List.append_nil];rfl)) rfl (by simp [b8]) (by intro k hk;simp at hk;subst hk;exact b46 (by omega)) ⟨⟨o8 (by omega),rfl,rfl⟩,trivial⟩
 intro D hD
 have bd:=hB D hD
 have inv:a5Q m n D0 g0 D:=by obtain ⟨k,hk⟩:=hD;exact a2N h0 hk
 have l1:=a4X m hm D.O (fun i=>decide (D.V i<0)) 258 [a69 m n fr D] (fun i hi=>b1r m n fr D i hi)
 have l2:=a4X n (by omega) D.F (fun j=>decide (0<D.G j)) 259 [a69 m n fr D] (fun j hj=>b27 m n fr D j hj)
 have va1:∀X,a1G (L3 m n fr D.V D.G D.O D.F D.A (bxD::X)) (fun _=>True) [.c (.own 3 0 m true),.c (.fn (.func 258) [.ptr (m+6) 0 0])] [a7G m D.O,.c (.t (.fn (.func 258) [a69 m n fr D]))]:=
  fun X=>⟨b94,aD7 (show _∧True from ⟨aw6,trivial⟩),trivial⟩
 have va2:∀X,a1G (L3 m n fr D.V D.G D.O D.F D.A (bxD::X)) (fun _=>True) [.c (.own 4 0 n true),.c (.fn (.func 259) [.ptr (m+6) 0 0])] [a7G n D.F,.c (.t (.fn (.func 259) [a69 m n fr D]))]:=
  fun X=>⟨b9u,aD7 (show _∧True from ⟨aw6,trivial⟩),trivial⟩
 have va3:∀X (r:Nat),a1G (L3 m n fr D.V D.G D.O D.F D.A (bxD::bxI r::X)) (fun _=>True) [.c (.own 4 0 n true),.c (.fn (.func 260) [.ptr (m+6) 0 0,.ptr (m+7) 0 0])] [a7G n D.F,.c (.t (.fn (.func 260) [a69 m n fr D,.ptr [ti r]]))]:=
  fun X r=>⟨b9u,aD7 (show _∧_∧True from ⟨aw6,b3v (t:=1) rfl,trivial⟩),trivial⟩
 have va4:∀X (x:Int) (s:Nat),a1G (L3 m n fr D.V D.G D.O D.F D.A (bxD::bxI x::bxI s::X)) (fun _=>True) [.c (.own 3 0 m true),.c (.fn (.func 261) [.ptr (m+6) 0 0,.ptr (m+8) 0 0])] [a7G m D.O,.c (.t (.fn (.func 261) [a69 m n fr D,.ptr [ti s]]))]:=
  fun X x s=>⟨b94,aD7 (show _∧_∧True from ⟨aw6,b3v (t:=2) rfl,trivial⟩),trivial⟩
 have fin0:∀(X:Hp) (r c:Int),G1 m n D=none->(r,c)=aR0 (C7 m n D)->Fin (a09 m n fr D0).length (.tup [a7 .i64 r,a7 .i64 c]) (L3 m n fr D.V D.G D.O D.F D.A X) (.tup [a7 .i64 (aR0 (C7 m n (a9j m n D0))).1,a7 .i64 (aR0 (C7 m n (a9j m n D0))).2]) (a09 m n fr (a9j m n D0)):=by
  intro X r c hn ho
  have e:=b8f h0 hD hn
  rw [← e,←ho]
  have e0:a09 m n fr D=L3 m n fr D.V D.G D.O D.F D.A []:=by
   show _::_::_::_::_::_::_=_::_::_::_::_::_::(_++[])
   rw [List.append_nil]
  rw [e0]
  exact ad1 (N:=m+6) rfl rfl (by simp [b8]) ⟨rfl,rfl,trivial⟩
 have go:∀(X:Hp) (env:Env) (r s:Nat),C7 m n D=.next r s->a0H (idR (m+7)) (L3 m n fr (D.exch r s).V (D.exch r s).G (D.exch r s).O (D.exch r s).F (D.exch r s).A (bxD::X)) env ([J,S.c (C.ptr (m+6) 0 0),J,J,J,J,J,J,J,J,J,J,J,J,J,J,J,J,J,J,J,J,J,J,J,J,J,J,J,J,J,J,J,J,J,J,J,J,J,J,J,J,J,J,J,J,J,J,J,J,J,J,J,J,J,J,J,J,J,J,J,J,J,J,J,J,J,J,J,J,J])->
  ∃ρ x',Ent (a09 m n fr D0).length ρ env (L3 m n fr (D.exch r s).V (D.exch r s).G (D.exch r s).O (D.exch r s).F (D.exch r s).A (bxD::X)) ([J,S.c (C.ptr (m+6) 0 0),J,J,J,J,J,J,J,J,J,J,J,J,J,J,J,J,J,J,J,J,J,J,J,J,J,J,J,J,J,J,J,J,J,J,J,J,J,J,J,J,J,J,J,J,J,J,J,J,J,J,J,J,J,J,J,J,J,J,J,J,J,J,J,J,J,J,J,J,J]) (L3 m n fr x'.V x'.G x'.O x'.F x'.A [bxD])∧W5 m n D0 x'∧a8E m n x'<a8E m n D:=by
  intro X env r s hs hE
  have hnx:G1 m n D=some (D.exch r s):=by unfold G1;rw [hs]
  exact ⟨idR (m+7),D.exch r s,U5 (T:=[bxD]) (T':=X) rfl rfl (by simp [b8]) (by intro k hk;simp at hk;subst hk;exact b46 (by omega)) hE,ah7 hD hnx,aP3 (b7j inv.p inv.g) hnx⟩
 have exc:∀r s:Nat,C7 m n D=.next r s->a9 Tryz.prog 262 [.c (.ptr 0 0 0),a7 .i64 r,a7 .i64 s] (a09 m n fr D) (.tup []) (a09 m n fr (D.exch r s)):=fun r s hs=>by
  obtain ⟨q1,q2,q3⟩:=a5h hs
  exact aU4 m n fr D r s hm hn q1 q2 (a79 q3) bd (hB _ (ah7 hD (by unfold G1;rw [hs])))
 cases hR:U8 D.O (fun i=>decide (D.V i<0)) m with
 |none=>
  rw [hR,show leI none=-1 from rfl] at l1
  cases hS:U8 D.F (fun j=>decide (0<D.G j)) n with
  |none=>
   rw [hS,show leI none=-1 from rfl] at l2
   have hst:C7 m n D=.best:=by unfold C7;rw [hR,hS]
   conv=>whnf
   repeat' (first|refine zz ?_|refine .inl ⟨_,_,k7 l1 (va1 _) rfl,?_⟩|refine .inl ⟨_,_,k7 l2 (va2 _) rfl,?_⟩|refine k6 (b8 _ _ _) ?_|refine k5 ?_|refine F0 (b8 _ _ _) ?_|refine i6 (t:=1) (b8 _ _ _) ?_|refine i6 (t:=2) (b8 _ _ _) ?_|refine i8 (t:=1) (b8 _ _ _) ?_|refine i8 (t:=2) (b8 _ _ _) ?_|refine zd ?_ ?_<;>intro h<;>try omega|refine zy ?_|fail)<;>conv=>whnf
   all_goals first
    |omega
    |exact fin0 _ _ _ (by unfold G1;rw [hst]) (by rw [hst];rfl)
  |some ss=>
   rw [hS,show leI (some ss)=ss from rfl] at l2
   have hss:=(H7 hS).1
   have l4:=a4X m hm D.O (fun i=>decide (0<D.A i ss)) 261 [a69 m n fr D,T.ptr [ti ss]] (fun i hi=>as2 m n fr D i ss hi hss)
   cases hC:U8 D.O (fun i=>decide (0<D.A i ss)) m with
   |none=>
    rw [hC,show leI none=-1 from rfl] at l4
    have hst:C7 m n D=.col ss:=by unfold C7;rw [hR,hS];show a14 m D ss=_;unfold a14;rw [hC]
    conv=>whnf
    repeat' (first|refine zz ?_|refine .inl ⟨_,_,k7 l1 (va1 _) rfl,?_⟩|refine .inl ⟨_,_,k7 l2 (va2 _) rfl,?_⟩|refine .inl ⟨_,_,k7 l4 (va4 _ _ ss) rfl,?_⟩|refine k6 (b8 _ _ _) ?_|refine k5 ?_|refine F0 (b8 _ _ _) ?_|refine i6 (t:=1) (b8 _ _ _) ?_|refine i6 (t:=2) (b8 _ _ _) ?_|refine i8 (t:=1) (b8 _ _ _) ?_|refine i8 (t:=2) (b8 _ _ _) ?_|refine zd ?_ ?_<;>intro h<;>try omega|refine zy ?_|fail)<;>conv=>whnf
    all_goals first
     |omega
     |exact fin0 _ _ _ (by unfold G1;rw [hst]) (by rw [hst];rfl)
   |some rq=>
    rw [hC,show leI (some rq)=rq from rfl] at l4
    have hst:C7 m n D=.next rq ss:=by unfold C7;rw [hR,hS];show a14 m D ss=_;unfold a14;rw [hC]
    have exr:=exc _ _ hst
    conv=>whnf
    repeat' (first|refine zz ?_|refine .inl ⟨_,_,k7 l1 (va1 _) rfl,?_⟩|refine .inl ⟨_,_,k7 l2 (va2 _) rfl,?_⟩|refine .inl ⟨_,_,k7 l4 (va4 _ _ ss) rfl,?_⟩|refine .inr ⟨_,_,a9f _ exr,?_⟩|refine k6 (b8 _ _ _) ?_|refine k5 ?_|refine F0 (b8 _ _ _) ?_|refine i6 (t:=1) (b8 _ _ _) ?_|refine i6 (t:=2) (b8 _ _ _) ?_|refine i8 (t:=1) (b8 _ _ _) ?_|refine i8 (t:=2) (b8 _ _ _) ?_|refine zd ?_ ?_<;>intro h<;>try omega|refine zy ?_|fail)<;>conv=>whnf
    all_goals first
     |omega
     |exact go _ _ _ _ hst ⟨⟨o8 (by omega),rfl,rfl⟩,trivial⟩
 |some rr=>
  rw [hR,show leI (some rr)=rr from rfl] at l1
  cases hS:U8 D.F (fun j=>decide (0<D.G j)) n with
  |none=>
   rw [hS,show leI none=-1 from rfl] at l2
   have hrr:=(H7 hR).1
   have l3:=a4X n (by omega) D.F (fun j=>decide (D.A rr j<0)) 260 [a69 m n fr D,T.ptr [ti rr]] (fun j hj=>am4 m n fr D rr j hrr hj)
   cases hC:U8 D.F (fun j=>decide (D.A rr j<0)) n with
   |none=>
    rw [hC,show leI none=-1 from rfl] at l3
    have hst:C7 m n D=.row rr:=by unfold C7;rw [hR,hS];show a12 n D rr=_;unfold a12;rw [hC]
    conv=>whnf
    repeat' (first|refine zz ?_|refine .inl ⟨_,_,k7 l1 (va1 _) rfl,?_⟩|refine .inl ⟨_,_,k7 l2 (va2 _) rfl,?_⟩|refine .inl ⟨_,_,k7 l3 (va3 _ rr) rfl,?_⟩|refine k6 (b8 _ _ _) ?_|refine k5 ?_|refine F0 (b8 _ _ _) ?_|refine i6 (t:=1) (b8 _ _ _) ?_|refine i6 (t:=2) (b8 _ _ _) ?_|refine i8 (t:=1) (b8 _ _ _) ?_|refine i8 (t:=2) (b8 _ _ _) ?_|refine zd ?_ ?_<;>intro h<;>try omega|refine zy ?_|fail)<;>conv=>whnf
    all_goals first
     |omega
     |exact fin0 _ _ _ (by unfold G1;rw [hst]) (by rw [hst];rfl)
   |some sq=>
    rw [hC,show leI (some sq)=sq from rfl] at l3
    have hst:C7 m n D=.next rr sq:=by unfold C7;rw [hR,hS];show a12 n D rr=_;unfold a12;rw [hC]
    have exr:=exc _ _ hst
    conv=>whnf
    repeat' (first|refine zz ?_|refine .inl ⟨_,_,k7 l1 (va1 _) rfl,?_⟩|refine .inl ⟨_,_,k7 l2 (va2 _) rfl,?_⟩|refine .inl ⟨_,_,k7 l3 (va3 _ rr) rfl,?_⟩|refine .inr ⟨_,_,a9f _ exr,?_⟩|refine k6 (b8 _ _ _) ?_|refine k5 ?_|refine F0 (b8 _ _ _) ?_|refine i6 (t:=1) (b8 _ _ _) ?_|refine i6 (t:=2) (b8 _ _ _) ?_|refine i8 (t:=1) (b8 _ _ _) ?_|refine i8 (t:=2) (b8 _ _ _) ?_|refine zd ?_ ?_<;>intro h<;>try omega|refine zy ?_|fail)<;>conv=>whnf
    all_goals first
     |omega
     |exact go _ _ _ _ hst ⟨⟨o8 (by omega),rfl,rfl⟩,trivial⟩
  |some ss=>
   rw [hS,show leI (some ss)=ss from rfl] at l2
   have hrr:=(H7 hR).1
   have hss:=(H7 hS).1
   by_cases hlt:D.O rr<D.F ss
   ·skip
    have l3:=a4X n (by omega) D.F (fun j=>decide (D.A rr j<0)) 260 [a69 m n fr D,T.ptr [ti rr]] (fun j hj=>am4 m n fr D rr j hrr hj)
    cases hC:U8 D.F (fun j=>decide (D.A rr j<0)) n with
    |none=>
     rw [hC,show leI none=-1 from rfl] at l3
     have hst:C7 m n D=.row rr:=by unfold C7 a12;rw [hR,hS];simp only [if_pos hlt];rw [hC]
     conv=>whnf
     repeat' (first|refine zz ?_|refine .inl ⟨_,_,k7 l1 (va1 _) rfl,?_⟩|refine .inl ⟨_,_,k7 l2 (va2 _) rfl,?_⟩|refine .inl ⟨_,_,k7 l3 (va3 _ rr) rfl,?_⟩|refine k6 (b8 _ _ _) ?_|refine k5 ?_|refine F0 (b8 _ _ _) ?_|refine i6 (t:=1) (b8 _ _ _) ?_|refine i6 (t:=2) (b8 _ _ _) ?_|refine i8 (t:=1) (b8 _ _ _) ?_|refine i8 (t:=2) (b8 _ _ _) ?_|refine a10 (r:=rr) (by omega) hrr ?_|refine a10 (r:=ss) (by omega) hss ?_|refine zd ?_ ?_<;>intro h<;>try omega|refine zy ?_|fail)<;>conv=>whnf
     all_goals first
      |omega
      |exact fin0 _ _ _ (by unfold G1;rw [hst]) (by rw [hst];rfl)
    |some sq=>
     rw [hC,show leI (some sq)=sq from rfl] at l3
     have hst:C7 m n D=.next rr sq:=by unfold C7 a12;rw [hR,hS];simp only [if_pos hlt];rw [hC]
     have exr:=exc _ _ hst
     conv=>whnf
     repeat' (first|refine zz ?_|refine .inl ⟨_,_,k7 l1 (va1 _) rfl,?_⟩|refine .inl ⟨_,_,k7 l2 (va2 _) rfl,?_⟩|refine .inl ⟨_,_,k7 l3 (va3 _ rr) rfl,?_⟩|refine .inr ⟨_,_,a9f _ exr,?_⟩|refine k6 (b8 _ _ _) ?_|refine k5 ?_|refine F0 (b8 _ _ _) ?_|refine i6 (t:=1) (b8 _ _ _) ?_|refine i6 (t:=2) (b8 _ _ _) ?_|refine i8 (t:=1) (b8 _ _ _) ?_|refine i8 (t:=2) (b8 _ _ _) ?_|refine a10 (r:=rr) (by omega) hrr ?_|refine a10 (r:=ss) (by omega) hss ?_|refine zd ?_ ?_<;>intro h<;>try omega|refine zy ?_|fail)<;>conv=>whnf
     all_goals first
      |omega
      |exact go _ _ _ _ hst ⟨⟨o8 (by omega),rfl,rfl⟩,trivial⟩
   ·skip
    have l4:=a4X m hm D.O (fun i=>decide (0<D.A i ss)) 261 [a69 m n fr D,T.ptr [ti ss]] (fun i hi=>as2 m n fr D i ss hi hss)
    cases hC:U8 D.O (fun i=>decide (0<D.A i ss)) m with
    |none=>
     rw [hC,show leI none=-1 from rfl] at l4
     have hst:C7 m n D=.col ss:=by unfold C7 a14;rw [hR,hS];simp only [if_neg hlt];rw [hC]
     conv=>whnf
     repeat' (first|refine zz ?_|refine .inl ⟨_,_,k7 l1 (va1 _) rfl,?_⟩|refine .inl ⟨_,_,k7 l2 (va2 _) rfl,?_⟩|refine .inl ⟨_,_,k7 l4 (va4 _ _ ss) rfl,?_⟩|refine k6 (b8 _ _ _) ?_|refine k5 ?_|refine F0 (b8 _ _ _) ?_|refine i6 (t:=1) (b8 _ _ _) ?_|refine i6 (t:=2) (b8 _ _ _) ?_|refine i8 (t:=1) (b8 _ _ _) ?_|refine i8 (t:=2) (b8 _ _ _) ?_|refine a10 (r:=rr) (by omega) hrr ?_|refine a10 (r:=ss) (by omega) hss ?_|refine zd ?_ ?_<;>intro h<;>try omega|refine zy ?_|fail)<;>conv=>whnf
     all_goals first
      |omega
      |exact fin0 _ _ _ (by unfold G1;rw [hst]) (by rw [hst];rfl)
    |some rq=>
     rw [hC,show leI (some rq)=rq from rfl] at l4
     have hst:C7 m n D=.next rq ss:=by unfold C7 a14;rw [hR,hS];simp only [if_neg hlt];rw [hC]
     have exr:=exc _ _ hst
     conv=>whnf
     repeat' (first|refine zz ?_|refine .inl ⟨_,_,k7 l1 (va1 _) rfl,?_⟩|refine .inl ⟨_,_,k7 l2 (va2 _) rfl,?_⟩|refine .inl ⟨_,_,k7 l4 (va4 _ _ ss) rfl,?_⟩|refine .inr ⟨_,_,a9f _ exr,?_⟩|refine k6 (b8 _ _ _) ?_|refine k5 ?_|refine F0 (b8 _ _ _) ?_|refine i6 (t:=1) (b8 _ _ _) ?_|refine i6 (t:=2) (b8 _ _ _) ?_|refine i8 (t:=1) (b8 _ _ _) ?_|refine i8 (t:=2) (b8 _ _ _) ?_|refine a10 (r:=rr) (by omega) hrr ?_|refine a10 (r:=ss) (by omega) hss ?_|refine zd ?_ ?_<;>intro h<;>try omega|refine zy ?_|fail)<;>conv=>whnf
     all_goals first
      |omega
      |exact go _ _ _ _ hst ⟨⟨o8 (by omega),rfl,rfl⟩,trivial⟩
theorem a56 {P:Program} {g:FuncId} {args:List S} {H:Hp} {b:Blk} {n:Nat} {app:Bool} (h:a9 P g args [] (.c (.own 0 0 n app)) [b]) (ha:args.all S.isT=true) (hm:b.mode=.live) (hb:K2 b.rows):
 X7 P g args H (.c (.own H.length 0 n app)) [b]:=by
 refine ⟨h.1,fun w ι M vals hl hv hH hM hf=>?_⟩
 have:=h.2 w (fun _=>none) M vals hl (fun j s hj=>(hv j s hj).tree (List.all_eq_true.1 ha s (lg2 hj)))
  ⟨by simp,by simp,by simp,by simp,by simp⟩ hM (fun _ _=>rfl)
 refine Calls.mono this ?_
 rintro e w' ⟨v,rfl,ι',M',h1,h2,h3,h4,h5⟩
 have hnl:∀x,¬a3k (fun _=>none) ([]:Hp) x:=by rintro x ⟨id,k,_,_,hk,_⟩;simp at hk
 obtain ⟨l,hl0⟩:∃l,ι' 0=some l:=by
  cases h1 with
  |c h1=>cases h1 with
   |own hi=>exact ⟨_,hi⟩
   |nil hi=>exact ⟨_,hi⟩
 have hnew:B1 ι H.length [b].length (fun _=>l) H.length=some l:=by unfold B1;simp
 have hMM:∀x,a3Y M [b].length (fun _=>l) x->M' x:=by
  intro x hx
  rcases hx with hx|⟨k,hk,cap,size,he⟩
  ·rcases h5.mold x hx with h|h
   ·exact h
   ·exact absurd h (hnl x)
  ·have he:l=.blk x cap size:=he
   subst he
   exact h2.liv 0 b rfl hm x cap size hl0
 refine ⟨v,rfl,fun _=>l,?_,⟨h5.os,h5.tape,h5.output,h5.size,fun x hx=>h5.keep x hx (hnl x)⟩,?_,?_,?_⟩
 ·cases h1 with
  |c h1=>cases h1 with
   |own hi q1 q2 q3 q4 q5=>
    rw [hl0] at hi;injection hi with hi
    subst hi
    exact .c (.own hnew q1 q2 q3 q4 q5)
   |nil hi=>
    rw [hl0] at hi;injection hi with hi
    subst hi
    exact .c (.nil hnew)
 ·intro k blk hk
  cases k with
  |succ k=>simp at hk
  |zero=>
   simp at hk
   subst hk
   refine ⟨hm,?_⟩
   have hbr:=h2.blk 0 b rfl (by rw [hm];intro h;cases h) l hl0
   cases l with
   |nil=>exact hbr
   |blk x cap size=>
    obtain ⟨r1,r2,r3,r4,r5,cur,r6,r7,r8⟩:=hbr
    refine ⟨r1,r2,r3,r4,r5,cur,r6,r7,fun i j c hc=>?_⟩
    obtain ⟨u,u1,u2⟩:=r8 i j c hc
    exact ⟨u,u1,ag6 hMM hb hc u2⟩
 ·intro k x cap size hk he
  have he:l=.blk x cap size:=he
  subst he
  refine ⟨?_,h3 x (h2.liv 0 b rfl hm x cap size hl0)⟩
  rcases h5.live x ⟨0,b,cap,size,rfl,hm,hl0⟩ with h|h
  ·exact absurd h (hnl x)
  ·exact h
 ·intro k k' x cap size cap' size' hk hk' _ _
  simp at hk hk'
  omega
theorem b2d (H:Hp) (n:Nat) (hn:n<=1000):X7 Tryz.prog 254 [a7 .i64 n] H (.c (.own H.length 0 n true)) [flB (rF n fun _=>0)]:=
 a56 (b5S n hn) rfl rfl (d6 _)
def a40 (l:List (Int × Rat)):Nat->Nat->Rat
 |0=>z7 l
 |k+1=>match l[k]? with
  |none=>a40 l k
  |some t=>fun j=>if j=t.1.toNat then -t.2 else a40 l k j
theorem am1 {l:List (Int × Rat)} {k:Nat} {t:Int × Rat} (h:l[k]? =some t):a40 l (k+1)=fun j=>if j=t.1.toNat then -t.2 else a40 l k j:=by rw [a40,h]
theorem b0q (l:List (Int × Rat)) (j:Nat):∀k,k<=l.length->a40 l k j=-(M4 l k j)∨(M4 l k j=0∧a40 l k j=z7 l j)
 |0,_=>.inr ⟨rfl,rfl⟩
 |k+1,hk=>by
  obtain ⟨t,ht⟩:∃t,l[k]? =some t:=⟨_,lg0 (by omega)⟩
  rw [am1 ht,K7 ht]
  simp only
  by_cases hj:j=t.1.toNat
  ·rw [if_pos hj,if_pos hj];exact .inl rfl
  ·rw [if_neg hj,if_neg hj];exact b0q l j k (by omega)
theorem b2P (l:List (Int × Rat)):a40 l l.length=fun j=>-(z7 l j):=by
 funext j
 rcases b0q l j l.length (Nat.le_refl _) with h|⟨h1,h2⟩
 ·exact h
 ·rw [h2]
  have:z7 l j=0:=h1
  rw [this];decide
def sgF (b:Bool) (l:List (Int × Rat)):Nat->Rat:=fun j=>U4 b (z7 l j)
theorem a1B {H:Hp} {N n:Nat} (hN:H.length=N) (hn:n<=1000):X7 Tryz.prog 254 [a7 .i64 n] H (.c (.own N 0 n true)) [flB (rF n fun _=>0)]:=by subst hN;exact b2d H n hn
abbrev pB (n k l i f:Nat):Blk:={ mode:=.live,elem:=256,size:=6,rows:=[[C.t (ti n),.own l 0 k true,.own 2 0 n true,.own i 0 k true,.t (.sl 0 .nil []),.own f 0 k true]],box:=true }
abbrev ad0 (t:TypeId) (s:Nat):Blk:=⟨.dead,t,s,[],false,false⟩
abbrev a5N (n k:Nat) (V G:Nat->Rat) (O:Nat->Nat) (fr:List (Nat × Bool)) (A:Nat->Nat->Rat) (X:Hp):Hp:=
 pB n k 1 3 4::a0N 5 k n V::flB (rF n G)::Y7 k O::a1V fr::((mF k n A).map flB++X)
abbrev lnX (k n:Nat) (v:Rat):Blk:={ mode:=.live,elem:=259,size:=5,rows:=[frC (fz v)++[C.own (k+6) 0 n true]],box:=true }
abbrev b2b (n k:Nat) (v:Rat) (a V G:Nat->Rat) (O:Nat->Nat) (fr:List (Nat × Bool)) (f:Nat × Bool) (A:Nat->Nat->Rat) (bx:Blk):Hp:=
 pB n (k+1) (k+8) (k+7) (k+9)::ad0 259 5::flB (rF n G)::ad0 3 1::ad0 284 2::((mF k n A).map flB++
  [bx,flB (rF n a),Y7 (k+1) O,{ mode:=.live,elem:=259,size:=5,rows:=S9 5 k n V++[frC (fz v)++[C.own (k+6) 0 n true]],box:=false },a1V (fr++[f])])
theorem aA2 {k n N:Nat} {v:Rat} (h:k+6<N):okB N (lnX k n v):=by
 intro r hr c hc
 simp at hr;subst hr
 simp [frC] at hc
 rcases hc with rfl|rfl|rfl|rfl|rfl<;>first|trivial|exact h
theorem b9T {n k N l i f:Nat} (h1:l<N) (h2:i<N) (h3:f<N) (h4:2<N):okB N (pB n k l i f):=by
 intro r hr c hc
 simp at hr;subst hr
 simp at hc
 rcases hc with rfl|rfl|rfl|rfl|rfl|rfl<;>first|trivial|assumption
theorem aL5 {n k:Nat} {V G:Nat->Rat} {O:Nat->Nat} {fr:List (Nat × Bool)} {A:Nat->Nat->Rat} {X:Hp}:(a5N n k V G O fr A X).length=k+5+X.length:=by simp [b8];omega
theorem b6g {n k N:Nat} {V G:Nat->Rat} {O:Nat->Nat} {fr:List (Nat × Bool)} {A:Nat->Nat->Rat} {X:Hp} (h:k+5<=N) (hX:∀b ∈ X,okB N b):∀b ∈ a5N n k V G O fr A X,okB N b:=by
 intro b hb
 simp only [List.mem_cons,List.mem_append] at hb
 rcases hb with rfl|rfl|rfl|rfl|rfl|hb|hb
 ·exact b9T (by omega) (by omega) (by omega) (by omega)
 ·exact a9o h
 ·exact G9 rfl
 ·exact G9 rfl
 ·exact G9 rfl
 ·obtain ⟨l,_,rfl⟩:=List.mem_map.1 hb
  exact G9 rfl
 ·exact hX b hb
theorem b3w {n k:Nat} {V G:Nat->Rat} {O:Nat->Nat} {fr:List (Nat × Bool)} {A:Nat->Nat->Rat} {X X':Hp}:a5N n k V G O fr A (X++X')=a5N n k V G O fr A X++X':=by
 show _::_::_::_::_::(_++(X++X'))=_::_::_::_::_::((_++X)++X')
 rw [List.append_assoc]
theorem a08 {n0 N n k:Nat} {V G:Nat->Rat} {O:Nat->Nat} {fr:List (Nat × Bool)} {A:Nat->Nat->Rat} {X X' H:Hp} {env env':Env} (hH:H=a5N n k V G O fr A (X++X')) (hN:k+5+X.length=N) (h0:n0<=N) (hX:∀b ∈ X,okB N b)
 (hE:a0H (idR N) H env env'):Ent n0 (idR N) env H env' (a5N n k V G O fr A X):=by
 refine a7F (by rw [aL5];exact hN) h0 (b6g (by omega) hX) (fun i hi=>?_) hE
 rw [hH,b3w,List.getElem?_append_left (by rw [aL5];omega)]
theorem a1Q {b0 b1 b2 b3 b4 c0 c1 c2 c3 c4:Blk} {L L':Hp} (h0:b0=c0) (h1:b1=c1) (h2:b2=c2) (h3:b3=c3) (h4:b4=c4) (h6:L=L'):b0::b1::b2::b3::b4::L=c0::c1::c2::c3::c4::L':=by
 subst h0 h1 h2 h3 h4 h6;rfl
def fR (N:Nat) (f:Nat->Nat):List (Option Nat):=(List.range N).map fun i=>some (f i)
theorem B3 {N i:Nat} {f:Nat->Nat} (h:i<N):(fR N f)[i]? =some (some (f i)):=by simp [fR,h]
theorem b7H (N:Nat) (f:Nat->Nat):(fR N f).length=N:=by simp [fR]
theorem b31 {N i j:Nat} {f:Nat->Nat} (h:(fR N f)[i]? =some (some j)):i<N∧f i=j:=by
 obtain ⟨h1,h2⟩:=lg1 h
 simp [fR] at h1 h2
 exact ⟨h1,h2⟩
theorem ab5 {ρ:List (Option Nat)}:∀{m:Nat},(∀ i:Nat,i<m->ρ[i]? =some (some i))->a1t ρ m=true
 |0,_=>rfl
 |m+1,h=>by
  unfold a1t
  rw [h m (by omega),ab5 fun i hi=>h i (by omega)]
  simp
theorem b0H {N:Nat} {f:Nat->Nat} {H H':Hp} (hn:H'.length=N) (hB:∀(i:Nat) (k':Blk),H'[i]? =some k'->∃k:Blk,H[f i]? =some k∧a4c (fR N f) H k k'):a3o (fR N f) H (fR N f) H':=
 a55 (by rw [b7H,hn]) fun i k' hk=>by
  have hi:i<N:=by rw [← hn];exact (lg1 hk).1
  obtain ⟨k,h1,h2⟩:=hB i k' hk
  exact ⟨f i,k,B3 hi,h1,h2⟩
theorem aG0 {N:Nat} {f:Nat->Nat} {H:Hp} (hinj:∀i j,i<N->j<N->f i=f j->i=j):R7 (fR N f) H=true:=a0w fun i j n h1 h2=>by
 obtain ⟨a1,a2⟩:=b31 h1
 obtain ⟨b1,b2⟩:=b31 h2
 exact hinj i j a1 b1 (by omega)
theorem aT8 {n0 N:Nat} {f:Nat->Nat} {env env':Env} {H H':Hp} (hn:H'.length=N) (h0:n0<=N) (hk:∀i,i<n0->f i=i) (hinj:∀i j,i<N->j<N->f i=f j->i=j)
 (hB:∀(i:Nat) (k':Blk),H'[i]? =some k'->∃k:Blk,H[f i]? =some k∧a4c (fR N f) H k k') (hE:a0H (fR N f) H env env'):Ent n0 (fR N f) env H env' H':=
 ⟨ab5 fun i hi=>by rw [B3 (by omega),hk i hi],aG0 hinj,b0H hn hB,hE⟩
theorem b8g {n0 N:Nat} {f:Nat->Nat} {r s:S} {H H':Hp} (hn:H'.length=N) (h0:n0<=N) (hk:∀i,i<n0->f i=i) (hinj:∀i j,i<N->j<N->f i=f j->i=j)
 (hB:∀(i:Nat) (k':Blk),H'[i]? =some k'->∃k:Blk,H[f i]? =some k∧a4c (fR N f) H k k') (hE:a8W (fR N f) H r s):Fin n0 r H s H':=
 ⟨fR N f,ab5 fun i hi=>by rw [B3 (by omega),hk i hi],aG0 hinj,b0H hn hB,hE⟩
theorem b6v (k:Blk):a2e k k=true:=by unfold a2e;cases k.mode<;>simp
theorem d9 {ρ:List (Option Nat)} {H:Hp} {k:Blk} (h:K2 k.rows):a4c ρ H k k:=⟨b6v k,rfl,rfl,.inl ⟨rfl,h⟩⟩
theorem b1a {ρ:List (Option Nat)} {H:Hp} {l l':List C} (h:a2U ρ H l l'):∀ts:List T,a2U ρ H (ts.map C.t++l) (ts.map C.t++l')
 |[]=>h
 |t::r=>⟨a0j t,b1a h r⟩
theorem a1r {ρ:List (Option Nat)} {H:Hp} {m n:Nat} {V:Nat->Rat} {h h':Nat->Nat} (hh:∀i,i<m->ρ[h' i]? =some (some (h i))):
 a4c ρ H { mode:=.live,elem:=259,size:=5,rows:=(List.range m).map fun i=>frC (fz (V i))++[C.own (h i) 0 n true],box:=false } { mode:=.live,elem:=259,size:=5,rows:=(List.range m).map fun i=>frC (fz (V i))++[C.own (h' i) 0 n true],box:=false }:=by
 refine ⟨rfl,rfl,rfl,.inr (a6W (by simp) fun i x y hx hy=>?_)⟩
 have hi:i<m:=by have:=(lg1 hx).1;simpa using this
 simp [hi] at hx hy
 subst hx hy
 exact b1a (ts:=s7 (fz (V i))) (l:=[C.own (h i) 0 n true]) (l':=[C.own (h' i) 0 n true]) ⟨⟨hh i hi,rfl,rfl,fun h=>h⟩,trivial⟩
theorem b0z {a b:Nat} {K:Prop} (h:a<=b) (k:K):a<=b∧K:=⟨h,k⟩
theorem a4d {N:Nat} {b:Blk} (h:K2 b.rows):okB N b:=by
 intro r hr c hc
 have:=h r hr c hc
 cases c<;>first|trivial|cases this
def aF3 (k n:Nat) (v:Rat) (V:Nat->Rat):Nat->Rat:=fun i=>if i=k then v else V i
def hnd (k:Nat):Nat->Nat:=fun i=>if i=k then k+6 else i+5
theorem a9L {k n:Nat} {v:Rat} {V:Nat->Rat}:S9 5 k n V++[frC (fz v)++[C.own (k+6) 0 n true]]=(List.range (k+1)).map fun i=>frC (fz (aF3 k n v V i))++[C.own (hnd k i) 0 n true]:=by
 rw [List.range_succ,List.map_append]
 congr 1
 ·refine List.map_congr_left fun i hi=>?_
  have:=List.mem_range.1 hi
  unfold aF3 hnd
  rw [if_neg (by omega),if_neg (by omega)]
 ·unfold aF3 hnd;simp
abbrev b91 (n k:Nat) (v:Rat) (a V G:Nat->Rat) (O:Nat->Nat) (fr:List (Nat × Bool)) (f:Nat × Bool) (A:Nat->Nat->Rat) (bx lx lit:Blk):Hp:=
 pB n (k+1) (k+10) (k+8) (k+11)::ad0 259 5::flB (rF n G)::ad0 3 1::ad0 284 2::((mF k n A).map flB++
  [bx,flB (rF n a),lx,Y7 (k+1) O,lit,{ mode:=.live,elem:=259,size:=5,rows:=S9 5 k n V++[frC (fz v)++[C.own (k+6) 0 n true]],box:=false },a1V (fr++[f])])
def ab8 (k:Nat):Nat->Nat:=fun i=>if i<k+7 then i else if i=k+7 then k+8 else if i=k+8 then k+10 else k+11
theorem a1C {α β:Type} {f:β->α} {M:List β} {X:List α} {N t:Nat} (h:M.length=N):(M.map f++X)[N+t]? =X[t]?:=by
 rw [List.getElem?_append_right (by simp [h])];simp [h]
theorem b7g {n0 n:Nat} {r s:S} {H H':Hp} (e:n0=n) (h:Fin n r H s H'):Fin n0 r H s H':=by subst e;exact h
theorem b0p {n k:Nat} {v:Rat} {a V G:Nat->Rat} {O:Nat->Nat} {fr:List (Nat × Bool)} {f:Nat × Bool} {A:Nat->Nat->Rat} {bx lx lit:Blk} {H:Hp} (hbx:K2 bx.rows) (hH:H=b91 n k v a V G O fr f A bx lx lit):
 Fin (k+6) (.tup []) H (.tup []) (b2b n k v a V G O fr f A bx):=by
 subst hH
 refine b8g (N:=k+10) (f:=ab8 k) (by simp [b8]) (by omega) (fun i hi=>by unfold ab8;rw [if_pos (by omega)]) (fun i j hi hj h=>by unfold ab8 at h;(repeat' split at h)<;>omega) ?_ trivial
 have r7:ab8 k (k+7)=k+8:=by unfold ab8;rw [if_neg (by omega),if_pos rfl]
 have r8:ab8 k (k+8)=k+10:=by unfold ab8;rw [if_neg (by omega),if_neg (by omega),if_pos rfl]
 have r9:ab8 k (k+9)=k+11:=by unfold ab8;rw [if_neg (by omega),if_neg (by omega),if_neg (by omega)]
 have rl:∀i,i<k+7->ab8 k i=i:=fun i hi=>by unfold ab8;rw [if_pos hi]
 intro i k' hk
 rcases i with _|_|_|_|_|i
 ·injection hk with hk;subst hk
  rw [rl 0 (by omega)]
  exact ⟨_,rfl,rfl,rfl,rfl,.inr ⟨⟨rfl,⟨by rw [B3 (by omega),r8],rfl,rfl,fun h=>h⟩,⟨by rw [B3 (by omega),rl 2 (by omega)],rfl,rfl,fun h=>h⟩,⟨by rw [B3 (by omega),r7],rfl,rfl,fun h=>h⟩,rfl,⟨by rw [B3 (by omega),r9],rfl,rfl,fun h=>h⟩,trivial⟩,trivial⟩⟩
 ·injection hk with hk;subst hk;rw [rl 1 (by omega)];exact ⟨_,rfl,d9 (by simp [K2])⟩
 ·injection hk with hk;subst hk;rw [rl 2 (by omega)];exact ⟨_,rfl,d9 (d6 _)⟩
 ·injection hk with hk;subst hk;rw [rl 3 (by omega)];exact ⟨_,rfl,d9 (by simp [K2])⟩
 ·injection hk with hk;subst hk;rw [rl 4 (by omega)];exact ⟨_,rfl,d9 (by simp [K2])⟩
 ·have hk:((mF k n A).map flB++[bx,flB (rF n a),Y7 (k+1) O,{ mode:=.live,elem:=259,size:=5,rows:=S9 5 k n V++[frC (fz v)++[C.own (k+6) 0 n true]],box:=false },a1V (fr++[f])])[i]? =some k':=hk
  by_cases hi:i<k
  ·rw [L2 (Q8 hi)] at hk
   injection hk with hk;subst hk
   rw [rl (i+5) (by omega)]
   exact ⟨_,L2 (Q8 hi),d9 (d6 _)⟩
  ·obtain ⟨t,rfl⟩:∃t,i=k+t:=⟨i - k,by omega⟩
   rw [a1C (b8 _ _ _)] at hk
   have lk:∀j,(b91 n k v a V G O fr f A bx lx lit)[k+j+5]? =([bx,flB (rF n a),lx,Y7 (k+1) O,lit,{ mode:=.live,elem:=259,size:=5,rows:=S9 5 k n V++[frC (fz v)++[C.own (k+6) 0 n true]],box:=false },a1V (fr++[f])]:Hp)[j]?:=fun j=>a1C (b8 _ _ _)
   rcases t with _|_|_|_|_|t
   ·injection hk with hk;subst hk
    rw [rl (k+0+5) (by omega)]
    exact ⟨_,lk 0,d9 hbx⟩
   ·injection hk with hk;subst hk
    rw [rl (k+1+5) (by omega)]
    exact ⟨_,lk 1,d9 (d6 _)⟩
   ·injection hk with hk;subst hk
    rw [show k+2+5=k+7 by omega,r7]
    exact ⟨_,lk 3,d9 (d6 _)⟩
   ·injection hk with hk;subst hk
    rw [show k+3+5=k+8 by omega,r8]
    refine ⟨_,lk 5,?_⟩
    rw [a9L]
    refine a1r fun j hj=>?_
    have:hnd k j<k+7:=by unfold hnd;split<;>omega
    rw [B3 (by omega),rl _ this]
   ·injection hk with hk;subst hk
    rw [show k+4+5=k+9 by omega,r9]
    exact ⟨_,lk 6,d9 (d6 _)⟩
   ·simp at hk
theorem l7 {a0 a1 a2 a3 a4 a5 a6 b0 b1 b2 b3 b4 b5 b6:Blk} (h0:a0=b0) (h1:a1=b1) (h2:a2=b2) (h3:a3=b3) (h4:a4=b4) (h5:a5=b5) (h6:a6=b6):([a0,a1,a2,a3,a4,a5,a6]:Hp)=[b0,b1,b2,b3,b4,b5,b6]:=by
 subst h0 h1 h2 h3 h4 h5 h6;rfl
theorem a81 {k:Nat} {O:Nat->Nat} {x:Int} (h:x=O k):(toC (a11 k O)).take k++toC [[ti x]]=toC (a11 (k+1) O):=by
 rw [lg4 (by simp [toC,y4])]
 unfold a11
 rw [List.range_succ,List.map_append,h]
 simp [toC]
theorem ac2 {fr:List (Nat × Bool)} {k:Nat} (h:fr.length=k) (f:Nat × Bool):(toC (a0e fr)).take k++toC [[ti f.1,tb f.2]]=toC (a0e (fr++[f])):=by
 rw [lg4 (by simp [toC,a0e,h])]
 unfold a0e
 simp [toC]
set_option maxHeartbeats 4000000 in
theorem b8U (n k row:Nat) (w:D9) (b:Bool) (V G:Nat->Rat) (fr:List (Nat × Bool)) (hfr:fr.length=k) (A:Nat->Nat->Rat) (bx:Blk) (hbx:K2 bx.rows) (hn:n<=1000) (hk:k<=10000) (hrow:row<=100000)
 (hr:g9 (-1) n w.terms=true) (hl:w.terms.length<=1000) (hb:∀t ∈ w.terms,rl t.2<=60000) (hv:rl w.value<=60000):
 a9 Tryz.prog 255 [.c (.ptr 0 0 0),a7 .i64 row,aN9 w,f9 b] (a5N n k V G (fun i=>n+i) fr A [bx]) (.tup []) (b2b n k (U4 b w.value) (sgF b w.terms) V G (fun i=>n+i) fr (row,b) A bx):=by
 have m1:(w.terms.map j9).length=w.terms.length:=by simp
 (refine ac Tryz.func255 ?_;(conv=>whnf);repeat ((first|refine b0x ?_|refine zy ?_);conv=>whnf))
 repeat' (first|refine zz ?_|refine qp b8 ?_|refine b0x ?_|refine .inl ⟨_,_,a1B (N:=k+6) (by simp [b8]) hn,?_⟩|refine k6 (b8 _ _ _) ?_|refine k5 ?_|refine i6 (t:=1) (b8 _ _ _) ?_|refine i6 (t:=2) (b8 _ _ _) ?_|refine i6 (t:=3) (b8 _ _ _) ?_|refine i8 (t:=1) (b8 _ _ _) ?_|refine i8 (t:=2) (b8 _ _ _) ?_|refine i8 (t:=3) (b8 _ _ _) ?_|refine zd ?_ ?_<;>intro h<;>try omega|refine zy ?_|fail)<;>conv=>whnf
 refine f5 d7 (fun q=>([S.c (C.ptr 0 0 0),a7 .i64 row,J,f9 b,J,J,S.c (C.t (T.ptr (z6 w))),J,S.c (C.ptr (k+7) 0 0),J,J,J,J,J,J,J,J,J,J,J,J,J,s6 w.terms,a7 .i64 w.terms.length,a7 .i64 q,J,J,J,J,J,J,J,J,J,J,J,J,J,J,J,J,J,J,J,J,J,J,J,J,J,J,J,J,J,J,J,J,J,J,J,J,J,J,J,J,J,J,J,J,J,J,J,J,J,J,J,J,J,J,J,J,J,J,J,J,J,J,J,J,J,J,J,J,J,J,J,J,J],a5N n k V G (fun i=>n+i) fr A [bx,flB (rF n (M4 w.terms q)),lnX k n w.value])) w.terms.length (fun _=>True) (idR (k+8)) trivial ?_ ?_
 ·refine a08 (X':=[]) (a1Q rfl rfl rfl rfl rfl ?_) rfl (by simp [b8]) ?_ ?_
  ·rfl
  ·intro b hb;simp at hb;rcases hb with rfl|rfl|rfl
   ·exact a4d hbx
   ·exact G9 rfl
   ·exact aA2 (by omega)
  ·exact ⟨⟨o8 (by omega),rfl,rfl⟩,rfl,rfl,i7 rfl,⟨o8 (by omega),rfl,rfl⟩,i7 rfl,b9 (by omega),b9 rfl,trivial⟩
 intro q hq _
 by_cases hlt:q<w.terms.length
 ·obtain ⟨t,ht⟩:∃t,w.terms[q]? =some t:=⟨_,lg0 hlt⟩
  obtain ⟨t0,t1,t2⟩:=F6 hr t (lg2 ht)
  have gp:(rF n (M4 w.terms q))[0+t.1.toNat]? =some (fz (M4 w.terms q t.1.toNat)):=by rw [Nat.zero_add,H6 (by omega)]
  have eV:0+t.1.toNat=t.1.toNat:=by omega
  have e:x5 (flB (rF n (M4 w.terms q))) ((flB (rF n (M4 w.terms q))).rows.set (0+t.1.toNat) (frC (fz t.2)))=flB (rF n (M4 w.terms (q+1))):=by
   have e1:=I3 (row:=rF n (M4 w.terms q)) (y:=fz t.2) eV
   rw [R8 (by omega),←K7 ht] at e1
   exact e1
  conv=>whnf
  repeat' (first|refine zz ?_|refine d8 ht ?_|refine s9 gp ?_|refine k6 (b8 _ _ _) ?_|refine k5 ?_|refine i6 (t:=1) (b8 _ _ _) ?_|refine i6 (t:=2) (b8 _ _ _) ?_|refine i6 (t:=3) (b8 _ _ _) ?_|refine i8 (t:=1) (b8 _ _ _) ?_|refine i8 (t:=2) (b8 _ _ _) ?_|refine i8 (t:=3) (b8 _ _ _) ?_|refine zd ?_ ?_<;>intro h<;>try omega|refine zy ?_|fail)<;>conv=>whnf
  all_goals first
   |omega
   |(refine ⟨hlt,trivial,idR (k+8),a08 (X:=[bx,flB (rF n (M4 w.terms (q+1))),lnX k n w.value]) (a1Q rfl rfl rfl rfl rfl (congrArg (fun z=>(mF k n A).map flB++(bx::z::lnX k n w.value::[_])) e)) rfl (by simp [b8]) ?_ ⟨⟨o8 (by omega),rfl,rfl⟩,rfl,rfl,rfl,⟨o8 (by omega),rfl,rfl⟩,rfl,rfl,b9 (by omega),trivial⟩⟩
     intro b hb;simp at hb;rcases hb with rfl|rfl|rfl
     ·exact a4d hbx
     ·exact G9 rfl
     ·exact aA2 (by omega))
 ·have hqe:q=w.terms.length:=by omega
  subst hqe
  cases b with
  |false=>
   conv=>whnf
   repeat' (first|refine aC4 [0,1,2,3,4,5,6,7,9,10,11,12,13,14,15,16,8,17,18,19,20,21,22,23] (by decide +kernel) (by decide +kernel) ?_|refine zz ?_|refine zz ?_|refine zz ?_|refine zz ?_|refine zz ?_|refine zz ?_|refine qp (0,1,2,3,4,5,6,7,9,10,11,12,13,14,15,16,8,17,18,19,20,21,22,23) ?_|refine qp (toC,y4,C8,a0e,hfr) ?_|refine qp (toC,y4,C8,a0e) ?_|refine qp 0 ?_|refine qp (0,1,8,9,10,11,12,13,14,15) ?_|refine qp (0,1) ?_|refine qp 1 ?_|refine q9 (by simp [toC,y4,C8,a0e,hfr]) (by simp [toC,y4,C8,a0e];omega) ?_|refine bl0 [0] ?_|refine bl0 [0,1,8,9,10,11,12,13,14,15] ?_|refine bl0 [0,1] ?_|refine bl0 [1] ?_|refine k6 (b8 _ _ _) ?_|refine k5 ?_|refine i6 (t:=1) (b8 _ _ _) ?_|refine i6 (t:=2) (b8 _ _ _) ?_|refine i6 (t:=3) (b8 _ _ _) ?_|refine i8 (t:=1) (b8 _ _ _) ?_|refine i8 (t:=2) (b8 _ _ _) ?_|refine i8 (t:=3) (b8 _ _ _) ?_|refine i6 (t:=4) (b8 _ _ _) ?_|refine b0z (Nat.le_refl 1) ?_|refine zd ?_ ?_<;>intro h<;>try omega|refine zy ?_|fail)<;>conv=>whnf
   all_goals try omega
   all_goals refine b7g (n:=k+6) (by simp [b8]) (b0p (lit:=_) hbx (a1Q rfl rfl rfl rfl rfl (congrArg (fun z=>(mF k n A).map flB++z) (l7 rfl rfl rfl ?_ rfl ?_ ?_))))
   ·exact congrArg (fun z=>({ mode:=.live,elem:=3,size:=1,rows:=z,box:=false }:Blk)) (a81 (x:=(n:Int)+k) (by simp))
   ·exact congrArg (fun z=>({ mode:=.live,elem:=259,size:=5,rows:=z,box:=false }:Blk)) (congrArg (fun z=>z++[frC (fz w.value)++[C.own (k+6) 0 n true]]) (lg4 (by simp [C8])))
   ·exact congrArg (fun z=>({ mode:=.live,elem:=284,size:=2,rows:=z,box:=false }:Blk)) (ac2 hfr (row,false))
  |true=>
   have nv:=a2V w.value hv
   conv=>whnf
   repeat' (first|refine zz ?_|refine qp nv ?_|refine k6 (b8 _ _ _) ?_|refine k5 ?_|refine i6 (t:=1) (b8 _ _ _) ?_|refine i6 (t:=2) (b8 _ _ _) ?_|refine i6 (t:=3) (b8 _ _ _) ?_|refine i8 (t:=1) (b8 _ _ _) ?_|refine i8 (t:=2) (b8 _ _ _) ?_|refine i8 (t:=3) (b8 _ _ _) ?_|refine zd ?_ ?_<;>intro h<;>try omega|refine zy ?_|fail)<;>conv=>whnf
   all_goals try omega
   refine f5 d7 (fun q=>([S.c (C.ptr 0 0 0),a7 .i64 row,J,f9 true,J,J,J,J,S.c (C.ptr (k+7) 0 0),J,J,J,J,J,J,J,J,J,J,J,J,J,J,J,J,J,J,J,J,J,J,J,J,J,J,J,J,J,J,J,J,J,s6 w.terms,a7 .i64 w.terms.length,a7 .i64 q,J,J,J,J,J,J,J,J,J,J,J,J,J,J,J,J,J,J,J,J,J,J,J,J,J,J,J,J,J,J,J,J,J,J,J,J,J,J,J,J,J,J,J,J,J,J,J,J,J,J,J,J,J],a5N n k V G (fun i=>n+i) fr A [bx,flB (rF n (a40 w.terms q)),lnX k n (-w.value)])) w.terms.length (fun _=>True) (idR (k+8)) trivial ?_ ?_
   ·refine a08 (X':=[]) (a1Q rfl rfl rfl rfl rfl rfl) rfl (by simp [b8]) ?_ ?_
    ·intro b hb;simp at hb;rcases hb with rfl|rfl|rfl
     ·exact a4d hbx
     ·exact G9 rfl
     ·exact aA2 (by omega)
    ·exact ⟨⟨o8 (by omega),rfl,rfl⟩,rfl,rfl,⟨o8 (by omega),rfl,rfl⟩,i7 rfl,b9 (by omega),b9 rfl,trivial⟩
   intro q hq _
   by_cases hlt:q<w.terms.length
   ·obtain ⟨t,ht⟩:∃t,w.terms[q]? =some t:=⟨_,lg0 hlt⟩
    obtain ⟨t0,t1,t2⟩:=F6 hr t (lg2 ht)
    have nt:=a2V t.2 (hb t (lg2 ht))
    have gp:(rF n (a40 w.terms q))[0+t.1.toNat]? =some (fz (a40 w.terms q t.1.toNat)):=by rw [Nat.zero_add,H6 (by omega)]
    have eV:0+t.1.toNat=t.1.toNat:=by omega
    have e:x5 (flB (rF n (a40 w.terms q))) ((flB (rF n (a40 w.terms q))).rows.set (0+t.1.toNat) (frC (fz (-t.2))))=flB (rF n (a40 w.terms (q+1))):=by
     have e1:=I3 (row:=rF n (a40 w.terms q)) (y:=fz (-t.2)) eV
     rw [R8 (by omega),←am1 ht] at e1
     exact e1
    conv=>whnf
    repeat' (first|refine zz ?_|refine qp nt ?_|refine d8 ht ?_|refine s9 gp ?_|refine k6 (b8 _ _ _) ?_|refine k5 ?_|refine i6 (t:=1) (b8 _ _ _) ?_|refine i6 (t:=2) (b8 _ _ _) ?_|refine i6 (t:=3) (b8 _ _ _) ?_|refine i8 (t:=1) (b8 _ _ _) ?_|refine i8 (t:=2) (b8 _ _ _) ?_|refine i8 (t:=3) (b8 _ _ _) ?_|refine zd ?_ ?_<;>intro h<;>try omega|refine zy ?_|fail)<;>conv=>whnf
    all_goals first
     |omega
     |(refine ⟨hlt,trivial,idR (k+8),a08 (X:=[bx,flB (rF n (a40 w.terms (q+1))),lnX k n (-w.value)]) (a1Q rfl rfl rfl rfl rfl (congrArg (fun z=>(mF k n A).map flB++(bx::z::lnX k n (-w.value)::[_])) e)) rfl (by simp [b8]) ?_ ⟨⟨o8 (by omega),rfl,rfl⟩,rfl,rfl,⟨o8 (by omega),rfl,rfl⟩,rfl,rfl,b9 (by omega),trivial⟩⟩
       intro b hb;simp at hb;rcases hb with rfl|rfl|rfl
       ·exact a4d hbx
       ·exact G9 rfl
       ·exact aA2 (by omega))
   ·have hqe:q=w.terms.length:=by omega
    subst hqe
    have ea:a40 w.terms w.terms.length=sgF true w.terms:=b2P w.terms
    conv=>whnf
    repeat' (first|refine aC4 [0,1,2,3,4,5,6,7,9,10,11,12,13,14,15,16,8,17,18,19,20,21,22,23] (by decide +kernel) (by decide +kernel) ?_|refine zz ?_|refine zz ?_|refine zz ?_|refine zz ?_|refine zz ?_|refine zz ?_|refine qp (0,1,2,3,4,5,6,7,9,10,11,12,13,14,15,16,8,17,18,19,20,21,22,23) ?_|refine qp (toC,y4,C8,a0e,hfr) ?_|refine qp (toC,y4,C8,a0e) ?_|refine qp 0 ?_|refine qp (0,1,8,9,10,11,12,13,14,15) ?_|refine qp (0,1) ?_|refine qp 1 ?_|refine q9 (by simp [toC,y4,C8,a0e,hfr]) (by simp [toC,y4,C8,a0e];omega) ?_|refine bl0 [0] ?_|refine bl0 [0,1,8,9,10,11,12,13,14,15] ?_|refine bl0 [0,1] ?_|refine bl0 [1] ?_|refine k6 (b8 _ _ _) ?_|refine k5 ?_|refine i6 (t:=1) (b8 _ _ _) ?_|refine i6 (t:=2) (b8 _ _ _) ?_|refine i6 (t:=3) (b8 _ _ _) ?_|refine i8 (t:=1) (b8 _ _ _) ?_|refine i8 (t:=2) (b8 _ _ _) ?_|refine i8 (t:=3) (b8 _ _ _) ?_|refine i6 (t:=4) (b8 _ _ _) ?_|refine b0z (Nat.le_refl 1) ?_|refine zd ?_ ?_<;>intro h<;>try omega|refine zy ?_|fail)<;>conv=>whnf
    all_goals try omega
    all_goals refine b7g (n:=k+6) (by simp [b8]) (b0p (lit:=_) hbx (a1Q rfl rfl rfl rfl rfl (congrArg (fun z=>(mF k n A).map flB++z) (l7 rfl (by rw [ea]) rfl ?_ rfl ?_ ?_))))
    ·exact congrArg (fun z=>({ mode:=.live,elem:=3,size:=1,rows:=z,box:=false }:Blk)) (a81 (x:=(n:Int)+k) (by simp))
    ·exact congrArg (fun z=>({ mode:=.live,elem:=259,size:=5,rows:=z,box:=false }:Blk)) (congrArg (fun z=>z++[frC (fz (-w.value))++[C.own (k+6) 0 n true]]) (lg4 (by simp [C8])))
    ·exact congrArg (fun z=>({ mode:=.live,elem:=284,size:=2,rows:=z,box:=false }:Blk)) (ac2 hfr (row,true))
def gR (N:Nat) (f:Nat->Option Nat):List (Option Nat):=(List.range N).map f
theorem a3a {N i:Nat} {f:Nat->Option Nat} (h:i<N):(gR N f)[i]? =some (f i):=by simp [gR,h]
theorem b2t {N i:Nat} {x:Option Nat} {f:Nat->Option Nat} (h:(gR N f)[i]? =some x):i<N∧f i=x:=by
 obtain ⟨h1,h2⟩:=lg1 h
 simp [gR] at h1 h2
 exact ⟨h1,h2⟩
theorem aE0 {ρ:List (Option Nat)} {H:Hp}:∀{r:List (Option Nat)} {H':Hp},r.length=H'.length->(∀ (i:Nat) (k':Blk),H'[i]? =some k'->(r[i]? =some none∧k'.rows=[]∧k'.mode=.live)∨∃(j:Nat) (k:Blk),r[i]? =some (some j)∧H[j]? =some k∧a4c ρ H k k')->a3o ρ H r H'
 |[],[],_,_=>trivial
 |[],_::_,h,_=>by simp at h
 |_::_,[],h,_=>by simp at h
 |x::r,k'::H',hl,h=>by
  refine ⟨?_,aE0 (by simpa using hl) fun i k1 hk=>by simpa using h (i+1) k1 (by simpa using hk)⟩
  rcases h 0 k' rfl with ⟨h1,h2,h3⟩|⟨j,k,h1,h2,h3⟩
  ·simp at h1;subst h1;exact ⟨h2,h3⟩
  ·simp at h1;subst h1
   simp only [h2]
   exact h3
theorem b3s {N:Nat} {f:Nat->Option Nat} {env env':Env} {H H':Hp} (hn:H'.length=N) (hinj:∀i j x,i<N->j<N->f i=some x->f j=some x->i=j)
 (hB:∀(i:Nat) (k':Blk),H'[i]? =some k'->(f i=none∧k'.rows=[]∧k'.mode=.live)∨∃(j:Nat) (k:Blk),f i=some j∧H[j]? =some k∧a4c (gR N f) H k k') (hE:a0H (gR N f) H env env'):Ent 0 (gR N f) env H env' H':=
 ⟨rfl,a0w fun i j n h1 h2=>by
   obtain ⟨a1,a2⟩:=b2t h1
   obtain ⟨b1,b2⟩:=b2t h2
   exact hinj i j n a1 b1 a2 b2,aE0 (by simp [gR,hn]) fun i k' hk=>by
   have hi:i<N:=by rw [← hn];exact (lg1 hk).1
   rcases hB i k' hk with ⟨h1,h2⟩|⟨j,k,h1,h2⟩
   ·exact .inl ⟨by rw [a3a hi,h1],h2⟩
   ·exact .inr ⟨j,k,by rw [a3a hi,h1],h2⟩,hE⟩
theorem a5J {s:g8} (k:Nat):L7 s (k+1)=match s.rows[k]? with
 |none=>L7 s k
 |some w=>L7 s k++(if w.kind≠0 then [(k,false)] else [])++(if w.kind≠1 then [(k,true)] else []):=rfl
theorem ao5 {s:g8} {i:Nat}:∀d,∃rest,L7 s (i+d)=L7 s i++rest
 |0=>⟨[],by simp⟩
 |d+1=>by
  obtain ⟨r,hr⟩:=ao5 (s:=s) (i:=i) d
  rw [show i+(d+1)=(i+d)+1 by omega,a5J]
  cases s.rows[i+d]? with
  |none=>exact ⟨r,hr⟩
  |some w=>exact ⟨r++((if w.kind≠0 then [(i+d,false)] else [])++(if w.kind≠1 then [(i+d,true)] else [])),by simp only;rw [hr,List.append_assoc,List.append_assoc]⟩
theorem al0 {s:g8} {i k:Nat} {f:Nat × Bool} (hi:i<=s.rows.length) (h:(L7 s i)[k]? =some f):(g4 s).getD k (0,false)=f:=by
 obtain ⟨r,hr⟩:=ao5 (s:=s) (i:=i) (s.rows.length - i)
 rw [show i+(s.rows.length - i)=s.rows.length by omega] at hr
 unfold g4
 rw [hr,lg3,List.getElem?_append_left (lg1 h).1,h];rfl
theorem a5b {s:g8}:∀i,(L7 s i).length<=2*i
 |0=>by simp [L7]
 |i+1=>by
  have ih:=a5b (s:=s) i
  rw [a5J]
  cases s.rows[i]? with
  |none=>simp only;omega
  |some w=>
   simp only [List.length_append]
   split<;>split<;>simp<;>omega
theorem af4 {s:g8} {i:Nat} {w:D9} (h:s.rows[i]? =some w):L7 s (i+1)=(L7 s i++if w.kind≠0 then [(i,false)] else [])++if w.kind≠1 then [(i,true)] else []:=by
 rw [a5J,h]
def U7 (k:Nat):Nat->Nat:=fun i=>if i=0 then 0 else if i=1 then k+8 else if i=2 then 2 else if i=3 then k+7 else if i=4 then k+9 else if i<k+5 then i else if i=k+5 then k+6 else k+5
theorem af9 {k:Nat} (i:Nat) (hi:i<k+7):(i=0∧U7 k i=0)∨(i=1∧U7 k i=k+8)∨(i=2∧U7 k i=2)∨(i=3∧U7 k i=k+7)∨(i=4∧U7 k i=k+9)∨(5<=i∧i<k+5∧U7 k i=i)∨(5<=i∧i=k+5∧U7 k i=k+6)∨(5<=i∧i=k+6∧U7 k i=k+5):=by
 unfold U7
 by_cases h0:i=0
 ·rw [if_pos h0];omega
 ·rw [if_neg h0]
  by_cases h1:i=1
  ·rw [if_pos h1];omega
  ·rw [if_neg h1]
   by_cases h2:i=2
   ·rw [if_pos h2];omega
   ·rw [if_neg h2]
    by_cases h3:i=3
    ·rw [if_pos h3];omega
    ·rw [if_neg h3]
     by_cases h4:i=4
     ·rw [if_pos h4];omega
     ·rw [if_neg h4]
      by_cases h5:i<k+5
      ·rw [if_pos h5];omega
      ·rw [if_neg h5]
       by_cases h6:i=k+5
       ·rw [if_pos h6];omega
       ·rw [if_neg h6];omega
theorem b6O {k:Nat}:U7 k (k+6)=k+5:=by
 have:=af9 (k:=k) (k+6) (by omega)
 omega
theorem b0P {n k:Nat} {a V G:Nat->Rat} {v:Rat} {O:Nat->Nat} {fr:List (Nat × Bool)} {f:Nat × Bool} {A:Nat->Nat->Rat} {bx:Blk} {env env':Env} (hbx:K2 bx.rows) (hv:v=V k) (ha:a=A k)
 (hE:a0H (fR (k+7) (U7 k)) (b2b n k v a V G O fr f A bx) env env'):Ent 0 (fR (k+7) (U7 k)) env (b2b n k v a V G O fr f A bx) env' (a5N n (k+1) V G O (fr++[f]) A [bx]):=by
 subst hv ha
 have r1:U7 k 1=k+8:=rfl
 have r3:U7 k 3=k+7:=rfl
 have r4:U7 k 4=k+9:=rfl
 have ra:∀i,i<k->U7 k (i+5)=i+5:=fun i hi=>by
  unfold U7
  rw [if_neg (by omega),if_neg (by omega),if_neg (by omega),if_neg (by omega),if_neg (by omega),if_pos (by omega)]
 have rk:U7 k (k+5)=k+6:=by
  unfold U7
  rw [if_neg (by omega),if_neg (by omega),if_neg (by omega),if_neg (by omega),if_neg (by omega),if_neg (by omega),if_pos rfl]
 have rb:U7 k (k+6)=k+5:=by
  unfold U7
  rw [if_neg (by omega),if_neg (by omega),if_neg (by omega),if_neg (by omega),if_neg (by omega),if_neg (by omega),if_neg (by omega)]
 have lk:∀j,(b2b n k (V k) (A k) V G O fr f A bx)[k+j+5]? =([bx,flB (rF n (A k)),Y7 (k+1) O,{ mode:=.live,elem:=259,size:=5,rows:=S9 5 k n V++[frC (fz (V k))++[C.own (k+6) 0 n true]],box:=false },a1V (fr++[f])]:Hp)[j]?:=fun j=>a1C (b8 _ _ _)
 have eV:aF3 k n (V k) V=V:=by funext i;unfold aF3;split<;>simp_all
 refine aT8 (by simp [b8]) (by omega) (fun i hi=>by omega) (fun i j hi hj h=>by have:=af9 i hi;have:=af9 j hj;omega) ?_ hE
 intro i k' hk
 rcases i with _|_|_|_|_|i
 ·injection hk with hk;subst hk
  exact ⟨_,rfl,rfl,rfl,rfl,.inr ⟨⟨rfl,⟨by rw [B3 (by omega),r1],rfl,rfl,fun h=>h⟩,⟨by rw [B3 (by omega)];rfl,rfl,rfl,fun h=>h⟩,⟨by rw [B3 (by omega),r3],rfl,rfl,fun h=>h⟩,rfl,⟨by rw [B3 (by omega),r4],rfl,rfl,fun h=>h⟩,trivial⟩,trivial⟩⟩
 ·injection hk with hk;subst hk
  refine ⟨_,lk 3,?_⟩
  rw [a9L,eV]
  refine a1r (h':=fun i=>i+5) fun j hj=>?_
  rw [B3 (by omega)]
  unfold hnd
  by_cases hjk:j=k
  ·subst hjk;rw [if_pos rfl,rk]
  ·rw [if_neg hjk,ra j (by omega)]
 ·injection hk with hk;subst hk;exact ⟨_,rfl,d9 (d6 _)⟩
 ·injection hk with hk;subst hk;exact ⟨_,lk 2,d9 (d6 _)⟩
 ·injection hk with hk;subst hk;exact ⟨_,lk 4,d9 (d6 _)⟩
 ·have hk:((mF (k+1) n A).map flB++[bx])[i]? =some k':=hk
  by_cases hi:i<k+1
  ·rw [L2 (Q8 hi)] at hk
   injection hk with hk;subst hk
   by_cases hik:i=k
   ·subst hik;rw [rk];exact ⟨_,lk 1,d9 (d6 _)⟩
   ·rw [ra i (by omega)]
    exact ⟨_,L2 (Q8 (by omega)),d9 (d6 _)⟩
  ·obtain ⟨t,rfl⟩:∃t,i=(k+1)+t:=⟨i - (k+1),by omega⟩
   rw [a1C (b8 _ _ _)] at hk
   rcases t with _|t
   ·injection hk with hk;subst hk
    rw [show k+1+0+5=k+6 by omega,rb]
    exact ⟨_,lk 0,d9 hbx⟩
   ·simp at hk
theorem b5O {b0 b1 b2 b3 b4 b5 c0 c1 c2 c3 c4 c5:Blk} {L L':Hp} (h0:b0=c0) (h1:b1=c1) (h2:b2=c2) (h3:b3=c3) (h4:b4=c4) (h5:b5=c5) (h6:L=L'):b0::b1::b2::b3::b4::b5::L=c0::c1::c2::c3::c4::c5::L':=a0V h0 h1 h2 h3 h4 h5 h6
theorem E0:∀{last n:Int} {l:List (Int × Rat)},g9 last n l=true->l.length=0∨(l.length:Int)<=n - last - 1
 |_,_,[],_=>.inl rfl
 |last,n,a::r,h=>by
  unfold g9 at h
  simp only [Bool.and_eq_true,decide_eq_true_eq] at h
  have ih:=E0 h.2
  have h1:=h.1.1.1
  have h2:=h.1.1.2
  right
  rw [List.length_cons]
  rcases ih with h0|h0
  ·rw [h0];omega
  ·omega
structure b7d (s:g8) (g:List (Int × Rat)) (n:Nat):Prop where
 r:j0 s=true
 tg:g9 (-1) n g=true
 en:s.n=n
 n1:n<=1000
 b:∀w ∈ s.rows,rl w.value<=60000∧∀t ∈ w.terms,rl t.2<=60000
 bg:∀t ∈ g,rl t.2<=60000
 l:s.rows.length<=4000
abbrev rbx (w:D9):Blk:={ mode:=.live,elem:=143,size:=6,rows:=[(z6 w).map C.t],box:=true }
theorem aO1 (w:D9):K2 (rbx w).rows:=d6 [z6 w]
def a5O (s:g8):List T:=[ti s.n,M3 s.rows]
def pF1:Nat->Option Nat:=fun i=>if i=0 then some 1 else if i=2 then some 0 else none
theorem b06 {s:g8} {g:List (Int × Rat)} {k:Nat} {b:Bool} {i:Nat} {w:D9} (h:(g4 s).getD k (0,false)=(i,b)) (hw:s.rows[i]? =some w):U4 b w.value=(i5 s g).V k:=by
 show _=a3N s ((g4 s).getD k (0,false))
 rw [h];unfold a3N;simp only [hw]
theorem b0N {s:g8} {g:List (Int × Rat)} {k:Nat} {b:Bool} {i:Nat} {w:D9} (h:(g4 s).getD k (0,false)=(i,b)) (hw:s.rows[i]? =some w):sgF b w.terms=(i5 s g).A k:=by
 funext j
 show _=a29 s ((g4 s).getD k (0,false)) j
 rw [h];unfold a29;simp only [hw];rfl
abbrev dF (m n j q:Nat):Blk:={ mode:=.live,elem:=256,size:=6,rows:=[[C.t (ti n),.own 1 0 m true,.own 2 0 n true,.own 3 0 m true,.own 4 0 j true,.own 5 0 q true]],box:=true }
abbrev b6q (m n j:Nat) (V G:Nat->Rat) (O:Nat->Nat) (fr:List (Nat × Bool)) (A:Nat->Nat->Rat) (X:Hp):Hp:=
 dF m n j fr.length::a0N 6 m n V::flB (rF n G)::Y7 m O::Y7 j (fun j=>j)::a1V fr::((mF m n A).map flB++X)
def fF1:Nat->Option Nat:=fun i=>if i=4 then none else if i<4 then some i else some (i - 1)
theorem b3W {m n:Nat} {V G:Nat->Rat} {O:Nat->Nat} {fr:List (Nat × Bool)} {A:Nat->Nat->Rat} {env env':Env} {H:Hp} (hm:fr.length=m) (hH:H=a5N n m V G O fr A []) (hE:a0H (gR (m+6) fF1) H env env'):
 Ent 0 (gR (m+6) fF1) env H env' (b6q m n 0 V G O fr A []):=by
 subst hH
 refine b3s (by simp [b8]) (fun i j x hi hj h1 h2=>by unfold fF1 at h1 h2;(repeat' split at h1)<;>(repeat' split at h2)<;>first|(cases h1;done)|(cases h2;done)|(injection h1 with h1;injection h2 with h2;omega)) ?_ hE
 intro i k' hk
 have fa:∀i,fF1 (i+6)=some (i+5):=fun i=>by unfold fF1;rw [if_neg (by omega),if_neg (by omega)];rfl
 rcases i with _|_|_|_|_|_|i
 ·injection hk with hk;subst hk
  exact .inr ⟨0,_,rfl,rfl,rfl,rfl,rfl,.inr ⟨⟨rfl,⟨by rw [a3a (by omega)];rfl,rfl,rfl,fun h=>h⟩,⟨by rw [a3a (by omega)];rfl,rfl,rfl,fun h=>h⟩,⟨by rw [a3a (by omega)];rfl,rfl,rfl,fun h=>h⟩,⟨by rw [a3a (by omega)];rfl,rfl,rfl⟩,⟨by rw [a3a (by omega)];rfl,rfl,hm.symm,fun h=>h⟩,trivial⟩,trivial⟩⟩
 ·injection hk with hk;subst hk
  refine .inr ⟨1,_,rfl,rfl,a1r (h:=fun i=>i+5) (h':=fun i=>i+6) fun j hj=>?_⟩
  rw [a3a (by omega),fa]
 ·injection hk with hk;subst hk;exact .inr ⟨2,_,rfl,rfl,d9 (d6 _)⟩
 ·injection hk with hk;subst hk;exact .inr ⟨3,_,rfl,rfl,d9 (d6 _)⟩
 ·injection hk with hk;subst hk;exact .inl ⟨rfl,rfl,rfl⟩
 ·injection hk with hk;subst hk;exact .inr ⟨4,_,rfl,rfl,d9 (d6 _)⟩
 ·have hk:((mF m n A).map flB++[])[i]? =some k':=hk
  have hi:i<m:=by have:=(lg1 hk).1;simpa [b8] using this
  rw [L2 (Q8 hi)] at hk
  injection hk with hk;subst hk
  exact .inr ⟨i+5,_,fa i,L2 (Q8 hi),d9 (d6 _)⟩
abbrev ba8 (m n j:Nat) (V G:Nat->Rat) (O:Nat->Nat) (fr:List (Nat × Bool)) (A:Nat->Nat->Rat):Hp:=
 { mode:=.live,elem:=256,size:=6,rows:=[[C.t (ti n),.own 1 0 m true,.own 2 0 n true,.own 3 0 m true,.own (m+6) 0 (j+1) true,.own 5 0 fr.length true]],box:=true }::
   a0N 6 m n V::flB (rF n G)::Y7 m O::ad0 3 1::a1V fr::((mF m n A).map flB++[Y7 (j+1) (fun j=>j)])
def fF2 (m:Nat):Nat->Nat:=fun i=>if i=4 then m+6 else i
theorem b5H {m n j:Nat} {V G:Nat->Rat} {O:Nat->Nat} {fr:List (Nat × Bool)} {A:Nat->Nat->Rat} {env env':Env} {H:Hp} (hH:H=ba8 m n j V G O fr A) (hE:a0H (fR (m+6) (fF2 m)) H env env'):
 Ent 0 (fR (m+6) (fF2 m)) env H env' (b6q m n (j+1) V G O fr A []):=by
 subst hH
 have fa:∀i,i≠4->fF2 m i=i:=fun i hi=>by unfold fF2;rw [if_neg hi]
 refine aT8 (by simp [b8]) (by omega) (fun i hi=>by omega) (fun i j hi hj h=>by unfold fF2 at h;(repeat' split at h)<;>omega) ?_ hE
 intro i k' hk
 rcases i with _|_|_|_|_|_|i
 ·injection hk with hk;subst hk
  exact ⟨_,rfl,rfl,rfl,rfl,.inr ⟨⟨rfl,⟨by rw [B3 (by omega)];rfl,rfl,rfl,fun h=>h⟩,⟨by rw [B3 (by omega)];rfl,rfl,rfl,fun h=>h⟩,⟨by rw [B3 (by omega)];rfl,rfl,rfl,fun h=>h⟩,⟨by rw [B3 (by omega)];rfl,rfl,rfl,fun h=>h⟩,⟨by rw [B3 (by omega)];rfl,rfl,rfl,fun h=>h⟩,trivial⟩,trivial⟩⟩
 ·injection hk with hk;subst hk
  refine ⟨_,rfl,a1r (h:=fun i=>i+6) (h':=fun i=>i+6) fun j hj=>?_⟩
  rw [B3 (by omega),fa _ (by omega)]
 ·injection hk with hk;subst hk;exact ⟨_,rfl,d9 (d6 _)⟩
 ·injection hk with hk;subst hk;exact ⟨_,rfl,d9 (d6 _)⟩
 ·injection hk with hk;subst hk
  refine ⟨_,a1C (t:=0) (b8 _ _ _),d9 (d6 _)⟩
 ·injection hk with hk;subst hk;exact ⟨_,rfl,d9 (d6 _)⟩
 ·have hk:((mF m n A).map flB++[])[i]? =some k':=hk
  have hi:i<m:=by have:=(lg1 hk).1;simpa [b8] using this
  rw [L2 (Q8 hi)] at hk
  injection hk with hk;subst hk
  rw [fa _ (by omega)]
  exact ⟨_,L2 (Q8 hi),d9 (d6 _)⟩
set_option maxHeartbeats 4000000 in
theorem aT4 (s:g8) (g:List (Int × Rat)) (n:Nat) (h:b7d s g n):
 a9 Tryz.prog 199 [a0U s,s6 g] [] (.c (.ptr 0 0 0)) (a09 (g4 s).length n (g4 s) (i5 s g)):=by
 have m1:(s.rows.map z6).length=s.rows.length:=by simp
 have m2:(g.map j9).length=g.length:=by simp
 have z0:∀H:Hp,H.length=0->X7 Tryz.prog 254 [a7 .i64 s.n] H (.c (.own 0 0 n true)) [flB (rF n fun _=>0)]:=fun H hH=>by rw [h.en];exact a1B hH h.n1
 have hsl:=h.l
 have htg:=h.tg
 have hbg:=h.bg
 have hgl:=E0 htg
 have hn1:=h.n1
 have hen:=h.en
 have put0:∀(K i:Nat) (w:D9) (b:Bool) (F:List (Nat × Bool)) (bx:Blk),s.rows[i]? =some w->F.length=K->K2 bx.rows->K<=10000->i<=100000->
  a9 Tryz.prog 255 [.c (.ptr 0 0 0),a7 .i64 i,aN9 w,f9 b] (a5N n K (i5 s g).V (fun _=>0) (fun i=>n+i) F (i5 s g).A [bx]) (.tup []) (b2b n K (U4 b w.value) (sgF b w.terms) (i5 s g).V (fun _=>0) (fun i=>n+i) F (i,b) (i5 s g).A bx):=by
  intro K i w b F bx hw hF hbx hK hi
  have hn:=a0P h.r
  have hrw:=(Z8 h.r hw).1
  rw [hn,h.en] at hrw
  have hl:=E0 hrw
  have hb:=h.b w (lg2 hw)
  exact b8U n K i w b _ _ F hF _ bx hbx h.n1 hK hi hrw (by have:=h.n1;omega) hb.2 hb.1
 (refine ac Tryz.func199 ?_;(conv=>whnf);repeat ((first|refine b0x ?_|refine zy ?_);conv=>whnf))
 repeat' (first|refine zz ?_|refine b0x ?_|refine .inl ⟨_,_,z0 _ rfl,?_⟩|refine zd ?_ ?_<;>intro h<;>try omega|refine zy ?_|fail)<;>conv=>whnf
 refine aN7 (fun i=>([J,s6 g,S.c (C.t (T.ptr (a5O s))),J,J,S.c (C.ptr 0 0 0),J,J,J,J,J,J,J,J,J,J,J,J,J,S.c (C.t (M3 s.rows)),a7 .i64 s.rows.length,a7 .i64 i,J,J,J,J,J,J,J,J,J,J,J,J,J,J,J,J,J,J,J,J,J,J,J,J,J,J,J,J,J,J,J,J,J,J,J,J,J,J,J,J,J,J,J,J,J,J,J,J,J,J,J,J,J],a5N n (L7 s i).length (i5 s g).V (fun _=>0) (fun i=>n+i) (L7 s i) (i5 s g).A [])) s.rows.length (fun _=>True) (gR 5 pF1) trivial ?_ ?_
 ·refine b3s rfl (fun i j x hi hj h1 h2=>by unfold pF1 at h1 h2;(repeat' split at h1)<;>(repeat' split at h2)<;>first|(cases h1;done)|(cases h2;done)|(injection h1 with h1;injection h2 with h2;omega)) ?_ ?_
  ·intro i k' hk
   rcases i with _|_|_|_|_|i
   ·injection hk with hk;subst hk
    exact .inr ⟨1,_,rfl,rfl,rfl,rfl,rfl,.inr ⟨⟨a9c (by rw [h.en]),⟨rfl,rfl,rfl⟩,⟨rfl,rfl,rfl,fun h=>h⟩,⟨rfl,rfl,rfl⟩,rfl,⟨rfl,rfl,rfl⟩,trivial⟩,trivial⟩⟩
   ·injection hk with hk;subst hk;exact .inl ⟨rfl,rfl,rfl⟩
   ·injection hk with hk;subst hk;exact .inr ⟨0,_,rfl,rfl,d9 (d6 _)⟩
   ·injection hk with hk;subst hk;exact .inl ⟨rfl,rfl,rfl⟩
   ·injection hk with hk;subst hk;exact .inl ⟨rfl,rfl,rfl⟩
   ·simp [mF,L7] at hk
  ·exact ⟨rfl,i7 rfl,⟨rfl,rfl,rfl⟩,i7 rfl,b9 (by omega),b9 rfl,trivial⟩
 intro i hi _
 refine J7 d7 ?_
 conv=>whnf
 repeat' (first|refine zz ?_|refine k5 ?_|refine zd ?_ ?_<;>intro h<;>try omega|refine zy ?_|fail)<;>conv=>whnf
 ·have hlt:i<s.rows.length:=by omega
  obtain ⟨w,hw⟩:∃w,s.rows[i]? =some w:=⟨_,lg0 hlt⟩
  obtain ⟨K,hK⟩:∃K,K=(L7 s i).length:=⟨_,rfl⟩
  rw [← hK]
  obtain ⟨K1,hK1⟩:∃K1,K1=(L7 s i++if w.kind≠0 then [(i,false)] else []).length:=⟨_,rfl⟩
  obtain ⟨F1,hF1⟩:∃F1,F1=(L7 s i++if w.kind≠0 then [(i,false)] else []):=⟨_,rfl⟩
  have hKb:K<=10000:=by have:=a5b (s:=s) i;omega
  refine J7 d7 ?_
  conv=>whnf
  refine a9y (a9Y ?_)
  refine J7 d7 ?_
  conv=>whnf
  repeat' (first|refine zz ?_|refine d8 hw ?_|refine k6 (b8 _ _ _) ?_|refine k5 ?_|refine i6 (t:=0) (b8 _ _ _) ?_|refine i8 (t:=0) (b8 _ _ _) ?_|refine zd ?_ ?_<;>intro h<;>try omega|refine zy ?_|fail)<;>conv=>whnf
  refine a0A d7 ([J,s6 g,S.c (C.t (T.ptr (a5O s))),J,J,S.c (C.ptr 0 0 0),a7 .i64 i,S.c (C.ptr (K1+5) 0 0),J,J,J,J,J,J,J,J,J,J,J,S.c (C.t (M3 s.rows)),a7 .i64 s.rows.length,a7 .i64 i,J,J,J,J,J,J,J,J,J,J,J,J,J,J,J,J,J,J,J,J,J,J,J,J,J,J,J,J,J,J,J,J,J,J,J,J,J,J,J,J,J,J,J,J,J,J,J,J,J,J,J,J,J]) (a5N n K1 (i5 s g).V (fun _=>0) (fun i=>n+i) F1 (i5 s g).A [rbx w]) ?_ ?_
  ·by_cases hk:w.kind=0
   ·have e1:F1=L7 s i:=by rw [hF1,if_neg (by simp [hk]),List.append_nil]
    have e2:K1=K:=by rw [hK1,if_neg (by simp [hk]),List.append_nil,hK]
    subst e1 e2
    conv=>whnf
    repeat' (first|refine zz ?_|refine k6 (b8 _ _ _) ?_|refine k5 ?_|refine i6 (t:=0) (b8 _ _ _) ?_|refine i8 (t:=0) (b8 _ _ _) ?_|refine zd ?_ ?_<;>intro h<;>try omega|refine zy ?_|fail)<;>conv=>whnf
    all_goals first
     |omega
     |exact ⟨idR (K1+6),a08 (X:=[rbx w]) (X':=[]) (a1Q rfl rfl rfl rfl rfl rfl) rfl (Nat.zero_le _) (by intro b hb;simp at hb;subst hb;exact a4d (aO1 w)) ⟨rfl,rfl,⟨o8 (by omega),rfl,rfl⟩,rfl,⟨o8 (by omega),rfl,rfl⟩,rfl,rfl,rfl,trivial⟩⟩
   ·have e1:F1=L7 s i++[(i,false)]:=by rw [hF1,if_pos hk]
    have e2:K1=K+1:=by rw [hK1,if_pos hk,List.length_append,←hK];rfl
    have hg:(g4 s).getD K (0,false)=(i,false):=by
     refine al0 (i:=i+1) (by omega) ?_
     rw [af4 hw,if_pos hk,List.append_assoc,List.getElem?_append_right (by omega),hK];simp
    subst e1 e2
    have pu:=put0 K i w false (L7 s i) (rbx w) hw hK.symm (aO1 w) hKb (by omega)
    conv=>whnf
    repeat' (first|refine zz ?_|refine .inr ⟨_,_,pu,?_⟩|refine k6 (b8 _ _ _) ?_|refine k5 ?_|refine i6 (t:=0) (b8 _ _ _) ?_|refine i8 (t:=0) (b8 _ _ _) ?_|refine zd ?_ ?_<;>intro h<;>try omega|refine zy ?_|fail)<;>conv=>whnf
    all_goals first
     |omega
     |exact ⟨_,b0P (aO1 w) (b06 hg hw) (b0N hg hw) ⟨rfl,rfl,⟨by rw [B3 (by omega)];rfl,rfl,rfl⟩,rfl,⟨by rw [B3 (by omega),b6O],rfl,rfl⟩,rfl,rfl,rfl,trivial⟩⟩
  ·have hl1:F1.length=K1:=by rw [hF1,hK1]
   have eF:L7 s (i+1)=F1++if w.kind≠1 then [(i,true)] else []:=by rw [af4 hw,hF1]
   have hK1b:K1<=10000:=by
    have:=a5b (s:=s) i
    rw [hK1,List.length_append]
    split<;>simp<;>omega
   by_cases hk:w.kind=1
   ·have e1:L7 s (i+1)=F1:=by rw [eF,if_neg (by simp [hk]),List.append_nil]
    refine z5 d7 _ ?_
    conv=>whnf
    repeat' (first|refine zz ?_|refine k6 (b8 _ _ _) ?_|refine k5 ?_|refine i6 (t:=0) (b8 _ _ _) ?_|refine i8 (t:=0) (b8 _ _ _) ?_|refine zd ?_ ?_<;>intro h<;>try omega|refine zy ?_|fail)<;>conv=>whnf
    all_goals try omega
    refine z5 d7 _ ?_
    conv=>whnf
    repeat' (first|refine zz ?_|refine k6 (b8 _ _ _) ?_|refine k5 ?_|refine i6 (t:=0) (b8 _ _ _) ?_|refine i8 (t:=0) (b8 _ _ _) ?_|refine zd ?_ ?_<;>intro h<;>try omega|refine zy ?_|fail)<;>conv=>whnf
    refine ⟨hlt,trivial,idR (K1+5),?_⟩
    rw [e1,hl1]
    exact a08 (X:=[]) (X':=[rbx w]) (a1Q rfl rfl rfl rfl rfl rfl) rfl (Nat.zero_le _) (by simp) ⟨rfl,rfl,⟨o8 (by omega),rfl,rfl⟩,rfl,rfl,b9 (by omega),trivial⟩
   ·have e1:L7 s (i+1)=F1++[(i,true)]:=by rw [eF,if_pos hk]
    have hg:(g4 s).getD K1 (0,false)=(i,true):=by
     refine al0 (i:=i+1) (by omega) ?_
     rw [e1,List.getElem?_append_right (by omega),hl1];simp
    have pu:=put0 K1 i w true F1 (rbx w) hw hl1 (aO1 w) hK1b (by omega)
    refine z5 d7 _ ?_
    conv=>whnf
    repeat' (first|refine zz ?_|refine .inr ⟨_,_,pu,?_⟩|refine k6 (b8 _ _ _) ?_|refine k5 ?_|refine i6 (t:=0) (b8 _ _ _) ?_|refine i8 (t:=0) (b8 _ _ _) ?_|refine zd ?_ ?_<;>intro h<;>try omega|refine zy ?_|fail)<;>conv=>whnf
    all_goals try omega
    refine b5p (env':=[J,s6 g,S.c (C.t (T.ptr (a5O s))),J,J,S.c (C.ptr 0 0 0),J,J,J,J,J,J,J,J,J,J,J,J,J,S.c (C.t (M3 s.rows)),a7 .i64 s.rows.length,a7 .i64 i,J,J,J,J,J,J,J,J,J,J,J,J,J,J,J,J,J,J,J,J,J,J,J,J,J,J,J,J,J,J,J,J,J,J,J,J,J,J,J,J,J,J,J,J,J,J,J,J,J,J,J,J,J]) _ (b0P (aO1 w) (b06 hg hw) (b0N hg hw) ⟨rfl,rfl,⟨by rw [B3 (by omega)];rfl,rfl,rfl⟩,rfl,rfl,rfl,trivial⟩) ?_
    refine z5 d7 _ ?_
    conv=>whnf
    repeat' (first|refine zz ?_|refine k6 (b8 _ _ _) ?_|refine k5 ?_|refine i6 (t:=0) (b8 _ _ _) ?_|refine i8 (t:=0) (b8 _ _ _) ?_|refine zd ?_ ?_<;>intro h<;>try omega|refine zy ?_|fail)<;>conv=>whnf
    refine ⟨hlt,trivial,idR (K1+1+5),?_⟩
    rw [e1,show (F1++[(i,true)]).length=K1+1 by simp [hl1]]
    exact a08 (X:=[]) (X':=[rbx w]) (a1Q rfl rfl rfl rfl rfl rfl) rfl (Nat.zero_le _) (by simp) ⟨rfl,rfl,⟨o8 (by omega),rfl,rfl⟩,rfl,rfl,b9 (by omega),trivial⟩
 ·have hie:i=s.rows.length:=by omega
  subst hie
  refine z5 d7 _ ?_
  conv=>whnf
  repeat' (first|refine zz ?_|refine k6 (b8 _ _ _) ?_|refine k5 ?_|refine i6 (t:=0) (b8 _ _ _) ?_|refine i8 (t:=0) (b8 _ _ _) ?_|refine zd ?_ ?_<;>intro h<;>try omega|refine zy ?_|fail)<;>conv=>whnf
  all_goals try omega
  refine f5 d7 (fun q=>([J,J,S.c (C.t (T.ptr (a5O s))),J,J,S.c (C.ptr 0 0 0),J,J,J,J,J,J,J,J,J,J,J,J,J,J,J,J,J,J,J,J,J,J,J,J,J,J,J,J,J,J,J,J,J,J,J,s6 g,a7 .i64 g.length,a7 .i64 q,J,J,J,J,J,J,J,J,J,J,J,J,J,J,J,J,J,J,J,J,J,J,J,J,J,J,J,J,J,J,J],a5N n (g4 s).length (i5 s g).V (fun j=>-(M4 g q j)) (fun i=>n+i) (g4 s) (i5 s g).A [])) g.length (fun _=>True) (idR ((g4 s).length+5)) trivial ?_ ?_
  ·refine a08 (X:=[]) (X':=[]) (a1Q rfl rfl ?_ rfl rfl rfl) rfl (Nat.zero_le _) (by simp) ⟨i7 rfl,⟨o8 (by omega),rfl,rfl⟩,i7 rfl,b9 (by omega),b9 rfl,trivial⟩
   rw [y5 (g:=fun _=>0) (h:=fun j=>-(M4 g 0 j)) fun j hj=>by show (0:Rat)=-0;decide]
  intro q hq _
  by_cases hlt:q<g.length
  ·obtain ⟨t,ht⟩:∃t,g[q]? =some t:=⟨_,lg0 hlt⟩
   obtain ⟨t0,t1,t2⟩:=F6 htg t (lg2 ht)
   have nt:=a2V t.2 (hbg t (lg2 ht))
   have gp:(rF n (fun j=>-(M4 g q j)))[0+t.1.toNat]? =some (fz (-(M4 g q t.1.toNat))):=by rw [Nat.zero_add,H6 (by omega)]
   have eV:0+t.1.toNat=t.1.toNat:=by omega
   have e:x5 (flB (rF n (fun j=>-(M4 g q j)))) ((flB (rF n (fun j=>-(M4 g q j)))).rows.set (0+t.1.toNat) (frC (fz (-t.2))))=flB (rF n (fun j=>-(M4 g (q+1) j))):=by
    have e1:=I3 (row:=rF n (fun j=>-(M4 g q j))) (y:=fz (-t.2)) eV
    rw [R8 (by omega)] at e1
    refine e1.trans ?_
    rw [K7 ht]
    refine congrArg flB ?_
    exact y5 fun j hj=>by show (if j=t.1.toNat then -t.2 else -(M4 g q j))=-(if j=t.1.toNat then t.2 else M4 g q j);split<;>rfl
   conv=>whnf
   repeat' (first|refine zz ?_|refine qp nt ?_|refine d8 ht ?_|refine s9 gp ?_|refine k6 (b8 _ _ _) ?_|refine k5 ?_|refine i6 (t:=0) (b8 _ _ _) ?_|refine i8 (t:=0) (b8 _ _ _) ?_|refine zd ?_ ?_<;>intro h<;>try omega|refine zy ?_|fail)<;>conv=>whnf
   all_goals first
    |omega
    |exact ⟨hlt,trivial,idR ((g4 s).length+5),a08 (X:=[]) (X':=[_]) (a1Q rfl rfl e rfl rfl rfl) rfl (Nat.zero_le _) (by simp) ⟨rfl,⟨o8 (by omega),rfl,rfl⟩,rfl,rfl,b9 (by omega),trivial⟩⟩
  ·have hqe:q=g.length:=by omega
   subst hqe
   conv=>whnf
   repeat' (first|refine zz ?_|refine k6 (b8 _ _ _) ?_|refine k5 ?_|refine i6 (t:=0) (b8 _ _ _) ?_|refine i8 (t:=0) (b8 _ _ _) ?_|refine zd ?_ ?_<;>intro h<;>try omega|refine zy ?_|fail)<;>conv=>whnf
   all_goals try omega
   refine f5 d7 (fun q=>([J,J,J,J,J,S.c (C.ptr 0 0 0),J,J,J,J,J,J,J,J,J,J,J,J,J,J,J,J,J,J,J,J,J,J,J,J,J,J,J,J,J,J,J,J,J,J,J,J,J,J,J,J,J,J,J,J,J,J,J,J,J,J,J,J,J,a7 .i64 n,a7 .i64 q,J,J,J,J,J,J,J,J,J,J,J,J,J,J],b6q (g4 s).length n q (i5 s g).V (i5 s g).G (fun i=>n+i) (g4 s) (i5 s g).A [])) n (fun _=>True) (gR ((g4 s).length+6) fF1) trivial ?_ ?_
   ·exact b3W rfl rfl ⟨⟨by rw [a3a (by omega)];rfl,rfl,rfl⟩,b9 hen,b9 rfl,trivial⟩
   intro q hq _
   by_cases hlt:q<n
   ·conv=>whnf
    repeat' (first|refine zz ?_|refine qp (toC,y4) ?_|refine qp (toC,y4) ?_|refine qp 0 ?_|refine q9 (by simp [toC,y4]) (by simp [toC,y4];omega) ?_|refine bl0 [0] ?_|refine k6 (b8 _ _ _) ?_|refine k5 ?_|refine i6 (t:=0) (b8 _ _ _) ?_|refine i8 (t:=0) (b8 _ _ _) ?_|refine zd ?_ ?_<;>intro h<;>try omega|refine zy ?_|fail)<;>conv=>whnf
    all_goals first
     |omega
     |(refine ⟨hlt,trivial,fR ((g4 s).length+6) (fF2 (g4 s).length),b5H (b5O rfl rfl rfl rfl rfl rfl (congrArg (fun z=>(mF (g4 s).length n (i5 s g).A).map flB++[z]) ?_)) ⟨⟨by rw [B3 (by omega)];rfl,rfl,rfl⟩,rfl,b9 (by omega),trivial⟩⟩
       exact congrArg (fun z=>({ mode:=.live,elem:=3,size:=1,rows:=z,box:=false }:Blk)) (a81 (O:=fun j=>j) (x:=(q:Int)) rfl))
   ·have hqe:q=n:=by omega
    subst hqe
    conv=>whnf
    repeat' (first|refine zz ?_|refine k6 (b8 _ _ _) ?_|refine k5 ?_|refine i6 (t:=0) (b8 _ _ _) ?_|refine i8 (t:=0) (b8 _ _ _) ?_|refine zd ?_ ?_<;>intro h<;>try omega|refine zy ?_|fail)<;>conv=>whnf
    all_goals try omega
    refine ar4 (n:=(g4 s).length+6) a2O (Nat.zero_le _) a6z (fun i _=>?_) ⟨o8 (by omega),rfl,rfl⟩
    have e0:a09 (g4 s).length q (g4 s) (i5 s g)=b6q (g4 s).length q q (i5 s g).V (i5 s g).G (fun i=>q+i) (g4 s) (i5 s g).A []:=by
     have eO:(i5 s g).O=fun i=>q+i:=by funext i;show s.n.toNat+i=_;rw [hen];rfl
     show _::_::_::Y7 _ (i5 s g).O::_::_::_=_::_::_::_::_::_::(_++[])
     rw [List.append_nil,eO];rfl
    rw [e0]
def ptK (n:Nat) (O:Nat->Nat) (v x0:Nat->Rat):Nat->Nat->Rat
 |0=>x0
 |k+1=>fun j=>if O k<n∧j=O k then v k else ptK n O v x0 k j
theorem S0 {n:Nat} {O:Nat->Nat} {v x0:Nat->Rat} {k:Nat}:ptK n O v x0 (k+1)=fun j=>if O k<n∧j=O k then v k else ptK n O v x0 k j:=rfl
theorem a9J {n:Nat} {O:Nat->Nat} {v x0:Nat->Rat} {j:Nat}:∀{k:Nat},(∀ i,i<k->O i≠j)->ptK n O v x0 k j=x0 j
 |0,_=>rfl
 |k+1,h=>by rw [S0];simp only;rw [if_neg (fun e=>h k (by omega) e.2.symm),a9J fun i hi=>h i (by omega)]
theorem a9t {n:Nat} {O:Nat->Nat} {v x0:Nat->Rat} {i:Nat}:∀{k:Nat},i<k->O i<n->(∀ a,a<k->O a=O i->a=i)->ptK n O v x0 k (O i)=v i
 |0,h,_,_=>by omega
 |k+1,h,hn,hu=>by
  rw [S0];simp only
  by_cases he:O k=O i
  ·have:=hu k (by omega) he
   subst this
   rw [if_pos ⟨hn,rfl⟩]
  ·rw [if_neg (fun e=>he e.2.symm)]
   have:i≠k:=fun e=>he (by rw [e])
   exact a9t (by omega) hn fun a ha=>hu a (by omega)
theorem aT0 {m n:Nat} {D:Fd} (hP:a0a m n D) {j:Nat} (hj:j<n):ptK n D.O D.V (fun _=>0) m j=a0b m n D 1 (fun _=>0) j:=by
 rcases hP.all j (by omega) with ⟨i,hi,rfl⟩|⟨q,hq,rfl⟩
 ·rw [a9t hi hj fun a ha he=>hP.oi a i ha hi he,a5s hP hi,v7 fun j _=>by grind];grind
 ·rw [a9J fun i hi=>hP.of i q hi hq,a0f hP hq]
theorem b09 {m n c:Nat} {D:Fd} (hP:a0a m n D) (hc:c<n) {j:Nat} (hj:j<n):ptK n D.O (fun i=>-(D.A i c)) (fun j=>if D.F c<n∧j=D.F c then 1 else 0) m j=a0b m n D 0 (fun q=>if q=c then 1 else 0) j:=by
 rcases hP.all j (by omega) with ⟨i,hi,rfl⟩|⟨q,hq,rfl⟩
 ·rw [a9t hi hj fun a ha he=>hP.oi a i ha hi he,a5s hP hi,f7 (g:=fun q=>(if c=q then (1:Rat) else 0)*D.A i q) fun q _=>by
   by_cases h:q=c
   ·subst h;simp only [if_true];grind
   ·rw [if_neg h,if_neg (fun e=>h e.symm)];grind,a4g hc]
  grind
 ·rw [a9J fun i hi=>hP.of i q hi hq,a0f hP hq]
  by_cases h:q=c
  ·subst h;rw [if_pos rfl,if_pos ⟨hj,rfl⟩]
  ·rw [if_neg h,if_neg (fun e=>h (hP.fi q c hq hc e.2))]
theorem aV0 (n:Nat) (y:Nat->Rat):(zOf n y).map fz=rF n y:=by unfold zOf rF;rw [List.map_map];rfl
abbrev dT (m n:Nat) (fr:List (Nat × Bool)) (D:Fd):S:=.c (.t (.ptr (b5K m n fr D)))
set_option maxHeartbeats 2000000 in
theorem b4A (m n:Nat) (fr:List (Nat × Bool)) (D:Fd) (hP:a0a m n D) (hm:m<=100000) (hn:n<=1000):a9 Tryz.prog 201 [dT m n fr D] [] (n6 ((zOf n (a0b m n D 1 (fun _=>0))).map fz)) []:=by
 have m1:(a11 m D.O).length=m:=y4 _ _
 have z0:∀H:Hp,H.length=0->X7 Tryz.prog 254 [a7 .i64 n] H (.c (.own 0 0 n true)) [flB (rF n fun _=>0)]:=fun H hH=>a1B hH hn
 rw [aV0,←y5 (g:=ptK n D.O D.V (fun _=>0) m) fun j hj=>aT0 hP hj]
 (refine ac Tryz.func201 ?_;(conv=>whnf);repeat ((first|refine b0x ?_|refine zy ?_);conv=>whnf))
 repeat' (first|refine zz ?_|refine .inl ⟨_,_,z0 _ rfl,?_⟩|refine zd ?_ ?_<;>intro h<;>try omega|refine zy ?_|fail)<;>conv=>whnf
 refine f5 d7 (fun k=>([dT m n fr D,J,J,S.c (C.own 0 0 n true),J,J,J,J,J,J,J,J,J,J,a7G m D.O,a7 .i64 m,a7 .i64 k,J,J,J,J,J,J,J,J,J,J,J,J,J,J,J,J,J,J,J,J,J,J,J],[flB (rF n (ptK n D.O D.V (fun _=>0) k))])) m (fun _=>True) [some 0] trivial
  ⟨rfl,rfl,⟨d9 (d6 _),trivial⟩,⟨i7 rfl,⟨rfl,rfl,rfl,fun h=>h⟩,i7 rfl,b9 (by omega),b9 rfl,trivial⟩⟩ ?_
 intro k hk _
 by_cases hlt:k<m
 ·by_cases ho:D.O k<n
  ·have gp:(rF n (ptK n D.O D.V (fun _=>0) k))[0+((D.O k:Nat):Int).toNat]? =some (fz (ptK n D.O D.V (fun _=>0) k (D.O k))):=by rw [show 0+((D.O k:Nat):Int).toNat=D.O k by omega,H6 ho]
   have e:x5 (flB (rF n (ptK n D.O D.V (fun _=>0) k))) ((flB (rF n (ptK n D.O D.V (fun _=>0) k))).rows.set (0+((D.O k:Nat):Int).toNat) (frC (fz (D.V k))))=flB (rF n (ptK n D.O D.V (fun _=>0) (k+1))):=by
    rw [I3 (show 0+((D.O k:Nat):Int).toNat=D.O k by omega),R8 ho,S0]
    refine congrArg flB (y5 fun j hj=>?_)
    simp only [ho,true_and]
   conv=>whnf
   repeat' (first|refine zz ?_|refine N1 rfl hlt ?_|refine a2v rfl hlt ?_|refine s9 gp ?_|refine zd ?_ ?_<;>intro h<;>try omega|refine zy ?_|fail)<;>conv=>whnf
   all_goals first
    |omega
    |exact ⟨hlt,trivial,[some 0],rfl,rfl,⟨⟨rfl,rfl,rfl,.inl ⟨congrArg Blk.rows e,(congrArg Blk.rows e) ▸ d6 _⟩⟩,trivial⟩,⟨rfl,⟨rfl,rfl,rfl,fun h=>h⟩,rfl,rfl,b9 (by omega),trivial⟩⟩
  ·have e:ptK n D.O D.V (fun _=>0) (k+1)=ptK n D.O D.V (fun _=>0) k:=by rw [S0];funext j;rw [if_neg (fun h=>ho h.1)]
   conv=>whnf
   repeat' (first|refine zz ?_|refine N1 rfl hlt ?_|refine zd ?_ ?_<;>intro h<;>try omega|refine zy ?_|fail)<;>conv=>whnf
   all_goals first
    |omega
    |exact ⟨hlt,trivial,[some 0],rfl,rfl,⟨a8 (rows:=(rF n (ptK n D.O D.V (fun _=>0) k)).map s7) rfl rfl rfl rfl (by rw [e]),trivial⟩,⟨rfl,⟨rfl,rfl,rfl,fun h=>h⟩,rfl,rfl,b9 (by omega),trivial⟩⟩
 ·have hke:k=m:=by omega
  subst hke
  conv=>whnf
  repeat' (first|refine zz ?_|refine zd ?_ ?_<;>intro h<;>try omega|refine zy ?_|fail)<;>conv=>whnf
  all_goals first
   |omega
   |exact T7 rfl (fun h=>h) rfl rfl (by simp [M6])
set_option maxHeartbeats 2000000 in
theorem b7E (m n:Nat) (fr:List (Nat × Bool)) (D:Fd) (c:Nat) (hc:c<n) (hP:a0a m n D) (hm:m<=100000) (hn:n<=1000) (hB:∀i,i<m->rl (D.A i c)<=60000):
 a9 Tryz.prog 202 [dT m n fr D,a7 .i64 c] [] (n6 ((zOf n (a0b m n D 0 (fun q=>if q=c then 1 else 0))).map fz)) []:=by
 have m1:(a11 m D.O).length=m:=y4 _ _
 have z0:∀H:Hp,H.length=0->X7 Tryz.prog 254 [a7 .i64 n] H (.c (.own 0 0 n true)) [flB (rF n fun _=>0)]:=fun H hH=>a1B hH hn
 have i1:=N7 1 (by decide) (by decide)
 obtain ⟨x0,hx0⟩:∃x0:Nat->Rat,x0=fun j=>if D.F c<n∧j=D.F c then 1 else 0:=⟨_,rfl⟩
 rw [aV0,←y5 (g:=ptK n D.O (fun i=>-(D.A i c)) x0 m) fun j hj=>by rw [hx0];exact b09 hP hc hj]
 by_cases hf:D.F c<n
 ·have gp0:(rF n (fun _=>(0:Rat)))[0+((D.F c:Nat):Int).toNat]? =some (fz 0):=by rw [show 0+((D.F c:Nat):Int).toNat=D.F c by omega,H6 hf]
  have e0:x5 (flB (rF n (fun _=>(0:Rat)))) ((flB (rF n (fun _=>(0:Rat)))).rows.set (0+((D.F c:Nat):Int).toNat) (frC (fz ((1:Int):Rat))))=flB (rF n x0):=by
   rw [I3 (show 0+((D.F c:Nat):Int).toNat=D.F c by omega),R8 hf,hx0]
   refine congrArg flB (y5 fun j hj=>?_)
   simp only [hf,true_and];rfl
  (refine ac Tryz.func202 ?_;(conv=>whnf);repeat ((first|refine b0x ?_|refine zy ?_);conv=>whnf))
  repeat' (first|refine zz ?_|refine qp i1 ?_|refine .inl ⟨_,_,z0 _ rfl,?_⟩|refine N1 rfl hc ?_|refine s9 gp0 ?_|refine zd ?_ ?_<;>intro h<;>try omega|refine zy ?_|fail)<;>conv=>whnf
  all_goals try omega
  refine f5 d7 (fun k=>([dT m n fr D,a7 .i64 c,J,J,J,S.c (C.own 0 0 n true),J,J,J,J,J,J,J,J,J,J,J,J,J,J,J,J,J,J,J,J,J,J,J,J,J,J,J,J,a7G m D.O,a7 .i64 m,a7 .i64 k,J,J,J,J,J,J,J,J,J,J,J,J,J,J,J,J,J,J,J,J,J,J,J,J,J,J,J],[flB (rF n (ptK n D.O (fun i=>-(D.A i c)) x0 k))])) m (fun _=>True) [some 0] trivial
   ⟨rfl,rfl,⟨⟨rfl,rfl,rfl,.inl ⟨congrArg Blk.rows e0,(congrArg Blk.rows e0) ▸ d6 _⟩⟩,trivial⟩,⟨i7 rfl,b9 rfl,⟨rfl,rfl,rfl,fun h=>h⟩,i7 rfl,b9 (by omega),b9 rfl,trivial⟩⟩ ?_
  intro k hk _
  by_cases hlt:k<m
  ·have ng:=a2V (D.A k c) (hB k hlt)
   by_cases ho:D.O k<n
   ·have gp:(rF n (ptK n D.O (fun i=>-(D.A i c)) x0 k))[0+((D.O k:Nat):Int).toNat]? =some (fz (ptK n D.O (fun i=>-(D.A i c)) x0 k (D.O k))):=by rw [show 0+((D.O k:Nat):Int).toNat=D.O k by omega,H6 ho]
    have e:x5 (flB (rF n (ptK n D.O (fun i=>-(D.A i c)) x0 k))) ((flB (rF n (ptK n D.O (fun i=>-(D.A i c)) x0 k))).rows.set (0+((D.O k:Nat):Int).toNat) (frC (fz (-(D.A k c)))))=flB (rF n (ptK n D.O (fun i=>-(D.A i c)) x0 (k+1))):=by
     rw [I3 (show 0+((D.O k:Nat):Int).toNat=D.O k by omega),R8 ho,S0]
     refine congrArg flB (y5 fun j hj=>?_)
     simp only [ho,true_and]
    conv=>whnf
    repeat' (first|refine zz ?_|refine qp ng ?_|refine N1 rfl hlt ?_|refine a2v rfl hlt ?_|refine a4I rfl hc ?_|refine s9 gp ?_|refine zd ?_ ?_<;>intro h<;>try omega|refine zy ?_|fail)<;>conv=>whnf
    all_goals first
     |omega
     |exact ⟨hlt,trivial,[some 0],rfl,rfl,⟨⟨rfl,rfl,rfl,.inl ⟨congrArg Blk.rows e,(congrArg Blk.rows e) ▸ d6 _⟩⟩,trivial⟩,⟨rfl,rfl,⟨rfl,rfl,rfl,fun h=>h⟩,rfl,rfl,b9 (by omega),trivial⟩⟩
   ·have e:ptK n D.O (fun i=>-(D.A i c)) x0 (k+1)=ptK n D.O (fun i=>-(D.A i c)) x0 k:=by rw [S0];funext j;rw [if_neg (fun h=>ho h.1)]
    conv=>whnf
    repeat' (first|refine zz ?_|refine N1 rfl hlt ?_|refine zd ?_ ?_<;>intro h<;>try omega|refine zy ?_|fail)<;>conv=>whnf
    all_goals first
     |omega
     |exact ⟨hlt,trivial,[some 0],rfl,rfl,⟨a8 (rows:=(rF n (ptK n D.O (fun i=>-(D.A i c)) x0 k)).map s7) rfl rfl rfl rfl (by rw [e]),trivial⟩,⟨rfl,rfl,⟨rfl,rfl,rfl,fun h=>h⟩,rfl,rfl,b9 (by omega),trivial⟩⟩
  ·have hke:k=m:=by omega
   subst hke
   conv=>whnf
   repeat' (first|refine zz ?_|refine zd ?_ ?_<;>intro h<;>try omega|refine zy ?_|fail)<;>conv=>whnf
   all_goals first
    |omega
    |exact T7 rfl (fun h=>h) rfl rfl (by simp [M6])
 ·have e0:x0=fun _=>0:=by rw [hx0];funext j;rw [if_neg (fun h=>hf h.1)]
  (refine ac Tryz.func202 ?_;(conv=>whnf);repeat ((first|refine b0x ?_|refine zy ?_);conv=>whnf))
  repeat' (first|refine zz ?_|refine qp i1 ?_|refine .inl ⟨_,_,z0 _ rfl,?_⟩|refine N1 rfl hc ?_|refine zd ?_ ?_<;>intro h<;>try omega|refine zy ?_|fail)<;>conv=>whnf
  all_goals try omega
  refine f5 d7 (fun k=>([dT m n fr D,a7 .i64 c,J,J,J,S.c (C.own 0 0 n true),J,J,J,J,J,J,J,J,J,J,J,J,J,J,J,J,J,J,J,J,J,J,J,J,J,J,J,J,a7G m D.O,a7 .i64 m,a7 .i64 k,J,J,J,J,J,J,J,J,J,J,J,J,J,J,J,J,J,J,J,J,J,J,J,J,J,J,J],[flB (rF n (ptK n D.O (fun i=>-(D.A i c)) x0 k))])) m (fun _=>True) [some 0] trivial
   ⟨rfl,rfl,⟨a8 (rows:=(rF n (fun _=>0)).map s7) rfl rfl rfl rfl (by rw [e0];rfl),trivial⟩,⟨i7 rfl,b9 rfl,⟨rfl,rfl,rfl,fun h=>h⟩,i7 rfl,b9 (by omega),b9 rfl,trivial⟩⟩ ?_
  intro k hk _
  by_cases hlt:k<m
  ·have ng:=a2V (D.A k c) (hB k hlt)
   by_cases ho:D.O k<n
   ·have gp:(rF n (ptK n D.O (fun i=>-(D.A i c)) x0 k))[0+((D.O k:Nat):Int).toNat]? =some (fz (ptK n D.O (fun i=>-(D.A i c)) x0 k (D.O k))):=by rw [show 0+((D.O k:Nat):Int).toNat=D.O k by omega,H6 ho]
    have e:x5 (flB (rF n (ptK n D.O (fun i=>-(D.A i c)) x0 k))) ((flB (rF n (ptK n D.O (fun i=>-(D.A i c)) x0 k))).rows.set (0+((D.O k:Nat):Int).toNat) (frC (fz (-(D.A k c)))))=flB (rF n (ptK n D.O (fun i=>-(D.A i c)) x0 (k+1))):=by
     rw [I3 (show 0+((D.O k:Nat):Int).toNat=D.O k by omega),R8 ho,S0]
     refine congrArg flB (y5 fun j hj=>?_)
     simp only [ho,true_and]
    conv=>whnf
    repeat' (first|refine zz ?_|refine qp ng ?_|refine N1 rfl hlt ?_|refine a2v rfl hlt ?_|refine a4I rfl hc ?_|refine s9 gp ?_|refine zd ?_ ?_<;>intro h<;>try omega|refine zy ?_|fail)<;>conv=>whnf
    all_goals first
     |omega
     |exact ⟨hlt,trivial,[some 0],rfl,rfl,⟨⟨rfl,rfl,rfl,.inl ⟨congrArg Blk.rows e,(congrArg Blk.rows e) ▸ d6 _⟩⟩,trivial⟩,⟨rfl,rfl,⟨rfl,rfl,rfl,fun h=>h⟩,rfl,rfl,b9 (by omega),trivial⟩⟩
   ·have e:ptK n D.O (fun i=>-(D.A i c)) x0 (k+1)=ptK n D.O (fun i=>-(D.A i c)) x0 k:=by rw [S0];funext j;rw [if_neg (fun h=>ho h.1)]
    conv=>whnf
    repeat' (first|refine zz ?_|refine N1 rfl hlt ?_|refine zd ?_ ?_<;>intro h<;>try omega|refine zy ?_|fail)<;>conv=>whnf
    all_goals first
     |omega
     |exact ⟨hlt,trivial,[some 0],rfl,rfl,⟨a8 (rows:=(rF n (ptK n D.O (fun i=>-(D.A i c)) x0 k)).map s7) rfl rfl rfl rfl (by rw [e]),trivial⟩,⟨rfl,rfl,⟨rfl,rfl,rfl,fun h=>h⟩,rfl,rfl,b9 (by omega),trivial⟩⟩
  ·have hke:k=m:=by omega
   subst hke
   conv=>whnf
   repeat' (first|refine zz ?_|refine zd ?_ ?_<;>intro h<;>try omega|refine zy ?_|fail)<;>conv=>whnf
   all_goals first
    |omega
    |exact T7 rfl (fun h=>h) rfl rfl (by simp [M6])
def ar6 (y:Nat->Rat) (r:Nat) (p:Rat):Nat->Rat:=fun i=>if i=r then y i+p else y i
theorem b8x (b:Bool) (p:Rat):rl (U4 b p)=rl p:=by cases b;rfl;exact S7 p
set_option maxHeartbeats 2000000 in
theorem b4E (m n:Nat) (fr:List (Nat × Bool)) (D:Fd) (R:Nat) (y:Nat->Rat) (k row:Nat) (b:Bool) (p:Rat) (hk:fr[k]? =some (row,b)) (hr:row<R) (hp:rl p<=50000) (hy:rl (y row)<=50000):
 a9 Tryz.prog 263 [dT m n fr D,.c (.own 0 0 R true),a7 .i64 k,frS (fz p)] [flB (rF R y)] (.tup []) [flB (rF R (ar6 y row (-(U4 b p))))]:=by
 have m1:(a0e fr).length=fr.length:=by simp [a0e]
 have eR:0+(row:Int).toNat=row:=by omega
 have gp:(rF R y)[0+(row:Int).toNat]? =some (fz (y row)):=by rw [eR,H6 hr]
 have ng:=a2V p (by omega)
 cases b with
 |true=>
  have ad:=a39 (y row) p (by omega) (by omega)
  have e:x5 (flB (rF R y)) ((flB (rF R y)).rows.set (0+(row:Int).toNat) (frC (fz (y row+p))))=flB (rF R (ar6 y row (-(U4 true p)))):=by
   rw [I3 eR,R8 hr]
   refine congrArg flB (y5 fun j hj=>?_)
   show (if j=row then y row+p else y j)=if j=row then y j+- -p else y j
   by_cases h:j=row
   ·subst h;rw [if_pos rfl,if_pos rfl,Rat.neg_neg]
   ·rw [if_neg h,if_neg h]
  (refine ac Tryz.func263 ?_;(conv=>whnf);repeat (refine zy ?_;conv=>whnf))
  repeat' (first|refine zz ?_|refine qp ng ?_|refine qp ad ?_|refine qp 12 ?_|refine d8 hk ?_|refine s9 gp ?_|refine bl0 [12] ?_|refine zd ?_ ?_<;>intro h<;>try omega|refine zy ?_|fail)<;>conv=>whnf
  all_goals first
   |omega
   |(exfalso;simp_all;done)
   |exact ⟨[some 0],rfl,rfl,⟨⟨rfl,rfl,rfl,.inl ⟨congrArg Blk.rows e,(congrArg Blk.rows e) ▸ d6 _⟩⟩,trivial⟩,trivial⟩
 |false=>
  have ad:=a39 (y row) (-p) (by omega) (by rw [S7];omega)
  have e:x5 (flB (rF R y)) ((flB (rF R y)).rows.set (0+(row:Int).toNat) (frC (fz (y row+-p))))=flB (rF R (ar6 y row (-(U4 false p)))):=by
   rw [I3 eR,R8 hr]
   refine congrArg flB (y5 fun j hj=>?_)
   show (if j=row then y row+-p else y j)=if j=row then y j+-p else y j
   by_cases h:j=row
   ·subst h;rfl
   ·rw [if_neg h,if_neg h]
  (refine ac Tryz.func263 ?_;(conv=>whnf);repeat (refine zy ?_;conv=>whnf))
  repeat' (first|refine zz ?_|refine qp ng ?_|refine qp ad ?_|refine qp 12 ?_|refine d8 hk ?_|refine s9 gp ?_|refine bl0 [12] ?_|refine zd ?_ ?_<;>intro h<;>try omega|refine zy ?_|fail)<;>conv=>whnf
  all_goals first
   |omega
   |(exfalso;simp_all;done)
   |exact ⟨[some 0],rfl,rfl,⟨⟨rfl,rfl,rfl,.inl ⟨congrArg Blk.rows e,(congrArg Blk.rows e) ▸ d6 _⟩⟩,trivial⟩,trivial⟩
def yK (z:Nat->Rat) (f:Nat->Nat->Rat) (k:Nat):Nat->Rat:=fun i=>z i+g7 (fun j=>f j i) k
theorem b0d {z:Nat->Rat} {f:Nat->Nat->Rat} {k:Nat}:yK z f (k+1)=fun i=>yK z f k i+f k i:=by
 funext i;unfold yK;simp only [g7];grind
theorem a97 {f:Nat->Rat} {B:Nat}:∀k:Nat,(∀ j,j<k->rl (f j)<=B)->rl (g7 f k)<=k*(B+1)+1
 |0,_=>by
  have h0:=rl0
  have e:g7 f 0=0:=by simp only [g7,V9]
  rw [e];omega
 |k+1,h=>by
  have h1:=a97 k fun j hj=>h j (by omega)
  have h2:=h k (by omega)
  have h3:=a4e (g7 f k) (f k)
  simp only [g7]
  rw [Nat.succ_mul]
  omega
theorem b8j {s:g8} {w i B:Nat} {p:Rat} (h:rl p<=B) (hB:1<=B):rl (chg s w p i)<=B:=by
 unfold chg
 split
 ·rw [S7,b8x];exact h
 ·have:=rl0;omega
theorem b6N {s:g8} {w:Nat} {p:Rat} (h:w<s.n.toNat):chg s w p=fun _=>0:=by
 funext i;unfold chg;rw [if_neg (fun e=>by omega)]
theorem b8l {s:g8} {w k row:Nat} {b:Bool} {p:Rat} (hw:w=s.n.toNat+k) (hf:(g4 s)[k]? =some (row,b)) (y:Nat->Rat):ar6 y row (-(U4 b p))=fun i=>y i+chg s w p i:=by
 funext i
 have e:D5 s (w - s.n.toNat)=(row,b):=by unfold D5;rw [show w - s.n.toNat=k by omega,lg3,hf];rfl
 unfold ar6 chg
 rw [e]
 by_cases h:i=row
 ·subst h;rw [if_pos rfl,if_pos ⟨by omega,rfl⟩]
 ·rw [if_neg h,if_neg (fun e=>h e.2.symm)];grind
theorem b4W {s:g8} {k:Nat} {f:Nat × Bool} (h:(g4 s)[k]? =some f):f.1<s.rows.length:=by
 obtain ⟨w,hw,_⟩:=Y6.1 (lg2 h)
 exact (lg1 hw).1
set_option maxHeartbeats 2000000 in
theorem b3p (s:g8) (n:Nat) (hn:s.n=n) (E:Fd) (hP:a0a (g4 s).length n E) (B:Nat) (hB:∀j,j<n->rl (E.G j)<=B) (hB1:1<=B) (hBn:(n+2)*(B+2)<=50000) (hm:(g4 s).length<=100000) (hR:s.rows.length<=1000) (hn1:n<=1000):
 a9 Tryz.prog 204 [dT (g4 s).length n (g4 s) E,a7 .i64 s.rows.length] [] (.c (.own 0 0 s.rows.length true)) [flB (rF s.rows.length (Q9 s E))]:=by
 have m1:(a11 n E.F).length=n:=y4 _ _
 have hnn:s.n.toNat=n:=by omega
 have z0:∀H:Hp,H.length=0->X7 Tryz.prog 254 [a7 .i64 s.rows.length] H (.c (.own 0 0 s.rows.length true)) [flB (rF s.rows.length fun _=>0)]:=fun H hH=>a1B hH hR
 have eB:B<=50000:=by
  have:(n+2)*(B+2)=n*(B+2)+2*(B+2):=by rw [Nat.add_mul]
  omega
 obtain ⟨f,hf⟩:∃f:Nat->Nat->Rat,f=fun j=>chg s (E.F j) (-(E.G j)):=⟨_,rfl⟩
 have e9:Q9 s E=yK (fun _=>0) f n:=by
  funext i;unfold Q9 yK;rw [hf,hnn];grind
 rw [e9]
 (refine ac Tryz.func204 ?_;(conv=>whnf);repeat ((first|refine b0x ?_|refine zy ?_);conv=>whnf))
 repeat' (first|refine zz ?_|refine .inl ⟨_,_,z0 _ rfl,?_⟩|refine zd ?_ ?_<;>intro h<;>try omega|refine zy ?_|fail)<;>conv=>whnf
 refine f5 d7 (fun k=>([dT (g4 s).length n (g4 s) E,J,J,J,J,S.c (C.own 0 0 s.rows.length true),J,J,J,J,J,J,J,a7G n E.F,a7 .i64 n,a7 .i64 k,J,J,J,J,J,J,J,J,J,J,J,J,J,J,J,J,J,J,J,J,J,J,J,J,J,J,J,J,J],[flB (rF s.rows.length (yK (fun _=>0) f k))])) n (fun _=>True) [some 0] trivial
  ⟨rfl,rfl,⟨a8 (rows:=(rF s.rows.length (fun _=>0)).map s7) rfl rfl rfl rfl ?_,trivial⟩,⟨i7 rfl,⟨rfl,rfl,rfl,fun h=>h⟩,i7 rfl,b9 (by omega),b9 rfl,trivial⟩⟩ ?_
 ·rw [y5 (g:=yK (fun _=>0) f 0) (h:=fun _=>0) fun j hj=>by unfold yK;simp only [g7,V9];grind]
 intro k hk _
 by_cases hlt:k<n
 ·have ng:=a2V (E.G k) (by have:=hB k hlt;omega)
  by_cases ho:E.F k<n
  ·have e:yK (fun _=>0) f (k+1)=yK (fun _=>0) f k:=by
    rw [b0d,hf];funext i
    have e0:chg s (E.F k) (-(E.G k)) i=0:=by rw [b6N (by omega)]
    show _+chg s (E.F k) (-(E.G k)) i=_
    rw [e0];grind
   conv=>whnf
   repeat' (first|refine zz ?_|refine N1 rfl hlt ?_|refine zd ?_ ?_<;>intro h<;>try omega|refine zy ?_|fail)<;>conv=>whnf
   all_goals first
    |omega
    |exact ⟨hlt,trivial,[some 0],rfl,rfl,⟨a8 (rows:=(rF s.rows.length (yK (fun _=>0) f k)).map s7) rfl rfl rfl rfl (by rw [e]),trivial⟩,⟨rfl,⟨rfl,rfl,rfl,fun h=>h⟩,rfl,rfl,b9 (by omega),trivial⟩⟩
  ·have hfb:=hP.fb k hlt
   obtain ⟨q,hq⟩:∃q,E.F k=n+q:=⟨E.F k - n,by omega⟩
   obtain ⟨⟨row,b⟩,hfr⟩:∃x,(g4 s)[q]? =some x:=⟨_,lg0 (by omega)⟩
   have hrow:row<s.rows.length:=b4W hfr
   have by1:rl (yK (fun _=>0) f k row)<=50000:=by
    have h1:=a97 (f:=fun j=>f j row) (B:=B) k fun j hj=>by rw [hf];exact b8j (by rw [S7];exact hB j (by omega)) hB1
    have e:yK (fun _=>0) f k row=g7 (fun j=>f j row) k:=by unfold yK;grind
    rw [e]
    have:k*(B+1)<=n*(B+1):=Nat.mul_le_mul_right _ (by omega)
    have:(n+2)*(B+2)=n*(B+1)+n+2*(B+2):=by rw [Nat.add_mul,show n*(B+2)=n*(B+1)+n by rw [Nat.mul_add,Nat.mul_add];omega]
    omega
   have ch:=b4E (g4 s).length n (g4 s) E s.rows.length (yK (fun _=>0) f k) q row b (-(E.G k)) hfr hrow (by rw [S7];have:=hB k hlt;omega) by1
   have e:ar6 (yK (fun _=>0) f k) row (-(U4 b (-(E.G k))))=yK (fun _=>0) f (k+1):=by rw [b8l (s:=s) (w:=E.F k) (by omega) hfr,b0d,hf]
   rw [e,show ((q:Nat):Int)=(E.F k:Int) - n by omega] at ch
   conv=>whnf
   repeat' (first|refine zz ?_|refine qp ng ?_|refine N1 rfl hlt ?_|refine a4I rfl hlt ?_|refine .inr ⟨_,_,ch,?_⟩|refine zd ?_ ?_<;>intro h<;>try omega|refine zy ?_|fail)<;>conv=>whnf
   all_goals first
    |omega
    |exact ⟨hlt,trivial,[some 0],rfl,rfl,⟨d9 (d6 _),trivial⟩,⟨rfl,⟨rfl,rfl,rfl,fun h=>h⟩,rfl,rfl,b9 (by omega),trivial⟩⟩
 ·have hke:k=n:=by omega
  subst hke
  conv=>whnf
  repeat' (first|refine zz ?_|refine zd ?_ ?_<;>intro h<;>try omega|refine zy ?_|fail)<;>conv=>whnf
  all_goals first
   |omega
   |exact ⟨[some 0],rfl,rfl,⟨d9 (d6 _),trivial⟩,⟨rfl,rfl,rfl,fun h=>h⟩⟩
def a7l (ρ:List (Option Nat)) (H:Hp):Env->Env->Prop
 |[],[]=>True
 |s::r,s'::r'=>match s' with
  |.junk=>a7l ρ H r r'
  |s'=>(a4l ρ H s s'∨VYS H (fun id=>G3 ρ id=true) s s')∧a7l ρ H r r'
 |_,_=>False
theorem a7l.rel {ρ:List (Option Nat)} {H:Hp}:∀{env env':Env},a7l ρ H env env'->env.length=env'.length∧∀(t:Nat) (s':S),env'[t]? =some s'->∃s,env[t]? =some s∧(a4l ρ H s s'∨VYS H (fun id=>G3 ρ id=true) s s')
 |[],[],_=>⟨rfl,by simp⟩
 |s::r,s'::r',h=>by
  have h':(a4l ρ H s s'∨VYS H (fun id=>G3 ρ id=true) s s')∧a7l ρ H r r':=by
   cases s' with
   |junk=>exact ⟨.inl trivial,h⟩
   |_=>exact h
  obtain ⟨h1,h2⟩:=a7l.rel h'.2
  refine ⟨by simp [h1],fun t s'' ht=>?_⟩
  cases t with
  |zero=>simp at ht;subst ht;exact ⟨s,rfl,h'.1⟩
  |succ t=>simpa using h2 t s'' (by simpa using ht)
 |[],_::_,h=>h.elim
 |_::_,[],h=>h.elim
structure b72 (n0:Nat) (ρ:List (Option Nat)) (env:Env) (H:Hp) (env':Env) (H':Hp):Prop where
 k:a1t ρ n0=true
 n:R7 ρ H'=true
 h:a3o ρ H ρ H'
 e:a7l ρ H env env'
theorem b72.sim {n0:Nat} {ρ:List (Option Nat)} {env env':Env} {H H':Hp} (h:b72 n0 ρ env H env' H') {w0:World} {ι0:Io} {M0:Ms} {H0:Hp} {a:Act} {w:World} (hn:H0.length=n0) (hM0:MB w0 M0)
 (hs:Sim w0 ι0 M0 H0 a w env H):Sim w0 ι0 M0 H0 a w env' H':=by
 obtain ⟨h1,h2,h3,h4⟩:=h
 obtain ⟨ι,M,hd,hsz,he,hH,hM,hF,hst⟩:=hs
 obtain ⟨hel,heg⟩:=a7l.rel h4
 obtain ⟨q1,q2,q3⟩:=a3o.all h1 h2 h3 hn hM0 hH hst
 refine ⟨P9 ρ ι,_,hd,by omega,fun t s' ht=>?_,q1,fun b hb=>hM b hb.1,q2,q3⟩
 obtain ⟨s,r1,r2⟩:=heg t s' ht
 rcases r2 with r2|r2
 ·exact r2.rs hH (he t s r1)
 ·refine r2.rs hH (fun b hb=>hb.1) ?_ (he t s r1)
  intro id k b cap size hp hk hd hi hb
  exact hb.2 ⟨id,k,cap,size,hp,hk,hd,hi⟩
theorem aa5 {P:Program} {τ:Tab} (hτ:B9 P τ) {n0:Nat} {x y:Code} {env:Env} {H:Hp} {Q:AX->Env->Hp->Prop} (E2:Env) (H2:Hp)
 (h:a4y P τ n0 x env H fun a env' H'=>match a with
   |.normal=>∃ρ,b72 n0 ρ env' H' E2 H2
   |a=>Q a env' H') (h2:Awp P n0 y E2 H2 Q):Awp P n0 (.seq x y) env H Q:=by
 refine ⟨fun w0 ι0 M0 H0 a w hn hM hs=>?_⟩
 refine wp_seq (wp_mono ((z5 hτ x h).out w0 ι0 M0 H0 a w hn hM hs) ?_)
 rintro e a' w' ⟨x,env',H',rfl,hq,hs'⟩
 cases x with
 |normal=>obtain ⟨ρ,he⟩:=hq;exact h2.out w0 ι0 M0 H0 a' w' hn hM (he.sim hn hM hs')
 |exit id=>exact ⟨_,env',H',rfl,hq,hs'⟩
 |ret=>exact ⟨_,env',H',rfl,hq,hs'⟩
theorem b26 {P:Program} {n0:Nat} {c:Operand} {t e:Code} {env:Env} {H:Hp} {Q:AX->Env->Hp->Prop} {b:Bool} (hb:G6 env c=f9 b) (h:Awp P n0 (cond b t e) env H Q):Awp P n0 (.cond c t e) env H Q:=by
 refine ⟨fun w0 ι0 M0 H0 a w hn hM hs=>?_⟩
 have hs0:=hs
 obtain ⟨ι,M,hd,hsz,he,hH,hMB,hF,hst⟩:=hs
 have hv:=(he.ev.to hb).inv_atm
 refine wp_cond hv ?_
 cases b with
 |true=>exact h.out w0 ι0 M0 H0 a w hn hM hs0
 |false=>exact h.out w0 ι0 M0 H0 a w hn hM hs0
theorem b3a {m n:Nat} {fr:List (Nat × Bool)} {D:Fd} {X:Hp} {p:Nat->Prop} (hp:∀i,i<m+6->p i):VY (L3 m n fr D.V D.G D.O D.F D.A X) p (.own 1 0 m true) (.sl 5 .any (a8C m n D)):=by
 refine b2Y (k:=a0N 6 m n D.V) (hp _ (by omega)) rfl (fun h=>h) rfl (a4Z m n D) ?_ ?_
 ·intro r hr
  obtain ⟨i,_,rfl⟩:=List.mem_map.1 hr
  rfl
 ·intro i r hi
  have him:i<m:=by have:=(lg1 hi).1;rwa [a4Z] at this
  rw [a8h him] at hi
  injection hi with hi
  subst hi
  refine ⟨_,a2w him,?_⟩
  show VYL _ _ ((s7 (fz (D.V i))).map C.t++[C.own (i+6) 0 n true]) _
  have hv:VY (L3 m n fr D.V D.G D.O D.F D.A X) p (C.own (i+6) 0 n true) (T.sl 4 .any ((rF n (D.A i)).map s7)):=
   .vc (v4 (k:=flB (rF n (D.A i))) (hp _ (by omega)) (L2 (Q8 him)) (fun h=>h) rfl rfl (by simp [M6]))
  exact au8 (ys:=[C.own (i+6) 0 n true]) (us:=[T.sl 4 .any ((rF n (D.A i)).map s7)]) (show _∧True from ⟨hv,trivial⟩)
theorem ay8 {m n:Nat} {fr:List (Nat × Bool)} {D:Fd} {X:Hp} {p:Nat->Prop} (hp:∀i,i<m+6->p i):VY (L3 m n fr D.V D.G D.O D.F D.A X) p (.ptr 0 0 0) (.ptr (b5K m n fr D)):=by
 refine ad6 (k:=aV8 m n fr.length) (hp _ (by omega)) rfl (fun h=>h) rfl ⟨b2h,b3a hp,?_,?_,?_,?_,trivial⟩
 ·exact .vc (v4 (k:=flB (rF n D.G)) (hp _ (by omega)) rfl (fun h=>h) rfl rfl (by simp [M6]))
 ·exact .vc (v4 (k:=Y7 m D.O) (hp _ (by omega)) rfl (fun h=>h) rfl rfl (by simp [y4]))
 ·exact .vc (v4 (k:=Y7 n D.F) (hp _ (by omega)) rfl (fun h=>h) rfl rfl (by simp [y4]))
 ·exact .vc (v4 (k:=a1V fr) (hp _ (by omega)) rfl (fun h=>h) rfl rfl (by simp [a0e]))
abbrev b9Q (m n k:Nat):Blk:={ mode:=.live,elem:=256,size:=6,rows:=[[C.t (ti n),.own 2 0 m true,.own 3 0 n true,.own 4 0 m true,.own 5 0 n true,.own 6 0 k true]],box:=true }
abbrev b8s (m n:Nat) (fr:List (Nat × Bool)) (D:Fd) (b:Blk):Hp:=
 b::b9Q m n fr.length::a0N 7 m n D.V::flB (rF n D.G)::Y7 m D.O::Y7 n D.F::a1V fr::(mF m n D.A).map flB
theorem b6b {N i:Nat} (h:i<N):(a3U [] 1 N).getD i 0=i+1:=by
 unfold a3U
 rw [List.nil_append,lg3,List.getElem?_map,List.getElem?_range h]
 show 1+i=i+1
 omega
theorem b8H {σ:List Nat} (ts:List T) (l:List C):a1w σ (ts.map C.t++l)=ts.map C.t++a1w σ l:=by
 rw [N2,N2,List.map_append,List.map_map]
 congr 1
theorem aw8 {s:g8} {g:List (Int × Rat)} {n:Nat} (b:Blk) (h:a9 Tryz.prog 199 [a0U s,s6 g] [] (.c (.ptr 0 0 0)) (a09 (g4 s).length n (g4 s) (i5 s g))):
 a9 Tryz.prog 199 [a0U s,s6 g] [b] (.c (.ptr 1 0 0)) (b8s (g4 s).length n (g4 s) (i5 s g) b):=by
 have hlen:(a09 (g4 s).length n (g4 s) (i5 s g)).length=(g4 s).length+6:=a2O
 have hl:∀k ∈ a09 (g4 s).length n (g4 s) (i5 s g),k.mode=.live:=by
  intro k hk
  simp only [List.mem_cons] at hk
  rcases hk with rfl|rfl|rfl|rfl|rfl|rfl|hk
  ·rfl
  ·rfl
  ·rfl
  ·rfl
  ·rfl
  ·rfl
  ·obtain ⟨l,_,rfl⟩:=List.mem_map.1 hk;rfl
 have hsub:(a09 (g4 s).length n (g4 s) (i5 s g)).length - ([]:Hp).length=(g4 s).length+6:=by rw [hlen];simp
 have g1:∀i,i<(g4 s).length+6->(a3U [] ([b]:Hp).length ((a09 (g4 s).length n (g4 s) (i5 s g)).length - ([]:Hp).length)).getD i 0=i+1:=fun i hi=>by
  rw [hsub];exact b6b hi
 refine Y1 [] h rfl rfl rfl List.nodup_nil (by simp) (fun k hk=>by rw [hl k hk];intro h;cases h) (by simp) rfl ?_ (by rw [hsub];simp [b8];omega) ?_ ?_
 ·show S.c (.ptr 1 0 0)=S.c (.ptr _ 0 0)
  rw [g1 0 (by omega)]
 ·intro i k hk
  have hi:i<(g4 s).length+6:=by rw [← hlen];exact (lg1 hk).1
  rw [g1 i hi]
  rcases i with _|_|_|_|_|_|i
  ·injection hk with hk;subst hk
   refine ⟨_,rfl,rfl,rfl,rfl,rfl,?_⟩
   simp only [a7U,List.map_cons,List.map_nil,a1w,Y8]
   rw [g1 1 (by omega),g1 2 (by omega),g1 3 (by omega),g1 4 (by omega),g1 5 (by omega)]
  ·injection hk with hk;subst hk
   refine ⟨_,rfl,rfl,rfl,rfl,rfl,?_⟩
   unfold a7U
   show S9 7 _ _ _=(S9 6 _ _ _).map _
   unfold S9
   rw [List.map_map]
   refine List.map_congr_left fun j hj=>?_
   have hj:=List.mem_range.1 hj
   show _=a1w _ ((s7 (fz ((i5 s g).V j))).map C.t++[C.own (j+6) 0 n true])
   rw [b8H]
   simp only [a1w,Y8]
   rw [g1 (j+6) (by omega)]
   rfl
  ·injection hk with hk;subst hk;exact ⟨_,rfl,G8 rfl⟩
  ·injection hk with hk;subst hk;exact ⟨_,rfl,G8 rfl⟩
  ·injection hk with hk;subst hk;exact ⟨_,rfl,G8 rfl⟩
  ·injection hk with hk;subst hk;exact ⟨_,rfl,G8 rfl⟩
  ·have hk:((mF (g4 s).length n (i5 s g).A).map flB)[i]? =some k:=hk
   refine ⟨k,hk,?_⟩
   obtain ⟨l,_,rfl⟩:=List.mem_map.1 (lg2 hk)
   exact G8 rfl
 ·intro j hj _
  have:j=0:=by simpa using hj
  subst this;rfl
def fS (m:Nat):Nat->Nat:=fun i=>if i<m+6 then i+1 else 0
theorem a9Z {m n:Nat} {fr:List (Nat × Bool)} {D:Fd} {b:Blk} {env env':Env} {H:Hp} (hb:K2 b.rows) (hH:H=b8s m n fr D b) (hE:a0H (fR (m+7) (fS m)) H env env'):
 Ent 0 (fR (m+7) (fS m)) env H env' (L3 m n fr D.V D.G D.O D.F D.A [b]):=by
 subst hH
 have fa:∀i,i<m+6->fS m i=i+1:=fun i hi=>by unfold fS;rw [if_pos hi]
 refine aT8 (by simp [b8]) (by omega) (fun i hi=>by omega) (fun i j hi hj h=>by unfold fS at h;(repeat' split at h)<;>omega) ?_ hE
 intro i k' hk
 rcases i with _|_|_|_|_|_|i
 ·injection hk with hk;subst hk
  rw [fa 0 (by omega)]
  exact ⟨_,rfl,rfl,rfl,rfl,.inr ⟨⟨rfl,⟨by rw [B3 (by omega),fa _ (by omega)],rfl,rfl,fun h=>h⟩,⟨by rw [B3 (by omega),fa _ (by omega)],rfl,rfl,fun h=>h⟩,⟨by rw [B3 (by omega),fa _ (by omega)],rfl,rfl,fun h=>h⟩,⟨by rw [B3 (by omega),fa _ (by omega)],rfl,rfl,fun h=>h⟩,⟨by rw [B3 (by omega),fa _ (by omega)],rfl,rfl,fun h=>h⟩,trivial⟩,trivial⟩⟩
 ·injection hk with hk;subst hk
  rw [fa 1 (by omega)]
  refine ⟨_,rfl,a1r (h:=fun i=>i+7) (h':=fun i=>i+6) fun j hj=>?_⟩
  rw [B3 (by omega),fa _ (by omega)]
 ·injection hk with hk;subst hk;rw [fa 2 (by omega)];exact ⟨_,rfl,d9 (d6 _)⟩
 ·injection hk with hk;subst hk;rw [fa 3 (by omega)];exact ⟨_,rfl,d9 (d6 _)⟩
 ·injection hk with hk;subst hk;rw [fa 4 (by omega)];exact ⟨_,rfl,d9 (d6 _)⟩
 ·injection hk with hk;subst hk;rw [fa 5 (by omega)];exact ⟨_,rfl,d9 (d6 _)⟩
 ·have hk:((mF m n D.A).map flB++[b])[i]? =some k':=hk
  by_cases hi:i<m
  ·rw [L2 (Q8 hi)] at hk
   injection hk with hk;subst hk
   rw [fa _ (by omega)]
   refine ⟨flB (rF n (D.A i)),?_,d9 (d6 _)⟩
   show ((mF m n D.A).map flB)[i]? =_
   rw [List.getElem?_map,Q8 hi];rfl
  ·obtain ⟨t,rfl⟩:∃t,i=m+t:=⟨i - m,by omega⟩
   rw [a1C (b8 _ _ _)] at hk
   rcases t with _|t
   ·injection hk with hk;subst hk
    have:fS m (m+0+6)=0:=by unfold fS;rw [if_neg (by omega)]
    rw [this]
    exact ⟨_,rfl,d9 hb⟩
   ·simp at hk
theorem a80 {m n:Nat} {fr:List (Nat × Bool)} {D E:Fd} {r:S} (X:Hp) (hr:aL3 r=true) (hr':r.isT=true) (h:a9 Tryz.prog 200 [.c (.ptr 0 0 0)] (a09 m n fr D) r (a09 m n fr E)):
 a9 Tryz.prog 200 [.c (.ptr 0 0 0)] (L3 m n fr D.V D.G D.O D.F D.A X) r (L3 m n fr E.V E.G E.O E.F E.A X):=by
 have hl:∀{D:Fd},∀k ∈ a09 m n fr D,k.mode=.live∧k.app=false:=by
  intro D k hk
  simp only [List.mem_cons] at hk
  rcases hk with rfl|rfl|rfl|rfl|rfl|rfl|hk
  ·exact ⟨rfl,rfl⟩
  ·exact ⟨rfl,rfl⟩
  ·exact ⟨rfl,rfl⟩
  ·exact ⟨rfl,rfl⟩
  ·exact ⟨rfl,rfl⟩
  ·exact ⟨rfl,rfl⟩
  ·obtain ⟨l,_,rfl⟩:=List.mem_map.1 hk
   exact ⟨rfl,rfl⟩
 exact a8L (n:=m+6) X h a2O a2O (by simp [okS,okC,Nat.blt_eq]) (fun k hk=>⟨(hl k hk).1,(hl k hk).2,a6z k hk⟩) (fun k hk=>⟨(by rw [(hl k hk).1];intro h;cases h),a6z k hk⟩) hr hr'
theorem aC8 (l:List (Int × Rat)) (z:List Rat) (hl:l.length<=1000000) (h1:∀t ∈ l,rl t.2<=20000) (h2:∀v ∈ z,rl v<=40000) (hS:∀k,rl (k9 (l.take k) z)<=60000) (hz:z.length<=1000000) (hr:g9 (-1) z.length l=true):
 a9 Tryz.prog 110 [s6 l,n6 (z.map fz)] [] (frS (fz (k9 l z))) []:=by
 have m1:(l.map j9).length=l.length:=by simp
 have m2:((z.map fz).map s7).length=z.length:=by simp
 have i0:=N7 0 (by decide) (by decide)
 (refine ac Tryz.func110 ?_;(conv=>whnf);repeat ((first|refine b0x ?_|refine zy ?_);conv=>whnf))
 repeat' (first|refine zz ?_|refine qp i0 ?_|refine zd ?_ ?_<;>intro h<;>try omega|refine zy ?_|fail)<;>conv=>whnf
 refine f5 d7 (fun k=>([J,n6 (z.map fz),J,J,S.c (C.ptr 0 0 0),S.c (C.ptr 1 0 0),J,J,J,J,J,s6 l,a7 .i64 l.length,a7 .i64 k,J,J,J,J,J,J,J,J,J,J,J,J,J,J,J,J,J,J,J,J,J,J],[frB U0,frB (fz (k9 (l.take k) z))])) l.length (fun _=>True) [some 0,some 1] trivial
  ⟨rfl,rfl,⟨⟨rfl,rfl,rfl,.inr ⟨⟨rfl,rfl,rfl,rfl,trivial⟩,trivial⟩⟩,⟨rfl,rfl,rfl,.inl ⟨rfl,N3 _⟩⟩,trivial⟩,⟨rfl,⟨rfl,rfl,rfl⟩,⟨rfl,rfl,rfl⟩,rfl,b9 (by simp),rfl,trivial⟩⟩ ?_
 intro k hk _
 by_cases hlt:k<l.length
 ·obtain ⟨t,ht⟩:∃t,l[k]? =some t:=⟨_,lg0 hlt⟩
  obtain ⟨v,c⟩:=t
  have hv:=a7p hr _ (lg2 ht)
  simp only at hv
  have bc:=h1 _ (lg2 ht)
  simp only at bc
  obtain ⟨x,hx⟩:∃x,z[v.toNat]? =some x:=⟨_,lg0 (by omega)⟩
  have hxd:z.getD v.toNat 0=x:=by rw [lg3,hx];rfl
  have bx:=h2 x (lg2 hx)
  have b3:=a3c c x
  have bs:=hS k
  have mu:=ad8 c x (by omega) (by omega)
  have ad:=a39 (k9 (l.take k) z) (c*x) (by omega) (by omega)
  have e:k9 (l.take k) z+c*x=k9 (l.take (k+1)) z:=by
   have:l.take (k+1)=l.take k++[(v,c)]:=by rw [List.take_add_one,ht];rfl
   rw [this,T2,←hxd]
  rw [e] at ad
  have xz:(z.map fz)[v.toNat]? =some (fz x):=by rw [List.getElem?_map,hx];rfl
  conv=>whnf
  repeat' (first|refine zz ?_|refine qp mu ?_|refine qp ad ?_|refine qp 10 ?_|refine qp 5 ?_|refine d8 ht ?_|refine o7 (by omega) xz ?_|refine bl0 [10] ?_|refine bl0 [5] ?_|refine zd ?_ ?_<;>intro h<;>try omega|refine zy ?_|fail)<;>conv=>whnf
  all_goals first
   |omega
   |exact ⟨hlt,trivial,[some 0,some 1],rfl,rfl,⟨⟨rfl,rfl,rfl,.inl ⟨rfl,N3 _⟩⟩,⟨rfl,rfl,rfl,.inl ⟨rfl,N3 _⟩⟩,trivial⟩,⟨rfl,⟨rfl,rfl,rfl⟩,⟨rfl,rfl,rfl⟩,rfl,rfl,rfl,trivial⟩⟩
 ·have hke:k=l.length:=by omega
  subst hke
  rw [lg4 (Nat.le_refl _)]
  conv=>whnf
  repeat' (first|refine zz ?_|refine zd ?_ ?_<;>intro h<;>try omega|refine zy ?_|fail)<;>conv=>whnf
  all_goals first
   |omega
   |exact aK2 rfl
theorem a1e (z:List Rat):(z.map fz).all D7=true:=by
 rw [List.all_eq_true];intro f hf
 obtain ⟨x,_,rfl⟩:=List.mem_map.1 hf
 exact a9w x
theorem aI9 (l:List (Int × Rat)) (z:List Rat) (hl:l.length<=1000000) (h1:∀t ∈ l,rl t.2<=200) (h2:∀v ∈ z,rl v<=40000) (hS:∀k,rl (k9 (l.take k) z)<=60000) (hz:z.length<=1000000) (hr:g9 (-1) z.length l=true):
 a9 Tryz.prog 158 [s6 l,n6 (z.map fz)] [] (.tup [frS (fz (k9 l z)),f9 true]) []:=by
 have m2:((z.map fz).map s7).length=z.length:=by simp
 have rt:=P3 l z.length hl h1
 rw [decide_eq_true (by omega),hr] at rt
 have pt:=au3 (z.map fz) (by simpa using hz) (fun f hf=>by
  obtain ⟨x,hx,rfl⟩:=List.mem_map.1 hf
  have:=h2 x hx
  have a:=G4 x
  have b:=H5 x
  exact ⟨by show bl x.num<=_;omega,by show bl x.den<=_;omega⟩)
 rw [a1e] at pt
 have va:=aC8 l z hl (fun t ht=>by have:=h1 t ht;omega) h2 hS hz hr
 have rt2:a9 Tryz.prog 161 [s6 l,a7 .i64 (((z.map fz).map s7).length:Nat)] [] (f9 (true && true)) []:=by rw [m2];exact rt
 (refine ac Tryz.func158 ?_;(conv=>whnf);repeat ((first|refine b0x ?_|refine zy ?_);conv=>whnf))
 repeat' (first|refine zz ?_|refine qp rt2 ?_|refine qp pt ?_|refine qp va ?_|refine zd ?_ ?_<;>intro h<;>try omega|refine zy ?_|fail)<;>conv=>whnf
 all_goals first
  |(exfalso;simp_all;done)
  |exact k8 ⟨⟨rfl,rfl,rfl,rfl,trivial⟩,rfl,trivial⟩
structure K3 (s:g8) (g:List (Int × Rat)) (n B:Nat):Prop where
 o:b7d s g n
 sb:ab1 s
 gb:∀t ∈ g,rl t.2<=200
 bd:∀D,W5 (g4 s).length n (i5 s g) D->BdD (g4 s).length n B D
 b1:1<=B
 bn:(n+3)*(B+2)<=50000
 r:s.rows.length<=1000
theorem K3.nn {s:g8} {g:List (Int × Rat)} {n B:Nat} (h:K3 s g n B):s.n.toNat=n:=by have:=h.o.en;omega
theorem K3.bb {s:g8} {g:List (Int × Rat)} {n B:Nat} (h:K3 s g n B):B<=17000:=by
 have h1:=h.bn
 have:(n+3)*(B+2)=n*(B+2)+3*(B+2):=by rw [Nat.add_mul]
 omega
theorem K3.m {s:g8} {g:List (Int × Rat)} {n B:Nat} (h:K3 s g n B):(g4 s).length<=2000:=by
 have:=a5b (s:=s) s.rows.length
 have:=h.r
 show (L7 s s.rows.length).length<=_
 omega
abbrev bO (cells:List C):Blk:={ mode:=.live,elem:=168,size:=8,rows:=[cells],box:=true }
abbrev z8:List C:=[.t (ti 0),.t (ti 0),.t (.sl 0 .nil []),.t (ti 0),.t (.sl 0 .nil []),.t (.sl 0 .nil []),.t (.sl 0 .nil []),.t (.sl 0 .nil [])]
theorem b1C:K2 (bO z8).rows:=d6 [[ti 0,ti 0,.sl 0 .nil [],ti 0,.sl 0 .nil [],.sl 0 .nil [],.sl 0 .nil [],.sl 0 .nil []]]
theorem a2X {s:g8} {g:List (Int × Rat)} {n B:Nat} (h:K3 s g n B):
 a9 Tryz.prog 200 [.c (.ptr 0 0 0)] (a09 (g4 s).length n (g4 s) (i5 s g)) (.tup [a7 .i64 (aR0 (a0W s g)).1,a7 .i64 (aR0 (a0W s g)).2]) (a09 (g4 s).length n (g4 s) (z9 s g)):=by
 have hn:=h.nn
 subst hn
 have hm:=h.m
 exact b5a _ _ (g4 s) (i5 s g) _ (by omega) h.o.n1 a2E (fun D hD=>by
  have hb:=h.bd D hD
  have hB:=h.bb
  exact ⟨fun i hi=>by have:=hb.v i hi;omega,fun i hi j hj=>by have:=hb.a i hi j hj;omega,fun j hj=>by have:=hb.g j hj;omega⟩)
theorem ac0 {s:g8} {g:List (Int × Rat)} {n B:Nat} (h:K3 s g n B):(B8 s g).length=n:=by unfold B8;rw [T3];exact h.nn
theorem a8z {s:g8} {g:List (Int × Rat)} {n B:Nat} (h:K3 s g n B):a9 Tryz.prog 201 [dT (g4 s).length n (g4 s) (z9 s g)] [] (n6 ((B8 s g).map fz)) []:=by
 have hn:=h.nn
 subst hn
 exact b4A _ _ _ _ S4.p (by have:=h.m;omega) h.o.n1
theorem ac6 {s:g8} {g:List (Int × Rat)} {n B:Nat} (h:K3 s g n B):BdD (g4 s).length n B (z9 s g):=by
 have hn:=h.nn
 subst hn
 exact h.bd _ (a4h a2E).1
theorem av2 {s:g8} {g:List (Int × Rat)} {n B:Nat} (h:K3 s g n B) (H:Hp):X7 Tryz.prog 204 [dT (g4 s).length n (g4 s) (z9 s g),a7 .i64 s.rows.length] H (.c (.own H.length 0 s.rows.length true)) [flB (rF s.rows.length (Q9 s (z9 s g)))]:=by
 have hb:=ac6 h
 have hp:a0a (g4 s).length n (z9 s g):=by have hn:=h.nn;subst hn;exact S4.p
 refine a56 (b3p s n h.o.en (z9 s g) hp B hb.g h.b1 ?_ (by have:=h.m;omega) h.r h.o.n1) rfl rfl (d6 _)
 have:=h.bn
 have:(n+3)*(B+2)=(n+2)*(B+2)+(B+2):=by rw [show n+3=(n+2)+1 by omega,Nat.succ_mul]
 omega
theorem a7E {i m:Nat} (h:i<m):G3 [some m] i=true:=by
 unfold G3
 have:Nat.beq m i=false:=by
  cases hb:Nat.beq m i with
  |false=>rfl
  |true=>have:=Nat.eq_of_beq_eq_true hb;omega
 rw [this];rfl
theorem aO7 {m n:Nat} {fr:List (Nat × Bool)} {D:Fd} {env env':Env} (b:Blk) (hb:K2 b.rows) (hE:a7l [some (m+6)] (L3 m n fr D.V D.G D.O D.F D.A [b]) env env'):b72 0 [some (m+6)] env (L3 m n fr D.V D.G D.O D.F D.A [b]) env' [b]:=by
 refine ⟨rfl,?_,a55 rfl fun i k' hk=>?_,hE⟩
 ·simp only [R7,a45];cases b.mode<;>rfl
 ·rcases i with _|i
  ·injection hk with hk;subst hk
   exact ⟨m+6,_,rfl,a1C (t:=0) (b8 _ _ _),d9 hb⟩
  ·simp at hk
set_option maxHeartbeats 4000000 in
theorem az4 (s:g8) (g:List (Int × Rat)) (n B:Nat) (h:K3 s g n B) (hout:a0W s g=.best) (hS:∀k,rl (k9 (g.take k) (B8 s g))<=60000) (hpt:∀v ∈ B8 s g,rl v<=40000):
 a9 Tryz.prog 130 [a0U s,s6 g] [] (.tup [.agg (C.t (ti 0)::frC (fz (k9 g (B8 s g)))++[.t (F2 ((B8 s g).map fz)),.own 0 0 s.rows.length true,.t (.sl 0 .nil [])]),a7 .i64 0]) [flB (rF s.rows.length (Q9 s (z9 s g)))]:=by
 have hn:=h.nn
 have hm:=h.m
 have hr1:=h.r
 have hgl:=E0 h.o.tg
 have hn1:=h.o.n1
 have lr:=a6B s h.sb
 rw [h.o.r] at lr
 have rt:=P3 g s.n (by have:=h.o.n1;omega) h.gb
 rw [h.o.en,decide_eq_true (by omega),h.o.tg,←h.o.en] at rt
 have op:=aw8 (bO z8) (aT4 s g n h.o)
 have se:=a2X h
 rw [hout] at se
 have m1:(s.rows.map z6).length=s.rows.length:=by simp
 have pt:=a8z h
 have va:=aI9 g (B8 s g) (by omega) h.gb hpt hS (by rw [ac0 h];omega) (by rw [ac0 h];exact h.o.tg)
 have pr:∀H:Hp,X7 Tryz.prog 204 [dT (g4 s).length n (g4 s) (z9 s g),a7 .i64 ((s.rows.map z6).length:Nat)] H (.c (.own H.length 0 s.rows.length true)) [flB (rF s.rows.length (Q9 s (z9 s g)))]:=by rw [m1];exact av2 h
 (refine a8d d7 Tryz.func130 rfl (by decide) ?_;refine J7 d7 ?_;(conv=>whnf);repeat ((first|refine b0x ?_|refine zy ?_);conv=>whnf))
 repeat' (first|refine zz ?_|refine b0x ?_|refine zd ?_ ?_<;>intro h<;>try omega|refine zy ?_|fail)<;>conv=>whnf
 (refine J7 d7 ?_;conv=>whnf)
 repeat' (first|refine zz ?_|refine qp lr ?_|refine qp rt ?_|refine zd ?_ ?_<;>intro h<;>try omega|refine zy ?_|fail)<;>conv=>whnf
 all_goals try (exfalso;simp_all;done)
 refine a0A d7 ([J,s6 g,S.c (C.t (T.ptr (a5O s))),J,S.c (C.ptr ((g4 s).length+6) 0 0),a7 .i64 0,S.c (C.ptr 0 0 0),J,J,J,J,J,J,J,J,J,J,J,J,J,J,J,J,J,J,J,J,J,J,J,J,J,J,J,J,J,J,J,J,J,J,J,J,J,J,J,J,J,J,J,J,J,J,J,J,J,J,J,J,J,J,J,J,J,J,J,J,J,J,J,J,J,J,J,J,J,J,J]) (L3 (g4 s).length n (g4 s) (i5 s g).V (i5 s g).G (i5 s g).O (i5 s g).F (i5 s g).A [bO z8]) ?_ ?_
 ·conv=>whnf
  repeat' (first|refine zz ?_|refine .inr ⟨_,_,op,?_⟩|refine H8 ?_|refine zd ?_ ?_<;>intro h<;>try omega|refine zy ?_|fail)<;>conv=>whnf
  exact ⟨_,a9Z b1C rfl ⟨rfl,i7 rfl,⟨by rw [B3 (by omega)];simp [fS],rfl,rfl⟩,rfl,⟨by rw [B3 (by omega)];simp [fS],rfl,rfl⟩,trivial⟩⟩
 refine aa5 d7 ([J,s6 g,S.c (C.t (T.ptr (a5O s))),J,S.c (C.ptr 0 0 0),a7 .i64 0,dT (g4 s).length n (g4 s) (z9 s g),a7 .i64 (-1),a7 .i64 (-1),J,J,J,J,J,J,J,J,J,J,J,J,J,J,J,J,J,J,J,J,J,J,J,J,J,J,J,J,J,J,J,J,J,J,J,J,J,J,J,J,J,J,J,J,J,J,J,J,J,J,J,J,J,J,J,J,J,J,J,J,J,J,J,J,J,J,J,J,J]) [bO z8] ?_ ?_
 ·have si:=a80 [bO z8] rfl rfl se
  conv=>whnf
  repeat' (first|refine zz ?_|refine qp 4 ?_|refine .inr ⟨_,_,si,?_⟩|refine k5 ?_|refine bl0 [4] ?_|refine zd ?_ ?_<;>intro h<;>try omega|refine zy ?_|fail)<;>conv=>whnf
  exact ⟨_,aO7 (bO z8) b1C ⟨.inl (i7 rfl),.inl (i7 rfl),.inl ⟨rfl,rfl,rfl⟩,.inl rfl,.inr (ay8 fun i hi=>a7E hi),.inl rfl,.inl rfl,trivial⟩⟩
 (refine J7 d7 ?_;conv=>whnf)
 repeat' (first|refine zz ?_|refine zd ?_ ?_<;>intro h<;>try omega|refine zy ?_|fail)<;>conv=>whnf
 all_goals try omega
 (refine J7 d7 ?_;conv=>whnf)
 repeat' (first|refine zz ?_|refine zd ?_ ?_<;>intro h<;>try omega|refine zy ?_|fail)<;>conv=>whnf
 all_goals try omega
 (refine J7 d7 ?_;conv=>whnf)
 repeat' (first|refine zz ?_|refine qp pt ?_|refine zd ?_ ?_<;>intro h<;>try omega|refine zy ?_|fail)<;>conv=>whnf
 (refine J7 d7 ?_;conv=>whnf)
 repeat' (first|refine zz ?_|refine qp va ?_|refine qp 4 ?_|refine qp 5 ?_|refine bl0 [4] ?_|refine bl0 [5] ?_|refine zd ?_ ?_<;>intro h<;>try omega|refine zy ?_|fail)<;>conv=>whnf
 (refine J7 d7 ?_;conv=>whnf)
 repeat' (first|refine zz ?_|refine .inl ⟨_,_,pr _,?_⟩|refine zd ?_ ?_<;>intro h<;>try omega|refine zy ?_|fail)<;>conv=>whnf
 refine z5 d7 _ ?_
 conv=>whnf
 repeat' (first|refine zz ?_|refine zd ?_ ?_<;>intro h<;>try omega|refine zy ?_|fail)<;>conv=>whnf
 exact ⟨[some 2],rfl,rfl,⟨d9 (d6 _),trivial⟩,⟨⟨rfl,rfl,rfl,rfl,rfl,rfl,⟨rfl,rfl,rfl,fun h=>h⟩,rfl,trivial⟩,rfl,trivial⟩⟩
theorem a9V {P:Program} {g:FuncId} {args args':List S} {H H':Hp} {r:S} (h:a9 P g args' H r H') (hl:args.length=args'.length)
 (hw:∀(w:World) (ι:Io) (M:Ms) (j:Nat) (s s':S) (v:Value),args[j]? =some s->args'[j]? =some s'->RS w ι M s v->RS w ι M s' v):a9 P g args H r H':=by
 refine ⟨h.1,fun w ι M vals hl2 hv hH hM hf=>h.2 w ι M vals (by omega) (fun j s' hj=>?_) hH hM hf⟩
 have hlt:=(lg1 hj).1
 exact hw w ι M j _ s' _ (lg0 (by omega)) hj (hv j _ (lg0 (by omega)))
theorem b2u {s:g8} {n:Nat} (b:Blk) (h:a9 Tryz.prog 199 [a0U s,s6 []] [] (.c (.ptr 0 0 0)) (a09 (g4 s).length n (g4 s) (i5 s []))):
 a9 Tryz.prog 199 [a0U s,.c (.t (.sl 0 .nil []))] [b] (.c (.ptr 1 0 0)) (b8s (g4 s).length n (g4 s) (i5 s []) b):=by
 refine a9V (aw8 b h) rfl fun w ι M j x y v hx hy hr=>?_
 rcases j with _|_|j
 ·injection hx with hx;injection hy with hy;subst hx hy;exact hr
 ·injection hx with hx;injection hy with hy;subst hx hy
  cases hr with
  |c hr=>cases hr with
   |t hr=>exact .c (.t (hr.weak rfl))
 ·simp at hx
theorem b1o {s:g8} {g:List (Int × Rat)} {n B c:Nat} (h:K3 s g n B) (hc:c<n):a9 Tryz.prog 202 [dT (g4 s).length n (g4 s) (z9 s g),a7 .i64 c] [] (n6 ((a5p s g c).map fz)) []:=by
 have hb:=ac6 h
 have hB:=h.bb
 have hn:=h.nn
 subst hn
 exact b7E _ _ _ _ c hc S4.p (by have:=h.m;omega) h.o.n1 (fun i hi=>by have:=hb.a i hi c hc;omega)
abbrev b92:List C:=frC U0
theorem b2q {P:Program} {n0:Nat} {c:Operand} {t e:Code} {env:Env} {H:Hp} {Q:AX->Env->Hp->Prop} (hb:G6 env c=f9 true) (h:Awp P n0 t env H Q):Awp P n0 (.cond c t e) env H Q:=b26 hb h
set_option maxHeartbeats 4000000 in
theorem at1 (s:g8) (g:List (Int × Rat)) (n B B0 c:Nat) (h:K3 s g n B) (h0:K3 s [] n B0) (hout:a0W s g=.col c) (hout0:a0W s []=.best):
 a9 Tryz.prog 130 [a0U s,s6 g] [] (.tup [.agg (C.t (ti 2)::b92++[.t (F2 ((B8 s []).map fz)),.t (.sl 0 .nil []),.t (F2 ((a5p s g c).map fz))]),a7 .i64 0]) []:=by
 have hn:=h.nn
 have hm:=h.m
 have hr1:=h.r
 have hgl:=E0 h.o.tg
 have hn1:=h.o.n1
 have hcn:c<n:=by have:=(a6Q hout).1;omega
 have lr:=a6B s h.sb
 rw [h.o.r] at lr
 have rt:=P3 g s.n (by have:=h.o.n1;omega) h.gb
 rw [h.o.en,decide_eq_true (by omega),h.o.tg,←h.o.en] at rt
 have op:=aw8 (bO z8) (aT4 s g n h.o)
 have se:=a2X h
 rw [hout] at se
 have op0:=b2u (bO z8) (aT4 s [] n h0.o)
 have se0:=a2X h0
 rw [hout0] at se0
 have m1:(s.rows.map z6).length=s.rows.length:=by simp
 have pt:=a8z h0
 have ra:=b1o h hcn
 (refine a8d d7 Tryz.func130 rfl (by decide) ?_;refine J7 d7 ?_;(conv=>whnf);repeat ((first|refine b0x ?_|refine zy ?_);conv=>whnf))
 repeat' (first|refine zz ?_|refine b0x ?_|refine zd ?_ ?_<;>intro h<;>try omega|refine zy ?_|fail)<;>conv=>whnf
 (refine J7 d7 ?_;conv=>whnf)
 repeat' (first|refine zz ?_|refine qp lr ?_|refine qp rt ?_|refine zd ?_ ?_<;>intro h<;>try omega|refine zy ?_|fail)<;>conv=>whnf
 all_goals try (exfalso;simp_all;done)
 refine a0A d7 ([J,s6 g,S.c (C.t (T.ptr (a5O s))),J,S.c (C.ptr ((g4 s).length+6) 0 0),a7 .i64 0,S.c (C.ptr 0 0 0),J,J,J,J,J,J,J,J,J,J,J,J,J,J,J,J,J,J,J,J,J,J,J,J,J,J,J,J,J,J,J,J,J,J,J,J,J,J,J,J,J,J,J,J,J,J,J,J,J,J,J,J,J,J,J,J,J,J,J,J,J,J,J,J,J,J,J,J,J,J,J]) (L3 (g4 s).length n (g4 s) (i5 s g).V (i5 s g).G (i5 s g).O (i5 s g).F (i5 s g).A [bO z8]) ?_ ?_
 ·conv=>whnf
  repeat' (first|refine zz ?_|refine .inr ⟨_,_,op,?_⟩|refine H8 ?_|refine zd ?_ ?_<;>intro h<;>try omega|refine zy ?_|fail)<;>conv=>whnf
  exact ⟨_,a9Z b1C rfl ⟨rfl,i7 rfl,⟨by rw [B3 (by omega)];simp [fS],rfl,rfl⟩,rfl,⟨by rw [B3 (by omega)];simp [fS],rfl,rfl⟩,trivial⟩⟩
 refine aa5 d7 ([J,s6 g,S.c (C.t (T.ptr (a5O s))),J,S.c (C.ptr 0 0 0),a7 .i64 0,dT (g4 s).length n (g4 s) (z9 s g),a7 .i64 (-1),a7 .i64 c,J,J,J,J,J,J,J,J,J,J,J,J,J,J,J,J,J,J,J,J,J,J,J,J,J,J,J,J,J,J,J,J,J,J,J,J,J,J,J,J,J,J,J,J,J,J,J,J,J,J,J,J,J,J,J,J,J,J,J,J,J,J,J,J,J,J,J,J,J]) [bO z8] ?_ ?_
 ·have si:=a80 [bO z8] rfl rfl se
  conv=>whnf
  repeat' (first|refine zz ?_|refine qp 4 ?_|refine .inr ⟨_,_,si,?_⟩|refine k5 ?_|refine bl0 [4] ?_|refine zd ?_ ?_<;>intro h<;>try omega|refine zy ?_|fail)<;>conv=>whnf
  exact ⟨_,aO7 (bO z8) b1C ⟨.inl (i7 rfl),.inl (i7 rfl),.inl ⟨rfl,rfl,rfl⟩,.inl rfl,.inr (ay8 fun i hi=>a7E hi),.inl rfl,.inl rfl,trivial⟩⟩
 refine a9y ?_
 refine J7 d7 ?_
 conv=>whnf
 repeat' (first|refine zz ?_|refine zd ?_ ?_<;>intro h<;>try omega|refine zy ?_|fail)<;>conv=>whnf
 all_goals try omega
 refine b2q rfl ?_
 refine a0A d7 ([J,s6 g,S.c (C.t (T.ptr (a5O s))),J,S.c (C.ptr ((g4 s).length+6) 0 0),a7 .i64 0,dT (g4 s).length n (g4 s) (z9 s g),a7 .i64 (-1),a7 .i64 c,S.c (C.ptr 0 0 0),J,J,J,J,J,J,J,J,J,J,J,J,J,J,J,J,J,J,J,J,J,J,J,J,J,J,J,J,J,J,J,J,J,J,J,J,J,J,J,J,J,J,J,J,J,J,J,J,J,J,J,J,J,J,J,J,J,J,J,J,J,J,J,J,J,J,J,J]) (L3 (g4 s).length n (g4 s) (i5 s []).V (i5 s []).G (i5 s []).O (i5 s []).F (i5 s []).A [bO z8]) ?_ ?_
 ·conv=>whnf
  repeat' (first|refine zz ?_|refine .inr ⟨_,_,op0,?_⟩|refine H8 ?_|refine zd ?_ ?_<;>intro h<;>try omega|refine zy ?_|fail)<;>conv=>whnf
  exact ⟨_,a9Z b1C rfl ⟨rfl,i7 rfl,⟨by rw [B3 (by omega)];simp [fS],rfl,rfl⟩,rfl,i7 rfl,rfl,rfl,⟨by rw [B3 (by omega)];simp [fS],rfl,rfl⟩,trivial⟩⟩
 refine aa5 d7 ([J,s6 g,S.c (C.t (T.ptr (a5O s))),J,S.c (C.ptr 0 0 0),a7 .i64 0,dT (g4 s).length n (g4 s) (z9 s g),a7 .i64 (-1),a7 .i64 c,dT (g4 s).length n (g4 s) (z9 s []),a7 .i64 (-1),a7 .i64 (-1),J,J,J,J,J,J,J,J,J,J,J,J,J,J,J,J,J,J,J,J,J,J,J,J,J,J,J,J,J,J,J,J,J,J,J,J,J,J,J,J,J,J,J,J,J,J,J,J,J,J,J,J,J,J,J,J,J,J,J,J,J,J,J,J,J,J]) [bO z8] ?_ ?_
 ·have si:=a80 [bO z8] rfl rfl se0
  conv=>whnf
  repeat' (first|refine zz ?_|refine qp 4 ?_|refine .inr ⟨_,_,si,?_⟩|refine k5 ?_|refine bl0 [4] ?_|refine zd ?_ ?_<;>intro h<;>try omega|refine zy ?_|fail)<;>conv=>whnf
  exact ⟨_,aO7 (bO z8) b1C ⟨.inl (i7 rfl),.inl (i7 rfl),.inl ⟨rfl,rfl,rfl⟩,.inl rfl,.inl (i7 rfl),.inl rfl,.inl rfl,.inr (ay8 fun i hi=>a7E hi),.inl rfl,.inl rfl,trivial⟩⟩
 refine z5 d7 _ ?_
 conv=>whnf
 repeat' (first|refine zz ?_|refine qp pt ?_|refine qp ra ?_|refine zd ?_ ?_<;>intro h<;>try omega|refine zy ?_|fail)<;>conv=>whnf
 all_goals first
  |omega
  |exact ⟨[],rfl,rfl,trivial,⟨⟨rfl,rfl,rfl,rfl,rfl,rfl,rfl,rfl,trivial⟩,rfl,trivial⟩⟩
def aL2 (A:Nat->List T) (g:Nat->List Int) (B:Nat->List T) (id:Nat) (i:Nat):List C:=(A i).map .t++.own id 0 (g i).length true::(B i).map .t
def a2Q (n:Nat) (A:Nat->List T) (g:Nat->List Int) (B:Nat->List T):List (List C):=(List.range n).map fun i=>aL2 A g B (i+1) i
def b7o (el:TypeId) (size n:Nat) (A:Nat->List T) (g:Nat->List Int) (B:Nat->List T):Blk:={ mode:=.live,elem:=el,size:=size,rows:=a2Q n A g B,box:=false }
def Z5 (el:TypeId) (size n:Nat) (A:Nat->List T) (g:Nat->List Int) (B:Nat->List T):Hp:=b7o el size n A g B::(List.range n).map fun i=>s8 (g i)
theorem a0u {n:Nat} {A:Nat->List T} {g:Nat->List Int} {B:Nat->List T}:(a2Q n A g B).length=n:=by simp [a2Q]
theorem a2D {n i:Nat} {A:Nat->List T} {g:Nat->List Int} {B:Nat->List T} (h:i<n):(a2Q n A g B)[i]? =some (aL2 A g B (i+1) i):=by simp [a2Q,h]
theorem a7I {el:TypeId} {size n:Nat} {A:Nat->List T} {g:Nat->List Int} {B:Nat->List T}:(Z5 el size n A g B).length=n+1:=by simp [Z5]
def a8q (n j N:Nat):List (Option Nat):=(List.range (n+1)).map fun i=>some (if i=j+1 then N else i)
theorem Y5 {n j N i:Nat} (h:i<n+1):(a8q n j N)[i]? =some (some (if i=j+1 then N else i)):=by simp [a8q,h]
theorem ao0 {n j N:Nat}:(a8q n j N).length=n+1:=by simp [a8q]
theorem O1 {ρ:List (Option Nat)} {H:Hp}:∀l:List T,a2U ρ H (l.map C.t) (l.map C.t)
 |[]=>trivial
 |x::r=>⟨a0j x,O1 r⟩
theorem a4j {ρ:List (Option Nat)} {H:Hp}:∀{a b c d:List C},a2U ρ H a b->a2U ρ H c d->a2U ρ H (a++c) (b++d)
 |[],[],_,_,_,h=>h
 |x::a,y::b,_,_,h1,h2=>⟨h1.1,a4j h1.2 h2⟩
 |[],_::_,_,_,h,_=>h.elim
 |_::_,[],_,_,h,_=>h.elim
theorem a6Y {ρ:List (Option Nat)} {H:Hp}:∀{xs ys:List (List C)},xs.length=ys.length->(∀ (i:Nat) (x y:List C),xs[i]? =some x->ys[i]? =some y->a2U ρ H x y)->a4M ρ H xs ys
 |[],[],_,_=>trivial
 |[],_::_,h,_=>by simp at h
 |_::_,[],h,_=>by simp at h
 |x::xs,y::ys,h,hh=>⟨hh 0 x y rfl rfl,a6Y (by simpa using h) fun i a b ha hb=>hh (i+1) a b (by simpa using ha) (by simpa using hb)⟩
def a4p (g:Nat->List Int) (j:Nat) (l:List Int):Nat->List Int:=fun i=>if i=j then l else g i
theorem b36 {el:TypeId} {size n j N:Nat} {A:Nat->List T} {g:Nat->List Int} {B:Nat->List T} {l:List Int} {env env':Env} {H:Hp} {k0:Blk} (hj:j<n) (hnN:n<N)
 (h0:H[0]? =some k0) (hk0:k0.mode=.live∧k0.app=false∧k0.elem=el∧k0.size=size) (hr:k0.rows=(a2Q n A g B).set j ((A j).map .t++.own N 0 l.length true::(B j).map .t))
 (hm:∀m,m<n->m≠j->H[m+1]? =some (s8 (g m))) (hN:H[N]? =some (s8 l)) (hE:a0H (a8q n j N) H env env'):Ent 0 (a8q n j N) env H env' (Z5 el size n A (a4p g j l) B):=by
 refine ⟨rfl,a0w fun a b m h1 h2=>?_,a55 (by rw [ao0,a7I]) fun i k' hk=>?_,hE⟩
 ·have ha:=(lg1 h1).1
  have hb:=(lg1 h2).1
  rw [ao0] at ha hb
  rw [Y5 ha] at h1
  rw [Y5 hb] at h2
  simp only [Option.some.injEq] at h1 h2
  split at h1<;>split at h2<;>omega
 ·have hi:=(lg1 hk).1
  rw [a7I] at hi
  refine ⟨if i=j+1 then N else i,?_⟩
  cases i with
  |zero=>
   refine ⟨k0,Y5 hi,by simpa using h0,?_⟩
   simp [Z5] at hk
   subst hk
   obtain ⟨q1,q2,q3,q4⟩:=hk0
   refine ⟨by unfold a2e;rw [q1,q2];rfl,q3,q4,.inr ?_⟩
   rw [hr]
   refine a6Y (by rw [List.length_set,a0u];exact a0u.symm) fun a x y hx hy=>?_
   have han:a<n:=by have:=(lg1 hy).1;rw [show (b7o el size n A (a4p g j l) B).rows=a2Q n A (a4p g j l) B from rfl,a0u] at this;exact this
   have hy:(a2Q n A (a4p g j l) B)[a]? =some y:=hy
   rw [a2D han] at hy
   injection hy with hy
   subst hy
   rw [List.getElem?_set,a0u] at hx
   by_cases haj:j=a
   ·subst haj
    rw [if_pos rfl,if_pos hj] at hx
    injection hx with hx
    subst hx
    unfold aL2
    have e1:a4p g j l j=l:=by simp [a4p]
    rw [e1]
    refine a4j (O1 _) ⟨⟨?_,rfl,rfl,fun h=>h⟩,O1 _⟩
    rw [Y5 (by omega),if_pos rfl]
   ·rw [if_neg haj,a2D han] at hx
    injection hx with hx
    subst hx
    unfold aL2
    have e1:a4p g j l a=g a:=by unfold a4p;rw [if_neg (fun h=>haj h.symm)]
    rw [e1]
    refine a4j (O1 _) ⟨⟨?_,rfl,rfl,fun h=>h⟩,O1 _⟩
    rw [Y5 (by omega),if_neg (by omega)]
  |succ i=>
   have hin:i<n:=by omega
   have hk:((List.range n).map fun i=>s8 (a4p g j l i))[i]? =some k':=hk
   rw [List.getElem?_map,List.getElem?_range hin] at hk
   injection hk with hk
   subst hk
   by_cases hij:i=j
   ·subst hij
    refine ⟨s8 l,Y5 hi,by rw [if_pos rfl];exact hN,?_⟩
    have e1:a4p g i l i=l:=by simp [a4p]
    show a4c _ _ _ (s8 (a4p g i l i))
    rw [e1]
    exact ⟨rfl,rfl,rfl,.inl ⟨rfl,d6 _⟩⟩
   ·refine ⟨s8 (g i),Y5 hi,by rw [if_neg (by omega)];exact hm i hin hij,?_⟩
    have e1:a4p g j l i=g i:=by unfold a4p;rw [if_neg hij]
    show a4c _ _ _ (s8 (a4p g j l i))
    rw [e1]
    exact ⟨rfl,rfl,rfl,.inl ⟨rfl,d6 _⟩⟩
def aY7 (id n:Nat):List (Option Nat):=some id::List.replicate n none
theorem aL1 {ρ:List (Option Nat)} {H:Hp}:∀{n:Nat} {R:List Blk},R.length=n->(∀ k ∈ R,k.rows=[]∧k.mode=.live)->a3o ρ H (List.replicate n none) R
 |0,[],_,_=>trivial
 |n+1,k::R,h,hh=>⟨hh k (by simp),aL1 (by simpa using h) fun k hk=>hh k (by simp [hk])⟩
 |0,_::_,h,_=>by simp at h
 |n+1,[],h,_=>by simp at h
theorem ae4 {H:Hp}:∀{n:Nat},R7 (List.replicate n none) H=true
 |0=>by cases H<;>rfl
 |n+1=>by
  rw [List.replicate_succ]
  cases H with
  |nil=>rfl
  |cons k H=>exact ae4 (H:=H)
theorem an3 {m:Nat}:∀{n:Nat} {H:Hp},a45 m (List.replicate n none) H=false
 |0,H=>by cases H<;>rfl
 |n+1,[]=>rfl
 |n+1,k::H=>by
  rw [List.replicate_succ]
  unfold a45
  rw [an3]
  cases k.mode<;>rfl
theorem b5b {el:TypeId} {size n id:Nat} {A B:Nat->List T} {env env':Env} {H:Hp} {k0:Blk} {s:Nat}
 (h0:H[id]? =some k0) (hk0:k0.mode=.live∧k0.app=false∧k0.elem=el∧k0.size=size) (hr:k0.rows=(List.range n).map fun i=>(A i).map .t++.t (.sl s .nil [])::(B i).map .t)
 (hE:a0H (aY7 id n) H env env'):Ent 0 (aY7 id n) env H env' (Z5 el size n A (fun _=>[]) B):=by
 obtain ⟨q1,q2,q3,q4⟩:=hk0
 refine ⟨rfl,?_,⟨?_,?_⟩,hE⟩
 ·unfold aY7 Z5 R7
  rw [an3,ae4]
  rfl
 ·simp only [h0]
  refine ⟨by unfold a2e;rw [q1,q2];rfl,q3,q4,.inr ?_⟩
  rw [hr]
  refine a6Y (by rw [show (b7o el size n A (fun _=>[]) B).rows=a2Q n A (fun _=>[]) B from rfl,a0u];simp) fun a x y hx hy=>?_
  have han:a<n:=by have:=(lg1 hx).1;simpa using this
  have hy:(a2Q n A (fun _=>[]) B)[a]? =some y:=hy
  rw [a2D han] at hy
  injection hy with hy
  subst hy
  rw [List.getElem?_map,List.getElem?_range han] at hx
  injection hx with hx
  subst hx
  unfold aL2
  refine a4j (O1 _) ⟨⟨?_,rfl,rfl⟩,O1 _⟩
  show (aY7 id n)[a+1]? =some none
  unfold aY7
  rw [List.getElem?_cons_succ,List.getElem?_replicate,if_pos han]
 ·refine aL1 (by simp) fun k hk=>?_
  obtain ⟨i,_,rfl⟩:=List.mem_map.1 hk
  exact ⟨rfl,rfl⟩
theorem b3D {el:TypeId} {size n:Nat} {A:Nat->List T} {g:Nat->List Int} {B:Nat->List T} {env env':Env}
 (hE:a0H [some 0] (Z5 el size n A g B) env env'):Ent 0 [some 0] env (Z5 el size n A g B) env' [{ mode:=.live,elem:=el,size:=size,rows:=toC ((List.range n).map fun i=>A i++L5 (g i)::B i),box:=false }]:=by
 refine ⟨rfl,rfl,⟨⟨rfl,rfl,rfl,.inr ?_⟩,trivial⟩,hE⟩
 show a4M _ _ (a2Q n A g B) (toC _)
 refine a6Y (by rw [a0u];simp [toC]) fun a x y hx hy=>?_
 have han:a<n:=by have:=(lg1 hx).1;rw [a0u] at this;exact this
 rw [a2D han] at hx
 injection hx with hx
 subst hx
 have hy:(((List.range n).map fun i=>A i++L5 (g i)::B i).map (·.map C.t))[a]? =some y:=hy
 rw [List.getElem?_map,List.getElem?_map,List.getElem?_range han] at hy
 injection hy with hy
 subst hy
 show a2U _ _ _ ((A a++L5 (g a)::B a).map C.t)
 rw [List.map_append,List.map_cons]
 unfold aL2
 refine a4j (O1 _) ⟨?_,O1 _⟩
 have hk:(Z5 el size n A g B)[a+1]? =some (s8 (g a)):=by simp [Z5,han]
 exact show VC _ _ _ _ from v4 (by simp [G3];rfl) hk (by intro h;cases h) rfl rfl (by simp)
theorem b4y {el:TypeId} {size n:Nat} {A:Nat->List T} {g:Nat->List Int} {B:Nat->List T}:∀k ∈ Z5 el size n A g B,okB (n+1) k:=by
 intro k hk
 rcases List.mem_cons.1 hk with rfl|hk
 ·intro r hr c hc
  obtain ⟨i,hi,rfl⟩:=List.mem_map.1 hr
  have hi:=List.mem_range.1 hi
  unfold aL2 at hc
  rcases List.mem_append.1 hc with hc|hc
  ·obtain ⟨x,_,rfl⟩:=List.mem_map.1 hc;trivial
  ·rcases List.mem_cons.1 hc with rfl|hc
   ·show i+1<n+1;omega
   ·obtain ⟨x,_,rfl⟩:=List.mem_map.1 hc;trivial
 ·obtain ⟨i,_,rfl⟩:=List.mem_map.1 hk
  exact G9 rfl
theorem b1O {el:TypeId} {size n:Nat} {A:Nat->List T} {g:Nat->List Int} {B:Nat->List T} {env env':Env} {R:Hp} (hE:a0H (idR (n+1)) (Z5 el size n A g B++R) env env'):Ent 0 (idR (n+1)) env (Z5 el size n A g B++R) env' (Z5 el size n A g B):=
 aU3 a7I (Nat.zero_le _) b4y hE
def b7v (h:Fr) (b:Bool) (gs:List Int) (n:Int):List T:=[ti h.p.sg,L5 h.p.dl,ti h.q.sg,L5 h.q.dl,tb b,L5 gs,ti n]
def hiF (o:Option (Rat × Rat)):Fr:=match o with
 |some (_,hi)=>fz hi
 |none=>U0
def a1o (e:Ev) (i:Nat):Option (Rat × Rat):=match e.moves[i]? with
 |some x=>G0 e x
 |none=>none
theorem aw7 {e:Ev} {i:Nat} {x:x4} (h:e.moves[i]? =some x):a1o e i=G0 e x:=by unfold a1o;rw [h]
def V8 (t:e8) (kind:Int) (i:Nat):List T:=b7v (hiF (a1o t.ev i)) (a1o t.ev i).isSome (j5 t.finds kind i) (n9 t.cleans kind i)
abbrev a2m (t:e8) (kind:Int):T:=.sl 7 .any ((List.range t.ev.moves.length).map (V8 t kind))
def kn1 (e:Ev) (k i:Nat):List T:=
 let h:=if i<k then hiF (a1o e i) else U0
 [ti h.p.sg,L5 h.p.dl,ti h.q.sg,L5 h.q.dl,tb (decide (i<k) && (a1o e i).isSome),.sl 0 .nil [],ti 0]
abbrev knB (rows:List (List T)):Blk:={ mode:=.live,elem:=119,size:=7,rows:=toC rows,box:=false }
theorem aJ9 {e:Ev} {k i:Nat} (h:i≠k):kn1 e (k+1) i=kn1 e k i:=by
 unfold kn1
 by_cases h1:i<k
 ·simp only [if_pos h1,if_pos (show i<k+1 by omega),h1,show i<k+1 by omega]
 ·simp only [if_neg h1,if_neg (show ¬i<k+1 by omega),h1,show ¬i<k+1 by omega]
theorem b0r {e:Ev} {k n:Nat} (h:k<n):(toC ((List.range n).map (kn1 e k))).set k ((kn1 e (k+1) k).map C.t)=toC ((List.range n).map (kn1 e (k+1))):=by
 apply List.ext_getElem?
 intro i
 unfold toC
 rw [List.getElem?_set,List.getElem?_map,List.getElem?_map,List.getElem?_map]
 by_cases hi:k=i
 ·subst hi
  rw [if_pos rfl]
  simp [h]
 ·rw [if_neg hi,List.getElem?_map]
  cases hr:(List.range n)[i]? with
  |none=>rfl
  |some j=>
   have:j=i:=by
    obtain ⟨h1,h2⟩:=lg1 hr
    simp at h2;omega
   subst this
   show some ((kn1 e k j).map C.t)=some ((kn1 e (k+1) j).map C.t)
   rw [aJ9 (fun h=>hi h.symm)]
theorem aD6 {e:Ev} {k:Nat} (h:a1o e k=none):kn1 e (k+1) k=kn1 e k k:=by
 unfold kn1
 simp only [if_pos (show k<k+1 by omega),if_neg (show ¬k<k by omega),h]
 simp [hiF]
theorem aA7 {e:Ev} {k n:Nat} (h:a1o e k=none):(List.range n).map (kn1 e (k+1))=(List.range n).map (kn1 e k):=List.map_congr_left fun i _=>by
 by_cases hi:i=k
 ·subst hi;exact aD6 h
 ·exact aJ9 hi
theorem b3t {e:Ev} {n:Nat} {ρ:List (Option Nat)} {H:Hp}:a4M ρ H (List.replicate n [C.t (ti 0),C.t (.sl 0 .nil []),C.t (ti 0),C.t (.sl 0 .nil []),C.t (tb false),C.t (.sl 0 .nil []),C.t (ti 0)]) (toC ((List.range n).map (kn1 e 0))):=by
 refine a6Y (by simp [toC]) fun i x y hx hy=>?_
 have hi:i<n:=by have:=(lg1 hx).1;simpa using this
 rw [List.getElem?_replicate,if_pos hi] at hx
 injection hx with hx
 subst hx
 unfold toC at hy
 rw [List.getElem?_map,List.getElem?_map,List.getElem?_range hi] at hy
 injection hy with hy
 subst hy
 show a2U _ _ _ ((kn1 e 0 i).map C.t)
 unfold kn1
 simp only [if_neg (show ¬i<0 by omega)]
 exact ⟨rfl,rfl,rfl,rfl,rfl,rfl,rfl,trivial⟩
def knA (e:Ev) (i:Nat):List T:=[ti (hiF (a1o e i)).p.sg,L5 (hiF (a1o e i)).p.dl,ti (hiF (a1o e i)).q.sg,L5 (hiF (a1o e i)).q.dl,tb (a1o e i).isSome]
def F9 (t:e8) (kind:Int) (k i:Nat):List Int:=j5 (t.finds.take k) kind i
theorem a6q (l:List J9) (f:J9) (kind:Int) (i:Nat):j5 (l++[f]) kind i=if f.kind=kind∧f.mv=(i:Int) then j5 l kind i++[f.grams] else j5 l kind i:=by
 rw [a6h];split<;>simp
theorem U9 {α:Type} {l:List α} {k:Nat} {x:α} (h:l[k]? =some x):l.take (k+1)=l.take k++[x]:=by rw [List.take_add_one,h];rfl
def kn3 (t:e8) (kind:Int) (k i:Nat):List T:=knA t.ev i++L5 (j5 t.finds kind i)::[ti (n9 (t.cleans.take k) kind i)]
theorem b8z (t:e8) (kind:Int) (k i:Nat):n9 (t.cleans.take k) kind i<=t.cleans.length:=Nat.le_trans (List.length_filter_le _ _) (by simp;omega)
theorem b5D {t:e8} {kind:Int} {n:Nat}:(List.range n).map (kn3 t kind t.cleans.length)=(List.range n).map (V8 t kind):=List.map_congr_left fun i _=>by
 unfold kn3;rw [lg4 (Nat.le_refl _)];rfl
theorem b2G {t:e8} {kind:Int} {n k:Nat} {c:J3} (h:t.cleans[k]? =some c) (hk:c.kind≠kind):(List.range n).map (kn3 t kind (k+1))=(List.range n).map (kn3 t kind k):=List.map_congr_left fun i _=>by
 unfold kn3
 rw [U9 h,V3,if_neg (fun h=>hk h.1)];rfl
theorem b65 {t:e8} {kind:Int} {n k m:Nat} {c:J3} (hm:m<n) (h:t.cleans[k]? =some c) (hk:c.kind=kind) (hmv:c.mv=m):
 (toC ((List.range n).map (kn3 t kind k))).set m ((knA t.ev m++L5 (j5 t.finds kind m)::[ti ((n9 (t.cleans.take k) kind m:Int)+1)]).map C.t)=toC ((List.range n).map (kn3 t kind (k+1))):=by
 have key:∀i,i<n->i≠m->kn3 t kind (k+1) i=kn3 t kind k i:=fun i _ hi=>by
  unfold kn3
  rw [U9 h,V3,if_neg (fun h=>hi (by omega))];rfl
 have own:kn3 t kind (k+1) m=knA t.ev m++L5 (j5 t.finds kind m)::[ti ((n9 (t.cleans.take k) kind m:Int)+1)]:=by
  unfold kn3
  rw [U9 h,V3,if_pos ⟨hk,hmv⟩];rfl
 rw [← own]
 unfold toC
 rw [← List.map_set]
 congr 1
 apply List.ext_getElem?
 intro i
 simp only [List.getElem?_set,List.getElem?_map,List.length_map,List.length_range]
 by_cases hi:m=i
 ·subst hi;simp [hm]
 ·rw [if_neg hi]
  by_cases hin:i<n
  ·rw [List.getElem?_range hin]
   show some _=some _
   rw [key i hin (fun h=>hi h.symm)]
  ·rw [List.getElem?_eq_none (by simp;omega)];rfl
theorem b2w {l:List Int} {x:Int}:List.take l.length (toC (l.map f8))++toC [[ti x]]=toC ((l++[x]).map f8):=by
 rw [lg4 (by simp [toC])]
 simp [toC,f8]
set_option maxHeartbeats 4000000 in
theorem b5z (t:e8) (kind:Int) (hs:t.Sized) (h0:C6 t.ev=0) (hf:∀f ∈ t.finds,0<=f.mv∧f.mv<t.ev.moves.length) (hc:∀c ∈ t.cleans,0<=c.mv∧c.mv<t.ev.moves.length):
 a9 Tryz.prog 67 [trS t,a7 .i64 kind] [] (.c (.t (a2m t kind))) []:=by
 obtain ⟨b1,b2,b3,b4⟩:=Z7 h0
 have l1:=hs.f
 have l2:=hs.c
 have m0:(t.ev.moves.map x4.row).length=t.ev.moves.length:=by simp
 have m1:(t.finds.map J9.row).length=t.finds.length:=by simp
 have m2:(t.cleans.map J3.row).length=t.cleans.length:=by simp
 have s3:=hs.ev.s3
 have s4:=hs.ev.s4
 (refine ac Tryz.func67 ?_;(conv=>whnf);repeat ((first|refine b0x ?_|refine zy ?_);conv=>whnf))
 repeat' (first|refine zz ?_|refine a3K (by omega) (by omega) (by omega) (by decide) ?_|refine zd ?_ ?_<;>intro h<;>try omega|refine zy ?_|fail)<;>conv=>whnf
 refine f5 d7 (fun k=>([J,a7 .i64 kind,S.c (C.t (T.ptr (trT t))),J,J,S.c (C.ptr 0 0 0),S.c (C.own 1 0 t.ev.moves.length true),J,J,J,J,J,J,J,J,J,J,J,J,J,S.c (C.t (a1L t.ev.moves)),a7 .i64 t.ev.moves.length,a7 .i64 k,J,J,J,J,J,J,J,J,J,J,J,J,J,J,J,J,J,J,J,J,J,J,J,J,J,J,J,J,J,J,J,J,J,J,J,J,J,J,J,J,J,J,J,J,J,J,J,J,J,J,J,J,J,J,J,J,J,J,J,J,J,J,J,J,J,J,J,J,J,J,J,J,J,J,J,J,J,J,J,J],[evB t.ev,knB ((List.range t.ev.moves.length).map (kn1 t.ev k))])) t.ev.moves.length (fun _=>True) [some 0,some 1] trivial ?_ ?_
 ·refine ⟨rfl,rfl,⟨⟨rfl,rfl,rfl,.inl ⟨rfl,p5 _⟩⟩,⟨rfl,rfl,rfl,.inr ?_⟩,trivial⟩,⟨rfl,rfl,⟨rfl,rfl,rfl⟩,⟨rfl,rfl,?_,fun h=>h⟩,rfl,b9 (by simp),rfl,trivial⟩⟩
  ·have e9:((((t.ev.moves.map x4.row).length:Nat):Int)).toNat=t.ev.moves.length:=by omega
   rw [← e9]
   exact b3t
  ·omega
 intro k hk _
 by_cases hlt:k<t.ev.moves.length
 ·obtain ⟨x,hx⟩:∃x,t.ev.moves[k]? =some x:=⟨_,lg0 hlt⟩
  have iv:=aQ5 t.ev.certs t.ev.recalls (by omega) (by omega) x.scale x.reading x.day
  have eK:0+(k:Int).toNat=k:=by omega
  have hk0:(List.range t.ev.moves.length)[0+(k:Int).toNat]? =some k:=by rw [eK,List.getElem?_range hlt]
  have gs:∀c,((knB ((List.range t.ev.moves.length).map (kn1 t.ev k))).rows.set (0+(k:Int).toNat) c)[0+(k:Int).toNat]? =some c:=fun c=>by
   rw [List.getElem?_set_self]
   show _<(toC _).length
   simp [toC];omega
  by_cases hsc:x.scale=-1
  ·have hn:a1o t.ev k=none:=by rw [aw7 hx];unfold G0;rw [if_pos hsc]
   have e1:=aA7 (n:=t.ev.moves.length) hn
   conv=>whnf
   repeat' (first|refine zz ?_|refine d8 hx ?_|refine zd ?_ ?_<;>intro h<;>try omega|refine zy ?_|fail)<;>conv=>whnf
   all_goals try omega
   refine ⟨hlt,trivial,[some 0,some 1],rfl,rfl,⟨⟨rfl,rfl,rfl,.inl ⟨rfl,p5 _⟩⟩,a8 rfl rfl rfl ?_ rfl,trivial⟩,⟨rfl,rfl,⟨rfl,rfl,rfl⟩,⟨rfl,rfl,rfl,fun h=>h⟩,rfl,rfl,rfl,trivial⟩⟩
   rw [e1]
  ·have hiv:a1o t.ev k=C3 t.ev.certs t.ev.recalls x.scale x.reading x.day:=by rw [aw7 hx];unfold G0;rw [if_neg hsc]
   rw [← hiv] at iv
   cases hi:a1o t.ev k with
   |none=>
    rw [hi] at iv
    have er:(kn1 t.ev (k+1) k).map C.t=frC U0++[C.t (tb false),C.t (.sl 0 .nil []),C.t (ti 0)]:=by rw [aD6 hi];simp [kn1]
    conv=>whnf
    repeat' (first|refine zz ?_|refine qp iv ?_|refine qp (2,3,18) ?_|refine d8 hx ?_|refine s9 hk0 ?_|refine ⟨_,gs _,?_⟩|refine bl0 [2,3,18] ?_|refine zd ?_ ?_<;>intro h<;>try omega|refine zy ?_|fail)<;>conv=>whnf
    all_goals try omega
    refine ⟨hlt,trivial,[some 0,some 1],rfl,rfl,⟨⟨rfl,rfl,rfl,.inl ⟨rfl,p5 _⟩⟩,a8 rfl rfl rfl ?_ rfl,trivial⟩,⟨rfl,rfl,⟨rfl,rfl,rfl⟩,⟨rfl,rfl,rfl,fun h=>h⟩,rfl,rfl,rfl,trivial⟩⟩
    have e2:=b0r (e:=t.ev) hlt
    rw [er] at e2
    rw [← e2]
    show ((toC _).set (0+(k:Int).toNat) _).set (0+(k:Int).toNat) _=_
    rw [List.set_set,eK]
    rfl
   |some p=>
    obtain ⟨lo,hi'⟩:=p
    rw [hi] at iv
    have er:(kn1 t.ev (k+1) k).map C.t=frC (fz hi')++[C.t (tb true),C.t (.sl 0 .nil []),C.t (ti 0)]:=by simp [kn1,hi,hiF]
    conv=>whnf
    repeat' (first|refine zz ?_|refine qp iv ?_|refine qp (2,3,18) ?_|refine d8 hx ?_|refine s9 hk0 ?_|refine ⟨_,gs _,?_⟩|refine bl0 [2,3,18] ?_|refine zd ?_ ?_<;>intro h<;>try omega|refine zy ?_|fail)<;>conv=>whnf
    all_goals try omega
    refine ⟨hlt,trivial,[some 0,some 1],rfl,rfl,⟨⟨rfl,rfl,rfl,.inl ⟨rfl,p5 _⟩⟩,a8 rfl rfl rfl ?_ rfl,trivial⟩,⟨rfl,rfl,⟨rfl,rfl,rfl⟩,⟨rfl,rfl,rfl,fun h=>h⟩,rfl,rfl,rfl,trivial⟩⟩
    have e2:=b0r (e:=t.ev) hlt
    rw [er] at e2
    rw [← e2]
    show ((toC _).set (0+(k:Int).toNat) _).set (0+(k:Int).toNat) _=_
    rw [List.set_set,eK]
    rfl
 ·conv=>whnf
  repeat' (first|refine zz ?_|refine zd ?_ ?_<;>intro h<;>try omega|refine zy ?_|fail)<;>conv=>whnf
  all_goals try omega
  have e0:F9 t kind 0=fun _=>[]:=by funext i;simp [F9,j5]
  refine f5 d7 (fun k=>([J,a7 .i64 kind,S.c (C.t (T.ptr (trT t))),J,J,J,S.c (C.own 0 0 t.ev.moves.length true),J,J,J,J,J,J,J,J,J,J,J,J,J,J,J,J,J,J,J,J,J,J,J,J,J,J,J,J,J,J,J,J,J,J,J,J,J,J,J,J,J,J,J,J,J,J,J,J,S.c (C.t (a9k t.finds)),a7 .i64 t.finds.length,a7 .i64 k,J,J,J,J,J,J,J,J,J,J,J,J,J,J,J,J,J,J,J,J,J,J,J,J,J,J,J,J,J,J,J,J,J,J,J,J,J,J,J,J,J,J,J,J,J],Z5 119 7 t.ev.moves.length (knA t.ev) (F9 t kind k) (fun _=>[ti 0]))) t.finds.length (fun _=>True) (aY7 1 t.ev.moves.length) trivial ?_ ?_
  ·have hke:k=t.ev.moves.length:=by omega
   subst hke
   refine (?_:Ent 0 (aY7 1 t.ev.moves.length) _ _ _ (Z5 119 7 t.ev.moves.length (knA t.ev) (F9 t kind 0) (fun _=>[ti 0])))
   rw [e0]
   refine b5b (k0:=knB ((List.range t.ev.moves.length).map (kn1 t.ev t.ev.moves.length))) (s:=0) rfl ⟨rfl,rfl,rfl,rfl⟩ ?_ ?_
   ·show toC _=_
    unfold toC
    rw [List.map_map]
    refine List.map_congr_left fun i hi=>?_
    have:=List.mem_range.1 hi
    simp [kn1,knA,this]
   ·exact ⟨rfl,rfl,⟨rfl,rfl,rfl,fun h=>h⟩,i7 rfl,b9 (by simp),rfl,trivial⟩
  intro j hj _
  by_cases hjt:j<t.finds.length
  ·obtain ⟨f,hfj⟩:∃f,t.finds[j]? =some f:=⟨_,lg0 hjt⟩
   obtain ⟨f1,f2⟩:=hf f (lg2 hfj)
   obtain ⟨m,hm⟩:∃m:Nat,f.mv=m:=⟨f.mv.toNat,by omega⟩
   have hmn:m<t.ev.moves.length:=by omega
   have eM:0+f.mv.toNat=m:=by omega
   have rL:(List.range t.ev.moves.length).length=t.ev.moves.length:=by simp
   have rG:(List.range t.ev.moves.length)[m]? =some m:=List.getElem?_range hmn
   have gR:(a2Q t.ev.moves.length (knA t.ev) (F9 t kind j) (fun _=>[ti 0]))[0+f.mv.toNat]? =some (aL2 (knA t.ev) (F9 t kind j) (fun _=>[ti 0]) (m+1) m):=by rw [eM];exact a2D hmn
   have gl:(F9 t kind j m).length<=t.finds.length:=by
    unfold F9 j5
    rw [List.length_map]
    exact Nat.le_trans (List.length_filter_le _ _) (by simp;omega)
   have hbox:∀(fB:Nat->Blk) (dead nb fb:Blk),(((((List.range t.ev.moves.length).map fB++[fb]).set m dead)++[nb])[t.ev.moves.length]?)=some fb:=fun fB dead nb fb=>by
    rw [List.getElem?_append_left (by simp),List.getElem?_set,if_neg (by omega),List.getElem?_append_right (by simp)]
    simp
   have hnew:∀(fB:Nat->Blk) (dead nb fb:Blk),(((((List.range t.ev.moves.length).map fB++[fb]).set m dead)++[nb])[t.ev.moves.length+1]?)=some nb:=fun fB dead nb fb=>by
    rw [List.getElem?_append_right (by simp)]
    simp
   have hold:∀(fB:Nat->Blk) (dead nb fb:Blk) (p:Nat),p<t.ev.moves.length->p≠m->(((((List.range t.ev.moves.length).map fB++[fb]).set m dead)++[nb])[p]?)=some (fB p):=fun fB dead nb fb p hp hpm=>by
    rw [List.getElem?_append_left (by simp;omega),List.getElem?_set,if_neg (by omega),List.getElem?_append_left (by simpa using hp),List.getElem?_map,List.getElem?_range hp];rfl
   by_cases hkd:f.kind=kind
   ·conv=>whnf
    repeat' (first|refine zz ?_|refine qp toC ?_|refine qp toC ?_|refine qp (0,1,2) ?_|refine d8 hfj ?_|refine k6 rL ?_|refine a4B rL ?_|refine H8 ?_|refine a3v ?_|refine ⟨_,gR,?_⟩|refine a9a (hbox _ _ _ _) ?_|refine X8 rG ?_|refine aJ2 rG ?_|refine F0 rL ?_|refine i6 rL ?_|refine a84 rL ?_|refine i8 rL ?_|refine av4 ?_|refine q9 (by simp [toC]) (by simp [toC];omega) ?_|refine bl0 [0,1,2] ?_|refine zd ?_ ?_<;>intro h<;>try omega|refine zy ?_|fail)<;>conv=>whnf
    all_goals try omega
    refine ⟨hjt,trivial,a8q t.ev.moves.length m (t.ev.moves.length+2),?_⟩
    refine (?_:Ent 0 (a8q t.ev.moves.length m (t.ev.moves.length+2)) _ _ _ (Z5 119 7 t.ev.moves.length (knA t.ev) (F9 t kind (j+1)) (fun _=>[ti 0])))
    have eg:F9 t kind (j+1)=a4p (F9 t kind j) m (F9 t kind j m++[f.grams]):=by
     funext i
     unfold F9 a4p
     rw [U9 hfj,a6q]
     by_cases hi:i=m
     ·subst hi;rw [if_pos ⟨hkd,hm⟩,if_pos rfl]
     ·rw [if_neg (fun h=>hi (by omega)),if_neg hi]
    rw [eg]
    refine b36 hmn (by omega) rfl ⟨rfl,rfl,rfl,rfl⟩ ?_ ?_ ?_ ?_
    ·show (a2Q _ _ _ _).set (0+f.mv.toNat) _=_
     rw [eM,List.length_append]
     rfl
    ·intro p hp hpm
     exact hold _ _ _ _ p hp hpm
    ·refine (hnew _ _ _ _).trans ?_
     show some (Blk.mk .live _ 1 (List.take _ (toC ((F9 t kind j m).map f8))++toC [[ti f.grams]]) false false)=_
     rw [b2w]
    ·exact ⟨rfl,rfl,⟨by rw [Y5 (by omega)];rfl,rfl,rfl,fun h=>h⟩,rfl,rfl,rfl,trivial⟩
   ·conv=>whnf
    repeat' (first|refine zz ?_|refine d8 hfj ?_|refine k6 rL ?_|refine a4B rL ?_|refine H8 ?_|refine a3v ?_|refine F0 rL ?_|refine i6 rL ?_|refine a84 rL ?_|refine i8 rL ?_|refine zd ?_ ?_<;>intro h<;>try omega|refine zy ?_|fail)<;>conv=>whnf
    all_goals try omega
    refine ⟨hjt,trivial,idR (t.ev.moves.length+1),?_⟩
    refine (?_:Ent 0 (idR (t.ev.moves.length+1)) _ (Z5 119 7 t.ev.moves.length (knA t.ev) (F9 t kind j) (fun _=>[ti 0])++_) _ (Z5 119 7 t.ev.moves.length (knA t.ev) (F9 t kind (j+1)) (fun _=>[ti 0])))
    have eg:F9 t kind (j+1)=F9 t kind j:=by
     funext i
     unfold F9
     rw [U9 hfj,a6q,if_neg (fun h=>hkd h.1)]
    rw [eg]
    exact b1O ⟨rfl,rfl,⟨o8 (by omega),rfl,rfl,fun h=>h⟩,rfl,rfl,rfl,trivial⟩
  ·have hje:j=t.finds.length:=by omega
   subst hje
   have rL:(List.range t.ev.moves.length).length=t.ev.moves.length:=by simp
   conv=>whnf
   repeat' (first|refine zz ?_|refine H8 ?_|refine a3v ?_|refine a4B rL ?_|refine zd ?_ ?_<;>intro h<;>try omega|refine zy ?_|fail)<;>conv=>whnf
   all_goals try omega
   have eg:F9 t kind t.finds.length=j5 t.finds kind:=by funext i;unfold F9;rw [lg4 (Nat.le_refl _)]
   rw [eg]
   refine f5 d7 (fun k=>([J,a7 .i64 kind,J,J,J,J,S.c (C.own 0 0 t.ev.moves.length true),J,J,J,J,J,J,J,J,J,J,J,J,J,J,J,J,J,J,J,J,J,J,J,J,J,J,J,J,J,J,J,J,J,J,J,J,J,J,J,J,J,J,J,J,J,J,J,J,J,J,J,J,J,J,J,J,J,J,J,J,J,J,J,J,J,J,J,J,J,J,J,J,J,J,J,S.c (C.t (a26 t.cleans)),a7 .i64 t.cleans.length,a7 .i64 k,J,J,J,J,J,J,J,J,J,J,J,J,J,J,J,J,J,J],[knB ((List.range t.ev.moves.length).map (kn3 t kind k))])) t.cleans.length (fun _=>True) [some 0] trivial ?_ ?_
   ·exact b3D (g:=j5 t.finds kind) ⟨rfl,⟨rfl,rfl,rfl,fun h=>h⟩,i7 rfl,b9 (by simp),rfl,trivial⟩
   intro q hq _
   by_cases hqt:q<t.cleans.length
   ·obtain ⟨c,hcq⟩:∃c,t.cleans[q]? =some c:=⟨_,lg0 hqt⟩
    obtain ⟨g1,g2⟩:=hc c (lg2 hcq)
    obtain ⟨m,hm⟩:∃m:Nat,c.mv=m:=⟨c.mv.toNat,by omega⟩
    have hmn:m<t.ev.moves.length:=by omega
    have eM:0+c.mv.toNat=m:=by omega
    have hk0:(List.range t.ev.moves.length)[0+c.mv.toNat]? =some m:=by rw [eM];exact List.getElem?_range hmn
    have cb:=b8z t kind q m
    by_cases hkd:c.kind=kind
    ·conv=>whnf
     repeat' (first|refine zz ?_|refine d8 hcq ?_|refine s9 hk0 ?_|refine zd ?_ ?_<;>intro h<;>try omega|refine zy ?_|fail)<;>conv=>whnf
     all_goals try omega
     refine ⟨hqt,trivial,[some 0],rfl,rfl,⟨a8 rfl rfl rfl ?_ rfl,trivial⟩,⟨rfl,⟨rfl,rfl,rfl,fun h=>h⟩,rfl,rfl,rfl,trivial⟩⟩
     show (toC _).set (0+c.mv.toNat) _=_
     rw [eM,←b65 hmn hcq hkd hm]
     rfl
    ·have e3:=b2G (t:=t) (kind:=kind) (n:=t.ev.moves.length) hcq hkd
     conv=>whnf
     repeat' (first|refine zz ?_|refine d8 hcq ?_|refine s9 hk0 ?_|refine zd ?_ ?_<;>intro h<;>try omega|refine zy ?_|fail)<;>conv=>whnf
     all_goals try omega
     refine ⟨hqt,trivial,[some 0],rfl,rfl,⟨a8 rfl rfl rfl ?_ rfl,trivial⟩,⟨rfl,⟨rfl,rfl,rfl,fun h=>h⟩,rfl,rfl,rfl,trivial⟩⟩
     rw [e3]
   ·have hqe:q=t.cleans.length:=by omega
    subst hqe
    conv=>whnf
    repeat' (first|refine zz ?_|refine zd ?_ ?_<;>intro h<;>try omega|refine zy ?_|fail)<;>conv=>whnf
    all_goals try omega
    rw [b5D]
    exact T7 (k:=knB ((List.range t.ev.moves.length).map (V8 t kind))) rfl (by intro h;cases h) rfl rfl (by simp)
abbrev R6 (l:List (Int × Rat)):Blk:={ mode:=.live,elem:=132,size:=5,rows:=toC (l.map j9),box:=false }
abbrev M9 (l:List D9):Blk:={ mode:=.live,elem:=143,size:=6,rows:=toC (l.map z6),box:=false }
abbrev a2R (n:Int) (id len:Nat):Blk:={ mode:=.live,elem:=70,size:=2,rows:=[[.t (ti n),.own id 0 len true]],box:=true }
abbrev b77 (id len:Nat) (kind:Int):Blk:={ mode:=.live,elem:=143,size:=6,rows:=[.own id 0 len true::.t (ti kind)::frC (fz zR)],box:=true }
abbrev b6a (x:x4):Blk:={ mode:=.live,elem:=79,size:=6,rows:=[x.row.map .t],box:=true }
theorem a3d (x:x4):K2 [x.row.map C.t]:=by simp [K2,x4.row,C.isT]
abbrev b76:Blk:={ mode:=.live,elem:=143,size:=6,rows:=[.t (a7X [])::.t (ti 0)::frC U0],box:=true }
abbrev b0f (el:TypeId) (size:Nat):Blk:=⟨.dead,el,size,[],false,false⟩
theorem a1d {l:List D9} {w:D9} {n:Nat} (h:n=l.length):List.take n (toC (l.map z6))++toC [z6 w]=toC ((l++[w]).map z6):=by
 rw [lg4 (by simp [toC,h])]
 simp [toC]
set_option maxHeartbeats 4000000 in
theorem b88 (n:Int) (rows:List D9) (hr:rows.length<=1000000) (mv:Nat) (kind:Int) (v:Rat):
 a9 Tryz.prog 128 [a7 .i64 mv,a7 .i64 kind,frS (fz v),.c (.ptr 0 0 0)] [a2R n 1 rows.length,M9 rows] (.tup []) [a2R n 2 (rows.length+1),b0f 143 6,M9 (rows++[p7 mv kind v])]:=by
 have i1:=N7 1 (by decide) (by decide)
 (refine ac Tryz.func128 ?_;(conv=>whnf);repeat ((first|refine b0x ?_|refine zy ?_);conv=>whnf))
 repeat' (first|refine zz ?_|refine qp i1 ?_|refine qp toC ?_|refine qp toC ?_|refine a3W.weak ?_|refine q9 (by simp [toC]) (by simp [toC];omega) ?_|refine zd ?_ ?_<;>intro h<;>try omega|refine zy ?_|fail)<;>conv=>whnf
 refine ⟨⟨[some 0,some 1,some 2],rfl,rfl,⟨⟨rfl,rfl,rfl,.inr ⟨⟨rfl,⟨rfl,rfl,rfl,fun h=>h⟩,trivial⟩,trivial⟩⟩,⟨rfl,rfl,rfl,.inl ⟨rfl,by simp [K2]⟩⟩,a8 rfl rfl rfl ?_ rfl,trivial⟩,trivial⟩⟩
 show List.take rows.length (toC (rows.map z6))++toC [z6 (p7 mv kind v)]=_
 exact a1d rfl
theorem b7L {H:Hp} {id:Nat} {n:Int} {rows:List D9} (hs:H[2]? =some (a2R n id rows.length)) (hid:H[id]? =some (M9 rows)) (hne:id≠2) (hr:rows.length<=1000000) (mv:Nat) (kind:Int) (v:Rat):
 a9 Tryz.prog 128 [a7 .i64 mv,a7 .i64 kind,frS (fz v),.c (.ptr 2 0 0)] H (.tup []) (((H.set 2 (a2R n H.length (rows.length+1))).set id (b0f 143 6))++[M9 (rows++[p7 mv kind v])]):=by
 have h2:2<H.length:=(lg1 hs).1
 have hi:id<H.length:=(lg1 hid).1
 have ex:a3U [2,id] H.length 1=[2,id,H.length]:=by simp [a3U]
 refine Y1 [2,id] (b88 n rows hr mv kind v) rfl rfl rfl (by simp;omega) ?_ ?_ (by simp) rfl rfl (by simp) ?_ ?_
 ·intro i k hk
  match i,hk with
  |0,hk=>
   injection hk with hk
   subst hk
   exact ⟨rfl,rfl,by simp [okL,okC],_,hs,⟨rfl,rfl,rfl,rfl,by simp [a7U,a1w,Y8]⟩⟩
  |1,hk=>
   injection hk with hk
   subst hk
   exact ⟨rfl,rfl,a3E _,_,hid,G8 rfl⟩
 ·intro k hk
  simp at hk
  rcases hk with rfl|rfl|rfl<;>(intro h;cases h)
 ·intro i k hk
  show ∃k',_[(a3U [2,id] H.length 1).getD i 0]? =some k'∧az6 (a3U [2,id] H.length 1) k k'
  rw [ex]
  match i,hk with
  |0,hk=>
   injection hk with hk
   subst hk
   refine ⟨a2R n H.length (rows.length+1),?_,⟨rfl,rfl,rfl,rfl,by simp [a7U,a1w,Y8]⟩⟩
   show (_++_)[2]? =_
   rw [List.getElem?_append_left (by simp;omega),List.getElem?_set,if_neg (by omega),List.getElem?_set,if_pos rfl,if_pos h2]
  |1,hk=>
   injection hk with hk
   subst hk
   refine ⟨b0f 143 6,?_,⟨rfl,rfl,rfl,rfl,rfl⟩⟩
   show (_++_)[id]? =_
   rw [List.getElem?_append_left (by simp;omega),List.getElem?_set,if_pos rfl,if_pos (by simp;omega)]
  |2,hk=>
   injection hk with hk
   subst hk
   refine ⟨M9 (rows++[p7 mv kind v]),?_,G8 rfl⟩
   show (_++_)[H.length]? =_
   rw [List.getElem?_append_right (by simp)]
   simp
 ·intro j hj hjn
  simp at hjn
  rw [List.getElem?_append_left (by simp;omega),List.getElem?_set,if_neg (by omega),List.getElem?_set,if_neg (by omega)]
theorem a1a {l:List (Int × Rat)} {w:Int × Rat} {n:Nat} (h:n=l.length):List.take n (toC (l.map j9))++toC [j9 w]=toC ((l++[w]).map j9):=by
 rw [lg4 (by simp [toC,h])]
 simp [toC]
theorem T5 {e:Ev} {p:Int} {k:Nat} {y:x4} (h:e.moves[k]? =some y):j6 e p (k+1)=if y.dst=p then j6 e p k++[((k:Int),((1:Int):Rat))] else if y.src=p then j6 e p k++[((k:Int),((-1:Int):Rat))] else j6 e p k:=by rw [j6,h]
theorem a27 {e:Ev} {p:Int}:∀k,(j6 e p k).length<=k
 |0=>by simp [j6]
 |k+1=>by
  have ih:=a27 (e:=e) (p:=p) k
  unfold j6
  cases e.moves[k]? with
  |none=>simp only;omega
  |some y=>
   simp only
   split
   ·simp;omega
   ·split
    ·simp;omega
    ·omega
set_option maxHeartbeats 4000000 in
theorem b6A (e:Ev) (h0:C6 e=0) {i:Nat} {x:x4} (hx:e.moves[i]? =some x):a9 Tryz.prog 129 [evS e,a7 .i64 i] [] (aN9 (w8 e i x)) []:=by
 obtain ⟨b1,b2,b3,b4⟩:=Z7 h0
 have hi:i<e.moves.length:=(lg1 hx).1
 have m0:(e.moves.map x4.row).length=e.moves.length:=by simp
 have i0:=N7 0 (by decide) (by decide)
 have i1:=N7 1 (by decide) (by decide)
 have im:=N7 (-1) (by decide) (by decide)
 have tk:(e.moves.map x4.row).take i=(e.moves.take i).map x4.row:=(List.map_take ..).symm
 have tl:(e.moves.take i).length=i:=by simp;omega
 have mt:((e.moves.take i).map x4.row).length=i:=by simp;omega
 cases hal:x.all
 case' false=>have hK:(w8 e i x).kind=0:=by unfold w8;rw [hal];rfl
 case' true=>have hK:(w8 e i x).kind=2:=by unfold w8;rw [hal];rfl
 all_goals
  (refine ac Tryz.func129 ?_;(conv=>whnf);repeat ((first|refine b0x ?_|refine zy ?_);conv=>whnf))
  repeat' (first|refine zz ?_|refine qp i0 ?_|refine d8 hx ?_|refine a41 (by omega) (by omega) (by omega) ?_|refine zd ?_ ?_<;>intro h<;>try omega|refine zy ?_|fail)<;>conv=>whnf
  all_goals first
   |omega
   |(exfalso;simp_all;done)
   |skip
  refine f5 d7 (fun k=>([J,a7 .i64 i,J,J,S.c (C.ptr 0 0 0),S.c (C.ptr 1 0 0),S.c (C.ptr 2 0 0),J,J,J,J,J,J,J,J,J,J,J,J,J,J,J,S.c (C.t (a1L (e.moves.take i))),a7 .i64 i,a7 .i64 k,J,J,J,J,J,J,J,J,J,J,J,J,J,J,J,J,J,J,J,J,J,J,J,J,J,J,J,J,J,J,J,J,J,J,J,J,J,J,J,J],[b76,b6a x,b77 3 (j6 e x.src k).length (w8 e i x).kind,R6 (j6 e x.src k)])) i (fun _=>True) [some 0,some 1,some 2,none] trivial ?_ ?_
  ·rw [hK]
   refine ⟨rfl,rfl,⟨⟨rfl,rfl,rfl,.inr ⟨⟨rfl,rfl,rfl,rfl,rfl,rfl,trivial⟩,trivial⟩⟩,⟨rfl,rfl,rfl,.inl ⟨rfl,a3d x⟩⟩,⟨rfl,rfl,rfl,.inr ⟨⟨⟨rfl,rfl,rfl⟩,rfl,rfl,rfl,rfl,rfl,trivial⟩,trivial⟩⟩,⟨rfl,rfl⟩,trivial⟩,⟨rfl,⟨rfl,rfl,rfl⟩,⟨rfl,rfl,rfl⟩,⟨rfl,rfl,rfl⟩,i7 ?_,b9 ?_,rfl,trivial⟩⟩
   ·show T.sl 6 _ (((e.moves.map x4.row).take ((i:Int)).toNat).drop 0)=_
    rw [Int.toNat_natCast,tk];rfl
   ·show ((((e.moves.map x4.row).take ((i:Int)).toNat).drop 0).length:Int)=i
    rw [Int.toNat_natCast,tk,List.drop_zero,mt]
  intro k hk _
  have kl:=a27 (e:=e) (p:=x.src) k
  by_cases hlt:k<i
  ·obtain ⟨y,hy⟩:∃y,e.moves[k]? =some y:=⟨_,lg0 (by omega)⟩
   have hyt:(e.moves.take i)[k]? =some y:=by rw [List.getElem?_take,if_pos hlt];exact hy
   by_cases c1:y.dst=x.src
   ·have et:j6 e x.src (k+1)=j6 e x.src k++[((k:Int),((1:Int):Rat))]:=by rw [T5 hy,if_pos c1]
    conv=>whnf
    repeat' (first|refine zz ?_|refine qp i1 ?_|refine qp toC ?_|refine qp toC ?_|refine d8 hyt ?_|refine q9 (by simp [toC]) (by simp [toC];omega) ?_|refine zd ?_ ?_<;>intro h<;>try omega|refine zy ?_|fail)<;>conv=>whnf
    all_goals try omega
    refine ⟨hlt,trivial,[some 0,some 1,some 2,some 5],rfl,rfl,⟨⟨rfl,rfl,rfl,.inr ⟨⟨rfl,rfl,rfl,rfl,rfl,rfl,trivial⟩,trivial⟩⟩,⟨rfl,rfl,rfl,.inl ⟨rfl,a3d x⟩⟩,⟨rfl,rfl,rfl,.inr ⟨⟨⟨rfl,rfl,?_,fun h=>h⟩,rfl,rfl,rfl,rfl,rfl,trivial⟩,trivial⟩⟩,a8 rfl rfl rfl ?_ rfl,trivial⟩,⟨rfl,⟨rfl,rfl,rfl⟩,⟨rfl,rfl,rfl⟩,⟨rfl,rfl,rfl⟩,rfl,rfl,rfl,trivial⟩⟩
    ·rw [et,List.length_append];rfl
    ·rw [et]
     show List.take (j6 e x.src k).length (toC ((j6 e x.src k).map j9))++toC [j9 ((k:Int),((1:Int):Rat))]=_
     exact a1a rfl
   ·by_cases c2:y.src=x.src
    ·have et:j6 e x.src (k+1)=j6 e x.src k++[((k:Int),((-1:Int):Rat))]:=by rw [T5 hy,if_neg c1,if_pos c2]
     conv=>whnf
     repeat' (first|refine zz ?_|refine qp im ?_|refine qp toC ?_|refine qp toC ?_|refine d8 hyt ?_|refine q9 (by simp [toC]) (by simp [toC];omega) ?_|refine zd ?_ ?_<;>intro h<;>try omega|refine zy ?_|fail)<;>conv=>whnf
     all_goals try omega
     refine ⟨hlt,trivial,[some 0,some 1,some 2,some 5],rfl,rfl,⟨⟨rfl,rfl,rfl,.inr ⟨⟨rfl,rfl,rfl,rfl,rfl,rfl,trivial⟩,trivial⟩⟩,⟨rfl,rfl,rfl,.inl ⟨rfl,a3d x⟩⟩,⟨rfl,rfl,rfl,.inr ⟨⟨⟨rfl,rfl,?_,fun h=>h⟩,rfl,rfl,rfl,rfl,rfl,trivial⟩,trivial⟩⟩,a8 rfl rfl rfl ?_ rfl,trivial⟩,⟨rfl,⟨rfl,rfl,rfl⟩,⟨rfl,rfl,rfl⟩,⟨rfl,rfl,rfl⟩,rfl,rfl,rfl,trivial⟩⟩
     ·rw [et,List.length_append];rfl
     ·rw [et]
      show List.take (j6 e x.src k).length (toC ((j6 e x.src k).map j9))++toC [j9 ((k:Int),((-1:Int):Rat))]=_
      exact a1a rfl
    ·have et:j6 e x.src (k+1)=j6 e x.src k:=by rw [T5 hy,if_neg c1,if_neg c2]
     conv=>whnf
     repeat' (first|refine zz ?_|refine d8 hyt ?_|refine zd ?_ ?_<;>intro h<;>try omega|refine zy ?_|fail)<;>conv=>whnf
     all_goals try omega
     refine ⟨hlt,trivial,[some 0,some 1,some 2,some 3],rfl,rfl,⟨⟨rfl,rfl,rfl,.inr ⟨⟨rfl,rfl,rfl,rfl,rfl,rfl,trivial⟩,trivial⟩⟩,⟨rfl,rfl,rfl,.inl ⟨rfl,a3d x⟩⟩,⟨rfl,rfl,rfl,.inr ⟨⟨⟨rfl,rfl,?_,fun h=>h⟩,rfl,rfl,rfl,rfl,rfl,trivial⟩,trivial⟩⟩,a8 rfl rfl rfl ?_ rfl,trivial⟩,⟨rfl,⟨rfl,rfl,rfl⟩,⟨rfl,rfl,rfl⟩,⟨rfl,rfl,rfl⟩,rfl,rfl,rfl,trivial⟩⟩
     ·rw [et]
     ·rw [et]
  ·have hke:k=i:=by omega
   subst hke
   conv=>whnf
   repeat' (first|refine zz ?_|refine qp im ?_|refine qp toC ?_|refine qp toC ?_|refine q9 (by simp [toC]) (by simp [toC];omega) ?_|refine zd ?_ ?_<;>intro h<;>try omega|refine zy ?_|fail)<;>conv=>whnf
   all_goals try omega
   refine k8 ⟨show VC _ (fun id=>G3 [] id=true) _ _ from v4 rfl rfl (by intro h;cases h) rfl (rows:=(j6 e x.src k++[((k:Int),((-1:Int):Rat))]).map j9) ?_ ?_,rfl,rfl,rfl,rfl,rfl,trivial⟩
   ·show List.take (j6 e x.src k).length (toC ((j6 e x.src k).map j9))++toC [j9 ((k:Int),((-1:Int):Rat))]=_
    exact a1a rfl
   ·rw [List.length_map,List.length_append];rfl
theorem a8n {e:Ev}:∀{l:List J3},H3 e l=0->∀c ∈ l,0<=c.mv∧c.mv<e.moves.length
 |[],_,c,hc=>by cases hc
 |g::r,h,c,hc=>by
  unfold H3 at h
  by_cases h1:a13 e g.mv g.kind≠0
  ·rw [if_pos h1] at h;exact absurd h h1
  rw [if_neg h1] at h
  rcases List.mem_cons.1 hc with rfl|hc
  ·unfold a13 at h1
   by_cases h3:c.mv<0∨(e.moves.length:Int)<=c.mv
   ·rw [if_pos h3] at h1;exact absurd (by decide) h1
   omega
  ·exact a8n h c hc
def hiR (o:Option (Rat × Rat)):Rat:=match o with
 |some (_,hi)=>hi
 |none=>0
theorem af3 {e:Ev} {x:x4} (h:(G0 e x).isSome=true):hiF (G0 e x)=fz (hiR (G0 e x))∧rl (hiR (G0 e x))<=200:=by
 cases hiv:G0 e x with
 |none=>rw [hiv] at h;cases h
 |some p=>
  obtain ⟨lo,hi⟩:=p
  refine ⟨rfl,?_⟩
  show rl hi<=200
  unfold G0 at hiv
  by_cases hs:x.scale=-1
  ·rw [if_pos hs] at hiv;cases hiv
  ·rw [if_neg hs] at hiv
   have:=(aJ4 hiv).2
   omega
theorem a0C {H:Hp} {id len:Nat} {n:Int} {rows:List D9} {rs:List (List C)} {f:Fr} {v:Rat} (hf:f=fz v) (hs:H[2]? =some (a2R n id len)) (hid:H[id]? =some { mode:=.live,elem:=143,size:=6,rows:=rs,box:=false })
 (hlen:len=rows.length) (hrs:rs=toC (rows.map z6)) (hne:id≠2) (hr:rows.length<=1000000) (mv:Nat) (kind:Int):
 a9 Tryz.prog 128 [a7 .i64 mv,a7 .i64 kind,frS f,.c (.ptr 2 0 0)] H (.tup []) (((H.set 2 (a2R n H.length (rows.length+1))).set id (b0f 143 6))++[M9 (rows++[p7 mv kind v])]):=by
 subst hf;subst hlen;subst hrs;exact b7L hs hid hne hr mv kind v
theorem aa4 {t:e8} {kind:Int} {k:Nat} (hk:k<=200) (hf:t.finds.length<=20) (hc:t.cleans.length<=50):(p9 t kind k).length<=14400:=by
 have h1:=S3 (t:=t) (kind:=kind) k
 have h2:=Nat.mul_le_mul hk (show 2+t.finds.length+t.cleans.length<=72 by omega)
 omega
abbrev au2 (t:e8) (kind:Int) (i:Nat):Blk:={ mode:=.live,elem:=119,size:=7,rows:=[(V8 t kind i).map .t],box:=true }
theorem T6 {ρ:List (Option Nat)} {H:Hp}:∀rows:List (List T),a4M ρ H (rows.map (·.map C.t)) (rows.map (·.map C.t))
 |[]=>trivial
 |r::rs=>⟨O1 r,T6 rs⟩
abbrev a7h:FuncId:=128
abbrev a1m:Blk:={ mode:=.live,elem:=70,size:=2,rows:=[[.t (ti 0),.t (M3 [])]],box:=true }
theorem b24 {P:Program} {f:FuncId} {args:List S} {H H1 H':Hp} {r s:S} (h:a9 P f args H r H1) (hf:Fin H.length r H1 s H'):a9 P f args H s H':=by
 refine ⟨h.1,fun w ι M vals hl hr hH hM hF=>?_⟩
 refine Calls.mono (h.2 w ι M vals hl hr hH hM hF) ?_
 rintro e w' ⟨v,rfl,ι',M',h4,hH',hM',hF',hst⟩
 obtain ⟨ρ,f1,f2,f3,f4⟩:=hf
 obtain ⟨g1,g2,g3⟩:=a3o.all f1 f2 f3 rfl hM hH' hst
 exact ⟨v,rfl,P9 ρ ι',_,f4.rs hH' h4,g1,fun b hb=>hM' b hb.1,g2,g3⟩
set_option maxHeartbeats 4000000 in
theorem b2f (t:e8) (kind:Int) (hs:t.Sized) (h1:¬(v8 t≠0∨kind<0∨8<=kind)):a9 Tryz.prog 60 [trS t,a7 .i64 kind] [] (.tup [.agg [.t (ti t.ev.moves.length),.own 0 0 (R0 t kind).rows.length true],a7 .i64 0]) [M9 (R0 t kind).rows]:=by
 have ck:=a6r t hs
 have m2:(t.ev.moves.map x4.row).length=t.ev.moves.length:=by simp
 obtain ⟨k1,k2,k3⟩:v8 t=0∧0<=kind∧kind<8:=by omega
 rw [k1] at ck
 obtain ⟨q1,q2,q3,q4,q5⟩:=n8 k1
 obtain ⟨b1,b2,b3,b4⟩:=Z7 q1
 have kn:=b5z t kind hs q1 (fun f hf=>by have:=E6 q4 f hf;omega) (fun c hc=>a8n q5 c hc)
 (refine ac Tryz.func60 ?_;(conv=>whnf);repeat ((first|refine b0x ?_|refine zy ?_);conv=>whnf))
 repeat' (first|refine zz ?_|refine qp ck ?_|refine qp kn ?_|refine zd ?_ ?_<;>intro h<;>try omega|refine zy ?_|fail)<;>conv=>whnf
 all_goals try omega
 refine f5 d7 (fun k=>([J,J,J,J,S.c (C.ptr 0 0 0),J,S.c (C.ptr 1 0 0),S.c (C.ptr 2 0 0),S.c (C.fn (Fn.func a7h) [C.ptr 2 0 0]),J,J,J,J,J,J,J,J,J,J,J,J,J,J,J,J,J,J,J,J,J,J,J,J,J,S.c (C.t (a2m t kind)),a7 .i64 t.ev.moves.length,a7 .i64 k,J,J,J,J,J,J,J,J,J,J,J,J,J,J,J,J,J,J,J,J,J,J,J,J,J,J,J,J,J,J,J,J,J,J,J,J,J,J,J,J,J,J,J,J,J,J,J],[a1m,evB t.ev,a2R t.ev.moves.length 3 (p9 t kind k).length,M9 (p9 t kind k)])) t.ev.moves.length (fun _=>True) [some 0,some 1,some 2,none] trivial ?_ ?_
 ·refine ⟨rfl,rfl,⟨⟨rfl,rfl,rfl,.inr ⟨⟨rfl,rfl,trivial⟩,trivial⟩⟩,⟨rfl,rfl,rfl,.inl ⟨rfl,p5 _⟩⟩,⟨rfl,rfl,rfl,.inr ⟨⟨?_,⟨rfl,rfl,rfl⟩,trivial⟩,trivial⟩⟩,⟨rfl,rfl⟩,trivial⟩,⟨⟨rfl,rfl,rfl⟩,⟨rfl,rfl,rfl⟩,⟨rfl,rfl,rfl⟩,⟨rfl,⟨rfl,rfl,rfl⟩,trivial⟩,rfl,b9 (by simp),rfl,trivial⟩⟩
  exact a9c (by rw [m2])
 intro k hk _
 by_cases hlt:k<t.ev.moves.length
 ·obtain ⟨x,hx⟩:∃x,t.ev.moves[k]? =some x:=⟨_,lg0 hlt⟩
  have bn:=b9M t.ev q1 hx
  have st:=b6A t.ev q1 hx
  have gk:(List.range t.ev.moves.length)[k]? =some k:=List.getElem?_range hlt
  have iv:a1o t.ev k=G0 t.ev x:=aw7 hx
  have rl0:=aa4 (t:=t) (kind:=kind) (k:=k) (by omega) q2 q3
  have gl:(j5 t.finds kind k).length<=20:=by unfold j5;rw [List.length_map];exact Nat.le_trans (List.length_filter_le _ _) q2
  have cl:n9 t.cleans kind k<=50:=Nat.le_trans (List.length_filter_le _ _) q3
  have i0:=N7 0 (by decide) (by decide)
  obtain ⟨R1,hR1⟩:∃R1:List D9,R1=p9 t kind k++(if o4 t.ev x.src=0 then [] else [w8 t.ev k x])++P4 (G0 t.ev x) k:=⟨_,rfl⟩
  have l5:(p9 t kind k).length+1=(p9 t kind k++[w8 t.ev k x]).length:=by simp
  have r5:List.take (p9 t kind k).length (toC ((p9 t kind k).map z6))++toC [z6 (w8 t.ev k x)]=toC ((p9 t kind k++[w8 t.ev k x]).map z6):=a1d rfl
  have b5:(p9 t kind k++[w8 t.ev k x]).length<=1000000:=by simp;omega
  have b3:(p9 t kind k).length<=1000000:=by omega
  obtain ⟨G,hG⟩:∃G:Nat->List D9,∀j,G j=R1++((j5 t.finds kind k).take j).map (fun g:Int=>p7 k 0 (g:Rat)):=⟨_,fun _=>rfl⟩
  obtain ⟨K,hK⟩:∃K:Nat->List D9,∀j,K j=(R1++(j5 t.finds kind k).map (fun g:Int=>p7 k 0 (g:Rat)))++List.replicate j (p7 k 2 ((0:Int):Rat)):=⟨_,fun _=>rfl⟩
  have hG0:G 0=R1:=by rw [hG];simp
  have hK0:K 0=R1++(j5 t.finds kind k).map (fun g:Int=>p7 k 0 (g:Rat)):=by rw [hK];simp
  have hKe:p9 t kind (k+1)=K (n9 t.cleans kind k):=by
   rw [hK,hR1]
   show (match t.ev.moves[k]? with|none=>p9 t kind k|some x=>p9 t kind k++N6 t kind k x)=_
   rw [hx]
   unfold N6
   simp [List.append_assoc]
  have hKs:toC ((K (n9 t.cleans kind k)).map z6)=toC ((p9 t kind (k+1)).map z6)∧(K (n9 t.cleans kind k)).length=(p9 t kind (k+1)).length:=by rw [hKe];exact ⟨rfl,rfl⟩
  have hgr:∀g ∈ j5 t.finds kind k,1<=g∧g<=1099511627776:=fun g hg=>by
   unfold j5 at hg
   obtain ⟨f,hf,rfl⟩:=List.mem_map.1 hg
   have:=E6 q4 f (List.mem_filter.1 hf).1
   omega
  have hcr:P4 (G0 t.ev x) k=if (G0 t.ev x).isSome then [p7 k 1 (hiR (G0 t.ev x))] else []:=by cases G0 t.ev x<;>rfl
  cases hc:(G0 t.ev x).isSome<;>cases hb:decide (o4 t.ev x.src=0)<;>rw [hb] at bn
  ·have hci:(a1o t.ev k).isSome=false:=by rw [iv];exact hc
   rw [hc] at hcr
   have hcr:P4 (G0 t.ev x) k=[]:=hcr
   have eR:R1=p9 t kind k++[w8 t.ev k x]:=by rw [hR1,hcr];simp only [decide_eq_false_iff_not,decide_eq_true_eq] at hb;simp [hb,List.append_assoc]
   have hRl:R1.length<=14500:=by rw [eR];(try simp);omega
   conv=>whnf
   repeat' (first|refine zz ?_|refine qp bn ?_|refine qp st ?_|refine qp toC ?_|refine qp toC ?_|refine d8 gk ?_|refine q9 (by simp [toC]) (by simp [toC];omega) ?_|refine zd ?_ ?_<;>intro h<;>try omega|refine zy ?_|fail)<;>conv=>whnf
   all_goals try omega
   all_goals try (rw [hci] at h;exact absurd h (by decide))
   refine f5 d7 (fun j=>([J,J,J,J,S.c (C.ptr 0 0 0),J,S.c (C.ptr 1 0 0),S.c (C.ptr 2 0 0),S.c (C.fn (Fn.func a7h) [C.ptr 2 0 0]),a7 .i64 k,S.c (C.ptr 4 0 0),J,J,J,J,J,J,J,J,J,J,J,J,J,J,J,J,J,J,J,J,J,J,J,S.c (C.t (a2m t kind)),a7 .i64 t.ev.moves.length,a7 .i64 k,J,J,J,J,J,J,J,J,J,J,J,J,J,J,J,J,J,J,J,J,J,J,J,J,S.c (C.t (L5 (j5 t.finds kind k))),a7 .i64 (j5 t.finds kind k).length,a7 .i64 j,J,J,J,J,J,J,J,J,J,J,J,J,J,J,J,J,J,J,J,J],[a1m,evB t.ev,a2R t.ev.moves.length 3 (G j).length,M9 (G j),au2 t kind k])) (j5 t.finds kind k).length (fun _=>True) [some 0,some 1,some 2,some 5,some 4] trivial ⟨rfl,rfl,⟨⟨rfl,rfl,rfl,.inr ⟨⟨rfl,rfl,trivial⟩,trivial⟩⟩,⟨rfl,rfl,rfl,.inl ⟨rfl,p5 _⟩⟩,⟨rfl,rfl,rfl,.inr ⟨⟨rfl,⟨rfl,rfl,?_,fun h=>h⟩,trivial⟩,trivial⟩⟩,a8 rfl rfl rfl ?_ rfl,⟨rfl,rfl,rfl,.inr (T6 [V8 t kind k])⟩,trivial⟩,⟨⟨rfl,rfl,rfl⟩,⟨rfl,rfl,rfl⟩,⟨rfl,rfl,rfl⟩,⟨rfl,⟨rfl,rfl,rfl⟩,trivial⟩,rfl,⟨rfl,rfl,rfl⟩,rfl,rfl,rfl,rfl,b9 (by simp),rfl,trivial⟩⟩ ?_
   ·simp [hG0,eR,toC]
   ·rw [hG0,eR];exact r5
   intro j hj _
   have hGl:(G j).length<=1000000:=by rw [hG];simp [List.length_append];omega
   by_cases hjt:j<(j5 t.finds kind k).length
   ·obtain ⟨g,hg⟩:∃g,(j5 t.finds kind k)[j]? =some g:=⟨_,lg0 hjt⟩
    have gb:=hgr g (lg2 hg)
    have ig:=N7 g (by omega) (by omega)
    have eG:G (j+1)=G j++[p7 k 0 (g:Rat)]:=by rw [hG,hG,List.take_add_one,hg];simp
    conv=>whnf
    repeat' (first|refine zz ?_|refine qp ig ?_|refine d8 hg ?_|refine .inr ⟨_,_,a0C (id:=3) rfl rfl rfl rfl rfl (by decide) hGl _ _,?_⟩|refine zd ?_ ?_<;>intro h<;>try omega|refine zy ?_|fail)<;>conv=>whnf
    all_goals try omega
    refine ⟨hjt,trivial,[some 0,some 1,some 2,some 5,some 4],rfl,rfl,⟨⟨rfl,rfl,rfl,.inr ⟨⟨rfl,rfl,trivial⟩,trivial⟩⟩,⟨rfl,rfl,rfl,.inl ⟨rfl,p5 _⟩⟩,⟨rfl,rfl,rfl,.inr ⟨⟨rfl,⟨rfl,rfl,?_,fun h=>h⟩,trivial⟩,trivial⟩⟩,a8 rfl rfl rfl ?_ rfl,⟨rfl,rfl,rfl,.inr (T6 [V8 t kind k])⟩,trivial⟩,⟨⟨rfl,rfl,rfl⟩,⟨rfl,rfl,rfl⟩,⟨rfl,rfl,rfl⟩,⟨rfl,⟨rfl,rfl,rfl⟩,trivial⟩,rfl,⟨rfl,rfl,rfl⟩,rfl,rfl,rfl,rfl,rfl,rfl,trivial⟩⟩
    ·rw [eG];simp
    ·rw [eG]
   have hje:j=(j5 t.finds kind k).length:=by omega
   subst hje
   have hGe:G (j5 t.finds kind k).length=R1++(j5 t.finds kind k).map (fun g:Int=>p7 k 0 (g:Rat)):=by rw [hG,lg4 (Nat.le_refl _)]
   conv=>whnf
   repeat' (first|refine zz ?_|refine zd ?_ ?_<;>intro h<;>try omega|refine zy ?_|fail)<;>conv=>whnf
   all_goals try omega
   refine f5 d7 (fun j=>([J,J,J,J,S.c (C.ptr 0 0 0),J,S.c (C.ptr 1 0 0),S.c (C.ptr 2 0 0),S.c (C.fn (Fn.func a7h) [C.ptr 2 0 0]),a7 .i64 k,J,J,J,J,J,J,J,J,J,J,J,J,J,J,J,J,J,J,J,J,J,J,J,J,S.c (C.t (a2m t kind)),a7 .i64 t.ev.moves.length,a7 .i64 k,J,J,J,J,J,J,J,J,J,J,J,J,J,J,J,J,J,J,J,J,J,J,J,J,J,J,J,J,J,J,J,J,J,J,J,J,J,a7 .i64 (n9 t.cleans kind k),a7 .i64 j,J,J,J,J,J,J,J,J],[a1m,evB t.ev,a2R t.ev.moves.length 3 (K j).length,M9 (K j)])) (n9 t.cleans kind k) (fun _=>True) [some 0,some 1,some 2,some 3] trivial ⟨rfl,rfl,⟨⟨rfl,rfl,rfl,.inr ⟨⟨rfl,rfl,trivial⟩,trivial⟩⟩,⟨rfl,rfl,rfl,.inl ⟨rfl,p5 _⟩⟩,⟨rfl,rfl,rfl,.inr ⟨⟨rfl,⟨rfl,rfl,?_,fun h=>h⟩,trivial⟩,trivial⟩⟩,a8 rfl rfl rfl ?_ rfl,trivial⟩,⟨⟨rfl,rfl,rfl⟩,⟨rfl,rfl,rfl⟩,⟨rfl,rfl,rfl⟩,⟨rfl,⟨rfl,rfl,rfl⟩,trivial⟩,rfl,rfl,rfl,rfl,rfl,rfl,trivial⟩⟩ ?_
   ·rw [hK0,hGe]
   ·rw [hK0,hGe]
   clear hj hjt
   intro j hj _
   have hKl:(K j).length<=1000000:=by rw [hK];simp [List.length_append];omega
   by_cases hjt:j<n9 t.cleans kind k
   ·have eK:K (j+1)=K j++[p7 k 2 ((0:Int):Rat)]:=by rw [hK,hK,List.replicate_succ'];simp
    conv=>whnf
    repeat' (first|refine zz ?_|refine qp i0 ?_|refine .inr ⟨_,_,a0C (id:=3) rfl rfl rfl rfl rfl (by decide) hKl _ _,?_⟩|refine zd ?_ ?_<;>intro h<;>try omega|refine zy ?_|fail)<;>conv=>whnf
    all_goals try omega
    refine ⟨hjt,trivial,[some 0,some 1,some 2,some 4],rfl,rfl,⟨⟨rfl,rfl,rfl,.inr ⟨⟨rfl,rfl,trivial⟩,trivial⟩⟩,⟨rfl,rfl,rfl,.inl ⟨rfl,p5 _⟩⟩,⟨rfl,rfl,rfl,.inr ⟨⟨rfl,⟨rfl,rfl,?_,fun h=>h⟩,trivial⟩,trivial⟩⟩,a8 rfl rfl rfl ?_ rfl,trivial⟩,⟨⟨rfl,rfl,rfl⟩,⟨rfl,rfl,rfl⟩,⟨rfl,rfl,rfl⟩,⟨rfl,⟨rfl,rfl,rfl⟩,trivial⟩,rfl,rfl,rfl,rfl,rfl,rfl,trivial⟩⟩
    ·rw [eK];simp
    ·rw [eK]
   have hje:j=n9 t.cleans kind k:=by omega
   subst hje
   conv=>whnf
   repeat' (first|refine zz ?_|refine zd ?_ ?_<;>intro h<;>try omega|refine zy ?_|fail)<;>conv=>whnf
   all_goals try omega
   exact ⟨hlt,trivial,[some 0,some 1,some 2,some 3],rfl,rfl,⟨⟨rfl,rfl,rfl,.inr ⟨⟨rfl,rfl,trivial⟩,trivial⟩⟩,⟨rfl,rfl,rfl,.inl ⟨rfl,p5 _⟩⟩,⟨rfl,rfl,rfl,.inr ⟨⟨rfl,⟨rfl,rfl,hKs.2,fun h=>h⟩,trivial⟩,trivial⟩⟩,a8 rfl rfl rfl hKs.1 rfl,trivial⟩,⟨⟨rfl,rfl,rfl⟩,⟨rfl,rfl,rfl⟩,⟨rfl,rfl,rfl⟩,⟨rfl,⟨rfl,rfl,rfl⟩,trivial⟩,rfl,rfl,rfl,trivial⟩⟩
  ·have hci:(a1o t.ev k).isSome=false:=by rw [iv];exact hc
   rw [hc] at hcr
   have hcr:P4 (G0 t.ev x) k=[]:=hcr
   have eR:R1=p9 t kind k:=by rw [hR1,hcr];simp only [decide_eq_false_iff_not,decide_eq_true_eq] at hb;simp [hb,List.append_assoc]
   have hRl:R1.length<=14500:=by rw [eR];(try simp);omega
   conv=>whnf
   repeat' (first|refine zz ?_|refine qp bn ?_|refine qp st ?_|refine qp toC ?_|refine qp toC ?_|refine d8 gk ?_|refine q9 (by simp [toC]) (by simp [toC];omega) ?_|refine zd ?_ ?_<;>intro h<;>try omega|refine zy ?_|fail)<;>conv=>whnf
   all_goals try omega
   all_goals try (rw [hci] at h;exact absurd h (by decide))
   refine f5 d7 (fun j=>([J,J,J,J,S.c (C.ptr 0 0 0),J,S.c (C.ptr 1 0 0),S.c (C.ptr 2 0 0),S.c (C.fn (Fn.func a7h) [C.ptr 2 0 0]),a7 .i64 k,S.c (C.ptr 4 0 0),J,J,J,J,J,J,J,J,J,J,J,J,J,J,J,J,J,J,J,J,J,J,J,S.c (C.t (a2m t kind)),a7 .i64 t.ev.moves.length,a7 .i64 k,J,J,J,J,J,J,J,J,J,J,J,J,J,J,J,J,J,J,J,J,J,J,J,J,S.c (C.t (L5 (j5 t.finds kind k))),a7 .i64 (j5 t.finds kind k).length,a7 .i64 j,J,J,J,J,J,J,J,J,J,J,J,J,J,J,J,J,J,J,J,J],[a1m,evB t.ev,a2R t.ev.moves.length 3 (G j).length,M9 (G j),au2 t kind k])) (j5 t.finds kind k).length (fun _=>True) [some 0,some 1,some 2,some 3,some 4] trivial ⟨rfl,rfl,⟨⟨rfl,rfl,rfl,.inr ⟨⟨rfl,rfl,trivial⟩,trivial⟩⟩,⟨rfl,rfl,rfl,.inl ⟨rfl,p5 _⟩⟩,⟨rfl,rfl,rfl,.inr ⟨⟨rfl,⟨rfl,rfl,?_,fun h=>h⟩,trivial⟩,trivial⟩⟩,a8 rfl rfl rfl ?_ rfl,⟨rfl,rfl,rfl,.inr (T6 [V8 t kind k])⟩,trivial⟩,⟨⟨rfl,rfl,rfl⟩,⟨rfl,rfl,rfl⟩,⟨rfl,rfl,rfl⟩,⟨rfl,⟨rfl,rfl,rfl⟩,trivial⟩,rfl,⟨rfl,rfl,rfl⟩,rfl,rfl,rfl,rfl,b9 (by simp),rfl,trivial⟩⟩ ?_
   ·simp [hG0,eR,toC]
   ·rw [hG0,eR]<;>rfl
   intro j hj _
   have hGl:(G j).length<=1000000:=by rw [hG];simp [List.length_append];omega
   by_cases hjt:j<(j5 t.finds kind k).length
   ·obtain ⟨g,hg⟩:∃g,(j5 t.finds kind k)[j]? =some g:=⟨_,lg0 hjt⟩
    have gb:=hgr g (lg2 hg)
    have ig:=N7 g (by omega) (by omega)
    have eG:G (j+1)=G j++[p7 k 0 (g:Rat)]:=by rw [hG,hG,List.take_add_one,hg];simp
    conv=>whnf
    repeat' (first|refine zz ?_|refine qp ig ?_|refine d8 hg ?_|refine .inr ⟨_,_,a0C (id:=3) rfl rfl rfl rfl rfl (by decide) hGl _ _,?_⟩|refine zd ?_ ?_<;>intro h<;>try omega|refine zy ?_|fail)<;>conv=>whnf
    all_goals try omega
    refine ⟨hjt,trivial,[some 0,some 1,some 2,some 5,some 4],rfl,rfl,⟨⟨rfl,rfl,rfl,.inr ⟨⟨rfl,rfl,trivial⟩,trivial⟩⟩,⟨rfl,rfl,rfl,.inl ⟨rfl,p5 _⟩⟩,⟨rfl,rfl,rfl,.inr ⟨⟨rfl,⟨rfl,rfl,?_,fun h=>h⟩,trivial⟩,trivial⟩⟩,a8 rfl rfl rfl ?_ rfl,⟨rfl,rfl,rfl,.inr (T6 [V8 t kind k])⟩,trivial⟩,⟨⟨rfl,rfl,rfl⟩,⟨rfl,rfl,rfl⟩,⟨rfl,rfl,rfl⟩,⟨rfl,⟨rfl,rfl,rfl⟩,trivial⟩,rfl,⟨rfl,rfl,rfl⟩,rfl,rfl,rfl,rfl,rfl,rfl,trivial⟩⟩
    ·rw [eG];simp
    ·rw [eG]
   have hje:j=(j5 t.finds kind k).length:=by omega
   subst hje
   have hGe:G (j5 t.finds kind k).length=R1++(j5 t.finds kind k).map (fun g:Int=>p7 k 0 (g:Rat)):=by rw [hG,lg4 (Nat.le_refl _)]
   conv=>whnf
   repeat' (first|refine zz ?_|refine zd ?_ ?_<;>intro h<;>try omega|refine zy ?_|fail)<;>conv=>whnf
   all_goals try omega
   refine f5 d7 (fun j=>([J,J,J,J,S.c (C.ptr 0 0 0),J,S.c (C.ptr 1 0 0),S.c (C.ptr 2 0 0),S.c (C.fn (Fn.func a7h) [C.ptr 2 0 0]),a7 .i64 k,J,J,J,J,J,J,J,J,J,J,J,J,J,J,J,J,J,J,J,J,J,J,J,J,S.c (C.t (a2m t kind)),a7 .i64 t.ev.moves.length,a7 .i64 k,J,J,J,J,J,J,J,J,J,J,J,J,J,J,J,J,J,J,J,J,J,J,J,J,J,J,J,J,J,J,J,J,J,J,J,J,J,a7 .i64 (n9 t.cleans kind k),a7 .i64 j,J,J,J,J,J,J,J,J],[a1m,evB t.ev,a2R t.ev.moves.length 3 (K j).length,M9 (K j)])) (n9 t.cleans kind k) (fun _=>True) [some 0,some 1,some 2,some 3] trivial ⟨rfl,rfl,⟨⟨rfl,rfl,rfl,.inr ⟨⟨rfl,rfl,trivial⟩,trivial⟩⟩,⟨rfl,rfl,rfl,.inl ⟨rfl,p5 _⟩⟩,⟨rfl,rfl,rfl,.inr ⟨⟨rfl,⟨rfl,rfl,?_,fun h=>h⟩,trivial⟩,trivial⟩⟩,a8 rfl rfl rfl ?_ rfl,trivial⟩,⟨⟨rfl,rfl,rfl⟩,⟨rfl,rfl,rfl⟩,⟨rfl,rfl,rfl⟩,⟨rfl,⟨rfl,rfl,rfl⟩,trivial⟩,rfl,rfl,rfl,rfl,rfl,rfl,trivial⟩⟩ ?_
   ·rw [hK0,hGe]
   ·rw [hK0,hGe]
   clear hj hjt
   intro j hj _
   have hKl:(K j).length<=1000000:=by rw [hK];simp [List.length_append];omega
   by_cases hjt:j<n9 t.cleans kind k
   ·have eK:K (j+1)=K j++[p7 k 2 ((0:Int):Rat)]:=by rw [hK,hK,List.replicate_succ'];simp
    conv=>whnf
    repeat' (first|refine zz ?_|refine qp i0 ?_|refine .inr ⟨_,_,a0C (id:=3) rfl rfl rfl rfl rfl (by decide) hKl _ _,?_⟩|refine zd ?_ ?_<;>intro h<;>try omega|refine zy ?_|fail)<;>conv=>whnf
    all_goals try omega
    refine ⟨hjt,trivial,[some 0,some 1,some 2,some 4],rfl,rfl,⟨⟨rfl,rfl,rfl,.inr ⟨⟨rfl,rfl,trivial⟩,trivial⟩⟩,⟨rfl,rfl,rfl,.inl ⟨rfl,p5 _⟩⟩,⟨rfl,rfl,rfl,.inr ⟨⟨rfl,⟨rfl,rfl,?_,fun h=>h⟩,trivial⟩,trivial⟩⟩,a8 rfl rfl rfl ?_ rfl,trivial⟩,⟨⟨rfl,rfl,rfl⟩,⟨rfl,rfl,rfl⟩,⟨rfl,rfl,rfl⟩,⟨rfl,⟨rfl,rfl,rfl⟩,trivial⟩,rfl,rfl,rfl,rfl,rfl,rfl,trivial⟩⟩
    ·rw [eK];simp
    ·rw [eK]
   have hje:j=n9 t.cleans kind k:=by omega
   subst hje
   conv=>whnf
   repeat' (first|refine zz ?_|refine zd ?_ ?_<;>intro h<;>try omega|refine zy ?_|fail)<;>conv=>whnf
   all_goals try omega
   exact ⟨hlt,trivial,[some 0,some 1,some 2,some 3],rfl,rfl,⟨⟨rfl,rfl,rfl,.inr ⟨⟨rfl,rfl,trivial⟩,trivial⟩⟩,⟨rfl,rfl,rfl,.inl ⟨rfl,p5 _⟩⟩,⟨rfl,rfl,rfl,.inr ⟨⟨rfl,⟨rfl,rfl,hKs.2,fun h=>h⟩,trivial⟩,trivial⟩⟩,a8 rfl rfl rfl hKs.1 rfl,trivial⟩,⟨⟨rfl,rfl,rfl⟩,⟨rfl,rfl,rfl⟩,⟨rfl,rfl,rfl⟩,⟨rfl,⟨rfl,rfl,rfl⟩,trivial⟩,rfl,rfl,rfl,trivial⟩⟩
  ·have hci:(a1o t.ev k).isSome=true:=by rw [iv];exact hc
   rw [hc] at hcr
   have hcr:P4 (G0 t.ev x) k=[p7 k 1 (hiR (G0 t.ev x))]:=hcr
   have eR:R1=(p9 t kind k++[w8 t.ev k x])++[p7 k 1 (hiR (G0 t.ev x))]:=by rw [hR1,hcr];simp only [decide_eq_false_iff_not,decide_eq_true_eq] at hb;simp [hb,List.append_assoc]
   have hRl:R1.length<=14500:=by rw [eR];(try simp);omega
   have hfv:hiF (a1o t.ev k)=fz (hiR (G0 t.ev x)):=by rw [iv];exact (af3 hc).1
   conv=>whnf
   repeat' (first|refine zz ?_|refine qp bn ?_|refine qp st ?_|refine qp toC ?_|refine qp toC ?_|refine d8 gk ?_|refine q9 (by simp [toC]) (by simp [toC];omega) ?_|refine .inr ⟨_,_,a0C (id:=5) hfv rfl rfl l5 r5 (by decide) b5 _ _,?_⟩|refine zd ?_ ?_<;>intro h<;>try omega|refine zy ?_|fail)<;>conv=>whnf
   all_goals try omega
   all_goals try (rw [hci] at h;exact absurd h (by decide))
   refine f5 d7 (fun j=>([J,J,J,J,S.c (C.ptr 0 0 0),J,S.c (C.ptr 1 0 0),S.c (C.ptr 2 0 0),S.c (C.fn (Fn.func a7h) [C.ptr 2 0 0]),a7 .i64 k,S.c (C.ptr 4 0 0),J,J,J,J,J,J,J,J,J,J,J,J,J,J,J,J,J,J,J,J,J,J,J,S.c (C.t (a2m t kind)),a7 .i64 t.ev.moves.length,a7 .i64 k,J,J,J,J,J,J,J,J,J,J,J,J,J,J,J,J,J,J,J,J,J,J,J,J,S.c (C.t (L5 (j5 t.finds kind k))),a7 .i64 (j5 t.finds kind k).length,a7 .i64 j,J,J,J,J,J,J,J,J,J,J,J,J,J,J,J,J,J,J,J,J],[a1m,evB t.ev,a2R t.ev.moves.length 3 (G j).length,M9 (G j),au2 t kind k])) (j5 t.finds kind k).length (fun _=>True) [some 0,some 1,some 2,some 6,some 4] trivial ⟨rfl,rfl,⟨⟨rfl,rfl,rfl,.inr ⟨⟨rfl,rfl,trivial⟩,trivial⟩⟩,⟨rfl,rfl,rfl,.inl ⟨rfl,p5 _⟩⟩,⟨rfl,rfl,rfl,.inr ⟨⟨rfl,⟨rfl,rfl,?_,fun h=>h⟩,trivial⟩,trivial⟩⟩,a8 rfl rfl rfl ?_ rfl,⟨rfl,rfl,rfl,.inr (T6 [V8 t kind k])⟩,trivial⟩,⟨⟨rfl,rfl,rfl⟩,⟨rfl,rfl,rfl⟩,⟨rfl,rfl,rfl⟩,⟨rfl,⟨rfl,rfl,rfl⟩,trivial⟩,rfl,⟨rfl,rfl,rfl⟩,rfl,rfl,rfl,rfl,b9 (by simp),rfl,trivial⟩⟩ ?_
   ·simp [hG0,eR,toC]
   ·rw [hG0,eR]<;>rfl
   intro j hj _
   have hGl:(G j).length<=1000000:=by rw [hG];simp [List.length_append];omega
   by_cases hjt:j<(j5 t.finds kind k).length
   ·obtain ⟨g,hg⟩:∃g,(j5 t.finds kind k)[j]? =some g:=⟨_,lg0 hjt⟩
    have gb:=hgr g (lg2 hg)
    have ig:=N7 g (by omega) (by omega)
    have eG:G (j+1)=G j++[p7 k 0 (g:Rat)]:=by rw [hG,hG,List.take_add_one,hg];simp
    conv=>whnf
    repeat' (first|refine zz ?_|refine qp ig ?_|refine d8 hg ?_|refine .inr ⟨_,_,a0C (id:=3) rfl rfl rfl rfl rfl (by decide) hGl _ _,?_⟩|refine zd ?_ ?_<;>intro h<;>try omega|refine zy ?_|fail)<;>conv=>whnf
    all_goals try omega
    refine ⟨hjt,trivial,[some 0,some 1,some 2,some 5,some 4],rfl,rfl,⟨⟨rfl,rfl,rfl,.inr ⟨⟨rfl,rfl,trivial⟩,trivial⟩⟩,⟨rfl,rfl,rfl,.inl ⟨rfl,p5 _⟩⟩,⟨rfl,rfl,rfl,.inr ⟨⟨rfl,⟨rfl,rfl,?_,fun h=>h⟩,trivial⟩,trivial⟩⟩,a8 rfl rfl rfl ?_ rfl,⟨rfl,rfl,rfl,.inr (T6 [V8 t kind k])⟩,trivial⟩,⟨⟨rfl,rfl,rfl⟩,⟨rfl,rfl,rfl⟩,⟨rfl,rfl,rfl⟩,⟨rfl,⟨rfl,rfl,rfl⟩,trivial⟩,rfl,⟨rfl,rfl,rfl⟩,rfl,rfl,rfl,rfl,rfl,rfl,trivial⟩⟩
    ·rw [eG];simp
    ·rw [eG]
   have hje:j=(j5 t.finds kind k).length:=by omega
   subst hje
   have hGe:G (j5 t.finds kind k).length=R1++(j5 t.finds kind k).map (fun g:Int=>p7 k 0 (g:Rat)):=by rw [hG,lg4 (Nat.le_refl _)]
   conv=>whnf
   repeat' (first|refine zz ?_|refine zd ?_ ?_<;>intro h<;>try omega|refine zy ?_|fail)<;>conv=>whnf
   all_goals try omega
   refine f5 d7 (fun j=>([J,J,J,J,S.c (C.ptr 0 0 0),J,S.c (C.ptr 1 0 0),S.c (C.ptr 2 0 0),S.c (C.fn (Fn.func a7h) [C.ptr 2 0 0]),a7 .i64 k,J,J,J,J,J,J,J,J,J,J,J,J,J,J,J,J,J,J,J,J,J,J,J,J,S.c (C.t (a2m t kind)),a7 .i64 t.ev.moves.length,a7 .i64 k,J,J,J,J,J,J,J,J,J,J,J,J,J,J,J,J,J,J,J,J,J,J,J,J,J,J,J,J,J,J,J,J,J,J,J,J,J,a7 .i64 (n9 t.cleans kind k),a7 .i64 j,J,J,J,J,J,J,J,J],[a1m,evB t.ev,a2R t.ev.moves.length 3 (K j).length,M9 (K j)])) (n9 t.cleans kind k) (fun _=>True) [some 0,some 1,some 2,some 3] trivial ⟨rfl,rfl,⟨⟨rfl,rfl,rfl,.inr ⟨⟨rfl,rfl,trivial⟩,trivial⟩⟩,⟨rfl,rfl,rfl,.inl ⟨rfl,p5 _⟩⟩,⟨rfl,rfl,rfl,.inr ⟨⟨rfl,⟨rfl,rfl,?_,fun h=>h⟩,trivial⟩,trivial⟩⟩,a8 rfl rfl rfl ?_ rfl,trivial⟩,⟨⟨rfl,rfl,rfl⟩,⟨rfl,rfl,rfl⟩,⟨rfl,rfl,rfl⟩,⟨rfl,⟨rfl,rfl,rfl⟩,trivial⟩,rfl,rfl,rfl,rfl,rfl,rfl,trivial⟩⟩ ?_
   ·rw [hK0,hGe]
   ·rw [hK0,hGe]
   clear hj hjt
   intro j hj _
   have hKl:(K j).length<=1000000:=by rw [hK];simp [List.length_append];omega
   by_cases hjt:j<n9 t.cleans kind k
   ·have eK:K (j+1)=K j++[p7 k 2 ((0:Int):Rat)]:=by rw [hK,hK,List.replicate_succ'];simp
    conv=>whnf
    repeat' (first|refine zz ?_|refine qp i0 ?_|refine .inr ⟨_,_,a0C (id:=3) rfl rfl rfl rfl rfl (by decide) hKl _ _,?_⟩|refine zd ?_ ?_<;>intro h<;>try omega|refine zy ?_|fail)<;>conv=>whnf
    all_goals try omega
    refine ⟨hjt,trivial,[some 0,some 1,some 2,some 4],rfl,rfl,⟨⟨rfl,rfl,rfl,.inr ⟨⟨rfl,rfl,trivial⟩,trivial⟩⟩,⟨rfl,rfl,rfl,.inl ⟨rfl,p5 _⟩⟩,⟨rfl,rfl,rfl,.inr ⟨⟨rfl,⟨rfl,rfl,?_,fun h=>h⟩,trivial⟩,trivial⟩⟩,a8 rfl rfl rfl ?_ rfl,trivial⟩,⟨⟨rfl,rfl,rfl⟩,⟨rfl,rfl,rfl⟩,⟨rfl,rfl,rfl⟩,⟨rfl,⟨rfl,rfl,rfl⟩,trivial⟩,rfl,rfl,rfl,rfl,rfl,rfl,trivial⟩⟩
    ·rw [eK];simp
    ·rw [eK]
   have hje:j=n9 t.cleans kind k:=by omega
   subst hje
   conv=>whnf
   repeat' (first|refine zz ?_|refine zd ?_ ?_<;>intro h<;>try omega|refine zy ?_|fail)<;>conv=>whnf
   all_goals try omega
   exact ⟨hlt,trivial,[some 0,some 1,some 2,some 3],rfl,rfl,⟨⟨rfl,rfl,rfl,.inr ⟨⟨rfl,rfl,trivial⟩,trivial⟩⟩,⟨rfl,rfl,rfl,.inl ⟨rfl,p5 _⟩⟩,⟨rfl,rfl,rfl,.inr ⟨⟨rfl,⟨rfl,rfl,hKs.2,fun h=>h⟩,trivial⟩,trivial⟩⟩,a8 rfl rfl rfl hKs.1 rfl,trivial⟩,⟨⟨rfl,rfl,rfl⟩,⟨rfl,rfl,rfl⟩,⟨rfl,rfl,rfl⟩,⟨rfl,⟨rfl,rfl,rfl⟩,trivial⟩,rfl,rfl,rfl,trivial⟩⟩
  ·have hci:(a1o t.ev k).isSome=true:=by rw [iv];exact hc
   rw [hc] at hcr
   have hcr:P4 (G0 t.ev x) k=[p7 k 1 (hiR (G0 t.ev x))]:=hcr
   have eR:R1=p9 t kind k++[p7 k 1 (hiR (G0 t.ev x))]:=by rw [hR1,hcr];simp only [decide_eq_false_iff_not,decide_eq_true_eq] at hb;simp [hb,List.append_assoc]
   have hRl:R1.length<=14500:=by rw [eR];(try simp);omega
   have hfv:hiF (a1o t.ev k)=fz (hiR (G0 t.ev x)):=by rw [iv];exact (af3 hc).1
   conv=>whnf
   repeat' (first|refine zz ?_|refine qp bn ?_|refine qp st ?_|refine qp toC ?_|refine qp toC ?_|refine d8 gk ?_|refine q9 (by simp [toC]) (by simp [toC];omega) ?_|refine .inr ⟨_,_,a0C (id:=3) hfv rfl rfl rfl rfl (by decide) b3 _ _,?_⟩|refine zd ?_ ?_<;>intro h<;>try omega|refine zy ?_|fail)<;>conv=>whnf
   all_goals try omega
   all_goals try (rw [hci] at h;exact absurd h (by decide))
   refine f5 d7 (fun j=>([J,J,J,J,S.c (C.ptr 0 0 0),J,S.c (C.ptr 1 0 0),S.c (C.ptr 2 0 0),S.c (C.fn (Fn.func a7h) [C.ptr 2 0 0]),a7 .i64 k,S.c (C.ptr 4 0 0),J,J,J,J,J,J,J,J,J,J,J,J,J,J,J,J,J,J,J,J,J,J,J,S.c (C.t (a2m t kind)),a7 .i64 t.ev.moves.length,a7 .i64 k,J,J,J,J,J,J,J,J,J,J,J,J,J,J,J,J,J,J,J,J,J,J,J,J,S.c (C.t (L5 (j5 t.finds kind k))),a7 .i64 (j5 t.finds kind k).length,a7 .i64 j,J,J,J,J,J,J,J,J,J,J,J,J,J,J,J,J,J,J,J,J],[a1m,evB t.ev,a2R t.ev.moves.length 3 (G j).length,M9 (G j),au2 t kind k])) (j5 t.finds kind k).length (fun _=>True) [some 0,some 1,some 2,some 5,some 4] trivial ⟨rfl,rfl,⟨⟨rfl,rfl,rfl,.inr ⟨⟨rfl,rfl,trivial⟩,trivial⟩⟩,⟨rfl,rfl,rfl,.inl ⟨rfl,p5 _⟩⟩,⟨rfl,rfl,rfl,.inr ⟨⟨rfl,⟨rfl,rfl,?_,fun h=>h⟩,trivial⟩,trivial⟩⟩,a8 rfl rfl rfl ?_ rfl,⟨rfl,rfl,rfl,.inr (T6 [V8 t kind k])⟩,trivial⟩,⟨⟨rfl,rfl,rfl⟩,⟨rfl,rfl,rfl⟩,⟨rfl,rfl,rfl⟩,⟨rfl,⟨rfl,rfl,rfl⟩,trivial⟩,rfl,⟨rfl,rfl,rfl⟩,rfl,rfl,rfl,rfl,b9 (by simp),rfl,trivial⟩⟩ ?_
   ·simp [hG0,eR,toC]
   ·rw [hG0,eR]<;>rfl
   intro j hj _
   have hGl:(G j).length<=1000000:=by rw [hG];simp [List.length_append];omega
   by_cases hjt:j<(j5 t.finds kind k).length
   ·obtain ⟨g,hg⟩:∃g,(j5 t.finds kind k)[j]? =some g:=⟨_,lg0 hjt⟩
    have gb:=hgr g (lg2 hg)
    have ig:=N7 g (by omega) (by omega)
    have eG:G (j+1)=G j++[p7 k 0 (g:Rat)]:=by rw [hG,hG,List.take_add_one,hg];simp
    conv=>whnf
    repeat' (first|refine zz ?_|refine qp ig ?_|refine d8 hg ?_|refine .inr ⟨_,_,a0C (id:=3) rfl rfl rfl rfl rfl (by decide) hGl _ _,?_⟩|refine zd ?_ ?_<;>intro h<;>try omega|refine zy ?_|fail)<;>conv=>whnf
    all_goals try omega
    refine ⟨hjt,trivial,[some 0,some 1,some 2,some 5,some 4],rfl,rfl,⟨⟨rfl,rfl,rfl,.inr ⟨⟨rfl,rfl,trivial⟩,trivial⟩⟩,⟨rfl,rfl,rfl,.inl ⟨rfl,p5 _⟩⟩,⟨rfl,rfl,rfl,.inr ⟨⟨rfl,⟨rfl,rfl,?_,fun h=>h⟩,trivial⟩,trivial⟩⟩,a8 rfl rfl rfl ?_ rfl,⟨rfl,rfl,rfl,.inr (T6 [V8 t kind k])⟩,trivial⟩,⟨⟨rfl,rfl,rfl⟩,⟨rfl,rfl,rfl⟩,⟨rfl,rfl,rfl⟩,⟨rfl,⟨rfl,rfl,rfl⟩,trivial⟩,rfl,⟨rfl,rfl,rfl⟩,rfl,rfl,rfl,rfl,rfl,rfl,trivial⟩⟩
    ·rw [eG];simp
    ·rw [eG]
   have hje:j=(j5 t.finds kind k).length:=by omega
   subst hje
   have hGe:G (j5 t.finds kind k).length=R1++(j5 t.finds kind k).map (fun g:Int=>p7 k 0 (g:Rat)):=by rw [hG,lg4 (Nat.le_refl _)]
   conv=>whnf
   repeat' (first|refine zz ?_|refine zd ?_ ?_<;>intro h<;>try omega|refine zy ?_|fail)<;>conv=>whnf
   all_goals try omega
   refine f5 d7 (fun j=>([J,J,J,J,S.c (C.ptr 0 0 0),J,S.c (C.ptr 1 0 0),S.c (C.ptr 2 0 0),S.c (C.fn (Fn.func a7h) [C.ptr 2 0 0]),a7 .i64 k,J,J,J,J,J,J,J,J,J,J,J,J,J,J,J,J,J,J,J,J,J,J,J,J,S.c (C.t (a2m t kind)),a7 .i64 t.ev.moves.length,a7 .i64 k,J,J,J,J,J,J,J,J,J,J,J,J,J,J,J,J,J,J,J,J,J,J,J,J,J,J,J,J,J,J,J,J,J,J,J,J,J,a7 .i64 (n9 t.cleans kind k),a7 .i64 j,J,J,J,J,J,J,J,J],[a1m,evB t.ev,a2R t.ev.moves.length 3 (K j).length,M9 (K j)])) (n9 t.cleans kind k) (fun _=>True) [some 0,some 1,some 2,some 3] trivial ⟨rfl,rfl,⟨⟨rfl,rfl,rfl,.inr ⟨⟨rfl,rfl,trivial⟩,trivial⟩⟩,⟨rfl,rfl,rfl,.inl ⟨rfl,p5 _⟩⟩,⟨rfl,rfl,rfl,.inr ⟨⟨rfl,⟨rfl,rfl,?_,fun h=>h⟩,trivial⟩,trivial⟩⟩,a8 rfl rfl rfl ?_ rfl,trivial⟩,⟨⟨rfl,rfl,rfl⟩,⟨rfl,rfl,rfl⟩,⟨rfl,rfl,rfl⟩,⟨rfl,⟨rfl,rfl,rfl⟩,trivial⟩,rfl,rfl,rfl,rfl,rfl,rfl,trivial⟩⟩ ?_
   ·rw [hK0,hGe]
   ·rw [hK0,hGe]
   clear hj hjt
   intro j hj _
   have hKl:(K j).length<=1000000:=by rw [hK];simp [List.length_append];omega
   by_cases hjt:j<n9 t.cleans kind k
   ·have eK:K (j+1)=K j++[p7 k 2 ((0:Int):Rat)]:=by rw [hK,hK,List.replicate_succ'];simp
    conv=>whnf
    repeat' (first|refine zz ?_|refine qp i0 ?_|refine .inr ⟨_,_,a0C (id:=3) rfl rfl rfl rfl rfl (by decide) hKl _ _,?_⟩|refine zd ?_ ?_<;>intro h<;>try omega|refine zy ?_|fail)<;>conv=>whnf
    all_goals try omega
    refine ⟨hjt,trivial,[some 0,some 1,some 2,some 4],rfl,rfl,⟨⟨rfl,rfl,rfl,.inr ⟨⟨rfl,rfl,trivial⟩,trivial⟩⟩,⟨rfl,rfl,rfl,.inl ⟨rfl,p5 _⟩⟩,⟨rfl,rfl,rfl,.inr ⟨⟨rfl,⟨rfl,rfl,?_,fun h=>h⟩,trivial⟩,trivial⟩⟩,a8 rfl rfl rfl ?_ rfl,trivial⟩,⟨⟨rfl,rfl,rfl⟩,⟨rfl,rfl,rfl⟩,⟨rfl,rfl,rfl⟩,⟨rfl,⟨rfl,rfl,rfl⟩,trivial⟩,rfl,rfl,rfl,rfl,rfl,rfl,trivial⟩⟩
    ·rw [eK];simp
    ·rw [eK]
   have hje:j=n9 t.cleans kind k:=by omega
   subst hje
   conv=>whnf
   repeat' (first|refine zz ?_|refine zd ?_ ?_<;>intro h<;>try omega|refine zy ?_|fail)<;>conv=>whnf
   all_goals try omega
   exact ⟨hlt,trivial,[some 0,some 1,some 2,some 3],rfl,rfl,⟨⟨rfl,rfl,rfl,.inr ⟨⟨rfl,rfl,trivial⟩,trivial⟩⟩,⟨rfl,rfl,rfl,.inl ⟨rfl,p5 _⟩⟩,⟨rfl,rfl,rfl,.inr ⟨⟨rfl,⟨rfl,rfl,hKs.2,fun h=>h⟩,trivial⟩,trivial⟩⟩,a8 rfl rfl rfl hKs.1 rfl,trivial⟩,⟨⟨rfl,rfl,rfl⟩,⟨rfl,rfl,rfl⟩,⟨rfl,rfl,rfl⟩,⟨rfl,⟨rfl,rfl,rfl⟩,trivial⟩,rfl,rfl,rfl,trivial⟩⟩
 ·have hke:k=t.ev.moves.length:=by omega
  subst hke
  conv=>whnf
  repeat' (first|refine zz ?_|refine zd ?_ ?_<;>intro h<;>try omega|refine zy ?_|fail)<;>conv=>whnf
  all_goals try omega
  exact ⟨[some 3],rfl,rfl,⟨a8 (rows:=(p9 t kind t.ev.moves.length).map z6) rfl rfl rfl rfl rfl,trivial⟩,⟨⟨rfl,⟨rfl,rfl,rfl,fun h=>h⟩,trivial⟩,rfl,trivial⟩⟩
theorem C9 {α:Type} {f:α->List T} {l:List α} {x:α} {n:Nat} (h:n=l.length):List.take n (toC (l.map f))++toC [f x]=toC ((l++[x]).map f):=by
 rw [lg4 (by simp [toC,h])]
 simp [toC]
def Z4 (l:List (Int × Rat)) (f:Rat):List (Int × Rat):=l.map fun t=>(t.1,t.2*f)
theorem a8r (l:List (Int × Rat)) (f:Rat) {k:Nat} {t:Int × Rat} (h:l[k]? =some t):(Z4 l f).take (k+1)=(Z4 l f).take k++[(t.1,t.2*f)]:=by
 rw [List.take_add_one]
 congr 1
 unfold Z4
 rw [List.getElem?_map,h];rfl
theorem a1z (l:List (Int × Rat)) (f:Rat):(Z4 l f).length=l.length:=by simp [Z4]
set_option maxHeartbeats 2000000 in
theorem b5I (l:List (Int × Rat)) (f:Rat) (hf:f≠0) (hr:g9 (-1) 1500 l=true) (hb:∀t ∈ l,rl t.2<=200) (hfb:rl f<=200):
 a9 Tryz.prog 164 [s6 l,frS (fz f)] [] (s6 (Z4 l f)) []:=by
 have hl:=E0 hr
 have m1:(l.map j9).length=l.length:=by simp
 have rt:=P3 l 1500 (by omega) hb
 rw [decide_eq_true (by omega),hr] at rt
 have sg:=a35 f (by omega)
 have sz:=a6I (x:=f)
 have hs0:sgR f≠0:=fun h=>hf (sz.1 h)
 (refine ac Tryz.func164 ?_;(conv=>whnf);repeat ((first|refine b0x ?_|refine zy ?_);conv=>whnf))
 repeat' (first|refine zz ?_|refine qp rt ?_|refine qp sg ?_|refine zd ?_ ?_<;>intro h<;>try omega|refine zy ?_|fail)<;>conv=>whnf
 all_goals try omega
 all_goals try (exfalso;simp_all;done)
 refine f5 d7 (fun k=>([J,J,J,S.c (C.t (T.ptr (s7 (fz f)))),J,S.c (C.own 0 0 k true),J,J,J,J,J,J,J,J,J,J,J,J,s6 l,a7 .i64 l.length,a7 .i64 k,J,J,J,J,J,J,J,J,J,J,J,J,J,J,J,J,J,J,J],[R6 ((Z4 l f).take k)])) l.length (fun _=>True) [none] trivial
  ⟨rfl,rfl,⟨⟨rfl,rfl⟩,trivial⟩,⟨i7 rfl,⟨rfl,rfl,rfl⟩,i7 rfl,b9 (by omega),b9 rfl,trivial⟩⟩ ?_
 intro k hk _
 by_cases hlt:k<l.length
 ·obtain ⟨t,ht⟩:∃t,l[k]? =some t:=⟨_,lg0 hlt⟩
  have bt:=hb t (lg2 ht)
  have mu:=ad8 t.2 f (by omega) (by omega)
  have lk:((Z4 l f).take k).length=k:=by rw [List.length_take,a1z];omega
  have lA:k<=(R6 ((Z4 l f).take k)).rows.length:=by show k<=(toC _).length;simp [toC,a1z];omega
  conv=>whnf
  repeat' (first|refine zz ?_|refine qp mu ?_|refine qp toC ?_|refine qp 6 ?_|refine d8 ht ?_|refine q9 lA (by simp [toC];omega) ?_|refine bl0 [6] ?_|refine zd ?_ ?_<;>intro h<;>try omega|refine zy ?_|fail)<;>conv=>whnf
  all_goals first
   |omega
   |(refine ⟨hlt,trivial,[some 3],rfl,rfl,⟨a8 (rows:=((Z4 l f).take (k+1)).map j9) rfl rfl rfl ?_ rfl,trivial⟩,⟨rfl,⟨rfl,rfl,rfl,fun h=>h⟩,rfl,rfl,b9 (by omega),trivial⟩⟩
     rw [a8r l f ht]
     exact C9 (f:=j9) (x:=(t.1,t.2*f)) lk.symm)
 ·have hke:k=l.length:=by omega
  subst hke
  conv=>whnf
  repeat' (first|refine zz ?_|refine zd ?_ ?_<;>intro h<;>try omega|refine zy ?_|fail)<;>conv=>whnf
  all_goals first
   |omega
   |exact T7 rfl (fun h=>h) rfl (by rw [lg4 (by rw [a1z];exact Nat.le_refl _)]) (by simp [a1z])
theorem a2b {n n':Int} (h:n<=n'):∀{last:Int} {l:List (Int × Rat)},g9 last n l=true->g9 last n' l=true
 |_,[],_=>rfl
 |last,a::r,hr=>by
  unfold g9 at hr ⊢
  simp only [Bool.and_eq_true,decide_eq_true_eq] at hr ⊢
  exact ⟨⟨⟨hr.1.1.1,by omega⟩,hr.1.2⟩,a2b h hr.2⟩
def R4 (l:List (Int × Rat)):List (Int × Rat):=Z4 l ((-1:Int):Rat)
theorem a7n (l:List Fr) (h0:0<l.length) (h1:l.length<=100000):a9 Tryz.prog 205 [n6 l] [] (.c (.own 0 0 l.length true)) [flB l]:=by
 have m1:(l.map s7).length=l.length:=by simp
 have hl:0<(l.map s7).length:=by omega
 (refine ac Tryz.func205 ?_;(conv=>whnf);repeat (refine zy ?_;conv=>whnf))
 repeat' (first|refine zz ?_|refine qp (toC,List.length_map,List.length_nil) ?_|refine qp (toC,List.length_map) ?_|refine ⟨hl,?_⟩|refine zz ?_|refine a2Y rfl (by simp only [toC,List.length_map,List.length_nil];omega) ?_|refine q9 (Nat.zero_le _) (by simp only [toC,List.length_map];omega) ?_|refine zd ?_ ?_<;>intro h<;>try omega|refine zy ?_|fail)<;>conv=>whnf
 all_goals first
  |omega
  |exact ⟨[some 0],rfl,rfl,⟨a8 (rows:=l.map s7) rfl rfl rfl rfl rfl,trivial⟩,⟨rfl,rfl,by simp [toC],fun h=>h⟩⟩
def smF (a b:Nat->Rat) (k:Nat):Nat->Rat:=fun j=>if j<k then a j+b j else a j
theorem a6f {P:Program} {g:FuncId} {args:List S} {H:Hp} {b:Blk} {cs:List C} {s2:S} {j lo len:Nat} {app:Bool} (h:a9 P g args [] (.tup [.agg cs,s2]) [b]) (ha:args.all S.isT=true) (hm:b.mode=.live) (hb:K2 b.rows)
 (hf:aL3 (.tup [.agg cs,s2])=true) (hj:cs[j]? =some (.own 0 lo len app)):X7 P g args H (a75 [H.length] (.tup [.agg cs,s2])) [b]:=by
 refine ⟨h.1,fun w ι M vals hl hv hH hM hf0=>?_⟩
 have:=h.2 w (fun _=>none) M vals hl (fun j s hj=>(hv j s hj).tree (List.all_eq_true.1 ha s (lg2 hj)))
  ⟨by simp,by simp,by simp,by simp,by simp⟩ hM (fun _ _=>rfl)
 refine Calls.mono this ?_
 rintro e w' ⟨v,rfl,ι',M',h1,h2,h3,h4,h5⟩
 have hnl:∀x,¬a3k (fun _=>none) ([]:Hp) x:=by rintro x ⟨id,k,_,_,hk,_⟩;simp at hk
 obtain ⟨l,hl0⟩:∃l,ι' 0=some l:=by
  cases h1 with
  |tup vs hl hr=>
   have h0:=hr 0 _ rfl
   generalize vs.getD 0 undef=v0 at h0
   cases h0 with
   |agg us hl hr=>
    have h9:=hr j _ hj
    generalize us.getD j undef=v9 at h9
    cases h9 with
    |own hi=>exact ⟨_,hi⟩
    |nil hi=>exact ⟨_,hi⟩
 have hnew:B1 ι H.length [b].length (fun _=>l) H.length=some l:=by unfold B1;simp
 have hMM:∀x,a3Y M [b].length (fun _=>l) x->M' x:=by
  intro x hx
  rcases hx with hx|⟨k,hk,cap,size,he⟩
  ·rcases h5.mold x hx with h|h
   ·exact h
   ·exact absurd h (hnl x)
  ·have he:l=.blk x cap size:=he
   subst he
   exact h2.liv 0 b rfl hm x cap size hl0
 refine ⟨v,rfl,fun _=>l,?_,⟨h5.os,h5.tape,h5.output,h5.size,fun x hx=>h5.keep x hx (hnl x)⟩,?_,?_,?_⟩
 ·refine RS.keep (w:=w') (ι:=B1 ι H.length [b].length (fun _=>l)) (M:=M') (fun _ _ _=>rfl) (fun x hx=>.inl (hMM x hx)) (fun _ _ h=>h) (RS.ren (σ:=[H.length]) (fun id l' hi=>?_) hf h1)
  rcases id with _|id
  ·rw [hl0] at hi;injection hi with hi;subst hi;exact hnew
  ·rw [h4 (id+1) (by simp)] at hi;cases hi
 ·intro k blk hk
  cases k with
  |succ k=>simp at hk
  |zero=>
   simp at hk
   subst hk
   refine ⟨hm,?_⟩
   have hbr:=h2.blk 0 b rfl (by rw [hm];intro h;cases h) l hl0
   cases l with
   |nil=>exact hbr
   |blk x cap size=>
    obtain ⟨r1,r2,r3,r4,r5,cur,r6,r7,r8⟩:=hbr
    refine ⟨r1,r2,r3,r4,r5,cur,r6,r7,fun i j c hc=>?_⟩
    obtain ⟨u,u1,u2⟩:=r8 i j c hc
    exact ⟨u,u1,ag6 hMM hb hc u2⟩
 ·intro k x cap size hk he
  have he:l=.blk x cap size:=he
  subst he
  refine ⟨?_,h3 x (h2.liv 0 b rfl hm x cap size hl0)⟩
  rcases h5.live x ⟨0,b,cap,size,rfl,hm,hl0⟩ with h|h
  ·exact absurd h (hnl x)
  ·exact h
 ·intro k k' x cap size cap' size' hk hk' _ _
  simp at hk hk'
  omega
structure b7S where
 hh:Int
 state:Int
 w:List Rat
 wo:List Rat
 pr:List Rat
def b7S.row (v:b7S):List T:=[ti v.hh,ti v.state,F2 (v.w.map fz),F2 (v.wo.map fz),F2 (v.pr.map fz)]
theorem a61 {x:Rat}:sgR x > 0↔0<x:=by unfold sgR;split<;>(try split)<;>simp_all<;>grind
theorem b2C {x:Rat}:sgR x<0↔x<0:=by unfold sgR;split<;>(try split)<;>simp_all
theorem b4C {s:g8} {g:List (Int × Rat)} {n B:Nat} (h:K3 s g n B):∀v ∈ B8 s g,rl v<=17000:=by
 intro v hv
 have hb:=ac6 h
 have hn:=h.nn
 have hB:=h.bb
 obtain ⟨j,hj,rfl⟩:=a4S hv
 have hp:a0a (g4 s).length s.n.toNat (z9 s g):=S4.p
 rw [hn] at hj hp ⊢
 rw [← aT0 hp hj]
 have key:∀k,k<=(g4 s).length->rl (ptK n (z9 s g).O (z9 s g).V (fun _=>0) k j)<=17000:=by
  intro k
  induction k with
  |zero=>intro _;have:=rl0;show rl 0<=_;omega
  |succ k ih=>
   intro hk
   rw [S0]
   simp only
   split
   ·have:=hb.v k (by omega);omega
   ·exact ih (by omega)
 exact key _ (Nat.le_refl _)
theorem b8F {s:g8} {g:List (Int × Rat)} {n B:Nat} (h:K3 s g n B) (hout:a0W s g=.best) (hS:∀k,rl (k9 (g.take k) (B8 s g))<=50000) (H:Hp):
 X7 Tryz.prog 130 [a0U s,s6 g] H (.tup [.agg (C.t (ti 0)::frC (fz (k9 g (B8 s g)))++[.t (F2 ((B8 s g).map fz)),.own H.length 0 s.rows.length true,.t (.sl 0 .nil [])]),a7 .i64 0]) [flB (rF s.rows.length (Q9 s (z9 s g)))]:=
 a6f (j:=6) (lo:=0) (len:=s.rows.length) (app:=true) (az4 s g n B h hout (fun k=>by have:=hS k;omega) (fun v hv=>by have:=b4C h v hv;omega)) rfl rfl (d6 _) rfl rfl
theorem b6L {s:g8} {g:List (Int × Rat)} {n B B0 c:Nat} (h:K3 s g n B) (h0:K3 s [] n B0) (hout:a0W s g=.col c) (hout0:a0W s []=.best) (H:Hp):
 X7 Tryz.prog 130 [a0U s,s6 g] H (.tup [.agg (C.t (ti 2)::b92++[.t (F2 ((B8 s []).map fz)),.t (.sl 0 .nil []),.t (F2 ((a5p s g c).map fz))]),a7 .i64 0]) []:=
 B7 (at1 s g n B B0 c h h0 hout hout0) rfl rfl
structure b9y where
 mv:Int
 mat:Int
def b9y.row (p:b9y):List T:=[ti p.mv,ti p.mat]
theorem a5G (l:List Int) (hl:l.length<=1000000):a9 Tryz.prog 246 [e7 l] [] (e7 (I0 l)) []:=by
 have l2:(l.map f8).length=l.length:=by simp
 (refine ac Tryz.func246 ?_;(conv=>whnf);repeat (refine zy ?_;conv=>whnf))
 repeat' (first|refine zz ?_|refine zd ?_ ?_<;>intro h<;>try omega|refine zy ?_|fail)<;>conv=>whnf
 refine o5 d7 (σ:=Nat) (fun n=>([e7 l,J,J,a7 .i64 n,J,J,J,J,J,J,J,J,J,J,J,J,J,J,J,J,J,J,J],[])) (fun n=>n<=l.length∧∀j x,n<=j->l[j]? =some x->x=0) (fun n=>n) l.length []
  ⟨Nat.le_refl _,fun j x hj hx=>by rw [List.getElem?_eq_none hj] at hx;cases hx⟩ ⟨rfl,rfl,trivial,⟨i7 rfl,b9 (by simp),trivial⟩⟩ ?_
 rintro n ⟨hn,hz⟩
 have hn:n<=l.length:=hn
 conv=>whnf
 repeat' (first|refine zz ?_|refine qp toC ?_|refine qp toC ?_|refine a3W.own ?_|refine o7 (by omega) (a1M (by omega) hn) ?_|refine a41 (by omega) (by omega) (by omega) ?_|refine q9 (by simp [toC]) (by simp [toC];omega) ?_|refine zd ?_ ?_<;>intro h<;>try omega|refine zy ?_|fail)<;>conv=>whnf
 ·have h0:dat l (n - 1)=0:=by assumption
  have h1:0<n:=by omega
  refine ⟨[],n - 1,⟨rfl,rfl,trivial,⟨rfl,b9 (by omega),trivial⟩⟩,⟨by omega,fun j x hj hxj=>?_⟩,by show n - 1<n;omega⟩
  by_cases hj2:j=n - 1
  ·subst hj2;rw [w5 (by omega)] at hxj;injection hxj with hx;rw [← hx];exact h0
  ·exact hz j x (by omega) hxj
 all_goals
  have e:l.take n=I0 l:=a37 hz (fun x h0 hx=>by
   first
    |omega
    |(rw [w5 (by omega)] at hx;injection hx with hx;rw [← hx];assumption)) hn
  rw [← e]
  refine T7 rfl (by intro h;cases h) rfl ?_ ?_
  ·simp [toC,C4,List.map_take]
  ·simp [toC]
theorem b8C (s:Int) (l:List Int) (hl:l.length<=1000000):a9 Tryz.prog 183 [a7 .i64 s,e7 l] [] (bgS (sgn s l)) []:=by
 (refine ac Tryz.func183 ?_;(conv=>whnf);repeat (refine zy ?_;conv=>whnf))
 repeat' (first|refine zz ?_|refine qp (a5G l hl) ?_|refine zd ?_ ?_<;>intro h<;>try omega|refine zy ?_|fail)<;>conv=>whnf
 ·have h0:(I0 l).length=0:=by simp at *;assumption
  unfold sgn
  rw [if_pos h0]
  exact k8 ⟨rfl,rfl,trivial⟩
 ·have h0:¬(I0 l).length=0:=by simp at *;assumption
  unfold sgn
  rw [if_neg h0]
  exact k8 ⟨rfl,rfl,trivial⟩
theorem J8 (s:Int) (k:Nat) (h:s=1∨s=-1∨k=0) (lk:(dg k).length<=700000):
 a9 Tryz.prog 183 [a7 .i64 s,e7 (dg k)] [] (bgS (bz (s*k))) []:=by
 have e:=b8C s (dg k) (by omega)
 rw [aY9 (t9 k) (by rw [n7];omega),n7] at e
 exact e
theorem a53 (l:List Int) (i:Nat) (hl:l.length<=1000000):a9 Tryz.prog 247 [e7 l,a7 .i64 i] [] (a7 .i64 (dat l i)) []:=by
 have l2:(l.map f8).length=l.length:=by simp
 (refine ac Tryz.func247 ?_;(conv=>whnf);repeat (refine zy ?_;conv=>whnf))
 repeat' (first|refine zz ?_|refine d8 (w5 (by omega)) ?_|refine zd ?_ ?_<;>intro h<;>try omega|refine zy ?_|fail)<;>conv=>whnf
 all_goals first
  |exact j8 rfl
  |exact j8 (P6 (by omega)).symm
theorem a51 (l:List Int) (i:Nat):val (l.drop i)=dat l i+1048576*val (l.drop (i+1)):=by
 by_cases h:i<l.length
 ·exact a7k h
 ·rw [List.drop_of_length_le (by omega),List.drop_of_length_le (by omega),P6 (by omega)];rfl
theorem ad2 (l:List Int) (i:Nat):val l=val (l.take i)+pw i*val (l.drop i):=by
 by_cases h:i<=l.length
 ·exact a4Q l i h
 ·rw [List.drop_of_length_le (by omega),lg4 (by omega)];simp [val]
theorem a7g {l:List Int} (h:Okd l) (i:Nat):0<=val (l.take i)∧val (l.take i)<pw i:=by
 refine ⟨w9 (h.take i),?_⟩
 have h1:=W8 (h.take i)
 have h2:=a16 (i:=(l.take i).length) (j:=i) (by simp;omega)
 omega
theorem aB8 {a b:List Int} (ha:Okd a) (hb:Okd b) {i:Nat} (h:val (a.drop (i+1))=val (b.drop (i+1))) (hd:dat a i<dat b i):val a<val b:=by
 rw [ad2 a i,ad2 b i,a51 a i,a51 b i,h]
 have h1:=a7g ha i
 have h2:=a7g hb i
 have hp:=Q6 i
 have h3:=Int.mul_le_mul_of_nonneg_left (a:=dat a i+1048576*val (b.drop (i+1))+1) (b:=dat b i+1048576*val (b.drop (i+1))) (c:=pw i) (by omega) (by omega)
 rw [Int.mul_add _ _ (1:Int)] at h3
 omega
theorem a5r (l:List Int):val (l.drop 0)=val l:=by rw [List.drop_zero]
structure aj1 (a b:List Int) (i:Nat) (out:List Int) (c:Int):Prop where
 len:out.length=i
 ok:Okd out
 le:i<=a.length
 c0:0<=c
 c1:c<=1
 eq:val out - pw i*c=val (a.take i) - val (b.take i)
theorem aj1.init (a b:List Int):aj1 a b 0 [] 0:=⟨rfl,.nil,Nat.zero_le _,by decide,by decide,by simp [val]⟩
theorem aj1.step {a b out:List Int} {i:Nat} {c n c':Int} (h:aj1 a b i out c) (ha:Okd a) (hb:Okd b) (hi:i<a.length) (hn:n=dat a i - dat b i - c+1048576*c') (h0:0<=n∧n<1048576) (hc:0<=c'∧c'<=1):
 aj1 a b (i+1) (out++[n]) c':=by
 refine ⟨by simp [h.len],h.ok.append (Okd.cons h0 .nil),hi,hc.1,hc.2,?_⟩
 rw [M5,h.len,t5,t5,H4]
 have:=h.eq
 simp only [val]
 rw [hn]
 grind
theorem aj1.fin {a b out:List Int} {c:Int} (h:aj1 a b a.length out c) (ha:Okd a) (hb:Okd b) (hl:b.length<=a.length) (hv:val b<=val a):I0 out=dg (val a - val b).toNat:=by
 have h1:=h.eq
 rw [lg4 (Nat.le_refl _),lg4 hl] at h1
 have h2:=W8 h.ok
 rw [h.len] at h2
 have hc:c=0:=by
  have:=h.c0
  have:=h.c1
  rcases Int.lt_or_le 0 c with h3|h3
  ·have:c=1:=by omega
   subst this
   omega
  ·omega
 subst hc
 rw [K8 h.ok]
 congr 2
 simp at h1
 exact h1
structure b5L (a b:List Int) (i k:Nat) (out:List Int) (c:Int):Prop where
 out:(a9S a b i k out c∧k<=b.length)∨(k=b.length+1∧c=0∧a3V a b (i+1) out)
theorem b5j {l:List Int} {i:Nat}:l.set i (dat l i)=l:=by
 by_cases h:i<l.length
 ·apply List.ext_getElem?
  intro j
  by_cases hj:i=j
  ·subst hj;rw [List.getElem?_set_self h];unfold dat;rw [lg3,lg0 h];rfl
  ·rw [List.getElem?_set_ne hj]
 ·rw [List.set_eq_of_length_le (by omega)]
theorem b5L.exit {a b out:List Int} {i k:Nat} {c:Int} (h:b5L a b i k out c) (ha:Okd a) (hb:Okd b) (hi:i<a.length) (hk:b.length<=k) (hc:c<=0):a3V a b (i+1) out:=by
 rcases h.out with ⟨h1,h2⟩|⟨h1,h2,h3⟩
 ·have hk:k=b.length:=by omega
  subst hk
  have hc:c=0:=by have:=h1.c0;omega
  subst hc
  have:=h1.done ha hb hi
  rw [Int.add_zero,b5j] at this
  exact this
 ·exact h3
theorem b55 {r d:Nat} {x:Int} (hx:0<=x∧x<1048576):I0 (x::dg r)=dg (r*1048576+x.toNat):=by
 rw [K8 (Okd.cons hx (t9 r))]
 congr 1
 simp only [val,n7]
 omega
theorem b4e (a b:List Int) (ha:Okd a) (hb:Okd b) (la:a.length<=1000000) (lb:b.length<=1000000):a9 Tryz.prog 186 [e7 a,e7 b] [] (f9 (decide (val a<val b))) []:=by
 have l1:(a.map f8).length=a.length:=by simp
 have l2:(b.map f8).length=b.length:=by simp
 (refine ac Tryz.func186 ?_;(conv=>whnf);repeat (refine zy ?_;conv=>whnf))
 repeat' (first|refine zz ?_|refine qp cond ?_|refine ⟨_,D4 (y:=((max a.length b.length:Nat):Int) - 1) (by simp only [cond];split<;>omega) (by omega) (by omega),?_⟩|refine zd ?_ ?_<;>intro h<;>try omega|refine zy ?_|fail)<;>conv=>whnf
 refine o5 d7 (σ:=Nat) (fun k=>([e7 a,e7 b,J,J,J,a7 .i64 ((k:Int) - 1),J,J,J,J,J,J,J,J,J,J,J,J,J,J,J,J,J,J,J,J,J,J,J,J],[])) (fun k=>k<=1000000∧val (a.drop k)=val (b.drop k)) (fun k=>k) (max a.length b.length) []
  ⟨by omega,by rw [List.drop_of_length_le (by omega),List.drop_of_length_le (by omega)]⟩ ⟨rfl,rfl,trivial,⟨i7 rfl,i7 rfl,rfl,trivial⟩⟩ ?_
 rintro k ⟨hk,hd⟩
 have hk:k<=1000000:=hk
 have hd:val (a.drop k)=val (b.drop k):=hd
 by_cases h0:0<k
 ·obtain ⟨i,rfl⟩:∃i,k=i+1:=⟨k - 1,by omega⟩
  have d1:=a53 a i la
  have d2:=a53 b i lb
  have ei:(((i+1:Nat):Int) - 1)=i:=by omega
  rw [ei]
  conv=>whnf
  repeat' (first|refine zz ?_|refine qp d1 ?_|refine qp d2 ?_|refine zd ?_ ?_<;>intro h<;>try omega|refine zy ?_|fail)<;>conv=>whnf
  ·have h:=aB8 ha hb hd (by assumption)
   exact b7 (by simp [h])
  ·have h:=aB8 hb ha hd.symm (by omega)
   exact b7 (by simp;omega)
  ·have he:dat a i=dat b i:=by omega
   refine ⟨[],i,⟨rfl,rfl,trivial,⟨rfl,rfl,rfl,trivial⟩⟩,⟨by omega,?_⟩,by show i<i+1;omega⟩
   rw [a51 a i,a51 b i,he,hd]
 ·obtain rfl:k=0:=by omega
  rw [a5r,a5r] at hd
  conv=>whnf
  repeat' (first|refine zz ?_|refine zd ?_ ?_<;>intro h<;>try omega|refine zy ?_|fail)<;>conv=>whnf
  all_goals first
   |omega
   |exact b7 (by simp;omega)
theorem b0y (a b:List Int) (ha:Okd a) (hb:Okd b) (la:a.length<=400000) (lb:b.length<=a.length) (hv:val b<=val a):
 a9 Tryz.prog 187 [e7 a,e7 b] [] (e7 (dg (val a - val b).toNat)) []:=by
 have l1:(a.map f8).length=a.length:=by simp
 have l2:(b.map f8).length=b.length:=by simp
 (refine ac Tryz.func187 ?_;(conv=>whnf);repeat (refine zy ?_;conv=>whnf))
 repeat' (first|refine zz ?_|refine zd ?_ ?_<;>intro h<;>try omega|refine zy ?_|fail)<;>conv=>whnf
 refine o5 d7 (σ:=Nat × List Int × Int) (fun|(k,out,c)=>([e7 a,e7 b,J,J,J,a0Y 0 out,a7 .i64 c,a7 .i64 k,J,J,J,J,J,J,J,J,J,J,J,J,J,J,J,J,J,J,J,J,J,J,J,J,J,J,J],[s8 out])) (fun x=>aj1 a b x.1 x.2.1 x.2.2) (fun x=>a.length - x.1) (0,[],0) [none]
  (aj1.init a b) ⟨rfl,rfl,⟨⟨rfl,rfl⟩,trivial⟩,⟨i7 rfl,i7 rfl,⟨rfl,rfl,rfl⟩,rfl,rfl,trivial⟩⟩ ?_
 rintro ⟨k,out,c⟩ hI
 have hI:aj1 a b k out c:=hI
 have hlen:=hI.len
 have hle:=hI.le
 have hc0:=hI.c0
 have hc1:=hI.c1
 have hda:=ha.dat k
 have hdb:=hb.dat k
 have d2:=a53 b k (by omega)
 conv=>whnf
 repeat' (first|refine zz ?_|refine qp d2 ?_|refine qp toC ?_|refine qp toC ?_|refine d8 (w5 (by omega)) ?_|refine q9 (by simp [toC]) (by simp [toC];omega) ?_|refine zd ?_ ?_<;>intro h<;>try omega|refine zy ?_|fail)<;>conv=>whnf
 ·have hst:=hI.step ha hb (n:=dat a k - dat b k - c+1048576) (c':=1) (by omega) (by omega) (by omega) (by omega)
  refine ⟨[some 1],(k+1,out++[dat a k - dat b k - c+1048576],1),⟨rfl,rfl,⟨a8 rfl rfl rfl a1D rfl,trivial⟩,⟨rfl,rfl,l9 rfl (by simp [toC]),rfl,b9 (by omega),trivial⟩⟩,hst,?_⟩
  show a.length - (k+1)<a.length - k
  omega
 ·have hst:=hI.step ha hb (n:=dat a k - dat b k - c) (c':=0) (by omega) (by omega) (by omega) (by omega)
  refine ⟨[some 1],(k+1,out++[dat a k - dat b k - c],0),⟨rfl,rfl,⟨a8 rfl rfl rfl a1D rfl,trivial⟩,⟨rfl,rfl,l9 rfl (by simp [toC]),rfl,b9 (by omega),trivial⟩⟩,hst,?_⟩
  show a.length - (k+1)<a.length - k
  omega
 ·have hk:k=a.length:=by omega
  subst hk
  have hf:=hI.fin ha hb lb hv
  have t:=a5G out (by omega)
  rw [hf] at t
  refine .inr ⟨_,_,x7 [0] t ⟨a0T (v4 (by simp) rfl (by intro h;cases h) rfl rfl (by simp)),trivial⟩ rfl,?_⟩
  conv=>whnf
  exact aa7 rfl
end Go.Proofs.YtdbogogfeffjlaaGreat
