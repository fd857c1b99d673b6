/- Part 5. -/
import Derived.Test.YtikokmdpigploaaGreatMz4
namespace Go.Proofs.YtikokmdpigploaaGreat
set_option linter.unusedVariables false
set_option linter.unusedSimpArgs false
set_option maxRecDepth 100000
set_option maxHeartbeats 8000000
open Go.RowKit
open St1 St2 St3 St4 St5 St6 St7 St8 StA StB
theorem ay0 {H:Hp} {p:Nat->Prop} {ys:List C} {us:List T} (h2:VYL H p ys us):∀{ts:List T},VYL H p (ts.map C.t++ys) (ts++us)
 |[]=>h2
 |t::r=>⟨b5M,ay0 h2⟩
theorem b5R {m n:Nat} {fr:List (Nat × Bool)} {D:Fd} {X:Hp}:VY (L5 m n fr D.V D.G D.O D.F D.A X) (fun _=>True) (.own 1 0 m true) (.sl 5 .any (a8B m n D)):=by
 refine b4x (k:=a0K 6 m n D.V) trivial rfl (fun h=>h) rfl (a53 m n D) ?_ ?_
 ·intro r hr
  obtain ⟨i,_,rfl⟩:=lby.1 hr
  rfl
 ·intro i r hi
  have him:i<m:=by have:=(lbe.1 hi).1;rwa [a53] at this
  rw [a89 him] at hi
  injection hi with hi
  subst hi
  refine ⟨_,a2F him,?_⟩
  show VYL _ _ ((q9 (fz (D.V i))).map C.t++[C.own (i+6) 0 n true]) _
  have hv:VY (L5 m n fr D.V D.G D.O D.F D.A X) (fun _=>True) (C.own (i+6) 0 n true) (T.sl 4 .any ((rF n (D.A i)).map q9)):=
   .vc (D6 (k:=flB (rF n (D.A i))) trivial (M3 (Q6 him)) (fun h=>h) rfl rfl (by simp [P4]))
  exact ay0 (ys:=[C.own (i+6) 0 n true]) (us:=[T.sl 4 .any ((rF n (D.A i)).map q9)]) (show _∧True from ⟨hv,trivial⟩)
theorem b91 {m n:Nat} {fr:List (Nat × Bool)} {D:Fd} {X:Hp}:VY (L5 m n fr D.V D.G D.O D.F D.A X) (fun _=>True) (.ptr 0 0 0) (.ptr (b7p m n fr D)):=by
 refine ag6 (k:=b0l m n fr.length) trivial rfl (fun h=>h) rfl ⟨b5M,b5R,?_,?_,?_,?_,trivial⟩
 ·exact .vc (D6 (k:=flB (rF n D.G)) trivial rfl (fun h=>h) rfl rfl (by simp [P4]))
 ·exact .vc (D6 (k:=Z4 m D.O) trivial rfl (fun h=>h) rfl rfl (by simp [B2]))
 ·exact .vc (D6 (k:=Z4 n D.F) trivial rfl (fun h=>h) rfl rfl (by simp [B2]))
 ·exact .vc (D6 (k:=a1w fr) trivial rfl (fun h=>h) rfl rfl (by simp [a0e]))
abbrev bxD:Blk:={ mode:=.live,elem:=233,size:=1,rows:=[[.ptr 0 0 0]],box:=true }
abbrev bxI (i:Int):Blk:={ mode:=.live,elem:=3,size:=1,rows:=[[.t (ti i)]],box:=true }
theorem aA3 {m n:Nat} {fr:List (Nat × Bool)} {D:Fd} {X:Hp}:VY (L5 m n fr D.V D.G D.O D.F D.A (bxD::X)) (fun _=>True) (.ptr (m+6) 0 0) (a62 m n fr D):=by
 refine ag6 (k:=bxD) trivial ?_ (fun h=>h) rfl ⟨b91,trivial⟩
 show (((mF m n D.A).map flB)++bxD::X)[m]? =_
 rw [lbc (by simp [b9])]
 simp [b9]
theorem b4j {m n t:Nat} {fr:List (Nat × Bool)} {D:Fd} {X:Hp} {i:Int} (h:X[t]? =some (bxI i)):VY (L5 m n fr D.V D.G D.O D.F D.A X) (fun _=>True) (.ptr (m+6+t) 0 0) (.ptr [ti i]):=by
 refine ag6 (k:=bxI i) trivial ?_ (fun h=>h) rfl ⟨b5M,trivial⟩
 show (L5 m n fr D.V D.G D.O D.F D.A X)[m+6+t]? =_
 rw [show m+6+t=m+t+6 by omega]
 show (((mF m n D.A).map flB)++X)[m+t]? =_
 rw [lbc (by simp [b9])]
 simpa [b9] using h
theorem b9q {m n:Nat} {fr:List (Nat × Bool)} {D:Fd} {X:Hp}:VYS (L5 m n fr D.V D.G D.O D.F D.A X) (fun _=>True) (.c (.own 3 0 m true)) (a6k m D.O):=.vc (D6 (k:=Z4 m D.O) trivial rfl (fun h=>h) rfl rfl (by simp [B2]))
theorem b9F {m n:Nat} {fr:List (Nat × Bool)} {D:Fd} {X:Hp}:VYS (L5 m n fr D.V D.G D.O D.F D.A X) (fun _=>True) (.c (.own 4 0 n true)) (a6k n D.F):=.vc (D6 (k:=Z4 n D.F) trivial rfl (fun h=>h) rfl rfl (by simp [B2]))
theorem a9l {m n:Nat} {fr:List (Nat × Bool)} {D:Fd} {r s:Nat} (X:Hp) (h:e7 Tryz.prog 297 [.c (.ptr 0 0 0),b7 .i64 r,b7 .i64 s] (a0a m n fr D) (.tup []) (a0a m n fr (D.exch r s))):
 e7 Tryz.prog 297 [.c (.ptr 0 0 0),b7 .i64 r,b7 .i64 s] (L5 m n fr D.V D.G D.O D.F D.A X) (.tup []) (L5 m n fr (D.exch r s).V (D.exch r s).G (D.exch r s).O (D.exch r s).F (D.exch r s).A X):=by
 have hl:∀{D:Fd},∀k ∈ a0a m n fr D,k.mode=.live∧k.app=false:=by
  intro D k hk
  simp only [lbB] at hk
  rcases hk with rfl|rfl|rfl|rfl|rfl|rfl|hk
  ·exact ⟨rfl,rfl⟩
  ·exact ⟨rfl,rfl⟩
  ·exact ⟨rfl,rfl⟩
  ·exact ⟨rfl,rfl⟩
  ·exact ⟨rfl,rfl⟩
  ·exact ⟨rfl,rfl⟩
  ·obtain ⟨l,_,rfl⟩:=lby.1 hk
   exact ⟨rfl,rfl⟩
 exact a8K (n:=m+6) X h a2M a2M (by simp [okS,okC,b7,Nat.blt_eq]) (fun k hk=>⟨(hl k hk).1,(hl k hk).2,a77 k hk⟩) (fun k hk=>⟨(by rw [(hl k hk).1];intro h;cases h),a77 k hk⟩) rfl rfl
def b09:b4Q->Int × Int
 |.best=>(-1,-1)
 |.row r=>(r,-1)
 |.col s=>(-1,s)
 |.next r s=>(r,s)
theorem b4S {N:Nat} (h:0<N):okB N bxD:=by
 intro r hr c hc
 simp at hr;subst hr
 simp at hc;subst hc
 exact h
theorem b4t (m n:Nat) (fr:List (Nat × Bool)) (D0:Fd) (g0:Nat->Rat) (hm:m<=100000) (hn:n<=1000) (h0:a5V m n D0 g0 D0) (hB:∀D,U9 m n D0 D->BdD m n 30000 D):
 e7 Tryz.prog 219 [.c (.ptr 0 0 0)] (a0a m n fr D0) (.tup [b7 .i64 (b09 (F7 m n (ah7 m n D0))).1,b7 .i64 (b09 (F7 m n (ah7 m n D0))).2]) (a0a m n fr (ah7 m n D0)):=by
 (refine ac Tryz.func219 ?_;(conv=>whnf);repeat (refine zy ?_;conv=>whnf))
 repeat' (first|refine zx ?_|refine a4E (b9 _ _ _) ?_|refine a3c ?_|refine zd ?_ ?_<;>intro h<;>try omega|fail)<;>conv=>whnf
 refine C3 e8 (σ:=Fd) (fun D=>([J,S.c (C.ptr (m+6) 0 0)]++Jn 69,L5 m n fr D.V D.G D.O D.F D.A [bxD])) (fun D=>U9 m n D0 D) (fun D=>a8F m n D) D0 (idR (m+7)) aV0 ?_ ?_
 ·refine V4 (T':=[]) (a12 rfl rfl rfl rfl rfl rfl (by rw [List.append_nil,List.append_nil];rfl)) rfl (by simp [b9]) (by intro k hk;simp at hk;subst hk;exact b4S (by omega)) ⟨⟨p9 (by omega),rfl,rfl⟩,trivial⟩
 intro D hD
 have bd:=hB D hD
 have inv:a5V m n D0 g0 D:=by obtain ⟨k,hk⟩:=hD;exact a1n h0 hk
 have l1:=a5i m hm D.O (fun i=>decide (D.V i<0)) 293 [a62 m n fr D] (fun i hi=>b31 m n fr D i hi)
 have l2:=a5i n (by omega) D.F (fun j=>decide (0<D.G j)) 294 [a62 m n fr D] (fun j hj=>b2B m n fr D j hj)
 have va1:∀X,a0C (L5 m n fr D.V D.G D.O D.F D.A (bxD::X)) (fun _=>True) [.c (.own 3 0 m true),.c (.fn (.func 293) [.ptr (m+6) 0 0])] [a6k m D.O,.c (.t (.fn (.func 293) [a62 m n fr D]))]:=
  fun X=>⟨b9q,b16 (show _∧True from ⟨aA3,trivial⟩),trivial⟩
 have va2:∀X,a0C (L5 m n fr D.V D.G D.O D.F D.A (bxD::X)) (fun _=>True) [.c (.own 4 0 n true),.c (.fn (.func 294) [.ptr (m+6) 0 0])] [a6k n D.F,.c (.t (.fn (.func 294) [a62 m n fr D]))]:=
  fun X=>⟨b9F,b16 (show _∧True from ⟨aA3,trivial⟩),trivial⟩
 have va3:∀X (r:Nat),a0C (L5 m n fr D.V D.G D.O D.F D.A (bxD::bxI r::X)) (fun _=>True) [.c (.own 4 0 n true),.c (.fn (.func 295) [.ptr (m+6) 0 0,.ptr (m+7) 0 0])] [a6k n D.F,.c (.t (.fn (.func 295) [a62 m n fr D,.ptr [ti r]]))]:=
  fun X r=>⟨b9F,b16 (show _∧_∧True from ⟨aA3,b4j (t:=1) rfl,trivial⟩),trivial⟩
 have va4:∀X (x:Int) (s:Nat),a0C (L5 m n fr D.V D.G D.O D.F D.A (bxD::bxI x::bxI s::X)) (fun _=>True) [.c (.own 3 0 m true),.c (.fn (.func 296) [.ptr (m+6) 0 0,.ptr (m+8) 0 0])] [a6k m D.O,.c (.t (.fn (.func 296) [a62 m n fr D,.ptr [ti s]]))]:=
  fun X x s=>⟨b9q,b16 (show _∧_∧True from ⟨aA3,b4j (t:=2) rfl,trivial⟩),trivial⟩
 have fin0:∀(X:Hp) (r c:Int),I9 m n D=none->(r,c)=b09 (F7 m n D)->Fin (a0a m n fr D0).length (.tup [b7 .i64 r,b7 .i64 c]) (L5 m n fr D.V D.G D.O D.F D.A X) (.tup [b7 .i64 (b09 (F7 m n (ah7 m n D0))).1,b7 .i64 (b09 (F7 m n (ah7 m n D0))).2]) (a0a m n fr (ah7 m n D0)):=by
  intro X r c hn ho
  have e:=b8L h0 hD hn
  rw [← e,←ho]
  have e0:a0a m n fr D=L5 m n fr D.V D.G D.O D.F D.A []:=by
   show _::_::_::_::_::_::_=_::_::_::_::_::_::(_++[])
   rw [List.append_nil]
  rw [e0]
  exact a9W (N:=m+6) rfl rfl (by simp [b9]) ⟨rfl,rfl,trivial⟩
 have go:∀(X:Hp) (env:Env) (r s:Nat),F7 m n D=.next r s->a0Z (idR (m+7)) (L5 m n fr (D.exch r s).V (D.exch r s).G (D.exch r s).O (D.exch r s).F (D.exch r s).A (bxD::X)) env ([J,S.c (C.ptr (m+6) 0 0)]++Jn 69)->
  ∃ρ x',Ent (a0a m n fr D0).length ρ env (L5 m n fr (D.exch r s).V (D.exch r s).G (D.exch r s).O (D.exch r s).F (D.exch r s).A (bxD::X)) ([J,S.c (C.ptr (m+6) 0 0)]++Jn 69) (L5 m n fr x'.V x'.G x'.O x'.F x'.A [bxD])∧U9 m n D0 x'∧a8F m n x'<a8F m n D:=by
  intro X env r s hs hE
  have hnx:I9 m n D=some (D.exch r s):=by unfold I9;rw [hs]
  exact ⟨idR (m+7),D.exch r s,V4 (T:=[bxD]) (T':=X) rfl rfl (by simp [b9]) (by intro k hk;simp at hk;subst hk;exact b4S (by omega)) hE,ac7 hD hnx,b07 (b7J inv.p inv.g) hnx⟩
 have exc:∀r s:Nat,F7 m n D=.next r s->e7 Tryz.prog 297 [.c (.ptr 0 0 0),b7 .i64 r,b7 .i64 s] (a0a m n fr D) (.tup []) (a0a m n fr (D.exch r s)):=fun r s hs=>by
  obtain ⟨q1,q2,q3⟩:=a5b hs
  exact aZ0 m n fr D r s hm hn q1 q2 (a6P q3) bd (hB _ (ac7 hD (by unfold I9;rw [hs])))
 cases hR:X2 D.O (fun i=>decide (D.V i<0)) m with
 |none=>
  rw [hR,show leI none=-1 from rfl] at l1
  cases hS:X2 D.F (fun j=>decide (0<D.G j)) n with
  |none=>
   rw [hS,show leI none=-1 from rfl] at l2
   have hst:F7 m n D=.best:=by unfold F7;rw [hR,hS]
   conv=>whnf
   repeat' (first|refine zx ?_|refine .inl ⟨_,_,p8 l1 (va1 _) rfl,?_⟩|refine .inl ⟨_,_,p8 l2 (va2 _) rfl,?_⟩|refine m9 (b9 _ _ _) ?_|refine l9 ?_|refine G6 (b9 _ _ _) ?_|refine j7 (t:=1) (b9 _ _ _) ?_|refine j7 (t:=2) (b9 _ _ _) ?_|refine j9 (t:=1) (b9 _ _ _) ?_|refine j9 (t:=2) (b9 _ _ _) ?_|refine zd ?_ ?_<;>intro h<;>try omega|fail)<;>conv=>whnf
   all_goals first
    |omega
    |exact fin0 _ _ _ (by unfold I9;rw [hst]) (by rw [hst];rfl)
  |some ss=>
   rw [hS,show leI (some ss)=ss from rfl] at l2
   have hss:=(J7 hS).1
   have l4:=a5i m hm D.O (fun i=>decide (0<D.A i ss)) 296 [a62 m n fr D,T.ptr [ti ss]] (fun i hi=>ao3 m n fr D i ss hi hss)
   cases hC:X2 D.O (fun i=>decide (0<D.A i ss)) m with
   |none=>
    rw [hC,show leI none=-1 from rfl] at l4
    have hst:F7 m n D=.col ss:=by unfold F7;rw [hR,hS];show a14 m D ss=_;unfold a14;rw [hC]
    conv=>whnf
    repeat' (first|refine zx ?_|refine .inl ⟨_,_,p8 l1 (va1 _) rfl,?_⟩|refine .inl ⟨_,_,p8 l2 (va2 _) rfl,?_⟩|refine .inl ⟨_,_,p8 l4 (va4 _ _ ss) rfl,?_⟩|refine m9 (b9 _ _ _) ?_|refine l9 ?_|refine G6 (b9 _ _ _) ?_|refine j7 (t:=1) (b9 _ _ _) ?_|refine j7 (t:=2) (b9 _ _ _) ?_|refine j9 (t:=1) (b9 _ _ _) ?_|refine j9 (t:=2) (b9 _ _ _) ?_|refine zd ?_ ?_<;>intro h<;>try omega|fail)<;>conv=>whnf
    all_goals first
     |omega
     |exact fin0 _ _ _ (by unfold I9;rw [hst]) (by rw [hst];rfl)
   |some rq=>
    rw [hC,show leI (some rq)=rq from rfl] at l4
    have hst:F7 m n D=.next rq ss:=by unfold F7;rw [hR,hS];show a14 m D ss=_;unfold a14;rw [hC]
    have exr:=exc _ _ hst
    conv=>whnf
    repeat' (first|refine zx ?_|refine .inl ⟨_,_,p8 l1 (va1 _) rfl,?_⟩|refine .inl ⟨_,_,p8 l2 (va2 _) rfl,?_⟩|refine .inl ⟨_,_,p8 l4 (va4 _ _ ss) rfl,?_⟩|refine .inr ⟨_,_,a9l _ exr,?_⟩|refine m9 (b9 _ _ _) ?_|refine l9 ?_|refine G6 (b9 _ _ _) ?_|refine j7 (t:=1) (b9 _ _ _) ?_|refine j7 (t:=2) (b9 _ _ _) ?_|refine j9 (t:=1) (b9 _ _ _) ?_|refine j9 (t:=2) (b9 _ _ _) ?_|refine zd ?_ ?_<;>intro h<;>try omega|fail)<;>conv=>whnf
    all_goals first
     |omega
     |exact go _ _ _ _ hst ⟨⟨p9 (by omega),rfl,rfl⟩,trivial⟩
 |some rr=>
  rw [hR,show leI (some rr)=rr from rfl] at l1
  cases hS:X2 D.F (fun j=>decide (0<D.G j)) n with
  |none=>
   rw [hS,show leI none=-1 from rfl] at l2
   have hrr:=(J7 hR).1
   have l3:=a5i n (by omega) D.F (fun j=>decide (D.A rr j<0)) 295 [a62 m n fr D,T.ptr [ti rr]] (fun j hj=>ap0 m n fr D rr j hrr hj)
   cases hC:X2 D.F (fun j=>decide (D.A rr j<0)) n with
   |none=>
    rw [hC,show leI none=-1 from rfl] at l3
    have hst:F7 m n D=.row rr:=by unfold F7;rw [hR,hS];show a13 n D rr=_;unfold a13;rw [hC]
    conv=>whnf
    repeat' (first|refine zx ?_|refine .inl ⟨_,_,p8 l1 (va1 _) rfl,?_⟩|refine .inl ⟨_,_,p8 l2 (va2 _) rfl,?_⟩|refine .inl ⟨_,_,p8 l3 (va3 _ rr) rfl,?_⟩|refine m9 (b9 _ _ _) ?_|refine l9 ?_|refine G6 (b9 _ _ _) ?_|refine j7 (t:=1) (b9 _ _ _) ?_|refine j7 (t:=2) (b9 _ _ _) ?_|refine j9 (t:=1) (b9 _ _ _) ?_|refine j9 (t:=2) (b9 _ _ _) ?_|refine zd ?_ ?_<;>intro h<;>try omega|fail)<;>conv=>whnf
    all_goals first
     |omega
     |exact fin0 _ _ _ (by unfold I9;rw [hst]) (by rw [hst];rfl)
   |some sq=>
    rw [hC,show leI (some sq)=sq from rfl] at l3
    have hst:F7 m n D=.next rr sq:=by unfold F7;rw [hR,hS];show a13 n D rr=_;unfold a13;rw [hC]
    have exr:=exc _ _ hst
    conv=>whnf
    repeat' (first|refine zx ?_|refine .inl ⟨_,_,p8 l1 (va1 _) rfl,?_⟩|refine .inl ⟨_,_,p8 l2 (va2 _) rfl,?_⟩|refine .inl ⟨_,_,p8 l3 (va3 _ rr) rfl,?_⟩|refine .inr ⟨_,_,a9l _ exr,?_⟩|refine m9 (b9 _ _ _) ?_|refine l9 ?_|refine G6 (b9 _ _ _) ?_|refine j7 (t:=1) (b9 _ _ _) ?_|refine j7 (t:=2) (b9 _ _ _) ?_|refine j9 (t:=1) (b9 _ _ _) ?_|refine j9 (t:=2) (b9 _ _ _) ?_|refine zd ?_ ?_<;>intro h<;>try omega|fail)<;>conv=>whnf
    all_goals first
     |omega
     |exact go _ _ _ _ hst ⟨⟨p9 (by omega),rfl,rfl⟩,trivial⟩
  |some ss=>
   rw [hS,show leI (some ss)=ss from rfl] at l2
   have hrr:=(J7 hR).1
   have hss:=(J7 hS).1
   by_cases hlt:D.O rr<D.F ss
   ·skip
    have l3:=a5i n (by omega) D.F (fun j=>decide (D.A rr j<0)) 295 [a62 m n fr D,T.ptr [ti rr]] (fun j hj=>ap0 m n fr D rr j hrr hj)
    cases hC:X2 D.F (fun j=>decide (D.A rr j<0)) n with
    |none=>
     rw [hC,show leI none=-1 from rfl] at l3
     have hst:F7 m n D=.row rr:=by unfold F7 a13;rw [hR,hS];simp only [if_pos hlt];rw [hC]
     conv=>whnf
     repeat' (first|refine zx ?_|refine .inl ⟨_,_,p8 l1 (va1 _) rfl,?_⟩|refine .inl ⟨_,_,p8 l2 (va2 _) rfl,?_⟩|refine .inl ⟨_,_,p8 l3 (va3 _ rr) rfl,?_⟩|refine m9 (b9 _ _ _) ?_|refine l9 ?_|refine G6 (b9 _ _ _) ?_|refine j7 (t:=1) (b9 _ _ _) ?_|refine j7 (t:=2) (b9 _ _ _) ?_|refine j9 (t:=1) (b9 _ _ _) ?_|refine j9 (t:=2) (b9 _ _ _) ?_|refine a11 (r:=rr) (by omega) hrr ?_|refine a11 (r:=ss) (by omega) hss ?_|refine zd ?_ ?_<;>intro h<;>try omega|fail)<;>conv=>whnf
     all_goals first
      |omega
      |exact fin0 _ _ _ (by unfold I9;rw [hst]) (by rw [hst];rfl)
    |some sq=>
     rw [hC,show leI (some sq)=sq from rfl] at l3
     have hst:F7 m n D=.next rr sq:=by unfold F7 a13;rw [hR,hS];simp only [if_pos hlt];rw [hC]
     have exr:=exc _ _ hst
     conv=>whnf
     repeat' (first|refine zx ?_|refine .inl ⟨_,_,p8 l1 (va1 _) rfl,?_⟩|refine .inl ⟨_,_,p8 l2 (va2 _) rfl,?_⟩|refine .inl ⟨_,_,p8 l3 (va3 _ rr) rfl,?_⟩|refine .inr ⟨_,_,a9l _ exr,?_⟩|refine m9 (b9 _ _ _) ?_|refine l9 ?_|refine G6 (b9 _ _ _) ?_|refine j7 (t:=1) (b9 _ _ _) ?_|refine j7 (t:=2) (b9 _ _ _) ?_|refine j9 (t:=1) (b9 _ _ _) ?_|refine j9 (t:=2) (b9 _ _ _) ?_|refine a11 (r:=rr) (by omega) hrr ?_|refine a11 (r:=ss) (by omega) hss ?_|refine zd ?_ ?_<;>intro h<;>try omega|fail)<;>conv=>whnf
     all_goals first
      |omega
      |exact go _ _ _ _ hst ⟨⟨p9 (by omega),rfl,rfl⟩,trivial⟩
   ·skip
    have l4:=a5i m hm D.O (fun i=>decide (0<D.A i ss)) 296 [a62 m n fr D,T.ptr [ti ss]] (fun i hi=>ao3 m n fr D i ss hi hss)
    cases hC:X2 D.O (fun i=>decide (0<D.A i ss)) m with
    |none=>
     rw [hC,show leI none=-1 from rfl] at l4
     have hst:F7 m n D=.col ss:=by unfold F7 a14;rw [hR,hS];simp only [if_neg hlt];rw [hC]
     conv=>whnf
     repeat' (first|refine zx ?_|refine .inl ⟨_,_,p8 l1 (va1 _) rfl,?_⟩|refine .inl ⟨_,_,p8 l2 (va2 _) rfl,?_⟩|refine .inl ⟨_,_,p8 l4 (va4 _ _ ss) rfl,?_⟩|refine m9 (b9 _ _ _) ?_|refine l9 ?_|refine G6 (b9 _ _ _) ?_|refine j7 (t:=1) (b9 _ _ _) ?_|refine j7 (t:=2) (b9 _ _ _) ?_|refine j9 (t:=1) (b9 _ _ _) ?_|refine j9 (t:=2) (b9 _ _ _) ?_|refine a11 (r:=rr) (by omega) hrr ?_|refine a11 (r:=ss) (by omega) hss ?_|refine zd ?_ ?_<;>intro h<;>try omega|fail)<;>conv=>whnf
     all_goals first
      |omega
      |exact fin0 _ _ _ (by unfold I9;rw [hst]) (by rw [hst];rfl)
    |some rq=>
     rw [hC,show leI (some rq)=rq from rfl] at l4
     have hst:F7 m n D=.next rq ss:=by unfold F7 a14;rw [hR,hS];simp only [if_neg hlt];rw [hC]
     have exr:=exc _ _ hst
     conv=>whnf
     repeat' (first|refine zx ?_|refine .inl ⟨_,_,p8 l1 (va1 _) rfl,?_⟩|refine .inl ⟨_,_,p8 l2 (va2 _) rfl,?_⟩|refine .inl ⟨_,_,p8 l4 (va4 _ _ ss) rfl,?_⟩|refine .inr ⟨_,_,a9l _ exr,?_⟩|refine m9 (b9 _ _ _) ?_|refine l9 ?_|refine G6 (b9 _ _ _) ?_|refine j7 (t:=1) (b9 _ _ _) ?_|refine j7 (t:=2) (b9 _ _ _) ?_|refine j9 (t:=1) (b9 _ _ _) ?_|refine j9 (t:=2) (b9 _ _ _) ?_|refine a11 (r:=rr) (by omega) hrr ?_|refine a11 (r:=ss) (by omega) hss ?_|refine zd ?_ ?_<;>intro h<;>try omega|fail)<;>conv=>whnf
     all_goals first
      |omega
      |exact go _ _ _ _ hst ⟨⟨p9 (by omega),rfl,rfl⟩,trivial⟩
theorem a2K {P:Program} {g:FuncId} {args:List S} {H:Hp} {b:Blk} {n:Nat} {app:Bool} (h:e7 P g args [] (.c (.own 0 0 n app)) [b]) (ha:args.all S.isT=true) (hm:b.mode=.live) (hb:K7 b.rows):
 W5 P g args H (.c (.own H.length 0 n app)) [b]:=by
 refine ⟨h.1,fun w ι M vals hl hv hH hM hf=>?_⟩
 have:=h.2 w (fun _=>none) M vals hl (fun j s hj=>(hv j s hj).tree (lbw.1 ha s (lbm hj)))
  ⟨by simp,by simp,by simp,by simp,by simp⟩ hM (fun _ _=>rfl)
 refine Calls.mono this ?_
 rintro e w' ⟨v,rfl,ι',M',h1,h2,h3,h4,h5⟩
 have hnl:∀x,¬a2I (fun _=>none) ([]:Hp) x:=by rintro x ⟨id,k,_,_,hk,_⟩;simp at hk
 obtain ⟨l,hl0⟩:∃l,ι' 0=some l:=by
  cases h1 with
  |c h1=>cases h1 with
   |own hi=>exact ⟨_,hi⟩
   |nil hi=>exact ⟨_,hi⟩
 have hnew:C8 ι H.length [b].length (fun _=>l) H.length=some l:=by unfold C8;simp
 have hMM:∀x,a4F M [b].length (fun _=>l) x->M' x:=by
  intro x hx
  rcases hx with hx|⟨k,hk,cap,size,he⟩
  ·rcases h5.mold x hx with h|h
   ·exact h
   ·exact absurd h (hnl x)
  ·have he:l=.blk x cap size:=he
   subst he
   exact h2.liv 0 b rfl hm x cap size hl0
 refine ⟨v,rfl,fun _=>l,?_,⟨h5.os,h5.tape,h5.output,h5.size,fun x hx=>h5.keep x hx (hnl x)⟩,?_,?_,?_⟩
 ·cases h1 with
  |c h1=>cases h1 with
   |own hi q1 q2 q3 q4 q5=>
    rw [hl0] at hi;injection hi with hi
    subst hi
    exact .c (.own hnew q1 q2 q3 q4 q5)
   |nil hi=>
    rw [hl0] at hi;injection hi with hi
    subst hi
    exact .c (.nil hnew)
 ·intro k blk hk
  cases k with
  |succ k=>simp at hk
  |zero=>
   simp at hk
   subst hk
   refine ⟨hm,?_⟩
   have hbr:=h2.blk 0 b rfl (by rw [hm];intro h;cases h) l hl0
   cases l with
   |nil=>exact hbr
   |blk x cap size=>
    obtain ⟨r1,r2,r3,r4,r5,cur,r6,r7,r8⟩:=hbr
    refine ⟨r1,r2,r3,r4,r5,cur,r6,r7,fun i j c hc=>?_⟩
    obtain ⟨u,u1,u2⟩:=r8 i j c hc
    exact ⟨u,u1,ai1 hMM hb hc u2⟩
 ·intro k x cap size hk he
  have he:l=.blk x cap size:=he
  subst he
  refine ⟨?_,h3 x (h2.liv 0 b rfl hm x cap size hl0)⟩
  rcases h5.live x ⟨0,b,cap,size,rfl,hm,hl0⟩ with h|h
  ·exact absurd h (hnl x)
  ·exact h
 ·intro k k' x cap size cap' size' hk hk' _ _
  simp at hk hk'
  omega
theorem b2s (H:Hp) (n:Nat) (hn:n<=1000):W5 Tryz.prog 289 [b7 .i64 n] H (.c (.own H.length 0 n true)) [flB (rF n fun _=>0)]:=
 a2K (b6G n hn) rfl rfl (j6 _)
def a4B (l:List (Int × Rat)):Nat->Nat->Rat
 |0=>L3 l
 |k+1=>match l[k]? with
  |none=>a4B l k
  |some t=>fun j=>if j=t.1.toNat then -t.2 else a4B l k j
theorem ar8 {l:List (Int × Rat)} {k:Nat} {t:Int × Rat} (h:l[k]? =some t):a4B l (k+1)=fun j=>if j=t.1.toNat then -t.2 else a4B l k j:=by rw [a4B,h]
theorem b1A (l:List (Int × Rat)) (j:Nat):∀k,k<=l.length->a4B l k j=-(Q1 l k j)∨(Q1 l k j=0∧a4B l k j=L3 l j)
 |0,_=>.inr ⟨rfl,rfl⟩
 |k+1,hk=>by
  obtain ⟨t,ht⟩:∃t,l[k]? =some t:=⟨_,lbf (by omega)⟩
  rw [ar8 ht,U0 ht]
  simp only
  by_cases hj:j=t.1.toNat
  ·rw [if_pos hj,if_pos hj];exact .inl rfl
  ·rw [if_neg hj,if_neg hj];exact b1A l j k (by omega)
theorem b4s (l:List (Int × Rat)):a4B l l.length=fun j=>-(L3 l j):=by
 funext j
 rcases b1A l j l.length (lbR _) with h|⟨h1,h2⟩
 ·exact h
 ·rw [h2]
  have:L3 l j=0:=h1
  rw [this];decide
def sgF (b:Bool) (l:List (Int × Rat)):Nat->Rat:=fun j=>Z3 b (L3 l j)
theorem a0v {H:Hp} {N n:Nat} (hN:H.length=N) (hn:n<=1000):W5 Tryz.prog 289 [b7 .i64 n] H (.c (.own N 0 n true)) [flB (rF n fun _=>0)]:=by subst hN;exact b2s H n hn
abbrev pB (n k l i f:Nat):Blk:={ mode:=.live,elem:=285,size:=6,rows:=[[C.t (ti n),.own l 0 k true,.own 2 0 n true,.own i 0 k true,.t (.sl 0 .nil []),.own f 0 k true]],box:=true }
abbrev a9x (t:TypeId) (s:Nat):Blk:=⟨.dead,t,s,[],false,false⟩
abbrev a5P (n k:Nat) (V G:Nat->Rat) (O:Nat->Nat) (fr:List (Nat × Bool)) (A:Nat->Nat->Rat) (X:Hp):Hp:=
 pB n k 1 3 4::a0K 5 k n V::flB (rF n G)::Z4 k O::a1w fr::((mF k n A).map flB++X)
abbrev lnX (k n:Nat) (v:Rat):Blk:={ mode:=.live,elem:=288,size:=5,rows:=[frC (fz v)++[C.own (k+6) 0 n true]],box:=true }
abbrev b1P (n k:Nat) (v:Rat) (a V G:Nat->Rat) (O:Nat->Nat) (fr:List (Nat × Bool)) (f:Nat × Bool) (A:Nat->Nat->Rat) (bx:Blk):Hp:=
 pB n (k+1) (k+8) (k+7) (k+9)::a9x 288 5::flB (rF n G)::a9x 3 1::a9x 306 2::((mF k n A).map flB++
  [bx,flB (rF n a),Z4 (k+1) O,{ mode:=.live,elem:=288,size:=5,rows:=S1 5 k n V++[frC (fz v)++[C.own (k+6) 0 n true]],box:=false },a1w (fr++[f])])
theorem aC4 {k n N:Nat} {v:Rat} (h:k+6<N):okB N (lnX k n v):=by
 intro r hr c hc
 simp at hr;subst hr
 simp [frC] at hc
 rcases hc with rfl|rfl|rfl|rfl|rfl<;>first|trivial|exact h
theorem b9J {n k N l i f:Nat} (h1:l<N) (h2:i<N) (h3:f<N) (h4:2<N):okB N (pB n k l i f):=by
 intro r hr c hc
 simp at hr;subst hr
 simp at hc
 rcases hc with rfl|rfl|rfl|rfl|rfl|rfl<;>first|trivial|assumption
theorem aN3 {n k:Nat} {V G:Nat->Rat} {O:Nat->Nat} {fr:List (Nat × Bool)} {A:Nat->Nat->Rat} {X:Hp}:(a5P n k V G O fr A X).length=k+5+X.length:=by simp [b9];omega
theorem b6y {n k N:Nat} {V G:Nat->Rat} {O:Nat->Nat} {fr:List (Nat × Bool)} {A:Nat->Nat->Rat} {X:Hp} (h:k+5<=N) (hX:∀b ∈ X,okB N b):∀b ∈ a5P n k V G O fr A X,okB N b:=by
 intro b hb
 simp only [lbB,lbA] at hb
 rcases hb with rfl|rfl|rfl|rfl|rfl|hb|hb
 ·exact b9J (by omega) (by omega) (by omega) (by omega)
 ·exact ae2 h
 ·exact J1 rfl
 ·exact J1 rfl
 ·exact J1 rfl
 ·obtain ⟨l,_,rfl⟩:=lby.1 hb
  exact J1 rfl
 ·exact hX b hb
theorem b4l {n k:Nat} {V G:Nat->Rat} {O:Nat->Nat} {fr:List (Nat × Bool)} {A:Nat->Nat->Rat} {X X':Hp}:a5P n k V G O fr A (X++X')=a5P n k V G O fr A X++X':=by
 show _::_::_::_::_::(_++(X++X'))=_::_::_::_::_::((_++X)++X')
 rw [lbE]
theorem a09 {n0 N n k:Nat} {V G:Nat->Rat} {O:Nat->Nat} {fr:List (Nat × Bool)} {A:Nat->Nat->Rat} {X X' H:Hp} {env env':Env} (hH:H=a5P n k V G O fr A (X++X')) (hN:k+5+X.length=N) (h0:n0<=N) (hX:∀b ∈ X,okB N b)
 (hE:a0Z (idR N) H env env'):Ent n0 (idR N) env H env' (a5P n k V G O fr A X):=by
 refine a7W (by rw [aN3];exact hN) h0 (b6y (by omega) hX) (fun i hi=>?_) hE
 rw [hH,b4l,lbb (by rw [aN3];omega)]
theorem a1P {b0 b1 b2 b3 b4 c0 c1 c2 c3 c4:Blk} {L L':Hp} (h0:b0=c0) (h1:b1=c1) (h2:b2=c2) (h3:b3=c3) (h4:b4=c4) (h6:L=L'):b0::b1::b2::b3::b4::L=c0::c1::c2::c3::c4::L':=by
 subst h0 h1 h2 h3 h4 h6;rfl
def fR (N:Nat) (f:Nat->Nat):List (Option Nat):=(List.range N).map fun i=>some (f i)
theorem C6 {N i:Nat} {f:Nat->Nat} (h:i<N):(fR N f)[i]? =some (some (f i)):=by simp [fR,h]
theorem b97 (N:Nat) (f:Nat->Nat):(fR N f).length=N:=by simp [fR]
theorem b3A {N i j:Nat} {f:Nat->Nat} (h:(fR N f)[i]? =some (some j)):i<N∧f i=j:=by
 obtain ⟨h1,h2⟩:=lbe.1 h
 simp [fR] at h1 h2
 exact ⟨h1,h2⟩
theorem af1 {ρ:List (Option Nat)}:∀{m:Nat},(∀ i:Nat,i<m->ρ[i]? =some (some i))->a1I ρ m=true
 |0,_=>rfl
 |m+1,h=>by
  unfold a1I
  rw [h m (by omega),af1 fun i hi=>h i (by omega)]
  simp
theorem b1u {N:Nat} {f:Nat->Nat} {H H':Hp} (hn:H'.length=N) (hB:∀(i:Nat) (k':Blk),H'[i]? =some k'->∃k:Blk,H[f i]? =some k∧a6f (fR N f) H k k'):a2U (fR N f) H (fR N f) H':=
 a5h (by rw [b97,hn]) fun i k' hk=>by
  have hi:i<N:=by rw [← hn];exact (lbe.1 hk).1
  obtain ⟨k,h1,h2⟩:=hB i k' hk
  exact ⟨f i,k,C6 hi,h1,h2⟩
theorem aM4 {N:Nat} {f:Nat->Nat} {H:Hp} (hinj:∀i j,i<N->j<N->f i=f j->i=j):S4 (fR N f) H=true:=a1i fun i j n h1 h2=>by
 obtain ⟨a1,a2⟩:=b3A h1
 obtain ⟨b1,b2⟩:=b3A h2
 exact hinj i j a1 b1 (by omega)
theorem aV3 {n0 N:Nat} {f:Nat->Nat} {env env':Env} {H H':Hp} (hn:H'.length=N) (h0:n0<=N) (hk:∀i,i<n0->f i=i) (hinj:∀i j,i<N->j<N->f i=f j->i=j)
 (hB:∀(i:Nat) (k':Blk),H'[i]? =some k'->∃k:Blk,H[f i]? =some k∧a6f (fR N f) H k k') (hE:a0Z (fR N f) H env env'):Ent n0 (fR N f) env H env' H':=
 ⟨af1 fun i hi=>by rw [C6 (by omega),hk i hi],aM4 hinj,b1u hn hB,hE⟩
theorem b92 {n0 N:Nat} {f:Nat->Nat} {r s:S} {H H':Hp} (hn:H'.length=N) (h0:n0<=N) (hk:∀i,i<n0->f i=i) (hinj:∀i j,i<N->j<N->f i=f j->i=j)
 (hB:∀(i:Nat) (k':Blk),H'[i]? =some k'->∃k:Blk,H[f i]? =some k∧a6f (fR N f) H k k') (hE:a90 (fR N f) H r s):Fin n0 r H s H':=
 ⟨fR N f,af1 fun i hi=>by rw [C6 (by omega),hk i hi],aM4 hinj,b1u hn hB,hE⟩
theorem b7h (k:Blk):a2o k k=true:=by unfold a2o;cases k.mode<;>simp
theorem k9 {ρ:List (Option Nat)} {H:Hp} {k:Blk} (h:K7 k.rows):a6f ρ H k k:=⟨b7h k,rfl,rfl,.inl ⟨rfl,h⟩⟩
theorem b0D {ρ:List (Option Nat)} {H:Hp} {l l':List C} (h:a3i ρ H l l'):∀ts:List T,a3i ρ H (ts.map C.t++l) (ts.map C.t++l')
 |[]=>h
 |t::r=>⟨a0s t,b0D h r⟩
theorem a1R {ρ:List (Option Nat)} {H:Hp} {m n:Nat} {V:Nat->Rat} {h h':Nat->Nat} (hh:∀i,i<m->ρ[h' i]? =some (some (h i))):
 a6f ρ H { mode:=.live,elem:=288,size:=5,rows:=(List.range m).map fun i=>frC (fz (V i))++[C.own (h i) 0 n true],box:=false } { mode:=.live,elem:=288,size:=5,rows:=(List.range m).map fun i=>frC (fz (V i))++[C.own (h' i) 0 n true],box:=false }:=by
 refine ⟨rfl,rfl,rfl,.inr (ag5 (by simp) fun i x y hx hy=>?_)⟩
 have hi:i<m:=by have:=(lbe.1 hx).1;simpa using this
 simp [hi] at hx hy
 subst hx hy
 exact b0D (ts:=q9 (fz (V i))) (l:=[C.own (h i) 0 n true]) (l':=[C.own (h' i) 0 n true]) ⟨⟨hh i hi,rfl,rfl,fun h=>h⟩,trivial⟩
theorem b0L {a b:Nat} {K:Prop} (h:a<=b) (k:K):a<=b∧K:=⟨h,k⟩
theorem a4A {N:Nat} {b:Blk} (h:K7 b.rows):okB N b:=by
 intro r hr c hc
 have:=h r hr c hc
 cases c<;>first|trivial|cases this
def aE9 (k n:Nat) (v:Rat) (V:Nat->Rat):Nat->Rat:=fun i=>if i=k then v else V i
def hnd (k:Nat):Nat->Nat:=fun i=>if i=k then k+6 else i+5
theorem a9u {k n:Nat} {v:Rat} {V:Nat->Rat}:S1 5 k n V++[frC (fz v)++[C.own (k+6) 0 n true]]=(List.range (k+1)).map fun i=>frC (fz (aE9 k n v V i))++[C.own (hnd k i) 0 n true]:=by
 rw [List.range_succ,lbD]
 congr 1
 ·refine lbp fun i hi=>?_
  have:=lbC.1 hi
  unfold aE9 hnd
  rw [if_neg (by omega),if_neg (by omega)]
 ·unfold aE9 hnd;simp
abbrev b9t (n k:Nat) (v:Rat) (a V G:Nat->Rat) (O:Nat->Nat) (fr:List (Nat × Bool)) (f:Nat × Bool) (A:Nat->Nat->Rat) (bx lx lit:Blk):Hp:=
 pB n (k+1) (k+10) (k+8) (k+11)::a9x 288 5::flB (rF n G)::a9x 3 1::a9x 306 2::((mF k n A).map flB++
  [bx,flB (rF n a),lx,Z4 (k+1) O,lit,{ mode:=.live,elem:=288,size:=5,rows:=S1 5 k n V++[frC (fz v)++[C.own (k+6) 0 n true]],box:=false },a1w (fr++[f])])
def ad0 (k:Nat):Nat->Nat:=fun i=>if i<k+7 then i else if i=k+7 then k+8 else if i=k+8 then k+10 else k+11
theorem a1A {α β:Type} {f:β->α} {M:List β} {X:List α} {N t:Nat} (h:M.length=N):(M.map f++X)[N+t]? =X[t]?:=by
 rw [lbc (by simp [h])];simp [h]
theorem b7Q {n0 n:Nat} {r s:S} {H H':Hp} (e:n0=n) (h:Fin n r H s H'):Fin n0 r H s H':=by subst e;exact h
theorem b1j {n k:Nat} {v:Rat} {a V G:Nat->Rat} {O:Nat->Nat} {fr:List (Nat × Bool)} {f:Nat × Bool} {A:Nat->Nat->Rat} {bx lx lit:Blk} {H:Hp} (hbx:K7 bx.rows) (hH:H=b9t n k v a V G O fr f A bx lx lit):
 Fin (k+6) (.tup []) H (.tup []) (b1P n k v a V G O fr f A bx):=by
 subst hH
 refine b92 (N:=k+10) (f:=ad0 k) (by simp [b9]) (by omega) (fun i hi=>by unfold ad0;rw [if_pos (by omega)]) (fun i j hi hj h=>by unfold ad0 at h;(repeat' split at h)<;>omega) ?_ trivial
 have r7:ad0 k (k+7)=k+8:=by unfold ad0;rw [if_neg (by omega),if_pos rfl]
 have r8:ad0 k (k+8)=k+10:=by unfold ad0;rw [if_neg (by omega),if_neg (by omega),if_pos rfl]
 have r9:ad0 k (k+9)=k+11:=by unfold ad0;rw [if_neg (by omega),if_neg (by omega),if_neg (by omega)]
 have rl:∀i,i<k+7->ad0 k i=i:=fun i hi=>by unfold ad0;rw [if_pos hi]
 intro i k' hk
 rcases i with _|_|_|_|_|i
 ·injection hk with hk;subst hk
  rw [rl 0 (by omega)]
  exact ⟨_,rfl,rfl,rfl,rfl,.inr ⟨⟨rfl,⟨by rw [C6 (by omega),r8],rfl,rfl,fun h=>h⟩,⟨by rw [C6 (by omega),rl 2 (by omega)],rfl,rfl,fun h=>h⟩,⟨by rw [C6 (by omega),r7],rfl,rfl,fun h=>h⟩,rfl,⟨by rw [C6 (by omega),r9],rfl,rfl,fun h=>h⟩,trivial⟩,trivial⟩⟩
 ·injection hk with hk;subst hk;rw [rl 1 (by omega)];exact ⟨_,rfl,k9 (by simp [K7])⟩
 ·injection hk with hk;subst hk;rw [rl 2 (by omega)];exact ⟨_,rfl,k9 (j6 _)⟩
 ·injection hk with hk;subst hk;rw [rl 3 (by omega)];exact ⟨_,rfl,k9 (by simp [K7])⟩
 ·injection hk with hk;subst hk;rw [rl 4 (by omega)];exact ⟨_,rfl,k9 (by simp [K7])⟩
 ·have hk:((mF k n A).map flB++[bx,flB (rF n a),Z4 (k+1) O,{ mode:=.live,elem:=288,size:=5,rows:=S1 5 k n V++[frC (fz v)++[C.own (k+6) 0 n true]],box:=false },a1w (fr++[f])])[i]? =some k':=hk
  by_cases hi:i<k
  ·rw [M3 (Q6 hi)] at hk
   injection hk with hk;subst hk
   rw [rl (i+5) (by omega)]
   exact ⟨_,M3 (Q6 hi),k9 (j6 _)⟩
  ·obtain ⟨t,rfl⟩:∃t,i=k+t:=⟨i - k,by omega⟩
   rw [a1A (b9 _ _ _)] at hk
   have lk:∀j,(b9t n k v a V G O fr f A bx lx lit)[k+j+5]? =([bx,flB (rF n a),lx,Z4 (k+1) O,lit,{ mode:=.live,elem:=288,size:=5,rows:=S1 5 k n V++[frC (fz v)++[C.own (k+6) 0 n true]],box:=false },a1w (fr++[f])]:Hp)[j]?:=fun j=>a1A (b9 _ _ _)
   rcases t with _|_|_|_|_|t
   ·injection hk with hk;subst hk
    rw [rl (k+0+5) (by omega)]
    exact ⟨_,lk 0,k9 hbx⟩
   ·injection hk with hk;subst hk
    rw [rl (k+1+5) (by omega)]
    exact ⟨_,lk 1,k9 (j6 _)⟩
   ·injection hk with hk;subst hk
    rw [show k+2+5=k+7 by omega,r7]
    exact ⟨_,lk 3,k9 (j6 _)⟩
   ·injection hk with hk;subst hk
    rw [show k+3+5=k+8 by omega,r8]
    refine ⟨_,lk 5,?_⟩
    rw [a9u]
    refine a1R fun j hj=>?_
    have:hnd k j<k+7:=by unfold hnd;split<;>omega
    rw [C6 (by omega),rl _ this]
   ·injection hk with hk;subst hk
    rw [show k+4+5=k+9 by omega,r9]
    exact ⟨_,lk 6,k9 (j6 _)⟩
   ·simp at hk
theorem l7 {a0 a1 a2 a3 a4 a5 a6 b0 b1 b2 b3 b4 b5 b6:Blk} (h0:a0=b0) (h1:a1=b1) (h2:a2=b2) (h3:a3=b3) (h4:a4=b4) (h5:a5=b5) (h6:a6=b6):([a0,a1,a2,a3,a4,a5,a6]:Hp)=[b0,b1,b2,b3,b4,b5,b6]:=by
 subst h0 h1 h2 h3 h4 h5 h6;rfl
theorem a8g {k:Nat} {O:Nat->Nat} {x:Int} (h:x=O k):(toC (a0U k O)).take k++toC [[ti x]]=toC (a0U (k+1) O):=by
 rw [lbn (by simp [toC,B2])]
 unfold a0U
 rw [List.range_succ,lbD,h]
 simp [toC]
theorem ae7 {fr:List (Nat × Bool)} {k:Nat} (h:fr.length=k) (f:Nat × Bool):(toC (a0e fr)).take k++toC [[ti f.1,tb f.2]]=toC (a0e (fr++[f])):=by
 rw [lbn (by simp [toC,a0e,h])]
 unfold a0e
 simp [toC]
theorem b9L (n k row:Nat) (w:H6) (b:Bool) (V G:Nat->Rat) (fr:List (Nat × Bool)) (hfr:fr.length=k) (A:Nat->Nat->Rat) (bx:Blk) (hbx:K7 bx.rows) (hn:n<=1000) (hk:k<=10000) (hrow:row<=100000)
 (hr:k6 (-1) n w.terms=true) (hl:w.terms.length<=1000) (hb:∀t ∈ w.terms,rl t.2<=60000) (hv:rl w.value<=60000):
 e7 Tryz.prog 290 [.c (.ptr 0 0 0),b7 .i64 row,b8z w,i8 b] (a5P n k V G (fun i=>n+i) fr A [bx]) (.tup []) (b1P n k (Z3 b w.value) (sgF b w.terms) V G (fun i=>n+i) fr (row,b) A bx):=by
 have m1:(w.terms.map I4).length=w.terms.length:=by simp
 (refine ac Tryz.func290 ?_;(conv=>whnf);repeat ((first|refine b0x ?_|refine zy ?_);conv=>whnf))
 repeat' (first|refine zz ?_|refine qp b9 ?_|refine b0x ?_|refine .inl ⟨_,_,a0v (N:=k+6) (by simp [b9]) hn,?_⟩|refine m9 (b9 _ _ _) ?_|refine l9 ?_|refine j7 (t:=1) (b9 _ _ _) ?_|refine j7 (t:=2) (b9 _ _ _) ?_|refine j7 (t:=3) (b9 _ _ _) ?_|refine j9 (t:=1) (b9 _ _ _) ?_|refine j9 (t:=2) (b9 _ _ _) ?_|refine j9 (t:=3) (b9 _ _ _) ?_|refine zd ?_ ?_<;>intro h<;>try omega|refine zy ?_|fail)<;>conv=>whnf
 refine j5 e8 (fun q=>([S.c (C.ptr 0 0 0),b7 .i64 row,J,i8 b,J,J,S.c (C.t (T.ptr (E1 w))),J,S.c (C.ptr (k+7) 0 0)]++Jn 13++[z9 w.terms,b7 .i64 w.terms.length,b7 .i64 q]++Jn 73,a5P n k V G (fun i=>n+i) fr A [bx,flB (rF n (Q1 w.terms q)),lnX k n w.value])) w.terms.length (fun _=>True) (idR (k+8)) trivial ?_ ?_
 ·refine a09 (X':=[]) (a1P rfl rfl rfl rfl rfl ?_) rfl (by simp [b9]) ?_ ?_
  ·rfl
  ·intro b hb;simp at hb;rcases hb with rfl|rfl|rfl
   ·exact a4A hbx
   ·exact J1 rfl
   ·exact aC4 (by omega)
  ·exact ⟨⟨p9 (by omega),rfl,rfl⟩,rfl,rfl,k8 rfl,⟨p9 (by omega),rfl,rfl⟩,k8 rfl,g9 (by omega),g9 rfl,trivial⟩
 intro q hq _
 by_cases hlt:q<w.terms.length
 ·obtain ⟨t,ht⟩:∃t,w.terms[q]? =some t:=⟨_,lbf hlt⟩
  obtain ⟨t0,t1,t2⟩:=L0 hr t (lbm ht)
  have gp:(rF n (Q1 w.terms q))[0+t.1.toNat]? =some (fz (Q1 w.terms q t.1.toNat)):=by rw [Nat.zero_add,L4 (by omega)]
  have eV:0+t.1.toNat=t.1.toNat:=by omega
  have e:C9 (flB (rF n (Q1 w.terms q))) ((flB (rF n (Q1 w.terms q))).rows.set (0+t.1.toNat) (frC (fz t.2)))=flB (rF n (Q1 w.terms (q+1))):=by
   have e1:=O8 (row:=rF n (Q1 w.terms q)) (y:=fz t.2) eV
   rw [a03 (by omega),←U0 ht] at e1
   exact e1
  conv=>whnf
  repeat' (first|refine zx ?_|refine g6 ht ?_|refine t6 gp ?_|refine m9 (b9 _ _ _) ?_|refine l9 ?_|refine j7 (t:=1) (b9 _ _ _) ?_|refine j7 (t:=2) (b9 _ _ _) ?_|refine j7 (t:=3) (b9 _ _ _) ?_|refine j9 (t:=1) (b9 _ _ _) ?_|refine j9 (t:=2) (b9 _ _ _) ?_|refine j9 (t:=3) (b9 _ _ _) ?_|refine zd ?_ ?_<;>intro h<;>try omega|fail)<;>conv=>whnf
  all_goals first
   |omega
   |(refine ⟨hlt,trivial,idR (k+8),a09 (X:=[bx,flB (rF n (Q1 w.terms (q+1))),lnX k n w.value]) (a1P rfl rfl rfl rfl rfl (congrArg (fun z=>(mF k n A).map flB++(bx::z::lnX k n w.value::[_])) e)) rfl (by simp [b9]) ?_ ⟨⟨p9 (by omega),rfl,rfl⟩,rfl,rfl,rfl,⟨p9 (by omega),rfl,rfl⟩,rfl,rfl,g9 (by omega),trivial⟩⟩
     intro b hb;simp at hb;rcases hb with rfl|rfl|rfl
     ·exact a4A hbx
     ·exact J1 rfl
     ·exact aC4 (by omega))
 ·have hqe:q=w.terms.length:=by omega
  subst hqe
  cases b with
  |false=>
   conv=>whnf
   repeat' (first|refine ad6 [0,1,2,3,4,5,6,7,9,10,11,12,13,14,15,16,8,17,18,19,20,21,22,23] (by decide +kernel) (by decide +kernel) ?_|refine zz ?_|refine zz ?_|refine zz ?_|refine zz ?_|refine zz ?_|refine zz ?_|refine qp (0,1,2,3,4,5,6,7,9,10,11,12,13,14,15,16,8,17,18,19,20,21,22,23) ?_|refine qp (toC,B2,F9,a0e,hfr) ?_|refine qp (toC,B2,F9,a0e) ?_|refine qp 0 ?_|refine qp (0,1,8,9,10,11,12,13,14,15) ?_|refine qp (0,1) ?_|refine qp 1 ?_|refine E4 (by simp [toC,B2,F9,a0e,hfr]) (by simp [toC,B2,F9,a0e];omega) ?_|refine bl0 [0] ?_|refine bl0 [0,1,8,9,10,11,12,13,14,15] ?_|refine bl0 [0,1] ?_|refine bl0 [1] ?_|refine m9 (b9 _ _ _) ?_|refine l9 ?_|refine j7 (t:=1) (b9 _ _ _) ?_|refine j7 (t:=2) (b9 _ _ _) ?_|refine j7 (t:=3) (b9 _ _ _) ?_|refine j9 (t:=1) (b9 _ _ _) ?_|refine j9 (t:=2) (b9 _ _ _) ?_|refine j9 (t:=3) (b9 _ _ _) ?_|refine j7 (t:=4) (b9 _ _ _) ?_|refine b0L (lbR 1) ?_|refine zd ?_ ?_<;>intro h<;>try omega|refine zy ?_|fail)<;>conv=>whnf
   all_goals try omega
   all_goals refine b7Q (n:=k+6) (by simp [b9]) (b1j (lit:=_) hbx (a1P rfl rfl rfl rfl rfl (congrArg (fun z=>(mF k n A).map flB++z) (l7 rfl rfl rfl ?_ rfl ?_ ?_))))
   ·exact congrArg (fun z=>({ mode:=.live,elem:=3,size:=1,rows:=z,box:=false }:Blk)) (a8g (x:=(n:Int)+k) (by simp))
   ·exact congrArg (fun z=>({ mode:=.live,elem:=288,size:=5,rows:=z,box:=false }:Blk)) (congrArg (fun z=>z++[frC (fz w.value)++[C.own (k+6) 0 n true]]) (lbn (by simp [F9])))
   ·exact congrArg (fun z=>({ mode:=.live,elem:=306,size:=2,rows:=z,box:=false }:Blk)) (ae7 hfr (row,false))
  |true=>
   have nv:=a6h w.value hv
   conv=>whnf
   repeat' (first|refine zx ?_|refine qp nv ?_|refine m9 (b9 _ _ _) ?_|refine l9 ?_|refine j7 (t:=1) (b9 _ _ _) ?_|refine j7 (t:=2) (b9 _ _ _) ?_|refine j7 (t:=3) (b9 _ _ _) ?_|refine j9 (t:=1) (b9 _ _ _) ?_|refine j9 (t:=2) (b9 _ _ _) ?_|refine j9 (t:=3) (b9 _ _ _) ?_|refine zd ?_ ?_<;>intro h<;>try omega|fail)<;>conv=>whnf
   all_goals try omega
   refine j5 e8 (fun q=>([S.c (C.ptr 0 0 0),b7 .i64 row,J,i8 true,J,J,J,J,S.c (C.ptr (k+7) 0 0)]++Jn 33++[z9 w.terms,b7 .i64 w.terms.length,b7 .i64 q]++Jn 53,a5P n k V G (fun i=>n+i) fr A [bx,flB (rF n (a4B w.terms q)),lnX k n (-w.value)])) w.terms.length (fun _=>True) (idR (k+8)) trivial ?_ ?_
   ·refine a09 (X':=[]) (a1P rfl rfl rfl rfl rfl rfl) rfl (by simp [b9]) ?_ ?_
    ·intro b hb;simp at hb;rcases hb with rfl|rfl|rfl
     ·exact a4A hbx
     ·exact J1 rfl
     ·exact aC4 (by omega)
    ·exact ⟨⟨p9 (by omega),rfl,rfl⟩,rfl,rfl,⟨p9 (by omega),rfl,rfl⟩,k8 rfl,g9 (by omega),g9 rfl,trivial⟩
   intro q hq _
   by_cases hlt:q<w.terms.length
   ·obtain ⟨t,ht⟩:∃t,w.terms[q]? =some t:=⟨_,lbf hlt⟩
    obtain ⟨t0,t1,t2⟩:=L0 hr t (lbm ht)
    have nt:=a6h t.2 (hb t (lbm ht))
    have gp:(rF n (a4B w.terms q))[0+t.1.toNat]? =some (fz (a4B w.terms q t.1.toNat)):=by rw [Nat.zero_add,L4 (by omega)]
    have eV:0+t.1.toNat=t.1.toNat:=by omega
    have e:C9 (flB (rF n (a4B w.terms q))) ((flB (rF n (a4B w.terms q))).rows.set (0+t.1.toNat) (frC (fz (-t.2))))=flB (rF n (a4B w.terms (q+1))):=by
     have e1:=O8 (row:=rF n (a4B w.terms q)) (y:=fz (-t.2)) eV
     rw [a03 (by omega),←ar8 ht] at e1
     exact e1
    conv=>whnf
    repeat' (first|refine zx ?_|refine qp nt ?_|refine g6 ht ?_|refine t6 gp ?_|refine m9 (b9 _ _ _) ?_|refine l9 ?_|refine j7 (t:=1) (b9 _ _ _) ?_|refine j7 (t:=2) (b9 _ _ _) ?_|refine j7 (t:=3) (b9 _ _ _) ?_|refine j9 (t:=1) (b9 _ _ _) ?_|refine j9 (t:=2) (b9 _ _ _) ?_|refine j9 (t:=3) (b9 _ _ _) ?_|refine zd ?_ ?_<;>intro h<;>try omega|fail)<;>conv=>whnf
    all_goals first
     |omega
     |(refine ⟨hlt,trivial,idR (k+8),a09 (X:=[bx,flB (rF n (a4B w.terms (q+1))),lnX k n (-w.value)]) (a1P rfl rfl rfl rfl rfl (congrArg (fun z=>(mF k n A).map flB++(bx::z::lnX k n (-w.value)::[_])) e)) rfl (by simp [b9]) ?_ ⟨⟨p9 (by omega),rfl,rfl⟩,rfl,rfl,⟨p9 (by omega),rfl,rfl⟩,rfl,rfl,g9 (by omega),trivial⟩⟩
       intro b hb;simp at hb;rcases hb with rfl|rfl|rfl
       ·exact a4A hbx
       ·exact J1 rfl
       ·exact aC4 (by omega))
   ·have hqe:q=w.terms.length:=by omega
    subst hqe
    have ea:a4B w.terms w.terms.length=sgF true w.terms:=b4s w.terms
    conv=>whnf
    repeat' (first|refine ad6 [0,1,2,3,4,5,6,7,9,10,11,12,13,14,15,16,8,17,18,19,20,21,22,23] (by decide +kernel) (by decide +kernel) ?_|refine zz ?_|refine zz ?_|refine zz ?_|refine zz ?_|refine zz ?_|refine zz ?_|refine qp (0,1,2,3,4,5,6,7,9,10,11,12,13,14,15,16,8,17,18,19,20,21,22,23) ?_|refine qp (toC,B2,F9,a0e,hfr) ?_|refine qp (toC,B2,F9,a0e) ?_|refine qp 0 ?_|refine qp (0,1,8,9,10,11,12,13,14,15) ?_|refine qp (0,1) ?_|refine qp 1 ?_|refine E4 (by simp [toC,B2,F9,a0e,hfr]) (by simp [toC,B2,F9,a0e];omega) ?_|refine bl0 [0] ?_|refine bl0 [0,1,8,9,10,11,12,13,14,15] ?_|refine bl0 [0,1] ?_|refine bl0 [1] ?_|refine m9 (b9 _ _ _) ?_|refine l9 ?_|refine j7 (t:=1) (b9 _ _ _) ?_|refine j7 (t:=2) (b9 _ _ _) ?_|refine j7 (t:=3) (b9 _ _ _) ?_|refine j9 (t:=1) (b9 _ _ _) ?_|refine j9 (t:=2) (b9 _ _ _) ?_|refine j9 (t:=3) (b9 _ _ _) ?_|refine j7 (t:=4) (b9 _ _ _) ?_|refine b0L (lbR 1) ?_|refine zd ?_ ?_<;>intro h<;>try omega|refine zy ?_|fail)<;>conv=>whnf
    all_goals try omega
    all_goals refine b7Q (n:=k+6) (by simp [b9]) (b1j (lit:=_) hbx (a1P rfl rfl rfl rfl rfl (congrArg (fun z=>(mF k n A).map flB++z) (l7 rfl (by rw [ea]) rfl ?_ rfl ?_ ?_))))
    ·exact congrArg (fun z=>({ mode:=.live,elem:=3,size:=1,rows:=z,box:=false }:Blk)) (a8g (x:=(n:Int)+k) (by simp))
    ·exact congrArg (fun z=>({ mode:=.live,elem:=288,size:=5,rows:=z,box:=false }:Blk)) (congrArg (fun z=>z++[frC (fz (-w.value))++[C.own (k+6) 0 n true]]) (lbn (by simp [F9])))
    ·exact congrArg (fun z=>({ mode:=.live,elem:=306,size:=2,rows:=z,box:=false }:Blk)) (ae7 hfr (row,true))
def gR (N:Nat) (f:Nat->Option Nat):List (Option Nat):=(List.range N).map f
theorem a39 {N i:Nat} {f:Nat->Option Nat} (h:i<N):(gR N f)[i]? =some (f i):=by simp [gR,h]
theorem b40 {N i:Nat} {x:Option Nat} {f:Nat->Option Nat} (h:(gR N f)[i]? =some x):i<N∧f i=x:=by
 obtain ⟨h1,h2⟩:=lbe.1 h
 simp [gR] at h1 h2
 exact ⟨h1,h2⟩
theorem aL4 {ρ:List (Option Nat)} {H:Hp}:∀{r:List (Option Nat)} {H':Hp},r.length=H'.length->(∀ (i:Nat) (k':Blk),H'[i]? =some k'->(r[i]? =some none∧k'.rows=[]∧k'.mode=.live)∨∃(j:Nat) (k:Blk),r[i]? =some (some j)∧H[j]? =some k∧a6f ρ H k k')->a2U ρ H r H'
 |[],[],_,_=>trivial
 |[],_::_,h,_=>by simp at h
 |_::_,[],h,_=>by simp at h
 |x::r,k'::H',hl,h=>by
  refine ⟨?_,aL4 (by simpa using hl) fun i k1 hk=>by simpa using h (i+1) k1 (by simpa using hk)⟩
  rcases h 0 k' rfl with ⟨h1,h2,h3⟩|⟨j,k,h1,h2,h3⟩
  ·simp at h1;subst h1;exact ⟨h2,h3⟩
  ·simp at h1;subst h1
   simp only [h2]
   exact h3
theorem b3Y {N:Nat} {f:Nat->Option Nat} {env env':Env} {H H':Hp} (hn:H'.length=N) (hinj:∀i j x,i<N->j<N->f i=some x->f j=some x->i=j)
 (hB:∀(i:Nat) (k':Blk),H'[i]? =some k'->(f i=none∧k'.rows=[]∧k'.mode=.live)∨∃(j:Nat) (k:Blk),f i=some j∧H[j]? =some k∧a6f (gR N f) H k k') (hE:a0Z (gR N f) H env env'):Ent 0 (gR N f) env H env' H':=
 ⟨rfl,a1i fun i j n h1 h2=>by
   obtain ⟨a1,a2⟩:=b40 h1
   obtain ⟨b1,b2⟩:=b40 h2
   exact hinj i j n a1 b1 a2 b2,aL4 (by simp [gR,hn]) fun i k' hk=>by
   have hi:i<N:=by rw [← hn];exact (lbe.1 hk).1
   rcases hB i k' hk with ⟨h1,h2⟩|⟨j,k,h1,h2⟩
   ·exact .inl ⟨by rw [a39 hi,h1],h2⟩
   ·exact .inr ⟨j,k,by rw [a39 hi,h1],h2⟩,hE⟩
theorem a5L {s:k7} (k:Nat):M4 s (k+1)=match s.rows[k]? with
 |none=>M4 s k
 |some w=>M4 s k++(if w.kind≠0 then [(k,false)] else [])++(if w.kind≠1 then [(k,true)] else []):=rfl
theorem aq3 {s:k7} {i:Nat}:∀d,∃rest,M4 s (i+d)=M4 s i++rest
 |0=>⟨[],by simp⟩
 |d+1=>by
  obtain ⟨r,hr⟩:=aq3 (s:=s) (i:=i) d
  rw [show i+(d+1)=(i+d)+1 by omega,a5L]
  cases s.rows[i+d]? with
  |none=>exact ⟨r,hr⟩
  |some w=>exact ⟨r++((if w.kind≠0 then [(i+d,false)] else [])++(if w.kind≠1 then [(i+d,true)] else [])),by simp only;rw [hr,lbE,lbE]⟩
theorem ar4 {s:k7} {i k:Nat} {f:Nat × Bool} (hi:i<=s.rows.length) (h:(M4 s i)[k]? =some f):(g8 s).getD k (0,false)=f:=by
 obtain ⟨r,hr⟩:=aq3 (s:=s) (i:=i) (s.rows.length - i)
 rw [show i+(s.rows.length - i)=s.rows.length by omega] at hr
 unfold g8
 rw [hr,lbl,lbb (lbe.1 h).1,h];rfl
theorem a5l {s:k7}:∀i,(M4 s i).length<=2*i
 |0=>by simp [M4]
 |i+1=>by
  have ih:=a5l (s:=s) i
  rw [a5L]
  cases s.rows[i]? with
  |none=>simp only;omega
  |some w=>
   simp only [lbq]
   split<;>split<;>simp<;>omega
theorem a9Y {s:k7} {i:Nat} {w:H6} (h:s.rows[i]? =some w):M4 s (i+1)=(M4 s i++if w.kind≠0 then [(i,false)] else [])++if w.kind≠1 then [(i,true)] else []:=by
 rw [a5L,h]
def V9 (k:Nat):Nat->Nat:=fun i=>if i=0 then 0 else if i=1 then k+8 else if i=2 then 2 else if i=3 then k+7 else if i=4 then k+9 else if i<k+5 then i else if i=k+5 then k+6 else k+5
theorem ad3 {k:Nat} (i:Nat) (hi:i<k+7):(i=0∧V9 k i=0)∨(i=1∧V9 k i=k+8)∨(i=2∧V9 k i=2)∨(i=3∧V9 k i=k+7)∨(i=4∧V9 k i=k+9)∨(5<=i∧i<k+5∧V9 k i=i)∨(5<=i∧i=k+5∧V9 k i=k+6)∨(5<=i∧i=k+6∧V9 k i=k+5):=by
 unfold V9
 by_cases h0:i=0
 ·rw [if_pos h0];omega
 ·rw [if_neg h0]
  by_cases h1:i=1
  ·rw [if_pos h1];omega
  ·rw [if_neg h1]
   by_cases h2:i=2
   ·rw [if_pos h2];omega
   ·rw [if_neg h2]
    by_cases h3:i=3
    ·rw [if_pos h3];omega
    ·rw [if_neg h3]
     by_cases h4:i=4
     ·rw [if_pos h4];omega
     ·rw [if_neg h4]
      by_cases h5:i<k+5
      ·rw [if_pos h5];omega
      ·rw [if_neg h5]
       by_cases h6:i=k+5
       ·rw [if_pos h6];omega
       ·rw [if_neg h6];omega
theorem b5T {k:Nat}:V9 k (k+6)=k+5:=by
 have:=ad3 (k:=k) (k+6) (by omega)
 omega
theorem b0q {n k:Nat} {a V G:Nat->Rat} {v:Rat} {O:Nat->Nat} {fr:List (Nat × Bool)} {f:Nat × Bool} {A:Nat->Nat->Rat} {bx:Blk} {env env':Env} (hbx:K7 bx.rows) (hv:v=V k) (ha:a=A k)
 (hE:a0Z (fR (k+7) (V9 k)) (b1P n k v a V G O fr f A bx) env env'):Ent 0 (fR (k+7) (V9 k)) env (b1P n k v a V G O fr f A bx) env' (a5P n (k+1) V G O (fr++[f]) A [bx]):=by
 subst hv ha
 have r1:V9 k 1=k+8:=rfl
 have r3:V9 k 3=k+7:=rfl
 have r4:V9 k 4=k+9:=rfl
 have ra:∀i,i<k->V9 k (i+5)=i+5:=fun i hi=>by
  unfold V9
  rw [if_neg (by omega),if_neg (by omega),if_neg (by omega),if_neg (by omega),if_neg (by omega),if_pos (by omega)]
 have rk:V9 k (k+5)=k+6:=by
  unfold V9
  rw [if_neg (by omega),if_neg (by omega),if_neg (by omega),if_neg (by omega),if_neg (by omega),if_neg (by omega),if_pos rfl]
 have rb:V9 k (k+6)=k+5:=by
  unfold V9
  rw [if_neg (by omega),if_neg (by omega),if_neg (by omega),if_neg (by omega),if_neg (by omega),if_neg (by omega),if_neg (by omega)]
 have lk:∀j,(b1P n k (V k) (A k) V G O fr f A bx)[k+j+5]? =([bx,flB (rF n (A k)),Z4 (k+1) O,{ mode:=.live,elem:=288,size:=5,rows:=S1 5 k n V++[frC (fz (V k))++[C.own (k+6) 0 n true]],box:=false },a1w (fr++[f])]:Hp)[j]?:=fun j=>a1A (b9 _ _ _)
 have eV:aE9 k n (V k) V=V:=by funext i;unfold aE9;split<;>simp_all
 refine aV3 (by simp [b9]) (by omega) (fun i hi=>by omega) (fun i j hi hj h=>by have:=ad3 i hi;have:=ad3 j hj;omega) ?_ hE
 intro i k' hk
 rcases i with _|_|_|_|_|i
 ·injection hk with hk;subst hk
  exact ⟨_,rfl,rfl,rfl,rfl,.inr ⟨⟨rfl,⟨by rw [C6 (by omega),r1],rfl,rfl,fun h=>h⟩,⟨by rw [C6 (by omega)];rfl,rfl,rfl,fun h=>h⟩,⟨by rw [C6 (by omega),r3],rfl,rfl,fun h=>h⟩,rfl,⟨by rw [C6 (by omega),r4],rfl,rfl,fun h=>h⟩,trivial⟩,trivial⟩⟩
 ·injection hk with hk;subst hk
  refine ⟨_,lk 3,?_⟩
  rw [a9u,eV]
  refine a1R (h':=fun i=>i+5) fun j hj=>?_
  rw [C6 (by omega)]
  unfold hnd
  by_cases hjk:j=k
  ·subst hjk;rw [if_pos rfl,rk]
  ·rw [if_neg hjk,ra j (by omega)]
 ·injection hk with hk;subst hk;exact ⟨_,rfl,k9 (j6 _)⟩
 ·injection hk with hk;subst hk;exact ⟨_,lk 2,k9 (j6 _)⟩
 ·injection hk with hk;subst hk;exact ⟨_,lk 4,k9 (j6 _)⟩
 ·have hk:((mF (k+1) n A).map flB++[bx])[i]? =some k':=hk
  by_cases hi:i<k+1
  ·rw [M3 (Q6 hi)] at hk
   injection hk with hk;subst hk
   by_cases hik:i=k
   ·subst hik;rw [rk];exact ⟨_,lk 1,k9 (j6 _)⟩
   ·rw [ra i (by omega)]
    exact ⟨_,M3 (Q6 (by omega)),k9 (j6 _)⟩
  ·obtain ⟨t,rfl⟩:∃t,i=(k+1)+t:=⟨i - (k+1),by omega⟩
   rw [a1A (b9 _ _ _)] at hk
   rcases t with _|t
   ·injection hk with hk;subst hk
    rw [show k+1+0+5=k+6 by omega,rb]
    exact ⟨_,lk 0,k9 hbx⟩
   ·simp at hk
theorem b5U {b0 b1 b2 b3 b4 b5 c0 c1 c2 c3 c4 c5:Blk} {L L':Hp} (h0:b0=c0) (h1:b1=c1) (h2:b2=c2) (h3:b3=c3) (h4:b4=c4) (h5:b5=c5) (h6:L=L'):b0::b1::b2::b3::b4::b5::L=c0::c1::c2::c3::c4::c5::L':=a12 h0 h1 h2 h3 h4 h5 h6
theorem J6:∀{last n:Int} {l:List (Int × Rat)},k6 last n l=true->l.length=0∨(l.length:Int)<=n - last - 1
 |_,_,[],_=>.inl rfl
 |last,n,a::r,h=>by
  unfold k6 at h
  simp only [lbN,lbJ] at h
  have ih:=J6 h.2
  have h1:=h.1.1.1
  have h2:=h.1.1.2
  right
  rw [lbu]
  rcases ih with h0|h0
  ·rw [h0];omega
  ·omega
structure b7x (s:k7) (g:List (Int × Rat)) (n:Nat):Prop where
 r:m8 s=true
 tg:k6 (-1) n g=true
 en:s.n=n
 n1:n<=1000
 b:∀w ∈ s.rows,rl w.value<=60000∧∀t ∈ w.terms,rl t.2<=60000
 bg:∀t ∈ g,rl t.2<=60000
 l:s.rows.length<=4000
abbrev rbx (w:H6):Blk:={ mode:=.live,elem:=133,size:=6,rows:=[(E1 w).map C.t],box:=true }
theorem aG2 (w:H6):K7 (rbx w).rows:=j6 [E1 w]
def a8U (s:k7):List T:=[ti s.n,a06 s.rows]
def pF1:Nat->Option Nat:=fun i=>if i=0 then some 1 else if i=2 then some 0 else none
theorem b0B {s:k7} {g:List (Int × Rat)} {k:Nat} {b:Bool} {i:Nat} {w:H6} (h:(g8 s).getD k (0,false)=(i,b)) (hw:s.rows[i]? =some w):Z3 b w.value=(k5 s g).V k:=by
 show _=a3R s ((g8 s).getD k (0,false))
 rw [h];unfold a3R;simp only [hw]
theorem b1N {s:k7} {g:List (Int × Rat)} {k:Nat} {b:Bool} {i:Nat} {w:H6} (h:(g8 s).getD k (0,false)=(i,b)) (hw:s.rows[i]? =some w):sgF b w.terms=(k5 s g).A k:=by
 funext j
 show _=a3N s ((g8 s).getD k (0,false)) j
 rw [h];unfold a3N;simp only [hw];rfl
abbrev dF (m n j q:Nat):Blk:={ mode:=.live,elem:=285,size:=6,rows:=[[C.t (ti n),.own 1 0 m true,.own 2 0 n true,.own 3 0 m true,.own 4 0 j true,.own 5 0 q true]],box:=true }
abbrev b6L (m n j:Nat) (V G:Nat->Rat) (O:Nat->Nat) (fr:List (Nat × Bool)) (A:Nat->Nat->Rat) (X:Hp):Hp:=
 dF m n j fr.length::a0K 6 m n V::flB (rF n G)::Z4 m O::Z4 j (fun j=>j)::a1w fr::((mF m n A).map flB++X)
def fF1:Nat->Option Nat:=fun i=>if i=4 then none else if i<4 then some i else some (i - 1)
theorem b5O {m n:Nat} {V G:Nat->Rat} {O:Nat->Nat} {fr:List (Nat × Bool)} {A:Nat->Nat->Rat} {env env':Env} {H:Hp} (hm:fr.length=m) (hH:H=a5P n m V G O fr A []) (hE:a0Z (gR (m+6) fF1) H env env'):
 Ent 0 (gR (m+6) fF1) env H env' (b6L m n 0 V G O fr A []):=by
 subst hH
 refine b3Y (by simp [b9]) (fun i j x hi hj h1 h2=>by unfold fF1 at h1 h2;(repeat' split at h1)<;>(repeat' split at h2)<;>first|(cases h1;done)|(cases h2;done)|(injection h1 with h1;injection h2 with h2;omega)) ?_ hE
 intro i k' hk
 have fa:∀i,fF1 (i+6)=some (i+5):=fun i=>by unfold fF1;rw [if_neg (by omega),if_neg (by omega)];rfl
 rcases i with _|_|_|_|_|_|i
 ·injection hk with hk;subst hk
  exact .inr ⟨0,_,rfl,rfl,rfl,rfl,rfl,.inr ⟨⟨rfl,⟨by rw [a39 (by omega)];rfl,rfl,rfl,fun h=>h⟩,⟨by rw [a39 (by omega)];rfl,rfl,rfl,fun h=>h⟩,⟨by rw [a39 (by omega)];rfl,rfl,rfl,fun h=>h⟩,⟨by rw [a39 (by omega)];rfl,rfl,rfl⟩,⟨by rw [a39 (by omega)];rfl,rfl,hm.symm,fun h=>h⟩,trivial⟩,trivial⟩⟩
 ·injection hk with hk;subst hk
  refine .inr ⟨1,_,rfl,rfl,a1R (h:=fun i=>i+5) (h':=fun i=>i+6) fun j hj=>?_⟩
  rw [a39 (by omega),fa]
 ·injection hk with hk;subst hk;exact .inr ⟨2,_,rfl,rfl,k9 (j6 _)⟩
 ·injection hk with hk;subst hk;exact .inr ⟨3,_,rfl,rfl,k9 (j6 _)⟩
 ·injection hk with hk;subst hk;exact .inl ⟨rfl,rfl,rfl⟩
 ·injection hk with hk;subst hk;exact .inr ⟨4,_,rfl,rfl,k9 (j6 _)⟩
 ·have hk:((mF m n A).map flB++[])[i]? =some k':=hk
  have hi:i<m:=by have:=(lbe.1 hk).1;simpa [b9] using this
  rw [M3 (Q6 hi)] at hk
  injection hk with hk;subst hk
  exact .inr ⟨i+5,_,fa i,M3 (Q6 hi),k9 (j6 _)⟩
abbrev bd0 (m n j:Nat) (V G:Nat->Rat) (O:Nat->Nat) (fr:List (Nat × Bool)) (A:Nat->Nat->Rat):Hp:=
 { mode:=.live,elem:=285,size:=6,rows:=[[C.t (ti n),.own 1 0 m true,.own 2 0 n true,.own 3 0 m true,.own (m+6) 0 (j+1) true,.own 5 0 fr.length true]],box:=true }::
   a0K 6 m n V::flB (rF n G)::Z4 m O::a9x 3 1::a1w fr::((mF m n A).map flB++[Z4 (j+1) (fun j=>j)])
def fF2 (m:Nat):Nat->Nat:=fun i=>if i=4 then m+6 else i
theorem b6M {m n j:Nat} {V G:Nat->Rat} {O:Nat->Nat} {fr:List (Nat × Bool)} {A:Nat->Nat->Rat} {env env':Env} {H:Hp} (hH:H=bd0 m n j V G O fr A) (hE:a0Z (fR (m+6) (fF2 m)) H env env'):
 Ent 0 (fR (m+6) (fF2 m)) env H env' (b6L m n (j+1) V G O fr A []):=by
 subst hH
 have fa:∀i,i≠4->fF2 m i=i:=fun i hi=>by unfold fF2;rw [if_neg hi]
 refine aV3 (by simp [b9]) (by omega) (fun i hi=>by omega) (fun i j hi hj h=>by unfold fF2 at h;(repeat' split at h)<;>omega) ?_ hE
 intro i k' hk
 rcases i with _|_|_|_|_|_|i
 ·injection hk with hk;subst hk
  exact ⟨_,rfl,rfl,rfl,rfl,.inr ⟨⟨rfl,⟨by rw [C6 (by omega)];rfl,rfl,rfl,fun h=>h⟩,⟨by rw [C6 (by omega)];rfl,rfl,rfl,fun h=>h⟩,⟨by rw [C6 (by omega)];rfl,rfl,rfl,fun h=>h⟩,⟨by rw [C6 (by omega)];rfl,rfl,rfl,fun h=>h⟩,⟨by rw [C6 (by omega)];rfl,rfl,rfl,fun h=>h⟩,trivial⟩,trivial⟩⟩
 ·injection hk with hk;subst hk
  refine ⟨_,rfl,a1R (h:=fun i=>i+6) (h':=fun i=>i+6) fun j hj=>?_⟩
  rw [C6 (by omega),fa _ (by omega)]
 ·injection hk with hk;subst hk;exact ⟨_,rfl,k9 (j6 _)⟩
 ·injection hk with hk;subst hk;exact ⟨_,rfl,k9 (j6 _)⟩
 ·injection hk with hk;subst hk
  refine ⟨_,a1A (t:=0) (b9 _ _ _),k9 (j6 _)⟩
 ·injection hk with hk;subst hk;exact ⟨_,rfl,k9 (j6 _)⟩
 ·have hk:((mF m n A).map flB++[])[i]? =some k':=hk
  have hi:i<m:=by have:=(lbe.1 hk).1;simpa [b9] using this
  rw [M3 (Q6 hi)] at hk
  injection hk with hk;subst hk
  rw [fa _ (by omega)]
  exact ⟨_,M3 (Q6 hi),k9 (j6 _)⟩
theorem ax9 (s:k7) (g:List (Int × Rat)) (n:Nat) (h:b7x s g n):
 e7 Tryz.prog 218 [a1b s,z9 g] [] (.c (.ptr 0 0 0)) (a0a (g8 s).length n (g8 s) (k5 s g)):=by
 have m1:(s.rows.map E1).length=s.rows.length:=by simp
 have m2:(g.map I4).length=g.length:=by simp
 have z0:∀H:Hp,H.length=0->W5 Tryz.prog 289 [b7 .i64 s.n] H (.c (.own 0 0 n true)) [flB (rF n fun _=>0)]:=fun H hH=>by rw [h.en];exact a0v hH h.n1
 have hsl:=h.l
 have htg:=h.tg
 have hbg:=h.bg
 have hgl:=J6 htg
 have hn1:=h.n1
 have hen:=h.en
 have put0:∀(K i:Nat) (w:H6) (b:Bool) (F:List (Nat × Bool)) (bx:Blk),s.rows[i]? =some w->F.length=K->K7 bx.rows->K<=10000->i<=100000->
  e7 Tryz.prog 290 [.c (.ptr 0 0 0),b7 .i64 i,b8z w,i8 b] (a5P n K (k5 s g).V (fun _=>0) (fun i=>n+i) F (k5 s g).A [bx]) (.tup []) (b1P n K (Z3 b w.value) (sgF b w.terms) (k5 s g).V (fun _=>0) (fun i=>n+i) F (i,b) (k5 s g).A bx):=by
  intro K i w b F bx hw hF hbx hK hi
  have hn:=a4h h.r
  have hrw:=(a1c h.r hw).1
  rw [hn,h.en] at hrw
  have hl:=J6 hrw
  have hb:=h.b w (lbm hw)
  exact b9L n K i w b _ _ F hF _ bx hbx h.n1 hK hi hrw (by have:=h.n1;omega) hb.2 hb.1
 (refine ac Tryz.func218 ?_;(conv=>whnf);repeat ((first|refine b0x ?_|refine zy ?_);conv=>whnf))
 repeat' (first|refine zz ?_|refine b0x ?_|refine .inl ⟨_,_,z0 _ rfl,?_⟩|refine zd ?_ ?_<;>intro h<;>try omega|refine zy ?_|fail)<;>conv=>whnf
 refine b4b (fun i=>([J,z9 g,S.c (C.t (T.ptr (a8U s))),J,J,S.c (C.ptr 0 0 0)]++Jn 13++[S.c (C.t (a06 s.rows)),b7 .i64 s.rows.length,b7 .i64 i]++Jn 53,a5P n (M4 s i).length (k5 s g).V (fun _=>0) (fun i=>n+i) (M4 s i) (k5 s g).A [])) s.rows.length (fun _=>True) (gR 5 pF1) trivial ?_ ?_
 ·refine b3Y rfl (fun i j x hi hj h1 h2=>by unfold pF1 at h1 h2;(repeat' split at h1)<;>(repeat' split at h2)<;>first|(cases h1;done)|(cases h2;done)|(injection h1 with h1;injection h2 with h2;omega)) ?_ ?_
  ·intro i k' hk
   rcases i with _|_|_|_|_|i
   ·injection hk with hk;subst hk
    exact .inr ⟨1,_,rfl,rfl,rfl,rfl,rfl,.inr ⟨⟨az6 (by rw [h.en]),⟨rfl,rfl,rfl⟩,⟨rfl,rfl,rfl,fun h=>h⟩,⟨rfl,rfl,rfl⟩,rfl,⟨rfl,rfl,rfl⟩,trivial⟩,trivial⟩⟩
   ·injection hk with hk;subst hk;exact .inl ⟨rfl,rfl,rfl⟩
   ·injection hk with hk;subst hk;exact .inr ⟨0,_,rfl,rfl,k9 (j6 _)⟩
   ·injection hk with hk;subst hk;exact .inl ⟨rfl,rfl,rfl⟩
   ·injection hk with hk;subst hk;exact .inl ⟨rfl,rfl,rfl⟩
   ·simp [mF,M4] at hk
  ·exact ⟨rfl,k8 rfl,⟨rfl,rfl,rfl⟩,k8 rfl,g9 (by omega),g9 rfl,trivial⟩
 intro i hi _
 refine D3 e8 ?_
 conv=>whnf
 repeat' (first|refine zx ?_|refine l9 ?_|refine zd ?_ ?_<;>intro h<;>try omega|fail)<;>conv=>whnf
 ·have hlt:i<s.rows.length:=by omega
  obtain ⟨w,hw⟩:∃w,s.rows[i]? =some w:=⟨_,lbf hlt⟩
  obtain ⟨K,hK⟩:∃K,K=(M4 s i).length:=⟨_,rfl⟩
  rw [← hK]
  obtain ⟨K1,hK1⟩:∃K1,K1=(M4 s i++if w.kind≠0 then [(i,false)] else []).length:=⟨_,rfl⟩
  obtain ⟨F1,hF1⟩:∃F1,F1=(M4 s i++if w.kind≠0 then [(i,false)] else []):=⟨_,rfl⟩
  have hKb:K<=10000:=by have:=a5l (s:=s) i;omega
  refine D3 e8 ?_
  conv=>whnf
  refine aK5 (b06 ?_)
  refine D3 e8 ?_
  conv=>whnf
  repeat' (first|refine zx ?_|refine g6 hw ?_|refine m9 (b9 _ _ _) ?_|refine l9 ?_|refine j7 (t:=0) (b9 _ _ _) ?_|refine j9 (t:=0) (b9 _ _ _) ?_|refine zd ?_ ?_<;>intro h<;>try omega|fail)<;>conv=>whnf
  refine a02 e8 ([J,z9 g,S.c (C.t (T.ptr (a8U s))),J,J,S.c (C.ptr 0 0 0),b7 .i64 i,S.c (C.ptr (K1+5) 0 0)]++Jn 11++[S.c (C.t (a06 s.rows)),b7 .i64 s.rows.length,b7 .i64 i]++Jn 53) (a5P n K1 (k5 s g).V (fun _=>0) (fun i=>n+i) F1 (k5 s g).A [rbx w]) ?_ ?_
  ·by_cases hk:w.kind=0
   ·have e1:F1=M4 s i:=by rw [hF1,if_neg (by simp [hk]),List.append_nil]
    have e2:K1=K:=by rw [hK1,if_neg (by simp [hk]),List.append_nil,hK]
    subst e1 e2
    conv=>whnf
    repeat' (first|refine zx ?_|refine m9 (b9 _ _ _) ?_|refine l9 ?_|refine j7 (t:=0) (b9 _ _ _) ?_|refine j9 (t:=0) (b9 _ _ _) ?_|refine zd ?_ ?_<;>intro h<;>try omega|fail)<;>conv=>whnf
    all_goals first
     |omega
     |exact ⟨idR (K1+6),a09 (X:=[rbx w]) (X':=[]) (a1P rfl rfl rfl rfl rfl rfl) rfl (Nat.zero_le _) (by intro b hb;simp at hb;subst hb;exact a4A (aG2 w)) ⟨rfl,rfl,⟨p9 (by omega),rfl,rfl⟩,rfl,⟨p9 (by omega),rfl,rfl⟩,rfl,rfl,rfl,trivial⟩⟩
   ·have e1:F1=M4 s i++[(i,false)]:=by rw [hF1,if_pos hk]
    have e2:K1=K+1:=by rw [hK1,if_pos hk,lbq,←hK];rfl
    have hg:(g8 s).getD K (0,false)=(i,false):=by
     refine ar4 (i:=i+1) (by omega) ?_
     rw [a9Y hw,if_pos hk,lbE,lbc (by omega),hK];simp
    subst e1 e2
    have pu:=put0 K i w false (M4 s i) (rbx w) hw hK.symm (aG2 w) hKb (by omega)
    conv=>whnf
    repeat' (first|refine zx ?_|refine .inr ⟨_,_,pu,?_⟩|refine m9 (b9 _ _ _) ?_|refine l9 ?_|refine j7 (t:=0) (b9 _ _ _) ?_|refine j9 (t:=0) (b9 _ _ _) ?_|refine zd ?_ ?_<;>intro h<;>try omega|fail)<;>conv=>whnf
    all_goals first
     |omega
     |exact ⟨_,b0q (aG2 w) (b0B hg hw) (b1N hg hw) ⟨rfl,rfl,⟨by rw [C6 (by omega)];rfl,rfl,rfl⟩,rfl,⟨by rw [C6 (by omega),b5T],rfl,rfl⟩,rfl,rfl,rfl,trivial⟩⟩
  ·have hl1:F1.length=K1:=by rw [hF1,hK1]
   have eF:M4 s (i+1)=F1++if w.kind≠1 then [(i,true)] else []:=by rw [a9Y hw,hF1]
   have hK1b:K1<=10000:=by
    have:=a5l (s:=s) i
    rw [hK1,lbq]
    split<;>simp<;>omega
   by_cases hk:w.kind=1
   ·have e1:M4 s (i+1)=F1:=by rw [eF,if_neg (by simp [hk]),List.append_nil]
    refine A8 e8 _ ?_
    conv=>whnf
    repeat' (first|refine zx ?_|refine m9 (b9 _ _ _) ?_|refine l9 ?_|refine j7 (t:=0) (b9 _ _ _) ?_|refine j9 (t:=0) (b9 _ _ _) ?_|refine zd ?_ ?_<;>intro h<;>try omega|fail)<;>conv=>whnf
    all_goals try omega
    refine A8 e8 _ ?_
    conv=>whnf
    repeat' (first|refine zx ?_|refine m9 (b9 _ _ _) ?_|refine l9 ?_|refine j7 (t:=0) (b9 _ _ _) ?_|refine j9 (t:=0) (b9 _ _ _) ?_|refine zd ?_ ?_<;>intro h<;>try omega|fail)<;>conv=>whnf
    refine ⟨hlt,trivial,idR (K1+5),?_⟩
    rw [e1,hl1]
    exact a09 (X:=[]) (X':=[rbx w]) (a1P rfl rfl rfl rfl rfl rfl) rfl (Nat.zero_le _) (by simp) ⟨rfl,rfl,⟨p9 (by omega),rfl,rfl⟩,rfl,rfl,g9 (by omega),trivial⟩
   ·have e1:M4 s (i+1)=F1++[(i,true)]:=by rw [eF,if_pos hk]
    have hg:(g8 s).getD K1 (0,false)=(i,true):=by
     refine ar4 (i:=i+1) (by omega) ?_
     rw [e1,lbc (by omega),hl1];simp
    have pu:=put0 K1 i w true F1 (rbx w) hw hl1 (aG2 w) hK1b (by omega)
    refine A8 e8 _ ?_
    conv=>whnf
    repeat' (first|refine zx ?_|refine .inr ⟨_,_,pu,?_⟩|refine m9 (b9 _ _ _) ?_|refine l9 ?_|refine j7 (t:=0) (b9 _ _ _) ?_|refine j9 (t:=0) (b9 _ _ _) ?_|refine zd ?_ ?_<;>intro h<;>try omega|fail)<;>conv=>whnf
    all_goals try omega
    refine b60 (env':=[J,z9 g,S.c (C.t (T.ptr (a8U s))),J,J,S.c (C.ptr 0 0 0)]++Jn 13++[S.c (C.t (a06 s.rows)),b7 .i64 s.rows.length,b7 .i64 i]++Jn 53) _ (b0q (aG2 w) (b0B hg hw) (b1N hg hw) ⟨rfl,rfl,⟨by rw [C6 (by omega)];rfl,rfl,rfl⟩,rfl,rfl,rfl,trivial⟩) ?_
    refine A8 e8 _ ?_
    conv=>whnf
    repeat' (first|refine zx ?_|refine m9 (b9 _ _ _) ?_|refine l9 ?_|refine j7 (t:=0) (b9 _ _ _) ?_|refine j9 (t:=0) (b9 _ _ _) ?_|refine zd ?_ ?_<;>intro h<;>try omega|fail)<;>conv=>whnf
    refine ⟨hlt,trivial,idR (K1+1+5),?_⟩
    rw [e1,show (F1++[(i,true)]).length=K1+1 by simp [hl1]]
    exact a09 (X:=[]) (X':=[rbx w]) (a1P rfl rfl rfl rfl rfl rfl) rfl (Nat.zero_le _) (by simp) ⟨rfl,rfl,⟨p9 (by omega),rfl,rfl⟩,rfl,rfl,g9 (by omega),trivial⟩
 ·have hie:i=s.rows.length:=by omega
  subst hie
  refine A8 e8 _ ?_
  conv=>whnf
  repeat' (first|refine zx ?_|refine m9 (b9 _ _ _) ?_|refine l9 ?_|refine j7 (t:=0) (b9 _ _ _) ?_|refine j9 (t:=0) (b9 _ _ _) ?_|refine zd ?_ ?_<;>intro h<;>try omega|fail)<;>conv=>whnf
  all_goals try omega
  refine j5 e8 (fun q=>([J,J,S.c (C.t (T.ptr (a8U s))),J,J,S.c (C.ptr 0 0 0)]++Jn 35++[z9 g,b7 .i64 g.length,b7 .i64 q]++Jn 31,a5P n (g8 s).length (k5 s g).V (fun j=>-(Q1 g q j)) (fun i=>n+i) (g8 s) (k5 s g).A [])) g.length (fun _=>True) (idR ((g8 s).length+5)) trivial ?_ ?_
  ·refine a09 (X:=[]) (X':=[]) (a1P rfl rfl ?_ rfl rfl rfl) rfl (Nat.zero_le _) (by simp) ⟨k8 rfl,⟨p9 (by omega),rfl,rfl⟩,k8 rfl,g9 (by omega),g9 rfl,trivial⟩
   rw [G5 (g:=fun _=>0) (h:=fun j=>-(Q1 g 0 j)) fun j hj=>by show (0:Rat)=-0;decide]
  intro q hq _
  by_cases hlt:q<g.length
  ·obtain ⟨t,ht⟩:∃t,g[q]? =some t:=⟨_,lbf hlt⟩
   obtain ⟨t0,t1,t2⟩:=L0 htg t (lbm ht)
   have nt:=a6h t.2 (hbg t (lbm ht))
   have gp:(rF n (fun j=>-(Q1 g q j)))[0+t.1.toNat]? =some (fz (-(Q1 g q t.1.toNat))):=by rw [Nat.zero_add,L4 (by omega)]
   have eV:0+t.1.toNat=t.1.toNat:=by omega
   have e:C9 (flB (rF n (fun j=>-(Q1 g q j)))) ((flB (rF n (fun j=>-(Q1 g q j)))).rows.set (0+t.1.toNat) (frC (fz (-t.2))))=flB (rF n (fun j=>-(Q1 g (q+1) j))):=by
    have e1:=O8 (row:=rF n (fun j=>-(Q1 g q j))) (y:=fz (-t.2)) eV
    rw [a03 (by omega)] at e1
    refine e1.trans ?_
    rw [U0 ht]
    refine congrArg flB ?_
    exact G5 fun j hj=>by show (if j=t.1.toNat then -t.2 else -(Q1 g q j))=-(if j=t.1.toNat then t.2 else Q1 g q j);split<;>rfl
   conv=>whnf
   repeat' (first|refine zx ?_|refine qp nt ?_|refine g6 ht ?_|refine t6 gp ?_|refine m9 (b9 _ _ _) ?_|refine l9 ?_|refine j7 (t:=0) (b9 _ _ _) ?_|refine j9 (t:=0) (b9 _ _ _) ?_|refine zd ?_ ?_<;>intro h<;>try omega|fail)<;>conv=>whnf
   all_goals first
    |omega
    |exact ⟨hlt,trivial,idR ((g8 s).length+5),a09 (X:=[]) (X':=[_]) (a1P rfl rfl e rfl rfl rfl) rfl (Nat.zero_le _) (by simp) ⟨rfl,⟨p9 (by omega),rfl,rfl⟩,rfl,rfl,g9 (by omega),trivial⟩⟩
  ·have hqe:q=g.length:=by omega
   subst hqe
   conv=>whnf
   repeat' (first|refine zx ?_|refine m9 (b9 _ _ _) ?_|refine l9 ?_|refine j7 (t:=0) (b9 _ _ _) ?_|refine j9 (t:=0) (b9 _ _ _) ?_|refine zd ?_ ?_<;>intro h<;>try omega|fail)<;>conv=>whnf
   all_goals try omega
   refine j5 e8 (fun q=>([J,J,J,J,J,S.c (C.ptr 0 0 0)]++Jn 53++[b7 .i64 n,b7 .i64 q]++Jn 14,b6L (g8 s).length n q (k5 s g).V (k5 s g).G (fun i=>n+i) (g8 s) (k5 s g).A [])) n (fun _=>True) (gR ((g8 s).length+6) fF1) trivial ?_ ?_
   ·exact b5O rfl rfl ⟨⟨by rw [a39 (by omega)];rfl,rfl,rfl⟩,g9 hen,g9 rfl,trivial⟩
   intro q hq _
   by_cases hlt:q<n
   ·conv=>whnf
    repeat' (first|refine zx ?_|refine qp (toC,B2) ?_|refine qp (toC,B2) ?_|refine qp 0 ?_|refine E4 (by simp [toC,B2]) (by simp [toC,B2];omega) ?_|refine bl0 [0] ?_|refine m9 (b9 _ _ _) ?_|refine l9 ?_|refine j7 (t:=0) (b9 _ _ _) ?_|refine j9 (t:=0) (b9 _ _ _) ?_|refine zd ?_ ?_<;>intro h<;>try omega|fail)<;>conv=>whnf
    all_goals first
     |omega
     |(refine ⟨hlt,trivial,fR ((g8 s).length+6) (fF2 (g8 s).length),b6M (b5U rfl rfl rfl rfl rfl rfl (congrArg (fun z=>(mF (g8 s).length n (k5 s g).A).map flB++[z]) ?_)) ⟨⟨by rw [C6 (by omega)];rfl,rfl,rfl⟩,rfl,g9 (by omega),trivial⟩⟩
       exact congrArg (fun z=>({ mode:=.live,elem:=3,size:=1,rows:=z,box:=false }:Blk)) (a8g (O:=fun j=>j) (x:=(q:Int)) rfl))
   ·have hqe:q=n:=by omega
    subst hqe
    conv=>whnf
    repeat' (first|refine zx ?_|refine m9 (b9 _ _ _) ?_|refine l9 ?_|refine j7 (t:=0) (b9 _ _ _) ?_|refine j9 (t:=0) (b9 _ _ _) ?_|refine zd ?_ ?_<;>intro h<;>try omega|fail)<;>conv=>whnf
    all_goals try omega
    refine at5 (n:=(g8 s).length+6) a2M (Nat.zero_le _) a77 (fun i _=>?_) ⟨p9 (by omega),rfl,rfl⟩
    have e0:a0a (g8 s).length q (g8 s) (k5 s g)=b6L (g8 s).length q q (k5 s g).V (k5 s g).G (fun i=>q+i) (g8 s) (k5 s g).A []:=by
     have eO:(k5 s g).O=fun i=>q+i:=by funext i;show s.n.toNat+i=_;rw [hen];rfl
     show _::_::_::Z4 _ (k5 s g).O::_::_::_=_::_::_::_::_::_::(_++[])
     rw [List.append_nil,eO];rfl
    rw [e0]
def ptK (n:Nat) (O:Nat->Nat) (v x0:Nat->Rat):Nat->Nat->Rat
 |0=>x0
 |k+1=>fun j=>if O k<n∧j=O k then v k else ptK n O v x0 k j
theorem R5 {n:Nat} {O:Nat->Nat} {v x0:Nat->Rat} {k:Nat}:ptK n O v x0 (k+1)=fun j=>if O k<n∧j=O k then v k else ptK n O v x0 k j:=rfl
theorem ai4 {n:Nat} {O:Nat->Nat} {v x0:Nat->Rat} {j:Nat}:∀{k:Nat},(∀ i,i<k->O i≠j)->ptK n O v x0 k j=x0 j
 |0,_=>rfl
 |k+1,h=>by rw [R5];simp only;rw [if_neg (fun e=>h k (by omega) e.2.symm),ai4 fun i hi=>h i (by omega)]
theorem ah3 {n:Nat} {O:Nat->Nat} {v x0:Nat->Rat} {i:Nat}:∀{k:Nat},i<k->O i<n->(∀ a,a<k->O a=O i->a=i)->ptK n O v x0 k (O i)=v i
 |0,h,_,_=>by omega
 |k+1,h,hn,hu=>by
  rw [R5];simp only
  by_cases he:O k=O i
  ·have:=hu k (by omega) he
   subst this
   rw [if_pos ⟨hn,rfl⟩]
  ·rw [if_neg (fun e=>he e.2.symm)]
   have:i≠k:=fun e=>he (by rw [e])
   exact ah3 (by omega) hn fun a ha=>hu a (by omega)
theorem aS7 {m n:Nat} {D:Fd} (hP:Y3 m n D) {j:Nat} (hj:j<n):ptK n D.O D.V (fun _=>0) m j=N4 m n D 1 (fun _=>0) j:=by
 rcases hP.all j (by omega) with ⟨i,hi,rfl⟩|⟨q,hq,rfl⟩
 ·rw [ah3 hi hj fun a ha he=>hP.oi a i ha hi he,a3O hP hi,A7 fun j _=>by grind];grind
 ·rw [ai4 fun i hi=>hP.of i q hi hq,a0f hP hq]
theorem b0J {m n c:Nat} {D:Fd} (hP:Y3 m n D) (hc:c<n) {j:Nat} (hj:j<n):ptK n D.O (fun i=>-(D.A i c)) (fun j=>if D.F c<n∧j=D.F c then 1 else 0) m j=N4 m n D 0 (fun q=>if q=c then 1 else 0) j:=by
 rcases hP.all j (by omega) with ⟨i,hi,rfl⟩|⟨q,hq,rfl⟩
 ·rw [ah3 hi hj fun a ha he=>hP.oi a i ha hi he,a3O hP hi,j0 (g:=fun q=>(if c=q then (1:Rat) else 0)*D.A i q) fun q _=>by
   by_cases h:q=c
   ·subst h;simp only [if_true];grind
   ·rw [if_neg h,if_neg (fun e=>h e.symm)];grind,b3i hc]
  grind
 ·rw [ai4 fun i hi=>hP.of i q hi hq,a0f hP hq]
  by_cases h:q=c
  ·subst h;rw [if_pos rfl,if_pos ⟨hj,rfl⟩]
  ·rw [if_neg h,if_neg (fun e=>h (hP.fi q c hq hc e.2))]
theorem a5U (n:Nat) (y:Nat->Rat):(zOf n y).map fz=rF n y:=by unfold zOf rF;rw [List.map_map];rfl
abbrev dT (m n:Nat) (fr:List (Nat × Bool)) (D:Fd):S:=.c (.t (.ptr (b7p m n fr D)))
theorem b5G (m n:Nat) (fr:List (Nat × Bool)) (D:Fd) (hP:Y3 m n D) (hm:m<=100000) (hn:n<=1000):e7 Tryz.prog 220 [dT m n fr D] [] (F3 ((zOf n (N4 m n D 1 (fun _=>0))).map fz)) []:=by
 have m1:(a0U m D.O).length=m:=B2 _ _
 have z0:∀H:Hp,H.length=0->W5 Tryz.prog 289 [b7 .i64 n] H (.c (.own 0 0 n true)) [flB (rF n fun _=>0)]:=fun H hH=>a0v hH hn
 rw [a5U,←G5 (g:=ptK n D.O D.V (fun _=>0) m) fun j hj=>aS7 hP hj]
 (refine ac Tryz.func220 ?_;(conv=>whnf);repeat ((first|refine b0x ?_|refine zy ?_);conv=>whnf))
 repeat' (first|refine zx ?_|refine .inl ⟨_,_,z0 _ rfl,?_⟩|refine zd ?_ ?_<;>intro h<;>try omega|fail)<;>conv=>whnf
 refine j5 e8 (fun k=>([dT m n fr D,J,J,S.c (C.own 0 0 n true)]++Jn 10++[a6k m D.O,b7 .i64 m,b7 .i64 k]++Jn 23,[flB (rF n (ptK n D.O D.V (fun _=>0) k))])) m (fun _=>True) [some 0] trivial
  ⟨rfl,rfl,⟨k9 (j6 _),trivial⟩,⟨k8 rfl,⟨rfl,rfl,rfl,fun h=>h⟩,k8 rfl,g9 (by omega),g9 rfl,trivial⟩⟩ ?_
 intro k hk _
 by_cases hlt:k<m
 ·by_cases ho:D.O k<n
  ·have gp:(rF n (ptK n D.O D.V (fun _=>0) k))[0+((D.O k:Nat):Int).toNat]? =some (fz (ptK n D.O D.V (fun _=>0) k (D.O k))):=by rw [show 0+((D.O k:Nat):Int).toNat=D.O k by omega,L4 ho]
   have e:C9 (flB (rF n (ptK n D.O D.V (fun _=>0) k))) ((flB (rF n (ptK n D.O D.V (fun _=>0) k))).rows.set (0+((D.O k:Nat):Int).toNat) (frC (fz (D.V k))))=flB (rF n (ptK n D.O D.V (fun _=>0) (k+1))):=by
    rw [O8 (show 0+((D.O k:Nat):Int).toNat=D.O k by omega),a03 ho,R5]
    refine congrArg flB (G5 fun j hj=>?_)
    simp only [ho,true_and]
   conv=>whnf
   repeat' (first|refine zx ?_|refine G8 rfl hlt ?_|refine a0R rfl hlt ?_|refine t6 gp ?_|refine zd ?_ ?_<;>intro h<;>try omega|fail)<;>conv=>whnf
   all_goals first
    |omega
    |exact ⟨hlt,trivial,[some 0],rfl,rfl,⟨⟨rfl,rfl,rfl,.inl ⟨congrArg Blk.rows e,(congrArg Blk.rows e) ▸ j6 _⟩⟩,trivial⟩,⟨rfl,⟨rfl,rfl,rfl,fun h=>h⟩,rfl,rfl,g9 (by omega),trivial⟩⟩
  ·have e:ptK n D.O D.V (fun _=>0) (k+1)=ptK n D.O D.V (fun _=>0) k:=by rw [R5];funext j;rw [if_neg (fun h=>ho h.1)]
   conv=>whnf
   repeat' (first|refine zx ?_|refine G8 rfl hlt ?_|refine zd ?_ ?_<;>intro h<;>try omega|fail)<;>conv=>whnf
   all_goals first
    |omega
    |exact ⟨hlt,trivial,[some 0],rfl,rfl,⟨b8 (rows:=(rF n (ptK n D.O D.V (fun _=>0) k)).map q9) rfl rfl rfl rfl (by rw [e]),trivial⟩,⟨rfl,⟨rfl,rfl,rfl,fun h=>h⟩,rfl,rfl,g9 (by omega),trivial⟩⟩
 ·have hke:k=m:=by omega
  subst hke
  conv=>whnf
  repeat' (first|refine zx ?_|refine zd ?_ ?_<;>intro h<;>try omega|fail)<;>conv=>whnf
  all_goals first
   |omega
   |exact X5 rfl (fun h=>h) rfl rfl (by simp [P4])
theorem b8x (m n:Nat) (fr:List (Nat × Bool)) (D:Fd) (c:Nat) (hc:c<n) (hP:Y3 m n D) (hm:m<=100000) (hn:n<=1000) (hB:∀i,i<m->rl (D.A i c)<=60000):
 e7 Tryz.prog 221 [dT m n fr D,b7 .i64 c] [] (F3 ((zOf n (N4 m n D 0 (fun q=>if q=c then 1 else 0))).map fz)) []:=by
 have m1:(a0U m D.O).length=m:=B2 _ _
 have z0:∀H:Hp,H.length=0->W5 Tryz.prog 289 [b7 .i64 n] H (.c (.own 0 0 n true)) [flB (rF n fun _=>0)]:=fun H hH=>a0v hH hn
 have i1:=J4 1 (by decide) (by decide)
 obtain ⟨x0,hx0⟩:∃x0:Nat->Rat,x0=fun j=>if D.F c<n∧j=D.F c then 1 else 0:=⟨_,rfl⟩
 rw [a5U,←G5 (g:=ptK n D.O (fun i=>-(D.A i c)) x0 m) fun j hj=>by rw [hx0];exact b0J hP hc hj]
 by_cases hf:D.F c<n
 ·have gp0:(rF n (fun _=>(0:Rat)))[0+((D.F c:Nat):Int).toNat]? =some (fz 0):=by rw [show 0+((D.F c:Nat):Int).toNat=D.F c by omega,L4 hf]
  have e0:C9 (flB (rF n (fun _=>(0:Rat)))) ((flB (rF n (fun _=>(0:Rat)))).rows.set (0+((D.F c:Nat):Int).toNat) (frC (fz ((1:Int):Rat))))=flB (rF n x0):=by
   rw [O8 (show 0+((D.F c:Nat):Int).toNat=D.F c by omega),a03 hf,hx0]
   refine congrArg flB (G5 fun j hj=>?_)
   simp only [hf,true_and];rfl
  (refine ac Tryz.func221 ?_;(conv=>whnf);repeat ((first|refine b0x ?_|refine zy ?_);conv=>whnf))
  repeat' (first|refine zx ?_|refine qp i1 ?_|refine .inl ⟨_,_,z0 _ rfl,?_⟩|refine G8 rfl hc ?_|refine t6 gp0 ?_|refine zd ?_ ?_<;>intro h<;>try omega|fail)<;>conv=>whnf
  all_goals try omega
  refine j5 e8 (fun k=>([dT m n fr D,b7 .i64 c,J,J,J,S.c (C.own 0 0 n true)]++Jn 28++[a6k m D.O,b7 .i64 m,b7 .i64 k]++Jn 27,[flB (rF n (ptK n D.O (fun i=>-(D.A i c)) x0 k))])) m (fun _=>True) [some 0] trivial
   ⟨rfl,rfl,⟨⟨rfl,rfl,rfl,.inl ⟨congrArg Blk.rows e0,(congrArg Blk.rows e0) ▸ j6 _⟩⟩,trivial⟩,⟨k8 rfl,g9 rfl,⟨rfl,rfl,rfl,fun h=>h⟩,k8 rfl,g9 (by omega),g9 rfl,trivial⟩⟩ ?_
  intro k hk _
  by_cases hlt:k<m
  ·have ng:=a6h (D.A k c) (hB k hlt)
   by_cases ho:D.O k<n
   ·have gp:(rF n (ptK n D.O (fun i=>-(D.A i c)) x0 k))[0+((D.O k:Nat):Int).toNat]? =some (fz (ptK n D.O (fun i=>-(D.A i c)) x0 k (D.O k))):=by rw [show 0+((D.O k:Nat):Int).toNat=D.O k by omega,L4 ho]
    have e:C9 (flB (rF n (ptK n D.O (fun i=>-(D.A i c)) x0 k))) ((flB (rF n (ptK n D.O (fun i=>-(D.A i c)) x0 k))).rows.set (0+((D.O k:Nat):Int).toNat) (frC (fz (-(D.A k c)))))=flB (rF n (ptK n D.O (fun i=>-(D.A i c)) x0 (k+1))):=by
     rw [O8 (show 0+((D.O k:Nat):Int).toNat=D.O k by omega),a03 ho,R5]
     refine congrArg flB (G5 fun j hj=>?_)
     simp only [ho,true_and]
    conv=>whnf
    repeat' (first|refine zx ?_|refine qp ng ?_|refine G8 rfl hlt ?_|refine a0R rfl hlt ?_|refine a3C rfl hc ?_|refine t6 gp ?_|refine zd ?_ ?_<;>intro h<;>try omega|fail)<;>conv=>whnf
    all_goals first
     |omega
     |exact ⟨hlt,trivial,[some 0],rfl,rfl,⟨⟨rfl,rfl,rfl,.inl ⟨congrArg Blk.rows e,(congrArg Blk.rows e) ▸ j6 _⟩⟩,trivial⟩,⟨rfl,rfl,⟨rfl,rfl,rfl,fun h=>h⟩,rfl,rfl,g9 (by omega),trivial⟩⟩
   ·have e:ptK n D.O (fun i=>-(D.A i c)) x0 (k+1)=ptK n D.O (fun i=>-(D.A i c)) x0 k:=by rw [R5];funext j;rw [if_neg (fun h=>ho h.1)]
    conv=>whnf
    repeat' (first|refine zx ?_|refine G8 rfl hlt ?_|refine zd ?_ ?_<;>intro h<;>try omega|fail)<;>conv=>whnf
    all_goals first
     |omega
     |exact ⟨hlt,trivial,[some 0],rfl,rfl,⟨b8 (rows:=(rF n (ptK n D.O (fun i=>-(D.A i c)) x0 k)).map q9) rfl rfl rfl rfl (by rw [e]),trivial⟩,⟨rfl,rfl,⟨rfl,rfl,rfl,fun h=>h⟩,rfl,rfl,g9 (by omega),trivial⟩⟩
  ·have hke:k=m:=by omega
   subst hke
   conv=>whnf
   repeat' (first|refine zx ?_|refine zd ?_ ?_<;>intro h<;>try omega|fail)<;>conv=>whnf
   all_goals first
    |omega
    |exact X5 rfl (fun h=>h) rfl rfl (by simp [P4])
 ·have e0:x0=fun _=>0:=by rw [hx0];funext j;rw [if_neg (fun h=>hf h.1)]
  (refine ac Tryz.func221 ?_;(conv=>whnf);repeat ((first|refine b0x ?_|refine zy ?_);conv=>whnf))
  repeat' (first|refine zx ?_|refine qp i1 ?_|refine .inl ⟨_,_,z0 _ rfl,?_⟩|refine G8 rfl hc ?_|refine zd ?_ ?_<;>intro h<;>try omega|fail)<;>conv=>whnf
  all_goals try omega
  refine j5 e8 (fun k=>([dT m n fr D,b7 .i64 c,J,J,J,S.c (C.own 0 0 n true)]++Jn 28++[a6k m D.O,b7 .i64 m,b7 .i64 k]++Jn 27,[flB (rF n (ptK n D.O (fun i=>-(D.A i c)) x0 k))])) m (fun _=>True) [some 0] trivial
   ⟨rfl,rfl,⟨b8 (rows:=(rF n (fun _=>0)).map q9) rfl rfl rfl rfl (by rw [e0];rfl),trivial⟩,⟨k8 rfl,g9 rfl,⟨rfl,rfl,rfl,fun h=>h⟩,k8 rfl,g9 (by omega),g9 rfl,trivial⟩⟩ ?_
  intro k hk _
  by_cases hlt:k<m
  ·have ng:=a6h (D.A k c) (hB k hlt)
   by_cases ho:D.O k<n
   ·have gp:(rF n (ptK n D.O (fun i=>-(D.A i c)) x0 k))[0+((D.O k:Nat):Int).toNat]? =some (fz (ptK n D.O (fun i=>-(D.A i c)) x0 k (D.O k))):=by rw [show 0+((D.O k:Nat):Int).toNat=D.O k by omega,L4 ho]
    have e:C9 (flB (rF n (ptK n D.O (fun i=>-(D.A i c)) x0 k))) ((flB (rF n (ptK n D.O (fun i=>-(D.A i c)) x0 k))).rows.set (0+((D.O k:Nat):Int).toNat) (frC (fz (-(D.A k c)))))=flB (rF n (ptK n D.O (fun i=>-(D.A i c)) x0 (k+1))):=by
     rw [O8 (show 0+((D.O k:Nat):Int).toNat=D.O k by omega),a03 ho,R5]
     refine congrArg flB (G5 fun j hj=>?_)
     simp only [ho,true_and]
    conv=>whnf
    repeat' (first|refine zx ?_|refine qp ng ?_|refine G8 rfl hlt ?_|refine a0R rfl hlt ?_|refine a3C rfl hc ?_|refine t6 gp ?_|refine zd ?_ ?_<;>intro h<;>try omega|fail)<;>conv=>whnf
    all_goals first
     |omega
     |exact ⟨hlt,trivial,[some 0],rfl,rfl,⟨⟨rfl,rfl,rfl,.inl ⟨congrArg Blk.rows e,(congrArg Blk.rows e) ▸ j6 _⟩⟩,trivial⟩,⟨rfl,rfl,⟨rfl,rfl,rfl,fun h=>h⟩,rfl,rfl,g9 (by omega),trivial⟩⟩
   ·have e:ptK n D.O (fun i=>-(D.A i c)) x0 (k+1)=ptK n D.O (fun i=>-(D.A i c)) x0 k:=by rw [R5];funext j;rw [if_neg (fun h=>ho h.1)]
    conv=>whnf
    repeat' (first|refine zx ?_|refine G8 rfl hlt ?_|refine zd ?_ ?_<;>intro h<;>try omega|fail)<;>conv=>whnf
    all_goals first
     |omega
     |exact ⟨hlt,trivial,[some 0],rfl,rfl,⟨b8 (rows:=(rF n (ptK n D.O (fun i=>-(D.A i c)) x0 k)).map q9) rfl rfl rfl rfl (by rw [e]),trivial⟩,⟨rfl,rfl,⟨rfl,rfl,rfl,fun h=>h⟩,rfl,rfl,g9 (by omega),trivial⟩⟩
  ·have hke:k=m:=by omega
   subst hke
   conv=>whnf
   repeat' (first|refine zx ?_|refine zd ?_ ?_<;>intro h<;>try omega|fail)<;>conv=>whnf
   all_goals first
    |omega
    |exact X5 rfl (fun h=>h) rfl rfl (by simp [P4])
def a7f (y:Nat->Rat) (r:Nat) (p:Rat):Nat->Rat:=fun i=>if i=r then y i+p else y i
theorem b99 (b:Bool) (p:Rat):rl (Z3 b p)=rl p:=by cases b;rfl;exact a2w p
theorem a6s (m n:Nat) (fr:List (Nat × Bool)) (D:Fd) (R:Nat) (y:Nat->Rat) (k row:Nat) (b:Bool) (p:Rat) (hk:fr[k]? =some (row,b)) (hr:row<R) (hp:rl p<=50000) (hy:rl (y row)<=50000):
 e7 Tryz.prog 298 [dT m n fr D,.c (.own 0 0 R true),b7 .i64 k,frS (fz p)] [flB (rF R y)] (.tup []) [flB (rF R (a7f y row (-(Z3 b p))))]:=by
 have m1:(a0e fr).length=fr.length:=by simp [a0e]
 have eR:0+(row:Int).toNat=row:=by omega
 have gp:(rF R y)[0+(row:Int).toNat]? =some (fz (y row)):=by rw [eR,L4 hr]
 have ng:=a6h p (by omega)
 cases b with
 |true=>
  have ad:=a4S (y row) p (by omega) (by omega)
  have e:C9 (flB (rF R y)) ((flB (rF R y)).rows.set (0+(row:Int).toNat) (frC (fz (y row+p))))=flB (rF R (a7f y row (-(Z3 true p)))):=by
   rw [O8 eR,a03 hr]
   refine congrArg flB (G5 fun j hj=>?_)
   show (if j=row then y row+p else y j)=if j=row then y j+- -p else y j
   by_cases h:j=row
   ·subst h;rw [if_pos rfl,if_pos rfl,Rat.neg_neg]
   ·rw [if_neg h,if_neg h]
  (refine ac Tryz.func298 ?_;(conv=>whnf);repeat (refine zy ?_;conv=>whnf))
  repeat' (first|refine zx ?_|refine qp ng ?_|refine qp ad ?_|refine qp 12 ?_|refine g6 hk ?_|refine t6 gp ?_|refine bl0 [12] ?_|refine zd ?_ ?_<;>intro h<;>try omega|fail)<;>conv=>whnf
  all_goals first
   |omega
   |(exfalso;simp_all;done)
   |exact ⟨[some 0],rfl,rfl,⟨⟨rfl,rfl,rfl,.inl ⟨congrArg Blk.rows e,(congrArg Blk.rows e) ▸ j6 _⟩⟩,trivial⟩,trivial⟩
 |false=>
  have ad:=a4S (y row) (-p) (by omega) (by rw [a2w];omega)
  have e:C9 (flB (rF R y)) ((flB (rF R y)).rows.set (0+(row:Int).toNat) (frC (fz (y row+-p))))=flB (rF R (a7f y row (-(Z3 false p)))):=by
   rw [O8 eR,a03 hr]
   refine congrArg flB (G5 fun j hj=>?_)
   show (if j=row then y row+-p else y j)=if j=row then y j+-p else y j
   by_cases h:j=row
   ·subst h;rfl
   ·rw [if_neg h,if_neg h]
  (refine ac Tryz.func298 ?_;(conv=>whnf);repeat (refine zy ?_;conv=>whnf))
  repeat' (first|refine zx ?_|refine qp ng ?_|refine qp ad ?_|refine qp 12 ?_|refine g6 hk ?_|refine t6 gp ?_|refine bl0 [12] ?_|refine zd ?_ ?_<;>intro h<;>try omega|fail)<;>conv=>whnf
  all_goals first
   |omega
   |(exfalso;simp_all;done)
   |exact ⟨[some 0],rfl,rfl,⟨⟨rfl,rfl,rfl,.inl ⟨congrArg Blk.rows e,(congrArg Blk.rows e) ▸ j6 _⟩⟩,trivial⟩,trivial⟩
def yK (z:Nat->Rat) (f:Nat->Nat->Rat) (k:Nat):Nat->Rat:=fun i=>z i+i9 (fun j=>f j i) k
theorem a4X {z:Nat->Rat} {f:Nat->Nat->Rat} {k:Nat}:yK z f (k+1)=fun i=>yK z f k i+f k i:=by
 funext i;unfold yK;simp only [i9];grind
theorem a9a {f:Nat->Rat} {B:Nat}:∀k:Nat,(∀ j,j<k->rl (f j)<=B)->rl (i9 f k)<=k*(B+1)+1
 |0,_=>by
  have h0:=rl0
  have e:i9 f 0=0:=by simp only [i9,X6]
  rw [e];omega
 |k+1,h=>by
  have h1:=a9a k fun j hj=>h j (by omega)
  have h2:=h k (by omega)
  have h3:=a2s (i9 f k) (f k)
  simp only [i9]
  rw [lbV]
  omega
theorem aD9 {s:k7} {w i B:Nat} {p:Rat} (h:rl p<=B) (hB:1<=B):rl (chg s w p i)<=B:=by
 unfold chg
 split
 ·rw [a2w,b99];exact h
 ·have:=rl0;omega
theorem a9g {s:k7} {w:Nat} {p:Rat} (h:w<s.n.toNat):chg s w p=fun _=>0:=by
 funext i;unfold chg;rw [if_neg (fun e=>by omega)]
theorem aA4 {s:k7} {w k row:Nat} {b:Bool} {p:Rat} (hw:w=s.n.toNat+k) (hf:(g8 s)[k]? =some (row,b)) (y:Nat->Rat):a7f y row (-(Z3 b p))=fun i=>y i+chg s w p i:=by
 funext i
 have e:az2 s (w - s.n.toNat)=(row,b):=by unfold az2;rw [show w - s.n.toNat=k by omega,lbl,hf];rfl
 unfold a7f chg
 rw [e]
 by_cases h:i=row
 ·subst h;rw [if_pos rfl,if_pos ⟨by omega,rfl⟩]
 ·rw [if_neg h,if_neg (fun e=>h e.2.symm)];grind
theorem a6Q {s:k7} {k:Nat} {f:Nat × Bool} (h:(g8 s)[k]? =some f):f.1<s.rows.length:=by
 obtain ⟨w,hw,_⟩:=a0o.1 (lbm h)
 exact (lbe.1 hw).1
theorem b3d (s:k7) (n:Nat) (hn:s.n=n) (E:Fd) (hP:Y3 (g8 s).length n E) (B:Nat) (hB:∀j,j<n->rl (E.G j)<=B) (hB1:1<=B) (hBn:(n+2)*(B+2)<=50000) (hm:(g8 s).length<=100000) (hR:s.rows.length<=1000) (hn1:n<=1000):
 e7 Tryz.prog 223 [dT (g8 s).length n (g8 s) E,b7 .i64 s.rows.length] [] (.c (.own 0 0 s.rows.length true)) [flB (rF s.rows.length (a2d s E))]:=by
 have m1:(a0U n E.F).length=n:=B2 _ _
 have hnn:s.n.toNat=n:=by omega
 have z0:∀H:Hp,H.length=0->W5 Tryz.prog 289 [b7 .i64 s.rows.length] H (.c (.own 0 0 s.rows.length true)) [flB (rF s.rows.length fun _=>0)]:=fun H hH=>a0v hH hR
 have eB:B<=50000:=by
  have:(n+2)*(B+2)=n*(B+2)+2*(B+2):=by rw [Nat.add_mul]
  omega
 obtain ⟨f,hf⟩:∃f:Nat->Nat->Rat,f=fun j=>chg s (E.F j) (-(E.G j)):=⟨_,rfl⟩
 have e9:a2d s E=yK (fun _=>0) f n:=by
  funext i;unfold a2d yK;rw [hf,hnn];grind
 rw [e9]
 (refine ac Tryz.func223 ?_;(conv=>whnf);repeat ((first|refine b0x ?_|refine zy ?_);conv=>whnf))
 repeat' (first|refine zx ?_|refine .inl ⟨_,_,z0 _ rfl,?_⟩|refine zd ?_ ?_<;>intro h<;>try omega|fail)<;>conv=>whnf
 refine j5 e8 (fun k=>([dT (g8 s).length n (g8 s) E,J,J,J,J,S.c (C.own 0 0 s.rows.length true),J,J,J,J,J,J,J,a6k n E.F,b7 .i64 n,b7 .i64 k]++Jn 29,[flB (rF s.rows.length (yK (fun _=>0) f k))])) n (fun _=>True) [some 0] trivial
  ⟨rfl,rfl,⟨b8 (rows:=(rF s.rows.length (fun _=>0)).map q9) rfl rfl rfl rfl ?_,trivial⟩,⟨k8 rfl,⟨rfl,rfl,rfl,fun h=>h⟩,k8 rfl,g9 (by omega),g9 rfl,trivial⟩⟩ ?_
 ·rw [G5 (g:=yK (fun _=>0) f 0) (h:=fun _=>0) fun j hj=>by unfold yK;simp only [i9,X6];grind]
 intro k hk _
 by_cases hlt:k<n
 ·have ng:=a6h (E.G k) (by have:=hB k hlt;omega)
  by_cases ho:E.F k<n
  ·have e:yK (fun _=>0) f (k+1)=yK (fun _=>0) f k:=by
    rw [a4X,hf];funext i
    have e0:chg s (E.F k) (-(E.G k)) i=0:=by rw [a9g (by omega)]
    show _+chg s (E.F k) (-(E.G k)) i=_
    rw [e0];grind
   conv=>whnf
   repeat' (first|refine zx ?_|refine G8 rfl hlt ?_|refine zd ?_ ?_<;>intro h<;>try omega|fail)<;>conv=>whnf
   all_goals first
    |omega
    |exact ⟨hlt,trivial,[some 0],rfl,rfl,⟨b8 (rows:=(rF s.rows.length (yK (fun _=>0) f k)).map q9) rfl rfl rfl rfl (by rw [e]),trivial⟩,⟨rfl,⟨rfl,rfl,rfl,fun h=>h⟩,rfl,rfl,g9 (by omega),trivial⟩⟩
  ·have hfb:=hP.fb k hlt
   obtain ⟨q,hq⟩:∃q,E.F k=n+q:=⟨E.F k - n,by omega⟩
   obtain ⟨⟨row,b⟩,hfr⟩:∃x,(g8 s)[q]? =some x:=⟨_,lbf (by omega)⟩
   have hrow:row<s.rows.length:=a6Q hfr
   have by1:rl (yK (fun _=>0) f k row)<=50000:=by
    have h1:=a9a (f:=fun j=>f j row) (B:=B) k fun j hj=>by rw [hf];exact aD9 (by rw [a2w];exact hB j (by omega)) hB1
    have e:yK (fun _=>0) f k row=i9 (fun j=>f j row) k:=by unfold yK;grind
    rw [e]
    have:k*(B+1)<=n*(B+1):=lbU _ (by omega)
    have:(n+2)*(B+2)=n*(B+1)+n+2*(B+2):=by rw [Nat.add_mul,show n*(B+2)=n*(B+1)+n by rw [Nat.mul_add,Nat.mul_add];omega]
    omega
   have ch:=a6s (g8 s).length n (g8 s) E s.rows.length (yK (fun _=>0) f k) q row b (-(E.G k)) hfr hrow (by rw [a2w];have:=hB k hlt;omega) by1
   have e:a7f (yK (fun _=>0) f k) row (-(Z3 b (-(E.G k))))=yK (fun _=>0) f (k+1):=by rw [aA4 (s:=s) (w:=E.F k) (by omega) hfr,a4X,hf]
   rw [e,show ((q:Nat):Int)=(E.F k:Int) - n by omega] at ch
   conv=>whnf
   repeat' (first|refine zx ?_|refine qp ng ?_|refine G8 rfl hlt ?_|refine a3C rfl hlt ?_|refine .inr ⟨_,_,ch,?_⟩|refine zd ?_ ?_<;>intro h<;>try omega|fail)<;>conv=>whnf
   all_goals first
    |omega
    |exact ⟨hlt,trivial,[some 0],rfl,rfl,⟨k9 (j6 _),trivial⟩,⟨rfl,⟨rfl,rfl,rfl,fun h=>h⟩,rfl,rfl,g9 (by omega),trivial⟩⟩
 ·have hke:k=n:=by omega
  subst hke
  conv=>whnf
  repeat' (first|refine zx ?_|refine zd ?_ ?_<;>intro h<;>try omega|fail)<;>conv=>whnf
  all_goals first
   |omega
   |exact ⟨[some 0],rfl,rfl,⟨k9 (j6 _),trivial⟩,⟨rfl,rfl,rfl,fun h=>h⟩⟩
theorem ax6 (s:k7) (n r:Nat) (hn:s.n=n) (E:Fd) (hP:Y3 (g8 s).length n E) (hr:r<(g8 s).length) (B:Nat) (hB:∀j,j<n->rl (E.A r j)<=B) (hB1:1<=B) (hBn:(n+3)*(B+2)<=50000) (hm:(g8 s).length<=100000) (hR:s.rows.length<=1000) (hn1:n<=1000):
 e7 Tryz.prog 222 [dT (g8 s).length n (g8 s) E,b7 .i64 s.rows.length,b7 .i64 r] [] (.c (.own 0 0 s.rows.length true)) [flB (rF s.rows.length (a8E s E r))]:=by
 have m1:(a0U n E.F).length=n:=B2 _ _
 have hnn:s.n.toNat=n:=by omega
 have z0:∀H:Hp,H.length=0->W5 Tryz.prog 289 [b7 .i64 s.rows.length] H (.c (.own 0 0 s.rows.length true)) [flB (rF s.rows.length fun _=>0)]:=fun H hH=>a0v hH hR
 have i1:=J4 1 (by decide) (by decide)
 have eBn:(n+3)*(B+2)=n*(B+1)+n+3*(B+2):=by rw [Nat.add_mul,show n*(B+2)=n*(B+1)+n by rw [Nat.mul_add,Nat.mul_add];omega]
 have eB:B<=50000:=by omega
 obtain ⟨f,hf⟩:∃f:Nat->Nat->Rat,f=fun j=>chg s (E.F j) (E.A r j):=⟨_,rfl⟩
 obtain ⟨z,hz⟩:∃z:Nat->Rat,z=chg s (E.O r) 1:=⟨_,rfl⟩
 have zb:∀i,rl (z i)<=B:=fun i=>by rw [hz];exact aD9 (by have:=rl1;omega) hB1
 have e9:a8E s E r=yK z f n:=by
  funext i;unfold a8E yK;rw [hf,hnn,hz]
 rw [e9]
 have hob:=hP.ob r hr
 by_cases ho:E.O r<n
 ·have ez:z=fun _=>0:=by rw [hz,a9g (by omega)]
  (refine ac Tryz.func222 ?_;(conv=>whnf);repeat ((first|refine b0x ?_|refine zy ?_);conv=>whnf))
  repeat' (first|refine zx ?_|refine .inl ⟨_,_,z0 _ rfl,?_⟩|refine G8 rfl hr ?_|refine zd ?_ ?_<;>intro h<;>try omega|fail)<;>conv=>whnf
  all_goals try omega
  refine j5 e8 (fun k=>([dT (g8 s).length n (g8 s) E,J,b7 .i64 r,J,J,J,J,S.c (C.own 0 0 s.rows.length true)]++Jn 31++[a6k n E.F,b7 .i64 n,b7 .i64 k]++Jn 32,[flB (rF s.rows.length (yK z f k))])) n (fun _=>True) [some 0] trivial
   ⟨rfl,rfl,⟨b8 (rows:=(rF s.rows.length z).map q9) rfl rfl rfl (by rw [ez]) ?_,trivial⟩,⟨k8 rfl,g9 rfl,⟨rfl,rfl,rfl,fun h=>h⟩,k8 rfl,g9 (by omega),g9 rfl,trivial⟩⟩ ?_
  ·rw [G5 (g:=yK z f 0) (h:=z) fun j hj=>by unfold yK;simp only [i9,X6];grind]
  intro k hk _
  by_cases hlt:k<n
  ·have ba:=hB k hlt
   by_cases ho2:E.F k<n
   ·have e:yK z f (k+1)=yK z f k:=by
     rw [a4X,hf];funext i
     have e0:chg s (E.F k) (E.A r k) i=0:=by rw [a9g (by omega)]
     show _+chg s (E.F k) (E.A r k) i=_
     rw [e0];grind
    conv=>whnf
    repeat' (first|refine zx ?_|refine G8 rfl hlt ?_|refine zd ?_ ?_<;>intro h<;>try omega|fail)<;>conv=>whnf
    all_goals first
     |omega
     |exact ⟨hlt,trivial,[some 0],rfl,rfl,⟨b8 (rows:=(rF s.rows.length (yK z f k)).map q9) rfl rfl rfl rfl (by rw [e]),trivial⟩,⟨rfl,rfl,⟨rfl,rfl,rfl,fun h=>h⟩,rfl,rfl,g9 (by omega),trivial⟩⟩
   ·have hfb:=hP.fb k hlt
    obtain ⟨q2,hq2⟩:∃q2,E.F k=n+q2:=⟨E.F k - n,by omega⟩
    obtain ⟨⟨row2,b2⟩,hfr2⟩:∃x,(g8 s)[q2]? =some x:=⟨_,lbf (by omega)⟩
    have hrow2:row2<s.rows.length:=a6Q hfr2
    have by1:rl (yK z f k row2)<=50000:=by
     have h1:=a9a (f:=fun j=>f j row2) (B:=B) k fun j hj=>by rw [hf];exact aD9 (hB j (by omega)) hB1
     have h2:=a2s (z row2) (i9 (fun j=>f j row2) k)
     have h3:=zb row2
     have:k*(B+1)<=n*(B+1):=lbU _ (by omega)
     unfold yK
     omega
    have ch2:=a6s (g8 s).length n (g8 s) E s.rows.length (yK z f k) q2 row2 b2 (E.A r k) hfr2 hrow2 (by omega) by1
    have e:a7f (yK z f k) row2 (-(Z3 b2 (E.A r k)))=yK z f (k+1):=by rw [aA4 (s:=s) (w:=E.F k) (by omega) hfr2,a4X,hf]
    rw [e,show ((q2:Nat):Int)=(E.F k:Int) - n by omega] at ch2
    conv=>whnf
    repeat' (first|refine zx ?_|refine G8 rfl hlt ?_|refine a0R rfl hr ?_|refine a3C rfl hlt ?_|refine .inr ⟨_,_,ch2,?_⟩|refine zd ?_ ?_<;>intro h<;>try omega|fail)<;>conv=>whnf
    all_goals first
     |omega
     |exact ⟨hlt,trivial,[some 0],rfl,rfl,⟨k9 (j6 _),trivial⟩,⟨rfl,rfl,⟨rfl,rfl,rfl,fun h=>h⟩,rfl,rfl,g9 (by omega),trivial⟩⟩
  ·have hke:k=n:=by omega
   subst hke
   conv=>whnf
   repeat' (first|refine zx ?_|refine zd ?_ ?_<;>intro h<;>try omega|fail)<;>conv=>whnf
   all_goals first
    |omega
    |exact ⟨[some 0],rfl,rfl,⟨k9 (j6 _),trivial⟩,⟨rfl,rfl,rfl,fun h=>h⟩⟩
 ·obtain ⟨q,hq⟩:∃q,E.O r=n+q:=⟨E.O r - n,by omega⟩
  obtain ⟨⟨row,b⟩,hfr⟩:∃x,(g8 s)[q]? =some x:=⟨_,lbf (by omega)⟩
  have hrow:row<s.rows.length:=a6Q hfr
  have ch:=a6s (g8 s).length n (g8 s) E s.rows.length (fun _=>0) q row b 1 hfr hrow (by have:=rl1;omega) (by have:=rl0;omega)
  have e:rF s.rows.length (a7f (fun _=>0) row (-(Z3 b 1)))=rF s.rows.length z:=G5 fun j hj=>by
   rw [aA4 (s:=s) (w:=E.O r) (by omega) hfr,hz];grind
  rw [e,show ((q:Nat):Int)=(E.O r:Int) - n by omega] at ch
  have ch:e7 Tryz.prog 298 [dT (g8 s).length n (g8 s) E,.c (.own 0 0 s.rows.length true),b7 .i64 ((E.O r:Int) - n),frS (fz ((1:Int):Rat))] [flB (rF s.rows.length fun _=>0)] (.tup []) [flB (rF s.rows.length z)]:=ch
  (refine ac Tryz.func222 ?_;(conv=>whnf);repeat ((first|refine b0x ?_|refine zy ?_);conv=>whnf))
  repeat' (first|refine zx ?_|refine qp i1 ?_|refine .inl ⟨_,_,z0 _ rfl,?_⟩|refine G8 rfl hr ?_|refine .inr ⟨_,_,ch,?_⟩|refine zd ?_ ?_<;>intro h<;>try omega|fail)<;>conv=>whnf
  all_goals try omega
  refine j5 e8 (fun k=>([dT (g8 s).length n (g8 s) E,J,b7 .i64 r,J,J,J,J,S.c (C.own 0 0 s.rows.length true)]++Jn 31++[a6k n E.F,b7 .i64 n,b7 .i64 k]++Jn 32,[flB (rF s.rows.length (yK z f k))])) n (fun _=>True) [some 0] trivial
   ⟨rfl,rfl,⟨b8 (rows:=(rF s.rows.length z).map q9) rfl rfl rfl (rfl) ?_,trivial⟩,⟨k8 rfl,g9 rfl,⟨rfl,rfl,rfl,fun h=>h⟩,k8 rfl,g9 (by omega),g9 rfl,trivial⟩⟩ ?_
  ·rw [G5 (g:=yK z f 0) (h:=z) fun j hj=>by unfold yK;simp only [i9,X6];grind]
  intro k hk _
  by_cases hlt:k<n
  ·have ba:=hB k hlt
   by_cases ho2:E.F k<n
   ·have e:yK z f (k+1)=yK z f k:=by
     rw [a4X,hf];funext i
     have e0:chg s (E.F k) (E.A r k) i=0:=by rw [a9g (by omega)]
     show _+chg s (E.F k) (E.A r k) i=_
     rw [e0];grind
    conv=>whnf
    repeat' (first|refine zx ?_|refine G8 rfl hlt ?_|refine zd ?_ ?_<;>intro h<;>try omega|fail)<;>conv=>whnf
    all_goals first
     |omega
     |exact ⟨hlt,trivial,[some 0],rfl,rfl,⟨b8 (rows:=(rF s.rows.length (yK z f k)).map q9) rfl rfl rfl rfl (by rw [e]),trivial⟩,⟨rfl,rfl,⟨rfl,rfl,rfl,fun h=>h⟩,rfl,rfl,g9 (by omega),trivial⟩⟩
   ·have hfb:=hP.fb k hlt
    obtain ⟨q2,hq2⟩:∃q2,E.F k=n+q2:=⟨E.F k - n,by omega⟩
    obtain ⟨⟨row2,b2⟩,hfr2⟩:∃x,(g8 s)[q2]? =some x:=⟨_,lbf (by omega)⟩
    have hrow2:row2<s.rows.length:=a6Q hfr2
    have by1:rl (yK z f k row2)<=50000:=by
     have h1:=a9a (f:=fun j=>f j row2) (B:=B) k fun j hj=>by rw [hf];exact aD9 (hB j (by omega)) hB1
     have h2:=a2s (z row2) (i9 (fun j=>f j row2) k)
     have h3:=zb row2
     have:k*(B+1)<=n*(B+1):=lbU _ (by omega)
     unfold yK
     omega
    have ch2:=a6s (g8 s).length n (g8 s) E s.rows.length (yK z f k) q2 row2 b2 (E.A r k) hfr2 hrow2 (by omega) by1
    have e:a7f (yK z f k) row2 (-(Z3 b2 (E.A r k)))=yK z f (k+1):=by rw [aA4 (s:=s) (w:=E.F k) (by omega) hfr2,a4X,hf]
    rw [e,show ((q2:Nat):Int)=(E.F k:Int) - n by omega] at ch2
    conv=>whnf
    repeat' (first|refine zx ?_|refine G8 rfl hlt ?_|refine a0R rfl hr ?_|refine a3C rfl hlt ?_|refine .inr ⟨_,_,ch2,?_⟩|refine zd ?_ ?_<;>intro h<;>try omega|fail)<;>conv=>whnf
    all_goals first
     |omega
     |exact ⟨hlt,trivial,[some 0],rfl,rfl,⟨k9 (j6 _),trivial⟩,⟨rfl,rfl,⟨rfl,rfl,rfl,fun h=>h⟩,rfl,rfl,g9 (by omega),trivial⟩⟩
  ·have hke:k=n:=by omega
   subst hke
   conv=>whnf
   repeat' (first|refine zx ?_|refine zd ?_ ?_<;>intro h<;>try omega|fail)<;>conv=>whnf
   all_goals first
    |omega
    |exact ⟨[some 0],rfl,rfl,⟨k9 (j6 _),trivial⟩,⟨rfl,rfl,rfl,fun h=>h⟩⟩
def a6Z (ρ:List (Option Nat)) (H:Hp):Env->Env->Prop
 |[],[]=>True
 |s::r,s'::r'=>match s' with
  |.junk=>a6Z ρ H r r'
  |s'=>(a63 ρ H s s'∨VYS H (fun id=>Q2 ρ id=true) s s')∧a6Z ρ H r r'
 |_,_=>False
theorem a6Z.rel {ρ:List (Option Nat)} {H:Hp}:∀{env env':Env},a6Z ρ H env env'->env.length=env'.length∧∀(t:Nat) (s':S),env'[t]? =some s'->∃s,env[t]? =some s∧(a63 ρ H s s'∨VYS H (fun id=>Q2 ρ id=true) s s')
 |[],[],_=>⟨rfl,by simp⟩
 |s::r,s'::r',h=>by
  have h':(a63 ρ H s s'∨VYS H (fun id=>Q2 ρ id=true) s s')∧a6Z ρ H r r':=by
   cases s' with
   |junk=>exact ⟨.inl trivial,h⟩
   |_=>exact h
  obtain ⟨h1,h2⟩:=a6Z.rel h'.2
  refine ⟨by simp [h1],fun t s'' ht=>?_⟩
  cases t with
  |zero=>simp at ht;subst ht;exact ⟨s,rfl,h'.1⟩
  |succ t=>simpa using h2 t s'' (by simpa using ht)
 |[],_::_,h=>h.elim
 |_::_,[],h=>h.elim
structure b6E (n0:Nat) (ρ:List (Option Nat)) (env:Env) (H:Hp) (env':Env) (H':Hp):Prop where
 k:a1I ρ n0=true
 n:S4 ρ H'=true
 h:a2U ρ H ρ H'
 e:a6Z ρ H env env'
theorem b6E.sim {n0:Nat} {ρ:List (Option Nat)} {env env':Env} {H H':Hp} (h:b6E n0 ρ env H env' H') {w0:World} {ι0:Io} {M0:Ms} {H0:Hp} {a:Act} {w:World} (hn:H0.length=n0) (hM0:MB w0 M0)
 (hs:Sim w0 ι0 M0 H0 a w env H):Sim w0 ι0 M0 H0 a w env' H':=by
 obtain ⟨h1,h2,h3,h4⟩:=h
 obtain ⟨ι,M,hd,hsz,he,hH,hM,hF,hst⟩:=hs
 obtain ⟨hel,heg⟩:=a6Z.rel h4
 obtain ⟨q1,q2,q3⟩:=a2U.all h1 h2 h3 hn hM0 hH hst
 refine ⟨O6 ρ ι,_,hd,by omega,fun t s' ht=>?_,q1,fun b hb=>hM b hb.1,q2,q3⟩
 obtain ⟨s,r1,r2⟩:=heg t s' ht
 rcases r2 with r2|r2
 ·exact r2.rs hH (he t s r1)
 ·refine r2.rs hH (fun b hb=>hb.1) ?_ (he t s r1)
  intro id k b cap size hp hk hd hi hb
  exact hb.2 ⟨id,k,cap,size,hp,hk,hd,hi⟩
theorem a6R {P:Program} {τ:Tab} (hτ:D9 P τ) {n0:Nat} {x y:Code} {env:Env} {H:Hp} {Q:AX->Env->Hp->Prop} (E2:Env) (H2:Hp)
 (h:a4r P τ n0 x env H fun a env' H'=>match a with
   |.normal=>∃ρ,b6E n0 ρ env' H' E2 H2
   |a=>Q a env' H') (h2:Awp P n0 y E2 H2 Q):Awp P n0 (.seq x y) env H Q:=by
 refine ⟨fun w0 ι0 M0 H0 a w hn hM hs=>?_⟩
 refine wp_seq (wp_mono ((A8 hτ x h).out w0 ι0 M0 H0 a w hn hM hs) ?_)
 rintro e a' w' ⟨x,env',H',rfl,hq,hs'⟩
 cases x with
 |normal=>obtain ⟨ρ,he⟩:=hq;exact h2.out w0 ι0 M0 H0 a' w' hn hM (he.sim hn hM hs')
 |exit id=>exact ⟨_,env',H',rfl,hq,hs'⟩
 |ret=>exact ⟨_,env',H',rfl,hq,hs'⟩
theorem b2y {P:Program} {n0:Nat} {c:Operand} {t e:Code} {env:Env} {H:Hp} {Q:AX->Env->Hp->Prop} {b:Bool} (hb:J2 env c=i8 b) (h:Awp P n0 (cond b t e) env H Q):Awp P n0 (.cond c t e) env H Q:=by
 refine ⟨fun w0 ι0 M0 H0 a w hn hM hs=>?_⟩
 have hs0:=hs
 obtain ⟨ι,M,hd,hsz,he,hH,hMB,hF,hst⟩:=hs
 have hv:=(he.ev.to hb).inv_atm
 refine wp_cond hv ?_
 cases b with
 |true=>exact h.out w0 ι0 M0 H0 a w hn hM hs0
 |false=>exact h.out w0 ι0 M0 H0 a w hn hM hs0
theorem b5J {m n:Nat} {fr:List (Nat × Bool)} {D:Fd} {X:Hp} {p:Nat->Prop} (hp:∀i,i<m+6->p i):VY (L5 m n fr D.V D.G D.O D.F D.A X) p (.own 1 0 m true) (.sl 5 .any (a8B m n D)):=by
 refine b4x (k:=a0K 6 m n D.V) (hp _ (by omega)) rfl (fun h=>h) rfl (a53 m n D) ?_ ?_
 ·intro r hr
  obtain ⟨i,_,rfl⟩:=lby.1 hr
  rfl
 ·intro i r hi
  have him:i<m:=by have:=(lbe.1 hi).1;rwa [a53] at this
  rw [a89 him] at hi
  injection hi with hi
  subst hi
  refine ⟨_,a2F him,?_⟩
  show VYL _ _ ((q9 (fz (D.V i))).map C.t++[C.own (i+6) 0 n true]) _
  have hv:VY (L5 m n fr D.V D.G D.O D.F D.A X) p (C.own (i+6) 0 n true) (T.sl 4 .any ((rF n (D.A i)).map q9)):=
   .vc (D6 (k:=flB (rF n (D.A i))) (hp _ (by omega)) (M3 (Q6 him)) (fun h=>h) rfl rfl (by simp [P4]))
  exact ay0 (ys:=[C.own (i+6) 0 n true]) (us:=[T.sl 4 .any ((rF n (D.A i)).map q9)]) (show _∧True from ⟨hv,trivial⟩)
theorem a9f {m n:Nat} {fr:List (Nat × Bool)} {D:Fd} {X:Hp} {p:Nat->Prop} (hp:∀i,i<m+6->p i):VY (L5 m n fr D.V D.G D.O D.F D.A X) p (.ptr 0 0 0) (.ptr (b7p m n fr D)):=by
 refine ag6 (k:=b0l m n fr.length) (hp _ (by omega)) rfl (fun h=>h) rfl ⟨b5M,b5J hp,?_,?_,?_,?_,trivial⟩
 ·exact .vc (D6 (k:=flB (rF n D.G)) (hp _ (by omega)) rfl (fun h=>h) rfl rfl (by simp [P4]))
 ·exact .vc (D6 (k:=Z4 m D.O) (hp _ (by omega)) rfl (fun h=>h) rfl rfl (by simp [B2]))
 ·exact .vc (D6 (k:=Z4 n D.F) (hp _ (by omega)) rfl (fun h=>h) rfl rfl (by simp [B2]))
 ·exact .vc (D6 (k:=a1w fr) (hp _ (by omega)) rfl (fun h=>h) rfl rfl (by simp [a0e]))
abbrev b9x (m n k:Nat):Blk:={ mode:=.live,elem:=285,size:=6,rows:=[[C.t (ti n),.own 2 0 m true,.own 3 0 n true,.own 4 0 m true,.own 5 0 n true,.own 6 0 k true]],box:=true }
abbrev b8c (m n:Nat) (fr:List (Nat × Bool)) (D:Fd) (b:Blk):Hp:=
 b::b9x m n fr.length::a0K 7 m n D.V::flB (rF n D.G)::Z4 m D.O::Z4 n D.F::a1w fr::(mF m n D.A).map flB
theorem b7c {N i:Nat} (h:i<N):(a3v [] 1 N).getD i 0=i+1:=by
 unfold a3v
 rw [List.nil_append,lbl,lba,lbh h]
 show 1+i=i+1
 omega
theorem b8o {σ:List Nat} (ts:List T) (l:List C):a1V σ (ts.map C.t++l)=ts.map C.t++a1V σ l:=by
 rw [N5,N5,lbD,List.map_map]
 congr 1
theorem a9h {s:k7} {g:List (Int × Rat)} {n:Nat} (b:Blk) (h:e7 Tryz.prog 218 [a1b s,z9 g] [] (.c (.ptr 0 0 0)) (a0a (g8 s).length n (g8 s) (k5 s g))):
 e7 Tryz.prog 218 [a1b s,z9 g] [b] (.c (.ptr 1 0 0)) (b8c (g8 s).length n (g8 s) (k5 s g) b):=by
 have hlen:(a0a (g8 s).length n (g8 s) (k5 s g)).length=(g8 s).length+6:=a2M
 have hl:∀k ∈ a0a (g8 s).length n (g8 s) (k5 s g),k.mode=.live:=by
  intro k hk
  simp only [lbB] at hk
  rcases hk with rfl|rfl|rfl|rfl|rfl|rfl|hk
  ·rfl
  ·rfl
  ·rfl
  ·rfl
  ·rfl
  ·rfl
  ·obtain ⟨l,_,rfl⟩:=lby.1 hk;rfl
 have hsub:(a0a (g8 s).length n (g8 s) (k5 s g)).length - ([]:Hp).length=(g8 s).length+6:=by rw [hlen];simp
 have g1:∀i,i<(g8 s).length+6->(a3v [] ([b]:Hp).length ((a0a (g8 s).length n (g8 s) (k5 s g)).length - ([]:Hp).length)).getD i 0=i+1:=fun i hi=>by
  rw [hsub];exact b7c hi
 refine R8 [] h rfl rfl rfl List.nodup_nil (by simp) (fun k hk=>by rw [hl k hk];intro h;cases h) (by simp) rfl ?_ (by rw [hsub];simp [b9];omega) ?_ ?_
 ·show S.c (.ptr 1 0 0)=S.c (.ptr _ 0 0)
  rw [g1 0 (by omega)]
 ·intro i k hk
  have hi:i<(g8 s).length+6:=by rw [← hlen];exact (lbe.1 hk).1
  rw [g1 i hi]
  rcases i with _|_|_|_|_|_|i
  ·injection hk with hk;subst hk
   refine ⟨_,rfl,rfl,rfl,rfl,rfl,?_⟩
   simp only [a80,List.map_cons,List.map_nil,a1V,Z5]
   rw [g1 1 (by omega),g1 2 (by omega),g1 3 (by omega),g1 4 (by omega),g1 5 (by omega)]
  ·injection hk with hk;subst hk
   refine ⟨_,rfl,rfl,rfl,rfl,rfl,?_⟩
   unfold a80
   show S1 7 _ _ _=(S1 6 _ _ _).map _
   unfold S1
   rw [List.map_map]
   refine lbp fun j hj=>?_
   have hj:=lbC.1 hj
   show _=a1V _ ((q9 (fz ((k5 s g).V j))).map C.t++[C.own (j+6) 0 n true])
   rw [b8o]
   simp only [a1V,Z5]
   rw [g1 (j+6) (by omega)]
   rfl
  ·injection hk with hk;subst hk;exact ⟨_,rfl,H9 rfl⟩
  ·injection hk with hk;subst hk;exact ⟨_,rfl,H9 rfl⟩
  ·injection hk with hk;subst hk;exact ⟨_,rfl,H9 rfl⟩
  ·injection hk with hk;subst hk;exact ⟨_,rfl,H9 rfl⟩
  ·have hk:((mF (g8 s).length n (k5 s g).A).map flB)[i]? =some k:=hk
   refine ⟨k,hk,?_⟩
   obtain ⟨l,_,rfl⟩:=lby.1 (lbm hk)
   exact H9 rfl
 ·intro j hj _
  have:j=0:=by simpa using hj
  subst this;rfl
def fS (m:Nat):Nat->Nat:=fun i=>if i<m+6 then i+1 else 0
theorem a76 {m n:Nat} {fr:List (Nat × Bool)} {D:Fd} {b:Blk} {env env':Env} {H:Hp} (hb:K7 b.rows) (hH:H=b8c m n fr D b) (hE:a0Z (fR (m+7) (fS m)) H env env'):
 Ent 0 (fR (m+7) (fS m)) env H env' (L5 m n fr D.V D.G D.O D.F D.A [b]):=by
 subst hH
 have fa:∀i,i<m+6->fS m i=i+1:=fun i hi=>by unfold fS;rw [if_pos hi]
 refine aV3 (by simp [b9]) (by omega) (fun i hi=>by omega) (fun i j hi hj h=>by unfold fS at h;(repeat' split at h)<;>omega) ?_ hE
 intro i k' hk
 rcases i with _|_|_|_|_|_|i
 ·injection hk with hk;subst hk
  rw [fa 0 (by omega)]
  exact ⟨_,rfl,rfl,rfl,rfl,.inr ⟨⟨rfl,⟨by rw [C6 (by omega),fa _ (by omega)],rfl,rfl,fun h=>h⟩,⟨by rw [C6 (by omega),fa _ (by omega)],rfl,rfl,fun h=>h⟩,⟨by rw [C6 (by omega),fa _ (by omega)],rfl,rfl,fun h=>h⟩,⟨by rw [C6 (by omega),fa _ (by omega)],rfl,rfl,fun h=>h⟩,⟨by rw [C6 (by omega),fa _ (by omega)],rfl,rfl,fun h=>h⟩,trivial⟩,trivial⟩⟩
 ·injection hk with hk;subst hk
  rw [fa 1 (by omega)]
  refine ⟨_,rfl,a1R (h:=fun i=>i+7) (h':=fun i=>i+6) fun j hj=>?_⟩
  rw [C6 (by omega),fa _ (by omega)]
 ·injection hk with hk;subst hk;rw [fa 2 (by omega)];exact ⟨_,rfl,k9 (j6 _)⟩
 ·injection hk with hk;subst hk;rw [fa 3 (by omega)];exact ⟨_,rfl,k9 (j6 _)⟩
 ·injection hk with hk;subst hk;rw [fa 4 (by omega)];exact ⟨_,rfl,k9 (j6 _)⟩
 ·injection hk with hk;subst hk;rw [fa 5 (by omega)];exact ⟨_,rfl,k9 (j6 _)⟩
 ·have hk:((mF m n D.A).map flB++[b])[i]? =some k':=hk
  by_cases hi:i<m
  ·rw [M3 (Q6 hi)] at hk
   injection hk with hk;subst hk
   rw [fa _ (by omega)]
   refine ⟨flB (rF n (D.A i)),?_,k9 (j6 _)⟩
   show ((mF m n D.A).map flB)[i]? =_
   rw [lba,Q6 hi];rfl
  ·obtain ⟨t,rfl⟩:∃t,i=m+t:=⟨i - m,by omega⟩
   rw [a1A (b9 _ _ _)] at hk
   rcases t with _|t
   ·injection hk with hk;subst hk
    have:fS m (m+0+6)=0:=by unfold fS;rw [if_neg (by omega)]
    rw [this]
    exact ⟨_,rfl,k9 hb⟩
   ·simp at hk
theorem a5f {m n:Nat} {fr:List (Nat × Bool)} {D E:Fd} {r:S} (X:Hp) (hr:ar9 r=true) (hr':r.isT=true) (h:e7 Tryz.prog 219 [.c (.ptr 0 0 0)] (a0a m n fr D) r (a0a m n fr E)):
 e7 Tryz.prog 219 [.c (.ptr 0 0 0)] (L5 m n fr D.V D.G D.O D.F D.A X) r (L5 m n fr E.V E.G E.O E.F E.A X):=by
 have hl:∀{D:Fd},∀k ∈ a0a m n fr D,k.mode=.live∧k.app=false:=by
  intro D k hk
  simp only [lbB] at hk
  rcases hk with rfl|rfl|rfl|rfl|rfl|rfl|hk
  ·exact ⟨rfl,rfl⟩
  ·exact ⟨rfl,rfl⟩
  ·exact ⟨rfl,rfl⟩
  ·exact ⟨rfl,rfl⟩
  ·exact ⟨rfl,rfl⟩
  ·exact ⟨rfl,rfl⟩
  ·obtain ⟨l,_,rfl⟩:=lby.1 hk
   exact ⟨rfl,rfl⟩
 exact a8K (n:=m+6) X h a2M a2M (by simp [okS,okC,Nat.blt_eq]) (fun k hk=>⟨(hl k hk).1,(hl k hk).2,a77 k hk⟩) (fun k hk=>⟨(by rw [(hl k hk).1];intro h;cases h),a77 k hk⟩) hr hr'
theorem aM2 (l:List (Int × Rat)) (z:List Rat) (hl:l.length<=1000000) (h1:∀t ∈ l,rl t.2<=20000) (h2:∀v ∈ z,rl v<=40000) (hS:∀k,rl (m6 (l.take k) z)<=60000) (hz:z.length<=1000000) (hr:k6 (-1) z.length l=true):
 e7 Tryz.prog 208 [z9 l,F3 (z.map fz)] [] (frS (fz (m6 l z))) []:=by
 have m1:(l.map I4).length=l.length:=by simp
 have m2:((z.map fz).map q9).length=z.length:=by simp
 have i0:=J4 0 (by decide) (by decide)
 (refine ac Tryz.func208 ?_;(conv=>whnf);repeat ((first|refine b0x ?_|refine zy ?_);conv=>whnf))
 repeat' (first|refine zx ?_|refine qp i0 ?_|refine zd ?_ ?_<;>intro h<;>try omega|fail)<;>conv=>whnf
 refine j5 e8 (fun k=>([J,F3 (z.map fz),J,J,S.c (C.ptr 0 0 0),S.c (C.ptr 1 0 0),J,J,J,J,J,z9 l,b7 .i64 l.length,b7 .i64 k]++Jn 22,[frB a2e,frB (fz (m6 (l.take k) z))])) l.length (fun _=>True) [some 0,some 1] trivial
  ⟨rfl,rfl,⟨⟨rfl,rfl,rfl,.inr ⟨⟨rfl,rfl,rfl,rfl,trivial⟩,trivial⟩⟩,⟨rfl,rfl,rfl,.inl ⟨rfl,a9s _⟩⟩,trivial⟩,⟨rfl,⟨rfl,rfl,rfl⟩,⟨rfl,rfl,rfl⟩,rfl,g9 (by simp),rfl,trivial⟩⟩ ?_
 intro k hk _
 by_cases hlt:k<l.length
 ·obtain ⟨t,ht⟩:∃t,l[k]? =some t:=⟨_,lbf hlt⟩
  obtain ⟨v,c⟩:=t
  have hv:=aq9 hr _ (lbm ht)
  simp only at hv
  have bc:=h1 _ (lbm ht)
  simp only at bc
  obtain ⟨x,hx⟩:∃x,z[v.toNat]? =some x:=⟨_,lbf (by omega)⟩
  have hxd:z.getD v.toNat 0=x:=by rw [lbl,hx];rfl
  have bx:=h2 x (lbm hx)
  have b3:=aZ6 c x
  have bs:=hS k
  have mu:=aY8 c x (by omega) (by omega)
  have ad:=a4S (m6 (l.take k) z) (c*x) (by omega) (by omega)
  have e:m6 (l.take k) z+c*x=m6 (l.take (k+1)) z:=by
   have:l.take (k+1)=l.take k++[(v,c)]:=by rw [lbH,ht];rfl
   rw [this,Q5,←hxd]
  rw [e] at ad
  have xz:(z.map fz)[v.toNat]? =some (fz x):=by rw [lba,hx];rfl
  conv=>whnf
  repeat' (first|refine zx ?_|refine qp mu ?_|refine qp ad ?_|refine qp 10 ?_|refine qp 5 ?_|refine g6 ht ?_|refine N6 (by omega) xz ?_|refine bl0 [10] ?_|refine bl0 [5] ?_|refine zd ?_ ?_<;>intro h<;>try omega|fail)<;>conv=>whnf
  all_goals first
   |omega
   |exact ⟨hlt,trivial,[some 0,some 1],rfl,rfl,⟨⟨rfl,rfl,rfl,.inl ⟨rfl,a9s _⟩⟩,⟨rfl,rfl,rfl,.inl ⟨rfl,a9s _⟩⟩,trivial⟩,⟨rfl,⟨rfl,rfl,rfl⟩,⟨rfl,rfl,rfl⟩,rfl,rfl,rfl,trivial⟩⟩
 ·have hke:k=l.length:=by omega
  subst hke
  rw [lbn (lbR _)]
  conv=>whnf
  repeat' (first|refine zx ?_|refine zd ?_ ?_<;>intro h<;>try omega|fail)<;>conv=>whnf
  all_goals first
   |omega
   |exact b9W rfl
theorem ap2 (z:List Rat):(z.map fz).all N1=true:=by
 rw [lbw];intro f hf
 obtain ⟨x,_,rfl⟩:=lby.1 hf
 exact a9F x
theorem b4U (l:List (Int × Rat)) (z:List Rat) (hl:l.length<=1000000) (h1:∀t ∈ l,rl t.2<=200) (h2:∀v ∈ z,rl v<=40000) (hS:∀k,rl (m6 (l.take k) z)<=60000) (hz:z.length<=1000000) (hr:k6 (-1) z.length l=true):
 e7 Tryz.prog 151 [z9 l,F3 (z.map fz)] [] (.tup [frS (fz (m6 l z)),i8 true]) []:=by
 have m2:((z.map fz).map q9).length=z.length:=by simp
 have rt:=T9 l z.length hl h1
 rw [lbI (by omega),hr] at rt
 have pt:=b1c (z.map fz) (by simpa using hz) (fun f hf=>by
  obtain ⟨x,hx,rfl⟩:=lby.1 hf
  have:=h2 x hx
  have a:=U8 x
  have b:=V3 x
  exact ⟨by show bl x.num<=_;omega,by show bl x.den<=_;omega⟩)
 rw [ap2] at pt
 have va:=aM2 l z hl (fun t ht=>by have:=h1 t ht;omega) h2 hS hz hr
 have rt2:e7 Tryz.prog 153 [z9 l,b7 .i64 (((z.map fz).map q9).length:Nat)] [] (i8 (true && true)) []:=by rw [m2];exact rt
 (refine ac Tryz.func151 ?_;(conv=>whnf);repeat ((first|refine b0x ?_|refine zy ?_);conv=>whnf))
 repeat' (first|refine zx ?_|refine qp rt2 ?_|refine qp pt ?_|refine qp va ?_|refine zd ?_ ?_<;>intro h<;>try omega|fail)<;>conv=>whnf
 all_goals first
  |(exfalso;simp_all;done)
  |exact v8 ⟨⟨rfl,rfl,rfl,rfl,trivial⟩,rfl,trivial⟩
structure F4 (s:k7) (g:List (Int × Rat)) (n B:Nat):Prop where
 o:b7x s g n
 sb:b3n s
 gb:∀t ∈ g,rl t.2<=200
 bd:∀D,U9 (g8 s).length n (k5 s g) D->BdD (g8 s).length n B D
 b1:1<=B
 bn:(n+3)*(B+2)<=50000
 r:s.rows.length<=1000
theorem F4.nn {s:k7} {g:List (Int × Rat)} {n B:Nat} (h:F4 s g n B):s.n.toNat=n:=by have:=h.o.en;omega
theorem F4.bb {s:k7} {g:List (Int × Rat)} {n B:Nat} (h:F4 s g n B):B<=17000:=by
 have h1:=h.bn
 have:(n+3)*(B+2)=n*(B+2)+3*(B+2):=by rw [Nat.add_mul]
 omega
theorem F4.m {s:k7} {g:List (Int × Rat)} {n B:Nat} (h:F4 s g n B):(g8 s).length<=2000:=by
 have:=a5l (s:=s) s.rows.length
 have:=h.r
 show (M4 s s.rows.length).length<=_
 omega
abbrev bO (cells:List C):Blk:={ mode:=.live,elem:=174,size:=8,rows:=[cells],box:=true }
abbrev z8:List C:=[.t (ti 0),.t (ti 0),.t (.sl 0 .nil []),.t (ti 0),.t (.sl 0 .nil []),.t (.sl 0 .nil []),.t (.sl 0 .nil []),.t (.sl 0 .nil [])]
theorem aG4:K7 (bO z8).rows:=j6 [[ti 0,ti 0,.sl 0 .nil [],ti 0,.sl 0 .nil [],.sl 0 .nil [],.sl 0 .nil [],.sl 0 .nil []]]
theorem a15 {s:k7} {g:List (Int × Rat)} {n B:Nat} (h:F4 s g n B):
 e7 Tryz.prog 219 [.c (.ptr 0 0 0)] (a0a (g8 s).length n (g8 s) (k5 s g)) (.tup [b7 .i64 (b09 (J9 s g)).1,b7 .i64 (b09 (J9 s g)).2]) (a0a (g8 s).length n (g8 s) (G4 s g)):=by
 have hn:=h.nn
 subst hn
 have hm:=h.m
 exact b4t _ _ (g8 s) (k5 s g) _ (by omega) h.o.n1 a1o (fun D hD=>by
  have hb:=h.bd D hD
  have hB:=h.bb
  exact ⟨fun i hi=>by have:=hb.v i hi;omega,fun i hi j hj=>by have:=hb.a i hi j hj;omega,fun j hj=>by have:=hb.g j hj;omega⟩)
theorem a64 {s:k7} {g:List (Int × Rat)} {n B:Nat} (h:F4 s g n B):(n7 s g).length=n:=by unfold n7;rw [aA1];exact h.nn
theorem a8M {s:k7} {g:List (Int × Rat)} {n B:Nat} (h:F4 s g n B):e7 Tryz.prog 220 [dT (g8 s).length n (g8 s) (G4 s g)] [] (F3 ((n7 s g).map fz)) []:=by
 have hn:=h.nn
 subst hn
 exact b5G _ _ _ _ W9.p (by have:=h.m;omega) h.o.n1
theorem a8j {s:k7} {g:List (Int × Rat)} {n B:Nat} (h:F4 s g n B):BdD (g8 s).length n B (G4 s g):=by
 have hn:=h.nn
 subst hn
 exact h.bd _ (a4P a1o).1
theorem aw6 {s:k7} {g:List (Int × Rat)} {n B:Nat} (h:F4 s g n B) (H:Hp):W5 Tryz.prog 223 [dT (g8 s).length n (g8 s) (G4 s g),b7 .i64 s.rows.length] H (.c (.own H.length 0 s.rows.length true)) [flB (rF s.rows.length (a2d s (G4 s g)))]:=by
 have hb:=a8j h
 have hp:Y3 (g8 s).length n (G4 s g):=by have hn:=h.nn;subst hn;exact W9.p
 refine a2K (b3d s n h.o.en (G4 s g) hp B hb.g h.b1 ?_ (by have:=h.m;omega) h.r h.o.n1) rfl rfl (j6 _)
 have:=h.bn
 have:(n+3)*(B+2)=(n+2)*(B+2)+(B+2):=by rw [show n+3=(n+2)+1 by omega,lbV]
 omega
theorem a59 {i m:Nat} (h:i<m):Q2 [some m] i=true:=by
 unfold Q2
 have:Nat.beq m i=false:=by
  cases hb:Nat.beq m i with
  |false=>rfl
  |true=>have:=Nat.eq_of_beq_eq_true hb;omega
 rw [this];rfl
theorem au8 {m n:Nat} {fr:List (Nat × Bool)} {D:Fd} {env env':Env} (b:Blk) (hb:K7 b.rows) (hE:a6Z [some (m+6)] (L5 m n fr D.V D.G D.O D.F D.A [b]) env env'):b6E 0 [some (m+6)] env (L5 m n fr D.V D.G D.O D.F D.A [b]) env' [b]:=by
 refine ⟨rfl,?_,a5h rfl fun i k' hk=>?_,hE⟩
 ·simp only [S4,a4G];cases b.mode<;>rfl
 ·rcases i with _|i
  ·injection hk with hk;subst hk
   exact ⟨m+6,_,rfl,a1A (t:=0) (b9 _ _ _),k9 hb⟩
  ·simp at hk
theorem a3h (s:k7) (g:List (Int × Rat)) (n B:Nat) (h:F4 s g n B) (hout:J9 s g=.best) (hS:∀k,rl (m6 (g.take k) (n7 s g))<=60000) (hpt:∀v ∈ n7 s g,rl v<=40000):
 e7 Tryz.prog 141 [a1b s,z9 g] [] (.tup [.agg (C.t (ti 0)::frC (fz (m6 g (n7 s g)))++[.t (Q8 ((n7 s g).map fz)),.own 0 0 s.rows.length true,.t (.sl 0 .nil [])]),b7 .i64 0]) [flB (rF s.rows.length (a2d s (G4 s g)))]:=by
 have hn:=h.nn
 have hm:=h.m
 have hr1:=h.r
 have hgl:=J6 h.o.tg
 have hn1:=h.o.n1
 have lr:=a6K s h.sb
 rw [h.o.r] at lr
 have rt:=T9 g s.n (by have:=h.o.n1;omega) h.gb
 rw [h.o.en,lbI (by omega),h.o.tg,←h.o.en] at rt
 have op:=a9h (bO z8) (ax9 s g n h.o)
 have se:=a15 h
 rw [hout] at se
 have m1:(s.rows.map E1).length=s.rows.length:=by simp
 have pt:=a8M h
 have va:=b4U g (n7 s g) (by omega) h.gb hpt hS (by rw [a64 h];omega) (by rw [a64 h];exact h.o.tg)
 have pr:∀H:Hp,W5 Tryz.prog 223 [dT (g8 s).length n (g8 s) (G4 s g),b7 .i64 ((s.rows.map E1).length:Nat)] H (.c (.own H.length 0 s.rows.length true)) [flB (rF s.rows.length (a2d s (G4 s g)))]:=by rw [m1];exact aw6 h
 (refine a1t e8 Tryz.func141 rfl (by decide) ?_;refine D3 e8 ?_;(conv=>whnf);repeat ((first|refine b0x ?_|refine zy ?_);conv=>whnf))
 repeat' (first|refine zz ?_|refine b0x ?_|refine zd ?_ ?_<;>intro h<;>try omega|refine zy ?_|fail)<;>conv=>whnf
 (refine D3 e8 ?_;conv=>whnf)
 repeat' (first|refine zx ?_|refine qp lr ?_|refine qp rt ?_|refine zd ?_ ?_<;>intro h<;>try omega|fail)<;>conv=>whnf
 all_goals try (exfalso;simp_all;done)
 refine a02 e8 ([J,z9 g,S.c (C.t (T.ptr (a8U s))),J,S.c (C.ptr ((g8 s).length+6) 0 0),b7 .i64 0,S.c (C.ptr 0 0 0)]++Jn 71) (L5 (g8 s).length n (g8 s) (k5 s g).V (k5 s g).G (k5 s g).O (k5 s g).F (k5 s g).A [bO z8]) ?_ ?_
 ·conv=>whnf
  repeat' (first|refine zx ?_|refine .inr ⟨_,_,op,?_⟩|refine I7 ?_|refine zd ?_ ?_<;>intro h<;>try omega|fail)<;>conv=>whnf
  exact ⟨_,a76 aG4 rfl ⟨rfl,k8 rfl,⟨by rw [C6 (by omega)];simp [fS],rfl,rfl⟩,rfl,⟨by rw [C6 (by omega)];simp [fS],rfl,rfl⟩,trivial⟩⟩
 refine a6R e8 ([J,z9 g,S.c (C.t (T.ptr (a8U s))),J,S.c (C.ptr 0 0 0),b7 .i64 0,dT (g8 s).length n (g8 s) (G4 s g),b7 .i64 (-1),b7 .i64 (-1)]++Jn 69) [bO z8] ?_ ?_
 ·have si:=a5f [bO z8] rfl rfl se
  conv=>whnf
  repeat' (first|refine zx ?_|refine qp 4 ?_|refine .inr ⟨_,_,si,?_⟩|refine l9 ?_|refine bl0 [4] ?_|refine zd ?_ ?_<;>intro h<;>try omega|fail)<;>conv=>whnf
  exact ⟨_,au8 (bO z8) aG4 ⟨.inl (k8 rfl),.inl (k8 rfl),.inl ⟨rfl,rfl,rfl⟩,.inl rfl,.inr (a9f fun i hi=>a59 hi),.inl rfl,.inl rfl,trivial⟩⟩
 (refine D3 e8 ?_;conv=>whnf)
 repeat' (first|refine zx ?_|refine zd ?_ ?_<;>intro h<;>try omega|fail)<;>conv=>whnf
 all_goals try omega
 (refine D3 e8 ?_;conv=>whnf)
 repeat' (first|refine zx ?_|refine zd ?_ ?_<;>intro h<;>try omega|fail)<;>conv=>whnf
 all_goals try omega
 (refine D3 e8 ?_;conv=>whnf)
 repeat' (first|refine zx ?_|refine qp pt ?_|refine zd ?_ ?_<;>intro h<;>try omega|fail)<;>conv=>whnf
 (refine D3 e8 ?_;conv=>whnf)
 repeat' (first|refine zx ?_|refine qp va ?_|refine qp 4 ?_|refine qp 5 ?_|refine bl0 [4] ?_|refine bl0 [5] ?_|refine zd ?_ ?_<;>intro h<;>try omega|fail)<;>conv=>whnf
 (refine D3 e8 ?_;conv=>whnf)
 repeat' (first|refine zx ?_|refine .inl ⟨_,_,pr _,?_⟩|refine zd ?_ ?_<;>intro h<;>try omega|fail)<;>conv=>whnf
 refine A8 e8 _ ?_
 conv=>whnf
 repeat' (first|refine zx ?_|refine zd ?_ ?_<;>intro h<;>try omega|fail)<;>conv=>whnf
 exact ⟨[some 2],rfl,rfl,⟨k9 (j6 _),trivial⟩,⟨⟨rfl,rfl,rfl,rfl,rfl,rfl,⟨rfl,rfl,rfl,fun h=>h⟩,rfl,trivial⟩,rfl,trivial⟩⟩
theorem a9B {P:Program} {g:FuncId} {args args':List S} {H H':Hp} {r:S} (h:e7 P g args' H r H') (hl:args.length=args'.length)
 (hw:∀(w:World) (ι:Io) (M:Ms) (j:Nat) (s s':S) (v:Value),args[j]? =some s->args'[j]? =some s'->RS w ι M s v->RS w ι M s' v):e7 P g args H r H':=by
 refine ⟨h.1,fun w ι M vals hl2 hv hH hM hf=>h.2 w ι M vals (by omega) (fun j s' hj=>?_) hH hM hf⟩
 have hlt:=(lbe.1 hj).1
 exact hw w ι M j _ s' _ (lbf (by omega)) hj (hv j _ (lbf (by omega)))
theorem b46 {s:k7} {n:Nat} (b:Blk) (h:e7 Tryz.prog 218 [a1b s,z9 []] [] (.c (.ptr 0 0 0)) (a0a (g8 s).length n (g8 s) (k5 s []))):
 e7 Tryz.prog 218 [a1b s,.c (.t (.sl 0 .nil []))] [b] (.c (.ptr 1 0 0)) (b8c (g8 s).length n (g8 s) (k5 s []) b):=by
 refine a9B (a9h b h) rfl fun w ι M j x y v hx hy hr=>?_
 rcases j with _|_|j
 ·injection hx with hx;injection hy with hy;subst hx hy;exact hr
 ·injection hx with hx;injection hy with hy;subst hx hy
  cases hr with
  |c hr=>cases hr with
   |t hr=>exact .c (.t (hr.weak rfl))
 ·simp at hx
theorem a84 {s:k7} {g:List (Int × Rat)} {n B r:Nat} (h:F4 s g n B) (hr:r<(g8 s).length) (H:Hp):W5 Tryz.prog 222 [dT (g8 s).length n (g8 s) (G4 s g),b7 .i64 s.rows.length,b7 .i64 r] H (.c (.own H.length 0 s.rows.length true)) [flB (rF s.rows.length (a8E s (G4 s g) r))]:=by
 have hb:=a8j h
 have hp:Y3 (g8 s).length n (G4 s g):=by have hn:=h.nn;subst hn;exact W9.p
 exact a2K (ax6 s n r h.o.en (G4 s g) hp hr B (hb.a r hr) h.b1 h.bn (by have:=h.m;omega) h.r h.o.n1) rfl rfl (j6 _)
theorem b34 {s:k7} {g:List (Int × Rat)} {n B c:Nat} (h:F4 s g n B) (hc:c<n):e7 Tryz.prog 221 [dT (g8 s).length n (g8 s) (G4 s g),b7 .i64 c] [] (F3 ((a8W s g c).map fz)) []:=by
 have hb:=a8j h
 have hB:=h.bb
 have hn:=h.nn
 subst hn
 exact b8x _ _ _ _ c hc W9.p (by have:=h.m;omega) h.o.n1 (fun i hi=>by have:=hb.a i hi c hc;omega)
abbrev b93:List C:=frC a2e
theorem aG9 (s:k7) (g:List (Int × Rat)) (n B r:Nat) (h:F4 s g n B) (hout:J9 s g=.row r):
 e7 Tryz.prog 141 [a1b s,z9 g] [] (.tup [.agg (C.t (ti 1)::b93++[.t (.sl 0 .nil []),.own 0 0 s.rows.length true,.t (.sl 0 .nil [])]),b7 .i64 0]) [flB (rF s.rows.length (a8E s (G4 s g) r))]:=by
 have hn:=h.nn
 have hm:=h.m
 have hr1:=h.r
 have hgl:=J6 h.o.tg
 have hn1:=h.o.n1
 have hrm:r<(g8 s).length:=by have:=(aP8 hout).1;exact this
 have lr:=a6K s h.sb
 rw [h.o.r] at lr
 have rt:=T9 g s.n (by have:=h.o.n1;omega) h.gb
 rw [h.o.en,lbI (by omega),h.o.tg,←h.o.en] at rt
 have op:=a9h (bO z8) (ax9 s g n h.o)
 have se:=a15 h
 rw [hout] at se
 have m1:(s.rows.map E1).length=s.rows.length:=by simp
 have rf:∀H:Hp,W5 Tryz.prog 222 [dT (g8 s).length n (g8 s) (G4 s g),b7 .i64 ((s.rows.map E1).length:Nat),b7 .i64 r] H (.c (.own H.length 0 s.rows.length true)) [flB (rF s.rows.length (a8E s (G4 s g) r))]:=by rw [m1];exact a84 h hrm
 (refine a1t e8 Tryz.func141 rfl (by decide) ?_;refine D3 e8 ?_;(conv=>whnf);repeat ((first|refine b0x ?_|refine zy ?_);conv=>whnf))
 repeat' (first|refine zz ?_|refine b0x ?_|refine zd ?_ ?_<;>intro h<;>try omega|refine zy ?_|fail)<;>conv=>whnf
 (refine D3 e8 ?_;conv=>whnf)
 repeat' (first|refine zx ?_|refine qp lr ?_|refine qp rt ?_|refine zd ?_ ?_<;>intro h<;>try omega|fail)<;>conv=>whnf
 all_goals try (exfalso;simp_all;done)
 refine a02 e8 ([J,z9 g,S.c (C.t (T.ptr (a8U s))),J,S.c (C.ptr ((g8 s).length+6) 0 0),b7 .i64 0,S.c (C.ptr 0 0 0)]++Jn 71) (L5 (g8 s).length n (g8 s) (k5 s g).V (k5 s g).G (k5 s g).O (k5 s g).F (k5 s g).A [bO z8]) ?_ ?_
 ·conv=>whnf
  repeat' (first|refine zx ?_|refine .inr ⟨_,_,op,?_⟩|refine I7 ?_|refine zd ?_ ?_<;>intro h<;>try omega|fail)<;>conv=>whnf
  exact ⟨_,a76 aG4 rfl ⟨rfl,k8 rfl,⟨by rw [C6 (by omega)];simp [fS],rfl,rfl⟩,rfl,⟨by rw [C6 (by omega)];simp [fS],rfl,rfl⟩,trivial⟩⟩
 refine a6R e8 ([J,z9 g,S.c (C.t (T.ptr (a8U s))),J,S.c (C.ptr 0 0 0),b7 .i64 0,dT (g8 s).length n (g8 s) (G4 s g),b7 .i64 r,b7 .i64 (-1)]++Jn 69) [bO z8] ?_ ?_
 ·have si:=a5f [bO z8] rfl rfl se
  conv=>whnf
  repeat' (first|refine zx ?_|refine qp 4 ?_|refine .inr ⟨_,_,si,?_⟩|refine l9 ?_|refine bl0 [4] ?_|refine zd ?_ ?_<;>intro h<;>try omega|fail)<;>conv=>whnf
  exact ⟨_,au8 (bO z8) aG4 ⟨.inl (k8 rfl),.inl (k8 rfl),.inl ⟨rfl,rfl,rfl⟩,.inl rfl,.inr (a9f fun i hi=>a59 hi),.inl rfl,.inl rfl,trivial⟩⟩
 (refine D3 e8 ?_;conv=>whnf)
 repeat' (first|refine zx ?_|refine zd ?_ ?_<;>intro h<;>try omega|fail)<;>conv=>whnf
 all_goals try omega
 (refine D3 e8 ?_;conv=>whnf)
 repeat' (first|refine zx ?_|refine .inl ⟨_,_,rf _,?_⟩|refine zd ?_ ?_<;>intro h<;>try omega|fail)<;>conv=>whnf
 all_goals first
  |omega
  |exact ⟨[some 1],rfl,rfl,⟨k9 (j6 _),trivial⟩,⟨⟨rfl,rfl,rfl,rfl,rfl,rfl,⟨rfl,rfl,rfl,fun h=>h⟩,rfl,trivial⟩,rfl,trivial⟩⟩
theorem b1U {P:Program} {n0:Nat} {c:Operand} {t e:Code} {env:Env} {H:Hp} {Q:AX->Env->Hp->Prop} (hb:J2 env c=i8 true) (h:Awp P n0 t env H Q):Awp P n0 (.cond c t e) env H Q:=b2y hb h
theorem ax8 (s:k7) (g:List (Int × Rat)) (n B B0 c:Nat) (h:F4 s g n B) (h0:F4 s [] n B0) (hout:J9 s g=.col c) (hout0:J9 s []=.best):
 e7 Tryz.prog 141 [a1b s,z9 g] [] (.tup [.agg (C.t (ti 2)::b93++[.t (Q8 ((n7 s []).map fz)),.t (.sl 0 .nil []),.t (Q8 ((a8W s g c).map fz))]),b7 .i64 0]) []:=by
 have hn:=h.nn
 have hm:=h.m
 have hr1:=h.r
 have hgl:=J6 h.o.tg
 have hn1:=h.o.n1
 have hcn:c<n:=by have:=(ai2 hout).1;omega
 have lr:=a6K s h.sb
 rw [h.o.r] at lr
 have rt:=T9 g s.n (by have:=h.o.n1;omega) h.gb
 rw [h.o.en,lbI (by omega),h.o.tg,←h.o.en] at rt
 have op:=a9h (bO z8) (ax9 s g n h.o)
 have se:=a15 h
 rw [hout] at se
 have op0:=b46 (bO z8) (ax9 s [] n h0.o)
 have se0:=a15 h0
 rw [hout0] at se0
 have m1:(s.rows.map E1).length=s.rows.length:=by simp
 have pt:=a8M h0
 have ra:=b34 h hcn
 (refine a1t e8 Tryz.func141 rfl (by decide) ?_;refine D3 e8 ?_;(conv=>whnf);repeat ((first|refine b0x ?_|refine zy ?_);conv=>whnf))
 repeat' (first|refine zz ?_|refine b0x ?_|refine zd ?_ ?_<;>intro h<;>try omega|refine zy ?_|fail)<;>conv=>whnf
 (refine D3 e8 ?_;conv=>whnf)
 repeat' (first|refine zx ?_|refine qp lr ?_|refine qp rt ?_|refine zd ?_ ?_<;>intro h<;>try omega|fail)<;>conv=>whnf
 all_goals try (exfalso;simp_all;done)
 refine a02 e8 ([J,z9 g,S.c (C.t (T.ptr (a8U s))),J,S.c (C.ptr ((g8 s).length+6) 0 0),b7 .i64 0,S.c (C.ptr 0 0 0)]++Jn 71) (L5 (g8 s).length n (g8 s) (k5 s g).V (k5 s g).G (k5 s g).O (k5 s g).F (k5 s g).A [bO z8]) ?_ ?_
 ·conv=>whnf
  repeat' (first|refine zx ?_|refine .inr ⟨_,_,op,?_⟩|refine I7 ?_|refine zd ?_ ?_<;>intro h<;>try omega|fail)<;>conv=>whnf
  exact ⟨_,a76 aG4 rfl ⟨rfl,k8 rfl,⟨by rw [C6 (by omega)];simp [fS],rfl,rfl⟩,rfl,⟨by rw [C6 (by omega)];simp [fS],rfl,rfl⟩,trivial⟩⟩
 refine a6R e8 ([J,z9 g,S.c (C.t (T.ptr (a8U s))),J,S.c (C.ptr 0 0 0),b7 .i64 0,dT (g8 s).length n (g8 s) (G4 s g),b7 .i64 (-1),b7 .i64 c]++Jn 69) [bO z8] ?_ ?_
 ·have si:=a5f [bO z8] rfl rfl se
  conv=>whnf
  repeat' (first|refine zx ?_|refine qp 4 ?_|refine .inr ⟨_,_,si,?_⟩|refine l9 ?_|refine bl0 [4] ?_|refine zd ?_ ?_<;>intro h<;>try omega|fail)<;>conv=>whnf
  exact ⟨_,au8 (bO z8) aG4 ⟨.inl (k8 rfl),.inl (k8 rfl),.inl ⟨rfl,rfl,rfl⟩,.inl rfl,.inr (a9f fun i hi=>a59 hi),.inl rfl,.inl rfl,trivial⟩⟩
 refine aK5 ?_
 refine D3 e8 ?_
 conv=>whnf
 repeat' (first|refine zx ?_|refine zd ?_ ?_<;>intro h<;>try omega|fail)<;>conv=>whnf
 all_goals try omega
 refine b1U rfl ?_
 refine a02 e8 ([J,z9 g,S.c (C.t (T.ptr (a8U s))),J,S.c (C.ptr ((g8 s).length+6) 0 0),b7 .i64 0,dT (g8 s).length n (g8 s) (G4 s g),b7 .i64 (-1),b7 .i64 c,S.c (C.ptr 0 0 0)]++Jn 68) (L5 (g8 s).length n (g8 s) (k5 s []).V (k5 s []).G (k5 s []).O (k5 s []).F (k5 s []).A [bO z8]) ?_ ?_
 ·conv=>whnf
  repeat' (first|refine zx ?_|refine .inr ⟨_,_,op0,?_⟩|refine I7 ?_|refine zd ?_ ?_<;>intro h<;>try omega|fail)<;>conv=>whnf
  exact ⟨_,a76 aG4 rfl ⟨rfl,k8 rfl,⟨by rw [C6 (by omega)];simp [fS],rfl,rfl⟩,rfl,k8 rfl,rfl,rfl,⟨by rw [C6 (by omega)];simp [fS],rfl,rfl⟩,trivial⟩⟩
 refine a6R e8 ([J,z9 g,S.c (C.t (T.ptr (a8U s))),J,S.c (C.ptr 0 0 0),b7 .i64 0,dT (g8 s).length n (g8 s) (G4 s g),b7 .i64 (-1),b7 .i64 c,dT (g8 s).length n (g8 s) (G4 s []),b7 .i64 (-1),b7 .i64 (-1)]++Jn 66) [bO z8] ?_ ?_
 ·have si:=a5f [bO z8] rfl rfl se0
  conv=>whnf
  repeat' (first|refine zx ?_|refine qp 4 ?_|refine .inr ⟨_,_,si,?_⟩|refine l9 ?_|refine bl0 [4] ?_|refine zd ?_ ?_<;>intro h<;>try omega|fail)<;>conv=>whnf
  exact ⟨_,au8 (bO z8) aG4 ⟨.inl (k8 rfl),.inl (k8 rfl),.inl ⟨rfl,rfl,rfl⟩,.inl rfl,.inl (k8 rfl),.inl rfl,.inl rfl,.inr (a9f fun i hi=>a59 hi),.inl rfl,.inl rfl,trivial⟩⟩
 refine A8 e8 _ ?_
 conv=>whnf
 repeat' (first|refine zx ?_|refine qp pt ?_|refine qp ra ?_|refine zd ?_ ?_<;>intro h<;>try omega|fail)<;>conv=>whnf
 all_goals first
  |omega
  |exact ⟨[],rfl,rfl,trivial,⟨⟨rfl,rfl,rfl,rfl,rfl,rfl,rfl,rfl,trivial⟩,rfl,trivial⟩⟩
theorem b6Q (e:Ev) (hs:e.Sized) (n:Int) (g:FuncId) (caps:List T) (q:v7->Bool) (hg:∀(k:Nat) (m:v7),e.moves[k]? =some m->J8 e=0->e7 Tryz.prog g (b1K m::caps.map fun x=>.c (.t x)) [] (i8 (q m)) []):
 e7 Tryz.prog 144 [evS e,b7 .i64 n,.c (.t (.fn (.func g) caps))] [] (i6 (if J8 e=0 then y3 (fun k m=>decide ((k:Int)<n) && q m) 0 e.moves else [])) []:=by
 have l1:=hs.s2
 have l2:(e.moves.map v7.row).length=e.moves.length:=by simp
 (refine ac Tryz.func144 ?_;(conv=>whnf);repeat (refine zy ?_;conv=>whnf))
 repeat' (first|refine zx ?_|refine qp (b1p _ hs) ?_|refine zd ?_ ?_<;>intro h<;>try omega|fail)<;>conv=>whnf
 ·refine v8 ?_
  rw [if_neg h]
  exact rfl
 have h0:J8 e=0:=by omega
 rw [if_pos h0]
 let P:Nat->v7->Bool:=fun k m=>decide ((k:Int)<n) && q m
 refine j5 e8 (fun k=>([J,b7 .i64 n,S.c (C.t (T.fn (.func g) caps)),S.c (C.ptr 0 0 0),J,J,J,a2q 1 (Y2 P e.moves k),J,J,J,J,J,J,S.c (C.t (a3q e.moves)),b7 .i64 e.moves.length,b7 .i64 k]++Jn 18,[evB e,C0 (Y2 P e.moves k)])) e.moves.length (fun k=>True) [some 0,none] trivial
  ⟨rfl,rfl,⟨⟨rfl,rfl,rfl,.inl ⟨rfl,n8 e⟩⟩,⟨rfl,rfl⟩,trivial⟩,⟨rfl,rfl,⟨rfl,rfl,rfl⟩,⟨rfl,rfl,rfl⟩,k8 rfl,g9 (by simp),g9 rfl,trivial⟩⟩ ?_
 intro k hk hI
 conv=>whnf
 repeat' (first|refine zx ?_|refine zd ?_ ?_<;>intro h<;>try omega|fail)<;>conv=>whnf
 ·have hlt:k<e.moves.length:=by omega
  obtain ⟨x,hx⟩:∃x,e.moves[k]? =some x:=⟨_,lbf hlt⟩
  refine g6 hx ?_
  conv=>whnf
  have hpl:=ai9 P e.moves k
  have ha:(b1K x::caps.map fun x=>S.c (C.t x)).all S.isT=true:=by simp [S.isT,C.isT,v7.cs,v7.row]
  repeat' (first|refine zx ?_|refine qp toC ?_|refine qp toC ?_|refine .inl ⟨_,_,F5 (hg k x hx h0) ha rfl,?_⟩|refine zz ?_|refine E4 (by simp [toC]) (by simp [toC];omega) ?_|refine zd ?_ ?_<;>intro h<;>try omega|fail)<;>conv=>whnf
  ·have hP:P k x=true:=by simp [P,h];omega
   refine ⟨hlt,trivial,[some 0,some 3],rfl,rfl,⟨⟨rfl,rfl,rfl,.inl ⟨rfl,n8 e⟩⟩,b8 rfl rfl rfl ?_ rfl,trivial⟩,⟨rfl,rfl,⟨rfl,rfl,rfl⟩,s7 rfl ?_,rfl,rfl,rfl,trivial⟩⟩
   ·rw [ae8 P hx hP,lbD]
    exact (congrArg (fun n=>List.take n (toC ((Y2 P e.moves k).map i5))++toC [[ti k]]) (by simp)).trans a73
   ·rw [ae8 P hx hP];simp [toC]
  all_goals
   have hP:P k x=false:=by simp [P];first|(intro hq;omega)|(intro _;assumption)
   refine ⟨hlt,trivial,[some 0,some 1],rfl,rfl,⟨⟨rfl,rfl,rfl,.inl ⟨rfl,n8 e⟩⟩,b8 rfl rfl rfl ?_ rfl,trivial⟩,⟨rfl,rfl,⟨rfl,rfl,rfl⟩,s7 rfl ?_,rfl,rfl,rfl,trivial⟩⟩
   ·rw [ar6 P hx hP]
   ·rw [ar6 P hx hP]
 ·have hk':y3 P 0 e.moves=Y2 P e.moves k:=(aU8 P (by omega)).symm
  show Fin 0 _ _ (i6 (y3 P 0 e.moves)) []
  rw [hk']
  exact X5 rfl (by intro h;cases h) rfl rfl (by simp)
abbrev a4x (n:Int):T:=.ptr [ti n]
theorem b1Y (e:Ev) (hs:e.Sized) (h0:J8 e=0) (m:v7) (hm:m ∈ e.moves) (hh mat lo hi:Int):
 e7 Tryz.prog 145 (b1K m::[T.ptr (evT e),a4x hh,a4x mat,a4x lo,a4x hi].map fun x=>.c (.t x)) [] (i8 (a6d e hh mat lo hi m)) []:=by
 have l1:=hs.s1
 have l2:(e.places.map a0i.row).length=e.places.length:=by simp
 have hmk:=K8 h0 hm
 have h1:=R6 hmk
 obtain ⟨x,hx⟩:∃x,e.places[m.src.toNat]? =some x:=⟨_,lbf (by omega)⟩
 (refine ac Tryz.func145 ?_;(conv=>whnf);repeat (refine zy ?_;conv=>whnf))
 repeat' (first|refine zx ?_|refine qp (a2S _ _ _) ?_|refine N6 h1.1 hx ?_|refine zd ?_ ?_<;>intro h<;>try omega|fail)<;>conv=>whnf
 all_goals (refine i3 ?_;unfold a6d;rw [hx];simp_all;done)
theorem au5 (e:Ev) (hs:e.Sized) (hh mat lo hi:Int):e7 Tryz.prog 78 [evS e,b7 .i64 hh,b7 .i64 mat,b7 .i64 lo,b7 .i64 hi] [] (i6 (L2 e hh mat lo hi)) []:=by
 have l1:=hs.s2
 have l2:(e.moves.map v7.row).length=e.moves.length:=by simp
 (refine ac Tryz.func78 ?_;(conv=>whnf);repeat (refine zy ?_;conv=>whnf))
 refine .inr ⟨_,_,I1 [0,1,2,3,4] (b6Q e hs (e.moves.map v7.row).length 145 [T.ptr (evT e),a4x hh,a4x mat,a4x lo,a4x hi] (a6d e hh mat lo hi) fun k m hm h0=>b1Y e hs h0 m (lbm hm) hh mat lo hi)
  ⟨bb3 e,b38,a10 (ba6 ?_),trivial⟩ rfl,?_⟩
 ·refine a51 (a9X (by simp) rfl (by intro h;cases h) rfl rfl) (a51 (a9X (by simp) rfl (by intro h;cases h) rfl rfl) (a51 (a9X (by simp) rfl (by intro h;cases h) rfl rfl) (a51 (a9X (by simp) rfl (by intro h;cases h) rfl rfl) (a51 (a9X (by simp) rfl (by intro h;cases h) rfl rfl) b5L))))
 conv=>whnf
 repeat' (first|refine zx ?_|refine zd ?_ ?_<;>intro h<;>try omega|fail)<;>conv=>whnf
 refine v8 ?_
 have:(if J8 e=0 then y3 (fun k m=>decide ((k:Int)<(e.moves.map v7.row).length) && a6d e hh mat lo hi m) 0 e.moves else [])=L2 e hh mat lo hi:=by
  unfold L2
  split
  ·refine a9S _ e.moves.length (fun k m hk=>?_) 0 (by omega)
   simp;intro _;omega
  ·rfl
 rw [← this]
 exact rfl
def aM8 (A:Nat->List T) (g:Nat->List Int) (B:Nat->List T) (id:Nat) (i:Nat):List C:=(A i).map .t++.own id 0 (g i).length true::(B i).map .t
def a2Q (n:Nat) (A:Nat->List T) (g:Nat->List Int) (B:Nat->List T):List (List C):=(List.range n).map fun i=>aM8 A g B (i+1) i
def b8n (el:TypeId) (size n:Nat) (A:Nat->List T) (g:Nat->List Int) (B:Nat->List T):Blk:={ mode:=.live,elem:=el,size:=size,rows:=a2Q n A g B,box:=false }
def Z6 (el:TypeId) (size n:Nat) (A:Nat->List T) (g:Nat->List Int) (B:Nat->List T):Hp:=b8n el size n A g B::(List.range n).map fun i=>C0 (g i)
theorem a0B {n:Nat} {A:Nat->List T} {g:Nat->List Int} {B:Nat->List T}:(a2Q n A g B).length=n:=by simp [a2Q]
theorem a31 {n i:Nat} {A:Nat->List T} {g:Nat->List Int} {B:Nat->List T} (h:i<n):(a2Q n A g B)[i]? =some (aM8 A g B (i+1) i):=by simp [a2Q,h]
theorem a7B {el:TypeId} {size n:Nat} {A:Nat->List T} {g:Nat->List Int} {B:Nat->List T}:(Z6 el size n A g B).length=n+1:=by simp [Z6]
def a8N (n j N:Nat):List (Option Nat):=(List.range (n+1)).map fun i=>some (if i=j+1 then N else i)
theorem Z1 {n j N i:Nat} (h:i<n+1):(a8N n j N)[i]? =some (some (if i=j+1 then N else i)):=by simp [a8N,h]
theorem au1 {n j N:Nat}:(a8N n j N).length=n+1:=by simp [a8N]
theorem Q4 {ρ:List (Option Nat)} {H:Hp}:∀l:List T,a3i ρ H (l.map C.t) (l.map C.t)
 |[]=>trivial
 |x::r=>⟨a0s x,Q4 r⟩
theorem a41 {ρ:List (Option Nat)} {H:Hp}:∀{a b c d:List C},a3i ρ H a b->a3i ρ H c d->a3i ρ H (a++c) (b++d)
 |[],[],_,_,_,h=>h
 |x::a,y::b,_,_,h1,h2=>⟨h1.1,a41 h1.2 h2⟩
 |[],_::_,_,_,h,_=>h.elim
 |_::_,[],_,_,h,_=>h.elim
theorem a4W {ρ:List (Option Nat)} {H:Hp}:∀{xs ys:List (List C)},xs.length=ys.length->(∀ (i:Nat) (x y:List C),xs[i]? =some x->ys[i]? =some y->a3i ρ H x y)->a43 ρ H xs ys
 |[],[],_,_=>trivial
 |[],_::_,h,_=>by simp at h
 |_::_,[],h,_=>by simp at h
 |x::xs,y::ys,h,hh=>⟨hh 0 x y rfl rfl,a4W (by simpa using h) fun i a b ha hb=>hh (i+1) a b (by simpa using ha) (by simpa using hb)⟩
def a49 (g:Nat->List Int) (j:Nat) (l:List Int):Nat->List Int:=fun i=>if i=j then l else g i
theorem b4k {el:TypeId} {size n j N:Nat} {A:Nat->List T} {g:Nat->List Int} {B:Nat->List T} {l:List Int} {env env':Env} {H:Hp} {k0:Blk} (hj:j<n) (hnN:n<N)
 (h0:H[0]? =some k0) (hk0:k0.mode=.live∧k0.app=false∧k0.elem=el∧k0.size=size) (hr:k0.rows=(a2Q n A g B).set j ((A j).map .t++.own N 0 l.length true::(B j).map .t))
 (hm:∀m,m<n->m≠j->H[m+1]? =some (C0 (g m))) (hN:H[N]? =some (C0 l)) (hE:a0Z (a8N n j N) H env env'):Ent 0 (a8N n j N) env H env' (Z6 el size n A (a49 g j l) B):=by
 refine ⟨rfl,a1i fun a b m h1 h2=>?_,a5h (by rw [au1,a7B]) fun i k' hk=>?_,hE⟩
 ·have ha:=(lbe.1 h1).1
  have hb:=(lbe.1 h2).1
  rw [au1] at ha hb
  rw [Z1 ha] at h1
  rw [Z1 hb] at h2
  simp only [lb4] at h1 h2
  split at h1<;>split at h2<;>omega
 ·have hi:=(lbe.1 hk).1
  rw [a7B] at hi
  refine ⟨if i=j+1 then N else i,?_⟩
  cases i with
  |zero=>
   refine ⟨k0,Z1 hi,by simpa using h0,?_⟩
   simp [Z6] at hk
   subst hk
   obtain ⟨q1,q2,q3,q4⟩:=hk0
   refine ⟨by unfold a2o;rw [q1,q2];rfl,q3,q4,.inr ?_⟩
   rw [hr]
   refine a4W (by rw [List.length_set,a0B];exact a0B.symm) fun a x y hx hy=>?_
   have han:a<n:=by have:=(lbe.1 hy).1;rw [show (b8n el size n A (a49 g j l) B).rows=a2Q n A (a49 g j l) B from rfl,a0B] at this;exact this
   have hy:(a2Q n A (a49 g j l) B)[a]? =some y:=hy
   rw [a31 han] at hy
   injection hy with hy
   subst hy
   rw [lbg,a0B] at hx
   by_cases haj:j=a
   ·subst haj
    rw [if_pos rfl,if_pos hj] at hx
    injection hx with hx
    subst hx
    unfold aM8
    have e1:a49 g j l j=l:=by simp [a49]
    rw [e1]
    refine a41 (Q4 _) ⟨⟨?_,rfl,rfl,fun h=>h⟩,Q4 _⟩
    rw [Z1 (by omega),if_pos rfl]
   ·rw [if_neg haj,a31 han] at hx
    injection hx with hx
    subst hx
    unfold aM8
    have e1:a49 g j l a=g a:=by unfold a49;rw [if_neg (fun h=>haj h.symm)]
    rw [e1]
    refine a41 (Q4 _) ⟨⟨?_,rfl,rfl,fun h=>h⟩,Q4 _⟩
    rw [Z1 (by omega),if_neg (by omega)]
  |succ i=>
   have hin:i<n:=by omega
   have hk:((List.range n).map fun i=>C0 (a49 g j l i))[i]? =some k':=hk
   rw [lba,lbh hin] at hk
   injection hk with hk
   subst hk
   by_cases hij:i=j
   ·subst hij
    refine ⟨C0 l,Z1 hi,by rw [if_pos rfl];exact hN,?_⟩
    have e1:a49 g i l i=l:=by simp [a49]
    show a6f _ _ _ (C0 (a49 g i l i))
    rw [e1]
    exact ⟨rfl,rfl,rfl,.inl ⟨rfl,j6 _⟩⟩
   ·refine ⟨C0 (g i),Z1 hi,by rw [if_neg (by omega)];exact hm i hin hij,?_⟩
    have e1:a49 g j l i=g i:=by unfold a49;rw [if_neg hij]
    show a6f _ _ _ (C0 (a49 g j l i))
    rw [e1]
    exact ⟨rfl,rfl,rfl,.inl ⟨rfl,j6 _⟩⟩
def aY0 (id n:Nat):List (Option Nat):=some id::List.replicate n none
theorem aL8 {ρ:List (Option Nat)} {H:Hp}:∀{n:Nat} {R:List Blk},R.length=n->(∀ k ∈ R,k.rows=[]∧k.mode=.live)->a2U ρ H (List.replicate n none) R
 |0,[],_,_=>trivial
 |n+1,k::R,h,hh=>⟨hh k (by simp),aL8 (by simpa using h) fun k hk=>hh k (by simp [hk])⟩
 |0,_::_,h,_=>by simp at h
 |n+1,[],h,_=>by simp at h
theorem ab5 {H:Hp}:∀{n:Nat},S4 (List.replicate n none) H=true
 |0=>by cases H<;>rfl
 |n+1=>by
  rw [List.replicate_succ]
  cases H with
  |nil=>rfl
  |cons k H=>exact ab5 (H:=H)
theorem ao9 {m:Nat}:∀{n:Nat} {H:Hp},a4G m (List.replicate n none) H=false
 |0,H=>by cases H<;>rfl
 |n+1,[]=>rfl
 |n+1,k::H=>by
  rw [List.replicate_succ]
  unfold a4G
  rw [ao9]
  cases k.mode<;>rfl
theorem b6I {el:TypeId} {size n id:Nat} {A B:Nat->List T} {env env':Env} {H:Hp} {k0:Blk} {s:Nat}
 (h0:H[id]? =some k0) (hk0:k0.mode=.live∧k0.app=false∧k0.elem=el∧k0.size=size) (hr:k0.rows=(List.range n).map fun i=>(A i).map .t++.t (.sl s .nil [])::(B i).map .t)
 (hE:a0Z (aY0 id n) H env env'):Ent 0 (aY0 id n) env H env' (Z6 el size n A (fun _=>[]) B):=by
 obtain ⟨q1,q2,q3,q4⟩:=hk0
 refine ⟨rfl,?_,⟨?_,?_⟩,hE⟩
 ·unfold aY0 Z6 S4
  rw [ao9,ab5]
  rfl
 ·simp only [h0]
  refine ⟨by unfold a2o;rw [q1,q2];rfl,q3,q4,.inr ?_⟩
  rw [hr]
  refine a4W (by rw [show (b8n el size n A (fun _=>[]) B).rows=a2Q n A (fun _=>[]) B from rfl,a0B];simp) fun a x y hx hy=>?_
  have han:a<n:=by have:=(lbe.1 hx).1;simpa using this
  have hy:(a2Q n A (fun _=>[]) B)[a]? =some y:=hy
  rw [a31 han] at hy
  injection hy with hy
  subst hy
  rw [lba,lbh han] at hx
  injection hx with hx
  subst hx
  unfold aM8
  refine a41 (Q4 _) ⟨⟨?_,rfl,rfl⟩,Q4 _⟩
  show (aY0 id n)[a+1]? =some none
  unfold aY0
  rw [List.getElem?_cons_succ,lbk,if_pos han]
 ·refine aL8 (by simp) fun k hk=>?_
  obtain ⟨i,_,rfl⟩:=lby.1 hk
  exact ⟨rfl,rfl⟩
theorem b4Y {el:TypeId} {size n:Nat} {A:Nat->List T} {g:Nat->List Int} {B:Nat->List T} {env env':Env}
 (hE:a0Z [some 0] (Z6 el size n A g B) env env'):Ent 0 [some 0] env (Z6 el size n A g B) env' [{ mode:=.live,elem:=el,size:=size,rows:=toC ((List.range n).map fun i=>A i++E5 (g i)::B i),box:=false }]:=by
 refine ⟨rfl,rfl,⟨⟨rfl,rfl,rfl,.inr ?_⟩,trivial⟩,hE⟩
 show a43 _ _ (a2Q n A g B) (toC _)
 refine a4W (by rw [a0B];simp [toC]) fun a x y hx hy=>?_
 have han:a<n:=by have:=(lbe.1 hx).1;rw [a0B] at this;exact this
 rw [a31 han] at hx
 injection hx with hx
 subst hx
 have hy:(((List.range n).map fun i=>A i++E5 (g i)::B i).map (·.map C.t))[a]? =some y:=hy
 rw [lba,lba,lbh han] at hy
 injection hy with hy
 subst hy
 show a3i _ _ _ ((A a++E5 (g a)::B a).map C.t)
 rw [lbD,List.map_cons]
 unfold aM8
 refine a41 (Q4 _) ⟨?_,Q4 _⟩
 have hk:(Z6 el size n A g B)[a+1]? =some (C0 (g a)):=by simp [Z6,han]
 exact show VC _ _ _ _ from D6 (by simp [Q2];rfl) hk (by intro h;cases h) rfl rfl (by simp)
theorem b47 {el:TypeId} {size n:Nat} {A:Nat->List T} {g:Nat->List Int} {B:Nat->List T}:∀k ∈ Z6 el size n A g B,okB (n+1) k:=by
 intro k hk
 rcases lbB.1 hk with rfl|hk
 ·intro r hr c hc
  obtain ⟨i,hi,rfl⟩:=lby.1 hr
  have hi:=lbC.1 hi
  unfold aM8 at hc
  rcases lbA.1 hc with hc|hc
  ·obtain ⟨x,_,rfl⟩:=lby.1 hc;trivial
  ·rcases lbB.1 hc with rfl|hc
   ·show i+1<n+1;omega
   ·obtain ⟨x,_,rfl⟩:=lby.1 hc;trivial
 ·obtain ⟨i,_,rfl⟩:=lby.1 hk
  exact J1 rfl
theorem b2g {el:TypeId} {size n:Nat} {A:Nat->List T} {g:Nat->List Int} {B:Nat->List T} {env env':Env} {R:Hp} (hE:a0Z (idR (n+1)) (Z6 el size n A g B++R) env env'):Ent 0 (idR (n+1)) env (Z6 el size n A g B++R) env' (Z6 el size n A g B):=
 aU9 a7B (Nat.zero_le _) b47 hE
def aR4 (h:Fr) (b:Bool) (gs:List Int) (n:Int):List T:=[ti h.p.sg,E5 h.p.dl,ti h.q.sg,E5 h.q.dl,tb b,E5 gs,ti n]
abbrev b8T (h:Fr) (b:Bool) (gs:List Int) (n:Int):S:=.agg ((aR4 h b gs n).map .t)
def hiF (o:Option (Rat × Rat)):Fr:=match o with
 |some (_,hi)=>fz hi
 |none=>a2e
def a0d (e:Ev) (i:Nat):Option (Rat × Rat):=match e.moves[i]? with
 |some x=>N3 e x
 |none=>none
theorem a6J {e:Ev} {i:Nat} {x:v7} (h:e.moves[i]? =some x):a0d e i=N3 e x:=by unfold a0d;rw [h]
def T8 (t:g7) (kind:Int) (i:Nat):List T:=aR4 (hiF (a0d t.ev i)) (a0d t.ev i).isSome (j8 t.finds kind i) (n9 t.cleans kind i)
abbrev a1C (t:g7) (kind:Int):T:=.sl 7 .any ((List.range t.ev.moves.length).map (T8 t kind))
def a5K (b:Bool) (hi:Rat) (gs:List Int) (n:Int) (z:Rat):Int:=if b=true∧hi<z then 20 else if gs.any (fun g=>decide (z<(g:Rat))) then 24 else if 0<n∧z≠0 then 13 else 0
theorem b2E (H:Fr) (b:Bool) (hi:Rat) (gs:List Int) (n:Int) (z:Rat) (hH:b=true->H=fz hi∧rl hi<=200) (hz:rl z<=200) (hg:∀g ∈ gs,1<=g∧g<=1099511627776) (hl:gs.length<=1000000):
 e7 Tryz.prog 117 [b8T H b gs n,frS (fz z)] [] (b7 .i64 (a5K b hi gs n z)) []:=by
 have m1:(gs.map i5).length=gs.length:=by simp
 have c:b=true->e7 Tryz.prog 54 [frS (fz z),frS H] [] (b7 .i64 (a1Y z hi)) []:=fun hb=>by
  rw [(hH hb).1];have:=(hH hb).2;exact a20 z hi (by omega) (by omega)
 have cg:=ad4 (x:=z) (y:=hi)
 have sg:=X7 z (by omega)
 have sz:=af3 (x:=z)
 by_cases hcap:b=true∧hi<z
 ·have e1:a5K b hi gs n z=20:=by unfold a5K;rw [if_pos hcap]
  have c1:=c hcap.1
  rw [e1]
  have h1:a1Y z hi > 0:=cg.2 hcap.2
  clear c
  obtain ⟨rfl,_⟩:=hcap
  (refine ac Tryz.func117 ?_;(conv=>whnf);repeat ((first|refine b0x ?_|refine zy ?_);conv=>whnf))
  repeat' (first|refine zx ?_|refine qp c1 ?_|refine zd ?_ ?_<;>intro h<;>try omega|fail)<;>conv=>whnf
  all_goals first
   |omega
   |exact s9 rfl
 have e1:a5K b hi gs n z=if gs.any (fun g=>decide (z<(g:Rat))) then 24 else if 0<n∧z≠0 then 13 else 0:=by unfold a5K;rw [if_neg hcap]
 rw [e1]
 clear e1
 have h1:b=true->¬a1Y z hi > 0:=fun hb h=>hcap ⟨hb,cg.1 h⟩
 clear cg hcap
 cases b
 case' true=>
  have c1:=c rfl
  have h2:=h1 rfl
 case' false=>
  have c1:=sg
  have h2:=True.intro
 all_goals
  clear c h1
  (refine ac Tryz.func117 ?_;(conv=>whnf);repeat ((first|refine b0x ?_|refine zy ?_);conv=>whnf))
  repeat' (first|refine zx ?_|refine qp c1 ?_|refine zd ?_ ?_<;>intro h<;>try omega|fail)<;>conv=>whnf
  all_goals try omega
  refine j5 e8 (fun k=>([J,J,S.c (C.t (T.ptr (aR4 H _ gs n))),S.c (C.t (T.ptr (q9 (fz z))))]++Jn 13++[S.c (C.t (E5 gs)),b7 .i64 gs.length,b7 .i64 k]++Jn 17,[])) gs.length (fun k=>(gs.take k).any (fun g=>decide (z<(g:Rat)))=false) [] rfl
   ⟨rfl,rfl,trivial,⟨rfl,rfl,rfl,g9 (by simp),rfl,trivial⟩⟩ ?_
  intro k hk hI
  by_cases hlt:k<gs.length
  ·obtain ⟨g,hgk⟩:∃g,gs[k]? =some g:=⟨_,lbf hlt⟩
   have bg:=hg g (lbm hgk)
   have fi:=J4 g (by omega) (by omega)
   have rg:rl (g:Rat)<=4:=by rw [a0W];have:=a0Y (x:=g) (by omega) (by omega);omega
   have cm:=a20 z (g:Rat) (by omega) (by omega)
   have cl:=a70 (x:=z) (y:=(g:Rat))
   by_cases hzg:z<(g:Rat)
   ·have h2:=cl.2 hzg
    rw [a60 hgk (by simpa using hzg),if_pos rfl]
    conv=>whnf
    repeat' (first|refine zx ?_|refine qp fi ?_|refine qp cm ?_|refine g6 hgk ?_|refine zd ?_ ?_<;>intro h<;>try omega|fail)<;>conv=>whnf
    all_goals first
     |omega
     |exact s9 rfl
   ·have h2:¬a1Y z (g:Rat)<0:=fun h=>hzg (cl.1 h)
    conv=>whnf
    repeat' (first|refine zx ?_|refine qp fi ?_|refine qp cm ?_|refine g6 hgk ?_|refine zd ?_ ?_<;>intro h<;>try omega|fail)<;>conv=>whnf
    all_goals first
     |omega
     |exact ⟨hlt,by rw [a2v hgk,hI];simpa using hzg,[],rfl,rfl,trivial,⟨rfl,rfl,rfl,rfl,rfl,trivial⟩⟩
  ·rw [lbn (by omega)] at hI
   rw [hI,if_neg (by simp)]
   by_cases h3:0<n∧z≠0
   ·rw [if_pos h3]
    have h4:sgR z≠0:=fun h=>h3.2 (sz.1 h)
    obtain ⟨h5,_⟩:=h3
    conv=>whnf
    repeat' (first|refine zx ?_|refine qp sg ?_|refine zd ?_ ?_<;>intro h<;>try omega|fail)<;>conv=>whnf
    all_goals first
     |omega
     |exact s9 rfl
   ·rw [if_neg h3]
    have h4:n<=0∨sgR z=0:=by
     by_cases h5:0<n
     ·refine .inr (sz.2 ?_)
      by_cases h6:z=0
      ·exact h6
      ·exact absurd ⟨h5,h6⟩ h3
     ·exact .inl (by omega)
    conv=>whnf
    repeat' (first|refine zx ?_|refine qp sg ?_|refine zd ?_ ?_<;>intro h<;>try omega|fail)<;>conv=>whnf
    all_goals first
     |omega
     |exact s9 rfl
theorem b4f {t:g7} {kind:Int} {i:Nat} {x:v7} (hx:t.ev.moves[i]? =some x) {z hi:Rat} (hh:∀lo hi',a0d t.ev i=some (lo,hi')->hi'=hi):
 a5K (a0d t.ev i).isSome hi (j8 t.finds kind i) (n9 t.cleans kind i) z=a0G t kind i x z:=by
 unfold a5K a0G
 rw [a6J hx] at hh ⊢
 cases hiv:N3 t.ev x with
 |none=>
  simp only [Option.isSome_none,Bool.false_eq_true,false_and,if_false,ak4,reduceCtorEq]
  have:(0<(n9 t.cleans kind i:Int))↔0<n9 t.cleans kind i:=by omega
  simp only [this]
 |some p=>
  obtain ⟨lo,hi'⟩:=p
  have:=hh lo hi' hiv
  subst this
  have e1:(ak4 (some (lo,hi')) z=false)↔hi'<z:=by
   unfold ak4
   rw [lbL];exact Rat.not_le
  have e2:(0<(n9 t.cleans kind i:Int))↔0<n9 t.cleans kind i:=by omega
  simp only [Option.isSome_some,true_and,e1,e2]
def kn1 (e:Ev) (k i:Nat):List T:=
 let h:=if i<k then hiF (a0d e i) else a2e
 [ti h.p.sg,E5 h.p.dl,ti h.q.sg,E5 h.q.dl,tb (decide (i<k) && (a0d e i).isSome),.sl 0 .nil [],ti 0]
abbrev knB (rows:List (List T)):Blk:={ mode:=.live,elem:=147,size:=7,rows:=toC rows,box:=false }
theorem aG8 {e:Ev} {k i:Nat} (h:i≠k):kn1 e (k+1) i=kn1 e k i:=by
 unfold kn1
 by_cases h1:i<k
 ·simp only [if_pos h1,if_pos (show i<k+1 by omega),h1,show i<k+1 by omega]
 ·simp only [if_neg h1,if_neg (show ¬i<k+1 by omega),h1,show ¬i<k+1 by omega]
theorem b0Z {e:Ev} {k n:Nat} (h:k<n):(toC ((List.range n).map (kn1 e k))).set k ((kn1 e (k+1) k).map C.t)=toC ((List.range n).map (kn1 e (k+1))):=by
 apply List.ext_getElem?
 intro i
 unfold toC
 rw [lbg,lba,lba,lba]
 by_cases hi:k=i
 ·subst hi
  rw [if_pos rfl]
  simp [h]
 ·rw [if_neg hi,lba]
  cases hr:(List.range n)[i]? with
  |none=>rfl
  |some j=>
   have:j=i:=by
    obtain ⟨h1,h2⟩:=lbe.1 hr
    simp at h2;omega
   subst this
   show some ((kn1 e k j).map C.t)=some ((kn1 e (k+1) j).map C.t)
   rw [aG8 (fun h=>hi h.symm)]
theorem aF7 {e:Ev} {k:Nat} (h:a0d e k=none):kn1 e (k+1) k=kn1 e k k:=by
 unfold kn1
 simp only [if_pos (show k<k+1 by omega),if_neg (show ¬k<k by omega),h]
 simp [hiF]
theorem aD3 {e:Ev} {k n:Nat} (h:a0d e k=none):(List.range n).map (kn1 e (k+1))=(List.range n).map (kn1 e k):=lbp fun i _=>by
 by_cases hi:i=k
 ·subst hi;exact aF7 h
 ·exact aG8 hi
theorem b4r {e:Ev} {n:Nat} {ρ:List (Option Nat)} {H:Hp}:a43 ρ H (List.replicate n [C.t (ti 0),C.t (.sl 0 .nil []),C.t (ti 0),C.t (.sl 0 .nil []),C.t (tb false),C.t (.sl 0 .nil []),C.t (ti 0)]) (toC ((List.range n).map (kn1 e 0))):=by
 refine a4W (by simp [toC]) fun i x y hx hy=>?_
 have hi:i<n:=by have:=(lbe.1 hx).1;simpa using this
 rw [lbk,if_pos hi] at hx
 injection hx with hx
 subst hx
 unfold toC at hy
 rw [lba,lba,lbh hi] at hy
 injection hy with hy
 subst hy
 show a3i _ _ _ ((kn1 e 0 i).map C.t)
 unfold kn1
 simp only [if_neg (show ¬i<0 by omega)]
 exact ⟨rfl,rfl,rfl,rfl,rfl,rfl,rfl,trivial⟩
def knA (e:Ev) (i:Nat):List T:=[ti (hiF (a0d e i)).p.sg,E5 (hiF (a0d e i)).p.dl,ti (hiF (a0d e i)).q.sg,E5 (hiF (a0d e i)).q.dl,tb (a0d e i).isSome]
def I2 (t:g7) (kind:Int) (k i:Nat):List Int:=j8 (t.finds.take k) kind i
theorem a6A (l:List L1) (f:L1) (kind:Int) (i:Nat):j8 (l++[f]) kind i=if f.kind=kind∧f.mv=(i:Int) then j8 l kind i++[f.grams] else j8 l kind i:=by
 rw [a6o];split<;>simp
theorem V6 {α:Type} {l:List α} {k:Nat} {x:α} (h:l[k]? =some x):l.take (k+1)=l.take k++[x]:=by rw [lbH,h];rfl
def kn3 (t:g7) (kind:Int) (k i:Nat):List T:=knA t.ev i++E5 (j8 t.finds kind i)::[ti (n9 (t.cleans.take k) kind i)]
theorem b9i (t:g7) (kind:Int) (k i:Nat):n9 (t.cleans.take k) kind i<=t.cleans.length:=lbS (lbt _ _) (by simp;omega)
theorem b6B {t:g7} {kind:Int} {n:Nat}:(List.range n).map (kn3 t kind t.cleans.length)=(List.range n).map (T8 t kind):=lbp fun i _=>by
 unfold kn3;rw [lbn (lbR _)];rfl
theorem b3U {t:g7} {kind:Int} {n k:Nat} {c:F2} (h:t.cleans[k]? =some c) (hk:c.kind≠kind):(List.range n).map (kn3 t kind (k+1))=(List.range n).map (kn3 t kind k):=lbp fun i _=>by
 unfold kn3
 rw [V6 h,a0H,if_neg (fun h=>hk h.1)];rfl
theorem b7k {t:g7} {kind:Int} {n k m:Nat} {c:F2} (hm:m<n) (h:t.cleans[k]? =some c) (hk:c.kind=kind) (hmv:c.mv=m):
 (toC ((List.range n).map (kn3 t kind k))).set m ((knA t.ev m++E5 (j8 t.finds kind m)::[ti ((n9 (t.cleans.take k) kind m:Int)+1)]).map C.t)=toC ((List.range n).map (kn3 t kind (k+1))):=by
 have key:∀i,i<n->i≠m->kn3 t kind (k+1) i=kn3 t kind k i:=fun i _ hi=>by
  unfold kn3
  rw [V6 h,a0H,if_neg (fun h=>hi (by omega))];rfl
 have own:kn3 t kind (k+1) m=knA t.ev m++E5 (j8 t.finds kind m)::[ti ((n9 (t.cleans.take k) kind m:Int)+1)]:=by
  unfold kn3
  rw [V6 h,a0H,if_pos ⟨hk,hmv⟩];rfl
 rw [← own]
 unfold toC
 rw [← List.map_set]
 congr 1
 apply List.ext_getElem?
 intro i
 simp only [lbg,lba,lbr,lbv]
 by_cases hi:m=i
 ·subst hi;simp [hm]
 ·rw [if_neg hi]
  by_cases hin:i<n
  ·rw [lbh hin]
   show some _=some _
   rw [key i hin (fun h=>hi h.symm)]
  ·rw [lbd (by simp;omega)];rfl
theorem b5H {l:List Int} {x:Int}:List.take l.length (toC (l.map i5))++toC [[ti x]]=toC ((l++[x]).map i5):=by
 rw [lbn (by simp [toC])]
 simp [toC,i5]
theorem b13 (t:g7) (kind:Int) (hs:t.Sized) (h0:J8 t.ev=0) (hf:∀f ∈ t.finds,0<=f.mv∧f.mv<t.ev.moves.length) (hc:∀c ∈ t.cleans,0<=c.mv∧c.mv<t.ev.moves.length):
 e7 Tryz.prog 115 [trS t,b7 .i64 kind] [] (.c (.t (a1C t kind))) []:=by
 obtain ⟨b1,b2,b3,b4⟩:=a17 h0
 have l1:=hs.f
 have l2:=hs.c
 have m0:(t.ev.moves.map v7.row).length=t.ev.moves.length:=by simp
 have m1:(t.finds.map L1.row).length=t.finds.length:=by simp
 have m2:(t.cleans.map F2.row).length=t.cleans.length:=by simp
 have s3:=hs.ev.s3
 have s4:=hs.ev.s4
 (refine ac Tryz.func115 ?_;(conv=>whnf);repeat ((first|refine b0x ?_|refine zy ?_);conv=>whnf))
 repeat' (first|refine zx ?_|refine a7a (by omega) (by omega) (by omega) (by decide) ?_|refine zd ?_ ?_<;>intro h<;>try omega|fail)<;>conv=>whnf
 refine j5 e8 (fun k=>([J,b7 .i64 kind,S.c (C.t (T.ptr (trT t))),J,J,S.c (C.ptr 0 0 0),S.c (C.own 1 0 t.ev.moves.length true)]++Jn 13++[S.c (C.t (a3q t.ev.moves)),b7 .i64 t.ev.moves.length,b7 .i64 k]++Jn 80,[evB t.ev,knB ((List.range t.ev.moves.length).map (kn1 t.ev k))])) t.ev.moves.length (fun _=>True) [some 0,some 1] trivial ?_ ?_
 ·refine ⟨rfl,rfl,⟨⟨rfl,rfl,rfl,.inl ⟨rfl,n8 _⟩⟩,⟨rfl,rfl,rfl,.inr ?_⟩,trivial⟩,⟨rfl,rfl,⟨rfl,rfl,rfl⟩,⟨rfl,rfl,?_,fun h=>h⟩,rfl,g9 (by simp),rfl,trivial⟩⟩
  ·have e9:((((t.ev.moves.map v7.row).length:Nat):Int)).toNat=t.ev.moves.length:=by omega
   rw [← e9]
   exact b4r
  ·omega
 intro k hk _
 by_cases hlt:k<t.ev.moves.length
 ·obtain ⟨x,hx⟩:∃x,t.ev.moves[k]? =some x:=⟨_,lbf hlt⟩
  have iv:=aZ2 t.ev.certs t.ev.recalls (by omega) (by omega) x.scale x.reading x.day
  have eK:0+(k:Int).toNat=k:=by omega
  have hk0:(List.range t.ev.moves.length)[0+(k:Int).toNat]? =some k:=by rw [eK,lbh hlt]
  have gs:∀c,((knB ((List.range t.ev.moves.length).map (kn1 t.ev k))).rows.set (0+(k:Int).toNat) c)[0+(k:Int).toNat]? =some c:=fun c=>by
   rw [List.getElem?_set_self]
   show _<(toC _).length
   simp [toC];omega
  by_cases hsc:x.scale=-1
  ·have hn:a0d t.ev k=none:=by rw [a6J hx];unfold N3;rw [if_pos hsc]
   have e1:=aD3 (n:=t.ev.moves.length) hn
   conv=>whnf
   repeat' (first|refine zx ?_|refine g6 hx ?_|refine zd ?_ ?_<;>intro h<;>try omega|fail)<;>conv=>whnf
   all_goals try omega
   refine ⟨hlt,trivial,[some 0,some 1],rfl,rfl,⟨⟨rfl,rfl,rfl,.inl ⟨rfl,n8 _⟩⟩,b8 rfl rfl rfl ?_ rfl,trivial⟩,⟨rfl,rfl,⟨rfl,rfl,rfl⟩,⟨rfl,rfl,rfl,fun h=>h⟩,rfl,rfl,rfl,trivial⟩⟩
   rw [e1]
  ·have hiv:a0d t.ev k=T4 t.ev.certs t.ev.recalls x.scale x.reading x.day:=by rw [a6J hx];unfold N3;rw [if_neg hsc]
   rw [← hiv] at iv
   cases hi:a0d t.ev k with
   |none=>
    rw [hi] at iv
    have er:(kn1 t.ev (k+1) k).map C.t=frC a2e++[C.t (tb false),C.t (.sl 0 .nil []),C.t (ti 0)]:=by rw [aF7 hi];simp [kn1]
    conv=>whnf
    repeat' (first|refine zx ?_|refine qp iv ?_|refine qp (2,3,18) ?_|refine g6 hx ?_|refine t6 hk0 ?_|refine ⟨_,gs _,?_⟩|refine bl0 [2,3,18] ?_|refine zd ?_ ?_<;>intro h<;>try omega|fail)<;>conv=>whnf
    all_goals try omega
    refine ⟨hlt,trivial,[some 0,some 1],rfl,rfl,⟨⟨rfl,rfl,rfl,.inl ⟨rfl,n8 _⟩⟩,b8 rfl rfl rfl ?_ rfl,trivial⟩,⟨rfl,rfl,⟨rfl,rfl,rfl⟩,⟨rfl,rfl,rfl,fun h=>h⟩,rfl,rfl,rfl,trivial⟩⟩
    have e2:=b0Z (e:=t.ev) hlt
    rw [er] at e2
    rw [← e2]
    show ((toC _).set (0+(k:Int).toNat) _).set (0+(k:Int).toNat) _=_
    rw [List.set_set,eK]
    rfl
   |some p=>
    obtain ⟨lo,hi'⟩:=p
    rw [hi] at iv
    have er:(kn1 t.ev (k+1) k).map C.t=frC (fz hi')++[C.t (tb true),C.t (.sl 0 .nil []),C.t (ti 0)]:=by simp [kn1,hi,hiF]
    conv=>whnf
    repeat' (first|refine zx ?_|refine qp iv ?_|refine qp (2,3,18) ?_|refine g6 hx ?_|refine t6 hk0 ?_|refine ⟨_,gs _,?_⟩|refine bl0 [2,3,18] ?_|refine zd ?_ ?_<;>intro h<;>try omega|fail)<;>conv=>whnf
    all_goals try omega
    refine ⟨hlt,trivial,[some 0,some 1],rfl,rfl,⟨⟨rfl,rfl,rfl,.inl ⟨rfl,n8 _⟩⟩,b8 rfl rfl rfl ?_ rfl,trivial⟩,⟨rfl,rfl,⟨rfl,rfl,rfl⟩,⟨rfl,rfl,rfl,fun h=>h⟩,rfl,rfl,rfl,trivial⟩⟩
    have e2:=b0Z (e:=t.ev) hlt
    rw [er] at e2
    rw [← e2]
    show ((toC _).set (0+(k:Int).toNat) _).set (0+(k:Int).toNat) _=_
    rw [List.set_set,eK]
    rfl
 ·conv=>whnf
  repeat' (first|refine zx ?_|refine zd ?_ ?_<;>intro h<;>try omega|fail)<;>conv=>whnf
  all_goals try omega
  have e0:I2 t kind 0=fun _=>[]:=by funext i;simp [I2,j8]
  refine j5 e8 (fun k=>([J,b7 .i64 kind,S.c (C.t (T.ptr (trT t))),J,J,J,S.c (C.own 0 0 t.ev.moves.length true)]++Jn 48++[S.c (C.t (ad5 t.finds)),b7 .i64 t.finds.length,b7 .i64 k]++Jn 45,Z6 147 7 t.ev.moves.length (knA t.ev) (I2 t kind k) (fun _=>[ti 0]))) t.finds.length (fun _=>True) (aY0 1 t.ev.moves.length) trivial ?_ ?_
  ·have hke:k=t.ev.moves.length:=by omega
   subst hke
   refine (?_:Ent 0 (aY0 1 t.ev.moves.length) _ _ _ (Z6 147 7 t.ev.moves.length (knA t.ev) (I2 t kind 0) (fun _=>[ti 0])))
   rw [e0]
   refine b6I (k0:=knB ((List.range t.ev.moves.length).map (kn1 t.ev t.ev.moves.length))) (s:=0) rfl ⟨rfl,rfl,rfl,rfl⟩ ?_ ?_
   ·show toC _=_
    unfold toC
    rw [List.map_map]
    refine lbp fun i hi=>?_
    have:=lbC.1 hi
    simp [kn1,knA,this]
   ·exact ⟨rfl,rfl,⟨rfl,rfl,rfl,fun h=>h⟩,k8 rfl,g9 (by simp),rfl,trivial⟩
  intro j hj _
  by_cases hjt:j<t.finds.length
  ·obtain ⟨f,hfj⟩:∃f,t.finds[j]? =some f:=⟨_,lbf hjt⟩
   obtain ⟨f1,f2⟩:=hf f (lbm hfj)
   obtain ⟨m,hm⟩:∃m:Nat,f.mv=m:=⟨f.mv.toNat,by omega⟩
   have hmn:m<t.ev.moves.length:=by omega
   have eM:0+f.mv.toNat=m:=by omega
   have rL:(List.range t.ev.moves.length).length=t.ev.moves.length:=by simp
   have rG:(List.range t.ev.moves.length)[m]? =some m:=lbh hmn
   have gR:(a2Q t.ev.moves.length (knA t.ev) (I2 t kind j) (fun _=>[ti 0]))[0+f.mv.toNat]? =some (aM8 (knA t.ev) (I2 t kind j) (fun _=>[ti 0]) (m+1) m):=by rw [eM];exact a31 hmn
   have gl:(I2 t kind j m).length<=t.finds.length:=by
    unfold I2 j8
    rw [lbr]
    exact lbS (lbt _ _) (by simp;omega)
   have hbox:∀(fB:Nat->Blk) (dead nb fb:Blk),(((((List.range t.ev.moves.length).map fB++[fb]).set m dead)++[nb])[t.ev.moves.length]?)=some fb:=fun fB dead nb fb=>by
    rw [lbb (by simp),lbg,if_neg (by omega),lbc (by simp)]
    simp
   have hnew:∀(fB:Nat->Blk) (dead nb fb:Blk),(((((List.range t.ev.moves.length).map fB++[fb]).set m dead)++[nb])[t.ev.moves.length+1]?)=some nb:=fun fB dead nb fb=>by
    rw [lbc (by simp)]
    simp
   have hold:∀(fB:Nat->Blk) (dead nb fb:Blk) (p:Nat),p<t.ev.moves.length->p≠m->(((((List.range t.ev.moves.length).map fB++[fb]).set m dead)++[nb])[p]?)=some (fB p):=fun fB dead nb fb p hp hpm=>by
    rw [lbb (by simp;omega),lbg,if_neg (by omega),lbb (by simpa using hp),lba,lbh hp];rfl
   by_cases hkd:f.kind=kind
   ·conv=>whnf
    repeat' (first|refine zx ?_|refine qp toC ?_|refine qp toC ?_|refine qp (0,1,2) ?_|refine g6 hfj ?_|refine m9 rL ?_|refine a4E rL ?_|refine I7 ?_|refine a3c ?_|refine ⟨_,gR,?_⟩|refine a98 (hbox _ _ _ _) ?_|refine Y7 rG ?_|refine aI1 rG ?_|refine G6 rL ?_|refine j7 rL ?_|refine a7H rL ?_|refine j9 rL ?_|refine aA0 ?_|refine E4 (by simp [toC]) (by simp [toC];omega) ?_|refine bl0 [0,1,2] ?_|refine zd ?_ ?_<;>intro h<;>try omega|fail)<;>conv=>whnf
    all_goals try omega
    refine ⟨hjt,trivial,a8N t.ev.moves.length m (t.ev.moves.length+2),?_⟩
    refine (?_:Ent 0 (a8N t.ev.moves.length m (t.ev.moves.length+2)) _ _ _ (Z6 147 7 t.ev.moves.length (knA t.ev) (I2 t kind (j+1)) (fun _=>[ti 0])))
    have eg:I2 t kind (j+1)=a49 (I2 t kind j) m (I2 t kind j m++[f.grams]):=by
     funext i
     unfold I2 a49
     rw [V6 hfj,a6A]
     by_cases hi:i=m
     ·subst hi;rw [if_pos ⟨hkd,hm⟩,if_pos rfl]
     ·rw [if_neg (fun h=>hi (by omega)),if_neg hi]
    rw [eg]
    refine b4k hmn (by omega) rfl ⟨rfl,rfl,rfl,rfl⟩ ?_ ?_ ?_ ?_
    ·show (a2Q _ _ _ _).set (0+f.mv.toNat) _=_
     rw [eM,lbq]
     rfl
    ·intro p hp hpm
     exact hold _ _ _ _ p hp hpm
    ·refine (hnew _ _ _ _).trans ?_
     show some (Blk.mk .live _ 1 (List.take _ (toC ((I2 t kind j m).map i5))++toC [[ti f.grams]]) false false)=_
     rw [b5H]
    ·exact ⟨rfl,rfl,⟨by rw [Z1 (by omega)];rfl,rfl,rfl,fun h=>h⟩,rfl,rfl,rfl,trivial⟩
   ·conv=>whnf
    repeat' (first|refine zx ?_|refine g6 hfj ?_|refine m9 rL ?_|refine a4E rL ?_|refine I7 ?_|refine a3c ?_|refine G6 rL ?_|refine j7 rL ?_|refine a7H rL ?_|refine j9 rL ?_|refine zd ?_ ?_<;>intro h<;>try omega|fail)<;>conv=>whnf
    all_goals try omega
    refine ⟨hjt,trivial,idR (t.ev.moves.length+1),?_⟩
    refine (?_:Ent 0 (idR (t.ev.moves.length+1)) _ (Z6 147 7 t.ev.moves.length (knA t.ev) (I2 t kind j) (fun _=>[ti 0])++_) _ (Z6 147 7 t.ev.moves.length (knA t.ev) (I2 t kind (j+1)) (fun _=>[ti 0])))
    have eg:I2 t kind (j+1)=I2 t kind j:=by
     funext i
     unfold I2
     rw [V6 hfj,a6A,if_neg (fun h=>hkd h.1)]
    rw [eg]
    exact b2g ⟨rfl,rfl,⟨p9 (by omega),rfl,rfl,fun h=>h⟩,rfl,rfl,rfl,trivial⟩
  ·have hje:j=t.finds.length:=by omega
   subst hje
   have rL:(List.range t.ev.moves.length).length=t.ev.moves.length:=by simp
   conv=>whnf
   repeat' (first|refine zx ?_|refine I7 ?_|refine a3c ?_|refine a4E rL ?_|refine zd ?_ ?_<;>intro h<;>try omega|fail)<;>conv=>whnf
   all_goals try omega
   have eg:I2 t kind t.finds.length=j8 t.finds kind:=by funext i;unfold I2;rw [lbn (lbR _)]
   rw [eg]
   refine j5 e8 (fun k=>([J,b7 .i64 kind,J,J,J,J,S.c (C.own 0 0 t.ev.moves.length true)]++Jn 75++[S.c (C.t (a7d t.cleans)),b7 .i64 t.cleans.length,b7 .i64 k]++Jn 18,[knB ((List.range t.ev.moves.length).map (kn3 t kind k))])) t.cleans.length (fun _=>True) [some 0] trivial ?_ ?_
   ·exact b4Y (g:=j8 t.finds kind) ⟨rfl,⟨rfl,rfl,rfl,fun h=>h⟩,k8 rfl,g9 (by simp),rfl,trivial⟩
   intro q hq _
   by_cases hqt:q<t.cleans.length
   ·obtain ⟨c,hcq⟩:∃c,t.cleans[q]? =some c:=⟨_,lbf hqt⟩
    obtain ⟨g1,g2⟩:=hc c (lbm hcq)
    obtain ⟨m,hm⟩:∃m:Nat,c.mv=m:=⟨c.mv.toNat,by omega⟩
    have hmn:m<t.ev.moves.length:=by omega
    have eM:0+c.mv.toNat=m:=by omega
    have hk0:(List.range t.ev.moves.length)[0+c.mv.toNat]? =some m:=by rw [eM];exact lbh hmn
    have cb:=b9i t kind q m
    by_cases hkd:c.kind=kind
    ·conv=>whnf
     repeat' (first|refine zx ?_|refine g6 hcq ?_|refine t6 hk0 ?_|refine zd ?_ ?_<;>intro h<;>try omega|fail)<;>conv=>whnf
     all_goals try omega
     refine ⟨hqt,trivial,[some 0],rfl,rfl,⟨b8 rfl rfl rfl ?_ rfl,trivial⟩,⟨rfl,⟨rfl,rfl,rfl,fun h=>h⟩,rfl,rfl,rfl,trivial⟩⟩
     show (toC _).set (0+c.mv.toNat) _=_
     rw [eM,←b7k hmn hcq hkd hm]
     rfl
    ·have e3:=b3U (t:=t) (kind:=kind) (n:=t.ev.moves.length) hcq hkd
     conv=>whnf
     repeat' (first|refine zx ?_|refine g6 hcq ?_|refine t6 hk0 ?_|refine zd ?_ ?_<;>intro h<;>try omega|fail)<;>conv=>whnf
     all_goals try omega
     refine ⟨hqt,trivial,[some 0],rfl,rfl,⟨b8 rfl rfl rfl ?_ rfl,trivial⟩,⟨rfl,⟨rfl,rfl,rfl,fun h=>h⟩,rfl,rfl,rfl,trivial⟩⟩
     rw [e3]
   ·have hqe:q=t.cleans.length:=by omega
    subst hqe
    conv=>whnf
    repeat' (first|refine zx ?_|refine zd ?_ ?_<;>intro h<;>try omega|fail)<;>conv=>whnf
    all_goals try omega
    rw [b6B]
    exact X5 (k:=knB ((List.range t.ev.moves.length).map (T8 t kind))) rfl (by intro h;cases h) rfl rfl (by simp)
abbrev ac1 (l:List (Int × Rat)):Blk:={ mode:=.live,elem:=109,size:=5,rows:=toC (l.map I4),box:=false }
abbrev U6 (l:List H6):Blk:={ mode:=.live,elem:=133,size:=6,rows:=toC (l.map E1),box:=false }
abbrev a3y (n:Int) (id len:Nat):Blk:={ mode:=.live,elem:=70,size:=2,rows:=[[.t (ti n),.own id 0 len true]],box:=true }
abbrev b9v (id len:Nat) (kind:Int):Blk:={ mode:=.live,elem:=133,size:=6,rows:=[.own id 0 len true::.t (ti kind)::frC (fz zR)],box:=true }
abbrev b5Z (x:v7):Blk:={ mode:=.live,elem:=149,size:=6,rows:=[x.row.map .t],box:=true }
theorem a3r (x:v7):K7 [x.row.map C.t]:=by simp [K7,v7.row,C.isT]
abbrev ba9:Blk:={ mode:=.live,elem:=133,size:=6,rows:=[.t (aA2 [])::.t (ti 0)::frC a2e],box:=true }
abbrev b1q (el:TypeId) (size:Nat):Blk:=⟨.dead,el,size,[],false,false⟩
theorem aq2 {l:List H6} {w:H6} {n:Nat} (h:n=l.length):List.take n (toC (l.map E1))++toC [E1 w]=toC ((l++[w]).map E1):=by
 rw [lbn (by simp [toC,h])]
 simp [toC]
theorem b86 (n:Int) (rows:List H6) (hr:rows.length<=1000000) (mv:Nat) (kind:Int) (v:Rat):
 e7 Tryz.prog 132 [b7 .i64 mv,b7 .i64 kind,frS (fz v),.c (.ptr 0 0 0)] [a3y n 1 rows.length,U6 rows] (.tup []) [a3y n 2 (rows.length+1),b1q 133 6,U6 (rows++[A0 mv kind v])]:=by
 have i1:=J4 1 (by decide) (by decide)
 (refine ac Tryz.func132 ?_;(conv=>whnf);repeat ((first|refine b0x ?_|refine zy ?_);conv=>whnf))
 repeat' (first|refine zz ?_|refine qp i1 ?_|refine qp toC ?_|refine qp toC ?_|refine a6l.weak ?_|refine E4 (by simp [toC]) (by simp [toC];omega) ?_|refine zd ?_ ?_<;>intro h<;>try omega|refine zy ?_|fail)<;>conv=>whnf
 refine ⟨⟨[some 0,some 1,some 2],rfl,rfl,⟨⟨rfl,rfl,rfl,.inr ⟨⟨rfl,⟨rfl,rfl,rfl,fun h=>h⟩,trivial⟩,trivial⟩⟩,⟨rfl,rfl,rfl,.inl ⟨rfl,by simp [K7]⟩⟩,b8 rfl rfl rfl ?_ rfl,trivial⟩,trivial⟩⟩
 show List.take rows.length (toC (rows.map E1))++toC [E1 (A0 mv kind v)]=_
 exact aq2 rfl
theorem b94 {H:Hp} {id:Nat} {n:Int} {rows:List H6} (hs:H[2]? =some (a3y n id rows.length)) (hid:H[id]? =some (U6 rows)) (hne:id≠2) (hr:rows.length<=1000000) (mv:Nat) (kind:Int) (v:Rat):
 e7 Tryz.prog 132 [b7 .i64 mv,b7 .i64 kind,frS (fz v),.c (.ptr 2 0 0)] H (.tup []) (((H.set 2 (a3y n H.length (rows.length+1))).set id (b1q 133 6))++[U6 (rows++[A0 mv kind v])]):=by
 have h2:2<H.length:=(lbe.1 hs).1
 have hi:id<H.length:=(lbe.1 hid).1
 have ex:a3v [2,id] H.length 1=[2,id,H.length]:=by simp [a3v]
 refine R8 [2,id] (b86 n rows hr mv kind v) rfl rfl rfl (by simp;omega) ?_ ?_ (by simp) rfl rfl (by simp) ?_ ?_
 ·intro i k hk
  match i,hk with
  |0,hk=>
   injection hk with hk
   subst hk
   exact ⟨rfl,rfl,by simp [okL,okC],_,hs,⟨rfl,rfl,rfl,rfl,by simp [a80,a1V,Z5]⟩⟩
  |1,hk=>
   injection hk with hk
   subst hk
   exact ⟨rfl,rfl,a3D _,_,hid,H9 rfl⟩
 ·intro k hk
  simp at hk
  rcases hk with rfl|rfl|rfl<;>(intro h;cases h)
 ·intro i k hk
  show ∃k',_[(a3v [2,id] H.length 1).getD i 0]? =some k'∧aw9 (a3v [2,id] H.length 1) k k'
  rw [ex]
  match i,hk with
  |0,hk=>
   injection hk with hk
   subst hk
   refine ⟨a3y n H.length (rows.length+1),?_,⟨rfl,rfl,rfl,rfl,by simp [a80,a1V,Z5]⟩⟩
   show (_++_)[2]? =_
   rw [lbb (by simp;omega),lbg,if_neg (by omega),lbg,if_pos rfl,if_pos h2]
  |1,hk=>
   injection hk with hk
   subst hk
   refine ⟨b1q 133 6,?_,⟨rfl,rfl,rfl,rfl,rfl⟩⟩
   show (_++_)[id]? =_
   rw [lbb (by simp;omega),lbg,if_pos rfl,if_pos (by simp;omega)]
  |2,hk=>
   injection hk with hk
   subst hk
   refine ⟨U6 (rows++[A0 mv kind v]),?_,H9 rfl⟩
   show (_++_)[H.length]? =_
   rw [lbc (by simp)]
   simp
 ·intro j hj hjn
  simp at hjn
  rw [lbb (by simp;omega),lbg,if_neg (by omega),lbg,if_neg (by omega)]
theorem a8m {l:List (Int × Rat)} {w:Int × Rat} {n:Nat} (h:n=l.length):List.take n (toC (l.map I4))++toC [I4 w]=toC ((l++[w]).map I4):=by
 rw [lbn (by simp [toC,h])]
 simp [toC]
theorem a3b {e:Ev} {p:Int} {k:Nat} {y:v7} (h:e.moves[k]? =some y):t7 e p (k+1)=if y.dst=p then t7 e p k++[((k:Int),((1:Int):Rat))] else if y.src=p then t7 e p k++[((k:Int),((-1:Int):Rat))] else t7 e p k:=by rw [t7,h]
theorem a4y {e:Ev} {p:Int}:∀k,(t7 e p k).length<=k
 |0=>by simp [t7]
 |k+1=>by
  have ih:=a4y (e:=e) (p:=p) k
  unfold t7
  cases e.moves[k]? with
  |none=>simp only;omega
  |some y=>
   simp only
   split
   ·simp;omega
   ·split
    ·simp;omega
    ·omega
theorem b6b (e:Ev) (h0:J8 e=0) {i:Nat} {x:v7} (hx:e.moves[i]? =some x):e7 Tryz.prog 133 [evS e,b7 .i64 i] [] (b8z (D7 e i x)) []:=by
 obtain ⟨b1,b2,b3,b4⟩:=a17 h0
 have hi:i<e.moves.length:=(lbe.1 hx).1
 have m0:(e.moves.map v7.row).length=e.moves.length:=by simp
 have i0:=J4 0 (by decide) (by decide)
 have i1:=J4 1 (by decide) (by decide)
 have im:=J4 (-1) (by decide) (by decide)
 have tk:(e.moves.map v7.row).take i=(e.moves.take i).map v7.row:=(List.map_take ..).symm
 have tl:(e.moves.take i).length=i:=by simp;omega
 have mt:((e.moves.take i).map v7.row).length=i:=by simp;omega
 cases hal:x.all
 case' false=>have hK:(D7 e i x).kind=0:=by unfold D7;rw [hal];rfl
 case' true=>have hK:(D7 e i x).kind=2:=by unfold D7;rw [hal];rfl
 all_goals
  (refine ac Tryz.func133 ?_;(conv=>whnf);repeat ((first|refine b0x ?_|refine zy ?_);conv=>whnf))
  repeat' (first|refine zx ?_|refine qp i0 ?_|refine g6 hx ?_|refine aJ4 (by omega) (by omega) (by omega) ?_|refine zd ?_ ?_<;>intro h<;>try omega|fail)<;>conv=>whnf
  all_goals first
   |omega
   |(exfalso;simp_all;done)
   |skip
  refine j5 e8 (fun k=>([J,b7 .i64 i,J,J,S.c (C.ptr 0 0 0),S.c (C.ptr 1 0 0),S.c (C.ptr 2 0 0)]++Jn 15++[S.c (C.t (a3q (e.moves.take i))),b7 .i64 i,b7 .i64 k]++Jn 40,[ba9,b5Z x,b9v 3 (t7 e x.src k).length (D7 e i x).kind,ac1 (t7 e x.src k)])) i (fun _=>True) [some 0,some 1,some 2,none] trivial ?_ ?_
  ·rw [hK]
   refine ⟨rfl,rfl,⟨⟨rfl,rfl,rfl,.inr ⟨⟨rfl,rfl,rfl,rfl,rfl,rfl,trivial⟩,trivial⟩⟩,⟨rfl,rfl,rfl,.inl ⟨rfl,a3r x⟩⟩,⟨rfl,rfl,rfl,.inr ⟨⟨⟨rfl,rfl,rfl⟩,rfl,rfl,rfl,rfl,rfl,trivial⟩,trivial⟩⟩,⟨rfl,rfl⟩,trivial⟩,⟨rfl,⟨rfl,rfl,rfl⟩,⟨rfl,rfl,rfl⟩,⟨rfl,rfl,rfl⟩,k8 ?_,g9 ?_,rfl,trivial⟩⟩
   ·show T.sl 6 _ (((e.moves.map v7.row).take ((i:Int)).toNat).drop 0)=_
    rw [lbY,tk];rfl
   ·show ((((e.moves.map v7.row).take ((i:Int)).toNat).drop 0).length:Int)=i
    rw [lbY,tk,List.drop_zero,mt]
  intro k hk _
  have kl:=a4y (e:=e) (p:=x.src) k
  by_cases hlt:k<i
  ·obtain ⟨y,hy⟩:∃y,e.moves[k]? =some y:=⟨_,lbf (by omega)⟩
   have hyt:(e.moves.take i)[k]? =some y:=by rw [lbi,if_pos hlt];exact hy
   by_cases c1:y.dst=x.src
   ·have et:t7 e x.src (k+1)=t7 e x.src k++[((k:Int),((1:Int):Rat))]:=by rw [a3b hy,if_pos c1]
    conv=>whnf
    repeat' (first|refine zx ?_|refine qp i1 ?_|refine qp toC ?_|refine qp toC ?_|refine g6 hyt ?_|refine E4 (by simp [toC]) (by simp [toC];omega) ?_|refine zd ?_ ?_<;>intro h<;>try omega|fail)<;>conv=>whnf
    all_goals try omega
    refine ⟨hlt,trivial,[some 0,some 1,some 2,some 5],rfl,rfl,⟨⟨rfl,rfl,rfl,.inr ⟨⟨rfl,rfl,rfl,rfl,rfl,rfl,trivial⟩,trivial⟩⟩,⟨rfl,rfl,rfl,.inl ⟨rfl,a3r x⟩⟩,⟨rfl,rfl,rfl,.inr ⟨⟨⟨rfl,rfl,?_,fun h=>h⟩,rfl,rfl,rfl,rfl,rfl,trivial⟩,trivial⟩⟩,b8 rfl rfl rfl ?_ rfl,trivial⟩,⟨rfl,⟨rfl,rfl,rfl⟩,⟨rfl,rfl,rfl⟩,⟨rfl,rfl,rfl⟩,rfl,rfl,rfl,trivial⟩⟩
    ·rw [et,lbq];rfl
    ·rw [et]
     show List.take (t7 e x.src k).length (toC ((t7 e x.src k).map I4))++toC [I4 ((k:Int),((1:Int):Rat))]=_
     exact a8m rfl
   ·by_cases c2:y.src=x.src
    ·have et:t7 e x.src (k+1)=t7 e x.src k++[((k:Int),((-1:Int):Rat))]:=by rw [a3b hy,if_neg c1,if_pos c2]
     conv=>whnf
     repeat' (first|refine zx ?_|refine qp im ?_|refine qp toC ?_|refine qp toC ?_|refine g6 hyt ?_|refine E4 (by simp [toC]) (by simp [toC];omega) ?_|refine zd ?_ ?_<;>intro h<;>try omega|fail)<;>conv=>whnf
     all_goals try omega
     refine ⟨hlt,trivial,[some 0,some 1,some 2,some 5],rfl,rfl,⟨⟨rfl,rfl,rfl,.inr ⟨⟨rfl,rfl,rfl,rfl,rfl,rfl,trivial⟩,trivial⟩⟩,⟨rfl,rfl,rfl,.inl ⟨rfl,a3r x⟩⟩,⟨rfl,rfl,rfl,.inr ⟨⟨⟨rfl,rfl,?_,fun h=>h⟩,rfl,rfl,rfl,rfl,rfl,trivial⟩,trivial⟩⟩,b8 rfl rfl rfl ?_ rfl,trivial⟩,⟨rfl,⟨rfl,rfl,rfl⟩,⟨rfl,rfl,rfl⟩,⟨rfl,rfl,rfl⟩,rfl,rfl,rfl,trivial⟩⟩
     ·rw [et,lbq];rfl
     ·rw [et]
      show List.take (t7 e x.src k).length (toC ((t7 e x.src k).map I4))++toC [I4 ((k:Int),((-1:Int):Rat))]=_
      exact a8m rfl
    ·have et:t7 e x.src (k+1)=t7 e x.src k:=by rw [a3b hy,if_neg c1,if_neg c2]
     conv=>whnf
     repeat' (first|refine zx ?_|refine g6 hyt ?_|refine zd ?_ ?_<;>intro h<;>try omega|fail)<;>conv=>whnf
     all_goals try omega
     refine ⟨hlt,trivial,[some 0,some 1,some 2,some 3],rfl,rfl,⟨⟨rfl,rfl,rfl,.inr ⟨⟨rfl,rfl,rfl,rfl,rfl,rfl,trivial⟩,trivial⟩⟩,⟨rfl,rfl,rfl,.inl ⟨rfl,a3r x⟩⟩,⟨rfl,rfl,rfl,.inr ⟨⟨⟨rfl,rfl,?_,fun h=>h⟩,rfl,rfl,rfl,rfl,rfl,trivial⟩,trivial⟩⟩,b8 rfl rfl rfl ?_ rfl,trivial⟩,⟨rfl,⟨rfl,rfl,rfl⟩,⟨rfl,rfl,rfl⟩,⟨rfl,rfl,rfl⟩,rfl,rfl,rfl,trivial⟩⟩
     ·rw [et]
     ·rw [et]
  ·have hke:k=i:=by omega
   subst hke
   conv=>whnf
   repeat' (first|refine zx ?_|refine qp im ?_|refine qp toC ?_|refine qp toC ?_|refine E4 (by simp [toC]) (by simp [toC];omega) ?_|refine zd ?_ ?_<;>intro h<;>try omega|fail)<;>conv=>whnf
   all_goals try omega
   refine v8 ⟨show VC _ (fun id=>Q2 [] id=true) _ _ from D6 rfl rfl (by intro h;cases h) rfl (rows:=(t7 e x.src k++[((k:Int),((-1:Int):Rat))]).map I4) ?_ ?_,rfl,rfl,rfl,rfl,rfl,trivial⟩
   ·show List.take (t7 e x.src k).length (toC ((t7 e x.src k).map I4))++toC [I4 ((k:Int),((-1:Int):Rat))]=_
    exact a8m rfl
   ·rw [lbr,lbq];rfl
theorem a4o {e:Ev}:∀{l:List F2},P6 e l=0->∀c ∈ l,0<=c.mv∧c.mv<e.moves.length
 |[],_,c,hc=>by cases hc
 |g::r,h,c,hc=>by
  unfold P6 at h
  by_cases h1:a2f e g.mv g.kind≠0
  ·rw [if_pos h1] at h;exact absurd h h1
  rw [if_neg h1] at h
  rcases lbB.1 hc with rfl|hc
  ·unfold a2f at h1
   by_cases h3:c.mv<0∨(e.moves.length:Int)<=c.mv
   ·rw [if_pos h3] at h1;exact absurd (by decide) h1
   omega
  ·exact a4o h c hc
theorem b1I {e:Ev} {Z:List Rat} (hZ:∀v ∈ Z,rl v<=200) (hm:e.moves.length<=200) {k:Nat} (hk:k<=200) (p:Nat):rl (F8 e Z k p)<=50000:=by
 have hB:∀l ∈ col Z,∀x ∈ l,rl x<=200:=fun l hl x hx=>by
  obtain ⟨v,hv,rfl⟩:=lby.1 hl
  simp at hx
  subst hx
  exact hZ x hv
 have:=b3Z (e:=e) hB (by decide) k p 0
 have h2:=lbU (200+1) hk
 unfold F8
 omega
def hiR (o:Option (Rat × Rat)):Rat:=match o with
 |some (_,hi)=>hi
 |none=>0
theorem b3p {o:Option (Rat × Rat)} {lo hi:Rat} (h:o=some (lo,hi)):hi=hiR o:=by rw [h];rfl
theorem a6t {e:Ev} {x:v7} (h:(N3 e x).isSome=true):hiF (N3 e x)=fz (hiR (N3 e x))∧rl (hiR (N3 e x))<=200:=by
 cases hiv:N3 e x with
 |none=>rw [hiv] at h;cases h
 |some p=>
  obtain ⟨lo,hi⟩:=p
  refine ⟨rfl,?_⟩
  show rl hi<=200
  unfold N3 at hiv
  by_cases hs:x.scale=-1
  ·rw [if_pos hs] at hiv;cases hiv
  ·rw [if_neg hs] at hiv
   have:=(aH2 hiv).2
   omega
theorem b4u {t:g7} {kind:Int} {i:Nat} {x:v7} (hx:t.ev.moves[i]? =some x) (ht:N9 t.ev t.finds=0) (hl:t.finds.length<=1000000) (z:Rat) (hz:rl z<=200):
 e7 Tryz.prog 117 [.agg ((T8 t kind i).map .t),frS (fz z)] [] (b7 .i64 (a0G t kind i x z)) []:=by
 have h:=b2E (hiF (a0d t.ev i)) (a0d t.ev i).isSome (hiR (a0d t.ev i)) (j8 t.finds kind i) (n9 t.cleans kind i) z
  (by rw [a6J hx];exact a6t) hz (fun g hg=>by
    unfold j8 at hg
    obtain ⟨f,hf,rfl⟩:=lby.1 hg
    have:=P3 ht f (lbz.1 hf).1
    omega) (by unfold j8;rw [lbr];exact lbS (lbt _ _) hl)
 rw [b4f hx (fun lo hi' h=>(b3p h))] at h
 exact h
theorem aF9 {l:List Fr} {i:Nat} {y:Fr}:(toC (l.map q9)).set i (frC y)=toC ((l.set i y).map q9):=by simp [toC,List.map_set,q9]
theorem aW2 {n:Nat} {ρ:List (Option Nat)} {H:Hp}:a43 ρ H (List.replicate n [C.t (ti 0),C.t (.sl 0 .nil []),C.t (ti 0),C.t (.sl 0 .nil [])]) (toC ((a21 0 n).map q9)):=by
 rw [b0k]
 refine a4W (by simp [toC]) fun i x y hx hy=>?_
 have hi:i<n:=by have:=(lbe.1 hx).1;simpa using this
 rw [lbk,if_pos hi] at hx
 injection hx with hx
 subst hx
 unfold toC at hy
 rw [lba,lba,lbk,if_pos hi] at hy
 injection hy with hy
 subst hy
 exact ⟨rfl,rfl,rfl,rfl,trivial⟩
theorem b28 {e:Ev} {Z:List Rat} {j k s d:Nat} {x:v7} {v:Rat} (hx:e.moves[j]? =some x) (hv:Z.getD j 0=v) (hs:x.src=s) (hd:x.dst=d) (hsk:s<k) (hdk:d<k) (hsd:s≠d):
 ((a5Z k (F8 e Z j)).set s (fz (F8 e Z j s - v))).set d (fz (F8 e Z j d+v))=a5Z k (F8 e Z (j+1)):=by
 rw [aK1 hsk,aK1 hdk]
 congr 1
 funext p
 rw [a2G hx,hv]
 have c1:(x.src=(p:Int))↔p=s:=by omega
 have c2:(x.dst=(p:Int))↔p=d:=by omega
 simp only [c1,c2]
 by_cases h1:p=d
 ·subst h1
  rw [if_pos rfl,if_neg (fun h=>hsd h.symm),if_pos rfl]
 ·rw [if_neg h1]
  by_cases h2:p=s
  ·subst h2;rw [if_pos rfl,if_pos rfl]
  ·rw [if_neg h2,if_neg h2,if_neg h1]
theorem b2K {x y:Rat}:a1Y x y=0↔x=y:=by
 have h1:=b1f (x:=x) (y:=y)
 have h2:=a70 (x:=x) (y:=y)
 constructor
 ·intro h
  have q1:x<=y:=h1.1 (by omega)
  have q2:¬x<y:=fun h'=>by have:=h2.2 h';omega
  grind
 ·intro h
  have q1:a1Y x y<=0:=h1.2 (by grind)
  have q2:¬a1Y x y<0:=fun h'=>by have:=h2.1 h';grind
  omega
theorem b5g (t:g7) (kind:Int) (z:List Fr) (hs:t.Sized) (hl:z.length<=1000000) (hd:∀f ∈ z,f.p.dl.length<=200∧f.q.dl.length<=200):
 e7 Tryz.prog 50 [trS t,b7 .i64 kind,F3 z] [] (b7 .i64 (Q9 t kind z)) []:=by
 have ck:=a6G t hs
 have m1:(z.map q9).length=z.length:=by simp
 have m2:(t.ev.moves.map v7.row).length=t.ev.moves.length:=by simp
 have m3:(t.ev.places.map a0i.row).length=t.ev.places.length:=by simp
 by_cases h1:s6 t≠0∨kind<0∨8<=kind
 ·have e1:Q9 t kind z=1:=by unfold Q9;rw [if_pos h1]
  rw [e1]
  (refine ac Tryz.func50 ?_;(conv=>whnf);repeat ((first|refine b0x ?_|refine zy ?_);conv=>whnf))
  repeat' (first|refine zx ?_|refine qp ck ?_|refine zd ?_ ?_<;>intro h<;>try omega|fail)<;>conv=>whnf
  all_goals first
   |omega
   |exact s9 rfl
 obtain ⟨k1,k2,k3⟩:s6 t=0∧0<=kind∧kind<8:=by omega
 rw [k1] at ck
 by_cases h2:z.length≠t.ev.moves.length
 ·have e1:Q9 t kind z=2:=by unfold Q9;rw [if_neg h1,if_pos h2]
  rw [e1]
  (refine ac Tryz.func50 ?_;(conv=>whnf);repeat ((first|refine b0x ?_|refine zy ?_);conv=>whnf))
  repeat' (first|refine zx ?_|refine qp ck ?_|refine zd ?_ ?_<;>intro h<;>try omega|fail)<;>conv=>whnf
  all_goals first
   |omega
   |exact s9 rfl
 have h2:z.length=t.ev.moves.length:=by omega
 have e1:Q9 t kind z=if z.all N1 then X8 t kind (z.map fv) 0 t.ev.moves else 2:=by unfold Q9;rw [if_neg h1,if_neg (by omega)]
 rw [e1]
 clear e1 h1
 obtain ⟨q1,q2,q3,q4,q5⟩:=B4 k1
 obtain ⟨b1,b2,b3,b4⟩:=a17 q1
 have kn:=b13 t kind hs q1 (fun f hf=>by have:=P3 q4 f hf;omega) (fun c hc=>a4o q5 c hc)
 have i0:=J4 0 (by decide) (by decide)
 (refine ac Tryz.func50 ?_;(conv=>whnf);repeat ((first|refine b0x ?_|refine zy ?_);conv=>whnf))
 repeat' (first|refine zx ?_|refine qp ck ?_|refine zd ?_ ?_<;>intro h<;>try omega|fail)<;>conv=>whnf
 all_goals try omega
 refine j5 e8 (fun k=>([J,b7 .i64 kind,F3 z,S.c (C.t (T.ptr (trT t))),J,J,J,S.c (C.ptr 0 0 0)]++Jn 28++[F3 z,b7 .i64 z.length,b7 .i64 k]++Jn 112,[evB t.ev])) z.length (fun k=>(z.take k).all N1=true) [some 0] rfl
  ⟨rfl,rfl,⟨⟨rfl,rfl,rfl,.inl ⟨rfl,n8 _⟩⟩,trivial⟩,⟨rfl,rfl,rfl,⟨rfl,rfl,rfl⟩,rfl,g9 (by simp),rfl,trivial⟩⟩ ?_
 intro k hk hI
 by_cases hlt:k<z.length
 ·obtain ⟨f,hf⟩:∃f,z[k]? =some f:=⟨_,lbf hlt⟩
  obtain ⟨d1,d2⟩:=hd f (lbm hf)
  have r:=ad8 f (by omega) (by omega)
  cases hr:N1 f with
  |true=>
   rw [hr] at r
   conv=>whnf
   repeat' (first|refine zx ?_|refine qp r ?_|refine g6 hf ?_|refine zd ?_ ?_<;>intro h<;>try omega|fail)<;>conv=>whnf
   all_goals first
    |omega
    |exact ⟨hlt,by rw [G3 hf,hI,hr];rfl,[some 0],rfl,rfl,⟨⟨rfl,rfl,rfl,.inl ⟨rfl,n8 _⟩⟩,trivial⟩,⟨rfl,rfl,rfl,⟨rfl,rfl,rfl⟩,rfl,rfl,rfl,trivial⟩⟩
  |false=>
   rw [hr] at r
   rw [K6 hf hr]
   conv=>whnf
   repeat' (first|refine zx ?_|refine qp r ?_|refine g6 hf ?_|refine zd ?_ ?_<;>intro h<;>try omega|fail)<;>conv=>whnf
   all_goals first
    |omega
    |exact s9 rfl
 have hz:z.all N1=true:=by rw [← hI,lbn (by omega)]
 rw [if_pos hz]
 obtain ⟨Z,rfl⟩:=ah8 hz
 rw [ay9]
 have hZ:∀v ∈ Z,rl v<=200:=fun v hv=>by
  have:=hd (fz v) (lby.2 ⟨v,hv,rfl⟩)
  exact Nat.max_le.2 this
 have zl:Z.length=t.ev.moves.length:=by simpa using h2
 generalize hN:t.ev.places.length=N at *
 conv=>whnf
 repeat' (first|refine zx ?_|refine a7a (by omega) (by omega) (by omega) (by decide) ?_|refine zd ?_ ?_<;>intro h<;>try omega|fail)<;>conv=>whnf
 all_goals try omega
 clear hI hlt hk
 refine j5 e8 (fun k=>([J,b7 .i64 kind,F3 (Z.map fz),S.c (C.t (T.ptr (trT t))),J,J,J,S.c (C.ptr 0 0 0),J,J,S.c (C.own 1 0 N true)]++Jn 40++[b7 .i64 N,b7 .i64 k]++Jn 98,[evB t.ev,b6u (a21 k N)])) N (fun _=>True) [some 0,some 1] trivial ?_ ?_
 ·refine ⟨rfl,rfl,⟨⟨rfl,rfl,rfl,.inl ⟨rfl,n8 _⟩⟩,⟨rfl,rfl,rfl,.inr ?_⟩,trivial⟩,⟨rfl,rfl,rfl,⟨rfl,rfl,rfl⟩,⟨rfl,rfl,?_,fun h=>h⟩,g9 (by omega),rfl,trivial⟩⟩
  ·have e9:((((t.ev.places.map a0i.row).length:Nat):Int)).toNat=N:=by omega
   show a43 _ _ (List.replicate ((((t.ev.places.map a0i.row).length:Nat):Int)).toNat _) _
   rw [e9]
   exact aW2
  ·omega
 intro k hk _
 by_cases hlt:k<N
 ·have eM:0+(k:Int).toNat=k:=by omega
  obtain ⟨pf,hpf⟩:∃pf,(a21 k N)[k]? =some pf:=⟨_,a4U hlt⟩
  have gp:(a21 k N)[0+(k:Int).toNat]? =some pf:=by rw [eM];exact hpf
  conv=>whnf
  repeat' (first|refine zx ?_|refine qp i0 ?_|refine t6 gp ?_|refine zd ?_ ?_<;>intro h<;>try omega|fail)<;>conv=>whnf
  all_goals try omega
  refine ⟨hlt,trivial,[some 0,some 1],rfl,rfl,⟨⟨rfl,rfl,rfl,.inl ⟨rfl,n8 _⟩⟩,b8 rfl rfl rfl ?_ rfl,trivial⟩,⟨rfl,rfl,rfl,⟨rfl,rfl,rfl⟩,⟨rfl,rfl,rfl,fun h=>h⟩,rfl,rfl,trivial⟩⟩
  have e:=b3Q (row:=a21 k N) (y:=fz zR) eM
  rw [b22 hlt] at e
  exact congrArg Blk.rows e
 have hke:k=N:=by omega
 subst hke
 conv=>whnf
 repeat' (first|refine zx ?_|refine qp kn ?_|refine zd ?_ ?_<;>intro h<;>try omega|fail)<;>conv=>whnf
 all_goals try omega
 clear hlt hk
 refine j5 e8 (fun j=>([J,J,F3 (Z.map fz),J,J,J,J,S.c (C.ptr 0 0 0),J,J,S.c (C.own 1 0 k true)]++Jn 51++[S.c (C.t (a1C t kind)),b7 .i64 t.ev.moves.length,b7 .i64 j]++Jn 86,[evB t.ev,b6u (a5Z k (F8 t.ev Z j))])) t.ev.moves.length (fun j=>X8 t kind Z j (t.ev.moves.drop j)=X8 t kind Z 0 t.ev.moves) [some 0,some 1] rfl ?_ ?_
 ·refine ⟨rfl,rfl,⟨⟨rfl,rfl,rfl,.inl ⟨rfl,n8 _⟩⟩,b8 rfl rfl rfl ?_ rfl,trivial⟩,⟨rfl,⟨rfl,rfl,rfl⟩,⟨rfl,rfl,rfl,fun h=>h⟩,rfl,g9 (by simp),rfl,trivial⟩⟩
  rw [b1O]
  rfl
 intro j hj hI
 by_cases hlt:j<t.ev.moves.length
 ·obtain ⟨x,hx⟩:∃x,t.ev.moves[j]? =some x:=⟨_,lbf hlt⟩
  have hmo:=K8 q1 (lbm hx)
  have ms:=R6 hmo
  have md:=a3s hmo
  have hne:x.src≠x.dst:=by unfold O0 at hmo;simp only [lbN,lbJ] at hmo;exact hmo.1.1.1.1.1.2
  obtain ⟨s,hsn⟩:∃s:Nat,x.src=s:=⟨x.src.toNat,by omega⟩
  obtain ⟨d,hdn⟩:∃d:Nat,x.dst=d:=⟨x.dst.toNat,by omega⟩
  have hsk:s<k:=by omega
  have hdk:d<k:=by omega
  have hsd:s≠d:=by omega
  obtain ⟨v,hv⟩:∃v,Z[j]? =some v:=⟨_,lbf (by omega)⟩
  have hvd:Z.getD j 0=v:=by rw [lbl,hv];rfl
  have bv:=hZ v (lbm hv)
  have bs:=b1I (e:=t.ev) hZ b4 (k:=j) (by omega) s
  have bd:=b1I (e:=t.ev) hZ b4 (k:=j) (by omega) d
  have cm:=a20 v (F8 t.ev Z j s) (by omega) (by omega)
  have sg:=X7 v (by omega)
  have sb:=aZ1 (F8 t.ev Z j s) v (by omega) (by omega)
  have ad:=a4S (F8 t.ev Z j d) v (by omega) (by omega)
  have bn:=b7P t.ev q1 hx
  have al:=b4u (kind:=kind) hx q4 hs.f v bv
  have gk:(List.range t.ev.moves.length)[j]? =some j:=lbh hlt
  have zk:=aL3 Z hv
  have eS:0+x.src.toNat=s:=by omega
  have eD:0+x.dst.toNat=d:=by omega
  have xs:(a5Z k (F8 t.ev Z j))[0+x.src.toNat]? =some (fz (F8 t.ev Z j s)):=by rw [eS];exact a7t hsk
  have xd:(a5Z k (F8 t.ev Z j))[0+x.dst.toNat]? =some (fz (F8 t.ev Z j d)):=by rw [eD];exact a7t hdk
  have cg:=ad4 (x:=v) (y:=F8 t.ev Z j s)
  have cz:=b2K (x:=v) (y:=F8 t.ev Z j s)
  have sn:=b0H (x:=v)
  rw [a40 hx] at hI
  have hI:(if tAt t kind Z j x≠0 then tAt t kind Z j x else X8 t kind Z (j+1) (t.ev.moves.drop (j+1)))=X8 t kind Z 0 t.ev.moves:=hI
  have hta:tAt t kind Z j x=a0l t kind j x v (F8 t.ev Z j s):=by unfold tAt;rw [hvd,show x.src.toNat=s by omega]
  rw [hta] at hI
  have fin3:∀(c:Int) (H1:Hp),a0l t kind j x v (F8 t.ev Z j s)=c->c≠0->Fin 0 (b7 .i64 c) H1 (b7 .i64 (X8 t kind Z 0 t.ev.moves)) []:=fun c H1 h hc=>s9 (by rw [← hI,h,if_pos hc])
  generalize a1Y v (F8 t.ev Z j s)=U at cm cg cz
  generalize sgR v=W at sg sn
  have hse:0+x.src.toNat≠0+x.dst.toNat:=by omega
  have e0:ap3 t.ev x v (F8 t.ev Z j s)=if v<0 then 3 else if z7 t.ev x.src≠0∧F8 t.ev Z j s<v then 4 else if x.all=true∧v≠F8 t.ev Z j s then 7 else 0:=rfl
  by_cases c1:v<0
  ·have e3:a0l t kind j x v (F8 t.ev Z j s)=3:=by unfold a0l;rw [e0,if_pos c1];rfl
   have w1:W<0:=sn.2 c1
   conv=>whnf
   repeat' (first|refine zx ?_|refine qp cm ?_|refine qp sg ?_|refine qp bn ?_|refine qp al ?_|refine qp sb ?_|refine qp ad ?_|refine qp 15 ?_|refine g6 hx ?_|refine g6 gk ?_|refine g6 zk ?_|refine t6 xs ?_|refine a2Y hse xd ?_|refine bl0 [15] ?_|refine zd ?_ ?_<;>intro h<;>try omega|fail)<;>conv=>whnf
   all_goals first
    |omega
    |exact fin3 3 _ e3 (by decide)
  have w1:¬W<0:=fun h=>c1 (sn.1 h)
  rw [if_neg c1] at e0
  by_cases c2:z7 t.ev x.src≠0∧F8 t.ev Z j s<v
  ·have e3:a0l t kind j x v (F8 t.ev Z j s)=4:=by unfold a0l;rw [e0,if_pos c2];rfl
   have w2:U > 0:=cg.2 c2.2
   rw [lbK c2.1] at bn
   conv=>whnf
   repeat' (first|refine zx ?_|refine qp cm ?_|refine qp sg ?_|refine qp bn ?_|refine qp al ?_|refine qp sb ?_|refine qp ad ?_|refine qp 15 ?_|refine g6 hx ?_|refine g6 gk ?_|refine g6 zk ?_|refine t6 xs ?_|refine a2Y hse xd ?_|refine bl0 [15] ?_|refine zd ?_ ?_<;>intro h<;>try omega|fail)<;>conv=>whnf
   all_goals first
    |omega
    |exact fin3 4 _ e3 (by decide)
  rw [if_neg c2] at e0
  have w2:z7 t.ev x.src=0∨¬U > 0:=by
   by_cases h:z7 t.ev x.src=0
   ·exact .inl h
   ·exact .inr fun h'=>c2 ⟨h,cg.1 h'⟩
  by_cases c3:x.all=true∧v≠F8 t.ev Z j s
  ·have e3:a0l t kind j x v (F8 t.ev Z j s)=7:=by unfold a0l;rw [e0,if_pos c3];rfl
   have w3:U≠0:=fun h=>c3.2 (cz.1 h)
   have w4:=c3.1
   by_cases hb:z7 t.ev x.src=0
   ·rw [lbI hb] at bn
    conv=>whnf
    repeat' (first|refine zx ?_|refine qp cm ?_|refine qp sg ?_|refine qp bn ?_|refine qp al ?_|refine qp sb ?_|refine qp ad ?_|refine qp 15 ?_|refine g6 hx ?_|refine g6 gk ?_|refine g6 zk ?_|refine t6 xs ?_|refine a2Y hse xd ?_|refine bl0 [15] ?_|refine zd ?_ ?_<;>intro h<;>try omega|fail)<;>conv=>whnf
    all_goals first
     |omega
     |exact fin3 7 _ e3 (by decide)
     |(exfalso;simp_all;done)
   ·rw [lbK hb] at bn
    conv=>whnf
    repeat' (first|refine zx ?_|refine qp cm ?_|refine qp sg ?_|refine qp bn ?_|refine qp al ?_|refine qp sb ?_|refine qp ad ?_|refine qp 15 ?_|refine g6 hx ?_|refine g6 gk ?_|refine g6 zk ?_|refine t6 xs ?_|refine a2Y hse xd ?_|refine bl0 [15] ?_|refine zd ?_ ?_<;>intro h<;>try omega|fail)<;>conv=>whnf
    all_goals first
     |omega
     |exact fin3 7 _ e3 (by decide)
     |(exfalso;simp_all;done)
  rw [if_neg c3] at e0
  have w3:x.all=false∨U=0:=by
   cases h:x.all with
   |false=>exact .inl rfl
   |true=>
    refine .inr (cz.2 ?_)
    by_cases h':v=F8 t.ev Z j s
    ·exact h'
    ·exact absurd ⟨h,h'⟩ c3
  have e3:a0l t kind j x v (F8 t.ev Z j s)=a0G t kind j x v:=by unfold a0l;rw [e0,if_neg (by simp)]
  have er:=b28 hx hvd hsn hdn hsk hdk hsd
  have bnx:e7 Tryz.prog 116 [evS t.ev,b7 .i64 j] [] (i8 (decide (z7 t.ev x.src=0))) []:=bn
  by_cases ha:a0G t kind j x v≠0
  ·have fa:=fun H1=>fin3 _ H1 e3 ha
   generalize a0G t kind j x v=Q at al ha fa
   rcases w3 with w3|w3
   all_goals
    by_cases hb:z7 t.ev x.src=0
    case' pos=>rw [lbI hb] at bn
    case' neg=>rw [lbK hb] at bn
    all_goals
     conv=>whnf
     repeat' (first|refine zx ?_|refine qp cm ?_|refine qp sg ?_|refine qp bn ?_|refine qp al ?_|refine qp sb ?_|refine qp ad ?_|refine qp 15 ?_|refine g6 hx ?_|refine g6 gk ?_|refine g6 zk ?_|refine t6 xs ?_|refine a2Y hse xd ?_|refine bl0 [15] ?_|refine zd ?_ ?_<;>intro h<;>try omega|fail)<;>conv=>whnf
     all_goals first
      |omega
      |exact fa _
      |(exfalso;simp_all;done)
  ·have ha:a0G t kind j x v=0:=by omega
   rw [e3,ha,if_neg (by simp)] at hI
   rw [ha] at al
   have nxt:((toC ((a5Z k (F8 t.ev Z j)).map q9)).set (0+x.src.toNat) (frC (fz (F8 t.ev Z j s - v)))).set (0+x.dst.toNat) (frC (fz (F8 t.ev Z j d+v)))=toC ((a5Z k (F8 t.ev Z (j+1))).map q9):=by
    rw [aF9,aF9,eS,eD,er]
   rcases w3 with w3|w3
   all_goals
    by_cases hb:z7 t.ev x.src=0
    case' pos=>rw [lbI hb] at bn
    case' neg=>rw [lbK hb] at bn
    all_goals
     conv=>whnf
     repeat' (first|refine zx ?_|refine qp cm ?_|refine qp sg ?_|refine qp bn ?_|refine qp al ?_|refine qp sb ?_|refine qp ad ?_|refine qp 15 ?_|refine g6 hx ?_|refine g6 gk ?_|refine g6 zk ?_|refine t6 xs ?_|refine a2Y hse xd ?_|refine bl0 [15] ?_|refine zd ?_ ?_<;>intro h<;>try omega|fail)<;>conv=>whnf
     all_goals first
      |omega
      |exact ⟨hlt,hI,[some 0,some 1],rfl,rfl,⟨⟨rfl,rfl,rfl,.inl ⟨rfl,n8 _⟩⟩,b8 rfl rfl rfl nxt rfl,trivial⟩,⟨rfl,⟨rfl,rfl,rfl⟩,⟨rfl,rfl,rfl,fun h=>h⟩,rfl,rfl,rfl,trivial⟩⟩
      |(exfalso;simp_all;done)
 ·rw [lbo (by omega)] at hI
  have hI:0=X8 t kind Z 0 t.ev.moves:=hI
  conv=>whnf
  repeat' (first|refine zx ?_|refine zd ?_ ?_<;>intro h<;>try omega|fail)<;>conv=>whnf
  all_goals first
   |omega
   |exact s9 hI
end Go.Proofs.YtikokmdpigploaaGreat
