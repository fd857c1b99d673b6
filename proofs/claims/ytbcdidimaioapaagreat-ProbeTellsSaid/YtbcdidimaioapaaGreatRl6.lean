/- Part 13. -/
import Derived.Test.YtbcdidimaioapaaGreatRl5
namespace Go.Proofs.YtbcdidimaioapaaGreat
set_option linter.all false
set_option maxRecDepth 100000
set_option maxHeartbeats 8000000
open Go.RowKit
open St1 St2 St3 St4 St5 St6 St7 St8 StA StB StC
def a38 {f:Nat->Nat} {p q:Nat->Bool}:∀{m:Nat},(∀ i,i<m->p i=q i)->F5 f p m=F5 f q m
 |0,_=>rfl
 |m+1,h=>by
  rw [Z2,Z2,a38 (m:=m) fun i hi=>h i om,h m om]
structure bN4 (m n:Nat) (D0:Fd) (g0:Nat->Rat):Prop where
 hm:m<=100000
 hn:n<=1000
 f:a07 m n D0
 i:a5j m n D0 g0 D0
 d:∀D,P6 m n D0 D->(∃ q,a9n m n D0 D q)/\ZB m n 1000 (a0s m n D0 D)
def a5Q (b:Nat):(bif true then if 0 > (b:Int) then 0 else (b:Int) else if 0<(b:Int) then 0 else (b:Int))=(b:Int):=by simp only [cond];split<;>omega
def b2c {m n:Nat} {fr:LB} {sc:LI} {D0 D:Fd} {g0:Nat->Rat} (h:bN4 m n D0 g0) (hD:P6 m n D0 D) (hn:G8 m n D=none) {r c:Int} (ho:(r,c)=a73 (B5 m n D)):
 Fin (N3 m n fr sc (a0s m n D0 D0) []).length (.tup [eI r,eI c]) (N3 m n fr sc (a0s m n D0 D) []) (.tup [eI (a73 (B5 m n (a4P m n D0))).1,eI (a73 (B5 m n (a4P m n D0))).2]) (N3 m n fr sc (a0s m n D0 (a4P m n D0)) []):=by
 have e:=b8V h.i hD hn;rw [← e,←ho];exact a68 (T:=[]) rfl rfl (by simp [i5]) rz
def b3R (m n:Nat) (fr:List (Nat × Bool)) (sc:List Int) (D0:Fd) (g0:Nat->Rat) (h:bN4 m n D0 g0) (hfr:fr.length=m) (hsc:sc.length=m):
 e8 Tryz.prog 86 [.c (.ptr 0 0 0)] (N3 m n fr sc (a0s m n D0 D0) []) (.tup [e7 .i64 (a73 (B5 m n (a4P m n D0))).1,e7 .i64 (a73 (B5 m n (a4P m n D0))).2]) (N3 m n fr sc (a0s m n D0 (a4P m n D0)) []):=by
 have hm:=h.hm
 have hn:=h.hn
 (refine ac Tryz.func86 ?_;(conv=>whnf);repeat (refine zy ?_;conv=>whnf))
 repeat' (first|refine zx ?_|refine i9 (i5 _ _ _) ?_|refine i7 ?_|refine zd ?_ ?_<;>intro h<;>try omega|fail)<;>conv=>whnf
 refine w7 g8 (σ:=Fd) (fun D=>([S.c (C.ptr 0 0 0)]++Jn 56,N3 m n fr sc (a0s m n D0 D) [])) (fun D=>P6 m n D0 D) (fun D=>a6E m n D) D0 (idR (m+9)) a8j ?_ ?_
 ·exact t8 (T:=[]) (T':=[]) rfl rfl (by simp [i5]) zq ⟨⟨j5 om,rfl,rfl⟩,trivial⟩
 intro D hD
 have inv:a5j m n D0 g0 D:=by have ⟨k,hk⟩:=hD;exact a0p h.i hk
 have ⟨hden,hzb⟩:=h.d D hD
 have ⟨cd,cr⟩:=a7A hden
 obtain ⟨Z,hZ⟩:∃Z,Z=a0s m n D0 D:=⟨_,rfl⟩
 rw [← hZ] at cd cr hzb
 have eO:Z.O=D.O:=cr.o
 have eF:Z.F=D.F:=cr.f
 have l1:=bQ8 m n fr sc Z hm hn
 have l2:=b98 m n fr sc Z hm hn
 rw [a38 (q:=fun i=>decide (D.V i<0)) fun i hi=>decide_eq_decide.2 (al1 cr.d (cr.v i hi)).1,eO] at l1
 rw [a38 (q:=fun j=>decide (0<D.G j)) fun j hj=>decide_eq_decide.2 (al1 cr.d (cr.c j hj)).2,eF] at l2
 have l3:∀r,r<m->e8 Tryz.prog 126 [jT m n fr sc Z,e7 .i64 r] [] (e7 .i64 (leI (F5 D.F (fun j=>decide (D.A r j<0)) n))) []:=fun r hr=>by
  have l:=b9n m n fr sc Z r hr hm hn
  rwa [a38 (q:=fun j=>decide (D.A r j<0)) fun j hj=>decide_eq_decide.2 (al1 cr.d (cr.a r hr j hj)).1,eF] at l
 have l4:∀s,s<n->e8 Tryz.prog 127 [jT m n fr sc Z,e7 .i64 s] [] (e7 .i64 (leI (F5 D.O (fun i=>decide (0<D.A i s)) m))) []:=fun s hs=>by
  have l:=bK2 m n fr sc Z s hs hm hn
  rwa [a38 (q:=fun i=>decide (0<D.A i s)) fun i hi=>decide_eq_decide.2 (al1 cr.d (cr.a i hi s hs)).2,eO] at l
 have vd:∀X,VY (N3 m n fr sc Z X) (fun _=>True) (.ptr 0 0 0) (.ptr (bw8 m n fr sc Z)):=fun X=>b7i hfr hsc fun _ _=>trivial
 have va:∀X,a10 (N3 m n fr sc Z X) (fun _=>True) [.c (.ptr 0 0 0)] [jT m n fr sc Z]:=fun X=>⟨vd X,trivial⟩
 have va2:∀X (r:Nat),a10 (N3 m n fr sc Z X) (fun _=>True) [.c (.ptr 0 0 0),e7 .i64 r] [jT m n fr sc Z,e7 .i64 r]:=fun X r=>⟨vd X,a1C,trivial⟩
 have fin0:∀(r c:Int),G8 m n D=none->(r,c)=a73 (B5 m n D)->Fin (N3 m n fr sc (a0s m n D0 D0) []).length (.tup [e7 .i64 r,e7 .i64 c]) (N3 m n fr sc Z []) (.tup [e7 .i64 (a73 (B5 m n (a4P m n D0))).1,e7 .i64 (a73 (B5 m n (a4P m n D0))).2]) (N3 m n fr sc (a0s m n D0 (a4P m n D0)) []):=fun r c hn ho=>by
  have:=b2c (fr:=fr) (sc:=sc) h hD hn ho
  rwa [← hZ] at this
 have exc:∀r s:Nat,B5 m n D=.next r s->e8 Tryz.prog 128 [.c (.ptr 0 0 0),e7 .i64 r,e7 .i64 s] (N3 m n fr sc Z []) (.tup []) (N3 m n fr sc (a0s m n D0 (D.exch r s)) []):=fun r s hs=>by
  have ⟨q1,q2,q3⟩:=a4A hs
  have hnx:G8 m n D=some (D.exch r s):=by unfold G8;rw [hs]
  have ⟨hden',hzb'⟩:=h.d _ (a5o hD hnx)
  have ⟨c1,c2⟩:=b7q h.f inv.i q1 q2 (a5d q3) hden hden'
  rw [← hZ] at c1 c2
  have hzx:ZB m n 1000 (Z.exch r s):=⟨fun i hi=>by rw [c2.v i hi];exact hzb'.v i hi,fun i hi j hj=>by rw [c2.a i hi j hj];exact hzb'.a i hi j hj,fun j hj=>by rw [c2.c j hj];exact hzb'.c j hj,by rw [c2.d];exact hzb'.d⟩
  have hne:Z.A r s≠0:=fun e=>by
   have:=cr.a r q1 s q2
   rw [e] at this
   have hq:((Z.D:Int):Rat)≠0:=by intro e;have:Z.D=0:=by exact_mod_cast e
                                 have:=cr.d;omega
   rcases aA8.1 this.symm with k|k
   ·exact hq k
   ·exact a5d q3 k
  have ex:=aX1 m n fr sc Z r s hm hn q1 q2 cr.d hne hzb hzx c1
  rwa [a7q c2] at ex
 have go:∀(env:Env) (r s:Nat),B5 m n D=.next r s->a0A (idR (m+9)) (N3 m n fr sc (a0s m n D0 (D.exch r s)) []) env ([S.c (C.ptr 0 0 0)]++Jn 56)->
  ∃ρ x',Ent (N3 m n fr sc (a0s m n D0 D0) []).length ρ env (N3 m n fr sc (a0s m n D0 (D.exch r s)) []) ([S.c (C.ptr 0 0 0)]++Jn 56) (N3 m n fr sc (a0s m n D0 x') [])/\P6 m n D0 x'/\a6E m n x'<a6E m n D:=by
  intro env r s hs hE
  have hnx:G8 m n D=some (D.exch r s):=by unfold G8;rw [hs]
  exact ⟨idR (m+9),D.exch r s,t8 (T:=[]) (T':=[]) rfl rfl (by simp [i5]) zq hE,a5o hD hnx,aB8 (b9E inv.p inv.g) hnx⟩
 show a5V _ _ _ _ _ (N3 m n fr sc (a0s m n D0 D) []) _
 rw [← hZ]
 cases hR:F5 D.O (fun i=>decide (D.V i<0)) m with
 |none=>
  rw [hR,show leI none=-1 from rfl] at l1
  cases hS:F5 D.F (fun j=>decide (0<D.G j)) n with
  |none=>
   rw [hS,show leI none=-1 from rfl] at l2
   have hst:B5 m n D=.best:=by unfold B5;rw [hR,hS]
   conv=>whnf
   repeat' (first|refine zx ?_|refine .inl ⟨_,_,m6 l1 (va _) rfl,?_⟩|refine .inl ⟨_,_,m6 l2 (va _) rfl,?_⟩|refine i9 (i5 _ _ _) ?_|refine i7 ?_|refine zd ?_ ?_<;>intro h<;>try omega|fail)<;>conv=>whnf
   all_goals first
    |omega
    |exact fin0 _ _ (by unfold G8;rw [hst]) (by rw [hst];rfl)
  |some ss=>
   rw [hS,show leI (some ss)=ss from rfl] at l2
   have hss:=(G3 hS).1
   have l4:=l4 ss hss
   have eSS:0+(bif true then if 0 > (ss:Int) then 0 else (ss:Int) else if 0<(ss:Int) then 0 else (ss:Int)).toNat=ss:=by rw [a5Q];omega
   cases hC:F5 D.O (fun i=>decide (0<D.A i ss)) m with
   |none=>
    rw [hC,show leI none=-1 from rfl] at l4
    have hst:B5 m n D=.col ss:=by unfold B5;rw [hR,hS];show a01 m D ss=_;unfold a01;rw [hC]
    conv=>whnf
    repeat' (first|refine zx ?_|refine .inl ⟨_,_,m6 l1 (va _) rfl,?_⟩|refine .inl ⟨_,_,m6 l2 (va _) rfl,?_⟩|refine .inl ⟨_,_,m6 l4 (va2 _ ss) rfl,?_⟩|refine i9 (i5 _ _ _) ?_|refine i7 ?_|refine zd ?_ ?_<;>intro h<;>try omega|fail)<;>conv=>whnf
    all_goals first
     |omega
     |exact fin0 _ _ (by unfold G8;rw [hst]) (by rw [hst];rfl)
   |some rq=>
    rw [hC,show leI (some rq)=rq from rfl] at l4
    have hst:B5 m n D=.next rq ss:=by unfold B5;rw [hR,hS];show a01 m D ss=_;unfold a01;rw [hC]
    have exr:=exc _ _ hst
    conv=>whnf
    repeat' (first|refine zx ?_|refine .inl ⟨_,_,m6 l1 (va _) rfl,?_⟩|refine .inl ⟨_,_,m6 l2 (va _) rfl,?_⟩|refine .inl ⟨_,_,m6 l4 (va2 _ ss) rfl,?_⟩|refine .inr ⟨_,_,exr,?_⟩|refine i9 (i5 _ _ _) ?_|refine i7 ?_|refine zd ?_ ?_<;>intro h<;>try omega|fail)<;>conv=>whnf
    all_goals first
     |omega
     |exact go _ _ _ hst ⟨⟨j5 om,rfl,rfl⟩,trivial⟩
 |some rr=>
  rw [hR,show leI (some rr)=rr from rfl] at l1
  have hrr:=(G3 hR).1
  have l3:=l3 rr hrr
  have eRR:0+(bif true then if 0 > (rr:Int) then 0 else (rr:Int) else if 0<(rr:Int) then 0 else (rr:Int)).toNat=rr:=by rw [a5Q];omega
  cases hS:F5 D.F (fun j=>decide (0<D.G j)) n with
  |none=>
   rw [hS,show leI none=-1 from rfl] at l2
   cases hC:F5 D.F (fun j=>decide (D.A rr j<0)) n with
   |none=>
    rw [hC,show leI none=-1 from rfl] at l3
    have hst:B5 m n D=.row rr:=by unfold B5;rw [hR,hS];show Z9 n D rr=_;unfold Z9;rw [hC]
    conv=>whnf
    repeat' (first|refine zx ?_|refine .inl ⟨_,_,m6 l1 (va _) rfl,?_⟩|refine .inl ⟨_,_,m6 l2 (va _) rfl,?_⟩|refine .inl ⟨_,_,m6 l3 (va2 _ rr) rfl,?_⟩|refine i9 (i5 _ _ _) ?_|refine i7 ?_|refine zd ?_ ?_<;>intro h<;>try omega|fail)<;>conv=>whnf
    all_goals first
     |omega
     |exact fin0 _ _ (by unfold G8;rw [hst]) (by rw [hst];rfl)
   |some sq=>
    rw [hC,show leI (some sq)=sq from rfl] at l3
    have hst:B5 m n D=.next rr sq:=by unfold B5;rw [hR,hS];show Z9 n D rr=_;unfold Z9;rw [hC]
    have exr:=exc _ _ hst
    conv=>whnf
    repeat' (first|refine zx ?_|refine .inl ⟨_,_,m6 l1 (va _) rfl,?_⟩|refine .inl ⟨_,_,m6 l2 (va _) rfl,?_⟩|refine .inl ⟨_,_,m6 l3 (va2 _ rr) rfl,?_⟩|refine .inr ⟨_,_,exr,?_⟩|refine i9 (i5 _ _ _) ?_|refine i7 ?_|refine zd ?_ ?_<;>intro h<;>try omega|fail)<;>conv=>whnf
    all_goals first
     |omega
     |exact go _ _ _ hst ⟨⟨j5 om,rfl,rfl⟩,trivial⟩
  |some ss=>
   rw [hS,show leI (some ss)=ss from rfl] at l2
   have hss:=(G3 hS).1
   have l4:=l4 ss hss
   have eSS:0+(bif true then if 0 > (ss:Int) then 0 else (ss:Int) else if 0<(ss:Int) then 0 else (ss:Int)).toNat=ss:=by rw [a5Q];omega
   have eOO:Z.O rr=D.O rr:=by rw [eO]
   have eFF:Z.F ss=D.F ss:=by rw [eF]
   by_cases jj:D.O rr<D.F ss
   ·cases hC:F5 D.F (fun j=>decide (D.A rr j<0)) n with
    |none=>
     rw [hC,show leI none=-1 from rfl] at l3
     have hst:B5 m n D=.row rr:=by unfold B5;rw [hR,hS];show (if _ then Z9 n D rr else _)=_;rw [iB jj];unfold Z9;rw [hC]
     conv=>whnf
     repeat' (first|refine zx ?_|refine qp a5Q ?_|refine .inl ⟨_,_,m6 l1 (va _) rfl,?_⟩|refine .inl ⟨_,_,m6 l2 (va _) rfl,?_⟩|refine .inl ⟨_,_,m6 l3 (va2 _ rr) rfl,?_⟩|refine i9 (i5 _ _ _) ?_|refine i7 ?_|refine T8 (by rw [a5Q];omega) (by rw [a5Q];omega) ?_|refine Q7 eRR hrr ?_|refine Q7 eSS hss ?_|refine zd ?_ ?_<;>intro h<;>try omega|fail)<;>conv=>whnf
     all_goals first
      |omega
      |exact fin0 _ _ (by unfold G8;rw [hst]) (by rw [hst];rfl)
    |some sq=>
     rw [hC,show leI (some sq)=sq from rfl] at l3
     have hst:B5 m n D=.next rr sq:=by unfold B5;rw [hR,hS];show (if _ then Z9 n D rr else _)=_;rw [iB jj];unfold Z9;rw [hC]
     have exr:=exc _ _ hst
     conv=>whnf
     repeat' (first|refine zx ?_|refine qp a5Q ?_|refine .inl ⟨_,_,m6 l1 (va _) rfl,?_⟩|refine .inl ⟨_,_,m6 l2 (va _) rfl,?_⟩|refine .inl ⟨_,_,m6 l3 (va2 _ rr) rfl,?_⟩|refine .inr ⟨_,_,exr,?_⟩|refine i9 (i5 _ _ _) ?_|refine i7 ?_|refine T8 (by rw [a5Q];omega) (by rw [a5Q];omega) ?_|refine Q7 eRR hrr ?_|refine Q7 eSS hss ?_|refine zd ?_ ?_<;>intro h<;>try omega|fail)<;>conv=>whnf
     all_goals first
      |omega
      |exact go _ _ _ hst ⟨⟨j5 om,rfl,rfl⟩,trivial⟩
   ·cases hC:F5 D.O (fun i=>decide (0<D.A i ss)) m with
    |none=>
     rw [hC,show leI none=-1 from rfl] at l4
     have hst:B5 m n D=.col ss:=by unfold B5;rw [hR,hS];show (if _ then _ else a01 m D ss)=_;rw [iC jj];unfold a01;rw [hC]
     conv=>whnf
     repeat' (first|refine zx ?_|refine qp a5Q ?_|refine .inl ⟨_,_,m6 l1 (va _) rfl,?_⟩|refine .inl ⟨_,_,m6 l2 (va _) rfl,?_⟩|refine .inl ⟨_,_,m6 l4 (va2 _ ss) rfl,?_⟩|refine i9 (i5 _ _ _) ?_|refine i7 ?_|refine T8 (by rw [a5Q];omega) (by rw [a5Q];omega) ?_|refine Q7 eRR hrr ?_|refine Q7 eSS hss ?_|refine zd ?_ ?_<;>intro h<;>try omega|fail)<;>conv=>whnf
     all_goals first
      |omega
      |exact fin0 _ _ (by unfold G8;rw [hst]) (by rw [hst];rfl)
    |some rq=>
     rw [hC,show leI (some rq)=rq from rfl] at l4
     have hst:B5 m n D=.next rq ss:=by unfold B5;rw [hR,hS];show (if _ then _ else a01 m D ss)=_;rw [iC jj];unfold a01;rw [hC]
     have exr:=exc _ _ hst
     conv=>whnf
     repeat' (first|refine zx ?_|refine qp a5Q ?_|refine .inl ⟨_,_,m6 l1 (va _) rfl,?_⟩|refine .inl ⟨_,_,m6 l2 (va _) rfl,?_⟩|refine .inl ⟨_,_,m6 l4 (va2 _ ss) rfl,?_⟩|refine .inr ⟨_,_,exr,?_⟩|refine i9 (i5 _ _ _) ?_|refine i7 ?_|refine T8 (by rw [a5Q];omega) (by rw [a5Q];omega) ?_|refine Q7 eRR hrr ?_|refine Q7 eSS hss ?_|refine zd ?_ ?_<;>intro h<;>try omega|fail)<;>conv=>whnf
     all_goals first
      |omega
      |exact go _ _ _ hst ⟨⟨j5 om,rfl,rfl⟩,trivial⟩
def bG7 (b:Bool) (x:Int):(⟨(bz x).sg*sg1 b,(bz x).dl⟩:Bg)=bz (sg1 b*x):=by
 cases b with
 |false=>
  show Bg.mk (x.sign*1) (dg x.natAbs)=Bg.mk ((1*x).sign) (dg (1*x).natAbs);rw [a2u,az9]
 |true=>
  show Bg.mk (x.sign*-1) (dg x.natAbs)=Bg.mk ((-1*x).sign) (dg (-1*x).natAbs);rw [show (-1:Int)*x=-x from by omega,Int.sign_neg,a2v,Int.mul_neg,az9]
def bz1 (b:Bool) (x:Int):([C.t (ti ((bz x).sg*sg1 b)),C.t (w5 (bz x).dl)]:List C)=bgC (bz (sg1 b*x)):=by rw [← bG7]
def b4B (b:Bool) (x:Int):-1<=(bz x).sg*sg1 b/\(bz x).sg*sg1 b<=1:=by
 rw [ag6];have hb:sg1 b=1\/sg1 b=-1:=by cases b<;>simp [sg1]
 rcases G6 x with ⟨h,_⟩|⟨h,_⟩|⟨h,_⟩<;>rcases hb with hb|hb<;>rw [h,hb]<;>decide
def aW5 (b:Bool) (x:Int):(Z4 b ((x:Int):Rat)).num=sg1 b*x:=by
 cases b with
 |false=>show ((x:Int):Rat).num=1*x;rw [a89];omega
 |true=>
  show (-((x:Int):Rat)).num=-1*x;rw [az5,a89];omega
def b9B {n i j:Nat} {g:Nat->Int} {x:List C} {y:Int} (e:i=j) (h:j<n):D6 (D6 (zlB (zF n g)) ((zlB (zF n g)).rows.set i x)) (((zlB (zF n g)).rows.set i x).set i (bgC (bz y)))=zlB (zF n fun k=>if k=j then y else g k):=by
 rw [← a1y (g:=g) (y:=y) e h];unfold D6;simp only [List.set_set]
def aQ (w:C7) (b:Bool) (q:Nat):Nat->Int:=fun j=>(Z4 b (T4 (scT (w.value.den:Int) w.terms) q j)).num
def bj6 (w:C7) (b:Bool):aQ w b 0=fun _=>0:=by
 funext j;show (Z4 b (0:Rat)).num=0;have:=aW5 b 0;simpa using this
def bg6 {d:Int} {l:List (Int × Rat)} {q:Nat} {t:Int × Rat} (h:l[q]? =some t):(scT d l)[q]? =some (t.1,((d:Int):Rat)*t.2):=by unfold scT;rw [lba,h];rfl
def bu7 {w:C7} {b:Bool} {q:Nat} {t:Int × Rat} {c:Int} (h:w.terms[q]? =some t) (hc:t.2=((c:Int):Rat)):aQ w b (q+1)=fun j=>if j=t.1.toNat then sg1 b*((w.value.den:Int)*c) else aQ w b q j:=by
 funext j;unfold aQ;rw [Q9 (bg6 h)];simp only;by_cases hj:j=t.1.toNat
 ·rw [iB hj,iB hj,hc];have e:(((w.value.den:Int):Int):Rat)*((c:Int):Rat)=(((w.value.den:Int)*c:Int):Rat):=by push_cast;rfl
  rw [e,aW5]
 ·rw [iC hj,iC hj]
def bK5 (w:C7) (b:Bool):aQ w b w.terms.length=fun j=>(Z4 b (L9 (T7 w).terms j)).num:=by
 funext j;unfold aQ L9;show _=(Z4 b (T4 (scT (w.value.den:Int) w.terms) (scT (w.value.den:Int) w.terms).length j)).num;rw [show (scT (w.value.den:Int) w.terms).length=w.terms.length by simp [scT]]
def b7C {m n q N n0:Nat} {fr:LB} {sc:LI} {D:Int} {V G:Nat->Int} {O F:Nat->Nat} {A:Nat->Nat->Int} {T T' H:Hp} {x x':Blk} {env env':Env} (hH:H=K0 m n q fr sc D V G O F A (T++x::T')) (hN:m+9+T.length+1=N) (h0:n0<=N) (hT:∀k ∈ T,okB N k) (hx:a3o (idR N) H x x') (hE:a0A (idR N) H env env'):
 Ent n0 (idR N) env H env' (K0 m n q fr sc D V G O F A (T++[x'])):=by
 have e1:K0 m n q fr sc D V G O F A (T++[x'])=K0 m n q fr sc D V G O F A T++[x']:=a4G;have e2:K0 m n q fr sc D V G O F A (T++x::T')=K0 m n q fr sc D V G O F A T++x::T':=a4G;refine bu8 (by rw [e1,lbq,a0c];show _+1=_;omega) h0 (fun i k' hk=>?_) hE;rw [e1] at hk;have hg:H[i]? =(K0 m n q fr sc D V G O F A T++x::T')[i]?:=by rw [hH,e2]
 obtain ⟨L,hL⟩:∃L,L=K0 m n q fr sc D V G O F A T:=⟨_,rfl⟩;have hLl:L.length=m+9+T.length:=by rw [hL,a0c]
 rw [← hL] at hk hg;by_cases hi:i<L.length
 ·rw [lbb hi] at hk hg;exact ⟨k',hg.trans hk,a9V (a5f (m:=m) om hT k' (by rw [hL] at hk;exact lbm hk))⟩
 ·rw [lbc om] at hk hg;have h1:i - L.length<[x'].length:=(lbe.1 hk).1;have h1:i - L.length<1:=h1;have h2:i - L.length=0:=om;rw [h2] at hk hg;simp at hk;subst hk;exact ⟨x,hg,hx⟩
def b55 {ρ:List (Option Nat)} {H:Hp} {n N:Nat} (e:N=n):a3o ρ H (D8 87 2 (List.replicate N [F7 (.int .i64 0),F7 (.slice none 0 0)]) false) (zlB (zF n fun _=>0)):=by
 subst e;refine ⟨rfl,rfl,rfl,.inr (a2n ?_ ?_)⟩
 ·simp [D8,toC,G9]
 ·intro i x y hx hy;simp only [D8,lbk] at hx;split at hx
  ·rename_i hi;injection hx with hx;subst hx;have hy:(toC ((zF N fun _=>0).map a00))[i]? =some y:=hy;rw [toC,lba,lba,U2 hi] at hy;injection hy with hy;subst hy;exact rz
  ·cases hx
abbrev ai0 (t:TypeId) (s:Nat):Blk:=⟨.dead,t,s,[],false,false⟩
abbrev bV8 (k n:Nat):Blk:={ mode:=.live,elem:=175,size:=12,rows:=[[C.own (k+13) 0 (k+1) true,.own (k+15) 0 (k+1) true,.own 3 0 n true,.t (ti (bz 1).sg),.t (w5 (bz 1).dl),.own (k+12) 0 (k+1) true,.own 5 0 0 true,.own (k+16) 0 (k+1) true,.own (k+17) 0 (k+1) true,.own (k+18) 0 (k+1) true,.t (ti (bz 1).sg),.t (w5 (bz 1).dl)]],box:=true }
abbrev bR7 (k n:Nat):Blk:={ mode:=.live,elem:=172,size:=1,rows:=[[C.own (k+10) 0 n true]],box:=false }
abbrev hdX (k n:Nat):Blk:={ mode:=.live,elem:=172,size:=1,rows:=hdR 9 k n++[[C.own (k+10) 0 n true]],box:=false }
abbrev b6u (k n:Nat) (fr:LB) (f:Nat × Bool) (sc:LI) (d v:Int) (a:Nat->Int) (V G:Nat->Int) (O F:Nat->Nat) (A:Nat->Nat->Int):Hp:=
 bV8 k n::ai0 87 2::ai0 172 1::zlB (zF n G)::ai0 3 1::U7 0 F::ai0 3 1::ai0 3 1::ai0 87 2::((mZ k n A).map zlB++
  [bgX d,zlB (zF n a),bgX v,U7 (k+1) O,zlB (zF k V++[v]),bR7 k n,hdX k n,y3 (frI (fr++[f])),y3 (Y0 (fr++[f])),zlB (sc++[d])])
def l10 {a0 a1 a2 a3 a4 a5 a6 a7 a8 a9 b0 b1 b2 b3 b4 b5 b6 b7 b8 b9:Blk} (h0:a0=b0) (h1:a1=b1) (h2:a2=b2) (h3:a3=b3) (h4:a4=b4) (h5:a5=b5) (h6:a6=b6) (h7:a7=b7) (h8:a8=b8) (h9:a9=b9):
 ([a0,a1,a2,a3,a4,a5,a6,a7,a8,a9]:Hp)=[b0,b1,b2,b3,b4,b5,b6,b7,b8,b9]:=by
 subst h0 h1 h2 h3 h4 h5 h6 h7 h8 h9;rfl
def bJ4 {N:Nat} {l:List C} (h:∀c ∈ l,match c with|.t _=>True|.own id _ _ _=>id<N|_=>False):∀c ∈ l,match c with|.t _=>True|.ptr id _ _=>id<N|.own id _ _ _=>id<N|.fn _ _=>False:=fun c hc=>by
 have:=h c hc;cases c<;>first|exact this|exact this.elim|trivial
def bk5 {k n:Nat} {fr:LB} {f:Nat × Bool} {sc:LI} {d v:Int} {a V G:Nat->Int} {O F:Nat->Nat} {A:Nat->Nat->Int}:∀b ∈ b6u k n fr f sc d v a V G O F A,okB (k+19) b:=by
 intro b hb;simp only [lbA,lbz] at hb;have ho:∀(b:Blk),(∀ r ∈ b.rows,∀c ∈ r,match c with|.t _=>True|.own id _ _ _=>id<k+19|_=>False)->okB (k+19) b:=fun b h r hr=>bJ4 (h r hr)
 have hd0:∀(t:TypeId) (s:Nat),okB (k+19) (ai0 t s):=fun t s r hr=>by cases hr
 rcases hb with rfl|rfl|rfl|rfl|rfl|rfl|rfl|rfl|rfl|hb|rfl|rfl|rfl|rfl|rfl|rfl|rfl|rfl|rfl|rfl|hb
 ·refine ho _ fun r hr c hc=>?_
  simp at hr;subst hr;simp at hc;rcases hc with rfl|rfl|rfl|rfl|rfl|rfl|rfl|rfl|rfl|rfl|rfl|rfl<;>first|trivial|(simp only;omega)
 ·exact hd0 _ _
 ·exact hd0 _ _
 ·exact A8 rfl
 ·exact hd0 _ _
 ·exact A8 rfl
 ·exact hd0 _ _
 ·exact hd0 _ _
 ·exact hd0 _ _
 ·obtain ⟨l,_,rfl⟩:=lbx.1 hb;exact A8 rfl
 ·exact a4W
 ·exact A8 rfl
 ·exact a4W
 ·exact A8 rfl
 ·exact A8 rfl
 ·refine ho _ fun r hr c hc=>?_
  simp at hr;subst hr;simp at hc;subst hc;show k+10<k+19;omega
 ·refine ho _ fun r hr c hc=>?_
  have hr:r ∈ hdR 9 k n++[[C.own (k+10) 0 n true]]:=hr;rcases lbz.1 hr with hr|hr
  ·obtain ⟨i,hi,rfl⟩:=lbx.1 hr;have:=lbB.1 hi;simp at hc;subst hc;show i+9<k+19;omega
  ·simp at hr;subst hr;simp at hc;subst hc;show k+10<k+19;omega
 ·exact A8 rfl
 ·exact A8 rfl
 ·exact A8 rfl
 ·cases hb
def a7n {rows rows':List (List T)} {k:Nat} (h:rows.length=k):List.take k (toC rows)++toC rows'=toC (rows++rows'):=by
 rw [lbn (by simp [toC,h])];simp [toC]
def bo8 (n k row:Nat) (w:C7) (b:Bool) (fr:LB) (hfr:fr.length=k) (sc:LI) (hsc:sc.length=k) (V G:Nat->Int) (F:Nat->Nat) (A:Nat->Nat->Int) (hn:n<=1000) (hk:k<=10000) (hrow:row<=100000)
 (hr:m8 (-1) n w.terms=true) (hl:w.terms.length<=1000) (hw:I9 w.terms) (hv:rl w.value<=100):
 ec 120 [.c (.ptr 0 0 0),eI n,eI row,aU0 w,eI (sg1 b)] (K0 k n 0 fr sc 1 V G (fun i=>n+i) F A []) (.tup []) (b6u k n fr (row,b) sc w.value.den (sg1 b*w.value.num) (aQ w b w.terms.length) V G (fun i=>n+i) F A):=by
 have m1:(w.terms.map B9).length=w.terms.length:=zq;have hd:=a1v w.value;have ld:bl (w.value.den:Int)<=100:=lbS (K3 w.value) hv;have ln:bl w.value.num<=100:=lbS (K9 w.value) hv;have of1:=b69 1 de de;have cv:=b5R w.value om;have tv1:=b8B w.value om
 (refine M6 g8 Tryz.func120 rfl de ?_;refine w8 g8 ?_;(conv=>whnf);repeat ((first|refine b0x ?_|refine zy ?_);conv=>whnf))
 repeat' (first|refine zz ?_|refine b0x ?_|refine i9 (i5 _ _ _) ?_|refine i7 ?_|apply zD<;>intro h<;>try omega|refine zy ?_|fail)<;>conv=>whnf
 refine B4 g8 ([sP 0 0 0,eI n,eI row,J,eI (sg1 b),J,J,J,S.c (C.t (T.ptr (v6 w))),J,S.c (C.ptr (k+9) 0 0)]++Jn 144) (K0 k n 0 fr sc 1 V G (fun i=>n+i) F A [bgX w.value.den]) ?_ ?_
 ·conv=>whnf
  repeat' (first|refine zx ?_|refine i9 (i5 _ _ _) ?_|refine i7 ?_|refine s9 (i5 _ _ _) ?_|refine C5 (i5 _ _ _) ?_|apply zD<;>intro h<;>try omega)<;>conv=>whnf
  all_goals exact ⟨idR (k+10),t8 (T:=[_]) (T':=[]) rfl rfl (by simp [i5]) ok1 ⟨⟨j5 om,rz⟩,rfl,rfl,rfl,m9 rfl,⟨j5 om,rz⟩,trivial⟩⟩
 refine B4 g8 ([sP 0 0 0,eI n,eI row,J,eI (sg1 b),J,J,J,S.c (C.t (T.ptr (v6 w))),J,S.c (C.ptr (k+9) 0 0)]++Jn 144) (K0 k n 0 fr sc 1 V G (fun i=>n+i) F A [bgX w.value.den]) ?_ ?_
 ·conv=>whnf
  repeat' (first|refine zx ?_|refine i9 (i5 _ _ _) ?_|refine i7 ?_|apply zD<;>intro h<;>try omega)<;>conv=>whnf
  refine k6 g8 (fun q=>([sP 0 0 0,eI n,eI row,J,eI (sg1 b),J,J,J,S.c (C.t (T.ptr (v6 w))),J,S.c (C.ptr (k+9) 0 0),eI q]++Jn 143,K0 k n 0 fr sc 1 V G (fun i=>n+i) F A [bgX w.value.den])) w.terms.length tT (idR (k+10)) trivial ?_ ?_
  ·exact t8 (T:=[_]) (T':=[]) rfl rfl (by simp [i5]) ok1 ⟨⟨j5 om,rz⟩,rfl,rfl,rfl,rfl,⟨j5 om,rz⟩,g9 rfl,trivial⟩
  intro q hq _;by_cases jj:q<w.terms.length
  ·have ⟨t,ht⟩:=iA jj;have ⟨c,hc,hcb⟩:=hw t (lbm ht);have ci:=aK4 (w.value.den:Int) hd c om hcb;rw [← hc] at ci;conv=>whnf
   repeat' (first|refine zx ?_|refine j4 ht ?_|refine i9 (i5 _ _ _) ?_|refine i7 ?_|refine s9 (i5 _ _ _) ?_|refine C5 (i5 _ _ _) ?_|apply zD<;>intro h<;>try omega)<;>conv=>whnf
   all_goals first|omega|exact ⟨jj,trivial,idR (k+10),t8 (T:=[_]) (T':=[]) rfl rfl (by simp [i5]) ok1 ⟨⟨j5 om,rz⟩,rfl,rfl,rfl,rfl,⟨j5 om,rz⟩,g9 om,trivial⟩⟩
  ·have hqe:q=w.terms.length:=by omega
   subst hqe;conv=>whnf
   repeat' (first|refine zx ?_|refine i9 (i5 _ _ _) ?_|refine i7 ?_|apply zD<;>intro h<;>try omega)<;>conv=>whnf
   all_goals first|omega|exact ⟨idR (k+10),t8 (T:=[_]) (T':=[]) rfl rfl (by simp [i5]) ok1 ⟨⟨j5 om,rz⟩,rfl,rfl,rfl,rfl,⟨j5 om,rz⟩,trivial⟩⟩
 refine B4 g8 ([sP 0 0 0,eI n,eI row,J,eI (sg1 b),J,J,J,S.c (C.t (T.ptr (v6 w))),J,S.c (C.ptr (k+9) 0 0),J,S.c (C.own (k+10) 0 n true)]++Jn 142) (K0 k n 0 fr sc 1 V G (fun i=>n+i) F A [bgX w.value.den,zlB (zF n (aQ w b 0))]) ?_ ?_
 ·conv=>whnf
  repeat' (first|refine zx ?_|refine a2y om om om de ?_|refine i9 (i5 _ _ _) ?_|refine i7 ?_|apply zD<;>intro h<;>try omega)<;>conv=>whnf
  all_goals first|omega|exact ⟨idR (k+11),b7C (T:=[_]) (T':=[]) rfl rfl (by simp [i5]) ok1 (by rw [bj6];exact b55 om) ⟨⟨j5 om,rz⟩,rfl,rfl,rfl,rfl,⟨j5 om,rz⟩,⟨j5 om,rfl,om,fun h=>h⟩,trivial⟩⟩
 refine B4 g8 ([sP 0 0 0,eI n,eI row,J,eI (sg1 b),J,J,J,S.c (C.t (T.ptr (v6 w))),J,S.c (C.ptr (k+9) 0 0),J,S.c (C.own (k+10) 0 n true)]++Jn 142) (K0 k n 0 fr sc 1 V G (fun i=>n+i) F A [bgX w.value.den,zlB (zF n (aQ w b w.terms.length))]) ?_ ?_
 ·conv=>whnf
  repeat' (first|refine zx ?_|refine i9 (i5 _ _ _) ?_|refine i7 ?_|apply zD<;>intro h<;>try omega)<;>conv=>whnf
  refine k6 g8 (fun q=>([sP 0 0 0,eI n,eI row,J,eI (sg1 b),J,J,J,S.c (C.t (T.ptr (v6 w))),J,S.c (C.ptr (k+9) 0 0),J,S.c (C.own (k+10) 0 n true),eI q]++Jn 141,K0 k n 0 fr sc 1 V G (fun i=>n+i) F A [bgX w.value.den,zlB (zF n (aQ w b q))])) w.terms.length tT (idR (k+11)) trivial ?_ ?_
  ·exact t8 (T:=[_,_]) (T':=[]) rfl rfl (by simp [i5]) (by intro z hz;simp at hz;rcases hz with rfl|rfl<;>first|exact a4W|exact A8 rfl) ⟨⟨j5 om,rfl,rfl⟩,rfl,rfl,rfl,rfl,⟨j5 om,rfl,rfl⟩,⟨j5 om,rfl,rfl,fun h=>h⟩,g9 rfl,trivial⟩
  intro q hq _;by_cases jj:q<w.terms.length
  ·have ⟨t,ht⟩:=iA jj;have ⟨c,hc,hcb⟩:=hw t (lbm ht);have ⟨t0,t1,t2⟩:=L1 hr t (lbm ht);have ti:=b0k (w.value.den:Int) c om hcb;rw [← hc] at ti;have eV:0+t.1.toNat=t.1.toNat:=om;have gp:(zF n (aQ w b q))[0+t.1.toNat]? =some (aQ w b q t.1.toNat):=by rw [eV,U2 om]
   have hsr:=b4B b ((w.value.den:Int)*c);conv=>whnf
   repeat' (first|refine zx ?_|refine qp ti ?_|refine j4 ht ?_|refine a2A gp ?_|refine aT5 (by show _<(toC _).length;simp [toC,G9];omega) ?_|refine i9 (i5 _ _ _) ?_|refine i7 ?_|refine s9 (i5 _ _ _) ?_|refine C5 (i5 _ _ _) ?_|refine j1 (t:=1) (i5 _ _ _) ?_|refine k5 (t:=1) (i5 _ _ _) ?_|refine bl0 [0,6] ?_|apply zD<;>intro h<;>try omega)<;>conv=>whnf
   all_goals first
    |omega
    |(refine ⟨jj,trivial,idR (k+11),t8 (T:=[_,zlB (zF n (aQ w b (q+1)))]) (T':=[]) (L7 rfl rfl rfl rfl rfl rfl rfl rfl rfl (congrArg (fun z=>(mZ k n A).map zlB++[bgX w.value.den,z]) ?_)) rfl (by simp [i5]) (by intro z hz;simp at hz;rcases hz with rfl|rfl<;>first|exact a4W|exact A8 rfl) ⟨⟨j5 om,rfl,rfl⟩,rfl,rfl,rfl,rfl,⟨j5 om,rfl,rfl⟩,⟨j5 om,rfl,rfl,fun h=>h⟩,g9 om,trivial⟩⟩
      rw [bz1,bu7 ht hc];exact b9B eV om)
  ·have hqe:q=w.terms.length:=by omega
   subst hqe;conv=>whnf
   repeat' (first|refine zx ?_|refine i9 (i5 _ _ _) ?_|refine i7 ?_|apply zD<;>intro h<;>try omega)<;>conv=>whnf
   all_goals first|omega|exact ⟨idR (k+11),t8 (T:=[_,_]) (T':=[]) rfl rfl (by simp [i5]) (by intro z hz;simp at hz;rcases hz with rfl|rfl<;>first|exact a4W|exact A8 rfl) ⟨⟨j5 om,rfl,rfl⟩,rfl,rfl,rfl,rfl,⟨j5 om,rfl,rfl⟩,⟨j5 om,rfl,rfl,fun h=>h⟩,trivial⟩⟩
 refine B4 g8 ([sP 0 0 0,eI n,eI row,J,eI (sg1 b),J,J,J,S.c (C.t (T.ptr (v6 w))),J,S.c (C.ptr (k+9) 0 0),J,S.c (C.own (k+10) 0 n true),J,S.c (C.ptr (k+11) 0 0)]++Jn 140) (K0 k n 0 fr sc 1 V G (fun i=>n+i) F A [bgX w.value.den,zlB (zF n (aQ w b w.terms.length)),bgX w.value.num]) ?_ ?_
 ·conv=>whnf
  repeat' (first|refine zx ?_|refine i9 (i5 _ _ _) ?_|refine i7 ?_|refine s9 (i5 _ _ _) ?_|refine C5 (i5 _ _ _) ?_|refine j1 (t:=1) (i5 _ _ _) ?_|refine k5 (t:=1) (i5 _ _ _) ?_|refine j1 (t:=2) (i5 _ _ _) ?_|refine k5 (t:=2) (i5 _ _ _) ?_|apply zD<;>intro h<;>try omega)<;>conv=>whnf
  all_goals first|omega|exact ⟨idR (k+12),t8 (T:=[_,_,_]) (T':=[]) rfl rfl (by simp [i5]) (by intro z hz;simp at hz;rcases hz with rfl|rfl|rfl<;>first|exact a4W|exact A8 rfl) ⟨⟨j5 om,rfl,rfl⟩,rfl,rfl,rfl,rfl,⟨j5 om,rfl,rfl⟩,⟨j5 om,rfl,rfl,fun h=>h⟩,⟨j5 om,rfl,rfl⟩,trivial⟩⟩
 have hsv:=b4B b w.value.num;refine B4 g8 ([sP 0 0 0,eI n,eI row,J,eI (sg1 b),J,J,J,J,J,S.c (C.ptr (k+9) 0 0),J,S.c (C.own (k+10) 0 n true),J,S.c (C.ptr (k+11) 0 0)]++Jn 140) (K0 k n 0 fr sc 1 V G (fun i=>n+i) F A [bgX w.value.den,zlB (zF n (aQ w b w.terms.length)),bgX (sg1 b*w.value.num)]) ?_ ?_
 ·conv=>whnf
  repeat' (first|refine zx ?_|refine i9 (i5 _ _ _) ?_|refine i7 ?_|refine s9 (i5 _ _ _) ?_|refine C5 (i5 _ _ _) ?_|refine j1 (t:=1) (i5 _ _ _) ?_|refine k5 (t:=1) (i5 _ _ _) ?_|refine j1 (t:=2) (i5 _ _ _) ?_|refine k5 (t:=2) (i5 _ _ _) ?_|apply zD<;>intro h<;>try omega)<;>conv=>whnf
  all_goals first|omega|exact ⟨idR (k+12),t8 (T:=[_,_,bgX (sg1 b*w.value.num)]) (T':=[]) (L7 rfl rfl rfl rfl rfl rfl rfl rfl rfl (congrArg (fun z=>(mZ k n A).map zlB++[bgX w.value.den,zlB (zF n (aQ w b w.terms.length)),{ bgX w.value.num with rows:=[z] }]) (bz1 b w.value.num))) rfl (by simp [i5]) (by intro z hz;simp at hz;rcases hz with rfl|rfl|rfl<;>first|exact a4W|exact A8 rfl) ⟨⟨j5 om,rfl,rfl⟩,rfl,rfl,rfl,⟨j5 om,rfl,rfl⟩,⟨j5 om,rfl,rfl,fun h=>h⟩,⟨j5 om,rfl,rfl⟩,trivial⟩⟩
 (refine w8 g8 ?_;conv=>whnf)
 repeat' (first|refine zx ?_|refine i9 (i5 _ _ _) ?_|refine i7 ?_|refine s9 (i5 _ _ _) ?_|refine C5 (i5 _ _ _) ?_|refine j1 (t:=1) (i5 _ _ _) ?_|refine k5 (t:=1) (i5 _ _ _) ?_|refine j1 (t:=2) (i5 _ _ _) ?_|refine k5 (t:=2) (i5 _ _ _) ?_|refine v8 (by simp [toC,p4,G9,E0,frI,Y0,hfr,hsc]) (by simp [toC,p4,G9,E0,frI,Y0,hfr,hsc];omega) ?_|refine j1 (t:=3) (i5 _ _ _) ?_|refine j1 (t:=4) (i5 _ _ _) ?_|refine j1 (t:=5) (i5 _ _ _) ?_|refine k5 (t:=5) (i5 _ _ _) ?_|refine a22 (lbR 1) ?_|refine bl0 [0] ?_|apply zD<;>intro h<;>try omega)<;>conv=>whnf
 (refine w8 g8 ?_;conv=>whnf)
 repeat' (first|refine zx ?_|refine i9 (i5 _ _ _) ?_|refine i7 ?_|refine s9 (i5 _ _ _) ?_|refine C5 (i5 _ _ _) ?_|refine j1 (t:=1) (i5 _ _ _) ?_|refine k5 (t:=1) (i5 _ _ _) ?_|refine j1 (t:=2) (i5 _ _ _) ?_|refine k5 (t:=2) (i5 _ _ _) ?_|refine v8 (by simp [toC,p4,G9,E0,frI,Y0,hfr,hsc]) (by simp [toC,p4,G9,E0,frI,Y0,hfr,hsc];omega) ?_|refine j1 (t:=3) (i5 _ _ _) ?_|refine j1 (t:=4) (i5 _ _ _) ?_|refine j1 (t:=5) (i5 _ _ _) ?_|refine k5 (t:=5) (i5 _ _ _) ?_|refine a22 (lbR 1) ?_|refine bl0 [0] ?_|apply zD<;>intro h<;>try omega)<;>conv=>whnf
 (refine w8 g8 ?_;conv=>whnf)
 repeat' (first|refine zx ?_|refine i9 (i5 _ _ _) ?_|refine i7 ?_|refine s9 (i5 _ _ _) ?_|refine C5 (i5 _ _ _) ?_|refine j1 (t:=1) (i5 _ _ _) ?_|refine k5 (t:=1) (i5 _ _ _) ?_|refine j1 (t:=2) (i5 _ _ _) ?_|refine k5 (t:=2) (i5 _ _ _) ?_|refine v8 (by simp [toC,p4,G9,E0,frI,Y0,hfr,hsc]) (by simp [toC,p4,G9,E0,frI,Y0,hfr,hsc];omega) ?_|refine j1 (t:=3) (i5 _ _ _) ?_|refine j1 (t:=4) (i5 _ _ _) ?_|refine j1 (t:=5) (i5 _ _ _) ?_|refine k5 (t:=5) (i5 _ _ _) ?_|refine a22 (lbR 1) ?_|refine bl0 [0] ?_|apply zD<;>intro h<;>try omega)<;>conv=>whnf
 (refine w8 g8 ?_;conv=>whnf)
 repeat' (first|refine zx ?_|refine i9 (i5 _ _ _) ?_|refine i7 ?_|refine s9 (i5 _ _ _) ?_|refine C5 (i5 _ _ _) ?_|refine j1 (t:=1) (i5 _ _ _) ?_|refine k5 (t:=1) (i5 _ _ _) ?_|refine j1 (t:=2) (i5 _ _ _) ?_|refine k5 (t:=2) (i5 _ _ _) ?_|refine v8 (by simp [toC,p4,G9,E0,frI,Y0,hfr,hsc]) (by simp [toC,p4,G9,E0,frI,Y0,hfr,hsc];omega) ?_|refine j1 (t:=3) (i5 _ _ _) ?_|refine j1 (t:=4) (i5 _ _ _) ?_|refine j1 (t:=5) (i5 _ _ _) ?_|refine k5 (t:=5) (i5 _ _ _) ?_|refine a22 (lbR 1) ?_|refine bl0 [0] ?_|apply zD<;>intro h<;>try omega)<;>conv=>whnf
 (refine w8 g8 ?_;conv=>whnf)
 repeat' (first|refine zx ?_|refine i9 (i5 _ _ _) ?_|refine i7 ?_|refine s9 (i5 _ _ _) ?_|refine C5 (i5 _ _ _) ?_|refine j1 (t:=1) (i5 _ _ _) ?_|refine k5 (t:=1) (i5 _ _ _) ?_|refine j1 (t:=2) (i5 _ _ _) ?_|refine k5 (t:=2) (i5 _ _ _) ?_|refine v8 (by simp [toC,p4,G9,E0,frI,Y0,hfr,hsc]) (by simp [toC,p4,G9,E0,frI,Y0,hfr,hsc];omega) ?_|refine j1 (t:=3) (i5 _ _ _) ?_|refine j1 (t:=4) (i5 _ _ _) ?_|refine j1 (t:=5) (i5 _ _ _) ?_|refine k5 (t:=5) (i5 _ _ _) ?_|refine a22 (lbR 1) ?_|refine bl0 [0] ?_|apply zD<;>intro h<;>try omega)<;>conv=>whnf
 refine t4 g8 _ ?_;conv=>whnf
 repeat' (first|refine zx ?_|refine i9 (i5 _ _ _) ?_|refine i7 ?_|refine s9 (i5 _ _ _) ?_|refine C5 (i5 _ _ _) ?_|refine j1 (t:=1) (i5 _ _ _) ?_|refine k5 (t:=1) (i5 _ _ _) ?_|refine j1 (t:=2) (i5 _ _ _) ?_|refine k5 (t:=2) (i5 _ _ _) ?_|refine v8 (by simp [toC,p4,G9,E0,frI,Y0,hfr,hsc]) (by simp [toC,p4,G9,E0,frI,Y0,hfr,hsc];omega) ?_|refine j1 (t:=3) (i5 _ _ _) ?_|refine j1 (t:=4) (i5 _ _ _) ?_|refine j1 (t:=5) (i5 _ _ _) ?_|refine k5 (t:=5) (i5 _ _ _) ?_|refine a22 (lbR 1) ?_|refine bl0 [0] ?_|apply zD<;>intro h<;>try omega)<;>conv=>whnf
 refine a7C (n:=k+19) (by simp [i5]) (by simp [i5]) bk5 (fun i _=>?_) trivial;refine congrArg (fun H:Hp=>H[i]?) (L7 rfl rfl rfl rfl rfl rfl rfl rfl rfl (congrArg (fun z=>(mZ k n A).map zlB++z) (l10 rfl rfl rfl ?_ ?_ rfl ?_ ?_ ?_ ?_)))
 ·exact congrArg (fun z=>({ mode:=.live,elem:=3,size:=1,rows:=z,box:=false }:Blk)) (a4N (O:=fun i=>n+i) (x:=(n:Int)+k) zq)
 ·refine congrArg (fun z=>({ mode:=.live,elem:=87,size:=2,rows:=z,box:=false }:Blk)) ?_;exact (a7n (rows:=(zF k V).map a00) (rows':=[a00 (sg1 b*w.value.num)]) (by simp [G9])).trans zq
 ·refine congrArg (fun z=>({ mode:=.live,elem:=172,size:=1,rows:=z,box:=false }:Blk)) ?_;show List.take k (hdR 9 k n)++[[C.own (k+10) 0 n true]]=_;rw [lbn (by simp [E0])]
 ·refine congrArg (fun z=>({ mode:=.live,elem:=3,size:=1,rows:=z,box:=false }:Blk)) ?_;exact (a7n (rows:=(frI fr).map j3) (rows':=[j3 row]) (by simp [frI,hfr])).trans (by simp [frI])
 ·refine congrArg (fun z=>({ mode:=.live,elem:=3,size:=1,rows:=z,box:=false }:Blk)) ?_;exact (a7n (rows:=(Y0 fr).map j3) (rows':=[j3 (sg1 b)]) (by simp [Y0,hfr])).trans (by simp [Y0])
 ·refine congrArg (fun z=>({ mode:=.live,elem:=87,size:=2,rows:=z,box:=false }:Blk)) ?_;exact (a7n (rows:=sc.map a00) (rows':=[a00 w.value.den]) (by simp [hsc])).trans zq
def fJ (k i:Nat):Nat:=if i=0 then 0 else if i=1 then k+13 else if i=2 then k+15 else if i=3 then 3 else if i=4 then k+12 else if i=5 then 5 else if i=6 then k+16 else if i=7 then k+17 else if i=8 then k+18 else if i<k+9 then i else k+10
def b94 {k i:Nat} (hi:i<k):fJ k (i+9)=i+9:=by
 unfold fJ;rw [iC om,iC om,iC om,iC om,iC om,iC om,iC om,iC om,iC om,iB om]
def bC4 {k:Nat}:fJ k (k+9)=k+10:=by
 unfold fJ;rw [iC om,iC om,iC om,iC om,iC om,iC om,iC om,iC om,iC om,iC om]
def bK1 {k i j:Nat} (hi:i<k+10) (hj:j<k+10) (h:fJ k i=fJ k j):i=j:=by
 have key:∀i,i<k+10->(i=0/\fJ k i=0)\/(i=1/\fJ k i=k+13)\/(i=2/\fJ k i=k+15)\/(i=3/\fJ k i=3)\/(i=4/\fJ k i=k+12)\/(i=5/\fJ k i=5)\/(i=6/\fJ k i=k+16)\/(i=7/\fJ k i=k+17)\/(i=8/\fJ k i=k+18)\/(9<=i/\i<k+9/\fJ k i=i)\/(i=k+9/\fJ k i=k+10):=by
  intro i hi;by_cases h0:i=0
  ·subst h0;exact .inl rz
  by_cases h1:i=1
  ·subst h1;exact .inr (.inl rz)
  by_cases h2:i=2
  ·subst h2;exact .inr (.inr (.inl rz))
  by_cases h3:i=3
  ·subst h3;exact .inr (.inr (.inr (.inl rz)))
  by_cases h4:i=4
  ·subst h4;exact .inr (.inr (.inr (.inr (.inl rz))))
  by_cases h5:i=5
  ·subst h5;exact .inr (.inr (.inr (.inr (.inr (.inl rz)))))
  by_cases h6:i=6
  ·subst h6;exact .inr (.inr (.inr (.inr (.inr (.inr (.inl rz))))))
  by_cases h7:i=7
  ·subst h7;exact .inr (.inr (.inr (.inr (.inr (.inr (.inr (.inl rz)))))))
  by_cases h8:i=8
  ·subst h8;exact .inr (.inr (.inr (.inr (.inr (.inr (.inr (.inr (.inl rz))))))))
  obtain ⟨t,rfl⟩:∃t,i=t+9:=⟨i - 9,om⟩;by_cases h9:t<k
  ·have:=b94 h9;omega
  ·have:t=k:=by omega
   subst this;have:=bC4 (k:=t);omega
 have a:=key i hi;have b:=key j hj;omega
def bi2 {k:Nat} {V:Nat->Int}:zF (k+1) V=zF k V++[V k]:=by unfold zF;rw [a8x,lbC];rfl
def b9H {k n:Nat}:hdR 9 (k+1) n=hdR 9 k n++[[C.own (k+9) 0 n true]]:=by unfold hdR;rw [a8x,lbC];rfl
def aS4 {k n j:Nat} {A:Nat->Nat->Int} {L:Hp}:((mZ k n A).map zlB++L)[k+j]? =L[j]?:=by
 rw [lbc (by simp [i5])];simp [i5]
def b0w {k n:Nat} {fr:LB} {f:Nat × Bool} {sc:LI} {d v:Int} {a V G:Nat->Int} {O F:Nat->Nat} {A:Nat->Nat->Int} {env env':Env} (hv:v=V k) (ha:a=A k)
 (hE:a0A (fR (k+10) (fJ k)) (b6u k n fr f sc d v a V G O F A) env env'):Ent 0 (fR (k+10) (fJ k)) env (b6u k n fr f sc d v a V G O F A) env' (K0 (k+1) n 0 (fr++[f]) (sc++[d]) 1 V G O F A []):=by
 subst hv ha;have lk:∀j,(b6u k n fr f sc d (V k) (A k) V G O F A)[k+j+9]? =([bgX d,zlB (zF n (A k)),bgX (V k),U7 (k+1) O,zlB (zF k V++[V k]),bR7 k n,hdX k n,y3 (frI (fr++[f])),y3 (Y0 (fr++[f])),zlB (sc++[d])]:Hp)[j]?:=fun j=>aS4
 have ff:∀i,i<k+10->(fR (k+10) (fJ k))[i]? =some (some (fJ k i)):=fun i hi=>z9 hi
 refine ab3 (by simp [i5]) om (fun i hi=>om) (fun i j hi hj h=>bK1 hi hj h) ?_ hE;intro i k' hk;rcases i with _|_|_|_|_|_|_|_|_|i
 ·injection hk with hk;subst hk
  exact ⟨_,rfl,rfl,rfl,rfl,.inr ⟨⟨⟨by rw [ff _ om];rfl,rfl,rfl,fun h=>h⟩,⟨by rw [ff _ om];rfl,rfl,rfl,fun h=>h⟩,⟨by rw [ff _ om];rfl,rfl,rfl,fun h=>h⟩,rfl,rfl,⟨by rw [ff _ om];rfl,rfl,rfl,fun h=>h⟩,⟨by rw [ff _ om];rfl,rfl,rfl,fun h=>h⟩,⟨by rw [ff _ om];rfl,rfl,rfl,fun h=>h⟩,⟨by rw [ff _ om];rfl,rfl,rfl,fun h=>h⟩,⟨by rw [ff _ om];rfl,rfl,rfl,fun h=>h⟩,rz⟩,trivial⟩⟩
 ·injection hk with hk;subst hk
  exact ⟨_,lk 4,by rw [bi2];exact j8 (j2 _)⟩
 ·injection hk with hk;subst hk
  refine ⟨_,lk 6,rfl,rfl,rfl,.inr ?_⟩;show a4Y _ _ (hdR 9 k n++[[C.own (k+10) 0 n true]]) (hdR 9 (k+1) n);rw [b9H];refine a2n (by simp [E0]) fun i x y hx hy=>?_
  by_cases hi:i<k
  ·rw [lbb (by simp [E0];exact hi),a9c hi] at hx hy;injection hx with hx;injection hy with hy
   subst hx hy;exact ⟨⟨by rw [ff _ om,b94 hi],rfl,rfl,fun h=>h⟩,trivial⟩
  ·have hl:i<(hdR 9 k n++[[C.own (k+10) 0 n true]]).length:=(lbe.1 hx).1;rw [lbq,E0] at hl;have hl:i<k+1:=hl;have:i=k:=om;subst this;rw [lbc (by simp [E0])] at hx hy;simp [E0] at hx hy;subst hx hy;exact ⟨⟨by rw [ff _ om,bC4],rfl,rfl,fun h=>h⟩,trivial⟩
 ·injection hk with hk;subst hk;exact ⟨_,rfl,j8 (j2 _)⟩
 ·injection hk with hk;subst hk;exact ⟨_,lk 3,j8 (j2 _)⟩
 ·injection hk with hk;subst hk;exact ⟨_,rfl,j8 (j2 _)⟩
 ·injection hk with hk;subst hk;exact ⟨_,lk 7,j8 (j2 _)⟩
 ·injection hk with hk;subst hk;exact ⟨_,lk 8,j8 (j2 _)⟩
 ·injection hk with hk;subst hk;exact ⟨_,lk 9,j8 (j2 _)⟩
 ·have hk:((mZ (k+1) n A).map zlB++[])[i]? =some k':=hk;have hi:i<k+1:=by have:=(lbe.1 hk).1;simpa [i5] using this
  rw [J1 (a0E hi)] at hk;injection hk with hk;subst hk
  by_cases hik:i<k
  ·rw [b94 hik];exact ⟨_,J1 (a0E hik),j8 (j2 _)⟩
  ·have:i=k:=by omega
   subst this;rw [bC4];exact ⟨_,lk 1,j8 (j2 _)⟩
def pJ1:Nat->Option Nat:=fun i=>if i=0 then some 1 else if i=3 then some 0 else none
def b9m (s:m7) (f:Nat × Bool):Int:=match s.rows[f.1]? with
 |none=>1
 |some w=>(w.value.den:Int)
def scL (s:m7) (l:LB):LI:=l.map (b9m s)
def am6 (s:m7) (l:LB):(scL s l).length=l.length:=by simp [scL]
def b0g {s:m7} {l:LB} {i:Nat} {b:Bool} {w:C7} (hw:s.rows[i]? =some w):scL s (l++[(i,b)])=scL s l++[(w.value.den:Int)]:=by
 unfold scL;rw [lbC];show _++[b9m s (i,b)]=_;unfold b9m;simp only [hw]
def V0 (s:m7) (g:List (Int × Rat)):Nat->Int:=fun i=>((k9 (k8 s) g).V i).num
def A0 (s:m7) (g:List (Int × Rat)):Nat->Nat->Int:=fun i j=>((k9 (k8 s) g).A i j).num
def C0 (g:List (Int × Rat)) (q:Nat):Nat->Int:=fun j=>(-(T4 g q j)).num
def bv4 (g:List (Int × Rat)):C0 g 0=fun _=>0:=by
 funext j;show (-(0:Rat)).num=0
 decide
def bs2 {g:List (Int × Rat)} {q:Nat} {t:Int × Rat} {c:Int} (h:g[q]? =some t) (hc:t.2=((c:Int):Rat)):C0 g (q+1)=fun j=>if j=t.1.toNat then -(1*c) else C0 g q j:=by
 funext j;unfold C0;rw [Q9 h];simp only;by_cases hj:j=t.1.toNat
 ·rw [iB hj,iB hj,hc,az5,a89];omega
 ·rw [iC hj,iC hj]
def bB1 {s:m7} {g:List (Int × Rat)} {k:Nat} {b:Bool} {i:Nat} {w:C7} (h:(j0 (k8 s)).getD k (0,false)=(i,b)) (hw:s.rows[i]? =some w):sg1 b*w.value.num=V0 s g k:=by
 unfold V0;rw [← aR3 (g:=g) h (av4 hw),←aW5];rfl
def bz9 {s:m7} {g:List (Int × Rat)} {k:Nat} {b:Bool} {i:Nat} {w:C7} (h:(j0 (k8 s)).getD k (0,false)=(i,b)) (hw:s.rows[i]? =some w):aQ w b w.terms.length=A0 s g k:=by
 rw [bK5];funext j;unfold A0;rw [← b05 (g:=g) h (av4 hw)];rfl
abbrev bW0 (m n j:Nat):Blk:={ mode:=.live,elem:=175,size:=12,rows:=[[C.own 1 0 m true,.own 2 0 m true,.own 3 0 n true,.t (ti (bz 1).sg),.t (w5 (bz 1).dl),.own 4 0 m true,.own (m+9) 0 (j+1) true,.own 6 0 m true,.own 7 0 m true,.own 8 0 m true,.t (ti (bz 1).sg),.t (w5 (bz 1).dl)]],box:=true }
abbrev bW6 (m n j:Nat) (fr:LB) (sc:LI) (V G:Nat->Int) (O:Nat->Nat) (A:Nat->Nat->Int):Hp:=
 bW0 m n j::zlB (zF m V)::hdB 9 m n::zlB (zF n G)::U7 m O::ai0 3 1::y3 (frI fr)::y3 (Y0 fr)::zlB sc::((mZ m n A).map zlB++[U7 (j+1) fun j=>j])
def fF (m i:Nat):Nat:=if i=5 then m+9 else i
def b82 {m n j:Nat} {fr:LB} {sc:LI} {V G:Nat->Int} {O:Nat->Nat} {A:Nat->Nat->Int} {env env':Env} {H:Hp} (hH:H=bW6 m n j fr sc V G O A) (hE:a0A (fR (m+9) (fF m)) H env env'):
 Ent 0 (fR (m+9) (fF m)) env H env' (K0 m n (j+1) fr sc 1 V G O (fun j=>j) A []):=by
 subst hH;have fa:∀i,i≠5->fF m i=i:=fun i hi=>by unfold fF;rw [iC hi]
 have ff:∀i,i<m+9->(fR (m+9) (fF m))[i]? =some (some (fF m i)):=fun i hi=>z9 hi
 refine ab3 (by simp [i5]) om (fun i hi=>om) (fun i j hi hj h=>by unfold fF at h;(repeat' split at h)<;>omega) ?_ hE;intro i k' hk;rcases i with _|_|_|_|_|_|_|_|_|i
 ·injection hk with hk;subst hk
  exact ⟨_,rfl,rfl,rfl,rfl,.inr ⟨⟨⟨by rw [ff _ om];rfl,rfl,rfl,fun h=>h⟩,⟨by rw [ff _ om];rfl,rfl,rfl,fun h=>h⟩,⟨by rw [ff _ om];rfl,rfl,rfl,fun h=>h⟩,rfl,rfl,⟨by rw [ff _ om];rfl,rfl,rfl,fun h=>h⟩,⟨by rw [ff _ om];rfl,rfl,rfl,fun h=>h⟩,⟨by rw [ff _ om];rfl,rfl,rfl,fun h=>h⟩,⟨by rw [ff _ om];rfl,rfl,rfl,fun h=>h⟩,⟨by rw [ff _ om];rfl,rfl,rfl,fun h=>h⟩,rz⟩,trivial⟩⟩
 ·injection hk with hk;subst hk;exact ⟨_,rfl,j8 (j2 _)⟩
 ·injection hk with hk;subst hk
  refine ⟨_,rfl,rfl,rfl,rfl,.inr (a2n rfl fun i x y hx hy=>?_)⟩;have hx:(hdR 9 m n)[i]? =some x:=hx;have hy:(hdR 9 m n)[i]? =some y:=hy;have hi:i<m:=by have:=(lbe.1 hx).1;rwa [E0] at this
  rw [a9c hi] at hx hy;injection hx with hx;injection hy with hy
  subst hx hy;exact ⟨⟨by rw [ff _ om,fa _ om],rfl,rfl,fun h=>h⟩,trivial⟩
 ·injection hk with hk;subst hk;exact ⟨_,rfl,j8 (j2 _)⟩
 ·injection hk with hk;subst hk;exact ⟨_,rfl,j8 (j2 _)⟩
 ·injection hk with hk;subst hk;exact ⟨_,aS4 (j:=0),j8 (j2 _)⟩
 ·injection hk with hk;subst hk;exact ⟨_,rfl,j8 (j2 _)⟩
 ·injection hk with hk;subst hk;exact ⟨_,rfl,j8 (j2 _)⟩
 ·injection hk with hk;subst hk;exact ⟨_,rfl,j8 (j2 _)⟩
 ·have hk:((mZ m n A).map zlB++[])[i]? =some k':=hk;have hi:i<m:=by have:=(lbe.1 hk).1;simpa [i5] using this
  rw [J1 (a0E hi)] at hk;injection hk with hk;subst hk
  rw [fa _ om];exact ⟨_,J1 (a0E hi),j8 (j2 _)⟩
structure bQ3 (s:m7) (g:List (Int × Rat)) (n:Nat):Prop where
 sm:M7 s
 tg:m8 (-1) n g=true
 en:s.n=n
 w:I9 g
def b9h (s:m7) (g:List (Int × Rat)) (n:Nat) (h:bQ3 s g n):
 e8 Tryz.prog 85 [W8 s,s6 g] [] (.c (.ptr 0 0 0)) (K0 (j0 (k8 s)).length n n (j0 (k8 s)) (scL s (j0 (k8 s))) 1 (V0 s g) (C0 g g.length) (fun i=>n+i) (fun j=>j) (A0 s g) []):=by
 have hs:=h.sm
 have htg:=h.tg
 have hen:=h.en
 have hgw:=h.w
 have hn9:=hs.n
 have hr1:=hs.l
 have hgl:=E4 htg
 have m1:(s.rows.map v6).length=s.rows.length:=zq
 have m2:(g.map B9).length=g.length:=zq
 have of1:=b69 1 de de
 have bl1:bl 1<=1:=w9 de de
 have lrow:∀(i:Nat) (w:C7),s.rows[i]? =some w->m8 (-1) n w.terms=true/\w.terms.length<=1000/\I9 w.terms/\rl w.value<=100:=fun i w hw=>by
  have hI:=hs.i w (lbm hw)
  have hn:=X0 hs.r
  have hrw:=(a1t hs.r hw).1
  rw [hn,hen] at hrw
  have hl:=E4 hrw
  have ⟨d1,d2⟩:=a4p hI.2
  have d3:=a1v w.value
  have b1:=w9 (x:=(w.value.den:Int)) om om
  have b2:=U5 (x:=w.value.num) om om
  exact ⟨hrw,om,hI.1,by show max _ _<=100;omega⟩
 have put0:∀(K i:Nat) (w:C7) (b:Bool) (Fr:List (Nat × Bool)),s.rows[i]? =some w->Fr.length=K->K<=10000->i<=100000->
  e8 Tryz.prog 120 [.c (.ptr 0 0 0),e7 .i64 s.n,e7 .i64 i,aU0 w,e7 .i64 (sg1 b)] (K0 K n 0 Fr (scL s Fr) 1 (V0 s g) (fun _=>0) (fun i=>n+i) (fun j=>j) (A0 s g) []) (.tup []) (b6u K n Fr (i,b) (scL s Fr) w.value.den (sg1 b*w.value.num) (aQ w b w.terms.length) (V0 s g) (fun _=>0) (fun i=>n+i) (fun j=>j) (A0 s g)):=by
  intro K i w b Fr hw hF hK hi
  have ⟨q1,q2,q3,q4⟩:=lrow i w hw
  rw [hen]
  exact bo8 n K i w b Fr hF (scL s Fr) (by rw [am6,hF]) _ _ _ _ om hK hi q1 q2 q3 q4
 (refine ac Tryz.func85 ?_;(conv=>whnf);repeat ((first|refine b0x ?_|refine zy ?_);conv=>whnf))
 repeat' (first|refine zx ?_|refine qp of1 ?_|refine zy ?_|refine a2y om om om de ?_|refine zd ?_ ?_<;>intro h<;>try omega|fail)<;>conv=>whnf
 refine at5 (fun i=>([J,s6 g,S.c (C.t (T.ptr (a1c s))),J,J,S.c (C.ptr 0 0 0),e7 .i64 i]++Jn 114,K0 (J8 (k8 s) i).length n 0 (J8 (k8 s) i) (scL s (J8 (k8 s) i)) 1 (V0 s g) (fun _=>0) (fun i=>n+i) (fun j=>j) (A0 s g) [])) s.rows.length (fun _=>True) (gR 9 pJ1) trivial ?_ ?_
 ·refine b2K rfl (fun i j x hi hj h1 h2=>by unfold pJ1 at h1 h2;(repeat' split at h1)<;>(repeat' split at h2)<;>first|(cases h1;done)|(cases h2;done)|(injection h1 with h1;injection h2 with h2;omega)) ?_ ?_
  ·intro i k' hk
   rcases i with _|_|_|_|_|_|_|_|_|i
   ·injection hk with hk;subst hk
    exact .inr ⟨1,_,rfl,rfl,rfl,rfl,rfl,.inr ⟨⟨⟨rfl,rfl,rfl⟩,⟨rfl,rfl,rfl⟩,⟨rfl,rfl,om,fun h=>h⟩,rfl,rfl,⟨rfl,rfl,rfl⟩,⟨rfl,rfl,rfl⟩,⟨rfl,rfl,rfl⟩,⟨rfl,rfl,rfl⟩,⟨rfl,rfl,rfl⟩,rfl,rfl,trivial⟩,trivial⟩⟩
   ·injection hk with hk;subst hk;exact .inl ⟨rfl,rfl,rfl⟩
   ·injection hk with hk;subst hk;exact .inl ⟨rfl,rfl,rfl⟩
   ·injection hk with hk;subst hk;exact .inr ⟨0,_,rfl,rfl,b55 om⟩
   ·injection hk with hk;subst hk;exact .inl ⟨rfl,rfl,rfl⟩
   ·injection hk with hk;subst hk;exact .inl ⟨rfl,rfl,rfl⟩
   ·injection hk with hk;subst hk;exact .inl ⟨rfl,rfl,rfl⟩
   ·injection hk with hk;subst hk;exact .inl ⟨rfl,rfl,rfl⟩
   ·injection hk with hk;subst hk;exact .inl ⟨rfl,rfl,rfl⟩
   ·simp [mZ,J8] at hk
  ·exact ⟨m9 rfl,m9 rfl,⟨rfl,rfl,rfl⟩,g9 rfl,trivial⟩
 intro i hi _
 refine w8 g8 ?_
 conv=>whnf
 repeat' (first|refine zx ?_|refine i9 (i5 _ _ _) ?_|refine i7 ?_|refine zd ?_ ?_<;>intro h<;>try omega|fail)<;>conv=>whnf
 ·have jj:i<s.rows.length:=by omega
  have ⟨w,hw⟩:=iA jj
  have hw':=av4 hw
  obtain ⟨F0,hF0⟩:∃F0,F0=J8 (k8 s) i:=⟨_,rfl⟩
  obtain ⟨K,hK⟩:∃K,K=F0.length:=⟨_,rfl⟩
  obtain ⟨F1,hF1⟩:∃F1,F1=(F0++if w.kind≠0 then [(i,false)] else []):=⟨_,rfl⟩
  obtain ⟨K1,hK1⟩:∃K1,K1=F1.length:=⟨_,rfl⟩
  have hKb:K<=10000:=by have:=a1b (s:=k8 s) i;rw [← hF0] at this;omega
  have hK1b:K1<=10000:=by
   have:=a1b (s:=k8 s) i
   rw [← hF0] at this
   rw [hK1,hF1,lbq]
   split<;>simp<;>omega
  have eF:J8 (k8 s) (i+1)=F1++if w.kind≠1 then [(i,true)] else []:=by rw [a8b hw',hF1,hF0];rfl
  rw [← hF0,←hK]
  refine a9i (a8A ?_)
  refine B4 g8 ([J,s6 g,S.c (C.t (T.ptr (a1c s))),J,J,S.c (C.ptr 0 0 0),e7 .i64 i]++Jn 114) (K0 K1 n 0 F1 (scL s F1) 1 (V0 s g) (fun _=>0) (fun i=>n+i) (fun j=>j) (A0 s g) []) ?_ ?_
  ·by_cases hk:w.kind=0
   ·have e1:F1=F0:=by rw [hF1,iC (by simp [hk]),a05]
    have e2:K1=K:=by rw [hK1,e1,hK]
    rw [e1,e2]
    conv=>whnf
    repeat' (first|refine zx ?_|refine j4 hw ?_|refine i9 (i5 _ _ _) ?_|refine i7 ?_|refine zd ?_ ?_<;>intro h<;>try omega|fail)<;>conv=>whnf
    all_goals first
     |omega
     |exact ⟨idR (K+9),t8 (T:=[]) (T':=[]) rfl rfl (G0 _) zq ⟨rfl,rfl,⟨j5 om,rfl,rfl⟩,rfl,trivial⟩⟩
   ·have e1:F1=F0++[(i,false)]:=by rw [hF1,iB hk]
    have e2:K1=K+1:=by rw [hK1,e1,lbq,←hK];rfl
    have hg:(j0 (k8 s)).getD K (0,false)=(i,false):=by
     refine a7x (i:=i+1) (by show i+1<=(s.rows.map T7).length;rw [lbr];omega) ?_
     rw [eF,e1,lbD,lbc om,hK];simp
    rw [e1,e2,b0g hw]
    have pu:=put0 K i w false F0 hw hK.symm hKb om
    conv=>whnf
    repeat' (first|refine zx ?_|refine .inr ⟨_,_,pu,?_⟩|refine j4 hw ?_|refine i9 (i5 _ _ _) ?_|refine i7 ?_|refine zd ?_ ?_<;>intro h<;>try omega|fail)<;>conv=>whnf
    all_goals first
     |omega
     |exact ⟨_,b0w (bB1 (g:=g) hg hw) (bz9 (g:=g) hg hw) ⟨rfl,rfl,⟨by rw [z9 om];rfl,rfl,rfl⟩,rfl,trivial⟩⟩
  ·by_cases hk:w.kind=1
   ·have e1:J8 (k8 s) (i+1)=F1:=by rw [eF,iC (by simp [hk]),a05]
    refine t4 g8 _ ?_
    conv=>whnf
    repeat' (first|refine zx ?_|refine j4 hw ?_|refine i9 (i5 _ _ _) ?_|refine i7 ?_|refine zd ?_ ?_<;>intro h<;>try omega|fail)<;>conv=>whnf
    all_goals try omega
    refine t4 g8 _ ?_
    conv=>whnf
    repeat' (first|refine zx ?_|refine i9 (i5 _ _ _) ?_|refine i7 ?_|refine zd ?_ ?_<;>intro h<;>try omega|fail)<;>conv=>whnf
    refine ⟨jj,trivial,idR (K1+9),?_⟩
    rw [e1,←hK1]
    exact t8 (T:=[]) (T':=[]) rfl rfl (G0 _) zq ⟨rfl,rfl,⟨j5 om,rfl,rfl⟩,g9 om,trivial⟩
   ·have e1:J8 (k8 s) (i+1)=F1++[(i,true)]:=by rw [eF,iB hk]
    have hg:(j0 (k8 s)).getD K1 (0,false)=(i,true):=by
     refine a7x (i:=i+1) (by show i+1<=(s.rows.map T7).length;rw [lbr];omega) ?_
     rw [e1,lbc om,hK1];simp
    have pu:=put0 K1 i w true F1 hw hK1.symm hK1b om
    refine t4 g8 _ ?_
    conv=>whnf
    repeat' (first|refine zx ?_|refine .inr ⟨_,_,pu,?_⟩|refine j4 hw ?_|refine i9 (i5 _ _ _) ?_|refine i7 ?_|refine zd ?_ ?_<;>intro h<;>try omega|fail)<;>conv=>whnf
    all_goals try omega
    refine b4h (env':=[J,s6 g,S.c (C.t (T.ptr (a1c s))),J,J,S.c (C.ptr 0 0 0),e7 .i64 i]++Jn 114) _ (b0w (bB1 (g:=g) hg hw) (bz9 (g:=g) hg hw) ?_) ?_
    ·exact ⟨rfl,rfl,⟨by rw [z9 om];rfl,rfl,rfl⟩,rfl,trivial⟩
    refine t4 g8 _ ?_
    conv=>whnf
    repeat' (first|refine zx ?_|refine i9 (i5 _ _ _) ?_|refine i7 ?_|refine zd ?_ ?_<;>intro h<;>try omega|fail)<;>conv=>whnf
    refine ⟨jj,trivial,idR (K1+1+9),?_⟩
    rw [e1,show (F1++[(i,true)]).length=K1+1 by simp [hK1],b0g hw]
    exact t8 (T:=[]) (T':=[]) rfl rfl (G0 _) zq ⟨rfl,rfl,⟨j5 om,rfl,rfl⟩,g9 om,trivial⟩
 ·have hie:i=s.rows.length:=by omega
  subst hie
  have efr:J8 (k8 s) s.rows.length=j0 (k8 s):=by unfold j0;rw [show (k8 s).rows.length=s.rows.length from lbr ..]
  rw [efr]
  have hm2:=a1b (s:=k8 s) s.rows.length
  rw [efr] at hm2
  generalize j0 (k8 s)=fr at hm2
  obtain ⟨m,hm⟩:∃m,m=fr.length:=⟨_,rfl⟩
  rw [← hm] at hm2 ⊢
  refine k6 g8 (fun q=>([J,s6 g,S.c (C.t (T.ptr (a1c s))),J,J,S.c (C.ptr 0 0 0),J,e7 .i64 q]++Jn 113,K0 m n 0 fr (scL s fr) 1 (V0 s g) (fun _=>0) (fun i=>n+i) (fun j=>j) (A0 s g) [])) g.length (fun _=>True) (idR (m+9)) trivial ?_ ?_
  ·exact t8 (T:=[]) (T':=[]) rfl rfl (G0 _) zq ⟨rfl,rfl,⟨j5 om,rfl,rfl⟩,g9 rfl,trivial⟩
  intro q hq _
  by_cases jj:q<g.length
  ·have ⟨t,ht⟩:=iA jj
   have ⟨c,hc,hcb⟩:=hgw t (lbm ht)
   have ci:=aK4 1 de c om hcb
   rw [← hc] at ci
   conv=>whnf
   repeat' (first|refine zx ?_|refine qp ci ?_|refine j4 ht ?_|refine i9 (i5 _ _ _) ?_|refine i7 ?_|refine bl0 [0] ?_|refine zd ?_ ?_<;>intro h<;>try omega|fail)<;>conv=>whnf
   all_goals first
    |omega
    |exact ⟨jj,trivial,idR (m+9),t8 (T:=[]) (T':=[]) rfl rfl (G0 _) zq ⟨rfl,rfl,⟨j5 om,rfl,rfl⟩,g9 om,trivial⟩⟩
  ·have hqe:q=g.length:=by omega
   subst hqe
   conv=>whnf
   repeat' (first|refine zx ?_|refine i9 (i5 _ _ _) ?_|refine i7 ?_|refine zd ?_ ?_<;>intro h<;>try omega|fail)<;>conv=>whnf
   all_goals try omega
   refine k6 g8 (fun q=>([J,s6 g,S.c (C.t (T.ptr (a1c s))),J,J,S.c (C.ptr 0 0 0),J,J,e7 .i64 q]++Jn 112,K0 m n 0 fr (scL s fr) 1 (V0 s g) (C0 g q) (fun i=>n+i) (fun j=>j) (A0 s g) [])) g.length (fun _=>True) (idR (m+9)) trivial ?_ ?_
   ·rw [bv4]
    exact t8 (T:=[]) (T':=[]) rfl rfl (G0 _) zq ⟨rfl,rfl,⟨j5 om,rfl,rfl⟩,g9 rfl,trivial⟩
   intro q hq _
   by_cases jj:q<g.length
   ·have ⟨t,ht⟩:=iA jj
    have ⟨c,hc,hcb⟩:=hgw t (lbm ht)
    have ⟨t0,t1,t2⟩:=L1 htg t (lbm ht)
    have ti:=b0k 1 c om hcb
    have lc:bl (1*c)<=300000:=by rw [a2u];omega
    have ng:=a69 (1*c) lc
    rw [← hc] at ti
    have eV:0+t.1.toNat=t.1.toNat:=om
    have gp:(zF n (C0 g q))[0+t.1.toNat]? =some (C0 g q t.1.toNat):=by rw [eV,U2 om]
    conv=>whnf
    repeat' (first|refine zx ?_|refine qp ti ?_|refine qp ng ?_|refine j4 ht ?_|refine a2A gp ?_|refine i9 (i5 _ _ _) ?_|refine i7 ?_|refine bl0 [0,1,2,3] ?_|refine zd ?_ ?_<;>intro h<;>try omega|fail)<;>conv=>whnf
    all_goals first
     |omega
     |exact ⟨jj,trivial,idR (m+9),t8 (T:=[]) (T':=[]) (L7 rfl rfl rfl ((a1y eV om).trans (by rw [bs2 ht hc])) rfl rfl rfl rfl rfl rfl) rfl (G0 _) zq ⟨rfl,rfl,⟨j5 om,rfl,rfl⟩,g9 om,trivial⟩⟩
   ·have hqe:q=g.length:=by omega
    subst hqe
    conv=>whnf
    repeat' (first|refine zx ?_|refine i9 (i5 _ _ _) ?_|refine i7 ?_|refine zd ?_ ?_<;>intro h<;>try omega|fail)<;>conv=>whnf
    all_goals try omega
    refine k6 g8 (fun q=>([J,J,S.c (C.t (T.ptr (a1c s))),J,J,S.c (C.ptr 0 0 0),J,J,J,e7 .i64 q]++Jn 111,K0 m n q fr (scL s fr) 1 (V0 s g) (C0 g g.length) (fun i=>n+i) (fun j=>j) (A0 s g) [])) n (fun _=>True) (idR (m+9)) trivial ?_ ?_
    ·exact t8 (T:=[]) (T':=[]) rfl rfl (G0 _) zq ⟨rfl,⟨j5 om,rfl,rfl⟩,g9 rfl,trivial⟩
    intro q hq _
    by_cases jj:q<n
    ·conv=>whnf
     repeat' (first|refine zx ?_|refine v8 (by simp [toC,p4]) (by simp [toC,p4];omega) ?_|refine i9 (i5 _ _ _) ?_|refine i7 ?_|refine bl0 [0] ?_|refine zd ?_ ?_<;>intro h<;>try omega|fail)<;>conv=>whnf
     all_goals first
      |omega
      |(refine ⟨jj,trivial,fR (m+9) (fF m),b82 (L7 rfl rfl rfl rfl rfl rfl rfl rfl rfl (congrArg (fun z=>(mZ m n (A0 s g)).map zlB++[z]) ?_)) ⟨rfl,⟨by rw [z9 om];rfl,rfl,rfl⟩,g9 om,trivial⟩⟩
        exact congrArg (fun z=>({ mode:=.live,elem:=3,size:=1,rows:=z,box:=false }:Blk)) (a4N (O:=fun j=>j) (x:=(q:Int)) rfl))
    ·have hqe:q=n:=by omega
     subst hqe
     conv=>whnf
     repeat' (first|refine zx ?_|refine i9 (i5 _ _ _) ?_|refine i7 ?_|refine zd ?_ ?_<;>intro h<;>try omega|fail)<;>conv=>whnf
     all_goals first
      |omega
      |exact a68 (T:=[]) rfl rfl (G0 _) ⟨j5 om,rfl,rfl⟩
def b8S {q z:Int} {x:Rat} (hq:0<q) (h:((z:Int):Rat)=((q:Int):Rat)*x):Rat.divInt z q=x:=by
 have hne:((q:Int):Rat)≠0:=by
  intro e;have:q=0:=by exact_mod_cast e
  omega
 rw [a84,h,ar3,af3,aa8,b2f _ hne];grind
def aA1 {ρ:List (Option Nat)} {H:Hp} {n N:Nat} (e:N=n):a3o ρ H (D8 89 4 (List.replicate N [F7 (.int .i64 0),F7 (.slice none 0 0),F7 (.int .i64 0),F7 (.slice none 0 0)]) false) (flB (pZ 0 n)):=by
 subst e;refine ⟨rfl,rfl,rfl,.inr (a2n ?_ ?_)⟩
 ·simp [D8,toC,az0]
 ·intro i x y hx hy;simp only [D8,lbk] at hx;split at hx
  ·rename_i hi;injection hx with hx;subst hx;have hy:(toC ((pZ 0 N).map B3))[i]? =some y:=hy;rw [toC,lba,lba,a6S om,iC om] at hy;injection hy with hy;subst hy;exact rz
  ·cases hx
def b35 {k n i:Nat} (e:i=k) (h:k<n):D6 (flB (pZ k n)) ((flB (pZ k n)).rows.set i (frC (fz ((0:Int):Rat))))=flB (pZ (k+1) n):=by
 have:=R4 (row:=pZ k n) (y:=fz 0) e;rw [b7j h] at this;exact this
def b4k (n:Nat) (hn:n<=1000):ec 129 [eI n] [] (.c (.own 0 0 n true)) [flB (rF n fun _=>0)]:=by
 have i0:=am3 0 de de;refine ac Tryz.func129 ?_;conv=>whnf
 repeat' (first|refine zx ?_|refine a2y om om om de ?_|apply zD<;>intro h<;>try omega)<;>conv=>whnf
 refine k6 g8 (fun k=>([eI n,J,J,S.c (C.own 0 0 n true),eI k]++Jn 12,[flB (pZ k n)])) n tT [some 0] trivial
  ⟨rfl,rfl,⟨aA1 om,trivial⟩,⟨g9 rfl,⟨rfl,rfl,om,fun h=>h⟩,g9 rfl,trivial⟩⟩ ?_
 intro k hk _;by_cases jj:k<n
 ·have eM:0+(k:Int).toNat=k:=by omega
  have gp:(pZ k n)[0+(k:Int).toNat]? =some (if k<k then fz 0 else a0L):=by rw [eM];exact a6S jj
  conv=>whnf
  repeat' (first|refine zx ?_|refine z6 gp ?_|apply zD<;>intro h<;>try omega)<;>conv=>whnf
  all_goals first|omega|exact ⟨jj,trivial,[some 0],rfl,rfl,⟨i6 (rows:=(pZ (k+1) n).map B3) rfl rfl rfl (congrArg Blk.rows (b35 eM jj)) rfl,trivial⟩,⟨rfl,⟨rfl,rfl,rfl,fun h=>h⟩,g9 om,trivial⟩⟩
 ·have hke:k=n:=by omega
  subst hke;conv=>whnf
  repeat' (first|refine zx ?_|apply zD<;>intro h<;>try omega)<;>conv=>whnf
  all_goals first|omega|exact ⟨[some 0],rfl,rfl,⟨i6 (rows:=(rF k fun _=>0).map B3) rfl rfl rfl (by rw [← aS3]) rfl,trivial⟩,⟨rfl,rfl,rfl,fun h=>h⟩⟩
def ay2 {n i j:Nat} {g:Nat->Rat} {y:Rat} (e:i=j) (h:j<n):D6 (flB (rF n g)) ((flB (rF n g)).rows.set i (frC (fz y)))=flB (rF n fun k=>if k=j then y else g k):=by
 subst e;have:=R4 (row:=rF n g) (y:=fz y) (rfl:i=i);rw [a0W h] at this;exact this
def K5 {ρ:List (Option Nat)} {H:Hp} {k:Blk} {l:List Fr} (h:k=flB l):a3o ρ H k (flB l):=by subst h;exact j8 (j2 _)
def bm7 (m n:Nat) (fr:LB) (sc:LI) (Z:Zd) (D:Fd) (hr:b07 m n Z D) (hP:a03 m n D) (hB:ZB m n 1000 Z) (hm:m<=100000) (hn:n<=1000):
 ec 88 [jT m n fr sc Z,eI n] [] (H9 ((zOf n (R6 m n D 1 (fun _=>0))).map fz)) []:=by
 have m1:(a04 m Z.O).length=m:=p4 _ _;have i0:=am3 0 de de;have lD:=hB.d;rw [a3a,←F9 (g:=ptK n D.O D.V (fun _=>0) m) fun j hj=>ar8 hP hj];refine ac Tryz.func88 ?_;conv=>whnf
 repeat' (first|refine zx ?_|refine a2y om om om de ?_|apply zD<;>intro h<;>try omega)<;>conv=>whnf
 refine k6 g8 (fun k=>([jT m n fr sc Z,eI n,J,J,J,S.c (C.own 0 0 n true),eI k]++Jn 52,[flB (pZ k n)])) n tT [some 0] trivial
  ⟨rfl,rfl,⟨aA1 om,trivial⟩,⟨rfl,g9 rfl,⟨rfl,rfl,om,fun h=>h⟩,g9 rfl,trivial⟩⟩ ?_
 intro k hk _;by_cases jj:k<n
 ·have eM:0+(k:Int).toNat=k:=by omega
  have gp:(pZ k n)[0+(k:Int).toNat]? =some (if k<k then fz 0 else a0L):=by rw [eM];exact a6S jj
  conv=>whnf
  repeat' (first|refine zx ?_|refine z6 gp ?_|apply zD<;>intro h<;>try omega)<;>conv=>whnf
  all_goals first|omega|exact ⟨jj,trivial,[some 0],rfl,rfl,⟨K5 (b35 eM jj),trivial⟩,⟨rfl,rfl,⟨rfl,rfl,rfl,fun h=>h⟩,g9 om,trivial⟩⟩
 ·have hke:k=n:=by omega
  subst hke;conv=>whnf
  repeat' (first|refine zx ?_|apply zD<;>intro h<;>try omega)<;>conv=>whnf
  all_goals try omega
  refine k6 g8 (fun i=>([jT m k fr sc Z,eI k,J,J,J,S.c (C.own 0 0 k true),J,eI i]++Jn 51,[flB (rF k (ptK k D.O D.V (fun _=>0) i))])) m tT [some 0] trivial
   ⟨rfl,rfl,⟨K5 (by rw [aS3];rfl),trivial⟩,⟨rfl,rfl,⟨rfl,rfl,rfl,fun h=>h⟩,g9 rfl,trivial⟩⟩ ?_
  intro i hi _;by_cases jj:i<m
  ·have eO:Z.O i=D.O i:=by rw [hr.o]
   by_cases ho:D.O i<k
   ·have rt:=aT4 (Z.V i) Z.D hr.d (by have:=hB.v i jj;omega) om;rw [b8S hr.d (hr.v i jj)] at rt;have eIq:0+((Z.O i:Nat):Int).toNat=D.O i:=by rw [eO];omega
    have gp:(rF k (ptK k D.O D.V (fun _=>0) i))[0+((Z.O i:Nat):Int).toNat]? =some (fz (ptK k D.O D.V (fun _=>0) i (D.O i))):=by rw [eIq,L5 ho]
    have e:rF k (fun j=>if j=D.O i then D.V i else ptK k D.O D.V (fun _=>0) i j)=rF k (ptK k D.O D.V (fun _=>0) (i+1)):=by
     rw [L4];exact F9 fun j hj=>by simp only [ho,true_and]
    conv=>whnf
    repeat' (first|refine zx ?_|refine t7 rfl jj ?_|refine a13 rfl jj ?_|refine z6 gp ?_|apply zD<;>intro h<;>try omega)<;>conv=>whnf
    all_goals first|omega|exact ⟨jj,trivial,[some 0],rfl,rfl,⟨K5 ((ay2 eIq ho).trans (by rw [e])),trivial⟩,⟨rfl,rfl,⟨rfl,rfl,rfl,fun h=>h⟩,g9 om,trivial⟩⟩
   ·have e:ptK k D.O D.V (fun _=>0) (i+1)=ptK k D.O D.V (fun _=>0) i:=by rw [L4];funext j;rw [iC (fun h=>ho h.1)]
    conv=>whnf
    repeat' (first|refine zx ?_|refine t7 rfl jj ?_|apply zD<;>intro h<;>try omega)<;>conv=>whnf
    all_goals first|omega|exact ⟨jj,trivial,[some 0],rfl,rfl,⟨K5 (by rw [e]),trivial⟩,⟨rfl,rfl,⟨rfl,rfl,rfl,fun h=>h⟩,g9 om,trivial⟩⟩
  ·have hie:i=m:=by omega
   subst hie;conv=>whnf
   repeat' (first|refine zx ?_|apply zD<;>intro h<;>try omega)<;>conv=>whnf
   all_goals first|omega|exact N6 rfl (fun h=>h) rfl rfl (by simp [P7])
def bV2 (m n:Nat) (fr:LB) (sc:LI) (Z:Zd) (D:Fd) (c:Nat) (hc:c<n) (hr:b07 m n Z D) (hP:a03 m n D) (hB:ZB m n 1000 Z) (hm:m<=100000) (hn:n<=1000):
 ec 91 [jT m n fr sc Z,eI n,eI c] [] (H9 ((zOf n (R6 m n D 0 (fun q=>if q=c then 1 else 0))).map fz)) []:=by
 have m1:(a04 m Z.O).length=m:=p4 _ _;have i0:=am3 0 de de;have i1:=am3 1 de de;have lD:=hB.d;obtain ⟨x0,hx0⟩:∃x0:Nat->Rat,x0=fun j=>if D.F c<n/\j=D.F c then 1 else 0:=⟨_,rfl⟩
 rw [a3a,←F9 (g:=ptK n D.O (fun i=>-(D.A i c)) x0 m) fun j hj=>by rw [hx0];exact al5 hP hc hj];have eF:Z.F c=D.F c:=by rw [hr.f]
 (refine M6 g8 Tryz.func91 rfl de ?_;refine w8 g8 ?_;(conv=>whnf);repeat ((first|refine b0x ?_|refine zy ?_);conv=>whnf))
 repeat' (first|refine zx ?_|apply zD<;>intro h<;>try omega)<;>conv=>whnf
 refine B4 g8 ([jT m n fr sc Z,eI n,eI c,J,J,J,J,S.c (C.own 0 0 n true)]++Jn 76) [flB (pZ 0 n)] ?_ ?_
 ·conv=>whnf
  repeat' (first|refine zx ?_|refine a2y om om om de ?_|apply zD<;>intro h<;>try omega)<;>conv=>whnf
  all_goals exact ⟨[some 0],rfl,rfl,⟨aA1 om,trivial⟩,⟨rfl,g9 rfl,g9 rfl,⟨rfl,rfl,om,fun h=>h⟩,trivial⟩⟩
 refine B4 g8 ([jT m n fr sc Z,eI n,eI c,J,J,J,J,S.c (C.own 0 0 n true)]++Jn 76) [flB (rF n fun _=>0)] ?_ ?_
 ·conv=>whnf
  repeat' (first|refine zx ?_|apply zD<;>intro h<;>try omega)<;>conv=>whnf
  refine k6 g8 (fun k=>([jT m n fr sc Z,eI n,eI c,J,J,J,J,S.c (C.own 0 0 n true),eI k]++Jn 75,[flB (pZ k n)])) n tT [some 0] trivial
   ⟨rfl,rfl,⟨K5 rfl,trivial⟩,⟨rfl,rfl,rfl,⟨rfl,rfl,rfl,fun h=>h⟩,g9 rfl,trivial⟩⟩ ?_
  intro k hk _;by_cases jj:k<n
  ·have eM:0+(k:Int).toNat=k:=by omega
   have gp:(pZ k n)[0+(k:Int).toNat]? =some (if k<k then fz 0 else a0L):=by rw [eM];exact a6S jj
   conv=>whnf
   repeat' (first|refine zx ?_|refine z6 gp ?_|apply zD<;>intro h<;>try omega)<;>conv=>whnf
   all_goals first|omega|exact ⟨jj,trivial,[some 0],rfl,rfl,⟨K5 (b35 eM jj),trivial⟩,⟨rfl,rfl,rfl,⟨rfl,rfl,rfl,fun h=>h⟩,g9 om,trivial⟩⟩
  ·have hke:k=n:=by omega
   subst hke;conv=>whnf
   repeat' (first|refine zx ?_|apply zD<;>intro h<;>try omega)<;>conv=>whnf
   all_goals first|omega|exact ⟨[some 0],rfl,rfl,⟨K5 (by rw [aS3]),trivial⟩,⟨rfl,rfl,rfl,⟨rfl,rfl,rfl,fun h=>h⟩,trivial⟩⟩
 refine B4 g8 ([jT m n fr sc Z,eI n,eI c,J,J,J,J,S.c (C.own 0 0 n true)]++Jn 76) [flB (rF n x0)] ?_ ?_
 ·by_cases hf:D.F c<n
  ·have eC:0+((Z.F c:Nat):Int).toNat=D.F c:=by rw [eF];omega
   have gp:(rF n fun _=>(0:Rat))[0+((Z.F c:Nat):Int).toNat]? =some (fz 0):=by rw [eC,L5 hf]
   have e:rF n (fun j=>if j=D.F c then ((1:Int):Rat) else 0)=rF n x0:=by
    rw [hx0];exact F9 fun j hj=>by simp only [hf,true_and];rfl
   conv=>whnf
   repeat' (first|refine zx ?_|refine t7 rfl hc ?_|refine z6 gp ?_|apply zD<;>intro h<;>try omega)<;>conv=>whnf
   all_goals first|omega|exact ⟨[some 0],rfl,rfl,⟨K5 ((ay2 eC hf).trans (by rw [e])),trivial⟩,⟨rfl,rfl,rfl,⟨rfl,rfl,rfl,fun h=>h⟩,trivial⟩⟩
  ·have e:x0=fun _=>0:=by rw [hx0];funext j;rw [iC (fun h=>hf h.1)]
   conv=>whnf
   repeat' (first|refine zx ?_|refine t7 rfl hc ?_|apply zD<;>intro h<;>try omega)<;>conv=>whnf
   all_goals first|omega|exact ⟨[some 0],rfl,rfl,⟨K5 (by rw [e]),trivial⟩,⟨rfl,rfl,rfl,⟨rfl,rfl,rfl,fun h=>h⟩,trivial⟩⟩
 refine t4 g8 _ ?_;conv=>whnf
 repeat' (first|refine zx ?_|apply zD<;>intro h<;>try omega)<;>conv=>whnf
 refine k6 g8 (fun i=>([jT m n fr sc Z,eI n,eI c,J,J,J,J,S.c (C.own 0 0 n true),J,eI i]++Jn 74,[flB (rF n (ptK n D.O (fun i=>-(D.A i c)) x0 i))])) m tT [some 0] trivial
  ⟨rfl,rfl,⟨K5 rfl,trivial⟩,⟨rfl,rfl,rfl,⟨rfl,rfl,rfl,fun h=>h⟩,g9 rfl,trivial⟩⟩ ?_
 intro i hi _;by_cases jj:i<m
 ·have eO:Z.O i=D.O i:=by rw [hr.o]
  by_cases ho:D.O i<n
  ·have bA:=hB.a i jj c hc;have ng:=a69 (Z.A i c) om;have rt:=aT4 (-(Z.A i c)) Z.D hr.d (by rw [Z7];omega) om;rw [b8S hr.d (x:=-(D.A i c)) (by push_cast;rw [hr.a i jj c hc];grind)] at rt;have eIq:0+((Z.O i:Nat):Int).toNat=D.O i:=by rw [eO];omega
   have gp:(rF n (ptK n D.O (fun i=>-(D.A i c)) x0 i))[0+((Z.O i:Nat):Int).toNat]? =some (fz (ptK n D.O (fun i=>-(D.A i c)) x0 i (D.O i))):=by rw [eIq,L5 ho]
   have e:rF n (fun j=>if j=D.O i then -(D.A i c) else ptK n D.O (fun i=>-(D.A i c)) x0 i j)=rF n (ptK n D.O (fun i=>-(D.A i c)) x0 (i+1)):=by
    rw [L4];exact F9 fun j hj=>by simp only [ho,true_and]
   conv=>whnf
   repeat' (first|refine zx ?_|refine t7 rfl jj ?_|refine a21 rfl jj ?_|refine a13 rfl hc ?_|refine z6 gp ?_|apply zD<;>intro h<;>try omega)<;>conv=>whnf
   all_goals first|omega|exact ⟨jj,trivial,[some 0],rfl,rfl,⟨K5 ((ay2 eIq ho).trans (by rw [e])),trivial⟩,⟨rfl,rfl,rfl,⟨rfl,rfl,rfl,fun h=>h⟩,g9 om,trivial⟩⟩
  ·have e:ptK n D.O (fun i=>-(D.A i c)) x0 (i+1)=ptK n D.O (fun i=>-(D.A i c)) x0 i:=by rw [L4];funext j;rw [iC (fun h=>ho h.1)]
   conv=>whnf
   repeat' (first|refine zx ?_|refine t7 rfl jj ?_|apply zD<;>intro h<;>try omega)<;>conv=>whnf
   all_goals first|omega|exact ⟨jj,trivial,[some 0],rfl,rfl,⟨K5 (by rw [e]),trivial⟩,⟨rfl,rfl,rfl,⟨rfl,rfl,rfl,fun h=>h⟩,g9 om,trivial⟩⟩
 ·have hie:i=m:=by omega
  subst hie;conv=>whnf
  repeat' (first|refine zx ?_|apply zD<;>intro h<;>try omega)<;>conv=>whnf
  all_goals first|omega|exact N6 rfl (fun h=>h) rfl rfl (by simp [P7])
def b5Y {x y:Int}:Q5 x y=0↔x=y:=by unfold Q5;split<;>(try split)<;>omega
def b4P (f:Fr) (lp:f.p.dl.length<=200000) (lq:f.q.dl.length<=200000):ec 119 [frS f] [] (n7 (X5 f)) []:=by
 have ⟨p,q⟩:=f;simp only at lp lq;have r1:=a4X p om;have r2:=a4X q om;cases hp:M9 p with
 |false=>
  rw [hp] at r1;refine ac Tryz.func119 ?_;conv=>whnf
  repeat' (first|refine zx ?_|apply zD<;>intro<;>try omega)<;>conv=>whnf
  all_goals (first|(exfalso;simp_all;done)|(refine j6 ?_;unfold X5;simp [hp]))
 |true=>
  rw [hp] at r1;cases hq:M9 q with
  |false=>
   rw [hq] at r2;refine ac Tryz.func119 ?_;conv=>whnf
   repeat' (first|refine zx ?_|apply zD<;>intro<;>try omega)<;>conv=>whnf
   all_goals (first|(exfalso;simp_all;done)|(refine j6 ?_;unfold X5;simp [hq]))
  |true=>
   rw [hq] at r2;obtain ⟨x,rfl⟩:=aA0 hp;obtain ⟨y,rfl⟩:=aA0 hq;have hsg:(bz y).sg=y.sign:=rfl;have hsg2:(Fr.mk (bz x) (bz y)).q.sg=y.sign:=rfl;have sy:=G6 y;have lg:=ac6 x y lp lq;have g:=b93 x y lp lq;have o:=b69 1 de de;have c:=aG7 (Int.gcd x y) 1 om (by have:=w9 (x:=1) de de;omega);have hc:=b5Y (x:=Int.gcd x y) (y:=1);refine ac Tryz.func119 ?_;conv=>whnf
   repeat' (first|refine zx ?_|refine bl0 [5] ?_|apply zD<;>intro<;>try omega)<;>conv=>whnf
   all_goals first|(exfalso;simp_all;done)|(refine j6 ?_;unfold X5;simp only [a1h,a6i,P5];simp;omega)
def aF6 (x:Rat) (lx:rl x<=200000):ec 119 [frS (fz x)] [] (n7 true) []:=by
 have h:=b4P (fz x) (lbS (K9 x) lx) (lbS (K3 x) lx);rw [ap9] at h;exact h
def aq8 (x y:Rat):0<(x.den:Int)*y.den:=ac3 (by have:=x.den_pos;omega) (by have:=y.den_pos;omega)
def b4o (x y:Rat) (lx:rl x<=60000) (ly:rl y<=60000):ec 114 [frS (fz x),frS (fz y)] [] (.tup [frS (fz (x+y)),eI 0]) []:=by
 have r1:=aF6 x om;have r2:=aF6 y om;have x1:=K9 x;have x2:=K3 x;have y1:=K9 y;have y2:=K3 y;have l1:=I5 x.num y.den;have l2:=I5 y.num x.den;have l3:=I5 x.den y.den;have l4:=a8u (x.num*y.den) (y.num*x.den);have t1:=a9y x.num y.den om om;have t2:=a9y y.num x.den om om;have t3:=a9y x.den y.den om om;have a:=b9A (x.num*y.den) (y.num*x.den) om om;have n:=b11 (x.num*y.den+y.num*x.den) (x.den*y.den) (aq8 x y) om om;rw [← am9] at n;refine ac Tryz.func114 ?_;conv=>whnf
 repeat' (first|refine zx ?_|refine bl0 [7] ?_|refine bl0 [5] ?_|apply zD<;>intro<;>try omega)<;>conv=>whnf
 all_goals first|(exfalso;simp_all;done)|exact a0U rfl
def bA9 (x y:Rat) (lx:rl x<=60000) (ly:rl y<=60000):ec 113 [frS (fz x),frS (fz y)] [] (.tup [frS (fz (x - y)),eI 0]) []:=by
 have r1:=aF6 x om;have r2:=aF6 y om;have x1:=K9 x;have x2:=K3 x;have y1:=K9 y;have y2:=K3 y;have l1:=I5 x.num y.den;have l2:=I5 y.num x.den;have l3:=I5 x.den y.den;have l4:=a8u (x.num*y.den) (-(y.num*x.den));rw [Z7,←ad3] at l4;have t1:=a9y x.num y.den om om;have t2:=a9y y.num x.den om om;have t3:=a9y x.den y.den om om;have a:=bA1 (x.num*y.den) (y.num*x.den) om om;have n:=b11 (x.num*y.den - y.num*x.den) (x.den*y.den) (aq8 x y) om om;have e:Rat.divInt (x.num*y.den - y.num*x.den) (x.den*y.den)=x - y:=by
  have:=am9 x (-y);rw [az5,Rat.neg_den,Int.neg_mul,←ad3,←b3V] at this;exact this.symm
 rw [e] at n;refine ac Tryz.func113 ?_;conv=>whnf
 repeat' (first|refine zx ?_|refine bl0 [7] ?_|refine bl0 [5] ?_|apply zD<;>intro<;>try omega)<;>conv=>whnf
 all_goals first|(exfalso;simp_all;done)|exact a0U rfl
def bV1 (x y:Rat) (lx:rl x<=60000) (ly:rl y<=60000):ec 134 [frS (fz x),frS (fz y)] [] (.tup [frS (fz (x*y)),eI 0]) []:=by
 have r1:=aF6 x om;have r2:=aF6 y om;have x1:=K9 x;have x2:=K3 x;have y1:=K9 y;have y2:=K3 y;have l1:=I5 x.num y.num;have l3:=I5 x.den y.den;have t1:=a9y x.num y.num om om;have t3:=a9y x.den y.den om om;have n:=b11 (x.num*y.num) (x.den*y.den) (aq8 x y) om om;rw [← aS2] at n;refine ac Tryz.func134 ?_;conv=>whnf
 repeat' (first|refine zx ?_|refine bl0 [7] ?_|refine bl0 [5] ?_|apply zD<;>intro<;>try omega)<;>conv=>whnf
 all_goals first|(exfalso;simp_all;done)|exact a0U rfl
def ba7 (x:Rat) (lx:rl x<=60000):ec 115 [frS (fz x)] [] (eI (sgR x)) []:=by
 have r1:=aF6 x om;refine ac Tryz.func115 ?_;conv=>whnf
 repeat' (first|refine zx ?_|apply zD<;>intro<;>try omega)<;>conv=>whnf
 all_goals first|(exfalso;simp_all;done)|exact p9 (a9E x)
def ak5 (fr:LB) (sc:LI) (y:Nat->Rat) (i:Nat) (p q:Int):Nat->Rat:=fun k=>
 if k=(fr.getD i (0,false)).1 then (if (fr.getD i (0,false)).2 then y k+Rat.divInt (p*sc.getD i 0) q else y k - Rat.divInt (p*sc.getD i 0) q) else y k
def b8C {fr:LB} {sc:LI} {y:Nat->Rat} {i B:Nat} {p q:Int} (hq:0<q) (hy:∀k,rl (y k)<=B) (lp:bl p<=1000) (lq:bl q<=1002) (ls:∀i,bl (sc.getD i 0)<=10):∀k,rl (ak5 fr sc y i p q k)<=B+1020:=by
 intro k;have h1:=I5 p (sc.getD i 0);have h2:=ls i;have h3:=Y7 (p:=p*sc.getD i 0) (q:=q) om;have h4:=hy k;have h5:=a48 (y k) (Rat.divInt (p*sc.getD i 0) q);have h6:=aV4 (y k) (Rat.divInt (p*sc.getD i 0) q);unfold ak5;split
 ·split<;>omega
 ·omega
def ap0 (m n R i row B:Nat) (b:Bool) (fr:LB) (sc:LI) (Z:Zd) (y:Nat->Rat) (p q:Int) (hsc:sc.length=m) (hi:i<m) (hf:fr[i]? =some (row,b)) (hrow:row<R) (hq:0<q) (hy:∀k,rl (y k)<=B) (hB:B<=40000) (lp:bl p<=1000) (lq:bl q<=1002) (ls:∀i,bl (sc.getD i 0)<=10) (hm:m<=100000):
 ec 130 [jT m n fr sc Z,.c (.own 0 0 R true),eI i,bgS (bz p),bgS (bz q)] [flB (rF R y)] (.tup []) [flB (rF R (ak5 fr sc y i p q))]:=by
 have ⟨d,hd⟩:=@iA _ sc i om;have hdg:sc.getD i 0=d:=by rw [lbl,hd];rfl
 have hfg:fr.getD i (0,false)=(row,b):=by rw [lbl,hf];rfl
 have ld:=ls i;rw [hdg] at ld;have h1:=I5 p d;have h3:=Y7 (p:=p*d) (q:=q) om;have mu:=ao3 p d om om;have rt:=aT4 (p*d) q hq om om;have su:=bA9 (y row) (Rat.divInt (p*d) q) (by have:=hy row;omega) om;have ad:=b4o (y row) (Rat.divInt (p*d) q) (by have:=hy row;omega) om;have gs:(Y0 fr)[i]? =some (sg1 b):=by unfold Y0;rw [lba,hf];rfl
 have gi:(frI fr)[i]? =some (row:Int):=by unfold frI;rw [lba,hf];rfl
 have eR:0+(row:Int).toNat=row:=om;have gy:(rF R y)[0+(row:Int).toNat]? =some (fz (y row)):=by rw [eR,L5 hrow]
 have gd:((sc.map a00))[(i:Int).toNat]? =some (a00 d):=by rw [show (i:Int).toNat=i by omega,lba,hd];rfl
 have exd:∀{K:List T->Prop},K (a00 d)->∃row,0<=(i:Int)/\(sc.map a00)[(i:Int).toNat]? =some row/\K row:=fun k=>⟨_,om,gd,k⟩
 cases b with
 |false=>
  have e:(fun k=>if k=row then y row - Rat.divInt (p*d) q else y k)=ak5 fr sc y i p q:=by
   funext k;unfold ak5;rw [hfg,hdg];by_cases hk:k=row
   ·subst hk;rw [iB rfl,iB rfl];rfl
   ·rw [iC hk,iC hk]
  have gs:(Y0 fr)[i]? =some 1:=gs;refine ac Tryz.func130 ?_;conv=>whnf
  repeat' (first|refine zx ?_|refine exd ?_|refine N7 rfl gs ?_|refine N7 rfl gi ?_|refine z6 gy ?_|refine bl0 [14] ?_|apply zD<;>intro<;>try omega)<;>conv=>whnf
  all_goals first
   |omega
   |exact ⟨[some 0],rfl,rfl,⟨K5 ((ay2 eR hrow).trans (by rw [e])),trivial⟩,trivial⟩
 |true=>
  have e:(fun k=>if k=row then y row+Rat.divInt (p*d) q else y k)=ak5 fr sc y i p q:=by
   funext k;unfold ak5;rw [hfg,hdg];by_cases hk:k=row
   ·subst hk;rw [iB rfl,iB rfl];rfl
   ·rw [iC hk,iC hk]
  have gs:(Y0 fr)[i]? =some (-1):=gs;refine ac Tryz.func130 ?_;conv=>whnf
  repeat' (first|refine zx ?_|refine exd ?_|refine N7 rfl gs ?_|refine N7 rfl gi ?_|refine z6 gy ?_|refine bl0 [14] ?_|apply zD<;>intro<;>try omega)<;>conv=>whnf
  all_goals first|omega|exact ⟨[some 0],rfl,rfl,⟨K5 ((ay2 eR hrow).trans (by rw [e])),trivial⟩,trivial⟩
def prK (n:Nat) (fr:LB) (sc:LI) (F:Nat->Nat) (P:Nat->Int) (q:Int) (y0:Nat->Rat):Nat->Nat->Rat
 |0=>y0
 |k+1=>if n<=F k then ak5 fr sc (prK n fr sc F P q y0 k) (F k - n) (P k) q else prK n fr sc F P q y0 k
def b2B {n B0:Nat} {fr:LB} {sc:LI} {F:Nat->Nat} {P:Nat->Int} {q:Int} {y0:Nat->Rat} (hq:0<q) (h0:∀i,rl (y0 i)<=B0) (lq:bl q<=1002) (ls:∀i,bl (sc.getD i 0)<=10):∀k,(∀ j,j<k->bl (P j)<=1000)->∀i,rl (prK n fr sc F P q y0 k i)<=B0+k*1020
 |0,_,i=>by have:=h0 i;show rl (y0 i)<=_;omega
 |k+1,hP,i=>by
  have ih:=b2B (n:=n) (fr:=fr) (F:=F) (P:=P) hq h0 lq ls k fun j hj=>hP j om
  rw [prK];split
  ·have:=b8C (fr:=fr) (i:=F k - n) hq ih (hP k om) lq ls i;omega
  ·have:=ih i;omega
structure FrP (m R:Nat) (fr:LB) (sc:LI):Prop where
 lf:fr.length=m
 ls:sc.length=m
 r:∀f ∈ fr,f.1<R
 b:∀i,bl (sc.getD i 0)<=10
def b8q (m n R:Nat) (fr:LB) (sc:LI) (Z:Zd) (hF:FrP m R fr sc) (hB:ZB m n 1000 Z) (hd:0<Z.D) (hfb:∀j,j<n->Z.F j<n+m) (hm:m<=100000) (hn:n<=30) (hR:R<=1000):
 ec 90 [jT m n fr sc Z,eI n,eI R] [] (H9 (rF R (prK n fr sc Z.F (fun j=>-(Z.C j)) (Z.D*1) (fun _=>0) n))) []:=by
 have m1:(a04 n Z.F).length=n:=p4 _ _;have lD:=hB.d;have l1:bl 1<=1:=w9 de de;have lq:=I5 Z.D 1;have hq:0<Z.D*1:=om;have z0:∀H:Hp,H.length=0->a0x Tryz.prog 129 [eI R] H (.c (.own 0 0 R true)) [flB (rF R fun _=>0)]:=fun H hH=>by
  have:=a0m (H:=H) (b4k R hR) rfl rfl (j2 _);rwa [hH] at this
 have mq:=ao3 Z.D 1 om om;have r0:∀i:Nat,rl ((fun _=>(0:Rat)) i)<=1:=fun i=>rl0
 refine ac Tryz.func90 ?_;conv=>whnf
 repeat' (first|refine zx ?_|refine .inl ⟨_,_,z0 _ rfl,?_⟩|apply zD<;>intro h<;>try omega)<;>conv=>whnf
 refine k6 g8 (fun k=>([jT m n fr sc Z,eI n,J,J,J,J,J,S.c (C.own 0 0 R true),eI k]++Jn 50,[flB (rF R (prK n fr sc Z.F (fun j=>-(Z.C j)) (Z.D*1) (fun _=>0) k))])) n tT [some 0] trivial
  ⟨rfl,rfl,⟨K5 rfl,trivial⟩,⟨rfl,rfl,⟨rfl,rfl,rfl,fun h=>h⟩,g9 rfl,trivial⟩⟩ ?_
 intro k hk _;by_cases jj:k<n
 ·have hF1:=hfb k jj;have lc:=hB.c k jj;have ng:=a69 (Z.C k) om;have hy:=b2B (n:=n) (fr:=fr) (sc:=sc) (F:=Z.F) (P:=fun j=>-(Z.C j)) hq r0 om hF.b k (fun j hj=>by rw [Z7];exact hB.c j om);by_cases hge:n<=Z.F k
  ·obtain ⟨f,hf⟩:∃f,fr[Z.F k - n]? =some f:=⟨_,lbf (by have:=hF.lf;omega)⟩;have hfr:=hF.r f (lbm hf);have ch:=ap0 m n R (Z.F k - n) f.1 (1+k*1020) f.2 fr sc Z (prK n fr sc Z.F (fun j=>-(Z.C j)) (Z.D*1) (fun _=>0) k) (-(Z.C k)) (Z.D*1) hF.ls om hf hfr hq hy om (by rw [Z7];omega) om hF.b hm;rw [show (((Z.F k - n:Nat):Nat):Int)=(Z.F k:Int) - (n:Int) by omega] at ch;have e:prK n fr sc Z.F (fun j=>-(Z.C j)) (Z.D*1) (fun _=>0) (k+1)=ak5 fr sc (prK n fr sc Z.F (fun j=>-(Z.C j)) (Z.D*1) (fun _=>0) k) (Z.F k - n) (-(Z.C k)) (Z.D*1):=by rw [prK,iB hge]
   conv=>whnf
   repeat' (first|refine zx ?_|refine .inr ⟨_,_,ch,?_⟩|refine t7 rfl jj ?_|refine a13 rfl jj ?_|apply zD<;>intro h<;>try omega)<;>conv=>whnf
   all_goals first|omega|exact ⟨jj,trivial,[some 0],rfl,rfl,⟨K5 (by rw [e]),trivial⟩,⟨rfl,rfl,⟨rfl,rfl,rfl,fun h=>h⟩,g9 om,trivial⟩⟩
  ·have e:prK n fr sc Z.F (fun j=>-(Z.C j)) (Z.D*1) (fun _=>0) (k+1)=prK n fr sc Z.F (fun j=>-(Z.C j)) (Z.D*1) (fun _=>0) k:=by rw [prK,iC hge]
   conv=>whnf
   repeat' (first|refine zx ?_|refine t7 rfl jj ?_|apply zD<;>intro h<;>try omega)<;>conv=>whnf
   all_goals first|omega|exact ⟨jj,trivial,[some 0],rfl,rfl,⟨K5 (by rw [e]),trivial⟩,⟨rfl,rfl,⟨rfl,rfl,rfl,fun h=>h⟩,g9 om,trivial⟩⟩
 ·have hke:k=n:=by omega
  subst hke;conv=>whnf
  repeat' (first|refine zx ?_|apply zD<;>intro h<;>try omega)<;>conv=>whnf
  all_goals first|omega|exact N6 rfl (fun h=>h) rfl rfl (by simp [P7])
def rfY (n:Nat) (fr:LB) (sc:LI) (Z:Zd) (r:Nat):Nat->Rat:=if n<=Z.O r then ak5 fr sc (fun _=>0) (Z.O r - n) Z.D Z.D else fun _=>0
def aW8 (m n R r:Nat) (fr:LB) (sc:LI) (Z:Zd) (hF:FrP m R fr sc) (hB:ZB m n 1000 Z) (hd:0<Z.D) (hr:r<m) (hfb:∀j,j<n->Z.F j<n+m) (hob:∀i,i<m->Z.O i<n+m) (hm:m<=100000) (hn:n<=30) (hR:R<=1000):
 ec 87 [jT m n fr sc Z,eI n,eI R,eI r] [] (H9 (rF R (prK n fr sc Z.F (Z.A r) Z.D (rfY n fr sc Z r) n))) []:=by
 have m1:(a04 n Z.F).length=n:=p4 _ _;have lD:=hB.d;have z0:∀H:Hp,H.length=0->a0x Tryz.prog 129 [eI R] H (.c (.own 0 0 R true)) [flB (rF R fun _=>0)]:=fun H hH=>by
  have:=a0m (H:=H) (b4k R hR) rfl rfl (j2 _);rwa [hH] at this
 have r0:∀i:Nat,rl ((fun _=>(0:Rat)) i)<=1:=fun i=>rl0
 have ho1:=hob r hr;have hy0:∀i,rl (rfY n fr sc Z r i)<=1+1020:=by
  intro i;unfold rfY;split
  ·exact b8C hd r0 om om hF.b i
  ·have:=rl0;show rl 0<=_;omega
 (refine M6 g8 Tryz.func87 rfl de ?_;refine w8 g8 ?_;(conv=>whnf);repeat ((first|refine b0x ?_|refine zy ?_);conv=>whnf))
 repeat' (first|refine zx ?_|apply zD<;>intro h<;>try omega)<;>conv=>whnf
 (refine w8 g8 ?_;conv=>whnf)
 repeat' (first|refine zx ?_|refine .inl ⟨_,_,z0 _ rfl,?_⟩|apply zD<;>intro h<;>try omega)<;>conv=>whnf
 refine B4 g8 ([jT m n fr sc Z,eI n,J,eI r,J,J,J,J,J,S.c (C.own 0 0 R true)]++Jn 77) [flB (rF R (rfY n fr sc Z r))] ?_ ?_
 ·by_cases hge:n<=Z.O r
  ·obtain ⟨f,hf⟩:∃f,fr[Z.O r - n]? =some f:=⟨_,lbf (by have:=hF.lf;omega)⟩;have hfr:=hF.r f (lbm hf);have ch:=ap0 m n R (Z.O r - n) f.1 1 f.2 fr sc Z (fun _=>0) Z.D Z.D hF.ls om hf hfr hd r0 om om om hF.b hm;rw [show (((Z.O r - n:Nat):Nat):Int)=(Z.O r:Int) - (n:Int) by omega] at ch;have e:rfY n fr sc Z r=ak5 fr sc (fun _=>0) (Z.O r - n) Z.D Z.D:=iB hge;conv=>whnf
   repeat' (first|refine zx ?_|refine .inr ⟨_,_,ch,?_⟩|refine t7 rfl hr ?_|apply zD<;>intro h<;>try omega)<;>conv=>whnf
   all_goals first|omega|exact ⟨[some 0],rfl,rfl,⟨K5 (by rw [e]),trivial⟩,⟨rfl,rfl,rfl,⟨rfl,rfl,rfl,fun h=>h⟩,trivial⟩⟩
  ·have e:rfY n fr sc Z r=fun _=>0:=iC hge
   conv=>whnf
   repeat' (first|refine zx ?_|refine t7 rfl hr ?_|apply zD<;>intro h<;>try omega)<;>conv=>whnf
   all_goals first|omega|exact ⟨[some 0],rfl,rfl,⟨K5 (by rw [e]),trivial⟩,⟨rfl,rfl,rfl,⟨rfl,rfl,rfl,fun h=>h⟩,trivial⟩⟩
 refine t4 g8 _ ?_;conv=>whnf
 repeat' (first|refine zx ?_|apply zD<;>intro h<;>try omega)<;>conv=>whnf
 refine k6 g8 (fun k=>([jT m n fr sc Z,eI n,J,eI r,J,J,J,J,J,S.c (C.own 0 0 R true),eI k]++Jn 76,[flB (rF R (prK n fr sc Z.F (Z.A r) Z.D (rfY n fr sc Z r) k))])) n tT [some 0] trivial
  ⟨rfl,rfl,⟨K5 rfl,trivial⟩,⟨rfl,rfl,rfl,⟨rfl,rfl,rfl,fun h=>h⟩,g9 rfl,trivial⟩⟩ ?_
 intro k hk _;by_cases jj:k<n
 ·have hF1:=hfb k jj;have la:=hB.a r hr k jj;have hy:=b2B (n:=n) (fr:=fr) (sc:=sc) (F:=Z.F) (P:=Z.A r) hd hy0 om hF.b k (fun j hj=>hB.a r hr j om);by_cases hge:n<=Z.F k
  ·obtain ⟨f,hf⟩:∃f,fr[Z.F k - n]? =some f:=⟨_,lbf (by have:=hF.lf;omega)⟩;have hfr:=hF.r f (lbm hf);have ch:=ap0 m n R (Z.F k - n) f.1 (1+1020+k*1020) f.2 fr sc Z (prK n fr sc Z.F (Z.A r) Z.D (rfY n fr sc Z r) k) (Z.A r k) Z.D hF.ls om hf hfr hd hy om om om hF.b hm;rw [show (((Z.F k - n:Nat):Nat):Int)=(Z.F k:Int) - (n:Int) by omega] at ch;have e:prK n fr sc Z.F (Z.A r) Z.D (rfY n fr sc Z r) (k+1)=ak5 fr sc (prK n fr sc Z.F (Z.A r) Z.D (rfY n fr sc Z r) k) (Z.F k - n) (Z.A r k) Z.D:=by rw [prK,iB hge]
   conv=>whnf
   repeat' (first|refine zx ?_|refine .inr ⟨_,_,ch,?_⟩|refine t7 rfl jj ?_|refine a21 rfl hr ?_|refine a13 rfl jj ?_|apply zD<;>intro h<;>try omega)<;>conv=>whnf
   all_goals first|omega|exact ⟨jj,trivial,[some 0],rfl,rfl,⟨K5 (by rw [e]),trivial⟩,⟨rfl,rfl,rfl,⟨rfl,rfl,rfl,fun h=>h⟩,g9 om,trivial⟩⟩
  ·have e:prK n fr sc Z.F (Z.A r) Z.D (rfY n fr sc Z r) (k+1)=prK n fr sc Z.F (Z.A r) Z.D (rfY n fr sc Z r) k:=by rw [prK,iC hge]
   conv=>whnf
   repeat' (first|refine zx ?_|refine t7 rfl jj ?_|apply zD<;>intro h<;>try omega)<;>conv=>whnf
   all_goals first|omega|exact ⟨jj,trivial,[some 0],rfl,rfl,⟨K5 (by rw [e]),trivial⟩,⟨rfl,rfl,rfl,⟨rfl,rfl,rfl,fun h=>h⟩,g9 om,trivial⟩⟩
 ·have hke:k=n:=by omega
  subst hke;conv=>whnf
  repeat' (first|refine zx ?_|apply zD<;>intro h<;>try omega)<;>conv=>whnf
  all_goals first|omega|exact N6 rfl (fun h=>h) rfl rfl (by simp [P7])
def ag2 {n:Int}:∀{l:LI} {last:Int},(∀ (i:Nat) (x:Int),l[i]? =some x->last<x/\x<n)->(∀ (i:Nat) (x y:Int),l[i]? =some x->l[i+1]? =some y->x<y)->m8 last n (a3z l)=true
 |[],_,_,_=>rfl
 |a::r,last,h1,h2=>by
  show m8 last n ((a,((1:Int):Rat))::a3z r)=true;unfold m8;simp only [lbN,lbI];have h3:=h1 0 a rfl;refine ⟨⟨h3,de⟩,ag2 (fun i x hx=>?_) (fun i x y hx hy=>h2 (i+1) x y (by simpa using hx) (by simpa using hy))⟩;have h4:=h1 (i+1) x (by simpa using hx);refine ⟨?_,h4.2⟩;have key:∀(i:Nat) (x:Int),r[i]? =some x->a<x:=by
   intro i;induction i with
   |zero=>intro x hx;exact h2 0 a x rfl (by simpa using hx)
   |succ i ih=>
    intro x hx;obtain ⟨y,hy⟩:∃y,r[i]? =some y:=⟨_,lbf (by have:=(lbe.1 hx).1;omega)⟩;have:=ih y hy;have:=h2 (i+1) y x (by simpa using hy) (by simpa using hx);omega
  exact key i x hx
def a3O (t:j9) (h:Int):m8 (-1) (t.ev.moves.length:Nat) (I1 t h)=true:=by
 have ⟨a1,a2⟩:=aJ7 t.ev h (-1) 0 100000;exact ag2 (fun i x hx=>by have:=a1 i x hx;omega) a2
def aj2 (t:j9) (h:Int):I9 (I1 t h):=by
 intro u hu;obtain ⟨i,_,rfl⟩:=lbx.1 hu;exact ⟨1,rfl,w9 de de⟩
def a78 (t:j9) (h:Int):∀u ∈ I1 t h,0<=u.2:=by
 intro u hu;obtain ⟨i,_,rfl⟩:=lbx.1 hu;show (0:Rat)<=((1:Int):Rat)
 decide
def a3p {t:j9} {h:Int}:(J6 t.ev h (-1) 0 100000).length<=t.ev.moves.length:=by
 have:=E4 (a3O t h);have e:(I1 t h).length=(J6 t.ev h (-1) 0 100000).length:=by simp [I1,a3z]
 omega
noncomputable def a1n (t:j9) (kind:Int) (k:Nat):List a6u:=(List.range k).map fun i:Nat=>a2i (p7 t kind) (I1 t (i:Int)) (i:Int)
def a5x (t:j9) (kind:Int) (k:Nat):(a1n t kind k).length=k:=by simp [a1n]
def b0T (t:j9) (kind:Int) (k:Nat):a1n t kind (k+1)=a1n t kind k++[a2i (p7 t kind) (I1 t k) k]:=by simp [a1n,a8x]
abbrev bU3 (l:List a6u):T:=.sl 5 .any (l.map a6u.row)
abbrev b4I (l:List a6u):S:=.c (.t (bU3 l))
abbrev bM1 (l:List a6u):Blk:={ mode:=.live,elem:=116,size:=5,rows:=toC (l.map a6u.row),box:=false }
abbrev b9N (s:m7):Blk:={ mode:=.live,elem:=66,size:=2,rows:=[[.t (ti s.n),.t (a0h s.rows)]],box:=true }
def an8 (s:m7):L6 (b9N s).rows:=j2 [[ti s.n,a0h s.rows]]
def as1 (t:j9) (kind:Int) (hs:t.Sized) (h:a0b t kind≠0):ec 57 [trS t,eI kind] [] (.tup [b4I [],eI 1]) []:=by
 have sy:=a96 t kind hs;refine ac Tryz.func57 ?_;conv=>whnf
 repeat' (first|refine zx ?_|refine bl0 [5] ?_|apply zD<;>intro h<;>try omega)<;>conv=>whnf
 all_goals first|omega|exact n8 rz
def a9T (t:j9) (kind:Int) (hs:t.Sized) (ht:t5 t=0) (k0:0<=kind) (k1:kind<8) (hm:t.ev.moves.length<=8) (r:Nat) (hz:H8 (p7 t kind) []=.row r):
 ec 57 [trS t,eI kind] [] (.tup [b4I [],eI 15]) []:=by
 have sy:=a96 t kind hs;have hc:¬(t5 t≠0\/kind<0\/8<=kind):=om;have e1:a0b t kind=0:=iC hc;have e2:a66 t kind=p7 t kind:=iC hc;rw [e1,e2] at sy;have so:=a7Z (p7 t kind) _ _ r (O4 (kind:=kind) ht hm (g:=[]) rfl (fun t ht=>by cases ht)) hz;refine ac Tryz.func57 ?_;conv=>whnf
 repeat' (first|refine zx ?_|refine bl0 [5] ?_|apply zD<;>intro<;>try omega)<;>conv=>whnf
 all_goals first|omega|exact n8 rz
def aE7 (t:j9) (kind:Int) (hs:t.Sized) (ht:t5 t=0) (k0:0<=kind) (k1:kind<8) (hm:t.ev.moves.length<=8) (hh:Nat) (hhs:t.ev.hhs=hh) (h100:hh<=1000) (hz:H8 (p7 t kind) []=.best):
 ec 57 [trS t,eI kind] [] (.tup [b4I (a1n t kind hh),eI 0]) []:=by
 have sy:=a96 t kind hs;have hc:¬(t5 t≠0\/kind<0\/8<=kind):=om;have e1:a0b t kind=0:=iC hc;have e2:a66 t kind=p7 t kind:=iC hc;rw [e1,e2] at sy;have lz:=O4 (kind:=kind) ht hm (g:=[]) rfl (fun t ht=>by cases ht);have so:=a6c (p7 t kind) _ _ lz hz (fun v hv=>by have:=a9N lz v hv;omega)
 (refine ac Tryz.func57 ?_;(conv=>whnf);repeat ((first|refine b0x ?_|refine zy ?_);conv=>whnf))
 repeat' (first|refine zx ?_|refine bl0 [5] ?_|apply zD<;>intro h<;>try omega)<;>conv=>whnf
 all_goals try omega
 refine k6 g8 (fun k=>([J,J,S.c (C.t (T.ptr (trT t))),J,J,J,sP 0 0 0,J,J,J,J,S.c (C.own 1 0 k true)]++Jn 19++[eI hh,eI k]++Jn 13,[b9N (p7 t kind),bM1 (a1n t kind k)])) hh tT [some 0,none] trivial
  ⟨rfl,rfl,⟨j8 (an8 _),rz⟩,⟨m9 rfl,rz,rz,g9 hhs,g9 rfl,trivial⟩⟩ ?_
 intro k hk _;by_cases jj:k<hh
 ·have go:=bs3 t hs k (by have:=a3p (t:=t) (h:=k);omega);have eg:ai7 t k=I1 t k:=iB ⟨ht,om,om⟩;rw [eg] at go;have ve:=b6V (p7 t kind) (I1 t k) _ _ _ _ (b36 (kind:=kind) ht hm (a3O t k) (aj2 t k)) k (a78 t k) hz;have lA:k<=(bM1 (a1n t kind k)).rows.length:=by show k<=(toC _).length;simp [toC,a5x]
  conv=>whnf
  repeat' (first|refine zx ?_|refine v8 lA zu ?_|apply zD<;>intro h<;>try omega)<;>conv=>whnf
  all_goals first
   |omega
   |(refine ⟨jj,trivial,[some 0,some 2],rfl,rfl,⟨j8 (an8 _),i6 (rows:=(a1n t kind (k+1)).map a6u.row) rfl rfl rfl ?_ rfl,trivial⟩,⟨rfl,rz,⟨rfl,rfl,rfl,fun h=>h⟩,rfl,g9 om,trivial⟩⟩
     rw [b0T];exact O9 (f:=a6u.row) (x:=a2i (p7 t kind) (I1 t k) k) (a5x t kind k).symm)
 ·have hke:k=hh:=by omega
  subst hke;conv=>whnf
  repeat' (first|refine zx ?_|apply zD<;>intro h<;>try omega)<;>conv=>whnf
  all_goals first|omega|exact n8 ⟨(show VC _ (fun id=>L2 [] id=true) (C.own 1 0 k true) _ from v7 (k:=bM1 (a1n t kind k)) rfl rfl (fun h=>h) rfl rfl (by simp [a5x])),rz⟩
def bf6 {α:Type} {f:α->List T} {l:List α} {k:Nat} {u:α} (hu:l[k]? =some u) {Φ:List T->Prop} (h:Φ (f u)):
 ∃row,(0<=bif true then if 0 > ((k+1:Nat):Int) - 1 then 0 else ((k+1:Nat):Int) - 1 else if 0<((k+1:Nat):Int) - 1 then 0 else ((k+1:Nat):Int) - 1)/\
  (l.map f)[(bif true then if 0 > ((k+1:Nat):Int) - 1 then 0 else ((k+1:Nat):Int) - 1 else if 0<((k+1:Nat):Int) - 1 then 0 else ((k+1:Nat):Int) - 1).toNat]? =some row/\Φ row:=by
 have e:(bif true then if 0 > ((k+1:Nat):Int) - 1 then 0 else ((k+1:Nat):Int) - 1 else if 0<((k+1:Nat):Int) - 1 then 0 else ((k+1:Nat):Int) - 1)=(k:Int):=by
  show (if 0 > ((k+1:Nat):Int) - 1 then 0 else ((k+1:Nat):Int) - 1)=_;rw [iC om];omega
 rw [e];exact ⟨f u,om,by rw [lbY,lba,hu];rfl,h⟩
def a0t (l:List (Int × Rat)) (n:Int) (hl:l.length<=1000000) (hB:∀t ∈ l,rl t.2<=200):ec 84 [s6 l,eI n] [] (n7 (decide (0<=n) && m8 (-1) n l)) []:=by
 have m1:(l.map B9).length=l.length:=zq;by_cases h0:n<0
 ·rw [lbJ om,ac4];refine ac Tryz.func84 ?_;conv=>whnf
  repeat' (first|refine zx ?_|apply zD<;>intro h<;>try omega)<;>conv=>whnf
  all_goals first|omega|exact j6 rfl
 rw [lbH om,P5];refine ac Tryz.func84 ?_;conv=>whnf
 repeat' (first|refine zx ?_|apply zD<;>intro h<;>try omega)<;>conv=>whnf
 all_goals try omega
 refine k6 g8 (fun k=>([s6 l,eI n,J,J,J,eI k]++Jn 59,[])) l.length (fun k=>m8 (-1) n l=m8 (a4O l k) n (l.drop k)/\-1<=a4O l k) [] ⟨rfl,aC2 _⟩
  rz ?_
 rintro k hk ⟨hI,hJ⟩;by_cases jj:k<l.length
 ·have ⟨t,ht⟩:=iA jj;have ⟨v,c⟩:=t;have bc:=hB _ (lbm ht);simp only at bc;have rr:=aF6 c om;have sz:(fz c).p.sg=0↔c=0:=by
   show c.num.sign=0↔c=0;rw [b3B];exact Rat.num_eq_zero
  rw [a2a ht,m8] at hI;simp only at hI;by_cases hok:a4O l k<v/\v<n/\c≠0
  ·rw [lbH hok.1,lbH hok.2.1,lbH hok.2.2] at hI;simp only [P5] at hI;have hne:(fz (v,c).2).p.sg≠0:=fun h=>hok.2.2 (sz.1 h)
   have ⟨q1,q2,_⟩:=hok;cases k with
   |zero=>
    conv=>whnf
    repeat' (first|refine zx ?_|refine j4 ht ?_|apply zD<;>intro h<;>try omega)<;>conv=>whnf
    all_goals first
     |omega
     |exact ⟨jj,⟨by rw [a08 ht];exact hI,by rw [a08 ht];simp only;omega⟩,[],rz⟩
   |succ k=>
    have ⟨u,hu⟩:=@iA _ l k om;rw [a08 hu] at q1 hJ;conv=>whnf
    repeat' (first|refine zx ?_|refine j4 ht ?_|refine bf6 hu ?_|apply zD<;>intro h<;>try omega)<;>conv=>whnf
    all_goals first|omega|exact ⟨jj,⟨by rw [a08 ht];exact hI,by rw [a08 ht];simp only;omega⟩,[],rz⟩
  ·have hF:m8 (-1) n l=false:=by
    rw [hI];rw [← lbQ];simp only [lbN,lbI];exact fun h=>hok ⟨h.1.1.1,h.1.1.2,h.1.2⟩
   rw [hF];have hor:v<=a4O l k\/n<=v\/(fz (v,c).2).p.sg=0:=by
    by_cases q1:a4O l k<v
    ·by_cases q2:v<n
     ·refine .inr (.inr (sz.2 ?_));by_cases q3:c=0
      ·exact q3
      ·exact absurd ⟨q1,q2,q3⟩ hok
     ·exact .inr (.inl om)
    ·exact .inl om
   clear hI hok;cases k with
   |zero=>
    have e0:a4O l 0=-1:=rfl;conv=>whnf
    repeat' (first|refine zx ?_|refine j4 ht ?_|apply zD<;>intro h<;>try omega)<;>conv=>whnf
    all_goals first
     |omega
     |exact j6 rfl
   |succ k=>
    have ⟨u,hu⟩:=@iA _ l k om;rw [a08 hu] at hor;conv=>whnf
    repeat' (first|refine zx ?_|refine j4 ht ?_|refine bf6 hu ?_|apply zD<;>intro h<;>try omega)<;>conv=>whnf
    all_goals first|omega|exact j6 rfl
 ·rw [lbo om] at hI;have hI:m8 (-1) n l=true:=hI;rw [hI];conv=>whnf
  repeat' (first|refine zx ?_|apply zD<;>intro h<;>try omega)<;>conv=>whnf
  all_goals first|omega|exact j6 rfl
def bS1 (w:C7) (n:Int) (hl:w.terms.length<=1000000) (hB:∀t ∈ w.terms,rl t.2<=200) (hv:rl w.value<=200):ec 118 [aU0 w,eI n] [] (n7 (decide (0<=n) && A7 n w)) []:=by
 have rt:=a0t w.terms n hl hB;have rv:=aF6 w.value om;unfold A7;cases h1:decide (0<=n)<;>cases h2:m8 (-1) n w.terms<;>rw [h1,h2] at rt<;>
 ·refine ac Tryz.func118 ?_;conv=>whnf
  repeat' (first|refine zx ?_|apply zD<;>intro<;>try omega)<;>conv=>whnf
  all_goals first|(exfalso;simp_all;done)|(refine j6 ?_;simp;done)|(refine j6 ?_;simp;omega)
theorem am1 (s:m7) (hb:b2m s):e8 Tryz.prog 83 [W8 s] [] (n7 (q9 s)) []:=by
 have m1:(s.rows.map v6).length=s.rows.length:=by simp
 have l1:=hb.n0
 by_cases h0:¬(0<=s.n/\s.n<=1500/\s.rows.length<=6000)
 ·have e1:q9 s=false:=by
   unfold q9
   rw [← lbQ]
   simp only [lbN,lbI]
   exact fun h=>h0 ⟨h.1.1.1,h.1.1.2,h.1.2⟩
  rw [e1]
  (refine ac Tryz.func83 ?_;(conv=>whnf);repeat ((first|refine b0x ?_|refine zy ?_);conv=>whnf))
  repeat' (first|refine zx ?_|refine zd ?_ ?_<;>intro h<;>try omega|fail)<;>conv=>whnf
  all_goals first
   |omega
   |exact j6 rfl
 have ⟨c1,c2,c3⟩:=Decidable.not_not.1 h0
 have e1:q9 s=s.rows.all (A7 s.n):=by
  unfold q9
  rw [lbH c1,lbH c2,lbH c3];rfl
 rw [e1]
 clear h0
 (refine ac Tryz.func83 ?_;(conv=>whnf);repeat ((first|refine b0x ?_|refine zy ?_);conv=>whnf))
 repeat' (first|refine zx ?_|refine zd ?_ ?_<;>intro h<;>try omega|fail)<;>conv=>whnf
 all_goals try omega
 refine k6 g8 (fun k=>([J,S.c (C.t (T.ptr [ti s.n,a0h s.rows])),J,e7 .i64 k]++Jn 30,[])) s.rows.length (fun k=>(s.rows.take k).all (A7 s.n)=true) [] rfl
  ⟨rfl,rfl,trivial,⟨rfl,rfl,trivial⟩⟩ ?_
 intro k hk hI
 by_cases jj:k<s.rows.length
 ·have ⟨w,hw⟩:=iA jj
  have ⟨b1,b2,b3⟩:=hb.t w (lbm hw)
  have rt:=bS1 w s.n (by omega) b2 b3
  rw [lbH c1,P5] at rt
  cases hrt:A7 s.n w with
  |false=>
   rw [hrt] at rt
   rw [H3 hw hrt]
   conv=>whnf
   repeat' (first|refine zx ?_|refine qp rt ?_|refine j4 hw ?_|refine zd ?_ ?_<;>intro h<;>try omega|fail)<;>conv=>whnf
   all_goals first
    |omega
    |(exfalso;simp_all;done)
    |exact j6 rfl
  |true=>
   rw [hrt] at rt
   conv=>whnf
   repeat' (first|refine zx ?_|refine qp rt ?_|refine j4 hw ?_|refine zd ?_ ?_<;>intro h<;>try omega|fail)<;>conv=>whnf
   all_goals first
    |omega
    |(exfalso;simp_all;done)
    |exact ⟨jj,by rw [D5 hw,hI,hrt];rfl,[],rfl,rfl,trivial,⟨rfl,rfl,trivial⟩⟩
 ·rw [lbn (by omega)] at hI
  rw [hI]
  conv=>whnf
  repeat' (first|refine zx ?_|refine zd ?_ ?_<;>intro h<;>try omega|fail)<;>conv=>whnf
  all_goals first
   |omega
   |exact j6 rfl
def bh1 (z:List Fr) (hl:z.length<=1000000) (hd:∀f ∈ z,f.p.dl.length<=200000/\f.q.dl.length<=200000):ec 133 [H9 z] [] (n7 (z.all X5)) []:=by
 have m1:(z.map B3).length=z.length:=zq;refine ac Tryz.func133 ?_;conv=>whnf
 repeat' (first|refine zx ?_|apply zD<;>intro<;>try omega)<;>conv=>whnf
 refine k6 g8 (fun k=>([H9 z,J,J,eI k]++Jn 12,[])) z.length (fun k=>(z.take k).all X5=true) [] rfl
  rz ?_
 intro k hk hI;by_cases jj:k<z.length
 ·have ⟨f,hf⟩:=iA jj;have q:=hd f (lbm hf);have rr:=b4P f q.1 q.2;cases hff:X5 f with
  |true=>
   rw [hff] at rr;conv=>whnf
   repeat' (first|refine zx ?_|refine j4 hf ?_|apply zD<;>intro<;>try omega)<;>conv=>whnf
   all_goals first
    |omega
    |exact ⟨jj,by rw [D5 hf,hI,hff];rfl,[],rz⟩
  |false=>
   rw [hff] at rr;rw [H3 hf hff];conv=>whnf
   repeat' (first|refine zx ?_|refine j4 hf ?_|apply zD<;>intro<;>try omega)<;>conv=>whnf
   all_goals first|omega|exact j6 rfl
 ·rw [lbn om] at hI;rw [hI];conv=>whnf
  repeat' (first|refine zx ?_|apply zD<;>intro<;>try omega)<;>conv=>whnf
  all_goals first|omega|exact j6 rfl
def b7v (z:List Rat) (hl:z.length<=1000000) (hd:∀v ∈ z,rl v<=200000):ec 133 [H9 (z.map fz)] [] (n7 true) []:=by
 have pt:=bh1 (z.map fz) (by simpa using hl) (fun f hf=>by
  obtain ⟨x,hx,rfl⟩:=lbx.1 hf;have:=hd x hx;have a:=K9 x;have b:=K3 x;exact ⟨by show bl x.num<=_;omega,by show bl x.den<=_;omega⟩)
 rw [ac0] at pt;exact pt
def bh7 (l:List (Int × Rat)) (z:List Rat) (hl:l.length<=1000000) (h1:∀t ∈ l,rl t.2<=200) (h2:∀v ∈ z,rl v<=40000) (hS:∀k,rl (n9 (l.take k) z)<=60000) (hz:z.length<=1000000) (hr:m8 (-1) z.length l=true):
 ec 89 [s6 l,H9 (z.map fz)] [] (.tup [frS (fz (n9 l z)),n7 true]) []:=by
 have m1:(l.map B9).length=l.length:=zq;have m2:((z.map fz).map B3).length=z.length:=zq;have i0:=a61 0 de de;have rt:=a0t l z.length hl h1;rw [lbH om,hr] at rt;have rt2:ec 84 [s6 l,eI (((z.map fz).map B3).length:Nat)] [] (n7 (true && true)) []:=by rw [m2];exact rt
 have pt:=b7v z hz (fun v hv=>by have:=h2 v hv;omega);refine ac Tryz.func89 ?_;conv=>whnf
 repeat' (first|refine zx ?_|apply zD<;>intro<;>try omega)<;>conv=>whnf
 all_goals try (exfalso;simp_all;done)
 refine k6 g8 (fun k=>([s6 l,H9 (z.map fz),J,J,sP 0 0 0,J,sP 1 0 0,eI k]++Jn 44,[frB a0L,frB (fz (n9 (l.take k) z))])) l.length tT [some 0,some 1] trivial
  ⟨rfl,rfl,⟨⟨rfl,rfl,rfl,.inr rz⟩,⟨rfl,rfl,rfl,.inl ⟨rfl,a4f _⟩⟩,trivial⟩,rz⟩ ?_
 intro k hk _;by_cases jj:k<l.length
 ·have ⟨t,ht⟩:=iA jj;have ⟨v,c⟩:=t;have hv:=ad0 hr _ (lbm ht);simp only at hv;have bc:=h1 _ (lbm ht);simp only at bc;obtain ⟨x,hx⟩:∃x,z[v.toNat]? =some x:=⟨_,lbf om⟩;have hxd:z.getD v.toNat 0=x:=by rw [lbl,hx];rfl
  have bx:=h2 x (lbm hx);have b3:=aY3 c x;have bs:=hS k;have mu:=bV1 c x om om;have ad:=b4o (n9 (l.take k) z) (c*x) om om;have e:n9 (l.take k) z+c*x=n9 (l.take (k+1)) z:=by
   have:l.take (k+1)=l.take k++[(v,c)]:=by rw [lbG,ht];rfl
   rw [this,L0,←hxd]
  rw [e] at ad;have xz:(z.map fz)[v.toNat]? =some (fz x):=by rw [lba,hx];rfl
  conv=>whnf
  repeat' (first|refine zx ?_|refine j4 ht ?_|refine K6 om xz ?_|refine bl0 [16] ?_|refine bl0 [5] ?_|apply zD<;>intro<;>try omega)<;>conv=>whnf
  all_goals first|omega|exact ⟨jj,trivial,[some 0,some 1],rfl,rfl,⟨⟨rfl,rfl,rfl,.inl ⟨rfl,a4f _⟩⟩,⟨rfl,rfl,rfl,.inl ⟨rfl,a4f _⟩⟩,trivial⟩,rz⟩
 ·have hke:k=l.length:=by omega
  subst hke;rw [lbn (lbR _)];conv=>whnf
  repeat' (first|refine zx ?_|apply zD<;>intro<;>try omega)<;>conv=>whnf
  all_goals first|omega|exact n8 rz
abbrev bR4 (m n:Nat) (D:Int):Blk:={ mode:=.live,elem:=175,size:=12,rows:=[[C.own 2 0 m true,.own 3 0 m true,.own 4 0 n true,.t (ti (bz D).sg),.t (w5 (bz D).dl),.own 5 0 m true,.own 6 0 n true,.own 7 0 m true,.own 8 0 m true,.own 9 0 m true,.t (ti (bz 1).sg),.t (w5 (bz 1).dl)]],box:=true }
abbrev bE1 (m n:Nat) (fr:LB) (sc:LI) (Z:Zd) (b:Blk):Hp:=
 b::bR4 m n Z.D::zlB (zF m Z.V)::hdB 10 m n::zlB (zF n Z.C)::U7 m Z.O::U7 n Z.F::y3 (frI fr)::y3 (Y0 fr)::zlB sc::(mZ m n Z.A).map zlB
def bL0 {m n:Nat} {fr:LB} {sc:LI} {Z:Zd} {g:FuncId} {args:List S} (b:Blk) (ha:args.map (a65 [])=args) (hok:args.all (okS 0)=true) (h:ec g args [] (.c (.ptr 0 0 0)) (N3 m n fr sc Z [])):
 ec g args [b] (.c (.ptr 1 0 0)) (bE1 m n fr sc Z b):=by
 have hlen:(N3 m n fr sc Z []).length=m+9:=a0c;have hsub:(N3 m n fr sc Z []).length - ([]:Hp).length=m+9:=by rw [hlen];simp
 have g1:∀i,i<m+9->(a4E [] ([b]:Hp).length ((N3 m n fr sc Z []).length - ([]:Hp).length)).getD i 0=i+1:=fun i hi=>by
  rw [hsub];exact b5u hi
 refine W9 [] h ha.symm hok rfl aq7 zq (fun k hk=>by rw [(a1I k hk).1];intro h;cases h) zq rfl ?_ (by rw [hsub];simp [i5];omega) ?_ ?_
 ·show S.c (.ptr 1 0 0)=S.c (.ptr _ 0 0);rw [g1 0 om]
 ·intro i k hk;have hi:i<m+9:=by rw [← hlen];exact (lbe.1 hk).1
  rw [g1 i hi];rcases i with _|_|_|_|_|_|_|_|_|i
  ·injection hk with hk;subst hk
   refine ⟨_,rfl,rfl,rfl,rfl,rfl,?_⟩;simp only [a8q,az3,List.map_nil,a1X,a0C];rw [g1 1 om,g1 2 om,g1 3 om,g1 4 om,g1 5 om,g1 6 om,g1 7 om,g1 8 om]
  ·injection hk with hk;subst hk;exact ⟨_,rfl,E5 rfl⟩
  ·injection hk with hk;subst hk
   refine ⟨_,rfl,rfl,rfl,rfl,rfl,?_⟩;unfold a8q;show hdR 10 _ _=(hdR 9 _ _).map _;unfold hdR;rw [a75];refine lbp fun j hj=>?_
   have hj:=lbB.1 hj;show _=a1X _ [C.own (j+9) 0 n true];simp only [a1X,a0C];rw [g1 (j+9) om]
  ·injection hk with hk;subst hk;exact ⟨_,rfl,E5 rfl⟩
  ·injection hk with hk;subst hk;exact ⟨_,rfl,E5 rfl⟩
  ·injection hk with hk;subst hk;exact ⟨_,rfl,E5 rfl⟩
  ·injection hk with hk;subst hk;exact ⟨_,rfl,E5 rfl⟩
  ·injection hk with hk;subst hk;exact ⟨_,rfl,E5 rfl⟩
  ·injection hk with hk;subst hk;exact ⟨_,rfl,E5 rfl⟩
  ·have hk:((mZ m n Z.A).map zlB++[])[i]? =some k:=hk;rw [a05] at hk;refine ⟨k,hk,?_⟩;obtain ⟨l,_,rfl⟩:=lbx.1 (lbm hk);exact E5 rfl
 ·intro j hj _;have:j=0:=by simpa using hj
  subst this;rfl
def fSJ (m:Nat):Nat->Nat:=fun i=>if i<m+9 then i+1 else 0
def a4K {m n:Nat} {fr:LB} {sc:LI} {Z:Zd} {b:Blk} {env env':Env} {H:Hp} (hb:L6 b.rows) (hH:H=bE1 m n fr sc Z b) (hE:a0A (fR (m+10) (fSJ m)) H env env'):
 Ent 0 (fR (m+10) (fSJ m)) env H env' (N3 m n fr sc Z [b]):=by
 subst hH;have fa:∀i,i<m+9->fSJ m i=i+1:=fun i hi=>by unfold fSJ;rw [iB hi]
 have ff:∀i,i<m+9->(fR (m+10) (fSJ m))[i]? =some (some (i+1)):=fun i hi=>by rw [z9 om,fa i hi]
 refine ab3 (by simp [i5]) om (fun i hi=>om) (fun i j hi hj h=>by unfold fSJ at h;(repeat' split at h)<;>omega) ?_ hE;intro i k' hk;rcases i with _|_|_|_|_|_|_|_|_|i
 ·injection hk with hk;subst hk
  rw [fa 0 om];exact ⟨_,rfl,rfl,rfl,rfl,.inr ⟨⟨⟨ff _ om,rfl,rfl,fun h=>h⟩,⟨ff _ om,rfl,rfl,fun h=>h⟩,⟨ff _ om,rfl,rfl,fun h=>h⟩,rfl,rfl,⟨ff _ om,rfl,rfl,fun h=>h⟩,⟨ff _ om,rfl,rfl,fun h=>h⟩,⟨ff _ om,rfl,rfl,fun h=>h⟩,⟨ff _ om,rfl,rfl,fun h=>h⟩,⟨ff _ om,rfl,rfl,fun h=>h⟩,rz⟩,trivial⟩⟩
 ·injection hk with hk;subst hk;rw [fa 1 om];exact ⟨_,rfl,j8 (j2 _)⟩
 ·injection hk with hk;subst hk
  rw [fa 2 om];refine ⟨_,rfl,rfl,rfl,rfl,.inr (a2n (by show (hdR 10 m n).length=(hdR 9 m n).length;simp [E0]) fun i x y hx hy=>?_)⟩;have hx:(hdR 10 m n)[i]? =some x:=hx;have hy:(hdR 9 m n)[i]? =some y:=hy;have hi:i<m:=by have:=(lbe.1 hx).1;rwa [E0] at this
  rw [a9c hi] at hx hy;injection hx with hx;injection hy with hy
  subst hx hy;exact ⟨⟨ff _ om,rfl,rfl,fun h=>h⟩,trivial⟩
 ·injection hk with hk;subst hk;rw [fa 3 om];exact ⟨_,rfl,j8 (j2 _)⟩
 ·injection hk with hk;subst hk;rw [fa 4 om];exact ⟨_,rfl,j8 (j2 _)⟩
 ·injection hk with hk;subst hk;rw [fa 5 om];exact ⟨_,rfl,j8 (j2 _)⟩
 ·injection hk with hk;subst hk;rw [fa 6 om];exact ⟨_,rfl,j8 (j2 _)⟩
 ·injection hk with hk;subst hk;rw [fa 7 om];exact ⟨_,rfl,j8 (j2 _)⟩
 ·injection hk with hk;subst hk;rw [fa 8 om];exact ⟨_,rfl,j8 (j2 _)⟩
 ·have hk:((mZ m n Z.A).map zlB++[b])[i]? =some k':=hk;by_cases hi:i<m
  ·rw [J1 (a0E hi)] at hk;injection hk with hk;subst hk
   rw [fa _ om];refine ⟨zlB (zF n (Z.A i)),?_,j8 (j2 _)⟩;show ((mZ m n Z.A).map zlB)[i]? =_;rw [lba,a0E hi];rfl
  ·obtain ⟨t,rfl⟩:∃t,i=m+t:=⟨i - m,om⟩;rw [aS4] at hk;rcases t with _|t
   ·injection hk with hk;subst hk
    have:fSJ m (m+0+9)=0:=by unfold fSJ;rw [iC om]
    rw [this];exact ⟨_,rfl,j8 hb⟩
   ·simp at hk
def af8 {m n:Nat} {fr:LB} {sc:LI} {Z:Zd} {env env':Env} (b:Blk) (hb:L6 b.rows) (hE:a7U [some (m+9)] (N3 m n fr sc Z [b]) env env'):b92 0 [some (m+9)] env (N3 m n fr sc Z [b]) env' [b]:=by
 refine ⟨rfl,?_,a3T rfl fun i k' hk=>?_,hE⟩
 ·simp only [Z5,a5Y];cases b.mode<;>rfl
 ·rcases i with _|i
  ·injection hk with hk;subst hk
   exact ⟨m+9,_,rfl,aS4 (j:=0),j8 hb⟩
  ·simp at hk
structure LJ (s:m7) (g:List (Int × Rat)):Prop where
 sm:M7 s
 w:I9 g
 tg:m8 (-1) ((s.n.toNat:Nat):Int) g=true
def a8y {s:m7} (h:M7 s):LJ s []:=⟨h,(fun t ht=>by cases ht),rfl⟩
def bD9 {s:m7} {g:List (Int × Rat)} (h:LJ s g):bQ3 s g s.n.toNat:=⟨h.sm,h.tg,(X0 h.sm.r).symm,h.w⟩
abbrev Mj (s:m7):Nat:=(j0 (k8 s)).length
def b0i {s:m7} (h:M7 s):Mj s<=2000:=by
 have:=a1b (s:=k8 s) (k8 s).rows.length;have e:(k8 s).rows.length=s.rows.length:=lbr ..;have:=h.l;show (J8 (k8 s) (k8 s).rows.length).length<=2000;omega
noncomputable abbrev Zj (s:m7) (g:List (Int × Rat)) (D:Fd):Zd:=a0s (Mj s) (k8 s).n.toNat (k9 (k8 s) g) D
noncomputable abbrev aB9 (s:m7) (g:List (Int × Rat)) (D:Fd) (T:Hp):Hp:=N3 (Mj s) s.n.toNat (j0 (k8 s)) (scL s (j0 (k8 s))) (Zj s g D) T
def bf4 {s:m7} {g:List (Int × Rat)} (h:LJ s g):bN4 (Mj s) s.n.toNat (k9 (k8 s) g) (fun j=>-(L9 g j)):=by
 have hn:=X0 h.sm.r;have:=h.sm.n;refine ⟨by have:=b0i h.sm;omega,om,a9B,V3,fun D hD=>?_⟩;have ⟨h1,h2⟩:=b0u h.sm h.w hD;exact ⟨h1,fun i hi=>lbS (h2.v i hi) de,fun i hi j hj=>lbS (h2.a i hi j hj) de,fun j hj=>lbS (h2.c j hj) de,lbS h2.d de⟩
def bv6 {s:m7} {g:List (Int × Rat)} (h:LJ s g):e8 Tryz.prog 85 [W8 s,s6 g] [] (.c (.ptr 0 0 0)) (aB9 s g (k9 (k8 s) g) []):=by
 have op:=b9h s g s.n.toNat (bD9 h)
 have hD:=b2j h.sm h.w
 have e:K0 (Mj s) s.n.toNat s.n.toNat (j0 (k8 s)) (scL s (j0 (k8 s))) 1 (V0 s g) (C0 g g.length) (fun i=>s.n.toNat+i) (fun j=>j) (A0 s g) []=aB9 s g (k9 (k8 s) g) []:=by
  have hD':b3s (Mj s) (k8 s).n.toNat (k9 (k8 s) g) (k9 (k8 s) g)=1:=hD
  have e1:∀x:Rat,((((b3s (Mj s) (k8 s).n.toNat (k9 (k8 s) g) (k9 (k8 s) g):Int):Rat))*x).num=x.num:=fun x=>by
   rw [hD'];congr 1;show (1:Rat)*x=x;grind
  refine a7q (Z:=⟨V0 s g,A0 s g,C0 g g.length,1,fun i=>s.n.toNat+i,fun j=>j⟩) ⟨fun i _=>(e1 _).symm,fun i _ j _=>(e1 _).symm,fun j _=>(e1 _).symm,hD.symm,rfl,rfl⟩
 rw [e] at op
 exact op
def a2I {s:m7} {g:List (Int × Rat)} (h:LJ s g) (T:Hp):ec 86 [.c (.ptr 0 0 0)] (aB9 s g (k9 (k8 s) g) T) (.tup [eI (a73 (H8 (k8 s) g)).1,eI (a73 (H8 (k8 s) g)).2]) (aB9 s g (F8 (k8 s) g) T):=
 aM6 T (b3R _ _ _ _ _ _ (bf4 h) rfl (am6 ..)) (by simp [okS,okC,a1o]) rfl rfl
def aY6 {s:m7} {g:List (Int × Rat)} (h:LJ s g):b07 (Mj s) s.n.toNat (Zj s g (F8 (k8 s) g)) (F8 (k8 s) g)/\ZB (Mj s) s.n.toNat 1000 (Zj s g (F8 (k8 s) g))/\a03 (Mj s) s.n.toNat (F8 (k8 s) g):=by
 have ⟨h1,h2⟩:=(bf4 h).d _ (a3v V3).1;exact ⟨(a7A h1).2,h2,W6.p⟩
def b7D {s:m7} (h:M7 s):FrP (Mj s) s.rows.length (j0 (k8 s)) (scL s (j0 (k8 s))):=by
 refine ⟨rfl,am6 ..,fun f hf=>?_,fun i=>?_⟩
 ·have ⟨w,hw,_⟩:=Y8.1 hf;have:=(lbe.1 hw).1;have e:(k8 s).rows.length=s.rows.length:=lbr ..;omega
 ·have l0:bl 0<=1:=w9 de de;have l1:bl 1<=1:=w9 de de;have key:∀f:Nat × Bool,bl (b9m s f)<=10:=fun f=>by
   unfold b9m;cases hw:s.rows[f.1]? with
   |none=>show bl 1<=10;omega
   |some w=>
    have:=(a4p (h.i w (lbm hw)).2).1;have:=a1v w.value;have:=w9 (x:=(w.value.den:Int)) om om;show bl (w.value.den:Int)<=10;omega
  unfold scL;rw [lbl,lba];cases (j0 (k8 s))[i]? with
  |none=>show bl 0<=10;omega
  |some f=>exact key f
def ao0 {s:m7} (h:M7 s):b2m s:=by
 refine ⟨by have:=h.l;omega,fun w hw=>?_⟩;have ⟨k,hk,hkw⟩:=a0D hw;have hwk:s.rows[k]? =some w:=by rw [lbf hk,hkw]
 have hn:=X0 h.r;have hrw:=(a1t h.r hwk).1;rw [hn] at hrw;have hl:=E4 hrw;have:=h.n;have hI:=h.i w hw;have ⟨d1,d2⟩:=a4p hI.2;have d3:=a1v w.value;have b1:=w9 (x:=(w.value.den:Int)) om om;have b2:=U5 (x:=w.value.num) om om;exact ⟨om,fun t ht=>lbS (Q0 hI.1 t ht) de,by show max _ _<=200;omega⟩
abbrev b7o (o:bT3):S:=.agg (C.t (ti o.kind)::frC o.value++[C.t (V7 (o.X.map fz)),C.t (V7 (o.Y.map fz)),C.t (V7 (o.R.map fz))])
def af6 {s:m7} {g:List (Int × Rat)} {D:Fd} {T:Hp} {p:Nat->Prop} (hp:∀i,i<Mj s+9->p i):VY (aB9 s g D T) p (.ptr 0 0 0) (.ptr (bw8 (Mj s) s.n.toNat (j0 (k8 s)) (scL s (j0 (k8 s))) (Zj s g D))):=b7i rfl (am6 ..) hp
noncomputable abbrev dJ (s:m7) (g:List (Int × Rat)):S:=jT (Mj s) s.n.toNat (j0 (k8 s)) (scL s (j0 (k8 s))) (Zj s g (F8 (k8 s) g))
def b1T {s:m7} {g:List (Int × Rat)} (h:LJ s g):ec 88 [dJ s g,eI s.n] [] (H9 ((s8 (k8 s) g).map fz)) []:=by
 have ⟨h1,h2,h3⟩:=aY6 h;have hn:=X0 h.sm.r;have:=h.sm.n;have:=b0i h.sm;have pt:=bm7 (Mj s) s.n.toNat (j0 (k8 s)) (scL s (j0 (k8 s))) _ _ h1 h3 h2 om om;rw [hn] at pt;exact pt
def bH1 {s:m7} {g:List (Int × Rat)} (h:LJ s g) {c:Nat} (hc:c<s.n.toNat):ec 91 [dJ s g,eI s.n,eI c] [] (H9 ((a6x (k8 s) g c).map fz)) []:=by
 have ⟨h1,h2,h3⟩:=aY6 h;have hn:=X0 h.sm.r;have:=h.sm.n;have:=b0i h.sm;have pt:=bV2 (Mj s) s.n.toNat (j0 (k8 s)) (scL s (j0 (k8 s))) _ _ c hc h1 h3 h2 om om;rw [hn] at pt;exact pt
def b6e {s:m7} {g:List (Int × Rat)} (h:LJ s g):∃Y:List Rat,ec 90 [dJ s g,eI s.n,eI s.rows.length] [] (H9 (Y.map fz)) []:=by
 have ⟨h1,h2,h3⟩:=aY6 h;have hn:=X0 h.sm.r;have:=h.sm.n;have:=h.sm.l;have:=b0i h.sm;have pt:=b8q (Mj s) s.n.toNat s.rows.length _ _ _ (b7D h.sm) h2 h1.d (fun j hj=>by rw [h1.f];exact h3.fb j hj) om om om;rw [hn,←a3a] at pt;exact ⟨_,pt⟩
def a7T {s:m7} {g:List (Int × Rat)} (h:LJ s g) {r:Nat} (hr:r<Mj s):∃Y:List Rat,ec 87 [dJ s g,eI s.n,eI s.rows.length,eI r] [] (H9 (Y.map fz)) []:=by
 have ⟨h1,h2,h3⟩:=aY6 h;have hn:=X0 h.sm.r;have:=h.sm.n;have:=h.sm.l;have:=b0i h.sm;have pt:=aW8 (Mj s) s.n.toNat s.rows.length r _ _ _ (b7D h.sm) h2 h1.d hr (fun j hj=>by rw [h1.f];exact h3.fb j hj) (fun i hi=>by rw [h1.o];exact h3.ob i hi) om om om;rw [hn,←a3a] at pt;exact ⟨_,pt⟩
def a4x {s:m7} {g:List (Int × Rat)} (h:LJ s g) (b:Blk):ec 85 [W8 s,s6 g] [b] (.c (.ptr 1 0 0)) (bE1 (Mj s) s.n.toNat (j0 (k8 s)) (scL s (j0 (k8 s))) (Zj s g (k9 (k8 s) g)) b):=
 bL0 b (by simp [a65,a1X,a0C]) (by simp [okS,okC,okL]) (bv6 h)
def ap4 {P:Program} {g:FuncId} {x:S} {H H':Hp} {r:S} (h:e8 P g [x,s6 []] H r H'):e8 P g [x,.c (.t (.sl 0 .nil []))] H r H':=by
 refine a83 h rfl fun w ι M j a b v hx hy hr=>?_
 rcases j with _|_|j
 ·injection hx with hx;injection hy with hy;subst hx hy;exact hr
 ·injection hx with hx;injection hy with hy;subst hx hy
  cases hr with
  |c hr=>cases hr with
   |t hr=>exact .c (.t (hr.weak rfl))
 ·simp at hx
def aM1 (m:Nat):fSJ m (m+9)=0:=by unfold fSJ;rw [iC om]
def aK6 (m:Nat):fSJ m 0=1:=by unfold fSJ;rw [iB om]
def bk3 (s:m7) (g:List (Int × Rat)) (h:LJ s g) (hout:H8 (k8 s) g=.best):∃Y:List Rat,
 ec 54 [W8 s,s6 g] [] (.tup [b7o ⟨0,fz (n9 g (s8 (k8 s) g)),s8 (k8 s) g,Y,[]⟩,eI 0]) []:=by
 have lr:=am1 s (ao0 h.sm);rw [h.sm.r] at lr;have hn:=X0 h.sm.r;have hn9:=h.sm.n;have hgl:=E4 h.tg;have hg200:∀t ∈ g,rl t.2<=200:=fun t ht=>lbS (Q0 h.w t ht) de
 have rt:=a0t g s.n om hg200;rw [← hn,lbH om,h.tg,hn] at rt;have m1:(s.rows.map v6).length=s.rows.length:=zq;have op:=a4x h (bO z8);have se:=a2I h [bO z8];rw [hout] at se;have ⟨Y,pr⟩:=b6e h;rw [show s.rows.length=(s.rows.map v6).length from m1.symm] at pr;refine ⟨Y,?_⟩;have pt:=b1T h;have pl:(s8 (k8 s) g).length=s.n.toNat:=am7;have pb:=a6V h.sm h.w;have va:=bh7 g (s8 (k8 s) g) om hg200 (fun v hv=>lbS (pb v hv) de) (fun k=>by
  have:=a6b (Q0 h.w) pb k;have:g.length*(25+4)<=9*29:=lbT om (lbR _);omega) om (by rw [pl];exact h.tg)
 (refine M6 g8 Tryz.func54 rfl de ?_;refine w8 g8 ?_;(conv=>whnf);repeat ((first|refine b0x ?_|refine zy ?_);conv=>whnf))
 repeat' (first|refine zz ?_|refine b0x ?_|apply zD<;>intro h<;>try omega|refine zy ?_|fail)<;>conv=>whnf
 (refine w8 g8 ?_;conv=>whnf)
 repeat' (first|refine zx ?_|apply zD<;>intro h<;>try omega)<;>conv=>whnf
 all_goals try (exfalso;simp_all;done)
 refine B4 g8 ([J,s6 g,S.c (C.t (T.ptr (a1c s))),J,S.c (C.ptr (Mj s+9) 0 0),eI 0,sP 0 0 0]++Jn 86) (aB9 s g (k9 (k8 s) g) [bO z8]) ?_ ?_
 ·conv=>whnf
  repeat' (first|refine zx ?_|refine .inr ⟨_,_,op,?_⟩|refine G4 ?_|apply zD<;>intro h<;>try omega)<;>conv=>whnf
  exact ⟨_,a4K a4m rfl ⟨m9 rfl,m9 rfl,⟨by rw [z9 om,aM1],rz⟩,rfl,⟨by rw [z9 om,aK6],rz⟩,trivial⟩⟩
 refine a0f g8 ([J,s6 g,S.c (C.t (T.ptr (a1c s))),J,sP 0 0 0,eI 0,dJ s g,eI (-1),eI (-1)]++Jn 84) [bO z8] ?_ ?_
 ·conv=>whnf
  repeat' (first|refine zx ?_|refine .inr ⟨_,_,se,?_⟩|refine i7 ?_|refine bl0 [4] ?_|apply zD<;>intro h<;>try omega)<;>conv=>whnf
  exact ⟨_,af8 (bO z8) a4m ⟨.inl (m9 rfl),.inl (m9 rfl),.inl rz,.inl rfl,.inr (af6 fun i hi=>Z1 hi),.inl rfl,.inl rfl,trivial⟩⟩
 (refine w8 g8 ?_;conv=>whnf)
 repeat' (first|refine zx ?_|apply zD<;>intro h<;>try omega)<;>conv=>whnf
 all_goals try omega
 refine t4 g8 _ ?_;conv=>whnf
 repeat' (first|refine zx ?_|refine bl0 [4] ?_|refine bl0 [5] ?_|apply zD<;>intro h<;>try omega)<;>conv=>whnf
 all_goals first|omega|exact n8 rz
def bG0 (s:m7) (g:List (Int × Rat)) (r:Nat) (h:LJ s g) (hout:H8 (k8 s) g=.row r):∃Y:List Rat,
 ec 54 [W8 s,s6 g] [] (.tup [b7o ⟨1,a0L,[],Y,[]⟩,eI 0]) []:=by
 have lr:=am1 s (ao0 h.sm);rw [h.sm.r] at lr;have hn:=X0 h.sm.r;have hn9:=h.sm.n;have hgl:=E4 h.tg;have hg200:∀t ∈ g,rl t.2<=200:=fun t ht=>lbS (Q0 h.w t ht) de
 have rt:=a0t g s.n om hg200;rw [← hn,lbH om,h.tg,hn] at rt;have m1:(s.rows.map v6).length=s.rows.length:=zq;have op:=a4x h (bO z8);have se:=a2I h [bO z8];rw [hout] at se;have ⟨Y,pr⟩:=a7T h (r:=r) (a9O hout).1;rw [show s.rows.length=(s.rows.map v6).length from m1.symm] at pr;refine ⟨Y,?_⟩
 (refine M6 g8 Tryz.func54 rfl de ?_;refine w8 g8 ?_;(conv=>whnf);repeat ((first|refine b0x ?_|refine zy ?_);conv=>whnf))
 repeat' (first|refine zz ?_|refine b0x ?_|apply zD<;>intro h<;>try omega|refine zy ?_|fail)<;>conv=>whnf
 (refine w8 g8 ?_;conv=>whnf)
 repeat' (first|refine zx ?_|apply zD<;>intro h<;>try omega)<;>conv=>whnf
 all_goals try (exfalso;simp_all;done)
 refine B4 g8 ([J,s6 g,S.c (C.t (T.ptr (a1c s))),J,S.c (C.ptr (Mj s+9) 0 0),eI 0,sP 0 0 0]++Jn 86) (aB9 s g (k9 (k8 s) g) [bO z8]) ?_ ?_
 ·conv=>whnf
  repeat' (first|refine zx ?_|refine .inr ⟨_,_,op,?_⟩|refine G4 ?_|apply zD<;>intro h<;>try omega)<;>conv=>whnf
  exact ⟨_,a4K a4m rfl ⟨m9 rfl,m9 rfl,⟨by rw [z9 om,aM1],rz⟩,rfl,⟨by rw [z9 om,aK6],rz⟩,trivial⟩⟩
 refine a0f g8 ([J,s6 g,S.c (C.t (T.ptr (a1c s))),J,sP 0 0 0,eI 0,dJ s g,eI r,eI (-1)]++Jn 84) [bO z8] ?_ ?_
 ·conv=>whnf
  repeat' (first|refine zx ?_|refine .inr ⟨_,_,se,?_⟩|refine i7 ?_|refine bl0 [4] ?_|apply zD<;>intro h<;>try omega)<;>conv=>whnf
  exact ⟨_,af8 (bO z8) a4m ⟨.inl (m9 rfl),.inl (m9 rfl),.inl rz,.inl rfl,.inr (af6 fun i hi=>Z1 hi),.inl rfl,.inl rfl,trivial⟩⟩
 refine t4 g8 _ ?_;conv=>whnf
 repeat' (first|refine zx ?_|apply zD<;>intro h<;>try omega)<;>conv=>whnf
 all_goals first|omega|exact n8 rz
def bn4 (s:m7) (g:List (Int × Rat)) (c:Nat) (h:LJ s g) (hout:H8 (k8 s) g=.col c) (hout0:H8 (k8 s) []=.best):
 ec 54 [W8 s,s6 g] [] (.tup [b7o ⟨2,a0L,s8 (k8 s) [],[],a6x (k8 s) g c⟩,eI 0]) []:=by
 have lr:=am1 s (ao0 h.sm);rw [h.sm.r] at lr;have hn:=X0 h.sm.r;have hn9:=h.sm.n;have hgl:=E4 h.tg;have hg200:∀t ∈ g,rl t.2<=200:=fun t ht=>lbS (Q0 h.w t ht) de
 have rt:=a0t g s.n om hg200;rw [← hn,lbH om,h.tg,hn] at rt;have m1:(s.rows.map v6).length=s.rows.length:=zq;have op:=a4x h (bO z8);have se:=a2I h [bO z8];rw [hout] at se;have op0:=ap4 (a4x (a8y h.sm) (bO z8));have se0:=a2I (a8y h.sm) [bO z8];rw [hout0] at se0;have hc:c<s.n.toNat:=(a74 hout).1;have pt:=b1T (a8y h.sm);have ra:=bH1 h hc
 (refine M6 g8 Tryz.func54 rfl de ?_;refine w8 g8 ?_;(conv=>whnf);repeat ((first|refine b0x ?_|refine zy ?_);conv=>whnf))
 repeat' (first|refine zz ?_|refine b0x ?_|apply zD<;>intro h<;>try omega|refine zy ?_|fail)<;>conv=>whnf
 (refine w8 g8 ?_;conv=>whnf)
 repeat' (first|refine zx ?_|apply zD<;>intro h<;>try omega)<;>conv=>whnf
 all_goals try (exfalso;simp_all;done)
 refine B4 g8 ([J,s6 g,S.c (C.t (T.ptr (a1c s))),J,S.c (C.ptr (Mj s+9) 0 0),eI 0,sP 0 0 0]++Jn 86) (aB9 s g (k9 (k8 s) g) [bO z8]) ?_ ?_
 ·conv=>whnf
  repeat' (first|refine zx ?_|refine .inr ⟨_,_,op,?_⟩|refine G4 ?_|apply zD<;>intro h<;>try omega)<;>conv=>whnf
  exact ⟨_,a4K a4m rfl ⟨m9 rfl,m9 rfl,⟨by rw [z9 om,aM1],rz⟩,rfl,⟨by rw [z9 om,aK6],rz⟩,trivial⟩⟩
 refine a0f g8 ([J,s6 g,S.c (C.t (T.ptr (a1c s))),J,sP 0 0 0,eI 0,dJ s g,eI (-1),eI c]++Jn 84) [bO z8] ?_ ?_
 ·conv=>whnf
  repeat' (first|refine zx ?_|refine .inr ⟨_,_,se,?_⟩|refine i7 ?_|refine bl0 [4] ?_|apply zD<;>intro h<;>try omega)<;>conv=>whnf
  exact ⟨_,af8 (bO z8) a4m ⟨.inl (m9 rfl),.inl (m9 rfl),.inl rz,.inl rfl,.inr (af6 fun i hi=>Z1 hi),.inl rfl,.inl rfl,trivial⟩⟩
 (refine w8 g8 ?_;conv=>whnf)
 repeat' (first|refine zx ?_|apply zD<;>intro h<;>try omega)<;>conv=>whnf
 all_goals try omega
 (refine w8 g8 ?_;conv=>whnf)
 repeat' (first|refine zx ?_|apply zD<;>intro h<;>try omega)<;>conv=>whnf
 all_goals try omega
 refine B4 g8 ([J,s6 g,S.c (C.t (T.ptr (a1c s))),J,S.c (C.ptr (Mj s+9) 0 0),eI 0,dJ s g,J,eI c,J,J,J,sP 0 0 0]++Jn 80) (aB9 s [] (k9 (k8 s) []) [bO z8]) ?_ ?_
 ·conv=>whnf
  repeat' (first|refine zx ?_|refine .inr ⟨_,_,op0,?_⟩|refine G4 ?_|apply zD<;>intro h<;>try omega)<;>conv=>whnf
  exact ⟨_,a4K a4m rfl ⟨m9 rfl,m9 rfl,⟨by rw [z9 om,aM1],rz⟩,rfl,m9 rfl,rfl,⟨by rw [z9 om,aK6],rz⟩,trivial⟩⟩
 refine a0f g8 ([J,s6 g,S.c (C.t (T.ptr (a1c s))),J,sP 0 0 0,eI 0,dJ s g,eI (-1),eI c,J,J,J,dJ s []]++Jn 80) [bO z8] ?_ ?_
 ·conv=>whnf
  repeat' (first|refine zx ?_|refine .inr ⟨_,_,se0,?_⟩|refine i7 ?_|refine bl0 [4] ?_|apply zD<;>intro h<;>try omega)<;>conv=>whnf
  exact ⟨_,af8 (bO z8) a4m ⟨.inl (m9 rfl),.inl (m9 rfl),.inl rz,.inl rfl,.inl (m9 rfl),.inl rfl,.inl rfl,.inr (af6 fun i hi=>Z1 hi),trivial⟩⟩
 refine t4 g8 _ ?_;conv=>whnf
 repeat' (first|refine zx ?_|apply zD<;>intro h<;>try omega)<;>conv=>whnf
 all_goals first|omega|exact n8 rz
def bw3 (s:m7) (g:List (Int × Rat)) (c r:Nat) (h:LJ s g) (hout:H8 (k8 s) g=.col c) (hout0:H8 (k8 s) []=.row r):∃Y:List Rat,
 ec 54 [W8 s,s6 g] [] (.tup [b7o ⟨1,a0L,[],Y,[]⟩,eI 0]) []:=by
 have lr:=am1 s (ao0 h.sm);rw [h.sm.r] at lr;have hn:=X0 h.sm.r;have hn9:=h.sm.n;have hgl:=E4 h.tg;have hg200:∀t ∈ g,rl t.2<=200:=fun t ht=>lbS (Q0 h.w t ht) de
 have rt:=a0t g s.n om hg200;rw [← hn,lbH om,h.tg,hn] at rt;have m1:(s.rows.map v6).length=s.rows.length:=zq;have op:=a4x h (bO z8);have se:=a2I h [bO z8];rw [hout] at se;have op0:=ap4 (a4x (a8y h.sm) (bO z8));have se0:=a2I (a8y h.sm) [bO z8];rw [hout0] at se0;have ⟨Y,pr⟩:=a7T (a8y h.sm) (r:=r) (a9O hout0).1;rw [show s.rows.length=(s.rows.map v6).length from m1.symm] at pr;refine ⟨Y,?_⟩
 (refine M6 g8 Tryz.func54 rfl de ?_;refine w8 g8 ?_;(conv=>whnf);repeat ((first|refine b0x ?_|refine zy ?_);conv=>whnf))
 repeat' (first|refine zz ?_|refine b0x ?_|apply zD<;>intro h<;>try omega|refine zy ?_|fail)<;>conv=>whnf
 (refine w8 g8 ?_;conv=>whnf)
 repeat' (first|refine zx ?_|apply zD<;>intro h<;>try omega)<;>conv=>whnf
 all_goals try (exfalso;simp_all;done)
 refine B4 g8 ([J,s6 g,S.c (C.t (T.ptr (a1c s))),J,S.c (C.ptr (Mj s+9) 0 0),eI 0,sP 0 0 0]++Jn 86) (aB9 s g (k9 (k8 s) g) [bO z8]) ?_ ?_
 ·conv=>whnf
  repeat' (first|refine zx ?_|refine .inr ⟨_,_,op,?_⟩|refine G4 ?_|apply zD<;>intro h<;>try omega)<;>conv=>whnf
  exact ⟨_,a4K a4m rfl ⟨m9 rfl,m9 rfl,⟨by rw [z9 om,aM1],rz⟩,rfl,⟨by rw [z9 om,aK6],rz⟩,trivial⟩⟩
 refine a0f g8 ([J,s6 g,S.c (C.t (T.ptr (a1c s))),J,sP 0 0 0,eI 0,dJ s g,eI (-1),eI c]++Jn 84) [bO z8] ?_ ?_
 ·conv=>whnf
  repeat' (first|refine zx ?_|refine .inr ⟨_,_,se,?_⟩|refine i7 ?_|refine bl0 [4] ?_|apply zD<;>intro h<;>try omega)<;>conv=>whnf
  exact ⟨_,af8 (bO z8) a4m ⟨.inl (m9 rfl),.inl (m9 rfl),.inl rz,.inl rfl,.inr (af6 fun i hi=>Z1 hi),.inl rfl,.inl rfl,trivial⟩⟩
 (refine w8 g8 ?_;conv=>whnf)
 repeat' (first|refine zx ?_|apply zD<;>intro h<;>try omega)<;>conv=>whnf
 all_goals try omega
 (refine w8 g8 ?_;conv=>whnf)
 repeat' (first|refine zx ?_|apply zD<;>intro h<;>try omega)<;>conv=>whnf
 all_goals try omega
 refine B4 g8 ([J,s6 g,S.c (C.t (T.ptr (a1c s))),J,S.c (C.ptr (Mj s+9) 0 0),eI 0,dJ s g,J,eI c,J,J,J,sP 0 0 0]++Jn 80) (aB9 s [] (k9 (k8 s) []) [bO z8]) ?_ ?_
 ·conv=>whnf
  repeat' (first|refine zx ?_|refine .inr ⟨_,_,op0,?_⟩|refine G4 ?_|apply zD<;>intro h<;>try omega)<;>conv=>whnf
  exact ⟨_,a4K a4m rfl ⟨m9 rfl,m9 rfl,⟨by rw [z9 om,aM1],rz⟩,rfl,m9 rfl,rfl,⟨by rw [z9 om,aK6],rz⟩,trivial⟩⟩
 refine a0f g8 ([J,s6 g,S.c (C.t (T.ptr (a1c s))),J,sP 0 0 0,eI 0,dJ s g,eI r,eI c,J,J,J,dJ s []]++Jn 80) [bO z8] ?_ ?_
 ·conv=>whnf
  repeat' (first|refine zx ?_|refine .inr ⟨_,_,se0,?_⟩|refine i7 ?_|refine bl0 [4] ?_|apply zD<;>intro h<;>try omega)<;>conv=>whnf
  exact ⟨_,af8 (bO z8) a4m ⟨.inl (m9 rfl),.inl (m9 rfl),.inl rz,.inl rfl,.inl (m9 rfl),.inl rfl,.inl rfl,.inr (af6 fun i hi=>Z1 hi),trivial⟩⟩
 refine t4 g8 _ ?_;conv=>whnf
 repeat' (first|refine zx ?_|apply zD<;>intro h<;>try omega)<;>conv=>whnf
 all_goals first|omega|exact n8 rz
def aJ1 (s:m7) (g:List (Int × Rat)) (h:LJ s g):∃o,bq7 s g o/\ec 54 [W8 s,s6 g] [] (.tup [b7o o,eI 0]) []:=by
 rcases a4C (k8 s) g with hb|⟨r,hr⟩|⟨c,hc⟩
 ·have ⟨Y,hY⟩:=bk3 s g h hb;exact ⟨_,b91 h.sm h.w h.tg hb Y,hY⟩
 ·have ⟨Y,hY⟩:=bG0 s g r h hr;exact ⟨_,b4v g hr Y,hY⟩
 ·rcases a4C (k8 s) [] with hb|⟨r,hr⟩|⟨c',hc'⟩
  ·exact ⟨_,bv7 h.sm h.w h.tg hc hb,bn4 s g c h hc hb⟩
  ·have ⟨Y,hY⟩:=bw3 s g c r h hc hr;exact ⟨_,b4v [] hr Y,hY⟩
  ·exact absurd hc' (bn6 (by rw [a6q];exact h.sm.r))
def a1l (s:m7) (h:M7 s):∃b:Bool,(b=true↔∃z,k7 s z=true)/\ec 29 [W8 s] [] (n7 b) []:=by
 have ⟨o,ho,hc⟩:=aJ1 s [] (a8y h);have hc:=ap4 hc;refine ⟨decide (o.kind=0),?_,?_⟩
 ·rw [lbI];constructor
  ·intro e;exact ⟨_,(ho.found e).1⟩
  ·rintro ⟨z,hz⟩;rcases ho.k with e|e|e
   ·exact e
   ·rw [ho.none e z] at hz;cases hz
   ·have:=(ho.free e).2.2;rw [aq5] at this;exact absurd this zk
 ·refine ac Tryz.func29 ?_;conv=>whnf
  repeat' (first|refine zx ?_|refine bl0 [5] ?_|apply zD<;>intro h<;>try omega)<;>conv=>whnf
  all_goals first|omega|(refine j6 ?_;simp_all)
structure PtB (s:m7) (z:List Rat):Prop where
 v:∀v ∈ z,rl v<=40000
 S:∀w ∈ s.rows,∀k,rl (n9 (w.terms.take k) z)<=50000
 l:z.length<=1000000
def b7S (s:m7) (hb:b2m s) (hr:q9 s=true) (Z:List Rat) (hp:PtB s Z):
 ec 74 [W8 s,H9 (Z.map fz)] [] (n7 (k7 s Z)) []:=by
 have m1:(s.rows.map v6).length=s.rows.length:=zq;have m2:((Z.map fz).map B3).length=Z.length:=zq;have l1:=hb.n0;have l2:=hp.l;have lr:=a90 s hb;rw [hr] at lr;have pt:=b50 (Z.map fz) (by simpa using hp.l) (fun f hf=>by
  obtain ⟨x,hx,rfl⟩:=lbx.1 hf;have:=hp.v x hx;have a:=K9 x;have b:=K3 x;exact ⟨by show bl x.num<=_;omega,by show bl x.den<=_;omega⟩)
 rw [ac0] at pt;by_cases hn:(Z.length:Int)≠s.n
 ·have e2:k7 s Z=false:=by unfold k7;rw [lbJ hn];simp
  rw [e2]
  (refine ac Tryz.func74 ?_;(conv=>whnf);repeat ((first|refine b0x ?_|refine zy ?_);conv=>whnf))
  repeat' (first|refine zx ?_|apply zD<;>intro h<;>try omega)<;>conv=>whnf
  all_goals first|omega|exact j6 rfl
 have hn:(Z.length:Int)=s.n:=om;have e2:k7 s Z=(Z.all (fun v=>decide (0<=v)) && s.rows.all (fun w=>a0w w Z)):=by unfold k7;rw [hr,lbH hn];simp
 rw [e2]
 (refine ac Tryz.func74 ?_;(conv=>whnf);repeat ((first|refine b0x ?_|refine zy ?_);conv=>whnf))
 repeat' (first|refine zx ?_|apply zD<;>intro h<;>try omega)<;>conv=>whnf
 all_goals try omega
 refine k6 g8 (fun k=>([J,H9 (Z.map fz),S.c (C.t (T.ptr [ti s.n,a0h s.rows]))]++Jn 22++[H9 (Z.map fz),eI Z.length,eI k]++Jn 38,[])) Z.length (fun k=>(Z.take k).all (fun v=>decide (0<=v))=true) [] rfl
  ⟨rfl,rfl,trivial,⟨rfl,rfl,rfl,g9 zq,rz⟩⟩ ?_
 intro k hk hI;by_cases jj:k<Z.length
 ·have ⟨x,hx⟩:=iA jj;have bx:=hp.v x (lbm hx);have sg:=a2C x om;have sn:=bl2 (x:=x);conv=>whnf
  repeat' (first|refine zx ?_|refine j4 (b9s Z hx) ?_|apply zD<;>intro h<;>try omega)<;>conv=>whnf
  all_goals first
   |omega
   |(have h0:¬sgR x<0:=by omega
     exact ⟨jj,by rw [D5 hx,hI];simpa using lb4.1 (fun h=>h0 (sn.2 h)),[],rz⟩)
   |(have h0:sgR x<0:=by omega
     have hF:Z.all (fun v=>decide (0<=v))=false:=H3 hx (lbJ (Rat.not_le.2 (sn.1 h0)));refine j6 ?_;rw [hF];rfl)
 ·have hA:Z.all (fun v=>decide (0<=v))=true:=by rw [← hI,lbn om]
  rw [hA,P5];conv=>whnf
  repeat' (first|refine zx ?_|apply zD<;>intro h<;>try omega)<;>conv=>whnf
  all_goals try omega
  clear hI jj hk;refine k6 g8 (fun k=>([J,H9 (Z.map fz)]++Jn 34++[S.c (C.t (a0h s.rows)),eI s.rows.length,eI k]++Jn 27,[])) s.rows.length (fun k=>(s.rows.take k).all (fun w=>a0w w Z)=true) [] rfl
   ⟨rfl,rfl,trivial,⟨rfl,rfl,g9 zq,rz⟩⟩ ?_
  intro k hk hI;by_cases jj:k<s.rows.length
  ·have ⟨w,hw⟩:=iA jj;have ⟨b1,b2,b3⟩:=hb.t w (lbm hw);have hrw:A7 s.n w=true:=by
    unfold q9 at hr;simp only [lbN,lbv] at hr;exact hr.2 w (lbm hw)
   have hrt:m8 (-1) Z.length w.terms=true:=by
    unfold A7 at hrw;simp only [lbN] at hrw;rw [hn];exact hrw.1.1
   have hS:=hp.S w (lbm hw);have va:=b1w w.terms Z om (fun t ht=>by have:=b2 t ht;omega) hp.v (fun k=>by have:=hS k;omega) om hrt;have bv:=hS w.terms.length;rw [lbn (lbR _)] at bv;have c:=aC6 (n9 w.terms Z) w.value om om;have k1:=aV7 (x:=n9 w.terms Z) (y:=w.value);have k2:=b9i (x:=n9 w.terms Z) (y:=w.value);have hro:=a4H (w:=w) (z:=Z);rw [← k1,←k2] at hro;generalize a8B (n9 w.terms Z) w.value=U at c hro;by_cases hok:(U<0->w.kind=1)/\(U > 0->w.kind=0)
   ·have hT:=hro.2 hok;have ⟨q1,q2⟩:=hok;conv=>whnf
    repeat' (first|refine zx ?_|refine j4 hw ?_|apply zD<;>intro h<;>try omega)<;>conv=>whnf
    all_goals first|omega|exact ⟨jj,by rw [D5 hw,hI,hT];rfl,[],rz⟩
   ·have hF:a0w w Z=false:=by rw [← lbQ];exact fun h=>hok (hro.1 h)
    rw [H3 hw hF];have hor:(U<0/\w.kind≠1)\/(U > 0/\w.kind≠0):=om;clear hro hok;conv=>whnf
    repeat' (first|refine zx ?_|refine j4 hw ?_|apply zD<;>intro h<;>try omega)<;>conv=>whnf
    all_goals first|omega|exact j6 rfl
  ·rw [lbn om] at hI;rw [hI];conv=>whnf
   repeat' (first|refine zx ?_|apply zD<;>intro h<;>try omega)<;>conv=>whnf
   all_goals first|omega|exact j6 rfl
def yN (Y:List Rat) (i:Nat):Rat:=Y.getD i 0
def sgB (s:m7) (Y:List Rat) (i:Nat):Bool:=!((decide ((Z8 s i).kind=0) && decide (yN Y i<0)) || (decide ((Z8 s i).kind=1) && decide (0<yN Y i)))
def bA3 (s:m7) (Y:List Rat):Bool:=decide (Y.length=s.rows.length) && (List.range s.rows.length).all (sgB s Y)
def bX6 (s:m7) (y:Nat->Rat) (l k:Nat):Rat:=p6 (fun i=>y i*L9 (Z8 s i).terms l) k
def bX7 (s:m7) (y:Nat->Rat) (k:Nat):Rat:=p6 (fun i=>y i*(Z8 s i).value) k
def b8p (s:m7) (g:List (Int × Rat)) (Y:List Rat):Bool:=bA3 s Y && m8 (-1) s.n g && (List.range s.n.toNat).all fun v=>decide (b3a s (yN Y) v<=L9 g v)
def bH3 (s:m7) (Y:List Rat):Bool:=b8p s [] Y && decide (0<b72 s (yN Y))
def bb6 (x:Rat):sgR x<0↔x<((0:Int):Rat):=by unfold sgR;split<;>(try split)<;>simp_all
def b8d {x y:Rat} {ρ:List (Option Nat)} {H:Hp} (h:x=y):a7H ρ H (frS (fz x)) (frS (fz y)):=by subst h;exact rz
def ai1 (n lo hi:Int):ec 111 [eI n,eI lo,eI hi] [] (n7 (btw n lo hi)) []:=by
 refine ac Tryz.func111 ?_;conv=>whnf
 repeat' (first|refine zx ?_|apply zD<;>intro<;>try omega)<;>conv=>whnf
 all_goals (refine j6 ?_;simp only [btw];simp;omega)
def b1z (c:Q3):ec 161 [b0C c] [] (n7 (V6 c)) []:=by
 have w1:=ai1 c.scale 0 29;have w2:=ai1 c.grams 0 1099511627776;have w3:=ai1 c.permille 0 1000;have w4:=ai1 c.drift 0 10000000;rw [aK1] at w1;unfold V6;cases h1:idx c.scale 30<;>cases h2:btw c.grams 0 1099511627776<;>cases h3:btw c.permille 0 1000<;>cases h4:btw c.drift 0 10000000<;>rw [h1] at w1<;>rw [h2] at w2<;>rw [h3] at w3<;>rw [h4] at w4<;>
 ·refine ac Tryz.func161 ?_;conv=>whnf
  repeat' (first|refine zx ?_|apply zD<;>intro<;>try omega)<;>conv=>whnf
  all_goals (refine j6 ?_;simp;try omega)
def a6C (o:Option Nat):Int:=match o with
 |none=>-1
 |some b=>b
def bs5 (cs:List Q3) (scale day:Int) (hl:cs.length<=1000000):
 ec 109 [.c (.t (a1L cs)),eI scale,eI day] [] (.tup [eI (ab1 (H4 cs scale day cs.length)),n7 (H4 cs scale day cs.length).isSome]) []:=by
 have l1:(cs.map Q3.row).length=cs.length:=zq;refine ac Tryz.func109 ?_;conv=>whnf
 repeat' (first|refine zx ?_|apply zD<;>intro h<;>try omega)<;>conv=>whnf
 refine k6 g8 (fun k=>([S.c (C.t (a1L cs)),eI scale,eI day,J,J,J,J,J,eI (a6C (H4 cs scale day k)),eI k]++Jn 47,[])) cs.length tT [] trivial
  rz ?_
 intro k hk _;by_cases jj:k<cs.length
 ·have ⟨c,hc⟩:=iA jj;have cr:=b1z c;have ci:=ai1 day c.since c.till;have hst:H4 cs scale day (k+1)=if decide (c.scale=scale) && O3 c day && a5T cs (H4 cs scale day k) c then some k else H4 cs scale day k:=by
   conv=>lhs;unfold H4
   rw [hc]
  have nxt:∀z:Int,a6C (H4 cs scale day (k+1))=z->z=a6C (H4 cs scale day (k+1)):=fun z h=>h.symm
  cases hr:V6 c with
  |false=>
   have hcv:O3 c day=false:=by unfold O3;rw [hr];rfl
   rw [hcv] at hst;simp only [Bool.and_false,ac4,a7S,if_false] at hst;rw [hr] at cr;rw [← hst];conv=>whnf
   repeat' (first|refine zx ?_|refine j4 hc ?_|apply zD<;>intro h<;>try omega)<;>conv=>whnf
   all_goals first
    |omega
    |(exfalso;simp_all;done)
    |exact ⟨jj,trivial,[],rz⟩
  |true=>
  rw [hr] at cr;cases hb:btw day c.since c.till with
  |false=>
   have hcv:O3 c day=false:=by unfold O3;rw [hr,hb];rfl
   rw [hcv] at hst;simp only [Bool.and_false,ac4,a7S,if_false] at hst;rw [hb] at ci;rw [← hst];conv=>whnf
   repeat' (first|refine zx ?_|refine j4 hc ?_|apply zD<;>intro h<;>try omega)<;>conv=>whnf
   all_goals first
    |omega
    |(exfalso;simp_all;done)
    |exact ⟨jj,trivial,[],rz⟩
  |true=>
   have hcv:O3 c day=true:=by unfold O3;rw [hr,hb];rfl
   rw [hcv] at hst;rw [hb] at ci;cases hf:H4 cs scale day k with
   |none=>
    rw [hf] at hst;have e0:a6C none=-1:=rfl;rw [e0];by_cases hsc:c.scale=scale
    ·have hst2:(k:Int)=a6C (H4 cs scale day (k+1)):=by rw [hst,iB (by simp [hsc,a5T])];rfl
     clear hst hcv hr hb nxt;conv=>whnf
     repeat' (first|refine zx ?_|refine j4 hc ?_|apply zD<;>intro h<;>try omega)<;>conv=>whnf
     all_goals first|omega|exact ⟨jj,trivial,[],rfl,rfl,trivial,⟨rfl,rfl,rfl,g9 hst2,rz⟩⟩
    ·have hst2:(-1:Int)=a6C (H4 cs scale day (k+1)):=by rw [hst,iC (by simp [hsc])];rfl
     clear hst hcv hr hb nxt;conv=>whnf
     repeat' (first|refine zx ?_|refine j4 hc ?_|apply zD<;>intro h<;>try omega)<;>conv=>whnf
     all_goals first
      |omega
      |exact ⟨jj,trivial,[],rfl,rfl,trivial,⟨rfl,rfl,rfl,g9 hst2,rz⟩⟩
   |some b=>
    rw [hf] at hst;have ⟨hb',cb,hcb,_⟩:=S1 hf;have hsb:=b26 hcb;have e0:a6C (some b)=(b:Int):=rfl;have em:(if (0:Int) > (b:Int) then 0 else (b:Int))=(b:Int):=iC om;rw [e0];by_cases hsc:c.scale=scale/\cb.since<=c.since
    ·have hst2:(k:Int)=a6C (H4 cs scale day (k+1)):=by rw [hst,iB (by simp [hsc.1,a5T,hsb,hsc.2])];rfl
     clear hst hcv hr hb nxt;conv=>whnf
     repeat' (first|refine zx ?_|refine j4 hc ?_|refine N7 em hcb ?_|apply zD<;>intro h<;>try omega)<;>conv=>whnf
     all_goals first|omega|exact ⟨jj,trivial,[],rfl,rfl,trivial,⟨rfl,rfl,rfl,g9 hst2,rz⟩⟩
    ·have hst2:(b:Int)=a6C (H4 cs scale day (k+1)):=by
      rw [hst,iC (by simp only [lbN,lbI,a5T,hsb];intro h;exact hsc ⟨h.1.1,h.2⟩)];rfl
     clear hst hcv hr hb nxt;conv=>whnf
     repeat' (first|refine zx ?_|refine j4 hc ?_|refine N7 em hcb ?_|apply zD<;>intro h<;>try omega)<;>conv=>whnf
     all_goals first|omega|exact ⟨jj,trivial,[],rfl,rfl,trivial,⟨rfl,rfl,rfl,g9 hst2,rz⟩⟩
 ·have hke:k=cs.length:=by omega
  subst hke;cases hf:H4 cs scale day cs.length with
  |none=>
   have e0:a6C none=-1:=rfl;rw [e0];conv=>whnf
   repeat' (first|refine zx ?_|apply zD<;>intro h<;>try omega)<;>conv=>whnf
   all_goals first
    |omega
    |exact n8 rz
  |some b=>
   have e0:a6C (some b)=(b:Int):=rfl;have em:(if (0:Int) > (b:Int) then 0 else (b:Int))=(b:Int):=iC om;rw [e0];conv=>whnf
   repeat' (first|refine zx ?_|apply zD<;>intro h<;>try omega)<;>conv=>whnf
   all_goals first|omega|exact n8 ⟨g9 em,rz⟩
def b1x (rs:List J5) (hl:rs.length<=1000000) (scale day:Int):ec 110 [.c (.t (S2 rs)),eI scale,eI day] [] (n7 (a2S rs scale day)) []:=by
 have l1:(rs.map J5.row).length=rs.length:=zq;refine ac Tryz.func110 ?_;conv=>whnf
 repeat' (first|refine zx ?_|apply zD<;>intro<;>try omega)<;>conv=>whnf
 refine k6 g8 (fun k=>([S.c (C.t (S2 rs)),eI scale,eI day,J,J,J,J,eI k]++Jn 22,[])) rs.length (fun k=>(rs.take k).any (fun r=>decide (r.scale=scale) && decide (r.since<=day))=false) [] rfl
  rz ?_
 intro k hk hI;by_cases jj:k<rs.length
 ·have ⟨r,hr⟩:=iA jj;conv=>whnf
  repeat' (first|refine zx ?_|refine j4 hr ?_|apply zD<;>intro<;>try omega)<;>conv=>whnf
  all_goals first|omega|(refine ⟨jj,?_,[],rz⟩;rw [a24 hr,hI];simp [*];done)|(refine ⟨jj,?_,[],rz⟩;rw [a24 hr,hI];simp;omega)|(refine j6 ?_;unfold a2S;rw [a5k hr];simp [*];done)|(refine j6 ?_;unfold a2S;rw [a5k hr];simp;omega)
 ·rw [lbn om] at hI;conv=>whnf
  repeat' (first|refine zx ?_|apply zD<;>intro<;>try omega)<;>conv=>whnf
  all_goals first|omega|exact j6 hI.symm
def b7N (c:Q3) (reading day:Int) (h:O3 c day=true) (hr:btw reading 0 1099511627776=true):ec 112 [b0C c,eI reading,eI day] []
 (.tup [frS (fz (a3u c reading day)),n7 true]) []:=by
 have cr:=b1z c;have ci:=ai1 day c.since c.till;have wi:=ai1 reading 0 1099511627776;have hcr:V6 c=true:=by unfold O3 at h;simp only [lbN] at h;exact h.1
 have hci:btw day c.since c.till=true:=by unfold O3 at h;simp only [lbN] at h;exact h.2
 rw [hcr] at cr;rw [hci] at ci;rw [hr] at wi;have hc:=a4Z h;have ⟨p0,p1,d0,d1⟩:=bc5.of h hr;rw [a0q] at hr;have fo:=bI4 (c.permille*reading) 1000 de om om de;have fi:=a61 (c.grams+c.drift*(day - c.since)) om om;have h2:rl (Rat.divInt (c.permille*reading) 1000)<=4:=lbS (Y7 de) (by have:=U5 (x:=c.permille*reading) om om;have:=U5 (x:=1000) de de;omega);have h3:rl ((c.grams+c.drift*(day - c.since):Int):Rat)<=4:=by rw [a0T];have:=U5 (x:=c.grams+c.drift*(day - c.since)) om om;omega
 have ad:=b4o ((c.grams+c.drift*(day - c.since):Int):Rat) (Rat.divInt (c.permille*reading) 1000) om om;refine ac Tryz.func112 ?_;conv=>whnf
 repeat' (first|refine zx ?_|refine bl0 [7] ?_|refine bl0 [15] ?_|apply zD<;>intro h<;>try omega)<;>conv=>whnf
 all_goals first|(exfalso;simp_all;done)|exact b8R (by rw [Rat.add_comm];rfl) rfl
def b1u (cs:List Q3) (rs:List J5) (hl:cs.length<=1000000) (hl2:rs.length<=1000000) (scale reading day:Int):
 ec 81 [.c (.t (a1L cs)),.c (.t (S2 rs)),eI scale,eI reading,eI day] [] (.tup (ivL (S5 cs rs scale reading day))) []:=by
 have f:=bs5 cs scale day hl;have r:=b1x rs hl2 scale day;have wi:=ai1 reading 0 1099511627776;unfold S5;cases hf:H4 cs scale day cs.length with
 |none=>
  rw [hf] at f;refine ac Tryz.func81 ?_;conv=>whnf
  repeat' (first|refine zx ?_|refine bl0 [1] ?_|apply zD<;>intro h<;>try omega)<;>conv=>whnf
  all_goals first
   |(exfalso;simp_all;done)
   |exact n8 rz
 |some i=>
  rw [hf] at f;have ⟨hb,c,hc,_,hcv⟩:=S1 hf;have e:a2r cs i=c:=by unfold a2r;rw [hc];rfl
  simp only [e];cases hrec:a2S rs scale day with
  |true=>
   rw [hrec] at r;refine ac Tryz.func81 ?_;conv=>whnf
   repeat' (first|refine zx ?_|refine bl0 [1] ?_|apply zD<;>intro h<;>try omega)<;>conv=>whnf
   all_goals first
    |(exfalso;simp_all;done)
    |exact n8 rz
  |false=>
   rw [hrec] at r;cases hr:btw reading 0 1099511627776 with
   |false=>
    rw [hr] at wi;refine ac Tryz.func81 ?_;conv=>whnf
    repeat' (first|refine zx ?_|refine bl0 [1] ?_|apply zD<;>intro h<;>try omega)<;>conv=>whnf
    all_goals first
     |exact n8 rz
     |(exfalso;simp_all;done)
   |true=>
    have er:=b7N c reading day hcv hr;have l1:=b2F hcv hr;rw [hr] at wi;rw [a0q] at hr;have l2:rl (reading:Rat)<=4:=by rw [a0T];have:=U5 (x:=reading) om om;omega
    have fi:=a61 reading om om;have f0:=a61 0 om om;have sb:=bA9 (reading:Rat) (a3u c reading day) om om;have ad:=b4o (reading:Rat) (a3u c reading day) om om;have l4:=aV4 (reading:Rat) (a3u c reading day);have sg:=ba7 ((reading:Rat) - a3u c reading day) om;have hs:=bb6 ((reading:Rat) - a3u c reading day);refine ac Tryz.func81 ?_;conv=>whnf
    repeat' (first|refine zx ?_|refine j4 hc ?_|refine bl0 [1] ?_|refine bl0 [9] ?_|refine bl0 [6] ?_|apply zD<;>intro h<;>try omega)<;>conv=>whnf
    ·have hn:(reading:Rat) - a3u c reading day<((0:Int):Rat):=hs.1 om;refine n8 ⟨b8d ?_,rz⟩;unfold aO9;rw [iB hn]
    ·have hn:¬(reading:Rat) - a3u c reading day<((0:Int):Rat):=fun h=>absurd (hs.2 h) om
     refine n8 ⟨b8d ?_,rz⟩;unfold aO9;rw [iC hn]
    all_goals (have hq:(some i).isSome=false:=(by assumption);cases hq)
def a81 (n lo hi:Int):ec 75 [eI n,eI lo,eI hi] [] (n7 (btw n lo hi)) []:=by
 refine ac Tryz.func75 ?_;conv=>whnf
 repeat' (first|refine zx ?_|apply zD<;>intro<;>try omega)<;>conv=>whnf
 all_goals (refine j6 ?_;simp only [btw];simp;omega)
def a43 (n m:Int):ec 75 [eI n,eI 0,eI (m - 1)] [] (n7 (idx n m)) []:=by
 rw [← b4z];exact a81 n 0 (m - 1)
def br2 (e:Ev) (hs:e.Sized):ec 41 [evS e] [] (n7 (a3x e)) []:=by
 have l1:(e.places.map a0y.row).length=e.places.length:=zq;have l2:(e.moves.map C6.row).length=e.moves.length:=zq;have l3:(e.certs.map Q3.row).length=e.certs.length:=zq;have l4:(e.recalls.map J5.row).length=e.recalls.length:=zq;have l5:(e.purities.map a2w.row).length=e.purities.length:=zq;refine ac Tryz.func41 ?_;conv=>whnf
 repeat' (first|refine zx ?_|apply zD<;>intro<;>try omega)<;>conv=>whnf
 all_goals (refine j6 ?_;unfold a3x;simp;omega)
def b7m (e:Ev) (p:a0y) (h1:1<=e.mats) (h2:e.mats<=6) (h3:0<=e.hhs) (h4:e.hhs<=100):ec 42 [evS e,.agg (p.row.map .t)] [] (n7 (a0O e p)) []:=by
 have i3:=a43 p.kind 7;refine ac Tryz.func42 ?_;conv=>whnf
 repeat' (first|refine zx ?_|refine qp (a43 p.hh e.hhs) ?_|refine qp (a43 p.mat e.mats) ?_|apply zD<;>intro<;>try omega)<;>conv=>whnf
 all_goals first|omega|(refine j6 ?_;simp_all [a0O]<;>decide)
def a3W (e:Ev) (k:Nat) (x:C6):Int:=if x.day<0\/100000<x.day\/(0<k/\x.day<a4i e k) then 17 else if P1 e x then 0 else 1
def bu9 (e:Ev) (k:Nat) (x:C6) (hx:e.moves[k]? =some x) (hf:a3x e=false) (h1:1<=e.mats) (h3:0<=e.hhs) (h5:0<=e.scs):ec 43 [evS e,eI k] [] (eI (a3W e k x)) []:=by
 have l1:(e.places.map a0y.row).length=e.places.length:=zq;have l2:(e.moves.map C6.row).length=e.moves.length:=zq;have hk:k<e.moves.length:=(lbe.1 hx).1;unfold a3x at hf;simp only [a2t,lbK] at hf;obtain ⟨y,hy⟩:∃y,e.moves[k - 1]? =some y:=⟨_,lbf om⟩;have hl:0<k->a4i e k=y.day:=fun h=>by
  obtain ⟨j,rfl⟩:∃j,k=j+1:=⟨k - 1,om⟩;exact a2X hy
 have d:=a81 x.day 0 100000;have is:=a43 x.src (e.places.map a0y.row).length;have id:=a43 x.dst (e.places.map a0y.row).length;have ic:=a43 x.scale e.scs;have ir:=a81 x.reading 0 1099511627776;have hdd:(x.day<0\/100000<x.day\/(0<k/\x.day<a4i e k))↔(x.day<0\/100000<x.day\/(0<k/\x.day<y.day)):=by
  rcases a4t k with h|h
  ·simp [h]
  ·rw [hl h]
 clear hl;have em:(if (0:Int) > (k:Int) - 1 then 0 else (k:Int) - 1)=((k - 1:Nat):Int):=by split<;>omega
 by_cases hd:x.day<0\/100000<x.day\/(0<k/\x.day<y.day)
 ·have e1:a3W e k x=17:=by unfold a3W;rw [iB (hdd.2 hd)]
  clear hdd;rw [e1];have hb:=a0q (a:=x.day) (b:=0) (c:=100000);refine ac Tryz.func43 ?_;conv=>whnf
  repeat' (first|refine zx ?_|refine j4 hx ?_|refine N7 em hy ?_|apply zD<;>intro h<;>try omega)<;>conv=>whnf
  all_goals first|exact p9 rfl|(exfalso;have:=hb.1 (by assumption);omega)|omega
 have e1:a3W e k x=if P1 e x then 0 else 1:=by unfold a3W;rw [iC (fun h=>hd (hdd.1 h))]
 clear hdd;rw [e1];have hd':btw x.day 0 100000=true:=by rw [a0q];omega
 rw [hd'] at d;cases h1:idx x.src e.places.length with
 |false=>
  rw [← l1] at h1;rw [h1] at is;rw [l1] at h1;refine ac Tryz.func43 ?_;conv=>whnf
  repeat' (first|refine zx ?_|refine j4 hx ?_|refine N7 em hy ?_|apply zD<;>intro h<;>try omega)<;>conv=>whnf
  all_goals first
   |(refine p9 ?_;simp [P1,h1];done)
   |(exfalso;simp_all;done)
   |omega
 |true=>
  have ⟨hs0,p,hp,kp⟩:=a7y h1;rw [← l1] at h1;rw [h1] at is;rw [l1] at h1;cases h2:idx x.dst e.places.length with
  |false=>
   rw [← l1] at h2;rw [h2] at id;rw [l1] at h2;refine ac Tryz.func43 ?_;conv=>whnf
   repeat' (first|refine zx ?_|refine j4 hx ?_|refine N7 em hy ?_|apply zD<;>intro h<;>try omega)<;>conv=>whnf
   all_goals first
    |(refine p9 ?_;simp [P1,h1,h2];done)
    |(exfalso;simp_all;done)
    |omega
  |true=>
   have ⟨hd0,q,hq,kq⟩:=a7y h2;rw [← l1] at h2;rw [h2] at id;rw [l1] at h2;refine ac Tryz.func43 ?_;conv=>whnf
   repeat' (first|refine zx ?_|refine qp ir ?_|refine j4 hx ?_|refine K6 hs0 hp ?_|refine K6 hd0 hq ?_|refine N7 em hy ?_|apply zD<;>intro h<;>try omega)<;>conv=>whnf
   all_goals first|(refine p9 ?_;simp_all [P1];done)|(exfalso;simp_all;done)|omega
theorem bq3 (e:Ev) (hs:e.Sized) (hf:a3x e=false) (h1:1<=e.mats) (h5:0<=e.scs):e8 Tryz.prog 44 [evS e] [] (n7 (a0X e)) []:=by
 have l2:(e.certs.map Q3.row).length=e.certs.length:=by simp
 have l4:(e.recalls.map J5.row).length=e.recalls.length:=by simp
 have l6:(e.purities.map a2w.row).length=e.purities.length:=by simp
 have l8:(e.moves.map C6.row).length=e.moves.length:=by simp
 unfold a3x at hf
 simp only [a2t,lbK] at hf
 (refine ac Tryz.func44 ?_;(conv=>whnf);repeat ((first|refine b0x ?_|refine zy ?_);conv=>whnf))
 repeat' (first|refine zx ?_|refine zd ?_ ?_<;>intro h<;>try omega|fail)<;>conv=>whnf
 refine k6 g8 (fun k=>([J,S.c (C.t (T.ptr (evT e))),J,e7 .i64 k]++Jn 124,[])) e.certs.length (fun k=>(e.certs.take k).all (a54 e)=true) [] rfl
  ⟨rfl,rfl,trivial,⟨rfl,rfl,trivial⟩⟩ ?_
 intro k hk hI
 by_cases jj:k<e.certs.length
 ·have ⟨x,hx⟩:=iA jj
  conv=>whnf
  repeat' (first|refine zx ?_|refine qp (a43 x.scale e.scs) ?_|refine qp (a81 x.till x.since 100000) ?_|refine qp (a81 x.grams 0 1099511627776) ?_|refine qp (a81 x.permille 0 1000) ?_|refine qp (a81 x.drift 0 10000000) ?_|refine j4 hx ?_|refine zd ?_ ?_<;>intro h<;>try omega|fail)<;>conv=>whnf
  all_goals first
   |omega
   |(refine ⟨jj,?_,[],rfl,rfl,trivial,⟨rfl,rfl,trivial⟩⟩;rw [D5 hx,hI];simp_all [a54,btw];done)
   |(refine j6 ?_;rw [a0X,H3 hx];rfl;simp_all [a54,btw];(try omega);done)
 ·have hc:e.certs.all (a54 e)=true:=by rw [← hI,lbn (by omega)]
  conv=>whnf
  repeat' (first|refine zx ?_|refine zd ?_ ?_<;>intro h<;>try omega|fail)<;>conv=>whnf
  all_goals try omega
  clear hI jj hk
  refine k6 g8 (fun k=>([J,S.c (C.t (T.ptr (evT e))),J,J,J,e7 .i64 k]++Jn 122,[])) e.recalls.length (fun k=>(e.recalls.take k).all (a1m e)=true) [] rfl
   ⟨rfl,rfl,trivial,⟨rfl,rfl,trivial⟩⟩ ?_
  intro k hk hI
  by_cases jj:k<e.recalls.length
  ·have ⟨x,hx⟩:=iA jj
   conv=>whnf
   repeat' (first|refine zx ?_|refine qp (a43 x.scale e.scs) ?_|refine qp (a81 x.since 0 100000) ?_|refine j4 hx ?_|refine zd ?_ ?_<;>intro h<;>try omega|fail)<;>conv=>whnf
   all_goals first
    |omega
    |(refine ⟨jj,?_,[],rfl,rfl,trivial,⟨rfl,rfl,trivial⟩⟩;rw [D5 hx,hI];simp_all [a1m];done)
    |(refine j6 ?_;rw [a0X,hc,H3 hx];rfl;simp_all [a1m];done)
  ·have hr:e.recalls.all (a1m e)=true:=by rw [← hI,lbn (by omega)]
   conv=>whnf
   repeat' (first|refine zx ?_|refine zd ?_ ?_<;>intro h<;>try omega|fail)<;>conv=>whnf
   all_goals try omega
   clear hI jj hk
   refine k6 g8 (fun k=>([J,S.c (C.t (T.ptr (evT e))),J,J,J,J,e7 .i64 k]++Jn 121,[])) e.purities.length (fun k=>(e.purities.take k).all (a1g e)=true) [] rfl
    ⟨rfl,rfl,trivial,⟨rfl,rfl,trivial⟩⟩ ?_
   intro k hk hI
   by_cases jj:k<e.purities.length
   ·have ⟨x,hx⟩:=iA jj
    conv=>whnf
    repeat' (first|refine zx ?_|refine qp (a43 x.move (e.moves.map C6.row).length) ?_|refine qp (a43 x.mat e.mats) ?_|refine qp (a81 x.most x.least 1000) ?_|refine j4 hx ?_|refine zd ?_ ?_<;>intro h<;>try omega|fail)<;>conv=>whnf
    all_goals first
     |omega
     |(refine ⟨jj,?_,[],rfl,rfl,trivial,⟨rfl,rfl,trivial⟩⟩;rw [D5 hx,hI];simp_all [a1g,btw];done)
     |(refine j6 ?_;rw [a0X,hc,hr,H3 hx];rfl;simp_all [a1g,btw];(try omega);done)
   ·have hp:e.purities.all (a1g e)=true:=by rw [← hI,lbn (by omega)]
    conv=>whnf
    repeat' (first|refine zx ?_|refine zd ?_ ?_<;>intro h<;>try omega|fail)<;>conv=>whnf
    all_goals first
     |omega
     |(refine j6 ?_;rw [a0X,hc,hr,hp];rfl)
theorem b1Z (e:Ev) (hs:e.Sized):e8 Tryz.prog 25 [evS e] [] (e7 .i64 (I4 e)) []:=by
 have l1:(e.places.map a0y.row).length=e.places.length:=by simp
 have l8:(e.moves.map C6.row).length=e.moves.length:=by simp
 have fu:=br2 e hs
 cases hf:a3x e with
 |true=>
  rw [hf] at fu
  (refine ac Tryz.func25 ?_;(conv=>whnf);repeat ((first|refine b0x ?_|refine zy ?_);conv=>whnf))
  repeat' (first|refine zx ?_|refine qp fu ?_|refine zd ?_ ?_<;>intro h<;>try omega|fail)<;>conv=>whnf
  all_goals first
   |(exfalso;simp_all;done)
   |(refine p9 ?_;unfold I4;rw [iB hf])
 |false=>
  rw [hf] at fu
  by_cases hb:e.mats<1\/e.hhs<0\/e.scs<0
  ·have e1:I4 e=1:=by
    unfold I4;rw [iC (by simp [hf]),iB (by rcases hb with h|h|h<;>simp [h])]
   rw [e1]
   (refine ac Tryz.func25 ?_;(conv=>whnf);repeat ((first|refine b0x ?_|refine zy ?_);conv=>whnf))
   repeat' (first|refine zx ?_|refine qp fu ?_|refine zd ?_ ?_<;>intro h<;>try omega|fail)<;>conv=>whnf
   all_goals first
    |(exfalso;simp_all;done)
    |omega
    |exact p9 rfl
  have hfb:=hf
  unfold a3x at hfb
  simp only [a2t,lbK] at hfb
  (refine ac Tryz.func25 ?_;(conv=>whnf);repeat ((first|refine b0x ?_|refine zy ?_);conv=>whnf))
  repeat' (first|refine zx ?_|refine qp fu ?_|refine zd ?_ ?_<;>intro h<;>try omega|fail)<;>conv=>whnf
  all_goals try omega
  refine k6 g8 (fun k=>([J,S.c (C.t (T.ptr (evT e))),J,e7 .i64 k]++Jn 48,[])) e.places.length (fun k=>(e.places.take k).all (a0O e)=true) [] rfl
   ⟨rfl,rfl,trivial,⟨rfl,rfl,trivial⟩⟩ ?_
  intro k hk hI
  by_cases jj:k<e.places.length
  ·have ⟨x,hx⟩:=iA jj
   have pl:=b7m e x (by omega) (by omega) (by omega) (by omega)
   conv=>whnf
   repeat' (first|refine zx ?_|refine qp pl ?_|refine j4 hx ?_|refine zd ?_ ?_<;>intro h<;>try omega|fail)<;>conv=>whnf
   all_goals first
    |omega
    |(refine ⟨jj,?_,[],rfl,rfl,trivial,⟨rfl,rfl,trivial⟩⟩;rw [D5 hx,hI];simp_all;done)
    |(refine p9 ?_;unfold I4;rw [iC (by simp [hf]),iB (.inr (.inr (.inr (H3 hx (by assumption)))))])
  have hp:e.places.all (a0O e)=true:=by rw [← hI,lbn (by omega)]
  have hck:I4 e=if E9 e 0 e.moves≠0 then E9 e 0 e.moves else if a0X e then 0 else 1:=by
   unfold I4;rw [iC (by simp [hf]),iC (by rw [hp];simp;omega)]
  conv=>whnf
  repeat' (first|refine zx ?_|refine zd ?_ ?_<;>intro h<;>try omega|fail)<;>conv=>whnf
  all_goals try omega
  clear hI jj hk
  refine k6 g8 (fun k=>([J,S.c (C.t (T.ptr (evT e))),J,J,e7 .i64 k]++Jn 47,[])) e.moves.length (fun k=>E9 e 0 e.moves=E9 e (a4i e k) (e.moves.drop k)/\0<=a4i e k) [] ⟨rfl,aC2 0⟩
   ⟨rfl,rfl,trivial,⟨rfl,rfl,trivial⟩⟩ ?_
  rintro k hk ⟨hI,hI2⟩
  by_cases jj:k<e.moves.length
  ·have ⟨x,hx⟩:=iA jj
   have mv:=bu9 e k x hx hf (by omega) (by omega) (by omega)
   rw [a2a hx,E9] at hI
   have hm:E9 e 0 e.moves=if a3W e k x=0 then E9 e x.day (e.moves.drop (k+1)) else a3W e k x:=by
    rw [hI]
    unfold a3W
    have hk0:k=0->a4i e k=0:=fun h=>by subst h;rfl
    by_cases h1:x.day<a4i e k\/100000<x.day
    ·rw [iB h1,iB (c:=x.day<0\/100000<x.day\/(0<k/\x.day<a4i e k)) (by omega)];simp
    ·rw [iC h1,iC (c:=x.day<0\/100000<x.day\/(0<k/\x.day<a4i e k)) (by omega)]
     cases P1 e x<;>simp
   have hv:a3W e k x=0->0<=x.day:=fun h=>by unfold a3W at h;split at h<;>omega
   have hm0:a3W e k x=0->E9 e 0 e.moves=E9 e x.day (e.moves.drop (k+1)):=fun h=>by rw [hm,iB h]
   have hm1:a3W e k x≠0->E9 e 0 e.moves=a3W e k x:=fun h=>by rw [hm,iC h]
   clear hm hI
   conv=>whnf
   repeat' (first|refine zx ?_|refine qp mv ?_|refine zd ?_ ?_<;>intro h<;>try omega|fail)<;>conv=>whnf
   all_goals first
    |omega
    |(refine ⟨jj,⟨?_,?_⟩,[],rfl,rfl,trivial,⟨rfl,rfl,trivial⟩⟩
      ·rw [a2X hx];exact hm0 (by omega)
      ·rw [a2X hx];exact hv (by omega))
    |(refine p9 ?_
      have hne:a3W e k x≠0:=by omega
      rw [hck,hm1 hne,iB hne])
  ·rw [b3i (by omega),E9] at hI
   have sd:=bq3 e hs hf (by omega) (by omega)
   conv=>whnf
   repeat' (first|refine zx ?_|refine qp sd ?_|refine zd ?_ ?_<;>intro h<;>try omega|fail)<;>conv=>whnf
   all_goals first
    |omega
    |(refine p9 ?_;rw [hck,hI];simp_all;done)
def b1L (e:Ev) (hs:e.Sized) {k:Nat} {x:C6} (hx:e.moves[k]? =some x):ec 51 [evS e,eI k] [] (.tup (ivL (R3 e x))) []:=by
 have l1:=hs.s3;have l2:=hs.s4;have iv:=b1u e.certs e.recalls om om x.scale x.reading x.day;unfold R3;by_cases hsc:x.scale=-1
 ·rw [iB hsc];refine ac Tryz.func51 ?_;conv=>whnf
  repeat' (first|refine zx ?_|refine j4 hx ?_|refine bl0 [1] ?_|apply zD<;>intro<;>try omega)<;>conv=>whnf
  all_goals first|omega|exact n8 rz
 ·rw [iC hsc];cases hiv:S5 e.certs e.recalls x.scale x.reading x.day with
  |none=>
   rw [hiv] at iv;refine ac Tryz.func51 ?_;conv=>whnf
   repeat' (first|refine zx ?_|refine j4 hx ?_|apply zD<;>intro<;>try omega)<;>conv=>whnf
   all_goals first
    |omega
    |exact n8 rz
  |some p=>
   have ⟨lo,hi⟩:=p;rw [hiv] at iv;refine ac Tryz.func51 ?_;conv=>whnf
   repeat' (first|refine zx ?_|refine j4 hx ?_|apply zD<;>intro<;>try omega)<;>conv=>whnf
   all_goals first|omega|exact n8 rz
def b5q (e:Ev) (mv kind:Int):ec 26 [evS e,eI mv,eI kind] [] (eI (a2z e mv kind)) []:=by
 have l2:(e.moves.map C6.row).length=e.moves.length:=zq;refine ac Tryz.func26 ?_;conv=>whnf
 repeat' (first|refine zx ?_|apply zD<;>intro<;>try omega)<;>conv=>whnf
 all_goals (refine p9 ?_;unfold a2z;(repeat' split)<;>first|rfl|omega)
theorem au3 (t:j9) (hs:t.Sized):e8 Tryz.prog 15 [trS t] [] (e7 .i64 (t5 t)) []:=by
 have l1:=hs.f
 have l2:=hs.c
 have ck:=b1Z t.ev hs.ev
 have m1:(t.finds.map Q4.row).length=t.finds.length:=by simp
 have m2:(t.cleans.map H5.row).length=t.cleans.length:=by simp
 by_cases h0:I4 t.ev≠0
 ·have e1:t5 t=I4 t.ev:=by unfold t5;rw [iB h0]
  rw [e1]
  (refine ac Tryz.func15 ?_;(conv=>whnf);repeat ((first|refine b0x ?_|refine zy ?_);conv=>whnf))
  repeat' (first|refine zx ?_|refine qp ck ?_|refine zd ?_ ?_<;>intro h<;>try omega|fail)<;>conv=>whnf
  all_goals first
   |omega
   |exact p9 rfl
 have h0:I4 t.ev=0:=by omega
 rw [h0] at ck
 by_cases h1:20<t.finds.length\/50<t.cleans.length
 ·have e1:t5 t=6:=by unfold t5;rw [iC (by omega),iB h1]
  rw [e1]
  (refine ac Tryz.func15 ?_;(conv=>whnf);repeat ((first|refine b0x ?_|refine zy ?_);conv=>whnf))
  repeat' (first|refine zx ?_|refine qp ck ?_|refine zd ?_ ?_<;>intro h<;>try omega|fail)<;>conv=>whnf
  all_goals first
   |omega
   |exact p9 rfl
 have e1:t5 t=if S8 t.ev t.finds≠0 then S8 t.ev t.finds else U0 t.ev t.cleans:=by unfold t5;rw [iC (by omega),iC h1]
 rw [e1]
 (refine ac Tryz.func15 ?_;(conv=>whnf);repeat ((first|refine b0x ?_|refine zy ?_);conv=>whnf))
 repeat' (first|refine zx ?_|refine qp ck ?_|refine zd ?_ ?_<;>intro h<;>try omega|fail)<;>conv=>whnf
 all_goals try omega
 refine k6 g8 (fun k=>([J,S.c (C.t (T.ptr (trT t))),J,J,e7 .i64 k]++Jn 73,[])) t.finds.length (fun k=>S8 t.ev t.finds=S8 t.ev (t.finds.drop k)) [] rfl
  ⟨rfl,rfl,trivial,⟨rfl,rfl,trivial⟩⟩ ?_
 intro k hk hI
 by_cases jj:k<t.finds.length
 ·have ⟨f,hf⟩:=iA jj
  have mk:=b5q t.ev f.mv f.kind
  rw [a2a hf,S8] at hI
  by_cases hm:a2z t.ev f.mv f.kind≠0
  ·rw [iB hm] at hI
   rw [hI,iB hm]
   conv=>whnf
   repeat' (first|refine zx ?_|refine qp mk ?_|refine j4 hf ?_|refine zd ?_ ?_<;>intro h<;>try omega|fail)<;>conv=>whnf
   all_goals first
    |omega
    |exact p9 rfl
  ·rw [iC hm] at hI
   by_cases hg:f.grams<1\/1099511627776<f.grams
   ·rw [iB hg] at hI
    rw [hI]
    conv=>whnf
    repeat' (first|refine zx ?_|refine qp mk ?_|refine j4 hf ?_|refine zd ?_ ?_<;>intro h<;>try omega|fail)<;>conv=>whnf
    all_goals first
     |omega
     |exact p9 rfl
   ·rw [iC hg] at hI
    conv=>whnf
    repeat' (first|refine zx ?_|refine qp mk ?_|refine j4 hf ?_|refine zd ?_ ?_<;>intro h<;>try omega|fail)<;>conv=>whnf
    all_goals first
     |omega
     |exact ⟨jj,hI,[],rfl,rfl,trivial,⟨rfl,rfl,trivial⟩⟩
 ·rw [lbo (by omega)] at hI
  have hI:S8 t.ev t.finds=0:=hI
  rw [hI,iC (by omega)]
  conv=>whnf
  repeat' (first|refine zx ?_|refine zd ?_ ?_<;>intro h<;>try omega|fail)<;>conv=>whnf
  all_goals try omega
  refine k6 g8 (fun k=>([J,S.c (C.t (T.ptr (trT t))),J,J,J,J,e7 .i64 k]++Jn 71,[])) t.cleans.length (fun k=>U0 t.ev t.cleans=U0 t.ev (t.cleans.drop k)) [] rfl
   ⟨rfl,rfl,trivial,⟨rfl,rfl,trivial⟩⟩ ?_
  intro j hj hJ
  by_cases hjt:j<t.cleans.length
  ·have ⟨c,hc⟩:=iA hjt
   have mk:=b5q t.ev c.mv c.kind
   rw [a2a hc,U0] at hJ
   by_cases hm:a2z t.ev c.mv c.kind≠0
   ·rw [iB hm] at hJ
    rw [hJ]
    conv=>whnf
    repeat' (first|refine zx ?_|refine qp mk ?_|refine j4 hc ?_|refine zd ?_ ?_<;>intro h<;>try omega|fail)<;>conv=>whnf
    all_goals first
     |omega
     |exact p9 rfl
   ·rw [iC hm] at hJ
    conv=>whnf
    repeat' (first|refine zx ?_|refine qp mk ?_|refine j4 hc ?_|refine zd ?_ ?_<;>intro h<;>try omega|fail)<;>conv=>whnf
    all_goals first
     |omega
     |exact ⟨hjt,hJ,[],rfl,rfl,trivial,⟨rfl,rfl,trivial⟩⟩
  ·rw [lbo (by omega)] at hJ
   have hJ:U0 t.ev t.cleans=0:=hJ
   rw [hJ]
   conv=>whnf
   repeat' (first|refine zx ?_|refine zd ?_ ?_<;>intro h<;>try omega|fail)<;>conv=>whnf
   all_goals first
    |omega
    |exact p9 rfl
def b0v (t:j9) (hs:t.Sized) (kind:Int):ec 49 [trS t,eI kind] [] (n7 (decide (t5 t=0/\0<=kind/\kind<8))) []:=by
 have ck:=au3 t hs;refine ac Tryz.func49 ?_;conv=>whnf
 repeat' (first|refine zx ?_|apply zD<;>intro<;>try omega)<;>conv=>whnf
 all_goals (refine j6 ?_;simp;try omega)
def al2 (v n:Int) (h1:-9223372036854775808<=n) (h2:n<=9223372036854775807):ec 80 [eI v,eI n] [] (.agg ((B9 (v,(n:Rat))).map .t)) []:=by
 have i1:=a61 n h1 h2;refine ac Tryz.func80 ?_;conv=>whnf
 repeat' (first|refine zx ?_|apply zD<;>intro<;>try omega)<;>conv=>whnf
 exact n8 rz
def b3q (i:Nat) (kind:Int) (v:Rat):ec 52 [eI i,eI kind,frS (fz v)] [] (aU0 (E7 i kind v)) []:=by
 have i1:=al2 i 1 de de;refine ac Tryz.func52 ?_;conv=>whnf
 repeat' (first|refine zz ?_|refine qp i1 ?_|refine a3A.weak ?_|apply zD<;>intro<;>try omega|refine zy ?_|fail)<;>conv=>whnf
 exact n8 rz
abbrev bV5 (f:Fr):Blk:={ mode:=.live,elem:=89,size:=4,rows:=[frC f],box:=true }
def b2h (f:Fr):L6 [frC f]:=by simp [L6,frC,B3,C.isT]
theorem bg3 (e:Ev) (h0:I4 e=0) {i:Nat} {x:C6} (hx:e.moves[i]? =some x):e8 Tryz.prog 50 [evS e,e7 .i64 i] [] (aU0 (C3 e i x)) []:=by
 have ⟨b1,b2,b3,b4⟩:=a1k h0
 have hi:i<e.moves.length:=(lbe.1 hx).1
 have m0:(e.moves.map C6.row).length=e.moves.length:=by simp
 have i0:=a61 0 (by decide) (by decide)
 have im:=al2 i (-1) (by decide) (by decide)
 have hil:=a2h (e:=e) (p:=x.src) i
 cases hal:x.all
 case' false=>have hK:(C3 e i x).kind=0:=by unfold C3;rw [hal];rfl
 case' true=>have hK:(C3 e i x).kind=2:=by unfold C3;rw [hal];rfl
 all_goals
  (refine ac Tryz.func50 ?_;(conv=>whnf);repeat ((first|refine b0x ?_|refine zy ?_);conv=>whnf))
  repeat' (first|refine zx ?_|refine qp i0 ?_|refine j4 hx ?_|refine zd ?_ ?_<;>intro h<;>try omega|fail)<;>conv=>whnf
  all_goals first
   |omega
   |(exfalso;simp_all;done)
   |skip
  refine k6 g8 (fun k=>([J,e7 .i64 i,S.c (C.t (T.ptr (evT e))),J,S.c (C.ptr 0 0 0),e7 .i64 x.src,S.c (C.ptr 1 0 0),e7 .i64 k]++Jn 58,[bB4,bz0 2 (s7 e x.src k).length (C3 e i x).kind,a2s (s7 e x.src k)])) i (fun _=>True) [some 0,some 1,none] trivial ?_ ?_
  ·refine ⟨rfl,rfl,⟨⟨rfl,rfl,rfl,.inr ⟨⟨rfl,rfl,rfl,rfl,rfl,rfl,trivial⟩,trivial⟩⟩,⟨rfl,rfl,rfl,.inr ⟨⟨⟨rfl,rfl,rfl⟩,?_,rfl,rfl,rfl,rfl,trivial⟩,trivial⟩⟩,⟨rfl,rfl⟩,trivial⟩,⟨rfl,rfl,⟨rfl,rfl,rfl⟩,rfl,⟨rfl,rfl,rfl⟩,rfl,trivial⟩⟩
   rw [hK];rfl
  intro k hk _
  have kl:=a2h (e:=e) (p:=x.src) k
  by_cases jj:k<i
  ·obtain ⟨y,hy⟩:∃y,e.moves[k]? =some y:=⟨_,lbf (by omega)⟩
   have hmo:=T2 h0 (lbm hy)
   have hne:y.src≠y.dst:=by unfold P1 at hmo;simp only [lbN,lbI] at hmo;exact hmo.1.1.1.1.1.2
   have t1:=al2 k 1 (by decide) (by decide)
   have tm:=al2 k (-1) (by decide) (by decide)
   have lA:(s7 e x.src k).length<=(a2s (s7 e x.src k)).rows.length:=by show _<=(toC _).length;simp [toC]
   have lC:((s7 e x.src k).length+1)*73<=140737488355328:=by omega
   by_cases c1:y.dst=x.src
   ·have et:s7 e x.src (k+1)=s7 e x.src k++[((k:Int),((1:Int):Rat))]:=by rw [a0l hy,iB c1]
    conv=>whnf
    repeat' (first|refine zx ?_|refine qp t1 ?_|refine qp tm ?_|refine j4 hy ?_|refine v8 lA lC ?_|refine zd ?_ ?_<;>intro h<;>try omega|fail)<;>conv=>whnf
    all_goals try omega
    refine ⟨jj,trivial,[some 0,some 1,some 3],rfl,rfl,⟨⟨rfl,rfl,rfl,.inr ⟨⟨rfl,rfl,rfl,rfl,rfl,rfl,trivial⟩,trivial⟩⟩,⟨rfl,rfl,rfl,.inr ⟨⟨⟨rfl,rfl,?_,fun h=>h⟩,rfl,rfl,rfl,rfl,rfl,trivial⟩,trivial⟩⟩,i6 rfl rfl rfl ?_ rfl,trivial⟩,⟨rfl,rfl,⟨rfl,rfl,rfl⟩,rfl,⟨rfl,rfl,rfl⟩,rfl,trivial⟩⟩
    ·rw [et,lbq];rfl
    ·rw [et]
     show List.take (s7 e x.src k).length (toC ((s7 e x.src k).map B9))++toC [B9 ((k:Int),((1:Int):Rat))]=_
     exact a2R rfl
   ·by_cases c2:y.src=x.src
    ·have et:s7 e x.src (k+1)=s7 e x.src k++[((k:Int),((-1:Int):Rat))]:=by rw [a0l hy,iC c1,iB c2]
     conv=>whnf
     repeat' (first|refine zx ?_|refine qp t1 ?_|refine qp tm ?_|refine j4 hy ?_|refine v8 lA lC ?_|refine zd ?_ ?_<;>intro h<;>try omega|fail)<;>conv=>whnf
     all_goals try omega
     refine ⟨jj,trivial,[some 0,some 1,some 3],rfl,rfl,⟨⟨rfl,rfl,rfl,.inr ⟨⟨rfl,rfl,rfl,rfl,rfl,rfl,trivial⟩,trivial⟩⟩,⟨rfl,rfl,rfl,.inr ⟨⟨⟨rfl,rfl,?_,fun h=>h⟩,rfl,rfl,rfl,rfl,rfl,trivial⟩,trivial⟩⟩,i6 rfl rfl rfl ?_ rfl,trivial⟩,⟨rfl,rfl,⟨rfl,rfl,rfl⟩,rfl,⟨rfl,rfl,rfl⟩,rfl,trivial⟩⟩
     ·rw [et,lbq];rfl
     ·rw [et]
      show List.take (s7 e x.src k).length (toC ((s7 e x.src k).map B9))++toC [B9 ((k:Int),((-1:Int):Rat))]=_
      exact a2R rfl
    ·have et:s7 e x.src (k+1)=s7 e x.src k:=by rw [a0l hy,iC c1,iC c2]
     conv=>whnf
     repeat' (first|refine zx ?_|refine j4 hy ?_|refine zd ?_ ?_<;>intro h<;>try omega|fail)<;>conv=>whnf
     all_goals try omega
     refine ⟨jj,trivial,[some 0,some 1,some 2],rfl,rfl,⟨⟨rfl,rfl,rfl,.inr ⟨⟨rfl,rfl,rfl,rfl,rfl,rfl,trivial⟩,trivial⟩⟩,⟨rfl,rfl,rfl,.inr ⟨⟨⟨rfl,rfl,?_,fun h=>h⟩,rfl,rfl,rfl,rfl,rfl,trivial⟩,trivial⟩⟩,i6 rfl rfl rfl ?_ rfl,trivial⟩,⟨rfl,rfl,⟨rfl,rfl,rfl⟩,rfl,⟨rfl,rfl,rfl⟩,rfl,trivial⟩⟩
     ·rw [et]
     ·rw [et]
  ·have hke:k=i:=by omega
   subst hke
   have lA:(s7 e x.src k).length<=(a2s (s7 e x.src k)).rows.length:=by show _<=(toC _).length;simp [toC]
   have lC:((s7 e x.src k).length+1)*73<=140737488355328:=by omega
   conv=>whnf
   repeat' (first|refine zx ?_|refine qp im ?_|refine v8 lA lC ?_|refine zd ?_ ?_<;>intro h<;>try omega|fail)<;>conv=>whnf
   all_goals try omega
   refine n8 ⟨show VC _ (fun id=>L2 [] id=true) _ _ from v7 rfl rfl (by intro h;cases h) rfl (rows:=(s7 e x.src k++[((k:Int),((-1:Int):Rat))]).map B9) ?_ ?_,rfl,rfl,rfl,rfl,rfl,trivial⟩
   ·show List.take (s7 e x.src k).length (toC ((s7 e x.src k).map B9))++toC [B9 ((k:Int),((-1:Int):Rat))]=_
    exact a2R rfl
   ·rw [lbr,lbq];rfl
abbrev rEv (t:j9) (kind:Int) (k:Nat):Env:=[J,eI kind,S.c (C.t (T.ptr (trT t))),J,sP 0 0 0,J,sP 1 0 0,sP 2 0 0,eI k]++Jn 132
abbrev rHp (t:j9) (R:List C7):Hp:=[aw0,evB t.ev,a6W t.ev.moves.length 3 R.length,X3 R]
def Y4 {t:j9} {R:List C7} {N len:Nat} {H:Hp} {env env':Env} {rs:List (List C)} {kz:Blk} (hz:H[0]? =some kz) (hz2:a3o [some 0,some 1,some 2,some N] H kz aw0) (he:H[1]? =some (evB t.ev))
 (hs:H[2]? =some (a6W t.ev.moves.length N len)) (hr:H[N]? =some { mode:=.live,elem:=91,size:=6,rows:=rs,box:=false }) (hl:len=R.length) (hrs:rs=toC (R.map v6)) (hN:2<N)
 (hE:a0A [some 0,some 1,some 2,some N] H env env'):Ent 0 [some 0,some 1,some 2,some N] env H env' (rHp t R):=by
 have b1:Nat.beq 0 N=false:=by cases h:Nat.beq 0 N with|false=>rfl|true=>exact absurd (a1A h) om
 refine ⟨rfl,a1K fun a b m h1 h2=>?_,⟨?_,?_,?_,?_,trivial⟩,hE⟩
 ·match a,b,h1,h2 with
  |0,0,_,_=>rfl
  |1,1,_,_=>rfl
  |2,2,_,_=>rfl
  |3,3,_,_=>rfl
  |0,1,h1,h2=>simp at h1 h2;omega
  |0,2,h1,h2=>simp at h1 h2;omega
  |0,3,h1,h2=>simp at h1 h2;omega
  |1,0,h1,h2=>simp at h1 h2;omega
  |1,2,h1,h2=>simp at h1 h2;omega
  |1,3,h1,h2=>simp at h1 h2;omega
  |2,0,h1,h2=>simp at h1 h2;omega
  |2,1,h1,h2=>simp at h1 h2;omega
  |2,3,h1,h2=>simp at h1 h2;omega
  |3,0,h1,h2=>simp at h1 h2;omega
  |3,1,h1,h2=>simp at h1 h2;omega
  |3,2,h1,h2=>simp at h1 h2;omega
  |n+4,_,h1,_=>simp at h1
  |0,n+4,_,h2=>simp at h2
  |1,n+4,_,h2=>simp at h2
  |2,n+4,_,h2=>simp at h2
  |3,n+4,_,h2=>simp at h2
 ·simp only [hz];exact hz2
 ·simp only [he];exact ⟨rfl,rfl,rfl,.inl ⟨rfl,F3 _⟩⟩
 ·simp only [hs];exact ⟨rfl,rfl,rfl,.inr ⟨⟨rfl,⟨rfl,rfl,hl,fun h=>h⟩,trivial⟩,trivial⟩⟩
 ·simp only [hr];exact i6 rfl rfl rfl hrs rfl
def a1R {ρ:List (Option Nat)} {H:Hp}:a3o ρ H aw0 aw0:=⟨rfl,rfl,rfl,.inr rz⟩
def br3 (o:Option (Rat × Rat)):∃lo:Fr,ivL o=[frS lo,frS (hiF o),n7 o.isSome]:=by
 cases o with
 |none=>exact ⟨a0L,rfl⟩
 |some p=>exact ⟨fz p.1,rfl⟩
def bm5 {i:Nat} {kind:Int} {f:Fr} {v:Rat} (h:f=fz v):ec 52 [eI i,eI kind,frS f] [] (aU0 (E7 i kind v)) []:=by subst h;exact b3q i kind v
def b2y (t:j9) (kind:Int) (hs:t.Sized) (h1:¬(t5 t≠0\/kind<0\/8<=kind)):ec 28 [trS t,eI kind] [] (.tup [.agg [.t (ti t.ev.moves.length),.own 0 0 (p7 t kind).rows.length true],eI 0]) [X3 (p7 t kind).rows]:=by
 have rt:=b0v t hs kind;have m2:(t.ev.moves.map C6.row).length=t.ev.moves.length:=zq;have m4:(t.finds.map Q4.row).length=t.finds.length:=zq;have m5:(t.cleans.map H5.row).length=t.cleans.length:=zq;obtain ⟨k1,k2,k3⟩:t5 t=0/\0<=kind/\kind<8:=om;rw [lbH ⟨k1,k2,k3⟩] at rt;clear h1;have ⟨q1,q2,q3,q4,q5⟩:=H6 k1;have ⟨b1,b2,b3,b4⟩:=a1k q1
 (refine ac Tryz.func28 ?_;(conv=>whnf);repeat ((first|refine b0x ?_|refine zy ?_);conv=>whnf))
 repeat' (first|refine zx ?_|apply zD<;>intro h<;>try omega)<;>conv=>whnf
 all_goals try omega
 refine at5 (fun k=>(rEv t kind k,rHp t (w6 t kind k))) t.ev.moves.length tT [some 0,some 1,some 2,none] trivial ?_ ?_
 ·refine ⟨rfl,rfl,⟨⟨rfl,rfl,rfl,.inr rz⟩,⟨rfl,rfl,rfl,.inl ⟨rfl,F3 _⟩⟩,⟨rfl,rfl,rfl,.inr ⟨⟨?_,rz⟩,trivial⟩⟩,rz⟩,rz⟩;exact am4 (by rw [m2])
 intro k hk _;refine w8 g8 ?_;conv=>whnf
 repeat' (first|refine zx ?_|apply zD<;>intro h<;>try omega)<;>conv=>whnf
 ·have ⟨x,hx⟩:=@iA _ t.ev.moves k om;have jj:k<t.ev.moves.length:=om;have hmo:=T2 q1 (lbm hx);have ms:=a1H hmo;obtain ⟨s,hsn⟩:∃s:Nat,x.src=s:=⟨x.src.toNat,om⟩;have ⟨pl,hpl⟩:=@iA _ t.ev.places s om;have hkd:O2 t.ev x.src=pl.kind:=by rw [hsn];exact aO4 hpl
  have st:=bg3 t.ev q1 hx;have iv:=b1L t.ev hs.ev hx;have rl0:=a8e (t:=t) (kind:=kind) (k:=k) om q2 q3;have ⟨lo,hlo⟩:=br3 (R3 t.ev x);rw [hlo] at iv;have i0:=a61 0 de de;have hcr:a0n (R3 t.ev x) k=if (R3 t.ev x).isSome then [E7 k 1 (hiR (R3 t.ev x))] else []:=by cases R3 t.ev x<;>rfl
  obtain ⟨R1,hR1⟩:∃R1:List C7,R1=w6 t kind k++(if pl.kind=0 then [] else [C3 t.ev k x]):=⟨_,rfl⟩;obtain ⟨R2,hR2⟩:∃R2:List C7,R2=R1++a0n (R3 t.ev x) k:=⟨_,rfl⟩;have l1:R1.length<=14401:=by rw [hR1];split<;>simp<;>omega
  have l2:R2.length<=14402:=by rw [hR2,hcr];split<;>simp<;>omega
  refine a9i (a8A ?_);refine B4 g8 (rEv t kind k) (rHp t R1) ?_ ?_
  ·have lA:(w6 t kind k).length<=(X3 (w6 t kind k)).rows.length:=by show _<=(toC _).length;simp [toC]
   have lC:((w6 t kind k).length+1)*97<=140737488355328:=om;conv=>whnf
   repeat' (first|refine zx ?_|refine j4 hx ?_|refine N7 hsn hpl ?_|refine v8 lA lC ?_|apply zD<;>intro h<;>try omega)<;>conv=>whnf
   ·have eR:R1=w6 t kind k++[C3 t.ev k x]:=by rw [hR1,iC (by assumption)]
    refine ⟨[some 0,some 1,some 2,some 4],Y4 rfl a1R rfl rfl rfl ?_ ?_ de rz⟩
    ·rw [eR];simp [toC]
    ·rw [eR];exact a2N rfl
   ·have eR:R1=w6 t kind k:=by rw [hR1,iB om,a05]
    refine ⟨[some 0,some 1,some 2,some 3],Y4 rfl a1R rfl rfl rfl ?_ ?_ de rz⟩
    ·rw [eR]
    ·rw [eR]
  have o1:=fun h=>bm5 (i:=k) (kind:=1) (f:=hiF (R3 t.ev x)) (v:=hiR (R3 t.ev x)) h
  refine B4 g8 ([J,eI kind,S.c (C.t (T.ptr (trT t))),J,sP 0 0 0,J,sP 1 0 0,sP 2 0 0,eI k,J,sP 4 0 0,n7 (R3 t.ev x).isSome]++Jn 129) (rHp t R1++[bV5 (hiF (R3 t.ev x))]) ?_ ?_
  ·conv=>whnf
   repeat' (first|refine zx ?_|refine bl0 [6] ?_|apply zD<;>intro h<;>try omega)<;>conv=>whnf
   all_goals
    refine ⟨[some 0,some 1,some 2,some 3,some 5],rfl,rfl,⟨a1R,⟨rfl,rfl,rfl,.inl ⟨rfl,F3 _⟩⟩,⟨rfl,rfl,rfl,.inr ⟨⟨rfl,⟨rfl,rfl,rfl,fun h=>h⟩,trivial⟩,trivial⟩⟩,⟨rfl,rfl,rfl,.inl ⟨rfl,j2 _⟩⟩,⟨rfl,rfl,rfl,.inl ⟨rfl,b2h _⟩⟩,trivial⟩,⟨rfl,rfl,rz,rz,rz,rfl,rz,b53 h.symm,trivial⟩⟩
  refine B4 g8 (rEv t kind k) (rHp t R2) ?_ ?_
  ·have lA:R1.length<=(X3 R1).rows.length:=by show _<=(toC _).length;simp [toC]
   have lC:(R1.length+1)*97<=140737488355328:=om;cases hc:(R3 t.ev x).isSome with
   |true=>
    have o1:=o1 (ap7 hc).1;have eR:R2=R1++[E7 k 1 (hiR (R3 t.ev x))]:=by rw [hR2,hcr,hc];rfl
    conv=>whnf
    repeat' (first|refine zx ?_|refine v8 lA lC ?_|apply zD<;>intro h<;>try omega)<;>conv=>whnf
    all_goals try (rw [hc] at h;exact absurd h de)
    refine ⟨[some 0,some 1,some 2,some 5],Y4 rfl a1R rfl rfl rfl ?_ ?_ de rz⟩
    ·rw [eR];simp [toC]
    ·rw [eR];exact a2N rfl
   |false=>
    have eR:R2=R1:=by rw [hR2,hcr,hc];simp
    conv=>whnf
    repeat' (first|refine zx ?_|apply zD<;>intro h<;>try omega)<;>conv=>whnf
    all_goals try (rw [hc] at h;exact absurd h de)
    refine ⟨[some 0,some 1,some 2,some 3],Y4 rfl a1R rfl rfl rfl ?_ ?_ de rz⟩
    ·rw [eR]
    ·rw [eR]
  obtain ⟨G,hG⟩:∃G:Nat->List C7,∀j,G j=R2++(z7 (t.finds.take j) kind k).map (fun g:Int=>E7 k 0 (g:Rat)):=⟨_,fun _=>rfl⟩;have lG:∀j,(G j).length<=14500:=fun j=>by
   have h1:(z7 (t.finds.take j) kind k).length<=20:=by
    unfold z7;rw [lbr];exact lbS (lbt _ _) (by rw [lbs];omega)
   rw [hG];simp;omega
  refine B4 g8 (rEv t kind k) (rHp t (G t.finds.length)) ?_ ?_
  ·conv=>whnf
   repeat' (first|refine zx ?_|apply zD<;>intro h<;>try omega)<;>conv=>whnf
   refine k6 g8 (fun j=>([J,eI kind,S.c (C.t (T.ptr (trT t))),J,sP 0 0 0,J,sP 1 0 0,sP 2 0 0,eI k,J,J,J,eI j]++Jn 128,rHp t (G j))) t.finds.length tT [some 0,some 1,some 2,some 3] trivial ?_ ?_
   ·refine Y4 rfl a1R rfl rfl rfl ?_ ?_ de rz
    ·rw [hG];simp [z7]
    ·rw [hG];simp [z7]
   intro j hj _;have lj:=lG j;by_cases hjt:j<t.finds.length
   ·have ⟨f,hf⟩:=iA hjt;have fb:=a0Y q4 f (lbm hf);have ig:=a61 f.grams om om;have o0:=b3q k 0 (f.grams:Rat);have lA:(G j).length<=(X3 (G j)).rows.length:=by show _<=(toC _).length;simp [toC]
    have lC:((G j).length+1)*97<=140737488355328:=om;have gs:G (j+1)=if f.kind=kind/\f.mv=(k:Int) then G j++[E7 k 0 (f.grams:Rat)] else G j:=by
     rw [hG,hG,a5m hf,a8I];split<;>simp
    conv=>whnf
    repeat' (first|refine zx ?_|refine j4 hf ?_|refine v8 lA lC ?_|apply zD<;>intro h<;>try omega)<;>conv=>whnf
    all_goals first|omega|skip
    ·rw [iB om] at gs;refine ⟨hjt,trivial,[some 0,some 1,some 2,some 4],Y4 rfl a1R rfl rfl rfl ?_ ?_ de rz⟩
     ·rw [gs];simp [toC]
     ·rw [gs];exact a2N rfl
    all_goals
     rw [iC om] at gs;refine ⟨hjt,trivial,[some 0,some 1,some 2,some 3],Y4 rfl a1R rfl rfl rfl ?_ ?_ de rz⟩
     ·rw [gs]
     ·rw [gs]
   ·have hje:j=t.finds.length:=by omega
    subst hje;conv=>whnf
    repeat' (first|refine zx ?_|apply zD<;>intro h<;>try omega)<;>conv=>whnf
    all_goals first|omega|exact ⟨[some 0,some 1,some 2,some 3],Y4 rfl a1R rfl rfl rfl rfl rfl de rz⟩
  have lGe:=lG t.finds.length;obtain ⟨K,hK⟩:∃K:Nat->List C7,∀j,K j=G t.finds.length++List.replicate (F2 (t.cleans.take j) kind k) (E7 k 2 ((0:Int):Rat)):=⟨_,fun _=>rfl⟩;have lK:∀j,(K j).length<=14600:=fun j=>by
   have h1:F2 (t.cleans.take j) kind k<=50:=by
    unfold F2;exact lbS (lbt _ _) (by rw [lbs];omega)
   rw [hK];simp;omega
  have hKe:K t.cleans.length=w6 t kind (k+1):=by
   rw [hK,hG,hR2,hR1,lbn (lbR _),lbn (lbR _)];show _=(match t.ev.moves[k]? with|none=>w6 t kind k|some x=>w6 t kind k++N5 t kind k x);rw [hx];simp only [N5,hkd,lbD]
  refine t4 g8 _ ?_;conv=>whnf
  repeat' (first|refine zx ?_|apply zD<;>intro h<;>try omega)<;>conv=>whnf
  refine k6 g8 (fun j=>([J,eI kind,S.c (C.t (T.ptr (trT t))),J,sP 0 0 0,J,sP 1 0 0,sP 2 0 0,eI k,J,J,J,J,eI j]++Jn 127,rHp t (K j))) t.cleans.length tT [some 0,some 1,some 2,some 3] trivial ?_ ?_
  ·refine Y4 rfl a1R rfl rfl rfl ?_ ?_ de rz
   ·rw [hK];simp [F2]
   ·rw [hK];simp [F2]
  intro j hj _;have lj:=lK j;by_cases hjt:j<t.cleans.length
  ·have ⟨c,hc⟩:=iA hjt;have o0:=b3q k 2 ((0:Int):Rat);have lA:(K j).length<=(X3 (K j)).rows.length:=by show _<=(toC _).length;simp [toC]
   have lC:((K j).length+1)*97<=140737488355328:=om;have gs:K (j+1)=if c.kind=kind/\c.mv=(k:Int) then K j++[E7 k 2 ((0:Int):Rat)] else K j:=by
    rw [hK,hK,a5m hc,a25];split<;>simp [List.replicate_succ']
   conv=>whnf
   repeat' (first|refine zx ?_|refine j4 hc ?_|refine v8 lA lC ?_|apply zD<;>intro h<;>try omega)<;>conv=>whnf
   all_goals first|omega|skip
   ·rw [iB om] at gs;refine ⟨hjt,trivial,[some 0,some 1,some 2,some 4],Y4 rfl a1R rfl rfl rfl ?_ ?_ de rz⟩
    ·rw [gs];simp [toC]
    ·rw [gs];exact a2N rfl
   all_goals
    rw [iC om] at gs;refine ⟨hjt,trivial,[some 0,some 1,some 2,some 3],Y4 rfl a1R rfl rfl rfl ?_ ?_ de rz⟩
    ·rw [gs]
    ·rw [gs]
  ·have hje:j=t.cleans.length:=by omega
   subst hje;conv=>whnf
   repeat' (first|refine zx ?_|apply zD<;>intro h<;>try omega)<;>conv=>whnf
   all_goals try omega
   refine t4 g8 _ ?_;conv=>whnf
   repeat' (first|refine zx ?_|apply zD<;>intro h<;>try omega)<;>conv=>whnf
   all_goals try omega
   exact ⟨jj,trivial,[some 0,some 1,some 2,some 3],Y4 rfl a1R rfl rfl rfl (by rw [hKe]) (by rw [hKe]) de rz⟩
 ·have hke:k=t.ev.moves.length:=by omega
  subst hke;exact ⟨⟨[some 3],rfl,rfl,⟨i6 (rows:=(p7 t kind).rows.map v6) rfl rfl rfl rfl rfl,trivial⟩,⟨⟨rfl,⟨rfl,rfl,rfl,fun h=>h⟩,trivial⟩,rz⟩⟩⟩
def a4L (t:j9) (kind:Int) (hs:t.Sized):ec 28 [trS t,eI kind] [] (.tup [W8 (a66 t kind),eI (a0b t kind)]) []:=by
 have rt:=b0v t hs kind;have m2:(t.ev.moves.map C6.row).length=t.ev.moves.length:=zq;have m4:(t.finds.map Q4.row).length=t.finds.length:=zq;have m5:(t.cleans.map H5.row).length=t.cleans.length:=zq;by_cases h1:t5 t≠0\/kind<0\/8<=kind
 ·have e1:a0b t kind=1:=by unfold a0b;rw [iB h1]
  have e2:a66 t kind=⟨0,[]⟩:=by unfold a66;rw [iB h1]
  rw [e1,e2];rw [lbJ om] at rt;refine ac Tryz.func28 ?_;conv=>whnf
  repeat' (first|refine zx ?_|apply zD<;>intro h<;>try omega)<;>conv=>whnf
  all_goals first|omega|exact n8 rz
 have e1:a0b t kind=0:=by unfold a0b;rw [iC h1]
 have e2:a66 t kind=p7 t kind:=by unfold a66;rw [iC h1]
 rw [e1,e2];exact aK0 (b2y t kind hs h1) (n8 ⟨⟨rfl,show VC _ (fun id=>L2 [] id=true) _ _ from v7 rfl rfl zi rfl rfl (by rw [lbr]),trivial⟩,rz⟩)
end Go.Proofs.YtbcdidimaioapaaGreat
