/- Part 13. -/
import Derived.Test.YtikokmdpigploaaGreatKl5
namespace Go.Proofs.YtikokmdpigploaaGreat
set_option linter.all false
set_option maxRecDepth 100000
set_option maxHeartbeats 8000000
open Go.RowKit
open St1 St2 St3 St4 St5 St6 St7 St8 StA StB StC
structure bM2 where
 kind:Int
 value:Fr
 X:List Rat
 Y:List Rat
 R:List Rat
structure bj6 (s:m8) (g:List (Int × Rat)) (o:bM2):Prop where
 k:o.kind=0\/o.kind=1\/o.kind=2
 found:o.kind=0->k6 s o.X=true/\o.value=fz (n8 g o.X)/\∀z,k6 s z=true->n8 g o.X<=n8 g z
 none:o.kind=1->∀z,k6 s z=false
 free:o.kind=2->k6 s o.X=true/\b9h s o.R/\n8 g o.R<0
 bx:∀v ∈ o.X,rl v<=100
 br:∀v ∈ o.R,rl v<=100
def bB8 {s:m8} {d:List Rat} (h:b9h (k7 s) d):b9h s d:=by
 have key:∀(k:Nat) (w:C5),s.rows[k]? =some w->((S3 w).kind=w.kind)/\n8 (S3 w).terms d=(((w.value.den:Int):Int):Rat)*n8 w.terms d/\(0:Rat)<(((w.value.den:Int):Int):Rat):=fun k w hw=>
  ⟨rfl,b4H d w.terms,by exact_mod_cast a1h w.value⟩
 refine ⟨h.len,h.pos,fun k w hw hk=>?_,fun k w hw hk=>?_⟩
 ·obtain ⟨k1,k2,k3⟩:=key k w hw;have:=h.up k (S3 w) (as8 hw) hk;rw [k2] at this;apply Y9;intro hn;have hp:0<n8 w.terms d:=zg;have:=lb2 k3 hp;grind
 ·obtain ⟨k1,k2,k3⟩:=key k w hw;have:=h.down k (S3 w) (as8 hw) hk;rw [k2] at this;apply Y9;intro hn;have hp:0< -(n8 w.terms d):=zg;have:=lb2 k3 hp;grind
def bs6 {s:m8} {g:List (Int × Rat)} (h:M5 s) (hg:I5 g):BdD (j0 (k7 s)).length (k7 s).n.toNat 25 (F5 (k7 s) g):=by
 have hn:=V4 h.r;have:=h.n;obtain ⟨p1,p2⟩:=aF0 (k7 s).n.toNat (by show s.n.toNat<10;omega);obtain ⟨b1,b2,b3⟩:=aA1 a9u (b9G h.i hg) U0 (a3o U0).1 p1 p2 (by rw [Nat.one_mul];exact p2) p2;exact ⟨b1,fun i hi j hj=>b2 i j hi hj,b3⟩
def a6N {s:m8} {g:List (Int × Rat)} (h:M5 s) (hg:I5 g):∀v ∈ s8 (k7 s) g,rl v<=25:=by
 intro v hv;have hb:=bs6 h hg;obtain ⟨j,hj,rfl⟩:=a9d hv;have hp:Z0 (j0 (k7 s)).length (k7 s).n.toNat (F5 (k7 s) g):=U7.p;rw [← ap6 hp hj];have key:∀k,k<=(j0 (k7 s)).length->rl (ptK (k7 s).n.toNat (F5 (k7 s) g).O (F5 (k7 s) g).V (fun _=>0) k j)<=25:=by
  intro k;induction k with
  |zero=>intro _;have:=rl0;show rl 0<=_;omega
  |succ k ih=>
   intro hk;rw [L2];simp only;split
   ·exact hb.v k om
   ·exact ih om
 exact key _ (lbR _)
def b5K {s:m8} {g:List (Int × Rat)} {c:Nat} (h:M5 s) (hg:I5 g) (hc:c<(k7 s).n.toNat):∀v ∈ a6p (k7 s) g c,rl v<=25:=by
 intro v hv;have hb:=bs6 h hg;obtain ⟨j,hj,rfl⟩:=a9d hv;have hp:Z0 (j0 (k7 s)).length (k7 s).n.toNat (F5 (k7 s) g):=U7.p;rw [← aj7 hp hc hj];have key:∀k,k<=(j0 (k7 s)).length->rl (ptK (k7 s).n.toNat (F5 (k7 s) g).O (fun i=>-((F5 (k7 s) g).A i c)) (fun j=>if (F5 (k7 s) g).F c<(k7 s).n.toNat/\j=(F5 (k7 s) g).F c then 1 else 0) k j)<=25:=by
  intro k;induction k with
  |zero=>
   intro _;show rl (if _ then (1:Rat) else 0)<=_;have:=rl0;have:=rl1;split<;>omega
  |succ k ih=>
   intro hk;rw [L2];simp only;split
   ·rw [a39];exact hb.a k om c hc
   ·exact ih om
 exact key _ (lbR _)
def b8e {s:m8} {g:List (Int × Rat)} (h:M5 s) (hw:I5 g) (hg:n7 (-1) ((s.n.toNat:Nat):Int) g=true) (ho:H9 (k7 s) g=.best) (Y:List Rat):bj6 s g ⟨0,fz (n8 g (s8 (k7 s) g)),s8 (k7 s) g,Y,[]⟩:=by
 obtain ⟨h1,h2⟩:=Z9 (s:=k7 s) (by rw [a6h];exact h.r) hg ho;exact ⟨.inl rfl,fun _=>⟨(sc_holds s _).1 h1,rfl,fun z hz=>h2 z ((sc_holds s z).2 hz)⟩,(fun e=>absurd (show (0:Int)=1 from e) de),(fun e=>absurd (show (0:Int)=2 from e) de),fun v hv=>lbS (a6N h hw v hv) de,(fun v hv=>by cases hv)⟩
def bc6 {s:m8} {g:List (Int × Rat)} {r:Nat} (ho:H9 (k7 s) g=.row r):∀z,k6 s z=false:=fun z=>by
 cases hz:k6 s z with
 |false=>rfl
 |true=>have:=a5a ho z;rw [(sc_holds s z).2 hz] at this;cases this
def b4a {s:m8} {g:List (Int × Rat)} {r:Nat} (g':List (Int × Rat)) (ho:H9 (k7 s) g'=.row r) (Y:List Rat):bj6 s g ⟨1,a0z,[],Y,[]⟩:=
 ⟨.inr (.inl rfl),(fun e=>absurd (show (1:Int)=0 from e) de),fun _=>bc6 ho,(fun e=>absurd (show (1:Int)=2 from e) de),(fun v hv=>by cases hv),(fun v hv=>by cases hv)⟩
def bo8 {s:m8} {g:List (Int × Rat)} {c:Nat} (h:M5 s) (hw:I5 g) (hg:n7 (-1) ((s.n.toNat:Nat):Int) g=true) (ho:H9 (k7 s) g=.col c) (ho0:H9 (k7 s) []=.best):bj6 s g ⟨2,a0z,s8 (k7 s) [],[],a6p (k7 s) g c⟩:=by
 obtain ⟨h1,h2⟩:=Z9 (s:=k7 s) (g:=[]) (by rw [a6h];exact h.r) rfl ho0;obtain ⟨d1,d2⟩:=a77 (s:=k7 s) (by rw [a6h];exact h.r) hg ho;have hc:c<(k7 s).n.toNat:=(a6V ho).1;exact ⟨.inr (.inr rfl),(fun e=>absurd (show (2:Int)=0 from e) de),(fun e=>absurd (show (2:Int)=1 from e) de),fun _=>⟨(sc_holds s _).1 h1,bB8 d1,d2⟩,fun v hv=>lbS (a6N h (fun t ht=>absurd ht zq) v hv) de,fun v hv=>lbS (b5K h hw hc v hv) de⟩
def a2Y {f:Nat->Nat} {p q:Nat->Bool}:∀{m:Nat},(∀ i,i<m->p i=q i)->E8 f p m=E8 f q m
 |0,_=>rfl
 |m+1,h=>by
  rw [X9,X9,a2Y (m:=m) fun i hi=>h i om,h m om]
structure bG9 (m n:Nat) (D0:Fd) (g0:Nat->Rat):Prop where
 hm:m<=100000
 hn:n<=1000
 f:Z5 m n D0
 i:a5b m n D0 g0 D0
 d:∀D,O8 m n D0 D->(∃ q,a9f m n D0 D q)/\ZB m n 1000 (a0f m n D0 D)
def a5H (b:Nat):(bif true then if 0 > (b:Int) then 0 else (b:Int) else if 0<(b:Int) then 0 else (b:Int))=(b:Int):=by simp only [cond];split<;>omega
def b1S {m n:Nat} {fr:LB} {sc:LI} {D0 D:Fd} {g0:Nat->Rat} (h:bG9 m n D0 g0) (hD:O8 m n D0 D) (hn:G7 m n D=none) {r c:Int} (ho:(r,c)=a6U (B4 m n D)):
 Fin (N0 m n fr sc (a0f m n D0 D0) []).length (.tup [eI r,eI c]) (N0 m n fr sc (a0f m n D0 D) []) (.tup [eI (a6U (B4 m n (a4J m n D0))).1,eI (a6U (B4 m n (a4J m n D0))).2]) (N0 m n fr sc (a0f m n D0 (a4J m n D0)) []):=by
 have e:=b88 h.i hD hn;rw [← e,←ho];exact a5Y (T:=[]) rfl rfl (by simp [i5]) rz
def b3B (m n:Nat) (fr:List (Nat × Bool)) (sc:List Int) (D0:Fd) (g0:Nat->Rat) (h:bG9 m n D0 g0) (hfr:fr.length=m) (hsc:sc.length=m):
 e8 Tryz.prog 213 [.c (.ptr 0 0 0)] (N0 m n fr sc (a0f m n D0 D0) []) (.tup [e7 .i64 (a6U (B4 m n (a4J m n D0))).1,e7 .i64 (a6U (B4 m n (a4J m n D0))).2]) (N0 m n fr sc (a0f m n D0 (a4J m n D0)) []):=by
 have hm:=h.hm
 have hn:=h.hn
 (refine ac Tryz.func213 ?_;(conv=>whnf);repeat (refine zy ?_;conv=>whnf))
 repeat' (first|refine zx ?_|refine i9 (i5 _ _ _) ?_|refine i7 ?_|refine zd ?_ ?_<;>intro h<;>try omega|fail)<;>conv=>whnf
 refine v8 g8 (σ:=Fd) (fun D=>([S.c (C.ptr 0 0 0)]++Jn 56,N0 m n fr sc (a0f m n D0 D) [])) (fun D=>O8 m n D0 D) (fun D=>a6w m n D) D0 (idR (m+9)) a8e ?_ ?_
 ·exact t7 (T:=[]) (T':=[]) rfl rfl (by simp [i5]) zq ⟨⟨j5 om,rfl,rfl⟩,trivial⟩
 intro D hD
 have inv:a5b m n D0 g0 D:=by obtain ⟨k,hk⟩:=hD;exact a0c h.i hk
 obtain ⟨hden,hzb⟩:=h.d D hD
 obtain ⟨cd,cr⟩:=a7r hden
 obtain ⟨Z,hZ⟩:∃Z,Z=a0f m n D0 D:=⟨_,rfl⟩
 rw [← hZ] at cd cr hzb
 have eO:Z.O=D.O:=cr.o
 have eF:Z.F=D.F:=cr.f
 have l1:=bJ9 m n fr sc Z hm hn
 have l2:=b8l m n fr sc Z hm hn
 rw [a2Y (q:=fun i=>decide (D.V i<0)) fun i hi=>decide_eq_decide.2 (aj3 cr.d (cr.v i hi)).1,eO] at l1
 rw [a2Y (q:=fun j=>decide (0<D.G j)) fun j hj=>decide_eq_decide.2 (aj3 cr.d (cr.c j hj)).2,eF] at l2
 have l3:∀r,r<m->e8 Tryz.prog 281 [jT m n fr sc Z,e7 .i64 r] [] (e7 .i64 (leI (E8 D.F (fun j=>decide (D.A r j<0)) n))) []:=fun r hr=>by
  have l:=b8y m n fr sc Z r hr hm hn
  rwa [a2Y (q:=fun j=>decide (D.A r j<0)) fun j hj=>decide_eq_decide.2 (aj3 cr.d (cr.a r hr j hj)).1,eF] at l
 have l4:∀s,s<n->e8 Tryz.prog 282 [jT m n fr sc Z,e7 .i64 s] [] (e7 .i64 (leI (E8 D.O (fun i=>decide (0<D.A i s)) m))) []:=fun s hs=>by
  have l:=bD9 m n fr sc Z s hs hm hn
  rwa [a2Y (q:=fun i=>decide (0<D.A i s)) fun i hi=>decide_eq_decide.2 (aj3 cr.d (cr.a i hi s hs)).2,eO] at l
 have vd:∀X,VY (N0 m n fr sc Z X) (fun _=>True) (.ptr 0 0 0) (.ptr (bq0 m n fr sc Z)):=fun X=>b6F hfr hsc fun _ _=>trivial
 have va:∀X,a0N (N0 m n fr sc Z X) (fun _=>True) [.c (.ptr 0 0 0)] [jT m n fr sc Z]:=fun X=>⟨vd X,trivial⟩
 have va2:∀X (r:Nat),a0N (N0 m n fr sc Z X) (fun _=>True) [.c (.ptr 0 0 0),e7 .i64 r] [jT m n fr sc Z,e7 .i64 r]:=fun X r=>⟨vd X,aE2,trivial⟩
 have fin0:∀(r c:Int),G7 m n D=none->(r,c)=a6U (B4 m n D)->Fin (N0 m n fr sc (a0f m n D0 D0) []).length (.tup [e7 .i64 r,e7 .i64 c]) (N0 m n fr sc Z []) (.tup [e7 .i64 (a6U (B4 m n (a4J m n D0))).1,e7 .i64 (a6U (B4 m n (a4J m n D0))).2]) (N0 m n fr sc (a0f m n D0 (a4J m n D0)) []):=fun r c hn ho=>by
  have:=b1S (fr:=fr) (sc:=sc) h hD hn ho
  rwa [← hZ] at this
 have exc:∀r s:Nat,B4 m n D=.next r s->e8 Tryz.prog 283 [.c (.ptr 0 0 0),e7 .i64 r,e7 .i64 s] (N0 m n fr sc Z []) (.tup []) (N0 m n fr sc (a0f m n D0 (D.exch r s)) []):=fun r s hs=>by
  obtain ⟨q1,q2,q3⟩:=a4t hs
  have hnx:G7 m n D=some (D.exch r s):=by unfold G7;rw [hs]
  obtain ⟨hden',hzb'⟩:=h.d _ (a5g hD hnx)
  obtain ⟨c1,c2⟩:=b6N h.f inv.i q1 q2 (a55 q3) hden hden'
  rw [← hZ] at c1 c2
  have hzx:ZB m n 1000 (Z.exch r s):=⟨fun i hi=>by rw [c2.v i hi];exact hzb'.v i hi,fun i hi j hj=>by rw [c2.a i hi j hj];exact hzb'.a i hi j hj,fun j hj=>by rw [c2.c j hj];exact hzb'.c j hj,by rw [c2.d];exact hzb'.d⟩
  have hne:Z.A r s≠0:=fun e=>by
   have:=cr.a r q1 s q2
   rw [e] at this
   have hq:((Z.D:Int):Rat)≠0:=by intro e;have:Z.D=0:=by exact_mod_cast e
                                 have:=cr.d;omega
   rcases ay7.1 this.symm with k|k
   ·exact hq k
   ·exact a55 q3 k
  have ex:=aV3 m n fr sc Z r s hm hn q1 q2 cr.d hne hzb hzx c1
  rwa [a7i c2] at ex
 have go:∀(env:Env) (r s:Nat),B4 m n D=.next r s->a0p (idR (m+9)) (N0 m n fr sc (a0f m n D0 (D.exch r s)) []) env ([S.c (C.ptr 0 0 0)]++Jn 56)->
  ∃ρ x',Ent (N0 m n fr sc (a0f m n D0 D0) []).length ρ env (N0 m n fr sc (a0f m n D0 (D.exch r s)) []) ([S.c (C.ptr 0 0 0)]++Jn 56) (N0 m n fr sc (a0f m n D0 x') [])/\O8 m n D0 x'/\a6w m n x'<a6w m n D:=by
  intro env r s hs hE
  have hnx:G7 m n D=some (D.exch r s):=by unfold G7;rw [hs]
  exact ⟨idR (m+9),D.exch r s,t7 (T:=[]) (T':=[]) rfl rfl (by simp [i5]) zq hE,a5g hD hnx,az9 (b8N inv.p inv.g) hnx⟩
 show a5M _ _ _ _ _ (N0 m n fr sc (a0f m n D0 D) []) _
 rw [← hZ]
 cases hR:E8 D.O (fun i=>decide (D.V i<0)) m with
 |none=>
  rw [hR,show leI none=-1 from rfl] at l1
  cases hS:E8 D.F (fun j=>decide (0<D.G j)) n with
  |none=>
   rw [hS,show leI none=-1 from rfl] at l2
   have hst:B4 m n D=.best:=by unfold B4;rw [hR,hS]
   conv=>whnf
   repeat' (first|refine zx ?_|refine .inl ⟨_,_,m6 l1 (va _) rfl,?_⟩|refine .inl ⟨_,_,m6 l2 (va _) rfl,?_⟩|refine i9 (i5 _ _ _) ?_|refine i7 ?_|refine zd ?_ ?_<;>intro h<;>try omega|fail)<;>conv=>whnf
   all_goals first
    |omega
    |exact fin0 _ _ (by unfold G7;rw [hst]) (by rw [hst];rfl)
  |some ss=>
   rw [hS,show leI (some ss)=ss from rfl] at l2
   have hss:=(G1 hS).1
   have l4:=l4 ss hss
   have eSS:0+(bif true then if 0 > (ss:Int) then 0 else (ss:Int) else if 0<(ss:Int) then 0 else (ss:Int)).toNat=ss:=by rw [a5H];omega
   cases hC:E8 D.O (fun i=>decide (0<D.A i ss)) m with
   |none=>
    rw [hC,show leI none=-1 from rfl] at l4
    have hst:B4 m n D=.col ss:=by unfold B4;rw [hR,hS];show Y8 m D ss=_;unfold Y8;rw [hC]
    conv=>whnf
    repeat' (first|refine zx ?_|refine .inl ⟨_,_,m6 l1 (va _) rfl,?_⟩|refine .inl ⟨_,_,m6 l2 (va _) rfl,?_⟩|refine .inl ⟨_,_,m6 l4 (va2 _ ss) rfl,?_⟩|refine i9 (i5 _ _ _) ?_|refine i7 ?_|refine zd ?_ ?_<;>intro h<;>try omega|fail)<;>conv=>whnf
    all_goals first
     |omega
     |exact fin0 _ _ (by unfold G7;rw [hst]) (by rw [hst];rfl)
   |some rq=>
    rw [hC,show leI (some rq)=rq from rfl] at l4
    have hst:B4 m n D=.next rq ss:=by unfold B4;rw [hR,hS];show Y8 m D ss=_;unfold Y8;rw [hC]
    have exr:=exc _ _ hst
    conv=>whnf
    repeat' (first|refine zx ?_|refine .inl ⟨_,_,m6 l1 (va _) rfl,?_⟩|refine .inl ⟨_,_,m6 l2 (va _) rfl,?_⟩|refine .inl ⟨_,_,m6 l4 (va2 _ ss) rfl,?_⟩|refine .inr ⟨_,_,exr,?_⟩|refine i9 (i5 _ _ _) ?_|refine i7 ?_|refine zd ?_ ?_<;>intro h<;>try omega|fail)<;>conv=>whnf
    all_goals first
     |omega
     |exact go _ _ _ hst ⟨⟨j5 om,rfl,rfl⟩,trivial⟩
 |some rr=>
  rw [hR,show leI (some rr)=rr from rfl] at l1
  have hrr:=(G1 hR).1
  have l3:=l3 rr hrr
  have eRR:0+(bif true then if 0 > (rr:Int) then 0 else (rr:Int) else if 0<(rr:Int) then 0 else (rr:Int)).toNat=rr:=by rw [a5H];omega
  cases hS:E8 D.F (fun j=>decide (0<D.G j)) n with
  |none=>
   rw [hS,show leI none=-1 from rfl] at l2
   cases hC:E8 D.F (fun j=>decide (D.A rr j<0)) n with
   |none=>
    rw [hC,show leI none=-1 from rfl] at l3
    have hst:B4 m n D=.row rr:=by unfold B4;rw [hR,hS];show Y6 n D rr=_;unfold Y6;rw [hC]
    conv=>whnf
    repeat' (first|refine zx ?_|refine .inl ⟨_,_,m6 l1 (va _) rfl,?_⟩|refine .inl ⟨_,_,m6 l2 (va _) rfl,?_⟩|refine .inl ⟨_,_,m6 l3 (va2 _ rr) rfl,?_⟩|refine i9 (i5 _ _ _) ?_|refine i7 ?_|refine zd ?_ ?_<;>intro h<;>try omega|fail)<;>conv=>whnf
    all_goals first
     |omega
     |exact fin0 _ _ (by unfold G7;rw [hst]) (by rw [hst];rfl)
   |some sq=>
    rw [hC,show leI (some sq)=sq from rfl] at l3
    have hst:B4 m n D=.next rr sq:=by unfold B4;rw [hR,hS];show Y6 n D rr=_;unfold Y6;rw [hC]
    have exr:=exc _ _ hst
    conv=>whnf
    repeat' (first|refine zx ?_|refine .inl ⟨_,_,m6 l1 (va _) rfl,?_⟩|refine .inl ⟨_,_,m6 l2 (va _) rfl,?_⟩|refine .inl ⟨_,_,m6 l3 (va2 _ rr) rfl,?_⟩|refine .inr ⟨_,_,exr,?_⟩|refine i9 (i5 _ _ _) ?_|refine i7 ?_|refine zd ?_ ?_<;>intro h<;>try omega|fail)<;>conv=>whnf
    all_goals first
     |omega
     |exact go _ _ _ hst ⟨⟨j5 om,rfl,rfl⟩,trivial⟩
  |some ss=>
   rw [hS,show leI (some ss)=ss from rfl] at l2
   have hss:=(G1 hS).1
   have l4:=l4 ss hss
   have eSS:0+(bif true then if 0 > (ss:Int) then 0 else (ss:Int) else if 0<(ss:Int) then 0 else (ss:Int)).toNat=ss:=by rw [a5H];omega
   have eOO:Z.O rr=D.O rr:=by rw [eO]
   have eFF:Z.F ss=D.F ss:=by rw [eF]
   by_cases hlt:D.O rr<D.F ss
   ·cases hC:E8 D.F (fun j=>decide (D.A rr j<0)) n with
    |none=>
     rw [hC,show leI none=-1 from rfl] at l3
     have hst:B4 m n D=.row rr:=by unfold B4;rw [hR,hS];show (if _ then Y6 n D rr else _)=_;rw [iA hlt];unfold Y6;rw [hC]
     conv=>whnf
     repeat' (first|refine zx ?_|refine qp a5H ?_|refine .inl ⟨_,_,m6 l1 (va _) rfl,?_⟩|refine .inl ⟨_,_,m6 l2 (va _) rfl,?_⟩|refine .inl ⟨_,_,m6 l3 (va2 _ rr) rfl,?_⟩|refine i9 (i5 _ _ _) ?_|refine i7 ?_|refine S4 (by rw [a5H];omega) (by rw [a5H];omega) ?_|refine P8 eRR hrr ?_|refine P8 eSS hss ?_|refine zd ?_ ?_<;>intro h<;>try omega|fail)<;>conv=>whnf
     all_goals first
      |omega
      |exact fin0 _ _ (by unfold G7;rw [hst]) (by rw [hst];rfl)
    |some sq=>
     rw [hC,show leI (some sq)=sq from rfl] at l3
     have hst:B4 m n D=.next rr sq:=by unfold B4;rw [hR,hS];show (if _ then Y6 n D rr else _)=_;rw [iA hlt];unfold Y6;rw [hC]
     have exr:=exc _ _ hst
     conv=>whnf
     repeat' (first|refine zx ?_|refine qp a5H ?_|refine .inl ⟨_,_,m6 l1 (va _) rfl,?_⟩|refine .inl ⟨_,_,m6 l2 (va _) rfl,?_⟩|refine .inl ⟨_,_,m6 l3 (va2 _ rr) rfl,?_⟩|refine .inr ⟨_,_,exr,?_⟩|refine i9 (i5 _ _ _) ?_|refine i7 ?_|refine S4 (by rw [a5H];omega) (by rw [a5H];omega) ?_|refine P8 eRR hrr ?_|refine P8 eSS hss ?_|refine zd ?_ ?_<;>intro h<;>try omega|fail)<;>conv=>whnf
     all_goals first
      |omega
      |exact go _ _ _ hst ⟨⟨j5 om,rfl,rfl⟩,trivial⟩
   ·cases hC:E8 D.O (fun i=>decide (0<D.A i ss)) m with
    |none=>
     rw [hC,show leI none=-1 from rfl] at l4
     have hst:B4 m n D=.col ss:=by unfold B4;rw [hR,hS];show (if _ then _ else Y8 m D ss)=_;rw [iB hlt];unfold Y8;rw [hC]
     conv=>whnf
     repeat' (first|refine zx ?_|refine qp a5H ?_|refine .inl ⟨_,_,m6 l1 (va _) rfl,?_⟩|refine .inl ⟨_,_,m6 l2 (va _) rfl,?_⟩|refine .inl ⟨_,_,m6 l4 (va2 _ ss) rfl,?_⟩|refine i9 (i5 _ _ _) ?_|refine i7 ?_|refine S4 (by rw [a5H];omega) (by rw [a5H];omega) ?_|refine P8 eRR hrr ?_|refine P8 eSS hss ?_|refine zd ?_ ?_<;>intro h<;>try omega|fail)<;>conv=>whnf
     all_goals first
      |omega
      |exact fin0 _ _ (by unfold G7;rw [hst]) (by rw [hst];rfl)
    |some rq=>
     rw [hC,show leI (some rq)=rq from rfl] at l4
     have hst:B4 m n D=.next rq ss:=by unfold B4;rw [hR,hS];show (if _ then _ else Y8 m D ss)=_;rw [iB hlt];unfold Y8;rw [hC]
     have exr:=exc _ _ hst
     conv=>whnf
     repeat' (first|refine zx ?_|refine qp a5H ?_|refine .inl ⟨_,_,m6 l1 (va _) rfl,?_⟩|refine .inl ⟨_,_,m6 l2 (va _) rfl,?_⟩|refine .inl ⟨_,_,m6 l4 (va2 _ ss) rfl,?_⟩|refine .inr ⟨_,_,exr,?_⟩|refine i9 (i5 _ _ _) ?_|refine i7 ?_|refine S4 (by rw [a5H];omega) (by rw [a5H];omega) ?_|refine P8 eRR hrr ?_|refine P8 eSS hss ?_|refine zd ?_ ?_<;>intro h<;>try omega|fail)<;>conv=>whnf
     all_goals first
      |omega
      |exact go _ _ _ hst ⟨⟨j5 om,rfl,rfl⟩,trivial⟩
def bA1 (b:Bool) (x:Int):(⟨(bz x).sg*sg1 b,(bz x).dl⟩:Bg)=bz (sg1 b*x):=by
 cases b with
 |false=>
  show Bg.mk (x.sign*1) (dg x.natAbs)=Bg.mk ((1*x).sign) (dg (1*x).natAbs);rw [a2g,ax7]
 |true=>
  show Bg.mk (x.sign*-1) (dg x.natAbs)=Bg.mk ((-1*x).sign) (dg (-1*x).natAbs);rw [show (-1:Int)*x=-x from by omega,Int.sign_neg,a2h,Int.mul_neg,ax7]
def bs0 (b:Bool) (x:Int):([C.t (ti ((bz x).sg*sg1 b)),C.t (v6 (bz x).dl)]:List C)=bgC (bz (sg1 b*x)):=by rw [← bA1]
def b4e (b:Bool) (x:Int):-1<=(bz x).sg*sg1 b/\(bz x).sg*sg1 b<=1:=by
 rw [af2];have hb:sg1 b=1\/sg1 b=-1:=by cases b<;>simp [sg1]
 rcases G4 x with ⟨h,_⟩|⟨h,_⟩|⟨h,_⟩<;>rcases hb with hb|hb<;>rw [h,hb]<;>decide
def aU7 (b:Bool) (x:Int):(Y1 b ((x:Int):Rat)).num=sg1 b*x:=by
 cases b with
 |false=>show ((x:Int):Rat).num=1*x;rw [a85];omega
 |true=>
  show (-((x:Int):Rat)).num=-1*x;rw [ax3,a85];omega
def b8L {n i j:Nat} {g:Nat->Int} {x:List C} {y:Int} (e:i=j) (h:j<n):D4 (D4 (zlB (zF n g)) ((zlB (zF n g)).rows.set i x)) (((zlB (zF n g)).rows.set i x).set i (bgC (bz y)))=zlB (zF n fun k=>if k=j then y else g k):=by
 rw [← a1k (g:=g) (y:=y) e h];unfold D4;simp only [List.set_set]
def aQ (w:C5) (b:Bool) (q:Nat):Nat->Int:=fun j=>(Y1 b (S1 (scT (w.value.den:Int) w.terms) q j)).num
def bd3 (w:C5) (b:Bool):aQ w b 0=fun _=>0:=by
 funext j;show (Y1 b (0:Rat)).num=0;have:=aU7 b 0;simpa using this
def ba6 {d:Int} {l:List (Int × Rat)} {q:Nat} {t:Int × Rat} (h:l[q]? =some t):(scT d l)[q]? =some (t.1,((d:Int):Rat)*t.2):=by unfold scT;rw [lba,h];rfl
def bo0 {w:C5} {b:Bool} {q:Nat} {t:Int × Rat} {c:Int} (h:w.terms[q]? =some t) (hc:t.2=((c:Int):Rat)):aQ w b (q+1)=fun j=>if j=t.1.toNat then sg1 b*((w.value.den:Int)*c) else aQ w b q j:=by
 funext j;unfold aQ;rw [Q0 (ba6 h)];simp only;by_cases hj:j=t.1.toNat
 ·rw [iA hj,iA hj,hc];have e:(((w.value.den:Int):Int):Rat)*((c:Int):Rat)=(((w.value.den:Int)*c:Int):Rat):=by push_cast;rfl
  rw [e,aU7]
 ·rw [iB hj,iB hj]
def bE2 (w:C5) (b:Bool):aQ w b w.terms.length=fun j=>(Y1 b (L7 (S3 w).terms j)).num:=by
 funext j;unfold aQ L7;show _=(Y1 b (S1 (scT (w.value.den:Int) w.terms) (scT (w.value.den:Int) w.terms).length j)).num;rw [show (scT (w.value.den:Int) w.terms).length=w.terms.length by simp [scT]]
def b6Y {m n q N n0:Nat} {fr:LB} {sc:LI} {D:Int} {V G:Nat->Int} {O F:Nat->Nat} {A:Nat->Nat->Int} {T T' H:Hp} {x x':Blk} {env env':Env} (hH:H=J7 m n q fr sc D V G O F A (T++x::T')) (hN:m+9+T.length+1=N) (h0:n0<=N) (hT:∀k ∈ T,okB N k) (hx:a3g (idR N) H x x') (hE:a0p (idR N) H env env'):
 Ent n0 (idR N) env H env' (J7 m n q fr sc D V G O F A (T++[x'])):=by
 have e1:J7 m n q fr sc D V G O F A (T++[x'])=J7 m n q fr sc D V G O F A T++[x']:=a4z;have e2:J7 m n q fr sc D V G O F A (T++x::T')=J7 m n q fr sc D V G O F A T++x::T':=a4z;refine bo1 (by rw [e1,lbq,a00];show _+1=_;omega) h0 (fun i k' hk=>?_) hE;rw [e1] at hk;have hg:H[i]? =(J7 m n q fr sc D V G O F A T++x::T')[i]?:=by rw [hH,e2]
 obtain ⟨L,hL⟩:∃L,L=J7 m n q fr sc D V G O F A T:=⟨_,rfl⟩;have hLl:L.length=m+9+T.length:=by rw [hL,a00]
 rw [← hL] at hk hg;by_cases hi:i<L.length
 ·rw [lbb hi] at hk hg;exact ⟨k',hg.trans hk,a9N (a57 (m:=m) om hT k' (by rw [hL] at hk;exact lbm hk))⟩
 ·rw [lbc om] at hk hg;have h1:i - L.length<[x'].length:=(lbe.1 hk).1;have h1:i - L.length<1:=h1;have h2:i - L.length=0:=om;rw [h2] at hk hg;simp at hk;subst hk;exact ⟨x,hg,hx⟩
def b4C {ρ:List (Option Nat)} {H:Hp} {n N:Nat} (e:N=n):a3g ρ H (F8 84 2 (List.replicate N [F4 (.int .i64 0),F4 (.slice none 0 0)]) false) (zlB (zF n fun _=>0)):=by
 subst e;refine ⟨rfl,rfl,rfl,.inr (a2a ?_ ?_)⟩
 ·simp [F8,toC,G8]
 ·intro i x y hx hy;simp only [F8,lbk] at hx;split at hx
  ·rename_i hi;injection hx with hx;subst hx;have hy:(toC ((zF N fun _=>0).map Y7))[i]? =some y:=hy;rw [toC,lba,lba,S8 hi] at hy;injection hy with hy;subst hy;exact rz
  ·cases hx
abbrev ag4 (t:TypeId) (s:Nat):Blk:=⟨.dead,t,s,[],false,false⟩
abbrev bO5 (k n:Nat):Blk:={ mode:=.live,elem:=274,size:=12,rows:=[[C.own (k+13) 0 (k+1) true,.own (k+15) 0 (k+1) true,.own 3 0 n true,.t (ti (bz 1).sg),.t (v6 (bz 1).dl),.own (k+12) 0 (k+1) true,.own 5 0 0 true,.own (k+16) 0 (k+1) true,.own (k+17) 0 (k+1) true,.own (k+18) 0 (k+1) true,.t (ti (bz 1).sg),.t (v6 (bz 1).dl)]],box:=true }
abbrev bK8 (k n:Nat):Blk:={ mode:=.live,elem:=271,size:=1,rows:=[[C.own (k+10) 0 n true]],box:=false }
abbrev hdX (k n:Nat):Blk:={ mode:=.live,elem:=271,size:=1,rows:=hdR 9 k n++[[C.own (k+10) 0 n true]],box:=false }
abbrev b5V (k n:Nat) (fr:LB) (f:Nat × Bool) (sc:LI) (d v:Int) (a:Nat->Int) (V G:Nat->Int) (O F:Nat->Nat) (A:Nat->Nat->Int):Hp:=
 bO5 k n::ag4 84 2::ag4 271 1::zlB (zF n G)::ag4 3 1::T7 0 F::ag4 3 1::ag4 3 1::ag4 84 2::((mZ k n A).map zlB++
  [bgX d,zlB (zF n a),bgX v,T7 (k+1) O,zlB (zF k V++[v]),bK8 k n,hdX k n,w7 (frI (fr++[f])),w7 (W7 (fr++[f])),zlB (sc++[d])])
def l10 {a0 a1 a2 a3 a4 a5 a6 a7 a8 a9 b0 b1 b2 b3 b4 b5 b6 b7 b8 b9:Blk} (h0:a0=b0) (h1:a1=b1) (h2:a2=b2) (h3:a3=b3) (h4:a4=b4) (h5:a5=b5) (h6:a6=b6) (h7:a7=b7) (h8:a8=b8) (h9:a9=b9):
 ([a0,a1,a2,a3,a4,a5,a6,a7,a8,a9]:Hp)=[b0,b1,b2,b3,b4,b5,b6,b7,b8,b9]:=by
 subst h0 h1 h2 h3 h4 h5 h6 h7 h8 h9;rfl
def bD1 {N:Nat} {l:List C} (h:∀c ∈ l,match c with|.t _=>True|.own id _ _ _=>id<N|_=>False):∀c ∈ l,match c with|.t _=>True|.ptr id _ _=>id<N|.own id _ _ _=>id<N|.fn _ _=>False:=fun c hc=>by
 have:=h c hc;cases c<;>first|exact this|exact this.elim|trivial
def be2 {k n:Nat} {fr:LB} {f:Nat × Bool} {sc:LI} {d v:Int} {a V G:Nat->Int} {O F:Nat->Nat} {A:Nat->Nat->Int}:∀b ∈ b5V k n fr f sc d v a V G O F A,okB (k+19) b:=by
 intro b hb;simp only [lbA,lbz] at hb;have ho:∀(b:Blk),(∀ r ∈ b.rows,∀c ∈ r,match c with|.t _=>True|.own id _ _ _=>id<k+19|_=>False)->okB (k+19) b:=fun b h r hr=>bD1 (h r hr)
 have hd0:∀(t:TypeId) (s:Nat),okB (k+19) (ag4 t s):=fun t s r hr=>by cases hr
 rcases hb with rfl|rfl|rfl|rfl|rfl|rfl|rfl|rfl|rfl|hb|rfl|rfl|rfl|rfl|rfl|rfl|rfl|rfl|rfl|rfl|hb
 ·refine ho _ fun r hr c hc=>?_
  simp at hr;subst hr;simp at hc;rcases hc with rfl|rfl|rfl|rfl|rfl|rfl|rfl|rfl|rfl|rfl|rfl|rfl<;>first|trivial|(simp only;omega)
 ·exact hd0 _ _
 ·exact hd0 _ _
 ·exact A7 rfl
 ·exact hd0 _ _
 ·exact A7 rfl
 ·exact hd0 _ _
 ·exact hd0 _ _
 ·exact hd0 _ _
 ·obtain ⟨l,_,rfl⟩:=lbx.1 hb;exact A7 rfl
 ·exact a4P
 ·exact A7 rfl
 ·exact a4P
 ·exact A7 rfl
 ·exact A7 rfl
 ·refine ho _ fun r hr c hc=>?_
  simp at hr;subst hr;simp at hc;subst hc;show k+10<k+19;omega
 ·refine ho _ fun r hr c hc=>?_
  have hr:r ∈ hdR 9 k n++[[C.own (k+10) 0 n true]]:=hr;rcases lbz.1 hr with hr|hr
  ·obtain ⟨i,hi,rfl⟩:=lbx.1 hr;have:=lbB.1 hi;simp at hc;subst hc;show i+9<k+19;omega
  ·simp at hr;subst hr;simp at hc;subst hc;show k+10<k+19;omega
 ·exact A7 rfl
 ·exact A7 rfl
 ·exact A7 rfl
 ·cases hb
def a7f {rows rows':List (List T)} {k:Nat} (h:rows.length=k):List.take k (toC rows)++toC rows'=toC (rows++rows'):=by
 rw [lbn (by simp [toC,h])];simp [toC]
def bh7 (n k row:Nat) (w:C5) (b:Bool) (fr:LB) (hfr:fr.length=k) (sc:LI) (hsc:sc.length=k) (V G:Nat->Int) (F:Nat->Nat) (A:Nat->Nat->Int) (hn:n<=1000) (hk:k<=10000) (hrow:row<=100000)
 (hr:n7 (-1) n w.terms=true) (hl:w.terms.length<=1000) (hw:I5 w.terms) (hv:rl w.value<=100):
 ec 276 [.c (.ptr 0 0 0),eI n,eI row,aS0 w,eI (sg1 b)] (J7 k n 0 fr sc 1 V G (fun i=>n+i) F A []) (.tup []) (b5V k n fr (row,b) sc w.value.den (sg1 b*w.value.num) (aQ w b w.terms.length) V G (fun i=>n+i) F A):=by
 have m1:(w.terms.map B8).length=w.terms.length:=zq;have hd:=a1h w.value;have ld:bl (w.value.den:Int)<=100:=lbS (J9 w.value) hv;have ln:bl w.value.num<=100:=lbS (K6 w.value) hv;have of1:=b5B 1 de de;have cv:=b5h w.value om;have tv1:=b7P w.value om
 (refine O3 g8 Tryz.func276 rfl de ?_;refine w8 g8 ?_;(conv=>whnf);repeat ((first|refine b0x ?_|refine zy ?_);conv=>whnf))
 repeat' (first|refine zz ?_|refine b0x ?_|refine i9 (i5 _ _ _) ?_|refine i7 ?_|apply zD<;>intro h<;>try omega|refine zy ?_|fail)<;>conv=>whnf
 refine B3 g8 ([sP 0 0 0,eI n,eI row,J,eI (sg1 b),J,J,J,S.c (C.t (T.ptr (v5 w))),J,S.c (C.ptr (k+9) 0 0)]++Jn 144) (J7 k n 0 fr sc 1 V G (fun i=>n+i) F A [bgX w.value.den]) ?_ ?_
 ·conv=>whnf
  repeat' (first|refine zx ?_|refine i9 (i5 _ _ _) ?_|refine i7 ?_|refine s9 (i5 _ _ _) ?_|refine C4 (i5 _ _ _) ?_|apply zD<;>intro h<;>try omega)<;>conv=>whnf
  all_goals exact ⟨idR (k+10),t7 (T:=[_]) (T':=[]) rfl rfl (by simp [i5]) ok1 ⟨⟨j5 om,rz⟩,rfl,rfl,rfl,m7 rfl,⟨j5 om,rz⟩,trivial⟩⟩
 refine B3 g8 ([sP 0 0 0,eI n,eI row,J,eI (sg1 b),J,J,J,S.c (C.t (T.ptr (v5 w))),J,S.c (C.ptr (k+9) 0 0)]++Jn 144) (J7 k n 0 fr sc 1 V G (fun i=>n+i) F A [bgX w.value.den]) ?_ ?_
 ·conv=>whnf
  repeat' (first|refine zx ?_|refine i9 (i5 _ _ _) ?_|refine i7 ?_|apply zD<;>intro h<;>try omega)<;>conv=>whnf
  refine k5 g8 (fun q=>([sP 0 0 0,eI n,eI row,J,eI (sg1 b),J,J,J,S.c (C.t (T.ptr (v5 w))),J,S.c (C.ptr (k+9) 0 0),eI q]++Jn 143,J7 k n 0 fr sc 1 V G (fun i=>n+i) F A [bgX w.value.den])) w.terms.length tT (idR (k+10)) trivial ?_ ?_
  ·exact t7 (T:=[_]) (T':=[]) rfl rfl (by simp [i5]) ok1 ⟨⟨j5 om,rz⟩,rfl,rfl,rfl,rfl,⟨j5 om,rz⟩,g9 rfl,trivial⟩
  intro q hq _;by_cases hlt:q<w.terms.length
  ·obtain ⟨t,ht⟩:∃t,w.terms[q]? =some t:=⟨_,lbf hlt⟩;obtain ⟨c,hc,hcb⟩:=hw t (lbm ht);have ci:=aI6 (w.value.den:Int) hd c om hcb;rw [← hc] at ci;conv=>whnf
   repeat' (first|refine zx ?_|refine j6 ht ?_|refine i9 (i5 _ _ _) ?_|refine i7 ?_|refine s9 (i5 _ _ _) ?_|refine C4 (i5 _ _ _) ?_|apply zD<;>intro h<;>try omega)<;>conv=>whnf
   all_goals first|omega|exact ⟨hlt,trivial,idR (k+10),t7 (T:=[_]) (T':=[]) rfl rfl (by simp [i5]) ok1 ⟨⟨j5 om,rz⟩,rfl,rfl,rfl,rfl,⟨j5 om,rz⟩,g9 om,trivial⟩⟩
  ·have hqe:q=w.terms.length:=by omega
   subst hqe;conv=>whnf
   repeat' (first|refine zx ?_|refine i9 (i5 _ _ _) ?_|refine i7 ?_|apply zD<;>intro h<;>try omega)<;>conv=>whnf
   all_goals first|omega|exact ⟨idR (k+10),t7 (T:=[_]) (T':=[]) rfl rfl (by simp [i5]) ok1 ⟨⟨j5 om,rz⟩,rfl,rfl,rfl,rfl,⟨j5 om,rz⟩,trivial⟩⟩
 refine B3 g8 ([sP 0 0 0,eI n,eI row,J,eI (sg1 b),J,J,J,S.c (C.t (T.ptr (v5 w))),J,S.c (C.ptr (k+9) 0 0),J,S.c (C.own (k+10) 0 n true)]++Jn 142) (J7 k n 0 fr sc 1 V G (fun i=>n+i) F A [bgX w.value.den,zlB (zF n (aQ w b 0))]) ?_ ?_
 ·conv=>whnf
  repeat' (first|refine zx ?_|refine a2m om om om de ?_|refine i9 (i5 _ _ _) ?_|refine i7 ?_|apply zD<;>intro h<;>try omega)<;>conv=>whnf
  all_goals first|omega|exact ⟨idR (k+11),b6Y (T:=[_]) (T':=[]) rfl rfl (by simp [i5]) ok1 (by rw [bd3];exact b4C om) ⟨⟨j5 om,rz⟩,rfl,rfl,rfl,rfl,⟨j5 om,rz⟩,⟨j5 om,rfl,om,fun h=>h⟩,trivial⟩⟩
 refine B3 g8 ([sP 0 0 0,eI n,eI row,J,eI (sg1 b),J,J,J,S.c (C.t (T.ptr (v5 w))),J,S.c (C.ptr (k+9) 0 0),J,S.c (C.own (k+10) 0 n true)]++Jn 142) (J7 k n 0 fr sc 1 V G (fun i=>n+i) F A [bgX w.value.den,zlB (zF n (aQ w b w.terms.length))]) ?_ ?_
 ·conv=>whnf
  repeat' (first|refine zx ?_|refine i9 (i5 _ _ _) ?_|refine i7 ?_|apply zD<;>intro h<;>try omega)<;>conv=>whnf
  refine k5 g8 (fun q=>([sP 0 0 0,eI n,eI row,J,eI (sg1 b),J,J,J,S.c (C.t (T.ptr (v5 w))),J,S.c (C.ptr (k+9) 0 0),J,S.c (C.own (k+10) 0 n true),eI q]++Jn 141,J7 k n 0 fr sc 1 V G (fun i=>n+i) F A [bgX w.value.den,zlB (zF n (aQ w b q))])) w.terms.length tT (idR (k+11)) trivial ?_ ?_
  ·exact t7 (T:=[_,_]) (T':=[]) rfl rfl (by simp [i5]) (by intro z hz;simp at hz;rcases hz with rfl|rfl<;>first|exact a4P|exact A7 rfl) ⟨⟨j5 om,rfl,rfl⟩,rfl,rfl,rfl,rfl,⟨j5 om,rfl,rfl⟩,⟨j5 om,rfl,rfl,fun h=>h⟩,g9 rfl,trivial⟩
  intro q hq _;by_cases hlt:q<w.terms.length
  ·obtain ⟨t,ht⟩:∃t,w.terms[q]? =some t:=⟨_,lbf hlt⟩;obtain ⟨c,hc,hcb⟩:=hw t (lbm ht);obtain ⟨t0,t1,t2⟩:=L0 hr t (lbm ht);have ti:=b03 (w.value.den:Int) c om hcb;rw [← hc] at ti;have eV:0+t.1.toNat=t.1.toNat:=om;have gp:(zF n (aQ w b q))[0+t.1.toNat]? =some (aQ w b q t.1.toNat):=by rw [eV,S8 om]
   have hsr:=b4e b ((w.value.den:Int)*c);conv=>whnf
   repeat' (first|refine zx ?_|refine qp ti ?_|refine j6 ht ?_|refine a2o gp ?_|refine aR6 (by show _<(toC _).length;simp [toC,G8];omega) ?_|refine i9 (i5 _ _ _) ?_|refine i7 ?_|refine s9 (i5 _ _ _) ?_|refine C4 (i5 _ _ _) ?_|refine j2 (t:=1) (i5 _ _ _) ?_|refine j9 (t:=1) (i5 _ _ _) ?_|refine bl0 [0,6] ?_|apply zD<;>intro h<;>try omega)<;>conv=>whnf
   all_goals first
    |omega
    |(refine ⟨hlt,trivial,idR (k+11),t7 (T:=[_,zlB (zF n (aQ w b (q+1)))]) (T':=[]) (L5 rfl rfl rfl rfl rfl rfl rfl rfl rfl (congrArg (fun z=>(mZ k n A).map zlB++[bgX w.value.den,z]) ?_)) rfl (by simp [i5]) (by intro z hz;simp at hz;rcases hz with rfl|rfl<;>first|exact a4P|exact A7 rfl) ⟨⟨j5 om,rfl,rfl⟩,rfl,rfl,rfl,rfl,⟨j5 om,rfl,rfl⟩,⟨j5 om,rfl,rfl,fun h=>h⟩,g9 om,trivial⟩⟩
      rw [bs0,bo0 ht hc];exact b8L eV om)
  ·have hqe:q=w.terms.length:=by omega
   subst hqe;conv=>whnf
   repeat' (first|refine zx ?_|refine i9 (i5 _ _ _) ?_|refine i7 ?_|apply zD<;>intro h<;>try omega)<;>conv=>whnf
   all_goals first|omega|exact ⟨idR (k+11),t7 (T:=[_,_]) (T':=[]) rfl rfl (by simp [i5]) (by intro z hz;simp at hz;rcases hz with rfl|rfl<;>first|exact a4P|exact A7 rfl) ⟨⟨j5 om,rfl,rfl⟩,rfl,rfl,rfl,rfl,⟨j5 om,rfl,rfl⟩,⟨j5 om,rfl,rfl,fun h=>h⟩,trivial⟩⟩
 refine B3 g8 ([sP 0 0 0,eI n,eI row,J,eI (sg1 b),J,J,J,S.c (C.t (T.ptr (v5 w))),J,S.c (C.ptr (k+9) 0 0),J,S.c (C.own (k+10) 0 n true),J,S.c (C.ptr (k+11) 0 0)]++Jn 140) (J7 k n 0 fr sc 1 V G (fun i=>n+i) F A [bgX w.value.den,zlB (zF n (aQ w b w.terms.length)),bgX w.value.num]) ?_ ?_
 ·conv=>whnf
  repeat' (first|refine zx ?_|refine i9 (i5 _ _ _) ?_|refine i7 ?_|refine s9 (i5 _ _ _) ?_|refine C4 (i5 _ _ _) ?_|refine j2 (t:=1) (i5 _ _ _) ?_|refine j9 (t:=1) (i5 _ _ _) ?_|refine j2 (t:=2) (i5 _ _ _) ?_|refine j9 (t:=2) (i5 _ _ _) ?_|apply zD<;>intro h<;>try omega)<;>conv=>whnf
  all_goals first|omega|exact ⟨idR (k+12),t7 (T:=[_,_,_]) (T':=[]) rfl rfl (by simp [i5]) (by intro z hz;simp at hz;rcases hz with rfl|rfl|rfl<;>first|exact a4P|exact A7 rfl) ⟨⟨j5 om,rfl,rfl⟩,rfl,rfl,rfl,rfl,⟨j5 om,rfl,rfl⟩,⟨j5 om,rfl,rfl,fun h=>h⟩,⟨j5 om,rfl,rfl⟩,trivial⟩⟩
 have hsv:=b4e b w.value.num;refine B3 g8 ([sP 0 0 0,eI n,eI row,J,eI (sg1 b),J,J,J,J,J,S.c (C.ptr (k+9) 0 0),J,S.c (C.own (k+10) 0 n true),J,S.c (C.ptr (k+11) 0 0)]++Jn 140) (J7 k n 0 fr sc 1 V G (fun i=>n+i) F A [bgX w.value.den,zlB (zF n (aQ w b w.terms.length)),bgX (sg1 b*w.value.num)]) ?_ ?_
 ·conv=>whnf
  repeat' (first|refine zx ?_|refine i9 (i5 _ _ _) ?_|refine i7 ?_|refine s9 (i5 _ _ _) ?_|refine C4 (i5 _ _ _) ?_|refine j2 (t:=1) (i5 _ _ _) ?_|refine j9 (t:=1) (i5 _ _ _) ?_|refine j2 (t:=2) (i5 _ _ _) ?_|refine j9 (t:=2) (i5 _ _ _) ?_|apply zD<;>intro h<;>try omega)<;>conv=>whnf
  all_goals first|omega|exact ⟨idR (k+12),t7 (T:=[_,_,bgX (sg1 b*w.value.num)]) (T':=[]) (L5 rfl rfl rfl rfl rfl rfl rfl rfl rfl (congrArg (fun z=>(mZ k n A).map zlB++[bgX w.value.den,zlB (zF n (aQ w b w.terms.length)),{ bgX w.value.num with rows:=[z] }]) (bs0 b w.value.num))) rfl (by simp [i5]) (by intro z hz;simp at hz;rcases hz with rfl|rfl|rfl<;>first|exact a4P|exact A7 rfl) ⟨⟨j5 om,rfl,rfl⟩,rfl,rfl,rfl,⟨j5 om,rfl,rfl⟩,⟨j5 om,rfl,rfl,fun h=>h⟩,⟨j5 om,rfl,rfl⟩,trivial⟩⟩
 (refine w8 g8 ?_;conv=>whnf)
 repeat' (first|refine zx ?_|refine i9 (i5 _ _ _) ?_|refine i7 ?_|refine s9 (i5 _ _ _) ?_|refine C4 (i5 _ _ _) ?_|refine j2 (t:=1) (i5 _ _ _) ?_|refine j9 (t:=1) (i5 _ _ _) ?_|refine j2 (t:=2) (i5 _ _ _) ?_|refine j9 (t:=2) (i5 _ _ _) ?_|refine z6 (by simp [toC,n9,G8,D7,frI,W7,hfr,hsc]) (by simp [toC,n9,G8,D7,frI,W7,hfr,hsc];omega) ?_|refine j2 (t:=3) (i5 _ _ _) ?_|refine j2 (t:=4) (i5 _ _ _) ?_|refine j2 (t:=5) (i5 _ _ _) ?_|refine j9 (t:=5) (i5 _ _ _) ?_|refine a1Q (lbR 1) ?_|refine bl0 [0] ?_|apply zD<;>intro h<;>try omega)<;>conv=>whnf
 (refine w8 g8 ?_;conv=>whnf)
 repeat' (first|refine zx ?_|refine i9 (i5 _ _ _) ?_|refine i7 ?_|refine s9 (i5 _ _ _) ?_|refine C4 (i5 _ _ _) ?_|refine j2 (t:=1) (i5 _ _ _) ?_|refine j9 (t:=1) (i5 _ _ _) ?_|refine j2 (t:=2) (i5 _ _ _) ?_|refine j9 (t:=2) (i5 _ _ _) ?_|refine z6 (by simp [toC,n9,G8,D7,frI,W7,hfr,hsc]) (by simp [toC,n9,G8,D7,frI,W7,hfr,hsc];omega) ?_|refine j2 (t:=3) (i5 _ _ _) ?_|refine j2 (t:=4) (i5 _ _ _) ?_|refine j2 (t:=5) (i5 _ _ _) ?_|refine j9 (t:=5) (i5 _ _ _) ?_|refine a1Q (lbR 1) ?_|refine bl0 [0] ?_|apply zD<;>intro h<;>try omega)<;>conv=>whnf
 (refine w8 g8 ?_;conv=>whnf)
 repeat' (first|refine zx ?_|refine i9 (i5 _ _ _) ?_|refine i7 ?_|refine s9 (i5 _ _ _) ?_|refine C4 (i5 _ _ _) ?_|refine j2 (t:=1) (i5 _ _ _) ?_|refine j9 (t:=1) (i5 _ _ _) ?_|refine j2 (t:=2) (i5 _ _ _) ?_|refine j9 (t:=2) (i5 _ _ _) ?_|refine z6 (by simp [toC,n9,G8,D7,frI,W7,hfr,hsc]) (by simp [toC,n9,G8,D7,frI,W7,hfr,hsc];omega) ?_|refine j2 (t:=3) (i5 _ _ _) ?_|refine j2 (t:=4) (i5 _ _ _) ?_|refine j2 (t:=5) (i5 _ _ _) ?_|refine j9 (t:=5) (i5 _ _ _) ?_|refine a1Q (lbR 1) ?_|refine bl0 [0] ?_|apply zD<;>intro h<;>try omega)<;>conv=>whnf
 (refine w8 g8 ?_;conv=>whnf)
 repeat' (first|refine zx ?_|refine i9 (i5 _ _ _) ?_|refine i7 ?_|refine s9 (i5 _ _ _) ?_|refine C4 (i5 _ _ _) ?_|refine j2 (t:=1) (i5 _ _ _) ?_|refine j9 (t:=1) (i5 _ _ _) ?_|refine j2 (t:=2) (i5 _ _ _) ?_|refine j9 (t:=2) (i5 _ _ _) ?_|refine z6 (by simp [toC,n9,G8,D7,frI,W7,hfr,hsc]) (by simp [toC,n9,G8,D7,frI,W7,hfr,hsc];omega) ?_|refine j2 (t:=3) (i5 _ _ _) ?_|refine j2 (t:=4) (i5 _ _ _) ?_|refine j2 (t:=5) (i5 _ _ _) ?_|refine j9 (t:=5) (i5 _ _ _) ?_|refine a1Q (lbR 1) ?_|refine bl0 [0] ?_|apply zD<;>intro h<;>try omega)<;>conv=>whnf
 (refine w8 g8 ?_;conv=>whnf)
 repeat' (first|refine zx ?_|refine i9 (i5 _ _ _) ?_|refine i7 ?_|refine s9 (i5 _ _ _) ?_|refine C4 (i5 _ _ _) ?_|refine j2 (t:=1) (i5 _ _ _) ?_|refine j9 (t:=1) (i5 _ _ _) ?_|refine j2 (t:=2) (i5 _ _ _) ?_|refine j9 (t:=2) (i5 _ _ _) ?_|refine z6 (by simp [toC,n9,G8,D7,frI,W7,hfr,hsc]) (by simp [toC,n9,G8,D7,frI,W7,hfr,hsc];omega) ?_|refine j2 (t:=3) (i5 _ _ _) ?_|refine j2 (t:=4) (i5 _ _ _) ?_|refine j2 (t:=5) (i5 _ _ _) ?_|refine j9 (t:=5) (i5 _ _ _) ?_|refine a1Q (lbR 1) ?_|refine bl0 [0] ?_|apply zD<;>intro h<;>try omega)<;>conv=>whnf
 refine t4 g8 _ ?_;conv=>whnf
 repeat' (first|refine zx ?_|refine i9 (i5 _ _ _) ?_|refine i7 ?_|refine s9 (i5 _ _ _) ?_|refine C4 (i5 _ _ _) ?_|refine j2 (t:=1) (i5 _ _ _) ?_|refine j9 (t:=1) (i5 _ _ _) ?_|refine j2 (t:=2) (i5 _ _ _) ?_|refine j9 (t:=2) (i5 _ _ _) ?_|refine z6 (by simp [toC,n9,G8,D7,frI,W7,hfr,hsc]) (by simp [toC,n9,G8,D7,frI,W7,hfr,hsc];omega) ?_|refine j2 (t:=3) (i5 _ _ _) ?_|refine j2 (t:=4) (i5 _ _ _) ?_|refine j2 (t:=5) (i5 _ _ _) ?_|refine j9 (t:=5) (i5 _ _ _) ?_|refine a1Q (lbR 1) ?_|refine bl0 [0] ?_|apply zD<;>intro h<;>try omega)<;>conv=>whnf
 refine a7u (n:=k+19) (by simp [i5]) (by simp [i5]) be2 (fun i _=>?_) trivial;refine congrArg (fun H:Hp=>H[i]?) (L5 rfl rfl rfl rfl rfl rfl rfl rfl rfl (congrArg (fun z=>(mZ k n A).map zlB++z) (l10 rfl rfl rfl ?_ ?_ rfl ?_ ?_ ?_ ?_)))
 ·exact congrArg (fun z=>({ mode:=.live,elem:=3,size:=1,rows:=z,box:=false }:Blk)) (a4H (O:=fun i=>n+i) (x:=(n:Int)+k) zq)
 ·refine congrArg (fun z=>({ mode:=.live,elem:=84,size:=2,rows:=z,box:=false }:Blk)) ?_;exact (a7f (rows:=(zF k V).map Y7) (rows':=[Y7 (sg1 b*w.value.num)]) (by simp [G8])).trans zq
 ·refine congrArg (fun z=>({ mode:=.live,elem:=271,size:=1,rows:=z,box:=false }:Blk)) ?_;show List.take k (hdR 9 k n)++[[C.own (k+10) 0 n true]]=_;rw [lbn (by simp [D7])]
 ·refine congrArg (fun z=>({ mode:=.live,elem:=3,size:=1,rows:=z,box:=false }:Blk)) ?_;exact (a7f (rows:=(frI fr).map j4) (rows':=[j4 row]) (by simp [frI,hfr])).trans (by simp [frI])
 ·refine congrArg (fun z=>({ mode:=.live,elem:=3,size:=1,rows:=z,box:=false }:Blk)) ?_;exact (a7f (rows:=(W7 fr).map j4) (rows':=[j4 (sg1 b)]) (by simp [W7,hfr])).trans (by simp [W7])
 ·refine congrArg (fun z=>({ mode:=.live,elem:=84,size:=2,rows:=z,box:=false }:Blk)) ?_;exact (a7f (rows:=sc.map Y7) (rows':=[Y7 w.value.den]) (by simp [hsc])).trans zq
def fJ (k i:Nat):Nat:=if i=0 then 0 else if i=1 then k+13 else if i=2 then k+15 else if i=3 then 3 else if i=4 then k+12 else if i=5 then 5 else if i=6 then k+16 else if i=7 then k+17 else if i=8 then k+18 else if i<k+9 then i else k+10
def b8h {k i:Nat} (hi:i<k):fJ k (i+9)=i+9:=by
 unfold fJ;rw [iB om,iB om,iB om,iB om,iB om,iB om,iB om,iB om,iB om,iA om]
def bv3 {k:Nat}:fJ k (k+9)=k+10:=by
 unfold fJ;rw [iB om,iB om,iB om,iB om,iB om,iB om,iB om,iB om,iB om,iB om]
def bD8 {k i j:Nat} (hi:i<k+10) (hj:j<k+10) (h:fJ k i=fJ k j):i=j:=by
 have key:∀i,i<k+10->(i=0/\fJ k i=0)\/(i=1/\fJ k i=k+13)\/(i=2/\fJ k i=k+15)\/(i=3/\fJ k i=3)\/(i=4/\fJ k i=k+12)\/(i=5/\fJ k i=5)\/(i=6/\fJ k i=k+16)\/(i=7/\fJ k i=k+17)\/(i=8/\fJ k i=k+18)\/(9<=i/\i<k+9/\fJ k i=i)\/(i=k+9/\fJ k i=k+10):=by
  intro i hi;by_cases h0:i=0
  ·subst h0;exact .inl rz
  by_cases h1:i=1
  ·subst h1;exact .inr (.inl rz)
  by_cases h2:i=2
  ·subst h2;exact .inr (.inr (.inl rz))
  by_cases h3:i=3
  ·subst h3;exact .inr (.inr (.inr (.inl rz)))
  by_cases h4:i=4
  ·subst h4;exact .inr (.inr (.inr (.inr (.inl rz))))
  by_cases h5:i=5
  ·subst h5;exact .inr (.inr (.inr (.inr (.inr (.inl rz)))))
  by_cases h6:i=6
  ·subst h6;exact .inr (.inr (.inr (.inr (.inr (.inr (.inl rz))))))
  by_cases h7:i=7
  ·subst h7;exact .inr (.inr (.inr (.inr (.inr (.inr (.inr (.inl rz)))))))
  by_cases h8:i=8
  ·subst h8;exact .inr (.inr (.inr (.inr (.inr (.inr (.inr (.inr (.inl rz))))))))
  obtain ⟨t,rfl⟩:∃t,i=t+9:=⟨i - 9,om⟩;by_cases h9:t<k
  ·have:=b8h h9;omega
  ·have:t=k:=by omega
   subst this;have:=bv3 (k:=t);omega
 have a:=key i hi;have b:=key j hj;omega
def bc2 {k:Nat} {V:Nat->Int}:zF (k+1) V=zF k V++[V k]:=by unfold zF;rw [a8z,lbC];rfl
def b8P {k n:Nat}:hdR 9 (k+1) n=hdR 9 k n++[[C.own (k+9) 0 n true]]:=by unfold hdR;rw [a8z,lbC];rfl
def aQ5 {k n j:Nat} {A:Nat->Nat->Int} {L:Hp}:((mZ k n A).map zlB++L)[k+j]? =L[j]?:=by
 rw [lbc (by simp [i5])];simp [i5]
def b0e {k n:Nat} {fr:LB} {f:Nat × Bool} {sc:LI} {d v:Int} {a V G:Nat->Int} {O F:Nat->Nat} {A:Nat->Nat->Int} {env env':Env} (hv:v=V k) (ha:a=A k)
 (hE:a0p (fR (k+10) (fJ k)) (b5V k n fr f sc d v a V G O F A) env env'):Ent 0 (fR (k+10) (fJ k)) env (b5V k n fr f sc d v a V G O F A) env' (J7 (k+1) n 0 (fr++[f]) (sc++[d]) 1 V G O F A []):=by
 subst hv ha;have lk:∀j,(b5V k n fr f sc d (V k) (A k) V G O F A)[k+j+9]? =([bgX d,zlB (zF n (A k)),bgX (V k),T7 (k+1) O,zlB (zF k V++[V k]),bK8 k n,hdX k n,w7 (frI (fr++[f])),w7 (W7 (fr++[f])),zlB (sc++[d])]:Hp)[j]?:=fun j=>aQ5
 have ff:∀i,i<k+10->(fR (k+10) (fJ k))[i]? =some (some (fJ k i)):=fun i hi=>z7 hi
 refine aa2 (by simp [i5]) om (fun i hi=>om) (fun i j hi hj h=>bD8 hi hj h) ?_ hE;intro i k' hk;rcases i with _|_|_|_|_|_|_|_|_|i
 ·injection hk with hk;subst hk
  exact ⟨_,rfl,rfl,rfl,rfl,.inr ⟨⟨⟨by rw [ff _ om];rfl,rfl,rfl,fun h=>h⟩,⟨by rw [ff _ om];rfl,rfl,rfl,fun h=>h⟩,⟨by rw [ff _ om];rfl,rfl,rfl,fun h=>h⟩,rfl,rfl,⟨by rw [ff _ om];rfl,rfl,rfl,fun h=>h⟩,⟨by rw [ff _ om];rfl,rfl,rfl,fun h=>h⟩,⟨by rw [ff _ om];rfl,rfl,rfl,fun h=>h⟩,⟨by rw [ff _ om];rfl,rfl,rfl,fun h=>h⟩,⟨by rw [ff _ om];rfl,rfl,rfl,fun h=>h⟩,rz⟩,trivial⟩⟩
 ·injection hk with hk;subst hk
  exact ⟨_,lk 4,by rw [bc2];exact j8 (j3 _)⟩
 ·injection hk with hk;subst hk
  refine ⟨_,lk 6,rfl,rfl,rfl,.inr ?_⟩;show a4R _ _ (hdR 9 k n++[[C.own (k+10) 0 n true]]) (hdR 9 (k+1) n);rw [b8P];refine a2a (by simp [D7]) fun i x y hx hy=>?_
  by_cases hi:i<k
  ·rw [lbb (by simp [D7];exact hi),a94 hi] at hx hy;injection hx with hx;injection hy with hy
   subst hx hy;exact ⟨⟨by rw [ff _ om,b8h hi],rfl,rfl,fun h=>h⟩,trivial⟩
  ·have hl:i<(hdR 9 k n++[[C.own (k+10) 0 n true]]).length:=(lbe.1 hx).1;rw [lbq,D7] at hl;have hl:i<k+1:=hl;have:i=k:=om;subst this;rw [lbc (by simp [D7])] at hx hy;simp [D7] at hx hy;subst hx hy;exact ⟨⟨by rw [ff _ om,bv3],rfl,rfl,fun h=>h⟩,trivial⟩
 ·injection hk with hk;subst hk;exact ⟨_,rfl,j8 (j3 _)⟩
 ·injection hk with hk;subst hk;exact ⟨_,lk 3,j8 (j3 _)⟩
 ·injection hk with hk;subst hk;exact ⟨_,rfl,j8 (j3 _)⟩
 ·injection hk with hk;subst hk;exact ⟨_,lk 7,j8 (j3 _)⟩
 ·injection hk with hk;subst hk;exact ⟨_,lk 8,j8 (j3 _)⟩
 ·injection hk with hk;subst hk;exact ⟨_,lk 9,j8 (j3 _)⟩
 ·have hk:((mZ (k+1) n A).map zlB++[])[i]? =some k':=hk;have hi:i<k+1:=by have:=(lbe.1 hk).1;simpa [i5] using this
  rw [I7 (a0s hi)] at hk;injection hk with hk;subst hk
  by_cases hik:i<k
  ·rw [b8h hik];exact ⟨_,I7 (a0s hik),j8 (j3 _)⟩
  ·have:i=k:=by omega
   subst this;rw [bv3];exact ⟨_,lk 1,j8 (j3 _)⟩
def pJ1:Nat->Option Nat:=fun i=>if i=0 then some 1 else if i=3 then some 0 else none
def b8x (s:m8) (f:Nat × Bool):Int:=match s.rows[f.1]? with
 |none=>1
 |some w=>(w.value.den:Int)
def scL (s:m8) (l:LB):LI:=l.map (b8x s)
def ak8 (s:m8) (l:LB):(scL s l).length=l.length:=by simp [scL]
def aZ9 {s:m8} {l:LB} {i:Nat} {b:Bool} {w:C5} (hw:s.rows[i]? =some w):scL s (l++[(i,b)])=scL s l++[(w.value.den:Int)]:=by
 unfold scL;rw [lbC];show _++[b8x s (i,b)]=_;unfold b8x;simp only [hw]
def V0 (s:m8) (g:List (Int × Rat)):Nat->Int:=fun i=>((k9 (k7 s) g).V i).num
def A0 (s:m8) (g:List (Int × Rat)):Nat->Nat->Int:=fun i j=>((k9 (k7 s) g).A i j).num
def C0 (g:List (Int × Rat)) (q:Nat):Nat->Int:=fun j=>(-(S1 g q j)).num
def bo5 (g:List (Int × Rat)):C0 g 0=fun _=>0:=by
 funext j;show (-(0:Rat)).num=0
 decide
def bl3 {g:List (Int × Rat)} {q:Nat} {t:Int × Rat} {c:Int} (h:g[q]? =some t) (hc:t.2=((c:Int):Rat)):C0 g (q+1)=fun j=>if j=t.1.toNat then -(1*c) else C0 g q j:=by
 funext j;unfold C0;rw [Q0 h];simp only;by_cases hj:j=t.1.toNat
 ·rw [iA hj,iA hj,hc,ax3,a85];omega
 ·rw [iB hj,iB hj]
def bt9 {s:m8} {g:List (Int × Rat)} {k:Nat} {b:Bool} {i:Nat} {w:C5} (h:(j0 (k7 s)).getD k (0,false)=(i,b)) (hw:s.rows[i]? =some w):sg1 b*w.value.num=V0 s g k:=by
 unfold V0;rw [← aP3 (g:=g) h (as8 hw),←aU7];rfl
def bs8 {s:m8} {g:List (Int × Rat)} {k:Nat} {b:Bool} {i:Nat} {w:C5} (h:(j0 (k7 s)).getD k (0,false)=(i,b)) (hw:s.rows[i]? =some w):aQ w b w.terms.length=A0 s g k:=by
 rw [bE2];funext j;unfold A0;rw [← aY9 (g:=g) h (as8 hw)];rfl
abbrev bO7 (m n j:Nat):Blk:={ mode:=.live,elem:=274,size:=12,rows:=[[C.own 1 0 m true,.own 2 0 m true,.own 3 0 n true,.t (ti (bz 1).sg),.t (v6 (bz 1).dl),.own 4 0 m true,.own (m+9) 0 (j+1) true,.own 6 0 m true,.own 7 0 m true,.own 8 0 m true,.t (ti (bz 1).sg),.t (v6 (bz 1).dl)]],box:=true }
abbrev bP4 (m n j:Nat) (fr:LB) (sc:LI) (V G:Nat->Int) (O:Nat->Nat) (A:Nat->Nat->Int):Hp:=
 bO7 m n j::zlB (zF m V)::hdB 9 m n::zlB (zF n G)::T7 m O::ag4 3 1::w7 (frI fr)::w7 (W7 fr)::zlB sc::((mZ m n A).map zlB++[T7 (j+1) fun j=>j])
def fF (m i:Nat):Nat:=if i=5 then m+9 else i
def b7m {m n j:Nat} {fr:LB} {sc:LI} {V G:Nat->Int} {O:Nat->Nat} {A:Nat->Nat->Int} {env env':Env} {H:Hp} (hH:H=bP4 m n j fr sc V G O A) (hE:a0p (fR (m+9) (fF m)) H env env'):
 Ent 0 (fR (m+9) (fF m)) env H env' (J7 m n (j+1) fr sc 1 V G O (fun j=>j) A []):=by
 subst hH;have fa:∀i,i≠5->fF m i=i:=fun i hi=>by unfold fF;rw [iB hi]
 have ff:∀i,i<m+9->(fR (m+9) (fF m))[i]? =some (some (fF m i)):=fun i hi=>z7 hi
 refine aa2 (by simp [i5]) om (fun i hi=>om) (fun i j hi hj h=>by unfold fF at h;(repeat' split at h)<;>omega) ?_ hE;intro i k' hk;rcases i with _|_|_|_|_|_|_|_|_|i
 ·injection hk with hk;subst hk
  exact ⟨_,rfl,rfl,rfl,rfl,.inr ⟨⟨⟨by rw [ff _ om];rfl,rfl,rfl,fun h=>h⟩,⟨by rw [ff _ om];rfl,rfl,rfl,fun h=>h⟩,⟨by rw [ff _ om];rfl,rfl,rfl,fun h=>h⟩,rfl,rfl,⟨by rw [ff _ om];rfl,rfl,rfl,fun h=>h⟩,⟨by rw [ff _ om];rfl,rfl,rfl,fun h=>h⟩,⟨by rw [ff _ om];rfl,rfl,rfl,fun h=>h⟩,⟨by rw [ff _ om];rfl,rfl,rfl,fun h=>h⟩,⟨by rw [ff _ om];rfl,rfl,rfl,fun h=>h⟩,rz⟩,trivial⟩⟩
 ·injection hk with hk;subst hk;exact ⟨_,rfl,j8 (j3 _)⟩
 ·injection hk with hk;subst hk
  refine ⟨_,rfl,rfl,rfl,rfl,.inr (a2a rfl fun i x y hx hy=>?_)⟩;have hx:(hdR 9 m n)[i]? =some x:=hx;have hy:(hdR 9 m n)[i]? =some y:=hy;have hi:i<m:=by have:=(lbe.1 hx).1;rwa [D7] at this
  rw [a94 hi] at hx hy;injection hx with hx;injection hy with hy
  subst hx hy;exact ⟨⟨by rw [ff _ om,fa _ om],rfl,rfl,fun h=>h⟩,trivial⟩
 ·injection hk with hk;subst hk;exact ⟨_,rfl,j8 (j3 _)⟩
 ·injection hk with hk;subst hk;exact ⟨_,rfl,j8 (j3 _)⟩
 ·injection hk with hk;subst hk;exact ⟨_,aQ5 (j:=0),j8 (j3 _)⟩
 ·injection hk with hk;subst hk;exact ⟨_,rfl,j8 (j3 _)⟩
 ·injection hk with hk;subst hk;exact ⟨_,rfl,j8 (j3 _)⟩
 ·injection hk with hk;subst hk;exact ⟨_,rfl,j8 (j3 _)⟩
 ·have hk:((mZ m n A).map zlB++[])[i]? =some k':=hk;have hi:i<m:=by have:=(lbe.1 hk).1;simpa [i5] using this
  rw [I7 (a0s hi)] at hk;injection hk with hk;subst hk
  rw [fa _ om];exact ⟨_,I7 (a0s hi),j8 (j3 _)⟩
structure bJ4 (s:m8) (g:List (Int × Rat)) (n:Nat):Prop where
 sm:M5 s
 tg:n7 (-1) n g=true
 en:s.n=n
 w:I5 g
def b8s (s:m8) (g:List (Int × Rat)) (n:Nat) (h:bJ4 s g n):
 e8 Tryz.prog 212 [U9 s,s6 g] [] (.c (.ptr 0 0 0)) (J7 (j0 (k7 s)).length n n (j0 (k7 s)) (scL s (j0 (k7 s))) 1 (V0 s g) (C0 g g.length) (fun i=>n+i) (fun j=>j) (A0 s g) []):=by
 have hs:=h.sm
 have htg:=h.tg
 have hen:=h.en
 have hgw:=h.w
 have hn9:=hs.n
 have hr1:=hs.l
 have hgl:=D9 htg
 have m1:(s.rows.map v5).length=s.rows.length:=zq
 have m2:(g.map B8).length=g.length:=zq
 have of1:=b5B 1 de de
 have bl1:bl 1<=1:=w5 de de
 have lrow:∀(i:Nat) (w:C5),s.rows[i]? =some w->n7 (-1) n w.terms=true/\w.terms.length<=1000/\I5 w.terms/\rl w.value<=100:=fun i w hw=>by
  have hI:=hs.i w (lbm hw)
  have hn:=V4 hs.r
  have hrw:=(a1f hs.r hw).1
  rw [hn,hen] at hrw
  have hl:=D9 hrw
  obtain ⟨d1,d2⟩:=a4h hI.2
  have d3:=a1h w.value
  have b1:=w5 (x:=(w.value.den:Int)) om om
  have b2:=T4 (x:=w.value.num) om om
  exact ⟨hrw,om,hI.1,by show max _ _<=100;omega⟩
 have put0:∀(K i:Nat) (w:C5) (b:Bool) (Fr:List (Nat × Bool)),s.rows[i]? =some w->Fr.length=K->K<=10000->i<=100000->
  e8 Tryz.prog 276 [.c (.ptr 0 0 0),e7 .i64 s.n,e7 .i64 i,aS0 w,e7 .i64 (sg1 b)] (J7 K n 0 Fr (scL s Fr) 1 (V0 s g) (fun _=>0) (fun i=>n+i) (fun j=>j) (A0 s g) []) (.tup []) (b5V K n Fr (i,b) (scL s Fr) w.value.den (sg1 b*w.value.num) (aQ w b w.terms.length) (V0 s g) (fun _=>0) (fun i=>n+i) (fun j=>j) (A0 s g)):=by
  intro K i w b Fr hw hF hK hi
  obtain ⟨q1,q2,q3,q4⟩:=lrow i w hw
  rw [hen]
  exact bh7 n K i w b Fr hF (scL s Fr) (by rw [ak8,hF]) _ _ _ _ om hK hi q1 q2 q3 q4
 (refine ac Tryz.func212 ?_;(conv=>whnf);repeat ((first|refine b0x ?_|refine zy ?_);conv=>whnf))
 repeat' (first|refine zx ?_|refine qp of1 ?_|refine zy ?_|refine a2m om om om de ?_|refine zd ?_ ?_<;>intro h<;>try omega|fail)<;>conv=>whnf
 refine ar1 (fun i=>([J,s6 g,S.c (C.t (T.ptr (a0X s))),J,J,S.c (C.ptr 0 0 0),e7 .i64 i]++Jn 114,J7 (J4 (k7 s) i).length n 0 (J4 (k7 s) i) (scL s (J4 (k7 s) i)) 1 (V0 s g) (fun _=>0) (fun i=>n+i) (fun j=>j) (A0 s g) [])) s.rows.length (fun _=>True) (gR 9 pJ1) trivial ?_ ?_
 ·refine b2q rfl (fun i j x hi hj h1 h2=>by unfold pJ1 at h1 h2;(repeat' split at h1)<;>(repeat' split at h2)<;>first|(cases h1;done)|(cases h2;done)|(injection h1 with h1;injection h2 with h2;omega)) ?_ ?_
  ·intro i k' hk
   rcases i with _|_|_|_|_|_|_|_|_|i
   ·injection hk with hk;subst hk
    exact .inr ⟨1,_,rfl,rfl,rfl,rfl,rfl,.inr ⟨⟨⟨rfl,rfl,rfl⟩,⟨rfl,rfl,rfl⟩,⟨rfl,rfl,om,fun h=>h⟩,rfl,rfl,⟨rfl,rfl,rfl⟩,⟨rfl,rfl,rfl⟩,⟨rfl,rfl,rfl⟩,⟨rfl,rfl,rfl⟩,⟨rfl,rfl,rfl⟩,rfl,rfl,trivial⟩,trivial⟩⟩
   ·injection hk with hk;subst hk;exact .inl ⟨rfl,rfl,rfl⟩
   ·injection hk with hk;subst hk;exact .inl ⟨rfl,rfl,rfl⟩
   ·injection hk with hk;subst hk;exact .inr ⟨0,_,rfl,rfl,b4C om⟩
   ·injection hk with hk;subst hk;exact .inl ⟨rfl,rfl,rfl⟩
   ·injection hk with hk;subst hk;exact .inl ⟨rfl,rfl,rfl⟩
   ·injection hk with hk;subst hk;exact .inl ⟨rfl,rfl,rfl⟩
   ·injection hk with hk;subst hk;exact .inl ⟨rfl,rfl,rfl⟩
   ·injection hk with hk;subst hk;exact .inl ⟨rfl,rfl,rfl⟩
   ·simp [mZ,J4] at hk
  ·exact ⟨m7 rfl,m7 rfl,⟨rfl,rfl,rfl⟩,g9 rfl,trivial⟩
 intro i hi _
 refine w8 g8 ?_
 conv=>whnf
 repeat' (first|refine zx ?_|refine i9 (i5 _ _ _) ?_|refine i7 ?_|refine zd ?_ ?_<;>intro h<;>try omega|fail)<;>conv=>whnf
 ·have hlt:i<s.rows.length:=by omega
  obtain ⟨w,hw⟩:∃w,s.rows[i]? =some w:=⟨_,lbf hlt⟩
  have hw':=as8 hw
  obtain ⟨F0,hF0⟩:∃F0,F0=J4 (k7 s) i:=⟨_,rfl⟩
  obtain ⟨K,hK⟩:∃K,K=F0.length:=⟨_,rfl⟩
  obtain ⟨F1,hF1⟩:∃F1,F1=(F0++if w.kind≠0 then [(i,false)] else []):=⟨_,rfl⟩
  obtain ⟨K1,hK1⟩:∃K1,K1=F1.length:=⟨_,rfl⟩
  have hKb:K<=10000:=by have:=a0W (s:=k7 s) i;rw [← hF0] at this;omega
  have hK1b:K1<=10000:=by
   have:=a0W (s:=k7 s) i
   rw [← hF0] at this
   rw [hK1,hF1,lbq]
   split<;>simp<;>omega
  have eF:J4 (k7 s) (i+1)=F1++if w.kind≠1 then [(i,true)] else []:=by rw [a86 hw',hF1,hF0];rfl
  rw [← hF0,←hK]
  refine a9a (a8w ?_)
  refine B3 g8 ([J,s6 g,S.c (C.t (T.ptr (a0X s))),J,J,S.c (C.ptr 0 0 0),e7 .i64 i]++Jn 114) (J7 K1 n 0 F1 (scL s F1) 1 (V0 s g) (fun _=>0) (fun i=>n+i) (fun j=>j) (A0 s g) []) ?_ ?_
  ·by_cases hk:w.kind=0
   ·have e1:F1=F0:=by rw [hF1,iB (by simp [hk]),Z3]
    have e2:K1=K:=by rw [hK1,e1,hK]
    rw [e1,e2]
    conv=>whnf
    repeat' (first|refine zx ?_|refine j6 hw ?_|refine i9 (i5 _ _ _) ?_|refine i7 ?_|refine zd ?_ ?_<;>intro h<;>try omega|fail)<;>conv=>whnf
    all_goals first
     |omega
     |exact ⟨idR (K+9),t7 (T:=[]) (T':=[]) rfl rfl (G6 _) zq ⟨rfl,rfl,⟨j5 om,rfl,rfl⟩,rfl,trivial⟩⟩
   ·have e1:F1=F0++[(i,false)]:=by rw [hF1,iA hk]
    have e2:K1=K+1:=by rw [hK1,e1,lbq,←hK];rfl
    have hg:(j0 (k7 s)).getD K (0,false)=(i,false):=by
     refine a7o (i:=i+1) (by show i+1<=(s.rows.map S3).length;rw [lbr];omega) ?_
     rw [eF,e1,lbD,lbc om,hK];simp
    rw [e1,e2,aZ9 hw]
    have pu:=put0 K i w false F0 hw hK.symm hKb om
    conv=>whnf
    repeat' (first|refine zx ?_|refine .inr ⟨_,_,pu,?_⟩|refine j6 hw ?_|refine i9 (i5 _ _ _) ?_|refine i7 ?_|refine zd ?_ ?_<;>intro h<;>try omega|fail)<;>conv=>whnf
    all_goals first
     |omega
     |exact ⟨_,b0e (bt9 (g:=g) hg hw) (bs8 (g:=g) hg hw) ⟨rfl,rfl,⟨by rw [z7 om];rfl,rfl,rfl⟩,rfl,trivial⟩⟩
  ·by_cases hk:w.kind=1
   ·have e1:J4 (k7 s) (i+1)=F1:=by rw [eF,iB (by simp [hk]),Z3]
    refine t4 g8 _ ?_
    conv=>whnf
    repeat' (first|refine zx ?_|refine j6 hw ?_|refine i9 (i5 _ _ _) ?_|refine i7 ?_|refine zd ?_ ?_<;>intro h<;>try omega|fail)<;>conv=>whnf
    all_goals try omega
    refine t4 g8 _ ?_
    conv=>whnf
    repeat' (first|refine zx ?_|refine i9 (i5 _ _ _) ?_|refine i7 ?_|refine zd ?_ ?_<;>intro h<;>try omega|fail)<;>conv=>whnf
    refine ⟨hlt,trivial,idR (K1+9),?_⟩
    rw [e1,←hK1]
    exact t7 (T:=[]) (T':=[]) rfl rfl (G6 _) zq ⟨rfl,rfl,⟨j5 om,rfl,rfl⟩,g9 om,trivial⟩
   ·have e1:J4 (k7 s) (i+1)=F1++[(i,true)]:=by rw [eF,iA hk]
    have hg:(j0 (k7 s)).getD K1 (0,false)=(i,true):=by
     refine a7o (i:=i+1) (by show i+1<=(s.rows.map S3).length;rw [lbr];omega) ?_
     rw [e1,lbc om,hK1];simp
    have pu:=put0 K1 i w true F1 hw hK1.symm hK1b om
    refine t4 g8 _ ?_
    conv=>whnf
    repeat' (first|refine zx ?_|refine .inr ⟨_,_,pu,?_⟩|refine j6 hw ?_|refine i9 (i5 _ _ _) ?_|refine i7 ?_|refine zd ?_ ?_<;>intro h<;>try omega|fail)<;>conv=>whnf
    all_goals try omega
    refine b3Z (env':=[J,s6 g,S.c (C.t (T.ptr (a0X s))),J,J,S.c (C.ptr 0 0 0),e7 .i64 i]++Jn 114) _ (b0e (bt9 (g:=g) hg hw) (bs8 (g:=g) hg hw) ?_) ?_
    ·exact ⟨rfl,rfl,⟨by rw [z7 om];rfl,rfl,rfl⟩,rfl,trivial⟩
    refine t4 g8 _ ?_
    conv=>whnf
    repeat' (first|refine zx ?_|refine i9 (i5 _ _ _) ?_|refine i7 ?_|refine zd ?_ ?_<;>intro h<;>try omega|fail)<;>conv=>whnf
    refine ⟨hlt,trivial,idR (K1+1+9),?_⟩
    rw [e1,show (F1++[(i,true)]).length=K1+1 by simp [hK1],aZ9 hw]
    exact t7 (T:=[]) (T':=[]) rfl rfl (G6 _) zq ⟨rfl,rfl,⟨j5 om,rfl,rfl⟩,g9 om,trivial⟩
 ·have hie:i=s.rows.length:=by omega
  subst hie
  have efr:J4 (k7 s) s.rows.length=j0 (k7 s):=by unfold j0;rw [show (k7 s).rows.length=s.rows.length from lbr ..]
  rw [efr]
  have hm2:=a0W (s:=k7 s) s.rows.length
  rw [efr] at hm2
  generalize j0 (k7 s)=fr at hm2
  obtain ⟨m,hm⟩:∃m,m=fr.length:=⟨_,rfl⟩
  rw [← hm] at hm2 ⊢
  refine k5 g8 (fun q=>([J,s6 g,S.c (C.t (T.ptr (a0X s))),J,J,S.c (C.ptr 0 0 0),J,e7 .i64 q]++Jn 113,J7 m n 0 fr (scL s fr) 1 (V0 s g) (fun _=>0) (fun i=>n+i) (fun j=>j) (A0 s g) [])) g.length (fun _=>True) (idR (m+9)) trivial ?_ ?_
  ·exact t7 (T:=[]) (T':=[]) rfl rfl (G6 _) zq ⟨rfl,rfl,⟨j5 om,rfl,rfl⟩,g9 rfl,trivial⟩
  intro q hq _
  by_cases hlt:q<g.length
  ·obtain ⟨t,ht⟩:∃t,g[q]? =some t:=⟨_,lbf hlt⟩
   obtain ⟨c,hc,hcb⟩:=hgw t (lbm ht)
   have ci:=aI6 1 de c om hcb
   rw [← hc] at ci
   conv=>whnf
   repeat' (first|refine zx ?_|refine qp ci ?_|refine j6 ht ?_|refine i9 (i5 _ _ _) ?_|refine i7 ?_|refine bl0 [0] ?_|refine zd ?_ ?_<;>intro h<;>try omega|fail)<;>conv=>whnf
   all_goals first
    |omega
    |exact ⟨hlt,trivial,idR (m+9),t7 (T:=[]) (T':=[]) rfl rfl (G6 _) zq ⟨rfl,rfl,⟨j5 om,rfl,rfl⟩,g9 om,trivial⟩⟩
  ·have hqe:q=g.length:=by omega
   subst hqe
   conv=>whnf
   repeat' (first|refine zx ?_|refine i9 (i5 _ _ _) ?_|refine i7 ?_|refine zd ?_ ?_<;>intro h<;>try omega|fail)<;>conv=>whnf
   all_goals try omega
   refine k5 g8 (fun q=>([J,s6 g,S.c (C.t (T.ptr (a0X s))),J,J,S.c (C.ptr 0 0 0),J,J,e7 .i64 q]++Jn 112,J7 m n 0 fr (scL s fr) 1 (V0 s g) (C0 g q) (fun i=>n+i) (fun j=>j) (A0 s g) [])) g.length (fun _=>True) (idR (m+9)) trivial ?_ ?_
   ·rw [bo5]
    exact t7 (T:=[]) (T':=[]) rfl rfl (G6 _) zq ⟨rfl,rfl,⟨j5 om,rfl,rfl⟩,g9 rfl,trivial⟩
   intro q hq _
   by_cases hlt:q<g.length
   ·obtain ⟨t,ht⟩:∃t,g[q]? =some t:=⟨_,lbf hlt⟩
    obtain ⟨c,hc,hcb⟩:=hgw t (lbm ht)
    obtain ⟨t0,t1,t2⟩:=L0 htg t (lbm ht)
    have ti:=b03 1 c om hcb
    have lc:bl (1*c)<=300000:=by rw [a2g];omega
    have ng:=a5Z (1*c) lc
    rw [← hc] at ti
    have eV:0+t.1.toNat=t.1.toNat:=om
    have gp:(zF n (C0 g q))[0+t.1.toNat]? =some (C0 g q t.1.toNat):=by rw [eV,S8 om]
    conv=>whnf
    repeat' (first|refine zx ?_|refine qp ti ?_|refine qp ng ?_|refine j6 ht ?_|refine a2o gp ?_|refine i9 (i5 _ _ _) ?_|refine i7 ?_|refine bl0 [0,1,2,3] ?_|refine zd ?_ ?_<;>intro h<;>try omega|fail)<;>conv=>whnf
    all_goals first
     |omega
     |exact ⟨hlt,trivial,idR (m+9),t7 (T:=[]) (T':=[]) (L5 rfl rfl rfl ((a1k eV om).trans (by rw [bl3 ht hc])) rfl rfl rfl rfl rfl rfl) rfl (G6 _) zq ⟨rfl,rfl,⟨j5 om,rfl,rfl⟩,g9 om,trivial⟩⟩
   ·have hqe:q=g.length:=by omega
    subst hqe
    conv=>whnf
    repeat' (first|refine zx ?_|refine i9 (i5 _ _ _) ?_|refine i7 ?_|refine zd ?_ ?_<;>intro h<;>try omega|fail)<;>conv=>whnf
    all_goals try omega
    refine k5 g8 (fun q=>([J,J,S.c (C.t (T.ptr (a0X s))),J,J,S.c (C.ptr 0 0 0),J,J,J,e7 .i64 q]++Jn 111,J7 m n q fr (scL s fr) 1 (V0 s g) (C0 g g.length) (fun i=>n+i) (fun j=>j) (A0 s g) [])) n (fun _=>True) (idR (m+9)) trivial ?_ ?_
    ·exact t7 (T:=[]) (T':=[]) rfl rfl (G6 _) zq ⟨rfl,⟨j5 om,rfl,rfl⟩,g9 rfl,trivial⟩
    intro q hq _
    by_cases hlt:q<n
    ·conv=>whnf
     repeat' (first|refine zx ?_|refine z6 (by simp [toC,n9]) (by simp [toC,n9];omega) ?_|refine i9 (i5 _ _ _) ?_|refine i7 ?_|refine bl0 [0] ?_|refine zd ?_ ?_<;>intro h<;>try omega|fail)<;>conv=>whnf
     all_goals first
      |omega
      |(refine ⟨hlt,trivial,fR (m+9) (fF m),b7m (L5 rfl rfl rfl rfl rfl rfl rfl rfl rfl (congrArg (fun z=>(mZ m n (A0 s g)).map zlB++[z]) ?_)) ⟨rfl,⟨by rw [z7 om];rfl,rfl,rfl⟩,g9 om,trivial⟩⟩
        exact congrArg (fun z=>({ mode:=.live,elem:=3,size:=1,rows:=z,box:=false }:Blk)) (a4H (O:=fun j=>j) (x:=(q:Int)) rfl))
    ·have hqe:q=n:=by omega
     subst hqe
     conv=>whnf
     repeat' (first|refine zx ?_|refine i9 (i5 _ _ _) ?_|refine i7 ?_|refine zd ?_ ?_<;>intro h<;>try omega|fail)<;>conv=>whnf
     all_goals first
      |omega
      |exact a5Y (T:=[]) rfl rfl (G6 _) ⟨j5 om,rfl,rfl⟩
def b85 {q z:Int} {x:Rat} (hq:0<q) (h:((z:Int):Rat)=((q:Int):Rat)*x):Rat.divInt z q=x:=by
 have hne:((q:Int):Rat)≠0:=by
  intro e;have:q=0:=by exact_mod_cast e
  omega
 rw [a80,h,ap3,ad8,a9X,b1V _ hne];grind
def ax9 {ρ:List (Option Nat)} {H:Hp} {n N:Nat} (e:N=n):a3g ρ H (F8 86 4 (List.replicate N [F4 (.int .i64 0),F4 (.slice none 0 0),F4 (.int .i64 0),F4 (.slice none 0 0)]) false) (flB (pZ 0 n)):=by
 subst e;refine ⟨rfl,rfl,rfl,.inr (a2a ?_ ?_)⟩
 ·simp [F8,toC,aw8]
 ·intro i x y hx hy;simp only [F8,lbk] at hx;split at hx
  ·rename_i hi;injection hx with hx;subst hx;have hy:(toC ((pZ 0 N).map B2))[i]? =some y:=hy;rw [toC,lba,lba,a6K om,iB om] at hy;injection hy with hy;subst hy;exact rz
  ·cases hx
def b2O {k n i:Nat} (e:i=k) (h:k<n):D4 (flB (pZ k n)) ((flB (pZ k n)).rows.set i (frC (fz ((0:Int):Rat))))=flB (pZ (k+1) n):=by
 have:=Q4 (row:=pZ k n) (y:=fz 0) e;rw [b6G h] at this;exact this
def b41 (n:Nat) (hn:n<=1000):ec 284 [eI n] [] (.c (.own 0 0 n true)) [flB (rF n fun _=>0)]:=by
 have i0:=ak5 0 de de;refine ac Tryz.func284 ?_;conv=>whnf
 repeat' (first|refine zx ?_|refine a2m om om om de ?_|apply zD<;>intro h<;>try omega)<;>conv=>whnf
 refine k5 g8 (fun k=>([eI n,J,J,S.c (C.own 0 0 n true),eI k]++Jn 12,[flB (pZ k n)])) n tT [some 0] trivial
  ⟨rfl,rfl,⟨ax9 om,trivial⟩,⟨g9 rfl,⟨rfl,rfl,om,fun h=>h⟩,g9 rfl,trivial⟩⟩ ?_
 intro k hk _;by_cases hlt:k<n
 ·have eM:0+(k:Int).toNat=k:=by omega
  have gp:(pZ k n)[0+(k:Int).toNat]? =some (if k<k then fz 0 else a0z):=by rw [eM];exact a6K hlt
  conv=>whnf
  repeat' (first|refine zx ?_|refine w9 gp ?_|apply zD<;>intro h<;>try omega)<;>conv=>whnf
  all_goals first|omega|exact ⟨hlt,trivial,[some 0],rfl,rfl,⟨i6 (rows:=(pZ (k+1) n).map B2) rfl rfl rfl (congrArg Blk.rows (b2O eM hlt)) rfl,trivial⟩,⟨rfl,⟨rfl,rfl,rfl,fun h=>h⟩,g9 om,trivial⟩⟩
 ·have hke:k=n:=by omega
  subst hke;conv=>whnf
  repeat' (first|refine zx ?_|apply zD<;>intro h<;>try omega)<;>conv=>whnf
  all_goals first|omega|exact ⟨[some 0],rfl,rfl,⟨i6 (rows:=(rF k fun _=>0).map B2) rfl rfl rfl (by rw [← aQ4]) rfl,trivial⟩,⟨rfl,rfl,rfl,fun h=>h⟩⟩
def aw1 {n i j:Nat} {g:Nat->Rat} {y:Rat} (e:i=j) (h:j<n):D4 (flB (rF n g)) ((flB (rF n g)).rows.set i (frC (fz y)))=flB (rF n fun k=>if k=j then y else g k):=by
 subst e;have:=Q4 (row:=rF n g) (y:=fz y) (rfl:i=i);rw [a0J h] at this;exact this
def K2 {ρ:List (Option Nat)} {H:Hp} {k:Blk} {l:List Fr} (h:k=flB l):a3g ρ H k (flB l):=by subst h;exact j8 (j3 _)
def bg0 (m n:Nat) (fr:LB) (sc:LI) (Z:Zd) (D:Fd) (hr:aZ1 m n Z D) (hP:Z0 m n D) (hB:ZB m n 1000 Z) (hm:m<=100000) (hn:n<=1000):
 ec 215 [jT m n fr sc Z,eI n] [] (H5 ((zOf n (Q6 m n D 1 (fun _=>0))).map fz)) []:=by
 have m1:(Z2 m Z.O).length=m:=n9 _ _;have i0:=ak5 0 de de;have lD:=hB.d;rw [a30,←F6 (g:=ptK n D.O D.V (fun _=>0) m) fun j hj=>ap6 hP hj];refine ac Tryz.func215 ?_;conv=>whnf
 repeat' (first|refine zx ?_|refine a2m om om om de ?_|apply zD<;>intro h<;>try omega)<;>conv=>whnf
 refine k5 g8 (fun k=>([jT m n fr sc Z,eI n,J,J,J,S.c (C.own 0 0 n true),eI k]++Jn 52,[flB (pZ k n)])) n tT [some 0] trivial
  ⟨rfl,rfl,⟨ax9 om,trivial⟩,⟨rfl,g9 rfl,⟨rfl,rfl,om,fun h=>h⟩,g9 rfl,trivial⟩⟩ ?_
 intro k hk _;by_cases hlt:k<n
 ·have eM:0+(k:Int).toNat=k:=by omega
  have gp:(pZ k n)[0+(k:Int).toNat]? =some (if k<k then fz 0 else a0z):=by rw [eM];exact a6K hlt
  conv=>whnf
  repeat' (first|refine zx ?_|refine w9 gp ?_|apply zD<;>intro h<;>try omega)<;>conv=>whnf
  all_goals first|omega|exact ⟨hlt,trivial,[some 0],rfl,rfl,⟨K2 (b2O eM hlt),trivial⟩,⟨rfl,rfl,⟨rfl,rfl,rfl,fun h=>h⟩,g9 om,trivial⟩⟩
 ·have hke:k=n:=by omega
  subst hke;conv=>whnf
  repeat' (first|refine zx ?_|apply zD<;>intro h<;>try omega)<;>conv=>whnf
  all_goals try omega
  refine k5 g8 (fun i=>([jT m k fr sc Z,eI k,J,J,J,S.c (C.own 0 0 k true),J,eI i]++Jn 51,[flB (rF k (ptK k D.O D.V (fun _=>0) i))])) m tT [some 0] trivial
   ⟨rfl,rfl,⟨K2 (by rw [aQ4];rfl),trivial⟩,⟨rfl,rfl,⟨rfl,rfl,rfl,fun h=>h⟩,g9 rfl,trivial⟩⟩ ?_
  intro i hi _;by_cases hlt:i<m
  ·have eO:Z.O i=D.O i:=by rw [hr.o]
   by_cases ho:D.O i<k
   ·have rt:=aR5 (Z.V i) Z.D hr.d (by have:=hB.v i hlt;omega) om;rw [b85 hr.d (hr.v i hlt)] at rt;have eIq:0+((Z.O i:Nat):Int).toNat=D.O i:=by rw [eO];omega
    have gp:(rF k (ptK k D.O D.V (fun _=>0) i))[0+((Z.O i:Nat):Int).toNat]? =some (fz (ptK k D.O D.V (fun _=>0) i (D.O i))):=by rw [eIq,L3 ho]
    have e:rF k (fun j=>if j=D.O i then D.V i else ptK k D.O D.V (fun _=>0) i j)=rF k (ptK k D.O D.V (fun _=>0) (i+1)):=by
     rw [L2];exact F6 fun j hj=>by simp only [ho,true_and]
    conv=>whnf
    repeat' (first|refine zx ?_|refine t6 rfl hlt ?_|refine a0Q rfl hlt ?_|refine w9 gp ?_|apply zD<;>intro h<;>try omega)<;>conv=>whnf
    all_goals first|omega|exact ⟨hlt,trivial,[some 0],rfl,rfl,⟨K2 ((aw1 eIq ho).trans (by rw [e])),trivial⟩,⟨rfl,rfl,⟨rfl,rfl,rfl,fun h=>h⟩,g9 om,trivial⟩⟩
   ·have e:ptK k D.O D.V (fun _=>0) (i+1)=ptK k D.O D.V (fun _=>0) i:=by rw [L2];funext j;rw [iB (fun h=>ho h.1)]
    conv=>whnf
    repeat' (first|refine zx ?_|refine t6 rfl hlt ?_|apply zD<;>intro h<;>try omega)<;>conv=>whnf
    all_goals first|omega|exact ⟨hlt,trivial,[some 0],rfl,rfl,⟨K2 (by rw [e]),trivial⟩,⟨rfl,rfl,⟨rfl,rfl,rfl,fun h=>h⟩,g9 om,trivial⟩⟩
  ·have hie:i=m:=by omega
   subst hie;conv=>whnf
   repeat' (first|refine zx ?_|apply zD<;>intro h<;>try omega)<;>conv=>whnf
   all_goals first|omega|exact N3 rfl (fun h=>h) rfl rfl (by simp [O9])
def bO0 (m n:Nat) (fr:LB) (sc:LI) (Z:Zd) (D:Fd) (c:Nat) (hc:c<n) (hr:aZ1 m n Z D) (hP:Z0 m n D) (hB:ZB m n 1000 Z) (hm:m<=100000) (hn:n<=1000):
 ec 217 [jT m n fr sc Z,eI n,eI c] [] (H5 ((zOf n (Q6 m n D 0 (fun q=>if q=c then 1 else 0))).map fz)) []:=by
 have m1:(Z2 m Z.O).length=m:=n9 _ _;have i0:=ak5 0 de de;have i1:=ak5 1 de de;have lD:=hB.d;obtain ⟨x0,hx0⟩:∃x0:Nat->Rat,x0=fun j=>if D.F c<n/\j=D.F c then 1 else 0:=⟨_,rfl⟩
 rw [a30,←F6 (g:=ptK n D.O (fun i=>-(D.A i c)) x0 m) fun j hj=>by rw [hx0];exact aj7 hP hc hj];have eF:Z.F c=D.F c:=by rw [hr.f]
 (refine O3 g8 Tryz.func217 rfl de ?_;refine w8 g8 ?_;(conv=>whnf);repeat ((first|refine b0x ?_|refine zy ?_);conv=>whnf))
 repeat' (first|refine zx ?_|apply zD<;>intro h<;>try omega)<;>conv=>whnf
 refine B3 g8 ([jT m n fr sc Z,eI n,eI c,J,J,J,J,S.c (C.own 0 0 n true)]++Jn 76) [flB (pZ 0 n)] ?_ ?_
 ·conv=>whnf
  repeat' (first|refine zx ?_|refine a2m om om om de ?_|apply zD<;>intro h<;>try omega)<;>conv=>whnf
  all_goals exact ⟨[some 0],rfl,rfl,⟨ax9 om,trivial⟩,⟨rfl,g9 rfl,g9 rfl,⟨rfl,rfl,om,fun h=>h⟩,trivial⟩⟩
 refine B3 g8 ([jT m n fr sc Z,eI n,eI c,J,J,J,J,S.c (C.own 0 0 n true)]++Jn 76) [flB (rF n fun _=>0)] ?_ ?_
 ·conv=>whnf
  repeat' (first|refine zx ?_|apply zD<;>intro h<;>try omega)<;>conv=>whnf
  refine k5 g8 (fun k=>([jT m n fr sc Z,eI n,eI c,J,J,J,J,S.c (C.own 0 0 n true),eI k]++Jn 75,[flB (pZ k n)])) n tT [some 0] trivial
   ⟨rfl,rfl,⟨K2 rfl,trivial⟩,⟨rfl,rfl,rfl,⟨rfl,rfl,rfl,fun h=>h⟩,g9 rfl,trivial⟩⟩ ?_
  intro k hk _;by_cases hlt:k<n
  ·have eM:0+(k:Int).toNat=k:=by omega
   have gp:(pZ k n)[0+(k:Int).toNat]? =some (if k<k then fz 0 else a0z):=by rw [eM];exact a6K hlt
   conv=>whnf
   repeat' (first|refine zx ?_|refine w9 gp ?_|apply zD<;>intro h<;>try omega)<;>conv=>whnf
   all_goals first|omega|exact ⟨hlt,trivial,[some 0],rfl,rfl,⟨K2 (b2O eM hlt),trivial⟩,⟨rfl,rfl,rfl,⟨rfl,rfl,rfl,fun h=>h⟩,g9 om,trivial⟩⟩
  ·have hke:k=n:=by omega
   subst hke;conv=>whnf
   repeat' (first|refine zx ?_|apply zD<;>intro h<;>try omega)<;>conv=>whnf
   all_goals first|omega|exact ⟨[some 0],rfl,rfl,⟨K2 (by rw [aQ4]),trivial⟩,⟨rfl,rfl,rfl,⟨rfl,rfl,rfl,fun h=>h⟩,trivial⟩⟩
 refine B3 g8 ([jT m n fr sc Z,eI n,eI c,J,J,J,J,S.c (C.own 0 0 n true)]++Jn 76) [flB (rF n x0)] ?_ ?_
 ·by_cases hf:D.F c<n
  ·have eC:0+((Z.F c:Nat):Int).toNat=D.F c:=by rw [eF];omega
   have gp:(rF n fun _=>(0:Rat))[0+((Z.F c:Nat):Int).toNat]? =some (fz 0):=by rw [eC,L3 hf]
   have e:rF n (fun j=>if j=D.F c then ((1:Int):Rat) else 0)=rF n x0:=by
    rw [hx0];exact F6 fun j hj=>by simp only [hf,true_and];rfl
   conv=>whnf
   repeat' (first|refine zx ?_|refine t6 rfl hc ?_|refine w9 gp ?_|apply zD<;>intro h<;>try omega)<;>conv=>whnf
   all_goals first|omega|exact ⟨[some 0],rfl,rfl,⟨K2 ((aw1 eC hf).trans (by rw [e])),trivial⟩,⟨rfl,rfl,rfl,⟨rfl,rfl,rfl,fun h=>h⟩,trivial⟩⟩
  ·have e:x0=fun _=>0:=by rw [hx0];funext j;rw [iB (fun h=>hf h.1)]
   conv=>whnf
   repeat' (first|refine zx ?_|refine t6 rfl hc ?_|apply zD<;>intro h<;>try omega)<;>conv=>whnf
   all_goals first|omega|exact ⟨[some 0],rfl,rfl,⟨K2 (by rw [e]),trivial⟩,⟨rfl,rfl,rfl,⟨rfl,rfl,rfl,fun h=>h⟩,trivial⟩⟩
 refine t4 g8 _ ?_;conv=>whnf
 repeat' (first|refine zx ?_|apply zD<;>intro h<;>try omega)<;>conv=>whnf
 refine k5 g8 (fun i=>([jT m n fr sc Z,eI n,eI c,J,J,J,J,S.c (C.own 0 0 n true),J,eI i]++Jn 74,[flB (rF n (ptK n D.O (fun i=>-(D.A i c)) x0 i))])) m tT [some 0] trivial
  ⟨rfl,rfl,⟨K2 rfl,trivial⟩,⟨rfl,rfl,rfl,⟨rfl,rfl,rfl,fun h=>h⟩,g9 rfl,trivial⟩⟩ ?_
 intro i hi _;by_cases hlt:i<m
 ·have eO:Z.O i=D.O i:=by rw [hr.o]
  by_cases ho:D.O i<n
  ·have bA:=hB.a i hlt c hc;have ng:=a5Z (Z.A i c) om;have rt:=aR5 (-(Z.A i c)) Z.D hr.d (by rw [Y4];omega) om;rw [b85 hr.d (x:=-(D.A i c)) (by push_cast;rw [hr.a i hlt c hc];grind)] at rt;have eIq:0+((Z.O i:Nat):Int).toNat=D.O i:=by rw [eO];omega
   have gp:(rF n (ptK n D.O (fun i=>-(D.A i c)) x0 i))[0+((Z.O i:Nat):Int).toNat]? =some (fz (ptK n D.O (fun i=>-(D.A i c)) x0 i (D.O i))):=by rw [eIq,L3 ho]
   have e:rF n (fun j=>if j=D.O i then -(D.A i c) else ptK n D.O (fun i=>-(D.A i c)) x0 i j)=rF n (ptK n D.O (fun i=>-(D.A i c)) x0 (i+1)):=by
    rw [L2];exact F6 fun j hj=>by simp only [ho,true_and]
   conv=>whnf
   repeat' (first|refine zx ?_|refine t6 rfl hlt ?_|refine a1P rfl hlt ?_|refine a0Q rfl hc ?_|refine w9 gp ?_|apply zD<;>intro h<;>try omega)<;>conv=>whnf
   all_goals first|omega|exact ⟨hlt,trivial,[some 0],rfl,rfl,⟨K2 ((aw1 eIq ho).trans (by rw [e])),trivial⟩,⟨rfl,rfl,rfl,⟨rfl,rfl,rfl,fun h=>h⟩,g9 om,trivial⟩⟩
  ·have e:ptK n D.O (fun i=>-(D.A i c)) x0 (i+1)=ptK n D.O (fun i=>-(D.A i c)) x0 i:=by rw [L2];funext j;rw [iB (fun h=>ho h.1)]
   conv=>whnf
   repeat' (first|refine zx ?_|refine t6 rfl hlt ?_|apply zD<;>intro h<;>try omega)<;>conv=>whnf
   all_goals first|omega|exact ⟨hlt,trivial,[some 0],rfl,rfl,⟨K2 (by rw [e]),trivial⟩,⟨rfl,rfl,rfl,⟨rfl,rfl,rfl,fun h=>h⟩,g9 om,trivial⟩⟩
 ·have hie:i=m:=by omega
  subst hie;conv=>whnf
  repeat' (first|refine zx ?_|apply zD<;>intro h<;>try omega)<;>conv=>whnf
  all_goals first|omega|exact N3 rfl (fun h=>h) rfl rfl (by simp [O9])
def b5o {x y:Int}:P6 x y=0↔x=y:=by unfold P6;split<;>(try split)<;>omega
def b4q (f:Fr) (lp:f.p.dl.length<=200000) (lq:f.q.dl.length<=200000):ec 165 [frS f] [] (m9 (V8 f)) []:=by
 obtain ⟨p,q⟩:=f;simp only at lp lq;have r1:=a4Q p om;have r2:=a4Q q om;cases hp:M7 p with
 |false=>
  rw [hp] at r1;refine ac Tryz.func165 ?_;conv=>whnf
  repeat' (first|refine zx ?_|apply zD<;>intro<;>try omega)<;>conv=>whnf
  all_goals (first|(exfalso;simp_all;done)|(refine j1 ?_;unfold V8;simp [hp]))
 |true=>
  rw [hp] at r1;cases hq:M7 q with
  |false=>
   rw [hq] at r2;refine ac Tryz.func165 ?_;conv=>whnf
   repeat' (first|refine zx ?_|apply zD<;>intro<;>try omega)<;>conv=>whnf
   all_goals (first|(exfalso;simp_all;done)|(refine j1 ?_;unfold V8;simp [hq]))
  |true=>
   rw [hq] at r2;obtain ⟨x,rfl⟩:=ax8 hp;obtain ⟨y,rfl⟩:=ax8 hq;have hsg:(bz y).sg=y.sign:=rfl;have hsg2:(Fr.mk (bz x) (bz y)).q.sg=y.sign:=rfl;have sy:=G4 y;have lg:=ab2 x y lp lq;have g:=b8g x y lp lq;have o:=b5B 1 de de;have c:=aE9 (Int.gcd x y) 1 om (by have:=w5 (x:=1) de de;omega);have hc:=b5o (x:=Int.gcd x y) (y:=1);refine ac Tryz.func165 ?_;conv=>whnf
   repeat' (first|refine zx ?_|refine bl0 [5] ?_|apply zD<;>intro<;>try omega)<;>conv=>whnf
   all_goals first|(exfalso;simp_all;done)|(refine j1 ?_;unfold V8;simp only [a13,a68,K9];simp;omega)
def aD7 (x:Rat) (lx:rl x<=200000):ec 165 [frS (fz x)] [] (m9 true) []:=by
 have h:=b4q (fz x) (lbS (K6 x) lx) (lbS (J9 x) lx);rw [ao1] at h;exact h
def ap0 (x y:Rat):0<(x.den:Int)*y.den:=ab0 (by have:=x.den_pos;omega) (by have:=y.den_pos;omega)
def b44 (x y:Rat) (lx:rl x<=60000) (ly:rl y<=60000):ec 236 [frS (fz x),frS (fz y)] [] (.tup [frS (fz (x+y)),eI 0]) []:=by
 have r1:=aD7 x om;have r2:=aD7 y om;have x1:=K6 x;have x2:=J9 x;have y1:=K6 y;have y2:=J9 y;have l1:=I2 x.num y.den;have l2:=I2 y.num x.den;have l3:=I2 x.den y.den;have l4:=a8p (x.num*y.den) (y.num*x.den);have t1:=a9r x.num y.den om om;have t2:=a9r y.num x.den om om;have t3:=a9r x.den y.den om om;have a:=b8K (x.num*y.den) (y.num*x.den) om om;have n:=b0H (x.num*y.den+y.num*x.den) (x.den*y.den) (ap0 x y) om om;rw [← al1] at n;refine ac Tryz.func236 ?_;conv=>whnf
 repeat' (first|refine zx ?_|refine bl0 [7] ?_|refine bl0 [5] ?_|apply zD<;>intro<;>try omega)<;>conv=>whnf
 all_goals first|(exfalso;simp_all;done)|exact a0H rfl
def bt7 (x y:Rat) (lx:rl x<=60000) (ly:rl y<=60000):ec 274 [frS (fz x),frS (fz y)] [] (.tup [frS (fz (x - y)),eI 0]) []:=by
 have r1:=aD7 x om;have r2:=aD7 y om;have x1:=K6 x;have x2:=J9 x;have y1:=K6 y;have y2:=J9 y;have l1:=I2 x.num y.den;have l2:=I2 y.num x.den;have l3:=I2 x.den y.den;have l4:=a8p (x.num*y.den) (-(y.num*x.den));rw [Y4,←ab9] at l4;have t1:=a9r x.num y.den om om;have t2:=a9r y.num x.den om om;have t3:=a9r x.den y.den om om;have a:=bs9 (x.num*y.den) (y.num*x.den) om om;have n:=b0H (x.num*y.den - y.num*x.den) (x.den*y.den) (ap0 x y) om om;have e:Rat.divInt (x.num*y.den - y.num*x.den) (x.den*y.den)=x - y:=by
  have:=al1 x (-y);rw [ax3,Rat.neg_den,Int.neg_mul,←ab9,←b3F] at this;exact this.symm
 rw [e] at n;refine ac Tryz.func274 ?_;conv=>whnf
 repeat' (first|refine zx ?_|refine bl0 [7] ?_|refine bl0 [5] ?_|apply zD<;>intro<;>try omega)<;>conv=>whnf
 all_goals first|(exfalso;simp_all;done)|exact a0H rfl
def bN9 (x y:Rat) (lx:rl x<=60000) (ly:rl y<=60000):ec 235 [frS (fz x),frS (fz y)] [] (.tup [frS (fz (x*y)),eI 0]) []:=by
 have r1:=aD7 x om;have r2:=aD7 y om;have x1:=K6 x;have x2:=J9 x;have y1:=K6 y;have y2:=J9 y;have l1:=I2 x.num y.num;have l3:=I2 x.den y.den;have t1:=a9r x.num y.num om om;have t3:=a9r x.den y.den om om;have n:=b0H (x.num*y.num) (x.den*y.den) (ap0 x y) om om;rw [← aQ2] at n;refine ac Tryz.func235 ?_;conv=>whnf
 repeat' (first|refine zx ?_|refine bl0 [7] ?_|refine bl0 [5] ?_|apply zD<;>intro<;>try omega)<;>conv=>whnf
 all_goals first|(exfalso;simp_all;done)|exact a0H rfl
def b9e (x:Rat) (lx:rl x<=60000):ec 92 [frS (fz x)] [] (eI (sgR x)) []:=by
 have r1:=aD7 x om;refine ac Tryz.func92 ?_;conv=>whnf
 repeat' (first|refine zx ?_|apply zD<;>intro<;>try omega)<;>conv=>whnf
 all_goals first|(exfalso;simp_all;done)|exact p9 (a9w x)
def ai8 (fr:LB) (sc:LI) (y:Nat->Rat) (i:Nat) (p q:Int):Nat->Rat:=fun k=>
 if k=(fr.getD i (0,false)).1 then (if (fr.getD i (0,false)).2 then y k+Rat.divInt (p*sc.getD i 0) q else y k - Rat.divInt (p*sc.getD i 0) q) else y k
def b7Q {fr:LB} {sc:LI} {y:Nat->Rat} {i B:Nat} {p q:Int} (hq:0<q) (hy:∀k,rl (y k)<=B) (lp:bl p<=1000) (lq:bl q<=1002) (ls:∀i,bl (sc.getD i 0)<=10):∀k,rl (ai8 fr sc y i p q k)<=B+1020:=by
 intro k;have h1:=I2 p (sc.getD i 0);have h2:=ls i;have h3:=X4 (p:=p*sc.getD i 0) (q:=q) om;have h4:=hy k;have h5:=a40 (y k) (Rat.divInt (p*sc.getD i 0) q);have h6:=aT3 (y k) (Rat.divInt (p*sc.getD i 0) q);unfold ai8;split
 ·split<;>omega
 ·omega
def an2 (m n R i row B:Nat) (b:Bool) (fr:LB) (sc:LI) (Z:Zd) (y:Nat->Rat) (p q:Int) (hsc:sc.length=m) (hi:i<m) (hf:fr[i]? =some (row,b)) (hrow:row<R) (hq:0<q) (hy:∀k,rl (y k)<=B) (hB:B<=40000) (lp:bl p<=1000) (lq:bl q<=1002) (ls:∀i,bl (sc.getD i 0)<=10) (hm:m<=100000):
 ec 285 [jT m n fr sc Z,.c (.own 0 0 R true),eI i,bgS (bz p),bgS (bz q)] [flB (rF R y)] (.tup []) [flB (rF R (ai8 fr sc y i p q))]:=by
 obtain ⟨d,hd⟩:∃d,sc[i]? =some d:=⟨_,lbf om⟩;have hdg:sc.getD i 0=d:=by rw [lbl,hd];rfl
 have hfg:fr.getD i (0,false)=(row,b):=by rw [lbl,hf];rfl
 have ld:=ls i;rw [hdg] at ld;have h1:=I2 p d;have h3:=X4 (p:=p*d) (q:=q) om;have mu:=am5 p d om om;have rt:=aR5 (p*d) q hq om om;have su:=bt7 (y row) (Rat.divInt (p*d) q) (by have:=hy row;omega) om;have ad:=b44 (y row) (Rat.divInt (p*d) q) (by have:=hy row;omega) om;have gs:(W7 fr)[i]? =some (sg1 b):=by unfold W7;rw [lba,hf];rfl
 have gi:(frI fr)[i]? =some (row:Int):=by unfold frI;rw [lba,hf];rfl
 have eR:0+(row:Int).toNat=row:=om;have gy:(rF R y)[0+(row:Int).toNat]? =some (fz (y row)):=by rw [eR,L3 hrow]
 have gd:((sc.map Y7))[(i:Int).toNat]? =some (Y7 d):=by rw [show (i:Int).toNat=i by omega,lba,hd];rfl
 have exd:∀{K:List T->Prop},K (Y7 d)->∃row,0<=(i:Int)/\(sc.map Y7)[(i:Int).toNat]? =some row/\K row:=fun k=>⟨_,om,gd,k⟩
 cases b with
 |false=>
  have e:(fun k=>if k=row then y row - Rat.divInt (p*d) q else y k)=ai8 fr sc y i p q:=by
   funext k;unfold ai8;rw [hfg,hdg];by_cases hk:k=row
   ·subst hk;rw [iA rfl,iA rfl];rfl
   ·rw [iB hk,iB hk]
  have gs:(W7 fr)[i]? =some 1:=gs;refine ac Tryz.func285 ?_;conv=>whnf
  repeat' (first|refine zx ?_|refine exd ?_|refine N4 rfl gs ?_|refine N4 rfl gi ?_|refine w9 gy ?_|refine bl0 [14] ?_|apply zD<;>intro<;>try omega)<;>conv=>whnf
  all_goals first
   |omega
   |exact ⟨[some 0],rfl,rfl,⟨K2 ((aw1 eR hrow).trans (by rw [e])),trivial⟩,trivial⟩
 |true=>
  have e:(fun k=>if k=row then y row+Rat.divInt (p*d) q else y k)=ai8 fr sc y i p q:=by
   funext k;unfold ai8;rw [hfg,hdg];by_cases hk:k=row
   ·subst hk;rw [iA rfl,iA rfl];rfl
   ·rw [iB hk,iB hk]
  have gs:(W7 fr)[i]? =some (-1):=gs;refine ac Tryz.func285 ?_;conv=>whnf
  repeat' (first|refine zx ?_|refine exd ?_|refine N4 rfl gs ?_|refine N4 rfl gi ?_|refine w9 gy ?_|refine bl0 [14] ?_|apply zD<;>intro<;>try omega)<;>conv=>whnf
  all_goals first|omega|exact ⟨[some 0],rfl,rfl,⟨K2 ((aw1 eR hrow).trans (by rw [e])),trivial⟩,trivial⟩
def prK (n:Nat) (fr:LB) (sc:LI) (F:Nat->Nat) (P:Nat->Int) (q:Int) (y0:Nat->Rat):Nat->Nat->Rat
 |0=>y0
 |k+1=>if n<=F k then ai8 fr sc (prK n fr sc F P q y0 k) (F k - n) (P k) q else prK n fr sc F P q y0 k
def b2i {n B0:Nat} {fr:LB} {sc:LI} {F:Nat->Nat} {P:Nat->Int} {q:Int} {y0:Nat->Rat} (hq:0<q) (h0:∀i,rl (y0 i)<=B0) (lq:bl q<=1002) (ls:∀i,bl (sc.getD i 0)<=10):∀k,(∀ j,j<k->bl (P j)<=1000)->∀i,rl (prK n fr sc F P q y0 k i)<=B0+k*1020
 |0,_,i=>by have:=h0 i;show rl (y0 i)<=_;omega
 |k+1,hP,i=>by
  have ih:=b2i (n:=n) (fr:=fr) (F:=F) (P:=P) hq h0 lq ls k fun j hj=>hP j om
  rw [prK];split
  ·have:=b7Q (fr:=fr) (i:=F k - n) hq ih (hP k om) lq ls i;omega
  ·have:=ih i;omega
structure FrP (m R:Nat) (fr:LB) (sc:LI):Prop where
 lf:fr.length=m
 ls:sc.length=m
 r:∀f ∈ fr,f.1<R
 b:∀i,bl (sc.getD i 0)<=10
def b7H (m n R:Nat) (fr:LB) (sc:LI) (Z:Zd) (hF:FrP m R fr sc) (hB:ZB m n 1000 Z) (hd:0<Z.D) (hfb:∀j,j<n->Z.F j<n+m) (hm:m<=100000) (hn:n<=30) (hR:R<=1000):
 ec 216 [jT m n fr sc Z,eI n,eI R] [] (H5 (rF R (prK n fr sc Z.F (fun j=>-(Z.C j)) (Z.D*1) (fun _=>0) n))) []:=by
 have m1:(Z2 n Z.F).length=n:=n9 _ _;have lD:=hB.d;have l1:bl 1<=1:=w5 de de;have lq:=I2 Z.D 1;have hq:0<Z.D*1:=om;have z0:∀H:Hp,H.length=0->a0k Tryz.prog 284 [eI R] H (.c (.own 0 0 R true)) [flB (rF R fun _=>0)]:=fun H hH=>by
  have:=a1x (H:=H) (b41 R hR) rfl rfl (j3 _);rwa [hH] at this
 have mq:=am5 Z.D 1 om om;have r0:∀i:Nat,rl ((fun _=>(0:Rat)) i)<=1:=fun i=>rl0
 refine ac Tryz.func216 ?_;conv=>whnf
 repeat' (first|refine zx ?_|refine .inl ⟨_,_,z0 _ rfl,?_⟩|apply zD<;>intro h<;>try omega)<;>conv=>whnf
 refine k5 g8 (fun k=>([jT m n fr sc Z,eI n,J,J,J,J,J,S.c (C.own 0 0 R true),eI k]++Jn 50,[flB (rF R (prK n fr sc Z.F (fun j=>-(Z.C j)) (Z.D*1) (fun _=>0) k))])) n tT [some 0] trivial
  ⟨rfl,rfl,⟨K2 rfl,trivial⟩,⟨rfl,rfl,⟨rfl,rfl,rfl,fun h=>h⟩,g9 rfl,trivial⟩⟩ ?_
 intro k hk _;by_cases hlt:k<n
 ·have hF1:=hfb k hlt;have lc:=hB.c k hlt;have ng:=a5Z (Z.C k) om;have hy:=b2i (n:=n) (fr:=fr) (sc:=sc) (F:=Z.F) (P:=fun j=>-(Z.C j)) hq r0 om hF.b k (fun j hj=>by rw [Y4];exact hB.c j om);by_cases hge:n<=Z.F k
  ·obtain ⟨f,hf⟩:∃f,fr[Z.F k - n]? =some f:=⟨_,lbf (by have:=hF.lf;omega)⟩;have hfr:=hF.r f (lbm hf);have ch:=an2 m n R (Z.F k - n) f.1 (1+k*1020) f.2 fr sc Z (prK n fr sc Z.F (fun j=>-(Z.C j)) (Z.D*1) (fun _=>0) k) (-(Z.C k)) (Z.D*1) hF.ls om hf hfr hq hy om (by rw [Y4];omega) om hF.b hm;rw [show (((Z.F k - n:Nat):Nat):Int)=(Z.F k:Int) - (n:Int) by omega] at ch;have e:prK n fr sc Z.F (fun j=>-(Z.C j)) (Z.D*1) (fun _=>0) (k+1)=ai8 fr sc (prK n fr sc Z.F (fun j=>-(Z.C j)) (Z.D*1) (fun _=>0) k) (Z.F k - n) (-(Z.C k)) (Z.D*1):=by rw [prK,iA hge]
   conv=>whnf
   repeat' (first|refine zx ?_|refine .inr ⟨_,_,ch,?_⟩|refine t6 rfl hlt ?_|refine a0Q rfl hlt ?_|apply zD<;>intro h<;>try omega)<;>conv=>whnf
   all_goals first|omega|exact ⟨hlt,trivial,[some 0],rfl,rfl,⟨K2 (by rw [e]),trivial⟩,⟨rfl,rfl,⟨rfl,rfl,rfl,fun h=>h⟩,g9 om,trivial⟩⟩
  ·have e:prK n fr sc Z.F (fun j=>-(Z.C j)) (Z.D*1) (fun _=>0) (k+1)=prK n fr sc Z.F (fun j=>-(Z.C j)) (Z.D*1) (fun _=>0) k:=by rw [prK,iB hge]
   conv=>whnf
   repeat' (first|refine zx ?_|refine t6 rfl hlt ?_|apply zD<;>intro h<;>try omega)<;>conv=>whnf
   all_goals first|omega|exact ⟨hlt,trivial,[some 0],rfl,rfl,⟨K2 (by rw [e]),trivial⟩,⟨rfl,rfl,⟨rfl,rfl,rfl,fun h=>h⟩,g9 om,trivial⟩⟩
 ·have hke:k=n:=by omega
  subst hke;conv=>whnf
  repeat' (first|refine zx ?_|apply zD<;>intro h<;>try omega)<;>conv=>whnf
  all_goals first|omega|exact N3 rfl (fun h=>h) rfl rfl (by simp [O9])
def rfY (n:Nat) (fr:LB) (sc:LI) (Z:Zd) (r:Nat):Nat->Rat:=if n<=Z.O r then ai8 fr sc (fun _=>0) (Z.O r - n) Z.D Z.D else fun _=>0
def aV0 (m n R r:Nat) (fr:LB) (sc:LI) (Z:Zd) (hF:FrP m R fr sc) (hB:ZB m n 1000 Z) (hd:0<Z.D) (hr:r<m) (hfb:∀j,j<n->Z.F j<n+m) (hob:∀i,i<m->Z.O i<n+m) (hm:m<=100000) (hn:n<=30) (hR:R<=1000):
 ec 214 [jT m n fr sc Z,eI n,eI R,eI r] [] (H5 (rF R (prK n fr sc Z.F (Z.A r) Z.D (rfY n fr sc Z r) n))) []:=by
 have m1:(Z2 n Z.F).length=n:=n9 _ _;have lD:=hB.d;have z0:∀H:Hp,H.length=0->a0k Tryz.prog 284 [eI R] H (.c (.own 0 0 R true)) [flB (rF R fun _=>0)]:=fun H hH=>by
  have:=a1x (H:=H) (b41 R hR) rfl rfl (j3 _);rwa [hH] at this
 have r0:∀i:Nat,rl ((fun _=>(0:Rat)) i)<=1:=fun i=>rl0
 have ho1:=hob r hr;have hy0:∀i,rl (rfY n fr sc Z r i)<=1+1020:=by
  intro i;unfold rfY;split
  ·exact b7Q hd r0 om om hF.b i
  ·have:=rl0;show rl 0<=_;omega
 (refine O3 g8 Tryz.func214 rfl de ?_;refine w8 g8 ?_;(conv=>whnf);repeat ((first|refine b0x ?_|refine zy ?_);conv=>whnf))
 repeat' (first|refine zx ?_|apply zD<;>intro h<;>try omega)<;>conv=>whnf
 (refine w8 g8 ?_;conv=>whnf)
 repeat' (first|refine zx ?_|refine .inl ⟨_,_,z0 _ rfl,?_⟩|apply zD<;>intro h<;>try omega)<;>conv=>whnf
 refine B3 g8 ([jT m n fr sc Z,eI n,J,eI r,J,J,J,J,J,S.c (C.own 0 0 R true)]++Jn 77) [flB (rF R (rfY n fr sc Z r))] ?_ ?_
 ·by_cases hge:n<=Z.O r
  ·obtain ⟨f,hf⟩:∃f,fr[Z.O r - n]? =some f:=⟨_,lbf (by have:=hF.lf;omega)⟩;have hfr:=hF.r f (lbm hf);have ch:=an2 m n R (Z.O r - n) f.1 1 f.2 fr sc Z (fun _=>0) Z.D Z.D hF.ls om hf hfr hd r0 om om om hF.b hm;rw [show (((Z.O r - n:Nat):Nat):Int)=(Z.O r:Int) - (n:Int) by omega] at ch;have e:rfY n fr sc Z r=ai8 fr sc (fun _=>0) (Z.O r - n) Z.D Z.D:=iA hge;conv=>whnf
   repeat' (first|refine zx ?_|refine .inr ⟨_,_,ch,?_⟩|refine t6 rfl hr ?_|apply zD<;>intro h<;>try omega)<;>conv=>whnf
   all_goals first|omega|exact ⟨[some 0],rfl,rfl,⟨K2 (by rw [e]),trivial⟩,⟨rfl,rfl,rfl,⟨rfl,rfl,rfl,fun h=>h⟩,trivial⟩⟩
  ·have e:rfY n fr sc Z r=fun _=>0:=iB hge
   conv=>whnf
   repeat' (first|refine zx ?_|refine t6 rfl hr ?_|apply zD<;>intro h<;>try omega)<;>conv=>whnf
   all_goals first|omega|exact ⟨[some 0],rfl,rfl,⟨K2 (by rw [e]),trivial⟩,⟨rfl,rfl,rfl,⟨rfl,rfl,rfl,fun h=>h⟩,trivial⟩⟩
 refine t4 g8 _ ?_;conv=>whnf
 repeat' (first|refine zx ?_|apply zD<;>intro h<;>try omega)<;>conv=>whnf
 refine k5 g8 (fun k=>([jT m n fr sc Z,eI n,J,eI r,J,J,J,J,J,S.c (C.own 0 0 R true),eI k]++Jn 76,[flB (rF R (prK n fr sc Z.F (Z.A r) Z.D (rfY n fr sc Z r) k))])) n tT [some 0] trivial
  ⟨rfl,rfl,⟨K2 rfl,trivial⟩,⟨rfl,rfl,rfl,⟨rfl,rfl,rfl,fun h=>h⟩,g9 rfl,trivial⟩⟩ ?_
 intro k hk _;by_cases hlt:k<n
 ·have hF1:=hfb k hlt;have la:=hB.a r hr k hlt;have hy:=b2i (n:=n) (fr:=fr) (sc:=sc) (F:=Z.F) (P:=Z.A r) hd hy0 om hF.b k (fun j hj=>hB.a r hr j om);by_cases hge:n<=Z.F k
  ·obtain ⟨f,hf⟩:∃f,fr[Z.F k - n]? =some f:=⟨_,lbf (by have:=hF.lf;omega)⟩;have hfr:=hF.r f (lbm hf);have ch:=an2 m n R (Z.F k - n) f.1 (1+1020+k*1020) f.2 fr sc Z (prK n fr sc Z.F (Z.A r) Z.D (rfY n fr sc Z r) k) (Z.A r k) Z.D hF.ls om hf hfr hd hy om om om hF.b hm;rw [show (((Z.F k - n:Nat):Nat):Int)=(Z.F k:Int) - (n:Int) by omega] at ch;have e:prK n fr sc Z.F (Z.A r) Z.D (rfY n fr sc Z r) (k+1)=ai8 fr sc (prK n fr sc Z.F (Z.A r) Z.D (rfY n fr sc Z r) k) (Z.F k - n) (Z.A r k) Z.D:=by rw [prK,iA hge]
   conv=>whnf
   repeat' (first|refine zx ?_|refine .inr ⟨_,_,ch,?_⟩|refine t6 rfl hlt ?_|refine a1P rfl hr ?_|refine a0Q rfl hlt ?_|apply zD<;>intro h<;>try omega)<;>conv=>whnf
   all_goals first|omega|exact ⟨hlt,trivial,[some 0],rfl,rfl,⟨K2 (by rw [e]),trivial⟩,⟨rfl,rfl,rfl,⟨rfl,rfl,rfl,fun h=>h⟩,g9 om,trivial⟩⟩
  ·have e:prK n fr sc Z.F (Z.A r) Z.D (rfY n fr sc Z r) (k+1)=prK n fr sc Z.F (Z.A r) Z.D (rfY n fr sc Z r) k:=by rw [prK,iB hge]
   conv=>whnf
   repeat' (first|refine zx ?_|refine t6 rfl hlt ?_|apply zD<;>intro h<;>try omega)<;>conv=>whnf
   all_goals first|omega|exact ⟨hlt,trivial,[some 0],rfl,rfl,⟨K2 (by rw [e]),trivial⟩,⟨rfl,rfl,rfl,⟨rfl,rfl,rfl,fun h=>h⟩,g9 om,trivial⟩⟩
 ·have hke:k=n:=by omega
  subst hke;conv=>whnf
  repeat' (first|refine zx ?_|apply zD<;>intro h<;>try omega)<;>conv=>whnf
  all_goals first|omega|exact N3 rfl (fun h=>h) rfl rfl (by simp [O9])
def ae8 {n:Int}:∀{l:LI} {last:Int},(∀ (i:Nat) (x:Int),l[i]? =some x->last<x/\x<n)->(∀ (i:Nat) (x y:Int),l[i]? =some x->l[i+1]? =some y->x<y)->n7 last n (a3s l)=true
 |[],_,_,_=>rfl
 |a::r,last,h1,h2=>by
  show n7 last n ((a,((1:Int):Rat))::a3s r)=true;unfold n7;simp only [lbN,lbI];have h3:=h1 0 a rfl;refine ⟨⟨h3,de⟩,ae8 (fun i x hx=>?_) (fun i x y hx hy=>h2 (i+1) x y (by simpa using hx) (by simpa using hy))⟩;have h4:=h1 (i+1) x (by simpa using hx);refine ⟨?_,h4.2⟩;have key:∀(i:Nat) (x:Int),r[i]? =some x->a<x:=by
   intro i;induction i with
   |zero=>intro x hx;exact h2 0 a x rfl (by simpa using hx)
   |succ i ih=>
    intro x hx;obtain ⟨y,hy⟩:∃y,r[i]? =some y:=⟨_,lbf (by have:=(lbe.1 hx).1;omega)⟩;have:=ih y hy;have:=h2 (i+1) y x (by simpa using hy) (by simpa using hx);omega
  exact key i x hx
def a3G (t:k8) (h:Int):n7 (-1) (t.ev.moves.length:Nat) (H7 t h)=true:=by
 obtain ⟨a1,a2⟩:=aH9 t.ev h (-1) 0 100000;exact ae8 (fun i x hx=>by have:=a1 i x hx;omega) a2
def ah6 (t:k8) (h:Int):I5 (H7 t h):=by
 intro u hu;obtain ⟨i,_,rfl⟩:=lbx.1 hu;exact ⟨1,rfl,w5 de de⟩
def a6Z (t:k8) (h:Int):∀u ∈ H7 t h,0<=u.2:=by
 intro u hu;obtain ⟨i,_,rfl⟩:=lbx.1 hu;show (0:Rat)<=((1:Int):Rat)
 decide
def a3i {t:k8} {h:Int}:(J2 t.ev h (-1) 0 100000).length<=t.ev.moves.length:=by
 have:=D9 (a3G t h);have e:(H7 t h).length=(J2 t.ev h (-1) 0 100000).length:=by simp [H7,a3s]
 omega
noncomputable def a18 (t:k8) (kind:Int) (k:Nat):List a6m:=(List.range k).map fun i:Nat=>a25 (p6 t kind) (H7 t (i:Int)) (i:Int)
def a5p (t:k8) (kind:Int) (k:Nat):(a18 t kind k).length=k:=by simp [a18]
def b0C (t:k8) (kind:Int) (k:Nat):a18 t kind (k+1)=a18 t kind k++[a25 (p6 t kind) (H7 t k) k]:=by simp [a18,a8z]
abbrev bN1 (l:List a6m):T:=.sl 5 .any (l.map a6m.row)
abbrev b4k (l:List a6m):S:=.c (.t (bN1 l))
abbrev bF7 (l:List a6m):Blk:={ mode:=.live,elem:=51,size:=5,rows:=toC (l.map a6m.row),box:=false }
abbrev b8U (s:m8):Blk:={ mode:=.live,elem:=70,size:=2,rows:=[[.t (ti s.n),.t (a04 s.rows)]],box:=true }
def am0 (s:m8):L4 (b8U s).rows:=j3 [[ti s.n,a04 s.rows]]
def ap9 (t:k8) (kind:Int) (hs:t.Sized) (h:a0o t kind≠0):ec 28 [trS t,eI kind] [] (.tup [b4k [],eI 1]) []:=by
 have sy:=a4k t kind hs;refine ac Tryz.func28 ?_;conv=>whnf
 repeat' (first|refine zx ?_|refine bl0 [5] ?_|apply zD<;>intro h<;>try omega)<;>conv=>whnf
 all_goals first|omega|exact p7 rz
def a9L (t:k8) (kind:Int) (hs:t.Sized) (ht:t9 t=0) (k0:0<=kind) (k1:kind<8) (hm:t.ev.moves.length<=8) (r:Nat) (hz:H9 (p6 t kind) []=.row r):
 ec 28 [trS t,eI kind] [] (.tup [b4k [],eI 15]) []:=by
 have sy:=a4k t kind hs;have hc:¬(t9 t≠0\/kind<0\/8<=kind):=om;have e1:a0o t kind=0:=iB hc;have e2:a6J t kind=p6 t kind:=iB hc;rw [e1,e2] at sy;have so:=a7U (p6 t kind) _ _ r (Q2 (kind:=kind) ht hm (g:=[]) rfl (fun t ht=>by cases ht)) hz;refine ac Tryz.func28 ?_;conv=>whnf
 repeat' (first|refine zx ?_|refine bl0 [5] ?_|apply zD<;>intro<;>try omega)<;>conv=>whnf
 all_goals first|omega|exact p7 rz
def aC7 (t:k8) (kind:Int) (hs:t.Sized) (ht:t9 t=0) (k0:0<=kind) (k1:kind<8) (hm:t.ev.moves.length<=8) (hh:Nat) (hhs:t.ev.hhs=hh) (h100:hh<=1000) (hz:H9 (p6 t kind) []=.best):
 ec 28 [trS t,eI kind] [] (.tup [b4k (a18 t kind hh),eI 0]) []:=by
 have sy:=a4k t kind hs;have hc:¬(t9 t≠0\/kind<0\/8<=kind):=om;have e1:a0o t kind=0:=iB hc;have e2:a6J t kind=p6 t kind:=iB hc;rw [e1,e2] at sy;have lz:=Q2 (kind:=kind) ht hm (g:=[]) rfl (fun t ht=>by cases ht);have so:=a62 (p6 t kind) _ _ lz hz (fun v hv=>by have:=a9F lz v hv;omega)
 (refine ac Tryz.func28 ?_;(conv=>whnf);repeat ((first|refine b0x ?_|refine zy ?_);conv=>whnf))
 repeat' (first|refine zx ?_|refine bl0 [5] ?_|apply zD<;>intro h<;>try omega)<;>conv=>whnf
 all_goals try omega
 refine k5 g8 (fun k=>([J,J,S.c (C.t (T.ptr (trT t))),J,J,J,sP 0 0 0,J,J,J,J,S.c (C.own 1 0 k true)]++Jn 19++[eI hh,eI k]++Jn 13,[b8U (p6 t kind),bF7 (a18 t kind k)])) hh tT [some 0,none] trivial
  ⟨rfl,rfl,⟨j8 (am0 _),rz⟩,⟨m7 rfl,rz,rz,g9 hhs,g9 rfl,trivial⟩⟩ ?_
 intro k hk _;by_cases hlt:k<hh
 ·have go:=bl4 t hs k (by have:=a3i (t:=t) (h:=k);omega);have eg:ah1 t k=H7 t k:=iA ⟨ht,om,om⟩;rw [eg] at go;have ve:=b6m (p6 t kind) (H7 t k) _ _ _ _ (b2P (kind:=kind) ht hm (a3G t k) (ah6 t k)) k (a6Z t k) hz;have lA:k<=(bF7 (a18 t kind k)).rows.length:=by show k<=(toC _).length;simp [toC,a5p]
  conv=>whnf
  repeat' (first|refine zx ?_|refine z6 lA zu ?_|apply zD<;>intro h<;>try omega)<;>conv=>whnf
  all_goals first
   |omega
   |(refine ⟨hlt,trivial,[some 0,some 2],rfl,rfl,⟨j8 (am0 _),i6 (rows:=(a18 t kind (k+1)).map a6m.row) rfl rfl rfl ?_ rfl,trivial⟩,⟨rfl,rz,⟨rfl,rfl,rfl,fun h=>h⟩,rfl,g9 om,trivial⟩⟩
     rw [b0C];exact S9 (f:=a6m.row) (x:=a25 (p6 t kind) (H7 t k) k) (a5p t kind k).symm)
 ·have hke:k=hh:=by omega
  subst hke;conv=>whnf
  repeat' (first|refine zx ?_|apply zD<;>intro h<;>try omega)<;>conv=>whnf
  all_goals first|omega|exact p7 ⟨(show VC _ (fun id=>M3 [] id=true) (C.own 1 0 k true) _ from w6 (k:=bF7 (a18 t kind k)) rfl rfl (fun h=>h) rfl rfl (by simp [a5p])),rz⟩
def b9Y {α:Type} {f:α->List T} {l:List α} {k:Nat} {u:α} (hu:l[k]? =some u) {Φ:List T->Prop} (h:Φ (f u)):
 ∃row,(0<=bif true then if 0 > ((k+1:Nat):Int) - 1 then 0 else ((k+1:Nat):Int) - 1 else if 0<((k+1:Nat):Int) - 1 then 0 else ((k+1:Nat):Int) - 1)/\
  (l.map f)[(bif true then if 0 > ((k+1:Nat):Int) - 1 then 0 else ((k+1:Nat):Int) - 1 else if 0<((k+1:Nat):Int) - 1 then 0 else ((k+1:Nat):Int) - 1).toNat]? =some row/\Φ row:=by
 have e:(bif true then if 0 > ((k+1:Nat):Int) - 1 then 0 else ((k+1:Nat):Int) - 1 else if 0<((k+1:Nat):Int) - 1 then 0 else ((k+1:Nat):Int) - 1)=(k:Int):=by
  show (if 0 > ((k+1:Nat):Int) - 1 then 0 else ((k+1:Nat):Int) - 1)=_;rw [iB om];omega
 rw [e];exact ⟨f u,om,by rw [lbY,lba,hu];rfl,h⟩
def a0g (l:List (Int × Rat)) (n:Int) (hl:l.length<=1000000) (hB:∀t ∈ l,rl t.2<=200):ec 160 [s6 l,eI n] [] (m9 (decide (0<=n) && n7 (-1) n l)) []:=by
 have m1:(l.map B8).length=l.length:=zq;by_cases h0:n<0
 ·rw [lbJ om,a2i];refine ac Tryz.func160 ?_;conv=>whnf
  repeat' (first|refine zx ?_|apply zD<;>intro h<;>try omega)<;>conv=>whnf
  all_goals first|omega|exact j1 rfl
 rw [lbH om,K9];refine ac Tryz.func160 ?_;conv=>whnf
 repeat' (first|refine zx ?_|apply zD<;>intro h<;>try omega)<;>conv=>whnf
 all_goals try omega
 refine k5 g8 (fun k=>([s6 l,eI n,J,J,J,eI k]++Jn 59,[])) l.length (fun k=>n7 (-1) n l=n7 (a4I l k) n (l.drop k)/\-1<=a4I l k) [] ⟨rfl,ap1 _⟩
  rz ?_
 rintro k hk ⟨hI,hJ⟩;by_cases hlt:k<l.length
 ·obtain ⟨t,ht⟩:∃t,l[k]? =some t:=⟨_,lbf hlt⟩;obtain ⟨v,c⟩:=t;have bc:=hB _ (lbm ht);simp only at bc;have rr:=aD7 c om;have sz:(fz c).p.sg=0↔c=0:=by
   show c.num.sign=0↔c=0;rw [b3w];exact Rat.num_eq_zero
  rw [a1Y ht,n7] at hI;simp only at hI;by_cases hok:a4I l k<v/\v<n/\c≠0
  ·rw [lbH hok.1,lbH hok.2.1,lbH hok.2.2] at hI;simp only [K9] at hI;have hne:(fz (v,c).2).p.sg≠0:=fun h=>hok.2.2 (sz.1 h)
   obtain ⟨q1,q2,_⟩:=hok;cases k with
   |zero=>
    conv=>whnf
    repeat' (first|refine zx ?_|refine j6 ht ?_|apply zD<;>intro h<;>try omega)<;>conv=>whnf
    all_goals first
     |omega
     |exact ⟨hlt,⟨by rw [Z6 ht];exact hI,by rw [Z6 ht];simp only;omega⟩,[],rz⟩
   |succ k=>
    obtain ⟨u,hu⟩:∃u,l[k]? =some u:=⟨_,lbf om⟩;rw [Z6 hu] at q1 hJ;conv=>whnf
    repeat' (first|refine zx ?_|refine j6 ht ?_|refine b9Y hu ?_|apply zD<;>intro h<;>try omega)<;>conv=>whnf
    all_goals first|omega|exact ⟨hlt,⟨by rw [Z6 ht];exact hI,by rw [Z6 ht];simp only;omega⟩,[],rz⟩
  ·have hF:n7 (-1) n l=false:=by
    rw [hI];rw [← lbQ];simp only [lbN,lbI];exact fun h=>hok ⟨h.1.1.1,h.1.1.2,h.1.2⟩
   rw [hF];have hor:v<=a4I l k\/n<=v\/(fz (v,c).2).p.sg=0:=by
    by_cases q1:a4I l k<v
    ·by_cases q2:v<n
     ·refine .inr (.inr (sz.2 ?_));by_cases q3:c=0
      ·exact q3
      ·exact absurd ⟨q1,q2,q3⟩ hok
     ·exact .inr (.inl om)
    ·exact .inl om
   clear hI hok;cases k with
   |zero=>
    have e0:a4I l 0=-1:=rfl;conv=>whnf
    repeat' (first|refine zx ?_|refine j6 ht ?_|apply zD<;>intro h<;>try omega)<;>conv=>whnf
    all_goals first
     |omega
     |exact j1 rfl
   |succ k=>
    obtain ⟨u,hu⟩:∃u,l[k]? =some u:=⟨_,lbf om⟩;rw [Z6 hu] at hor;conv=>whnf
    repeat' (first|refine zx ?_|refine j6 ht ?_|refine b9Y hu ?_|apply zD<;>intro h<;>try omega)<;>conv=>whnf
    all_goals first|omega|exact j1 rfl
 ·rw [lbo om] at hI;have hI:n7 (-1) n l=true:=hI;rw [hI];conv=>whnf
  repeat' (first|refine zx ?_|apply zD<;>intro h<;>try omega)<;>conv=>whnf
  all_goals first|omega|exact j1 rfl
def bL2 (w:C5) (n:Int) (hl:w.terms.length<=1000000) (hB:∀t ∈ w.terms,rl t.2<=200) (hv:rl w.value<=200):ec 275 [aS0 w,eI n] [] (m9 (decide (0<=n) && A6 n w)) []:=by
 have rt:=a0g w.terms n hl hB;have rv:=aD7 w.value om;unfold A6;cases h1:decide (0<=n)<;>cases h2:n7 (-1) n w.terms<;>rw [h1,h2] at rt<;>
 ·refine ac Tryz.func275 ?_;conv=>whnf
  repeat' (first|refine zx ?_|apply zD<;>intro<;>try omega)<;>conv=>whnf
  all_goals first|(exfalso;simp_all;done)|(refine j1 ?_;simp;done)|(refine j1 ?_;simp;omega)
theorem ak3 (s:m8) (hb:b23 s):e8 Tryz.prog 211 [U9 s] [] (m9 (q9 s)) []:=by
 have m1:(s.rows.map v5).length=s.rows.length:=by simp
 have l1:=hb.n0
 by_cases h0:¬(0<=s.n/\s.n<=1500/\s.rows.length<=6000)
 ·have e1:q9 s=false:=by
   unfold q9
   rw [← lbQ]
   simp only [lbN,lbI]
   exact fun h=>h0 ⟨h.1.1.1,h.1.1.2,h.1.2⟩
  rw [e1]
  (refine ac Tryz.func211 ?_;(conv=>whnf);repeat ((first|refine b0x ?_|refine zy ?_);conv=>whnf))
  repeat' (first|refine zx ?_|refine zd ?_ ?_<;>intro h<;>try omega|fail)<;>conv=>whnf
  all_goals first
   |omega
   |exact j1 rfl
 obtain ⟨c1,c2,c3⟩:=Decidable.not_not.1 h0
 have e1:q9 s=s.rows.all (A6 s.n):=by
  unfold q9
  rw [lbH c1,lbH c2,lbH c3];rfl
 rw [e1]
 clear h0
 (refine ac Tryz.func211 ?_;(conv=>whnf);repeat ((first|refine b0x ?_|refine zy ?_);conv=>whnf))
 repeat' (first|refine zx ?_|refine zd ?_ ?_<;>intro h<;>try omega|fail)<;>conv=>whnf
 all_goals try omega
 refine k5 g8 (fun k=>([J,S.c (C.t (T.ptr [ti s.n,a04 s.rows])),J,e7 .i64 k]++Jn 30,[])) s.rows.length (fun k=>(s.rows.take k).all (A6 s.n)=true) [] rfl
  ⟨rfl,rfl,trivial,⟨rfl,rfl,trivial⟩⟩ ?_
 intro k hk hI
 by_cases hlt:k<s.rows.length
 ·obtain ⟨w,hw⟩:∃w,s.rows[k]? =some w:=⟨_,lbf hlt⟩
  obtain ⟨b1,b2,b3⟩:=hb.t w (lbm hw)
  have rt:=bL2 w s.n (by omega) b2 b3
  rw [lbH c1,K9] at rt
  cases hrt:A6 s.n w with
  |false=>
   rw [hrt] at rt
   rw [G9 hw hrt]
   conv=>whnf
   repeat' (first|refine zx ?_|refine qp rt ?_|refine j6 hw ?_|refine zd ?_ ?_<;>intro h<;>try omega|fail)<;>conv=>whnf
   all_goals first
    |omega
    |(exfalso;simp_all;done)
    |exact j1 rfl
  |true=>
   rw [hrt] at rt
   conv=>whnf
   repeat' (first|refine zx ?_|refine qp rt ?_|refine j6 hw ?_|refine zd ?_ ?_<;>intro h<;>try omega|fail)<;>conv=>whnf
   all_goals first
    |omega
    |(exfalso;simp_all;done)
    |exact ⟨hlt,by rw [D3 hw,hI,hrt];rfl,[],rfl,rfl,trivial,⟨rfl,rfl,trivial⟩⟩
 ·rw [lbn (by omega)] at hI
  rw [hI]
  conv=>whnf
  repeat' (first|refine zx ?_|refine zd ?_ ?_<;>intro h<;>try omega|fail)<;>conv=>whnf
  all_goals first
   |omega
   |exact j1 rfl
def bb0 (z:List Fr) (hl:z.length<=1000000) (hd:∀f ∈ z,f.p.dl.length<=200000/\f.q.dl.length<=200000):ec 234 [H5 z] [] (m9 (z.all V8)) []:=by
 have m1:(z.map B2).length=z.length:=zq;refine ac Tryz.func234 ?_;conv=>whnf
 repeat' (first|refine zx ?_|apply zD<;>intro<;>try omega)<;>conv=>whnf
 refine k5 g8 (fun k=>([H5 z,J,J,eI k]++Jn 12,[])) z.length (fun k=>(z.take k).all V8=true) [] rfl
  rz ?_
 intro k hk hI;by_cases hlt:k<z.length
 ·obtain ⟨f,hf⟩:∃f,z[k]? =some f:=⟨_,lbf hlt⟩;have q:=hd f (lbm hf);have rr:=b4q f q.1 q.2;cases hff:V8 f with
  |true=>
   rw [hff] at rr;conv=>whnf
   repeat' (first|refine zx ?_|refine j6 hf ?_|apply zD<;>intro<;>try omega)<;>conv=>whnf
   all_goals first
    |omega
    |exact ⟨hlt,by rw [D3 hf,hI,hff];rfl,[],rz⟩
  |false=>
   rw [hff] at rr;rw [G9 hf hff];conv=>whnf
   repeat' (first|refine zx ?_|refine j6 hf ?_|apply zD<;>intro<;>try omega)<;>conv=>whnf
   all_goals first|omega|exact j1 rfl
 ·rw [lbn om] at hI;rw [hI];conv=>whnf
  repeat' (first|refine zx ?_|apply zD<;>intro<;>try omega)<;>conv=>whnf
  all_goals first|omega|exact j1 rfl
def b6S (z:List Rat) (hl:z.length<=1000000) (hd:∀v ∈ z,rl v<=200000):ec 234 [H5 (z.map fz)] [] (m9 true) []:=by
 have pt:=bb0 (z.map fz) (by simpa using hl) (fun f hf=>by
  obtain ⟨x,hx,rfl⟩:=lbx.1 hf;have:=hd x hx;have a:=K6 x;have b:=J9 x;exact ⟨by show bl x.num<=_;omega,by show bl x.den<=_;omega⟩)
 rw [aa8] at pt;exact pt
def bb6 (l:List (Int × Rat)) (z:List Rat) (hl:l.length<=1000000) (h1:∀t ∈ l,rl t.2<=200) (h2:∀v ∈ z,rl v<=40000) (hS:∀k,rl (n8 (l.take k) z)<=60000) (hz:z.length<=1000000) (hr:n7 (-1) z.length l=true):
 ec 157 [s6 l,H5 (z.map fz)] [] (.tup [frS (fz (n8 l z)),m9 true]) []:=by
 have m1:(l.map B8).length=l.length:=zq;have m2:((z.map fz).map B2).length=z.length:=zq;have i0:=a5S 0 de de;have rt:=a0g l z.length hl h1;rw [lbH om,hr] at rt;have rt2:ec 160 [s6 l,eI (((z.map fz).map B2).length:Nat)] [] (m9 (true && true)) []:=by rw [m2];exact rt
 have pt:=b6S z hz (fun v hv=>by have:=h2 v hv;omega);refine ac Tryz.func157 ?_;conv=>whnf
 repeat' (first|refine zx ?_|apply zD<;>intro<;>try omega)<;>conv=>whnf
 all_goals try (exfalso;simp_all;done)
 refine k5 g8 (fun k=>([s6 l,H5 (z.map fz),J,J,sP 0 0 0,J,sP 1 0 0,eI k]++Jn 44,[frB a0z,frB (fz (n8 (l.take k) z))])) l.length tT [some 0,some 1] trivial
  ⟨rfl,rfl,⟨⟨rfl,rfl,rfl,.inr rz⟩,⟨rfl,rfl,rfl,.inl ⟨rfl,a47 _⟩⟩,trivial⟩,rz⟩ ?_
 intro k hk _;by_cases hlt:k<l.length
 ·obtain ⟨t,ht⟩:∃t,l[k]? =some t:=⟨_,lbf hlt⟩;obtain ⟨v,c⟩:=t;have hv:=ab6 hr _ (lbm ht);simp only at hv;have bc:=h1 _ (lbm ht);simp only at bc;obtain ⟨x,hx⟩:∃x,z[v.toNat]? =some x:=⟨_,lbf om⟩;have hxd:z.getD v.toNat 0=x:=by rw [lbl,hx];rfl
  have bx:=h2 x (lbm hx);have b3:=aW5 c x;have bs:=hS k;have mu:=bN9 c x om om;have ad:=b44 (n8 (l.take k) z) (c*x) om om;have e:n8 (l.take k) z+c*x=n8 (l.take (k+1)) z:=by
   have:l.take (k+1)=l.take k++[(v,c)]:=by rw [lbG,ht];rfl
   rw [this,K8,←hxd]
  rw [e] at ad;have xz:(z.map fz)[v.toNat]? =some (fz x):=by rw [lba,hx];rfl
  conv=>whnf
  repeat' (first|refine zx ?_|refine j6 ht ?_|refine K3 om xz ?_|refine bl0 [16] ?_|refine bl0 [5] ?_|apply zD<;>intro<;>try omega)<;>conv=>whnf
  all_goals first|omega|exact ⟨hlt,trivial,[some 0,some 1],rfl,rfl,⟨⟨rfl,rfl,rfl,.inl ⟨rfl,a47 _⟩⟩,⟨rfl,rfl,rfl,.inl ⟨rfl,a47 _⟩⟩,trivial⟩,rz⟩
 ·have hke:k=l.length:=by omega
  subst hke;rw [lbn (lbR _)];conv=>whnf
  repeat' (first|refine zx ?_|apply zD<;>intro<;>try omega)<;>conv=>whnf
  all_goals first|omega|exact p7 rz
abbrev bK5 (m n:Nat) (D:Int):Blk:={ mode:=.live,elem:=274,size:=12,rows:=[[C.own 2 0 m true,.own 3 0 m true,.own 4 0 n true,.t (ti (bz D).sg),.t (v6 (bz D).dl),.own 5 0 m true,.own 6 0 n true,.own 7 0 m true,.own 8 0 m true,.own 9 0 m true,.t (ti (bz 1).sg),.t (v6 (bz 1).dl)]],box:=true }
abbrev bx0 (m n:Nat) (fr:LB) (sc:LI) (Z:Zd) (b:Blk):Hp:=
 b::bK5 m n Z.D::zlB (zF m Z.V)::hdB 10 m n::zlB (zF n Z.C)::T7 m Z.O::T7 n Z.F::w7 (frI fr)::w7 (W7 fr)::zlB sc::(mZ m n Z.A).map zlB
def bE7 {m n:Nat} {fr:LB} {sc:LI} {Z:Zd} {g:FuncId} {args:List S} (b:Blk) (ha:args.map (a5W [])=args) (hok:args.all (okS 0)=true) (h:ec g args [] (.c (.ptr 0 0 0)) (N0 m n fr sc Z [])):
 ec g args [b] (.c (.ptr 1 0 0)) (bx0 m n fr sc Z b):=by
 have hlen:(N0 m n fr sc Z []).length=m+9:=a00;have hsub:(N0 m n fr sc Z []).length - ([]:Hp).length=m+9:=by rw [hlen];simp
 have g1:∀i,i<m+9->(a4x [] ([b]:Hp).length ((N0 m n fr sc Z []).length - ([]:Hp).length)).getD i 0=i+1:=fun i hi=>by
  rw [hsub];exact b4W hi
 refine V3 [] h ha.symm hok rfl ao9 zq (fun k hk=>by rw [(a1u k hk).1];intro h;cases h) zq rfl ?_ (by rw [hsub];simp [i5];omega) ?_ ?_
 ·show S.c (.ptr 1 0 0)=S.c (.ptr _ 0 0);rw [g1 0 om]
 ·intro i k hk;have hi:i<m+9:=by rw [← hlen];exact (lbe.1 hk).1
  rw [g1 i hi];rcases i with _|_|_|_|_|_|_|_|_|i
  ·injection hk with hk;subst hk
   refine ⟨_,rfl,rfl,rfl,rfl,rfl,?_⟩;simp only [a8l,ax1,List.map_nil,a1K,a0q];rw [g1 1 om,g1 2 om,g1 3 om,g1 4 om,g1 5 om,g1 6 om,g1 7 om,g1 8 om]
  ·injection hk with hk;subst hk;exact ⟨_,rfl,E0 rfl⟩
  ·injection hk with hk;subst hk
   refine ⟨_,rfl,rfl,rfl,rfl,rfl,?_⟩;unfold a8l;show hdR 10 _ _=(hdR 9 _ _).map _;unfold hdR;rw [a6W];refine lbp fun j hj=>?_
   have hj:=lbB.1 hj;show _=a1K _ [C.own (j+9) 0 n true];simp only [a1K,a0q];rw [g1 (j+9) om]
  ·injection hk with hk;subst hk;exact ⟨_,rfl,E0 rfl⟩
  ·injection hk with hk;subst hk;exact ⟨_,rfl,E0 rfl⟩
  ·injection hk with hk;subst hk;exact ⟨_,rfl,E0 rfl⟩
  ·injection hk with hk;subst hk;exact ⟨_,rfl,E0 rfl⟩
  ·injection hk with hk;subst hk;exact ⟨_,rfl,E0 rfl⟩
  ·injection hk with hk;subst hk;exact ⟨_,rfl,E0 rfl⟩
  ·have hk:((mZ m n Z.A).map zlB++[])[i]? =some k:=hk;rw [Z3] at hk;refine ⟨k,hk,?_⟩;obtain ⟨l,_,rfl⟩:=lbx.1 (lbm hk);exact E0 rfl
 ·intro j hj _;have:j=0:=by simpa using hj
  subst this;rfl
def fSJ (m:Nat):Nat->Nat:=fun i=>if i<m+9 then i+1 else 0
def a4E {m n:Nat} {fr:LB} {sc:LI} {Z:Zd} {b:Blk} {env env':Env} {H:Hp} (hb:L4 b.rows) (hH:H=bx0 m n fr sc Z b) (hE:a0p (fR (m+10) (fSJ m)) H env env'):
 Ent 0 (fR (m+10) (fSJ m)) env H env' (N0 m n fr sc Z [b]):=by
 subst hH;have fa:∀i,i<m+9->fSJ m i=i+1:=fun i hi=>by unfold fSJ;rw [iA hi]
 have ff:∀i,i<m+9->(fR (m+10) (fSJ m))[i]? =some (some (i+1)):=fun i hi=>by rw [z7 om,fa i hi]
 refine aa2 (by simp [i5]) om (fun i hi=>om) (fun i j hi hj h=>by unfold fSJ at h;(repeat' split at h)<;>omega) ?_ hE;intro i k' hk;rcases i with _|_|_|_|_|_|_|_|_|i
 ·injection hk with hk;subst hk
  rw [fa 0 om];exact ⟨_,rfl,rfl,rfl,rfl,.inr ⟨⟨⟨ff _ om,rfl,rfl,fun h=>h⟩,⟨ff _ om,rfl,rfl,fun h=>h⟩,⟨ff _ om,rfl,rfl,fun h=>h⟩,rfl,rfl,⟨ff _ om,rfl,rfl,fun h=>h⟩,⟨ff _ om,rfl,rfl,fun h=>h⟩,⟨ff _ om,rfl,rfl,fun h=>h⟩,⟨ff _ om,rfl,rfl,fun h=>h⟩,⟨ff _ om,rfl,rfl,fun h=>h⟩,rz⟩,trivial⟩⟩
 ·injection hk with hk;subst hk;rw [fa 1 om];exact ⟨_,rfl,j8 (j3 _)⟩
 ·injection hk with hk;subst hk
  rw [fa 2 om];refine ⟨_,rfl,rfl,rfl,rfl,.inr (a2a (by show (hdR 10 m n).length=(hdR 9 m n).length;simp [D7]) fun i x y hx hy=>?_)⟩;have hx:(hdR 10 m n)[i]? =some x:=hx;have hy:(hdR 9 m n)[i]? =some y:=hy;have hi:i<m:=by have:=(lbe.1 hx).1;rwa [D7] at this
  rw [a94 hi] at hx hy;injection hx with hx;injection hy with hy
  subst hx hy;exact ⟨⟨ff _ om,rfl,rfl,fun h=>h⟩,trivial⟩
 ·injection hk with hk;subst hk;rw [fa 3 om];exact ⟨_,rfl,j8 (j3 _)⟩
 ·injection hk with hk;subst hk;rw [fa 4 om];exact ⟨_,rfl,j8 (j3 _)⟩
 ·injection hk with hk;subst hk;rw [fa 5 om];exact ⟨_,rfl,j8 (j3 _)⟩
 ·injection hk with hk;subst hk;rw [fa 6 om];exact ⟨_,rfl,j8 (j3 _)⟩
 ·injection hk with hk;subst hk;rw [fa 7 om];exact ⟨_,rfl,j8 (j3 _)⟩
 ·injection hk with hk;subst hk;rw [fa 8 om];exact ⟨_,rfl,j8 (j3 _)⟩
 ·have hk:((mZ m n Z.A).map zlB++[b])[i]? =some k':=hk;by_cases hi:i<m
  ·rw [I7 (a0s hi)] at hk;injection hk with hk;subst hk
   rw [fa _ om];refine ⟨zlB (zF n (Z.A i)),?_,j8 (j3 _)⟩;show ((mZ m n Z.A).map zlB)[i]? =_;rw [lba,a0s hi];rfl
  ·obtain ⟨t,rfl⟩:∃t,i=m+t:=⟨i - m,om⟩;rw [aQ5] at hk;rcases t with _|t
   ·injection hk with hk;subst hk
    have:fSJ m (m+0+9)=0:=by unfold fSJ;rw [iB om]
    rw [this];exact ⟨_,rfl,j8 hb⟩
   ·simp at hk
def ae2 {m n:Nat} {fr:LB} {sc:LI} {Z:Zd} {env env':Env} (b:Blk) (hb:L4 b.rows) (hE:a7P [some (m+9)] (N0 m n fr sc Z [b]) env env'):b8f 0 [some (m+9)] env (N0 m n fr sc Z [b]) env' [b]:=by
 refine ⟨rfl,?_,a3L rfl fun i k' hk=>?_,hE⟩
 ·simp only [Y2,a5P];cases b.mode<;>rfl
 ·rcases i with _|i
  ·injection hk with hk;subst hk
   exact ⟨m+9,_,rfl,aQ5 (j:=0),j8 hb⟩
  ·simp at hk
structure LJ (s:m8) (g:List (Int × Rat)):Prop where
 sm:M5 s
 w:I5 g
 tg:n7 (-1) ((s.n.toNat:Nat):Int) g=true
def a8u {s:m8} (h:M5 s):LJ s []:=⟨h,(fun t ht=>by cases ht),rfl⟩
def bw8 {s:m8} {g:List (Int × Rat)} (h:LJ s g):bJ4 s g s.n.toNat:=⟨h.sm,h.tg,(V4 h.sm.r).symm,h.w⟩
abbrev Mj (s:m8):Nat:=(j0 (k7 s)).length
def b01 {s:m8} (h:M5 s):Mj s<=2000:=by
 have:=a0W (s:=k7 s) (k7 s).rows.length;have e:(k7 s).rows.length=s.rows.length:=lbr ..;have:=h.l;show (J4 (k7 s) (k7 s).rows.length).length<=2000;omega
noncomputable abbrev Zj (s:m8) (g:List (Int × Rat)) (D:Fd):Zd:=a0f (Mj s) (k7 s).n.toNat (k9 (k7 s) g) D
noncomputable abbrev aA0 (s:m8) (g:List (Int × Rat)) (D:Fd) (T:Hp):Hp:=N0 (Mj s) s.n.toNat (j0 (k7 s)) (scL s (j0 (k7 s))) (Zj s g D) T
def b9W {s:m8} {g:List (Int × Rat)} (h:LJ s g):bG9 (Mj s) s.n.toNat (k9 (k7 s) g) (fun j=>-(L7 g j)):=by
 have hn:=V4 h.sm.r;have:=h.sm.n;refine ⟨by have:=b01 h.sm;omega,om,a9u,U0,fun D hD=>?_⟩;obtain ⟨h1,h2⟩:=b0b h.sm h.w hD;exact ⟨h1,fun i hi=>lbS (h2.v i hi) de,fun i hi j hj=>lbS (h2.a i hi j hj) de,fun j hj=>lbS (h2.c j hj) de,lbS h2.d de⟩
def bo7 {s:m8} {g:List (Int × Rat)} (h:LJ s g):e8 Tryz.prog 212 [U9 s,s6 g] [] (.c (.ptr 0 0 0)) (aA0 s g (k9 (k7 s) g) []):=by
 have op:=b8s s g s.n.toNat (bw8 h)
 have hD:=b1Z h.sm h.w
 have e:J7 (Mj s) s.n.toNat s.n.toNat (j0 (k7 s)) (scL s (j0 (k7 s))) 1 (V0 s g) (C0 g g.length) (fun i=>s.n.toNat+i) (fun j=>j) (A0 s g) []=aA0 s g (k9 (k7 s) g) []:=by
  have hD':b3b (Mj s) (k7 s).n.toNat (k9 (k7 s) g) (k9 (k7 s) g)=1:=hD
  have e1:∀x:Rat,((((b3b (Mj s) (k7 s).n.toNat (k9 (k7 s) g) (k9 (k7 s) g):Int):Rat))*x).num=x.num:=fun x=>by
   rw [hD'];congr 1;show (1:Rat)*x=x;grind
  refine a7i (Z:=⟨V0 s g,A0 s g,C0 g g.length,1,fun i=>s.n.toNat+i,fun j=>j⟩) ⟨fun i _=>(e1 _).symm,fun i _ j _=>(e1 _).symm,fun j _=>(e1 _).symm,hD.symm,rfl,rfl⟩
 rw [e] at op
 exact op
def a2x {s:m8} {g:List (Int × Rat)} (h:LJ s g) (T:Hp):ec 213 [.c (.ptr 0 0 0)] (aA0 s g (k9 (k7 s) g) T) (.tup [eI (a6U (H9 (k7 s) g)).1,eI (a6U (H9 (k7 s) g)).2]) (aA0 s g (F5 (k7 s) g) T):=
 aK6 T (b3B _ _ _ _ _ _ (b9W h) rfl (ak8 ..)) (by simp [okS,okC,a19]) rfl rfl
def aW8 {s:m8} {g:List (Int × Rat)} (h:LJ s g):aZ1 (Mj s) s.n.toNat (Zj s g (F5 (k7 s) g)) (F5 (k7 s) g)/\ZB (Mj s) s.n.toNat 1000 (Zj s g (F5 (k7 s) g))/\Z0 (Mj s) s.n.toNat (F5 (k7 s) g):=by
 obtain ⟨h1,h2⟩:=(b9W h).d _ (a3o U0).1;exact ⟨(a7r h1).2,h2,U7.p⟩
def b6Z {s:m8} (h:M5 s):FrP (Mj s) s.rows.length (j0 (k7 s)) (scL s (j0 (k7 s))):=by
 refine ⟨rfl,ak8 ..,fun f hf=>?_,fun i=>?_⟩
 ·obtain ⟨w,hw,_⟩:=X5.1 hf;have:=(lbe.1 hw).1;have e:(k7 s).rows.length=s.rows.length:=lbr ..;omega
 ·have l0:bl 0<=1:=w5 de de;have l1:bl 1<=1:=w5 de de;have key:∀f:Nat × Bool,bl (b8x s f)<=10:=fun f=>by
   unfold b8x;cases hw:s.rows[f.1]? with
   |none=>show bl 1<=10;omega
   |some w=>
    have:=(a4h (h.i w (lbm hw)).2).1;have:=a1h w.value;have:=w5 (x:=(w.value.den:Int)) om om;show bl (w.value.den:Int)<=10;omega
  unfold scL;rw [lbl,lba];cases (j0 (k7 s))[i]? with
  |none=>show bl 0<=10;omega
  |some f=>exact key f
def am2 {s:m8} (h:M5 s):b23 s:=by
 refine ⟨by have:=h.l;omega,fun w hw=>?_⟩;obtain ⟨k,hk,hkw⟩:=a0r hw;have hwk:s.rows[k]? =some w:=by rw [lbf hk,hkw]
 have hn:=V4 h.r;have hrw:=(a1f h.r hwk).1;rw [hn] at hrw;have hl:=D9 hrw;have:=h.n;have hI:=h.i w hw;obtain ⟨d1,d2⟩:=a4h hI.2;have d3:=a1h w.value;have b1:=w5 (x:=(w.value.den:Int)) om om;have b2:=T4 (x:=w.value.num) om om;exact ⟨om,fun t ht=>lbS (P3 hI.1 t ht) de,by show max _ _<=200;omega⟩
abbrev b6L (o:bM2):S:=.agg (C.t (ti o.kind)::frC o.value++[C.t (U4 (o.X.map fz)),C.t (U4 (o.Y.map fz)),C.t (U4 (o.R.map fz))])
def ae0 {s:m8} {g:List (Int × Rat)} {D:Fd} {T:Hp} {p:Nat->Prop} (hp:∀i,i<Mj s+9->p i):VY (aA0 s g D T) p (.ptr 0 0 0) (.ptr (bq0 (Mj s) s.n.toNat (j0 (k7 s)) (scL s (j0 (k7 s))) (Zj s g D))):=b6F rfl (ak8 ..) hp
noncomputable abbrev dJ (s:m8) (g:List (Int × Rat)):S:=jT (Mj s) s.n.toNat (j0 (k7 s)) (scL s (j0 (k7 s))) (Zj s g (F5 (k7 s) g))
def b1A {s:m8} {g:List (Int × Rat)} (h:LJ s g):ec 215 [dJ s g,eI s.n] [] (H5 ((s8 (k7 s) g).map fz)) []:=by
 obtain ⟨h1,h2,h3⟩:=aW8 h;have hn:=V4 h.sm.r;have:=h.sm.n;have:=b01 h.sm;have pt:=bg0 (Mj s) s.n.toNat (j0 (k7 s)) (scL s (j0 (k7 s))) _ _ h1 h3 h2 om om;rw [hn] at pt;exact pt
def bA5 {s:m8} {g:List (Int × Rat)} (h:LJ s g) {c:Nat} (hc:c<s.n.toNat):ec 217 [dJ s g,eI s.n,eI c] [] (H5 ((a6p (k7 s) g c).map fz)) []:=by
 obtain ⟨h1,h2,h3⟩:=aW8 h;have hn:=V4 h.sm.r;have:=h.sm.n;have:=b01 h.sm;have pt:=bO0 (Mj s) s.n.toNat (j0 (k7 s)) (scL s (j0 (k7 s))) _ _ c hc h1 h3 h2 om om;rw [hn] at pt;exact pt
def b5G {s:m8} {g:List (Int × Rat)} (h:LJ s g):∃Y:List Rat,ec 216 [dJ s g,eI s.n,eI s.rows.length] [] (H5 (Y.map fz)) []:=by
 obtain ⟨h1,h2,h3⟩:=aW8 h;have hn:=V4 h.sm.r;have:=h.sm.n;have:=h.sm.l;have:=b01 h.sm;have pt:=b7H (Mj s) s.n.toNat s.rows.length _ _ _ (b6Z h.sm) h2 h1.d (fun j hj=>by rw [h1.f];exact h3.fb j hj) om om om;rw [hn,←a30] at pt;exact ⟨_,pt⟩
def a7O {s:m8} {g:List (Int × Rat)} (h:LJ s g) {r:Nat} (hr:r<Mj s):∃Y:List Rat,ec 214 [dJ s g,eI s.n,eI s.rows.length,eI r] [] (H5 (Y.map fz)) []:=by
 obtain ⟨h1,h2,h3⟩:=aW8 h;have hn:=V4 h.sm.r;have:=h.sm.n;have:=h.sm.l;have:=b01 h.sm;have pt:=aV0 (Mj s) s.n.toNat s.rows.length r _ _ _ (b6Z h.sm) h2 h1.d hr (fun j hj=>by rw [h1.f];exact h3.fb j hj) (fun i hi=>by rw [h1.o];exact h3.ob i hi) om om om;rw [hn,←a30] at pt;exact ⟨_,pt⟩
def a4q {s:m8} {g:List (Int × Rat)} (h:LJ s g) (b:Blk):ec 212 [U9 s,s6 g] [b] (.c (.ptr 1 0 0)) (bx0 (Mj s) s.n.toNat (j0 (k7 s)) (scL s (j0 (k7 s))) (Zj s g (k9 (k7 s) g)) b):=
 bE7 b (by simp [a5W,a1K,a0q]) (by simp [okS,okC,okL]) (bo7 h)
def an6 {P:Program} {g:FuncId} {x:S} {H H':Hp} {r:S} (h:e8 P g [x,s6 []] H r H'):e8 P g [x,.c (.t (.sl 0 .nil []))] H r H':=by
 refine a7Y h rfl fun w ι M j a b v hx hy hr=>?_
 rcases j with _|_|j
 ·injection hx with hx;injection hy with hy;subst hx hy;exact hr
 ·injection hx with hx;injection hy with hy;subst hx hy
  cases hr with
  |c hr=>cases hr with
   |t hr=>exact .c (.t (hr.weak rfl))
 ·simp at hx
def aK1 (m:Nat):fSJ m (m+9)=0:=by unfold fSJ;rw [iB om]
def aI8 (m:Nat):fSJ m 0=1:=by unfold fSJ;rw [iA om]
def be0 (s:m8) (g:List (Int × Rat)) (h:LJ s g) (hout:H9 (k7 s) g=.best):∃Y:List Rat,
 ec 140 [U9 s,s6 g] [] (.tup [b6L ⟨0,fz (n8 g (s8 (k7 s) g)),s8 (k7 s) g,Y,[]⟩,eI 0]) []:=by
 have lr:=ak3 s (am2 h.sm);rw [h.sm.r] at lr;have hn:=V4 h.sm.r;have hn9:=h.sm.n;have hgl:=D9 h.tg;have hg200:∀t ∈ g,rl t.2<=200:=fun t ht=>lbS (P3 h.w t ht) de
 have rt:=a0g g s.n om hg200;rw [← hn,lbH om,h.tg,hn] at rt;have m1:(s.rows.map v5).length=s.rows.length:=zq;have op:=a4q h (bO z8);have se:=a2x h [bO z8];rw [hout] at se;obtain ⟨Y,pr⟩:=b5G h;rw [show s.rows.length=(s.rows.map v5).length from m1.symm] at pr;refine ⟨Y,?_⟩;have pt:=b1A h;have pl:(s8 (k7 s) g).length=s.n.toNat:=ak9;have pb:=a6N h.sm h.w;have va:=bb6 g (s8 (k7 s) g) om hg200 (fun v hv=>lbS (pb v hv) de) (fun k=>by
  have:=a61 (P3 h.w) pb k;have:g.length*(25+4)<=9*29:=lbT om (lbR _);omega) om (by rw [pl];exact h.tg)
 (refine O3 g8 Tryz.func140 rfl de ?_;refine w8 g8 ?_;(conv=>whnf);repeat ((first|refine b0x ?_|refine zy ?_);conv=>whnf))
 repeat' (first|refine zz ?_|refine b0x ?_|apply zD<;>intro h<;>try omega|refine zy ?_|fail)<;>conv=>whnf
 (refine w8 g8 ?_;conv=>whnf)
 repeat' (first|refine zx ?_|apply zD<;>intro h<;>try omega)<;>conv=>whnf
 all_goals try (exfalso;simp_all;done)
 refine B3 g8 ([J,s6 g,S.c (C.t (T.ptr (a0X s))),J,S.c (C.ptr (Mj s+9) 0 0),eI 0,sP 0 0 0]++Jn 86) (aA0 s g (k9 (k7 s) g) [bO z8]) ?_ ?_
 ·conv=>whnf
  repeat' (first|refine zx ?_|refine .inr ⟨_,_,op,?_⟩|refine G2 ?_|apply zD<;>intro h<;>try omega)<;>conv=>whnf
  exact ⟨_,a4E a4e rfl ⟨m7 rfl,m7 rfl,⟨by rw [z7 om,aK1],rz⟩,rfl,⟨by rw [z7 om,aI8],rz⟩,trivial⟩⟩
 refine a0v g8 ([J,s6 g,S.c (C.t (T.ptr (a0X s))),J,sP 0 0 0,eI 0,dJ s g,eI (-1),eI (-1)]++Jn 84) [bO z8] ?_ ?_
 ·conv=>whnf
  repeat' (first|refine zx ?_|refine .inr ⟨_,_,se,?_⟩|refine i7 ?_|refine bl0 [4] ?_|apply zD<;>intro h<;>try omega)<;>conv=>whnf
  exact ⟨_,ae2 (bO z8) a4e ⟨.inl (m7 rfl),.inl (m7 rfl),.inl rz,.inl rfl,.inr (ae0 fun i hi=>X8 hi),.inl rfl,.inl rfl,trivial⟩⟩
 (refine w8 g8 ?_;conv=>whnf)
 repeat' (first|refine zx ?_|apply zD<;>intro h<;>try omega)<;>conv=>whnf
 all_goals try omega
 refine t4 g8 _ ?_;conv=>whnf
 repeat' (first|refine zx ?_|refine bl0 [4] ?_|refine bl0 [5] ?_|apply zD<;>intro h<;>try omega)<;>conv=>whnf
 all_goals first|omega|exact p7 rz
def bz3 (s:m8) (g:List (Int × Rat)) (r:Nat) (h:LJ s g) (hout:H9 (k7 s) g=.row r):∃Y:List Rat,
 ec 140 [U9 s,s6 g] [] (.tup [b6L ⟨1,a0z,[],Y,[]⟩,eI 0]) []:=by
 have lr:=ak3 s (am2 h.sm);rw [h.sm.r] at lr;have hn:=V4 h.sm.r;have hn9:=h.sm.n;have hgl:=D9 h.tg;have hg200:∀t ∈ g,rl t.2<=200:=fun t ht=>lbS (P3 h.w t ht) de
 have rt:=a0g g s.n om hg200;rw [← hn,lbH om,h.tg,hn] at rt;have m1:(s.rows.map v5).length=s.rows.length:=zq;have op:=a4q h (bO z8);have se:=a2x h [bO z8];rw [hout] at se;obtain ⟨Y,pr⟩:=a7O h (r:=r) (a9G hout).1;rw [show s.rows.length=(s.rows.map v5).length from m1.symm] at pr;refine ⟨Y,?_⟩
 (refine O3 g8 Tryz.func140 rfl de ?_;refine w8 g8 ?_;(conv=>whnf);repeat ((first|refine b0x ?_|refine zy ?_);conv=>whnf))
 repeat' (first|refine zz ?_|refine b0x ?_|apply zD<;>intro h<;>try omega|refine zy ?_|fail)<;>conv=>whnf
 (refine w8 g8 ?_;conv=>whnf)
 repeat' (first|refine zx ?_|apply zD<;>intro h<;>try omega)<;>conv=>whnf
 all_goals try (exfalso;simp_all;done)
 refine B3 g8 ([J,s6 g,S.c (C.t (T.ptr (a0X s))),J,S.c (C.ptr (Mj s+9) 0 0),eI 0,sP 0 0 0]++Jn 86) (aA0 s g (k9 (k7 s) g) [bO z8]) ?_ ?_
 ·conv=>whnf
  repeat' (first|refine zx ?_|refine .inr ⟨_,_,op,?_⟩|refine G2 ?_|apply zD<;>intro h<;>try omega)<;>conv=>whnf
  exact ⟨_,a4E a4e rfl ⟨m7 rfl,m7 rfl,⟨by rw [z7 om,aK1],rz⟩,rfl,⟨by rw [z7 om,aI8],rz⟩,trivial⟩⟩
 refine a0v g8 ([J,s6 g,S.c (C.t (T.ptr (a0X s))),J,sP 0 0 0,eI 0,dJ s g,eI r,eI (-1)]++Jn 84) [bO z8] ?_ ?_
 ·conv=>whnf
  repeat' (first|refine zx ?_|refine .inr ⟨_,_,se,?_⟩|refine i7 ?_|refine bl0 [4] ?_|apply zD<;>intro h<;>try omega)<;>conv=>whnf
  exact ⟨_,ae2 (bO z8) a4e ⟨.inl (m7 rfl),.inl (m7 rfl),.inl rz,.inl rfl,.inr (ae0 fun i hi=>X8 hi),.inl rfl,.inl rfl,trivial⟩⟩
 refine t4 g8 _ ?_;conv=>whnf
 repeat' (first|refine zx ?_|apply zD<;>intro h<;>try omega)<;>conv=>whnf
 all_goals first|omega|exact p7 rz
def bg5 (s:m8) (g:List (Int × Rat)) (c:Nat) (h:LJ s g) (hout:H9 (k7 s) g=.col c) (hout0:H9 (k7 s) []=.best):
 ec 140 [U9 s,s6 g] [] (.tup [b6L ⟨2,a0z,s8 (k7 s) [],[],a6p (k7 s) g c⟩,eI 0]) []:=by
 have lr:=ak3 s (am2 h.sm);rw [h.sm.r] at lr;have hn:=V4 h.sm.r;have hn9:=h.sm.n;have hgl:=D9 h.tg;have hg200:∀t ∈ g,rl t.2<=200:=fun t ht=>lbS (P3 h.w t ht) de
 have rt:=a0g g s.n om hg200;rw [← hn,lbH om,h.tg,hn] at rt;have m1:(s.rows.map v5).length=s.rows.length:=zq;have op:=a4q h (bO z8);have se:=a2x h [bO z8];rw [hout] at se;have op0:=an6 (a4q (a8u h.sm) (bO z8));have se0:=a2x (a8u h.sm) [bO z8];rw [hout0] at se0;have hc:c<s.n.toNat:=(a6V hout).1;have pt:=b1A (a8u h.sm);have ra:=bA5 h hc
 (refine O3 g8 Tryz.func140 rfl de ?_;refine w8 g8 ?_;(conv=>whnf);repeat ((first|refine b0x ?_|refine zy ?_);conv=>whnf))
 repeat' (first|refine zz ?_|refine b0x ?_|apply zD<;>intro h<;>try omega|refine zy ?_|fail)<;>conv=>whnf
 (refine w8 g8 ?_;conv=>whnf)
 repeat' (first|refine zx ?_|apply zD<;>intro h<;>try omega)<;>conv=>whnf
 all_goals try (exfalso;simp_all;done)
 refine B3 g8 ([J,s6 g,S.c (C.t (T.ptr (a0X s))),J,S.c (C.ptr (Mj s+9) 0 0),eI 0,sP 0 0 0]++Jn 86) (aA0 s g (k9 (k7 s) g) [bO z8]) ?_ ?_
 ·conv=>whnf
  repeat' (first|refine zx ?_|refine .inr ⟨_,_,op,?_⟩|refine G2 ?_|apply zD<;>intro h<;>try omega)<;>conv=>whnf
  exact ⟨_,a4E a4e rfl ⟨m7 rfl,m7 rfl,⟨by rw [z7 om,aK1],rz⟩,rfl,⟨by rw [z7 om,aI8],rz⟩,trivial⟩⟩
 refine a0v g8 ([J,s6 g,S.c (C.t (T.ptr (a0X s))),J,sP 0 0 0,eI 0,dJ s g,eI (-1),eI c]++Jn 84) [bO z8] ?_ ?_
 ·conv=>whnf
  repeat' (first|refine zx ?_|refine .inr ⟨_,_,se,?_⟩|refine i7 ?_|refine bl0 [4] ?_|apply zD<;>intro h<;>try omega)<;>conv=>whnf
  exact ⟨_,ae2 (bO z8) a4e ⟨.inl (m7 rfl),.inl (m7 rfl),.inl rz,.inl rfl,.inr (ae0 fun i hi=>X8 hi),.inl rfl,.inl rfl,trivial⟩⟩
 (refine w8 g8 ?_;conv=>whnf)
 repeat' (first|refine zx ?_|apply zD<;>intro h<;>try omega)<;>conv=>whnf
 all_goals try omega
 (refine w8 g8 ?_;conv=>whnf)
 repeat' (first|refine zx ?_|apply zD<;>intro h<;>try omega)<;>conv=>whnf
 all_goals try omega
 refine B3 g8 ([J,s6 g,S.c (C.t (T.ptr (a0X s))),J,S.c (C.ptr (Mj s+9) 0 0),eI 0,dJ s g,J,eI c,J,J,J,sP 0 0 0]++Jn 80) (aA0 s [] (k9 (k7 s) []) [bO z8]) ?_ ?_
 ·conv=>whnf
  repeat' (first|refine zx ?_|refine .inr ⟨_,_,op0,?_⟩|refine G2 ?_|apply zD<;>intro h<;>try omega)<;>conv=>whnf
  exact ⟨_,a4E a4e rfl ⟨m7 rfl,m7 rfl,⟨by rw [z7 om,aK1],rz⟩,rfl,m7 rfl,rfl,⟨by rw [z7 om,aI8],rz⟩,trivial⟩⟩
 refine a0v g8 ([J,s6 g,S.c (C.t (T.ptr (a0X s))),J,sP 0 0 0,eI 0,dJ s g,eI (-1),eI c,J,J,J,dJ s []]++Jn 80) [bO z8] ?_ ?_
 ·conv=>whnf
  repeat' (first|refine zx ?_|refine .inr ⟨_,_,se0,?_⟩|refine i7 ?_|refine bl0 [4] ?_|apply zD<;>intro h<;>try omega)<;>conv=>whnf
  exact ⟨_,ae2 (bO z8) a4e ⟨.inl (m7 rfl),.inl (m7 rfl),.inl rz,.inl rfl,.inl (m7 rfl),.inl rfl,.inl rfl,.inr (ae0 fun i hi=>X8 hi),trivial⟩⟩
 refine t4 g8 _ ?_;conv=>whnf
 repeat' (first|refine zx ?_|apply zD<;>intro h<;>try omega)<;>conv=>whnf
 all_goals first|omega|exact p7 rz
def bp5 (s:m8) (g:List (Int × Rat)) (c r:Nat) (h:LJ s g) (hout:H9 (k7 s) g=.col c) (hout0:H9 (k7 s) []=.row r):∃Y:List Rat,
 ec 140 [U9 s,s6 g] [] (.tup [b6L ⟨1,a0z,[],Y,[]⟩,eI 0]) []:=by
 have lr:=ak3 s (am2 h.sm);rw [h.sm.r] at lr;have hn:=V4 h.sm.r;have hn9:=h.sm.n;have hgl:=D9 h.tg;have hg200:∀t ∈ g,rl t.2<=200:=fun t ht=>lbS (P3 h.w t ht) de
 have rt:=a0g g s.n om hg200;rw [← hn,lbH om,h.tg,hn] at rt;have m1:(s.rows.map v5).length=s.rows.length:=zq;have op:=a4q h (bO z8);have se:=a2x h [bO z8];rw [hout] at se;have op0:=an6 (a4q (a8u h.sm) (bO z8));have se0:=a2x (a8u h.sm) [bO z8];rw [hout0] at se0;obtain ⟨Y,pr⟩:=a7O (a8u h.sm) (r:=r) (a9G hout0).1;rw [show s.rows.length=(s.rows.map v5).length from m1.symm] at pr;refine ⟨Y,?_⟩
 (refine O3 g8 Tryz.func140 rfl de ?_;refine w8 g8 ?_;(conv=>whnf);repeat ((first|refine b0x ?_|refine zy ?_);conv=>whnf))
 repeat' (first|refine zz ?_|refine b0x ?_|apply zD<;>intro h<;>try omega|refine zy ?_|fail)<;>conv=>whnf
 (refine w8 g8 ?_;conv=>whnf)
 repeat' (first|refine zx ?_|apply zD<;>intro h<;>try omega)<;>conv=>whnf
 all_goals try (exfalso;simp_all;done)
 refine B3 g8 ([J,s6 g,S.c (C.t (T.ptr (a0X s))),J,S.c (C.ptr (Mj s+9) 0 0),eI 0,sP 0 0 0]++Jn 86) (aA0 s g (k9 (k7 s) g) [bO z8]) ?_ ?_
 ·conv=>whnf
  repeat' (first|refine zx ?_|refine .inr ⟨_,_,op,?_⟩|refine G2 ?_|apply zD<;>intro h<;>try omega)<;>conv=>whnf
  exact ⟨_,a4E a4e rfl ⟨m7 rfl,m7 rfl,⟨by rw [z7 om,aK1],rz⟩,rfl,⟨by rw [z7 om,aI8],rz⟩,trivial⟩⟩
 refine a0v g8 ([J,s6 g,S.c (C.t (T.ptr (a0X s))),J,sP 0 0 0,eI 0,dJ s g,eI (-1),eI c]++Jn 84) [bO z8] ?_ ?_
 ·conv=>whnf
  repeat' (first|refine zx ?_|refine .inr ⟨_,_,se,?_⟩|refine i7 ?_|refine bl0 [4] ?_|apply zD<;>intro h<;>try omega)<;>conv=>whnf
  exact ⟨_,ae2 (bO z8) a4e ⟨.inl (m7 rfl),.inl (m7 rfl),.inl rz,.inl rfl,.inr (ae0 fun i hi=>X8 hi),.inl rfl,.inl rfl,trivial⟩⟩
 (refine w8 g8 ?_;conv=>whnf)
 repeat' (first|refine zx ?_|apply zD<;>intro h<;>try omega)<;>conv=>whnf
 all_goals try omega
 (refine w8 g8 ?_;conv=>whnf)
 repeat' (first|refine zx ?_|apply zD<;>intro h<;>try omega)<;>conv=>whnf
 all_goals try omega
 refine B3 g8 ([J,s6 g,S.c (C.t (T.ptr (a0X s))),J,S.c (C.ptr (Mj s+9) 0 0),eI 0,dJ s g,J,eI c,J,J,J,sP 0 0 0]++Jn 80) (aA0 s [] (k9 (k7 s) []) [bO z8]) ?_ ?_
 ·conv=>whnf
  repeat' (first|refine zx ?_|refine .inr ⟨_,_,op0,?_⟩|refine G2 ?_|apply zD<;>intro h<;>try omega)<;>conv=>whnf
  exact ⟨_,a4E a4e rfl ⟨m7 rfl,m7 rfl,⟨by rw [z7 om,aK1],rz⟩,rfl,m7 rfl,rfl,⟨by rw [z7 om,aI8],rz⟩,trivial⟩⟩
 refine a0v g8 ([J,s6 g,S.c (C.t (T.ptr (a0X s))),J,sP 0 0 0,eI 0,dJ s g,eI r,eI c,J,J,J,dJ s []]++Jn 80) [bO z8] ?_ ?_
 ·conv=>whnf
  repeat' (first|refine zx ?_|refine .inr ⟨_,_,se0,?_⟩|refine i7 ?_|refine bl0 [4] ?_|apply zD<;>intro h<;>try omega)<;>conv=>whnf
  exact ⟨_,ae2 (bO z8) a4e ⟨.inl (m7 rfl),.inl (m7 rfl),.inl rz,.inl rfl,.inl (m7 rfl),.inl rfl,.inl rfl,.inr (ae0 fun i hi=>X8 hi),trivial⟩⟩
 refine t4 g8 _ ?_;conv=>whnf
 repeat' (first|refine zx ?_|apply zD<;>intro h<;>try omega)<;>conv=>whnf
 all_goals first|omega|exact p7 rz
def aH3 (s:m8) (g:List (Int × Rat)) (h:LJ s g):∃o,bj6 s g o/\ec 140 [U9 s,s6 g] [] (.tup [b6L o,eI 0]) []:=by
 rcases a4v (k7 s) g with hb|⟨r,hr⟩|⟨c,hc⟩
 ·obtain ⟨Y,hY⟩:=be0 s g h hb;exact ⟨_,b8e h.sm h.w h.tg hb Y,hY⟩
 ·obtain ⟨Y,hY⟩:=bz3 s g r h hr;exact ⟨_,b4a g hr Y,hY⟩
 ·rcases a4v (k7 s) [] with hb|⟨r,hr⟩|⟨c',hc'⟩
  ·exact ⟨_,bo8 h.sm h.w h.tg hc hb,bg5 s g c h hc hb⟩
  ·obtain ⟨Y,hY⟩:=bp5 s g c r h hc hr;exact ⟨_,b4a [] hr Y,hY⟩
  ·exact absurd hc' (bg7 (by rw [a6h];exact h.sm.r))
def a2r (s:m8) (h:M5 s):∃b:Bool,(b=true↔∃z,k6 s z=true)/\ec 69 [U9 s] [] (m9 b) []:=by
 obtain ⟨o,ho,hc⟩:=aH3 s [] (a8u h);have hc:=an6 hc;refine ⟨decide (o.kind=0),?_,?_⟩
 ·rw [lbI];constructor
  ·intro e;exact ⟨_,(ho.found e).1⟩
  ·rintro ⟨z,hz⟩;rcases ho.k with e|e|e
   ·exact e
   ·rw [ho.none e z] at hz;cases hz
   ·have:=(ho.free e).2.2;rw [ao7] at this;exact absurd this zk
 ·refine ac Tryz.func69 ?_;conv=>whnf
  repeat' (first|refine zx ?_|refine bl0 [5] ?_|apply zD<;>intro h<;>try omega)<;>conv=>whnf
  all_goals first|omega|(refine j1 ?_;simp_all)
structure PtB (s:m8) (z:List Rat):Prop where
 v:∀v ∈ z,rl v<=40000
 S:∀w ∈ s.rows,∀k,rl (n8 (w.terms.take k) z)<=50000
 l:z.length<=1000000
def b7d (s:m8) (hb:b23 s) (hr:q9 s=true) (Z:List Rat) (hp:PtB s Z):
 ec 135 [U9 s,H5 (Z.map fz)] [] (m9 (k6 s Z)) []:=by
 have m1:(s.rows.map v5).length=s.rows.length:=zq;have m2:((Z.map fz).map B2).length=Z.length:=zq;have l1:=hb.n0;have l2:=hp.l;have lr:=a8T s hb;rw [hr] at lr;have pt:=b4y (Z.map fz) (by simpa using hp.l) (fun f hf=>by
  obtain ⟨x,hx,rfl⟩:=lbx.1 hf;have:=hp.v x hx;have a:=K6 x;have b:=J9 x;exact ⟨by show bl x.num<=_;omega,by show bl x.den<=_;omega⟩)
 rw [aa8] at pt;by_cases hn:(Z.length:Int)≠s.n
 ·have e2:k6 s Z=false:=by unfold k6;rw [lbJ hn];simp
  rw [e2]
  (refine ac Tryz.func135 ?_;(conv=>whnf);repeat ((first|refine b0x ?_|refine zy ?_);conv=>whnf))
  repeat' (first|refine zx ?_|apply zD<;>intro h<;>try omega)<;>conv=>whnf
  all_goals first|omega|exact j1 rfl
 have hn:(Z.length:Int)=s.n:=om;have e2:k6 s Z=(Z.all (fun v=>decide (0<=v)) && s.rows.all (fun w=>a0j w Z)):=by unfold k6;rw [hr,lbH hn];simp
 rw [e2]
 (refine ac Tryz.func135 ?_;(conv=>whnf);repeat ((first|refine b0x ?_|refine zy ?_);conv=>whnf))
 repeat' (first|refine zx ?_|apply zD<;>intro h<;>try omega)<;>conv=>whnf
 all_goals try omega
 refine k5 g8 (fun k=>([J,H5 (Z.map fz),S.c (C.t (T.ptr [ti s.n,a04 s.rows]))]++Jn 22++[H5 (Z.map fz),eI Z.length,eI k]++Jn 38,[])) Z.length (fun k=>(Z.take k).all (fun v=>decide (0<=v))=true) [] rfl
  ⟨rfl,rfl,trivial,⟨rfl,rfl,rfl,g9 zq,rz⟩⟩ ?_
 intro k hk hI;by_cases hlt:k<Z.length
 ·obtain ⟨x,hx⟩:∃x,Z[k]? =some x:=⟨_,lbf hlt⟩;have bx:=hp.v x (lbm hx);have sg:=a2q x om;have sn:=be7 (x:=x);conv=>whnf
  repeat' (first|refine zx ?_|refine j6 (b8D Z hx) ?_|apply zD<;>intro h<;>try omega)<;>conv=>whnf
  all_goals first
   |omega
   |(have h0:¬sgR x<0:=by omega
     exact ⟨hlt,by rw [D3 hx,hI];simpa using lb4.1 (fun h=>h0 (sn.2 h)),[],rz⟩)
   |(have h0:sgR x<0:=by omega
     have hF:Z.all (fun v=>decide (0<=v))=false:=G9 hx (lbJ (Rat.not_le.2 (sn.1 h0)));refine j1 ?_;rw [hF];rfl)
 ·have hA:Z.all (fun v=>decide (0<=v))=true:=by rw [← hI,lbn om]
  rw [hA,K9];conv=>whnf
  repeat' (first|refine zx ?_|apply zD<;>intro h<;>try omega)<;>conv=>whnf
  all_goals try omega
  clear hI hlt hk;refine k5 g8 (fun k=>([J,H5 (Z.map fz)]++Jn 34++[S.c (C.t (a04 s.rows)),eI s.rows.length,eI k]++Jn 27,[])) s.rows.length (fun k=>(s.rows.take k).all (fun w=>a0j w Z)=true) [] rfl
   ⟨rfl,rfl,trivial,⟨rfl,rfl,g9 zq,rz⟩⟩ ?_
  intro k hk hI;by_cases hlt:k<s.rows.length
  ·obtain ⟨w,hw⟩:∃w,s.rows[k]? =some w:=⟨_,lbf hlt⟩;obtain ⟨b1,b2,b3⟩:=hb.t w (lbm hw);have hrw:A6 s.n w=true:=by
    unfold q9 at hr;simp only [lbN,lbv] at hr;exact hr.2 w (lbm hw)
   have hrt:n7 (-1) Z.length w.terms=true:=by
    unfold A6 at hrw;simp only [lbN] at hrw;rw [hn];exact hrw.1.1
   have hS:=hp.S w (lbm hw);have va:=b1b w.terms Z om (fun t ht=>by have:=b2 t ht;omega) hp.v (fun k=>by have:=hS k;omega) om hrt;have bv:=hS w.terms.length;rw [lbn (lbR _)] at bv;have c:=aA6 (n8 w.terms Z) w.value om om;have k1:=aT9 (x:=n8 w.terms Z) (y:=w.value);have k2:=b8t (x:=n8 w.terms Z) (y:=w.value);have hro:=a4B (w:=w) (z:=Z);rw [← k1,←k2] at hro;generalize a8x (n8 w.terms Z) w.value=U at c hro;by_cases hok:(U<0->w.kind=1)/\(U > 0->w.kind=0)
   ·have hT:=hro.2 hok;obtain ⟨q1,q2⟩:=hok;conv=>whnf
    repeat' (first|refine zx ?_|refine j6 hw ?_|apply zD<;>intro h<;>try omega)<;>conv=>whnf
    all_goals first|omega|exact ⟨hlt,by rw [D3 hw,hI,hT];rfl,[],rz⟩
   ·have hF:a0j w Z=false:=by rw [← lbQ];exact fun h=>hok (hro.1 h)
    rw [G9 hw hF];have hor:(U<0/\w.kind≠1)\/(U > 0/\w.kind≠0):=om;clear hro hok;conv=>whnf
    repeat' (first|refine zx ?_|refine j6 hw ?_|apply zD<;>intro h<;>try omega)<;>conv=>whnf
    all_goals first|omega|exact j1 rfl
  ·rw [lbn om] at hI;rw [hI];conv=>whnf
   repeat' (first|refine zx ?_|apply zD<;>intro h<;>try omega)<;>conv=>whnf
   all_goals first|omega|exact j1 rfl
def yN (Y:List Rat) (i:Nat):Rat:=Y.getD i 0
def sgB (s:m8) (Y:List Rat) (i:Nat):Bool:=!((decide ((Y5 s i).kind=0) && decide (yN Y i<0)) || (decide ((Y5 s i).kind=1) && decide (0<yN Y i)))
def bt1 (s:m8) (Y:List Rat):Bool:=decide (Y.length=s.rows.length) && (List.range s.rows.length).all (sgB s Y)
def bQ4 (s:m8) (y:Nat->Rat) (l k:Nat):Rat:=p5 (fun i=>y i*L7 (Y5 s i).terms l) k
def bQ5 (s:m8) (y:Nat->Rat) (k:Nat):Rat:=p5 (fun i=>y i*(Y5 s i).value) k
def b7F (s:m8) (g:List (Int × Rat)) (Y:List Rat):Bool:=bt1 s Y && n7 (-1) s.n g && (List.range s.n.toNat).all fun v=>decide (b2T s (yN Y) v<=L7 g v)
def bA7 (s:m8) (Y:List Rat):Bool:=b7F s [] Y && decide (0<b6t s (yN Y))
def b9n (x:Rat):sgR x<0↔x<((0:Int):Rat):=by unfold sgR;split<;>(try split)<;>simp_all
def b7t {x y:Rat} {ρ:List (Option Nat)} {H:Hp} (h:x=y):a7B ρ H (frS (fz x)) (frS (fz y)):=by subst h;exact rz
def ag5 (n lo hi:Int):ec 272 [eI n,eI lo,eI hi] [] (m9 (btw n lo hi)) []:=by
 refine ac Tryz.func272 ?_;conv=>whnf
 repeat' (first|refine zx ?_|apply zD<;>intro<;>try omega)<;>conv=>whnf
 all_goals (refine j1 ?_;simp only [btw];simp;omega)
def b1e (c:P5):ec 317 [b0j c] [] (m9 (U3 c)) []:=by
 have w1:=ag5 c.scale 0 29;have w2:=ag5 c.grams 0 1099511627776;have w3:=ag5 c.permille 0 1000;have w4:=ag5 c.drift 0 10000000;rw [aI3] at w1;unfold U3;cases h1:idx c.scale 30<;>cases h2:btw c.grams 0 1099511627776<;>cases h3:btw c.permille 0 1000<;>cases h4:btw c.drift 0 10000000<;>rw [h1] at w1<;>rw [h2] at w2<;>rw [h3] at w3<;>rw [h4] at w4<;>
 ·refine ac Tryz.func317 ?_;conv=>whnf
  repeat' (first|refine zx ?_|apply zD<;>intro<;>try omega)<;>conv=>whnf
  all_goals (refine j1 ?_;simp;try omega)
def a6u (o:Option Nat):Int:=match o with
 |none=>-1
 |some b=>b
def bl6 (cs:List P5) (scale day:Int) (hl:cs.length<=1000000):
 ec 270 [.c (.t (a1y cs)),eI scale,eI day] [] (.tup [eI (aa0 (H3 cs scale day cs.length)),m9 (H3 cs scale day cs.length).isSome]) []:=by
 have l1:(cs.map P5.row).length=cs.length:=zq;refine ac Tryz.func270 ?_;conv=>whnf
 repeat' (first|refine zx ?_|apply zD<;>intro h<;>try omega)<;>conv=>whnf
 refine k5 g8 (fun k=>([S.c (C.t (a1y cs)),eI scale,eI day,J,J,J,J,J,eI (a6u (H3 cs scale day k)),eI k]++Jn 47,[])) cs.length tT [] trivial
  rz ?_
 intro k hk _;by_cases hlt:k<cs.length
 ·obtain ⟨c,hc⟩:∃c,cs[k]? =some c:=⟨_,lbf hlt⟩;have cr:=b1e c;have ci:=ag5 day c.since c.till;have hst:H3 cs scale day (k+1)=if decide (c.scale=scale) && O0 c day && a5K cs (H3 cs scale day k) c then some k else H3 cs scale day k:=by
   conv=>lhs;unfold H3
   rw [hc]
  have nxt:∀z:Int,a6u (H3 cs scale day (k+1))=z->z=a6u (H3 cs scale day (k+1)):=fun z h=>h.symm
  cases hr:U3 c with
  |false=>
   have hcv:O0 c day=false:=by unfold O0;rw [hr];rfl
   rw [hcv] at hst;simp only [aT7,a2i,a7N,if_false] at hst;rw [hr] at cr;rw [← hst];conv=>whnf
   repeat' (first|refine zx ?_|refine j6 hc ?_|apply zD<;>intro h<;>try omega)<;>conv=>whnf
   all_goals first
    |omega
    |(exfalso;simp_all;done)
    |exact ⟨hlt,trivial,[],rz⟩
  |true=>
  rw [hr] at cr;cases hb:btw day c.since c.till with
  |false=>
   have hcv:O0 c day=false:=by unfold O0;rw [hr,hb];rfl
   rw [hcv] at hst;simp only [aT7,a2i,a7N,if_false] at hst;rw [hb] at ci;rw [← hst];conv=>whnf
   repeat' (first|refine zx ?_|refine j6 hc ?_|apply zD<;>intro h<;>try omega)<;>conv=>whnf
   all_goals first
    |omega
    |(exfalso;simp_all;done)
    |exact ⟨hlt,trivial,[],rz⟩
  |true=>
   have hcv:O0 c day=true:=by unfold O0;rw [hr,hb];rfl
   rw [hcv] at hst;rw [hb] at ci;cases hf:H3 cs scale day k with
   |none=>
    rw [hf] at hst;have e0:a6u none=-1:=rfl;rw [e0];by_cases hsc:c.scale=scale
    ·have hst2:(k:Int)=a6u (H3 cs scale day (k+1)):=by rw [hst,iA (by simp [hsc,a5K])];rfl
     clear hst hcv hr hb nxt;conv=>whnf
     repeat' (first|refine zx ?_|refine j6 hc ?_|apply zD<;>intro h<;>try omega)<;>conv=>whnf
     all_goals first|omega|exact ⟨hlt,trivial,[],rfl,rfl,trivial,⟨rfl,rfl,rfl,g9 hst2,rz⟩⟩
    ·have hst2:(-1:Int)=a6u (H3 cs scale day (k+1)):=by rw [hst,iB (by simp [hsc])];rfl
     clear hst hcv hr hb nxt;conv=>whnf
     repeat' (first|refine zx ?_|refine j6 hc ?_|apply zD<;>intro h<;>try omega)<;>conv=>whnf
     all_goals first
      |omega
      |exact ⟨hlt,trivial,[],rfl,rfl,trivial,⟨rfl,rfl,rfl,g9 hst2,rz⟩⟩
   |some b=>
    rw [hf] at hst;obtain ⟨hb',cb,hcb,_⟩:=Q8 hf;have hsb:=b1M hcb;have e0:a6u (some b)=(b:Int):=rfl;have em:(if (0:Int) > (b:Int) then 0 else (b:Int))=(b:Int):=iB om;rw [e0];by_cases hsc:c.scale=scale/\cb.since<=c.since
    ·have hst2:(k:Int)=a6u (H3 cs scale day (k+1)):=by rw [hst,iA (by simp [hsc.1,a5K,hsb,hsc.2])];rfl
     clear hst hcv hr hb nxt;conv=>whnf
     repeat' (first|refine zx ?_|refine j6 hc ?_|refine N4 em hcb ?_|apply zD<;>intro h<;>try omega)<;>conv=>whnf
     all_goals first|omega|exact ⟨hlt,trivial,[],rfl,rfl,trivial,⟨rfl,rfl,rfl,g9 hst2,rz⟩⟩
    ·have hst2:(b:Int)=a6u (H3 cs scale day (k+1)):=by
      rw [hst,iB (by simp only [lbN,lbI,a5K,hsb];intro h;exact hsc ⟨h.1.1,h.2⟩)];rfl
     clear hst hcv hr hb nxt;conv=>whnf
     repeat' (first|refine zx ?_|refine j6 hc ?_|refine N4 em hcb ?_|apply zD<;>intro h<;>try omega)<;>conv=>whnf
     all_goals first|omega|exact ⟨hlt,trivial,[],rfl,rfl,trivial,⟨rfl,rfl,rfl,g9 hst2,rz⟩⟩
 ·have hke:k=cs.length:=by omega
  subst hke;cases hf:H3 cs scale day cs.length with
  |none=>
   have e0:a6u none=-1:=rfl;rw [e0];conv=>whnf
   repeat' (first|refine zx ?_|apply zD<;>intro h<;>try omega)<;>conv=>whnf
   all_goals first
    |omega
    |exact p7 rz
  |some b=>
   have e0:a6u (some b)=(b:Int):=rfl;have em:(if (0:Int) > (b:Int) then 0 else (b:Int))=(b:Int):=iB om;rw [e0];conv=>whnf
   repeat' (first|refine zx ?_|apply zD<;>intro h<;>try omega)<;>conv=>whnf
   all_goals first|omega|exact p7 ⟨g9 em,rz⟩
def b1c (rs:List J1) (hl:rs.length<=1000000) (scale day:Int):ec 271 [.c (.t (Q9 rs)),eI scale,eI day] [] (m9 (a2J rs scale day)) []:=by
 have l1:(rs.map J1.row).length=rs.length:=zq;refine ac Tryz.func271 ?_;conv=>whnf
 repeat' (first|refine zx ?_|apply zD<;>intro<;>try omega)<;>conv=>whnf
 refine k5 g8 (fun k=>([S.c (C.t (Q9 rs)),eI scale,eI day,J,J,J,J,eI k]++Jn 22,[])) rs.length (fun k=>(rs.take k).any (fun r=>decide (r.scale=scale) && decide (r.since<=day))=false) [] rfl
  rz ?_
 intro k hk hI;by_cases hlt:k<rs.length
 ·obtain ⟨r,hr⟩:∃r,rs[k]? =some r:=⟨_,lbf hlt⟩;conv=>whnf
  repeat' (first|refine zx ?_|refine j6 hr ?_|apply zD<;>intro<;>try omega)<;>conv=>whnf
  all_goals first|omega|(refine ⟨hlt,?_,[],rz⟩;rw [a1S hr,hI];simp [*];done)|(refine ⟨hlt,?_,[],rz⟩;rw [a1S hr,hI];simp;omega)|(refine j1 ?_;unfold a2J;rw [a5d hr];simp [*];done)|(refine j1 ?_;unfold a2J;rw [a5d hr];simp;omega)
 ·rw [lbn om] at hI;conv=>whnf
  repeat' (first|refine zx ?_|apply zD<;>intro<;>try omega)<;>conv=>whnf
  all_goals first|omega|exact j1 hI.symm
def b78 (c:P5) (reading day:Int) (h:O0 c day=true) (hr:btw reading 0 1099511627776=true):ec 273 [b0j c,eI reading,eI day] []
 (.tup [frS (fz (a3n c reading day)),m9 true]) []:=by
 have cr:=b1e c;have ci:=ag5 day c.since c.till;have wi:=ag5 reading 0 1099511627776;have hcr:U3 c=true:=by unfold O0 at h;simp only [lbN] at h;exact h.1
 have hci:btw day c.since c.till=true:=by unfold O0 at h;simp only [lbN] at h;exact h.2
 rw [hcr] at cr;rw [hci] at ci;rw [hr] at wi;have hc:=a4S h;obtain ⟨p0,p1,d0,d1⟩:=b9t.of h hr;rw [a0d] at hr;have fo:=bB9 (c.permille*reading) 1000 de om om de;have fi:=a5S (c.grams+c.drift*(day - c.since)) om om;have h2:rl (Rat.divInt (c.permille*reading) 1000)<=4:=lbS (X4 de) (by have:=T4 (x:=c.permille*reading) om om;have:=T4 (x:=1000) de de;omega);have h3:rl ((c.grams+c.drift*(day - c.since):Int):Rat)<=4:=by rw [a0G];have:=T4 (x:=c.grams+c.drift*(day - c.since)) om om;omega
 have ad:=b44 ((c.grams+c.drift*(day - c.since):Int):Rat) (Rat.divInt (c.permille*reading) 1000) om om;refine ac Tryz.func273 ?_;conv=>whnf
 repeat' (first|refine zx ?_|refine bl0 [7] ?_|refine bl0 [15] ?_|apply zD<;>intro h<;>try omega)<;>conv=>whnf
 all_goals first|(exfalso;simp_all;done)|exact b84 (by rw [Rat.add_comm];rfl) rfl
def b19 (cs:List P5) (rs:List J1) (hl:cs.length<=1000000) (hl2:rs.length<=1000000) (scale reading day:Int):
 ec 210 [.c (.t (a1y cs)),.c (.t (Q9 rs)),eI scale,eI reading,eI day] [] (.tup (ivL (R4 cs rs scale reading day))) []:=by
 have f:=bl6 cs scale day hl;have r:=b1c rs hl2 scale day;have wi:=ag5 reading 0 1099511627776;unfold R4;cases hf:H3 cs scale day cs.length with
 |none=>
  rw [hf] at f;refine ac Tryz.func210 ?_;conv=>whnf
  repeat' (first|refine zx ?_|refine bl0 [1] ?_|apply zD<;>intro h<;>try omega)<;>conv=>whnf
  all_goals first
   |(exfalso;simp_all;done)
   |exact p7 rz
 |some i=>
  rw [hf] at f;obtain ⟨hb,c,hc,_,hcv⟩:=Q8 hf;have e:a2d cs i=c:=by unfold a2d;rw [hc];rfl
  simp only [e];cases hrec:a2J rs scale day with
  |true=>
   rw [hrec] at r;refine ac Tryz.func210 ?_;conv=>whnf
   repeat' (first|refine zx ?_|refine bl0 [1] ?_|apply zD<;>intro h<;>try omega)<;>conv=>whnf
   all_goals first
    |(exfalso;simp_all;done)
    |exact p7 rz
  |false=>
   rw [hrec] at r;cases hr:btw reading 0 1099511627776 with
   |false=>
    rw [hr] at wi;refine ac Tryz.func210 ?_;conv=>whnf
    repeat' (first|refine zx ?_|refine bl0 [1] ?_|apply zD<;>intro h<;>try omega)<;>conv=>whnf
    all_goals first
     |exact p7 rz
     |(exfalso;simp_all;done)
   |true=>
    have er:=b78 c reading day hcv hr;have l1:=b2m hcv hr;rw [hr] at wi;rw [a0d] at hr;have l2:rl (reading:Rat)<=4:=by rw [a0G];have:=T4 (x:=reading) om om;omega
    have fi:=a5S reading om om;have f0:=a5S 0 om om;have sb:=bt7 (reading:Rat) (a3n c reading day) om om;have ad:=b44 (reading:Rat) (a3n c reading day) om om;have l4:=aT3 (reading:Rat) (a3n c reading day);have sg:=b9e ((reading:Rat) - a3n c reading day) om;have hs:=b9n ((reading:Rat) - a3n c reading day);refine ac Tryz.func210 ?_;conv=>whnf
    repeat' (first|refine zx ?_|refine j6 hc ?_|refine bl0 [1] ?_|refine bl0 [9] ?_|refine bl0 [6] ?_|apply zD<;>intro h<;>try omega)<;>conv=>whnf
    ·have hn:(reading:Rat) - a3n c reading day<((0:Int):Rat):=hs.1 om;refine p7 ⟨b7t ?_,rz⟩;unfold aM9;rw [iA hn]
    ·have hn:¬(reading:Rat) - a3n c reading day<((0:Int):Rat):=fun h=>absurd (hs.2 h) om
     refine p7 ⟨b7t ?_,rz⟩;unfold aM9;rw [iB hn]
    all_goals (have hq:(some i).isSome=false:=(by assumption);cases hq)
def a7W (n lo hi:Int):ec 149 [eI n,eI lo,eI hi] [] (m9 (btw n lo hi)) []:=by
 refine ac Tryz.func149 ?_;conv=>whnf
 repeat' (first|refine zx ?_|apply zD<;>intro<;>try omega)<;>conv=>whnf
 all_goals (refine j1 ?_;simp only [btw];simp;omega)
def a3V (n m:Int):ec 149 [eI n,eI 0,eI (m - 1)] [] (m9 (idx n m)) []:=by
 rw [← b4d];exact a7W n 0 (m - 1)
def bk1 (e:Ev) (hs:e.Sized):ec 225 [evS e] [] (m9 (a3q e)) []:=by
 have l1:(e.places.map a0l.row).length=e.places.length:=zq;have l2:(e.moves.map C6.row).length=e.moves.length:=zq;have l3:(e.certs.map P5.row).length=e.certs.length:=zq;have l4:(e.recalls.map J1.row).length=e.recalls.length:=zq;have l5:(e.purities.map a2j.row).length=e.purities.length:=zq;refine ac Tryz.func225 ?_;conv=>whnf
 repeat' (first|refine zx ?_|apply zD<;>intro<;>try omega)<;>conv=>whnf
 all_goals (refine j1 ?_;unfold a3q;simp;omega)
def b6J (e:Ev) (p:a0l) (h1:1<=e.mats) (h2:e.mats<=6) (h3:0<=e.hhs) (h4:e.hhs<=100):ec 226 [evS e,.agg (p.row.map .t)] [] (m9 (a0C e p)) []:=by
 have i3:=a3V p.kind 7;refine ac Tryz.func226 ?_;conv=>whnf
 repeat' (first|refine zx ?_|refine qp (a3V p.hh e.hhs) ?_|refine qp (a3V p.mat e.mats) ?_|apply zD<;>intro<;>try omega)<;>conv=>whnf
 all_goals first|omega|(refine j1 ?_;simp_all [a0C]<;>decide)
def a3O (e:Ev) (k:Nat) (x:C6):Int:=if x.day<0\/100000<x.day\/(0<k/\x.day<a4a e k) then 17 else if O5 e x then 0 else 1
def bo2 (e:Ev) (k:Nat) (x:C6) (hx:e.moves[k]? =some x) (hf:a3q e=false) (h1:1<=e.mats) (h3:0<=e.hhs) (h5:0<=e.scs):ec 227 [evS e,eI k] [] (eI (a3O e k x)) []:=by
 have l1:(e.places.map a0l.row).length=e.places.length:=zq;have l2:(e.moves.map C6.row).length=e.moves.length:=zq;have hk:k<e.moves.length:=(lbe.1 hx).1;unfold a3q at hf;simp only [a2f,lbK] at hf;obtain ⟨y,hy⟩:∃y,e.moves[k - 1]? =some y:=⟨_,lbf om⟩;have hl:0<k->a4a e k=y.day:=fun h=>by
  obtain ⟨j,rfl⟩:∃j,k=j+1:=⟨k - 1,om⟩;exact a2O hy
 have d:=a7W x.day 0 100000;have is:=a3V x.src (e.places.map a0l.row).length;have id:=a3V x.dst (e.places.map a0l.row).length;have ic:=a3V x.scale e.scs;have ir:=a7W x.reading 0 1099511627776;have hdd:(x.day<0\/100000<x.day\/(0<k/\x.day<a4a e k))↔(x.day<0\/100000<x.day\/(0<k/\x.day<y.day)):=by
  rcases a4m k with h|h
  ·simp [h]
  ·rw [hl h]
 clear hl;have em:(if (0:Int) > (k:Int) - 1 then 0 else (k:Int) - 1)=((k - 1:Nat):Int):=by split<;>omega
 by_cases hd:x.day<0\/100000<x.day\/(0<k/\x.day<y.day)
 ·have e1:a3O e k x=17:=by unfold a3O;rw [iA (hdd.2 hd)]
  clear hdd;rw [e1];have hb:=a0d (a:=x.day) (b:=0) (c:=100000);refine ac Tryz.func227 ?_;conv=>whnf
  repeat' (first|refine zx ?_|refine j6 hx ?_|refine N4 em hy ?_|apply zD<;>intro h<;>try omega)<;>conv=>whnf
  all_goals first|exact p9 rfl|(exfalso;have:=hb.1 (by assumption);omega)|omega
 have e1:a3O e k x=if O5 e x then 0 else 1:=by unfold a3O;rw [iB (fun h=>hd (hdd.1 h))]
 clear hdd;rw [e1];have hd':btw x.day 0 100000=true:=by rw [a0d];omega
 rw [hd'] at d;cases h1:idx x.src e.places.length with
 |false=>
  rw [← l1] at h1;rw [h1] at is;rw [l1] at h1;refine ac Tryz.func227 ?_;conv=>whnf
  repeat' (first|refine zx ?_|refine j6 hx ?_|refine N4 em hy ?_|apply zD<;>intro h<;>try omega)<;>conv=>whnf
  all_goals first
   |(refine p9 ?_;simp [O5,h1];done)
   |(exfalso;simp_all;done)
   |omega
 |true=>
  obtain ⟨hs0,p,hp,kp⟩:=a7p h1;rw [← l1] at h1;rw [h1] at is;rw [l1] at h1;cases h2:idx x.dst e.places.length with
  |false=>
   rw [← l1] at h2;rw [h2] at id;rw [l1] at h2;refine ac Tryz.func227 ?_;conv=>whnf
   repeat' (first|refine zx ?_|refine j6 hx ?_|refine N4 em hy ?_|apply zD<;>intro h<;>try omega)<;>conv=>whnf
   all_goals first
    |(refine p9 ?_;simp [O5,h1,h2];done)
    |(exfalso;simp_all;done)
    |omega
  |true=>
   obtain ⟨hd0,q,hq,kq⟩:=a7p h2;rw [← l1] at h2;rw [h2] at id;rw [l1] at h2;refine ac Tryz.func227 ?_;conv=>whnf
   repeat' (first|refine zx ?_|refine qp ir ?_|refine j6 hx ?_|refine K3 hs0 hp ?_|refine K3 hd0 hq ?_|refine N4 em hy ?_|apply zD<;>intro h<;>try omega)<;>conv=>whnf
   all_goals first|(refine p9 ?_;simp_all [O5];done)|(exfalso;simp_all;done)|omega
theorem bj2 (e:Ev) (hs:e.Sized) (hf:a3q e=false) (h1:1<=e.mats) (h5:0<=e.scs):e8 Tryz.prog 228 [evS e] [] (m9 (a0K e)) []:=by
 have l2:(e.certs.map P5.row).length=e.certs.length:=by simp
 have l4:(e.recalls.map J1.row).length=e.recalls.length:=by simp
 have l6:(e.purities.map a2j.row).length=e.purities.length:=by simp
 have l8:(e.moves.map C6.row).length=e.moves.length:=by simp
 unfold a3q at hf
 simp only [a2f,lbK] at hf
 (refine ac Tryz.func228 ?_;(conv=>whnf);repeat ((first|refine b0x ?_|refine zy ?_);conv=>whnf))
 repeat' (first|refine zx ?_|refine zd ?_ ?_<;>intro h<;>try omega|fail)<;>conv=>whnf
 refine k5 g8 (fun k=>([J,S.c (C.t (T.ptr (evT e))),J,e7 .i64 k]++Jn 124,[])) e.certs.length (fun k=>(e.certs.take k).all (a4X e)=true) [] rfl
  ⟨rfl,rfl,trivial,⟨rfl,rfl,trivial⟩⟩ ?_
 intro k hk hI
 by_cases hlt:k<e.certs.length
 ·obtain ⟨x,hx⟩:∃x,e.certs[k]? =some x:=⟨_,lbf hlt⟩
  conv=>whnf
  repeat' (first|refine zx ?_|refine qp (a3V x.scale e.scs) ?_|refine qp (a7W x.till x.since 100000) ?_|refine qp (a7W x.grams 0 1099511627776) ?_|refine qp (a7W x.permille 0 1000) ?_|refine qp (a7W x.drift 0 10000000) ?_|refine j6 hx ?_|refine zd ?_ ?_<;>intro h<;>try omega|fail)<;>conv=>whnf
  all_goals first
   |omega
   |(refine ⟨hlt,?_,[],rfl,rfl,trivial,⟨rfl,rfl,trivial⟩⟩;rw [D3 hx,hI];simp_all [a4X,btw];done)
   |(refine j1 ?_;rw [a0K,G9 hx];rfl;simp_all [a4X,btw];(try omega);done)
 ·have hc:e.certs.all (a4X e)=true:=by rw [← hI,lbn (by omega)]
  conv=>whnf
  repeat' (first|refine zx ?_|refine zd ?_ ?_<;>intro h<;>try omega|fail)<;>conv=>whnf
  all_goals try omega
  clear hI hlt hk
  refine k5 g8 (fun k=>([J,S.c (C.t (T.ptr (evT e))),J,J,J,e7 .i64 k]++Jn 122,[])) e.recalls.length (fun k=>(e.recalls.take k).all (a17 e)=true) [] rfl
   ⟨rfl,rfl,trivial,⟨rfl,rfl,trivial⟩⟩ ?_
  intro k hk hI
  by_cases hlt:k<e.recalls.length
  ·obtain ⟨x,hx⟩:∃x,e.recalls[k]? =some x:=⟨_,lbf hlt⟩
   conv=>whnf
   repeat' (first|refine zx ?_|refine qp (a3V x.scale e.scs) ?_|refine qp (a7W x.since 0 100000) ?_|refine j6 hx ?_|refine zd ?_ ?_<;>intro h<;>try omega|fail)<;>conv=>whnf
   all_goals first
    |omega
    |(refine ⟨hlt,?_,[],rfl,rfl,trivial,⟨rfl,rfl,trivial⟩⟩;rw [D3 hx,hI];simp_all [a17];done)
    |(refine j1 ?_;rw [a0K,hc,G9 hx];rfl;simp_all [a17];done)
  ·have hr:e.recalls.all (a17 e)=true:=by rw [← hI,lbn (by omega)]
   conv=>whnf
   repeat' (first|refine zx ?_|refine zd ?_ ?_<;>intro h<;>try omega|fail)<;>conv=>whnf
   all_goals try omega
   clear hI hlt hk
   refine k5 g8 (fun k=>([J,S.c (C.t (T.ptr (evT e))),J,J,J,J,e7 .i64 k]++Jn 121,[])) e.purities.length (fun k=>(e.purities.take k).all (a12 e)=true) [] rfl
    ⟨rfl,rfl,trivial,⟨rfl,rfl,trivial⟩⟩ ?_
   intro k hk hI
   by_cases hlt:k<e.purities.length
   ·obtain ⟨x,hx⟩:∃x,e.purities[k]? =some x:=⟨_,lbf hlt⟩
    conv=>whnf
    repeat' (first|refine zx ?_|refine qp (a3V x.move (e.moves.map C6.row).length) ?_|refine qp (a3V x.mat e.mats) ?_|refine qp (a7W x.most x.least 1000) ?_|refine j6 hx ?_|refine zd ?_ ?_<;>intro h<;>try omega|fail)<;>conv=>whnf
    all_goals first
     |omega
     |(refine ⟨hlt,?_,[],rfl,rfl,trivial,⟨rfl,rfl,trivial⟩⟩;rw [D3 hx,hI];simp_all [a12,btw];done)
     |(refine j1 ?_;rw [a0K,hc,hr,G9 hx];rfl;simp_all [a12,btw];(try omega);done)
   ·have hp:e.purities.all (a12 e)=true:=by rw [← hI,lbn (by omega)]
    conv=>whnf
    repeat' (first|refine zx ?_|refine zd ?_ ?_<;>intro h<;>try omega|fail)<;>conv=>whnf
    all_goals first
     |omega
     |(refine j1 ?_;rw [a0K,hc,hr,hp];rfl)
theorem b1F (e:Ev) (hs:e.Sized):e8 Tryz.prog 147 [evS e] [] (e7 .i64 (I1 e)) []:=by
 have l1:(e.places.map a0l.row).length=e.places.length:=by simp
 have l8:(e.moves.map C6.row).length=e.moves.length:=by simp
 have fu:=bk1 e hs
 cases hf:a3q e with
 |true=>
  rw [hf] at fu
  (refine ac Tryz.func147 ?_;(conv=>whnf);repeat ((first|refine b0x ?_|refine zy ?_);conv=>whnf))
  repeat' (first|refine zx ?_|refine qp fu ?_|refine zd ?_ ?_<;>intro h<;>try omega|fail)<;>conv=>whnf
  all_goals first
   |(exfalso;simp_all;done)
   |(refine p9 ?_;unfold I1;rw [iA hf])
 |false=>
  rw [hf] at fu
  by_cases hb:e.mats<1\/e.hhs<0\/e.scs<0
  ·have e1:I1 e=1:=by
    unfold I1;rw [iB (by simp [hf]),iA (by rcases hb with h|h|h<;>simp [h])]
   rw [e1]
   (refine ac Tryz.func147 ?_;(conv=>whnf);repeat ((first|refine b0x ?_|refine zy ?_);conv=>whnf))
   repeat' (first|refine zx ?_|refine qp fu ?_|refine zd ?_ ?_<;>intro h<;>try omega|fail)<;>conv=>whnf
   all_goals first
    |(exfalso;simp_all;done)
    |omega
    |exact p9 rfl
  have hfb:=hf
  unfold a3q at hfb
  simp only [a2f,lbK] at hfb
  (refine ac Tryz.func147 ?_;(conv=>whnf);repeat ((first|refine b0x ?_|refine zy ?_);conv=>whnf))
  repeat' (first|refine zx ?_|refine qp fu ?_|refine zd ?_ ?_<;>intro h<;>try omega|fail)<;>conv=>whnf
  all_goals try omega
  refine k5 g8 (fun k=>([J,S.c (C.t (T.ptr (evT e))),J,e7 .i64 k]++Jn 48,[])) e.places.length (fun k=>(e.places.take k).all (a0C e)=true) [] rfl
   ⟨rfl,rfl,trivial,⟨rfl,rfl,trivial⟩⟩ ?_
  intro k hk hI
  by_cases hlt:k<e.places.length
  ·obtain ⟨x,hx⟩:∃x,e.places[k]? =some x:=⟨_,lbf hlt⟩
   have pl:=b6J e x (by omega) (by omega) (by omega) (by omega)
   conv=>whnf
   repeat' (first|refine zx ?_|refine qp pl ?_|refine j6 hx ?_|refine zd ?_ ?_<;>intro h<;>try omega|fail)<;>conv=>whnf
   all_goals first
    |omega
    |(refine ⟨hlt,?_,[],rfl,rfl,trivial,⟨rfl,rfl,trivial⟩⟩;rw [D3 hx,hI];simp_all;done)
    |(refine p9 ?_;unfold I1;rw [iB (by simp [hf]),iA (.inr (.inr (.inr (G9 hx (by assumption)))))])
  have hp:e.places.all (a0C e)=true:=by rw [← hI,lbn (by omega)]
  have hck:I1 e=if E4 e 0 e.moves≠0 then E4 e 0 e.moves else if a0K e then 0 else 1:=by
   unfold I1;rw [iB (by simp [hf]),iB (by rw [hp];simp;omega)]
  conv=>whnf
  repeat' (first|refine zx ?_|refine zd ?_ ?_<;>intro h<;>try omega|fail)<;>conv=>whnf
  all_goals try omega
  clear hI hlt hk
  refine k5 g8 (fun k=>([J,S.c (C.t (T.ptr (evT e))),J,J,e7 .i64 k]++Jn 47,[])) e.moves.length (fun k=>E4 e 0 e.moves=E4 e (a4a e k) (e.moves.drop k)/\0<=a4a e k) [] ⟨rfl,ap1 0⟩
   ⟨rfl,rfl,trivial,⟨rfl,rfl,trivial⟩⟩ ?_
  rintro k hk ⟨hI,hI2⟩
  by_cases hlt:k<e.moves.length
  ·obtain ⟨x,hx⟩:∃x,e.moves[k]? =some x:=⟨_,lbf hlt⟩
   have mv:=bo2 e k x hx hf (by omega) (by omega) (by omega)
   rw [a1Y hx,E4] at hI
   have hm:E4 e 0 e.moves=if a3O e k x=0 then E4 e x.day (e.moves.drop (k+1)) else a3O e k x:=by
    rw [hI]
    unfold a3O
    have hk0:k=0->a4a e k=0:=fun h=>by subst h;rfl
    by_cases h1:x.day<a4a e k\/100000<x.day
    ·rw [iA h1,iA (c:=x.day<0\/100000<x.day\/(0<k/\x.day<a4a e k)) (by omega)];simp
    ·rw [iB h1,iB (c:=x.day<0\/100000<x.day\/(0<k/\x.day<a4a e k)) (by omega)]
     cases O5 e x<;>simp
   have hv:a3O e k x=0->0<=x.day:=fun h=>by unfold a3O at h;split at h<;>omega
   have hm0:a3O e k x=0->E4 e 0 e.moves=E4 e x.day (e.moves.drop (k+1)):=fun h=>by rw [hm,iA h]
   have hm1:a3O e k x≠0->E4 e 0 e.moves=a3O e k x:=fun h=>by rw [hm,iB h]
   clear hm hI
   conv=>whnf
   repeat' (first|refine zx ?_|refine qp mv ?_|refine zd ?_ ?_<;>intro h<;>try omega|fail)<;>conv=>whnf
   all_goals first
    |omega
    |(refine ⟨hlt,⟨?_,?_⟩,[],rfl,rfl,trivial,⟨rfl,rfl,trivial⟩⟩
      ·rw [a2O hx];exact hm0 (by omega)
      ·rw [a2O hx];exact hv (by omega))
    |(refine p9 ?_
      have hne:a3O e k x≠0:=by omega
      rw [hck,hm1 hne,iA hne])
  ·rw [b31 (by omega),E4] at hI
   have sd:=bj2 e hs hf (by omega) (by omega)
   conv=>whnf
   repeat' (first|refine zx ?_|refine qp sd ?_|refine zd ?_ ?_<;>intro h<;>try omega|fail)<;>conv=>whnf
   all_goals first
    |omega
    |(refine p9 ?_;rw [hck,hI];simp_all;done)
def b1q (e:Ev) (hs:e.Sized) {k:Nat} {x:C6} (hx:e.moves[k]? =some x):ec 138 [evS e,eI k] [] (.tup (ivL (Q3 e x))) []:=by
 have l1:=hs.s3;have l2:=hs.s4;have iv:=b19 e.certs e.recalls om om x.scale x.reading x.day;unfold Q3;by_cases hsc:x.scale=-1
 ·rw [iA hsc];refine ac Tryz.func138 ?_;conv=>whnf
  repeat' (first|refine zx ?_|refine j6 hx ?_|refine bl0 [1] ?_|apply zD<;>intro<;>try omega)<;>conv=>whnf
  all_goals first|omega|exact p7 rz
 ·rw [iB hsc];cases hiv:R4 e.certs e.recalls x.scale x.reading x.day with
  |none=>
   rw [hiv] at iv;refine ac Tryz.func138 ?_;conv=>whnf
   repeat' (first|refine zx ?_|refine j6 hx ?_|apply zD<;>intro<;>try omega)<;>conv=>whnf
   all_goals first
    |omega
    |exact p7 rz
  |some p=>
   obtain ⟨lo,hi⟩:=p;rw [hiv] at iv;refine ac Tryz.func138 ?_;conv=>whnf
   repeat' (first|refine zx ?_|refine j6 hx ?_|apply zD<;>intro<;>try omega)<;>conv=>whnf
   all_goals first|omega|exact p7 rz
def b4R (e:Ev) (mv kind:Int):ec 148 [evS e,eI mv,eI kind] [] (eI (a2n e mv kind)) []:=by
 have l2:(e.moves.map C6.row).length=e.moves.length:=zq;refine ac Tryz.func148 ?_;conv=>whnf
 repeat' (first|refine zx ?_|apply zD<;>intro<;>try omega)<;>conv=>whnf
 all_goals (refine p9 ?_;unfold a2n;(repeat' split)<;>first|rfl|omega)
theorem b0B (t:k8) (hs:t.Sized):e8 Tryz.prog 79 [trS t] [] (e7 .i64 (t9 t)) []:=by
 have l1:=hs.f
 have l2:=hs.c
 have ck:=b1F t.ev hs.ev
 have m1:(t.finds.map a1M.row).length=t.finds.length:=by simp
 have m2:(t.cleans.map W9.row).length=t.cleans.length:=by simp
 by_cases h0:I1 t.ev≠0
 ·have e1:t9 t=I1 t.ev:=by unfold t9;rw [iA h0]
  rw [e1]
  (refine ac Tryz.func79 ?_;(conv=>whnf);repeat ((first|refine b0x ?_|refine zy ?_);conv=>whnf))
  repeat' (first|refine zx ?_|refine qp ck ?_|refine zd ?_ ?_<;>intro h<;>try omega|fail)<;>conv=>whnf
  all_goals first
   |omega
   |exact p9 rfl
 have h0:I1 t.ev=0:=by omega
 rw [h0] at ck
 by_cases h1:20<t.finds.length\/50<t.cleans.length
 ·have e1:t9 t=6:=by unfold t9;rw [iB (by omega),iA h1]
  rw [e1]
  (refine ac Tryz.func79 ?_;(conv=>whnf);repeat ((first|refine b0x ?_|refine zy ?_);conv=>whnf))
  repeat' (first|refine zx ?_|refine qp ck ?_|refine zd ?_ ?_<;>intro h<;>try omega|fail)<;>conv=>whnf
  all_goals first
   |omega
   |exact p9 rfl
 have e1:t9 t=if R7 t.ev t.finds≠0 then R7 t.ev t.finds else S6 t.ev t.cleans:=by unfold t9;rw [iB (by omega),iB h1]
 rw [e1]
 (refine ac Tryz.func79 ?_;(conv=>whnf);repeat ((first|refine b0x ?_|refine zy ?_);conv=>whnf))
 repeat' (first|refine zx ?_|refine qp ck ?_|refine zd ?_ ?_<;>intro h<;>try omega|fail)<;>conv=>whnf
 all_goals try omega
 refine k5 g8 (fun k=>([J,S.c (C.t (T.ptr (trT t))),J,J,e7 .i64 k]++Jn 73,[])) t.finds.length (fun k=>R7 t.ev t.finds=R7 t.ev (t.finds.drop k)) [] rfl
  ⟨rfl,rfl,trivial,⟨rfl,rfl,trivial⟩⟩ ?_
 intro k hk hI
 by_cases hlt:k<t.finds.length
 ·obtain ⟨f,hf⟩:∃f,t.finds[k]? =some f:=⟨_,lbf hlt⟩
  have mk:=b4R t.ev f.mv f.kind
  rw [a1Y hf,R7] at hI
  by_cases hm:a2n t.ev f.mv f.kind≠0
  ·rw [iA hm] at hI
   rw [hI,iA hm]
   conv=>whnf
   repeat' (first|refine zx ?_|refine qp mk ?_|refine j6 hf ?_|refine zd ?_ ?_<;>intro h<;>try omega|fail)<;>conv=>whnf
   all_goals first
    |omega
    |exact p9 rfl
  ·rw [iB hm] at hI
   by_cases hg:f.grams<1\/1099511627776<f.grams
   ·rw [iA hg] at hI
    rw [hI]
    conv=>whnf
    repeat' (first|refine zx ?_|refine qp mk ?_|refine j6 hf ?_|refine zd ?_ ?_<;>intro h<;>try omega|fail)<;>conv=>whnf
    all_goals first
     |omega
     |exact p9 rfl
   ·rw [iB hg] at hI
    conv=>whnf
    repeat' (first|refine zx ?_|refine qp mk ?_|refine j6 hf ?_|refine zd ?_ ?_<;>intro h<;>try omega|fail)<;>conv=>whnf
    all_goals first
     |omega
     |exact ⟨hlt,hI,[],rfl,rfl,trivial,⟨rfl,rfl,trivial⟩⟩
 ·rw [lbo (by omega)] at hI
  have hI:R7 t.ev t.finds=0:=hI
  rw [hI,iB (by omega)]
  conv=>whnf
  repeat' (first|refine zx ?_|refine zd ?_ ?_<;>intro h<;>try omega|fail)<;>conv=>whnf
  all_goals try omega
  refine k5 g8 (fun k=>([J,S.c (C.t (T.ptr (trT t))),J,J,J,J,e7 .i64 k]++Jn 71,[])) t.cleans.length (fun k=>S6 t.ev t.cleans=S6 t.ev (t.cleans.drop k)) [] rfl
   ⟨rfl,rfl,trivial,⟨rfl,rfl,trivial⟩⟩ ?_
  intro j hj hJ
  by_cases hjt:j<t.cleans.length
  ·obtain ⟨c,hc⟩:∃c,t.cleans[j]? =some c:=⟨_,lbf hjt⟩
   have mk:=b4R t.ev c.mv c.kind
   rw [a1Y hc,S6] at hJ
   by_cases hm:a2n t.ev c.mv c.kind≠0
   ·rw [iA hm] at hJ
    rw [hJ]
    conv=>whnf
    repeat' (first|refine zx ?_|refine qp mk ?_|refine j6 hc ?_|refine zd ?_ ?_<;>intro h<;>try omega|fail)<;>conv=>whnf
    all_goals first
     |omega
     |exact p9 rfl
   ·rw [iB hm] at hJ
    conv=>whnf
    repeat' (first|refine zx ?_|refine qp mk ?_|refine j6 hc ?_|refine zd ?_ ?_<;>intro h<;>try omega|fail)<;>conv=>whnf
    all_goals first
     |omega
     |exact ⟨hjt,hJ,[],rfl,rfl,trivial,⟨rfl,rfl,trivial⟩⟩
  ·rw [lbo (by omega)] at hJ
   have hJ:S6 t.ev t.cleans=0:=hJ
   rw [hJ]
   conv=>whnf
   repeat' (first|refine zx ?_|refine zd ?_ ?_<;>intro h<;>try omega|fail)<;>conv=>whnf
   all_goals first
    |omega
    |exact p9 rfl
def b0d (t:k8) (hs:t.Sized) (kind:Int):ec 136 [trS t,eI kind] [] (m9 (decide (t9 t=0/\0<=kind/\kind<8))) []:=by
 have ck:=b0B t hs;refine ac Tryz.func136 ?_;conv=>whnf
 repeat' (first|refine zx ?_|apply zD<;>intro<;>try omega)<;>conv=>whnf
 all_goals (refine j1 ?_;simp;try omega)
def aj4 (v n:Int) (h1:-9223372036854775808<=n) (h2:n<=9223372036854775807):ec 209 [eI v,eI n] [] (.agg ((B8 (v,(n:Rat))).map .t)) []:=by
 have i1:=a5S n h1 h2;refine ac Tryz.func209 ?_;conv=>whnf
 repeat' (first|refine zx ?_|apply zD<;>intro<;>try omega)<;>conv=>whnf
 exact p7 rz
def b39 (i:Nat) (kind:Int) (v:Rat):ec 139 [eI i,eI kind,frS (fz v)] [] (aS0 (E1 i kind v)) []:=by
 have i1:=aj4 i 1 de de;refine ac Tryz.func139 ?_;conv=>whnf
 repeat' (first|refine zz ?_|refine qp i1 ?_|refine a43.weak ?_|apply zD<;>intro<;>try omega|refine zy ?_|fail)<;>conv=>whnf
 exact p7 rz
abbrev bO2 (f:Fr):Blk:={ mode:=.live,elem:=86,size:=4,rows:=[frC f],box:=true }
def b1X (f:Fr):L4 [frC f]:=by simp [L4,frC,B2,C.isT]
theorem ba4 (e:Ev) (h0:I1 e=0) {i:Nat} {x:C6} (hx:e.moves[i]? =some x):e8 Tryz.prog 137 [evS e,e7 .i64 i] [] (aS0 (C2 e i x)) []:=by
 obtain ⟨b1,b2,b3,b4⟩:=a16 h0
 have hi:i<e.moves.length:=(lbe.1 hx).1
 have m0:(e.moves.map C6.row).length=e.moves.length:=by simp
 have i0:=a5S 0 (by decide) (by decide)
 have im:=aj4 i (-1) (by decide) (by decide)
 have hil:=a24 (e:=e) (p:=x.src) i
 cases hal:x.all
 case' false=>have hK:(C2 e i x).kind=0:=by unfold C2;rw [hal];rfl
 case' true=>have hK:(C2 e i x).kind=2:=by unfold C2;rw [hal];rfl
 all_goals
  (refine ac Tryz.func137 ?_;(conv=>whnf);repeat ((first|refine b0x ?_|refine zy ?_);conv=>whnf))
  repeat' (first|refine zx ?_|refine qp i0 ?_|refine j6 hx ?_|refine zd ?_ ?_<;>intro h<;>try omega|fail)<;>conv=>whnf
  all_goals first
   |omega
   |(exfalso;simp_all;done)
   |skip
  refine k5 g8 (fun k=>([J,e7 .i64 i,S.c (C.t (T.ptr (evT e))),J,S.c (C.ptr 0 0 0),e7 .i64 x.src,S.c (C.ptr 1 0 0),e7 .i64 k]++Jn 58,[bu1,br9 2 (s7 e x.src k).length (C2 e i x).kind,a2e (s7 e x.src k)])) i (fun _=>True) [some 0,some 1,none] trivial ?_ ?_
  ·refine ⟨rfl,rfl,⟨⟨rfl,rfl,rfl,.inr ⟨⟨rfl,rfl,rfl,rfl,rfl,rfl,trivial⟩,trivial⟩⟩,⟨rfl,rfl,rfl,.inr ⟨⟨⟨rfl,rfl,rfl⟩,?_,rfl,rfl,rfl,rfl,trivial⟩,trivial⟩⟩,⟨rfl,rfl⟩,trivial⟩,⟨rfl,rfl,⟨rfl,rfl,rfl⟩,rfl,⟨rfl,rfl,rfl⟩,rfl,trivial⟩⟩
   rw [hK];rfl
  intro k hk _
  have kl:=a24 (e:=e) (p:=x.src) k
  by_cases hlt:k<i
  ·obtain ⟨y,hy⟩:∃y,e.moves[k]? =some y:=⟨_,lbf (by omega)⟩
   have hmo:=R9 h0 (lbm hy)
   have hne:y.src≠y.dst:=by unfold O5 at hmo;simp only [lbN,lbI] at hmo;exact hmo.1.1.1.1.1.2
   have t1:=aj4 k 1 (by decide) (by decide)
   have tm:=aj4 k (-1) (by decide) (by decide)
   have lA:(s7 e x.src k).length<=(a2e (s7 e x.src k)).rows.length:=by show _<=(toC _).length;simp [toC]
   have lC:((s7 e x.src k).length+1)*73<=140737488355328:=by omega
   by_cases c1:y.dst=x.src
   ·have et:s7 e x.src (k+1)=s7 e x.src k++[((k:Int),((1:Int):Rat))]:=by rw [a09 hy,iA c1]
    conv=>whnf
    repeat' (first|refine zx ?_|refine qp t1 ?_|refine qp tm ?_|refine j6 hy ?_|refine z6 lA lC ?_|refine zd ?_ ?_<;>intro h<;>try omega|fail)<;>conv=>whnf
    all_goals try omega
    refine ⟨hlt,trivial,[some 0,some 1,some 3],rfl,rfl,⟨⟨rfl,rfl,rfl,.inr ⟨⟨rfl,rfl,rfl,rfl,rfl,rfl,trivial⟩,trivial⟩⟩,⟨rfl,rfl,rfl,.inr ⟨⟨⟨rfl,rfl,?_,fun h=>h⟩,rfl,rfl,rfl,rfl,rfl,trivial⟩,trivial⟩⟩,i6 rfl rfl rfl ?_ rfl,trivial⟩,⟨rfl,rfl,⟨rfl,rfl,rfl⟩,rfl,⟨rfl,rfl,rfl⟩,rfl,trivial⟩⟩
    ·rw [et,lbq];rfl
    ·rw [et]
     show List.take (s7 e x.src k).length (toC ((s7 e x.src k).map B8))++toC [B8 ((k:Int),((1:Int):Rat))]=_
     exact a2I rfl
   ·by_cases c2:y.src=x.src
    ·have et:s7 e x.src (k+1)=s7 e x.src k++[((k:Int),((-1:Int):Rat))]:=by rw [a09 hy,iB c1,iA c2]
     conv=>whnf
     repeat' (first|refine zx ?_|refine qp t1 ?_|refine qp tm ?_|refine j6 hy ?_|refine z6 lA lC ?_|refine zd ?_ ?_<;>intro h<;>try omega|fail)<;>conv=>whnf
     all_goals try omega
     refine ⟨hlt,trivial,[some 0,some 1,some 3],rfl,rfl,⟨⟨rfl,rfl,rfl,.inr ⟨⟨rfl,rfl,rfl,rfl,rfl,rfl,trivial⟩,trivial⟩⟩,⟨rfl,rfl,rfl,.inr ⟨⟨⟨rfl,rfl,?_,fun h=>h⟩,rfl,rfl,rfl,rfl,rfl,trivial⟩,trivial⟩⟩,i6 rfl rfl rfl ?_ rfl,trivial⟩,⟨rfl,rfl,⟨rfl,rfl,rfl⟩,rfl,⟨rfl,rfl,rfl⟩,rfl,trivial⟩⟩
     ·rw [et,lbq];rfl
     ·rw [et]
      show List.take (s7 e x.src k).length (toC ((s7 e x.src k).map B8))++toC [B8 ((k:Int),((-1:Int):Rat))]=_
      exact a2I rfl
    ·have et:s7 e x.src (k+1)=s7 e x.src k:=by rw [a09 hy,iB c1,iB c2]
     conv=>whnf
     repeat' (first|refine zx ?_|refine j6 hy ?_|refine zd ?_ ?_<;>intro h<;>try omega|fail)<;>conv=>whnf
     all_goals try omega
     refine ⟨hlt,trivial,[some 0,some 1,some 2],rfl,rfl,⟨⟨rfl,rfl,rfl,.inr ⟨⟨rfl,rfl,rfl,rfl,rfl,rfl,trivial⟩,trivial⟩⟩,⟨rfl,rfl,rfl,.inr ⟨⟨⟨rfl,rfl,?_,fun h=>h⟩,rfl,rfl,rfl,rfl,rfl,trivial⟩,trivial⟩⟩,i6 rfl rfl rfl ?_ rfl,trivial⟩,⟨rfl,rfl,⟨rfl,rfl,rfl⟩,rfl,⟨rfl,rfl,rfl⟩,rfl,trivial⟩⟩
     ·rw [et]
     ·rw [et]
  ·have hke:k=i:=by omega
   subst hke
   have lA:(s7 e x.src k).length<=(a2e (s7 e x.src k)).rows.length:=by show _<=(toC _).length;simp [toC]
   have lC:((s7 e x.src k).length+1)*73<=140737488355328:=by omega
   conv=>whnf
   repeat' (first|refine zx ?_|refine qp im ?_|refine z6 lA lC ?_|refine zd ?_ ?_<;>intro h<;>try omega|fail)<;>conv=>whnf
   all_goals try omega
   refine p7 ⟨show VC _ (fun id=>M3 [] id=true) _ _ from w6 rfl rfl (by intro h;cases h) rfl (rows:=(s7 e x.src k++[((k:Int),((-1:Int):Rat))]).map B8) ?_ ?_,rfl,rfl,rfl,rfl,rfl,trivial⟩
   ·show List.take (s7 e x.src k).length (toC ((s7 e x.src k).map B8))++toC [B8 ((k:Int),((-1:Int):Rat))]=_
    exact a2I rfl
   ·rw [lbr,lbq];rfl
abbrev rEv (t:k8) (kind:Int) (k:Nat):Env:=[J,eI kind,S.c (C.t (T.ptr (trT t))),J,sP 0 0 0,J,sP 1 0 0,sP 2 0 0,eI k]++Jn 132
abbrev rHp (t:k8) (R:List C5):Hp:=[at5,evB t.ev,a6O t.ev.moves.length 3 R.length,V6 R]
def X2 {t:k8} {R:List C5} {N len:Nat} {H:Hp} {env env':Env} {rs:List (List C)} {kz:Blk} (hz:H[0]? =some kz) (hz2:a3g [some 0,some 1,some 2,some N] H kz at5) (he:H[1]? =some (evB t.ev))
 (hs:H[2]? =some (a6O t.ev.moves.length N len)) (hr:H[N]? =some { mode:=.live,elem:=133,size:=6,rows:=rs,box:=false }) (hl:len=R.length) (hrs:rs=toC (R.map v5)) (hN:2<N)
 (hE:a0p [some 0,some 1,some 2,some N] H env env'):Ent 0 [some 0,some 1,some 2,some N] env H env' (rHp t R):=by
 have b1:Nat.beq 0 N=false:=by cases h:Nat.beq 0 N with|false=>rfl|true=>exact absurd (a1m h) om
 refine ⟨rfl,a1w fun a b m h1 h2=>?_,⟨?_,?_,?_,?_,trivial⟩,hE⟩
 ·match a,b,h1,h2 with
  |0,0,_,_=>rfl
  |1,1,_,_=>rfl
  |2,2,_,_=>rfl
  |3,3,_,_=>rfl
  |0,1,h1,h2=>simp at h1 h2;omega
  |0,2,h1,h2=>simp at h1 h2;omega
  |0,3,h1,h2=>simp at h1 h2;omega
  |1,0,h1,h2=>simp at h1 h2;omega
  |1,2,h1,h2=>simp at h1 h2;omega
  |1,3,h1,h2=>simp at h1 h2;omega
  |2,0,h1,h2=>simp at h1 h2;omega
  |2,1,h1,h2=>simp at h1 h2;omega
  |2,3,h1,h2=>simp at h1 h2;omega
  |3,0,h1,h2=>simp at h1 h2;omega
  |3,1,h1,h2=>simp at h1 h2;omega
  |3,2,h1,h2=>simp at h1 h2;omega
  |n+4,_,h1,_=>simp at h1
  |0,n+4,_,h2=>simp at h2
  |1,n+4,_,h2=>simp at h2
  |2,n+4,_,h2=>simp at h2
  |3,n+4,_,h2=>simp at h2
 ·simp only [hz];exact hz2
 ·simp only [he];exact ⟨rfl,rfl,rfl,.inl ⟨rfl,E6 _⟩⟩
 ·simp only [hs];exact ⟨rfl,rfl,rfl,.inr ⟨⟨rfl,⟨rfl,rfl,hl,fun h=>h⟩,trivial⟩,trivial⟩⟩
 ·simp only [hr];exact i6 rfl rfl rfl hrs rfl
def a1F {ρ:List (Option Nat)} {H:Hp}:a3g ρ H at5 at5:=⟨rfl,rfl,rfl,.inr rz⟩
def bk2 (o:Option (Rat × Rat)):∃lo:Fr,ivL o=[frS lo,frS (hiF o),m9 o.isSome]:=by
 cases o with
 |none=>exact ⟨a0z,rfl⟩
 |some p=>exact ⟨fz p.1,rfl⟩
def bf8 {i:Nat} {kind:Int} {f:Fr} {v:Rat} (h:f=fz v):ec 139 [eI i,eI kind,frS f] [] (aS0 (E1 i kind v)) []:=by subst h;exact b39 i kind v
def b2f (t:k8) (kind:Int) (hs:t.Sized) (h1:¬(t9 t≠0\/kind<0\/8<=kind)):ec 67 [trS t,eI kind] [] (.tup [.agg [.t (ti t.ev.moves.length),.own 0 0 (p6 t kind).rows.length true],eI 0]) [V6 (p6 t kind).rows]:=by
 have rt:=b0d t hs kind;have m2:(t.ev.moves.map C6.row).length=t.ev.moves.length:=zq;have m4:(t.finds.map a1M.row).length=t.finds.length:=zq;have m5:(t.cleans.map W9.row).length=t.cleans.length:=zq;obtain ⟨k1,k2,k3⟩:t9 t=0/\0<=kind/\kind<8:=om;rw [lbH ⟨k1,k2,k3⟩] at rt;clear h1;obtain ⟨q1,q2,q3,q4,q5⟩:=F3 k1;obtain ⟨b1,b2,b3,b4⟩:=a16 q1
 (refine ac Tryz.func67 ?_;(conv=>whnf);repeat ((first|refine b0x ?_|refine zy ?_);conv=>whnf))
 repeat' (first|refine zx ?_|apply zD<;>intro h<;>try omega)<;>conv=>whnf
 all_goals try omega
 refine ar1 (fun k=>(rEv t kind k,rHp t (v7 t kind k))) t.ev.moves.length tT [some 0,some 1,some 2,none] trivial ?_ ?_
 ·refine ⟨rfl,rfl,⟨⟨rfl,rfl,rfl,.inr rz⟩,⟨rfl,rfl,rfl,.inl ⟨rfl,E6 _⟩⟩,⟨rfl,rfl,rfl,.inr ⟨⟨?_,rz⟩,trivial⟩⟩,rz⟩,rz⟩;exact ak6 (by rw [m2])
 intro k hk _;refine w8 g8 ?_;conv=>whnf
 repeat' (first|refine zx ?_|apply zD<;>intro h<;>try omega)<;>conv=>whnf
 ·obtain ⟨x,hx⟩:∃x,t.ev.moves[k]? =some x:=⟨_,lbf om⟩;have hlt:k<t.ev.moves.length:=om;have hmo:=R9 q1 (lbm hx);have ms:=a1t hmo;obtain ⟨s,hsn⟩:∃s:Nat,x.src=s:=⟨x.src.toNat,om⟩;obtain ⟨pl,hpl⟩:∃pl,t.ev.places[s]? =some pl:=⟨_,lbf om⟩;have hkd:N9 t.ev x.src=pl.kind:=by rw [hsn];exact aM4 hpl
  have st:=ba4 t.ev q1 hx;have iv:=b1q t.ev hs.ev hx;have rl0:=a89 (t:=t) (kind:=kind) (k:=k) om q2 q3;obtain ⟨lo,hlo⟩:=bk2 (Q3 t.ev x);rw [hlo] at iv;have i0:=a5S 0 de de;have hcr:a0a (Q3 t.ev x) k=if (Q3 t.ev x).isSome then [E1 k 1 (hiR (Q3 t.ev x))] else []:=by cases Q3 t.ev x<;>rfl
  obtain ⟨R1,hR1⟩:∃R1:List C5,R1=v7 t kind k++(if pl.kind=0 then [] else [C2 t.ev k x]):=⟨_,rfl⟩;obtain ⟨R2,hR2⟩:∃R2:List C5,R2=R1++a0a (Q3 t.ev x) k:=⟨_,rfl⟩;have l1:R1.length<=14401:=by rw [hR1];split<;>simp<;>omega
  have l2:R2.length<=14402:=by rw [hR2,hcr];split<;>simp<;>omega
  refine a9a (a8w ?_);refine B3 g8 (rEv t kind k) (rHp t R1) ?_ ?_
  ·have lA:(v7 t kind k).length<=(V6 (v7 t kind k)).rows.length:=by show _<=(toC _).length;simp [toC]
   have lC:((v7 t kind k).length+1)*97<=140737488355328:=om;conv=>whnf
   repeat' (first|refine zx ?_|refine j6 hx ?_|refine N4 hsn hpl ?_|refine z6 lA lC ?_|apply zD<;>intro h<;>try omega)<;>conv=>whnf
   ·have eR:R1=v7 t kind k++[C2 t.ev k x]:=by rw [hR1,iB (by assumption)]
    refine ⟨[some 0,some 1,some 2,some 4],X2 rfl a1F rfl rfl rfl ?_ ?_ de rz⟩
    ·rw [eR];simp [toC]
    ·rw [eR];exact a2D rfl
   ·have eR:R1=v7 t kind k:=by rw [hR1,iA om,Z3]
    refine ⟨[some 0,some 1,some 2,some 3],X2 rfl a1F rfl rfl rfl ?_ ?_ de rz⟩
    ·rw [eR]
    ·rw [eR]
  have o1:=fun h=>bf8 (i:=k) (kind:=1) (f:=hiF (Q3 t.ev x)) (v:=hiR (Q3 t.ev x)) h
  refine B3 g8 ([J,eI kind,S.c (C.t (T.ptr (trT t))),J,sP 0 0 0,J,sP 1 0 0,sP 2 0 0,eI k,J,sP 4 0 0,m9 (Q3 t.ev x).isSome]++Jn 129) (rHp t R1++[bO2 (hiF (Q3 t.ev x))]) ?_ ?_
  ·conv=>whnf
   repeat' (first|refine zx ?_|refine bl0 [6] ?_|apply zD<;>intro h<;>try omega)<;>conv=>whnf
   all_goals
    refine ⟨[some 0,some 1,some 2,some 3,some 5],rfl,rfl,⟨a1F,⟨rfl,rfl,rfl,.inl ⟨rfl,E6 _⟩⟩,⟨rfl,rfl,rfl,.inr ⟨⟨rfl,⟨rfl,rfl,rfl,fun h=>h⟩,trivial⟩,trivial⟩⟩,⟨rfl,rfl,rfl,.inl ⟨rfl,j3 _⟩⟩,⟨rfl,rfl,rfl,.inl ⟨rfl,b1X _⟩⟩,trivial⟩,⟨rfl,rfl,rz,rz,rz,rfl,rz,b4A h.symm,trivial⟩⟩
  refine B3 g8 (rEv t kind k) (rHp t R2) ?_ ?_
  ·have lA:R1.length<=(V6 R1).rows.length:=by show _<=(toC _).length;simp [toC]
   have lC:(R1.length+1)*97<=140737488355328:=om;cases hc:(Q3 t.ev x).isSome with
   |true=>
    have o1:=o1 (an8 hc).1;have eR:R2=R1++[E1 k 1 (hiR (Q3 t.ev x))]:=by rw [hR2,hcr,hc];rfl
    conv=>whnf
    repeat' (first|refine zx ?_|refine z6 lA lC ?_|apply zD<;>intro h<;>try omega)<;>conv=>whnf
    all_goals try (rw [hc] at h;exact absurd h de)
    refine ⟨[some 0,some 1,some 2,some 5],X2 rfl a1F rfl rfl rfl ?_ ?_ de rz⟩
    ·rw [eR];simp [toC]
    ·rw [eR];exact a2D rfl
   |false=>
    have eR:R2=R1:=by rw [hR2,hcr,hc];simp
    conv=>whnf
    repeat' (first|refine zx ?_|apply zD<;>intro h<;>try omega)<;>conv=>whnf
    all_goals try (rw [hc] at h;exact absurd h de)
    refine ⟨[some 0,some 1,some 2,some 3],X2 rfl a1F rfl rfl rfl ?_ ?_ de rz⟩
    ·rw [eR]
    ·rw [eR]
  obtain ⟨G,hG⟩:∃G:Nat->List C5,∀j,G j=R2++(y3 (t.finds.take j) kind k).map (fun g:Int=>E1 k 0 (g:Rat)):=⟨_,fun _=>rfl⟩;have lG:∀j,(G j).length<=14500:=fun j=>by
   have h1:(y3 (t.finds.take j) kind k).length<=20:=by
    unfold y3;rw [lbr];exact lbS (lbt _ _) (by rw [lbs];omega)
   rw [hG];simp;omega
  refine B3 g8 (rEv t kind k) (rHp t (G t.finds.length)) ?_ ?_
  ·conv=>whnf
   repeat' (first|refine zx ?_|apply zD<;>intro h<;>try omega)<;>conv=>whnf
   refine k5 g8 (fun j=>([J,eI kind,S.c (C.t (T.ptr (trT t))),J,sP 0 0 0,J,sP 1 0 0,sP 2 0 0,eI k,J,J,J,eI j]++Jn 128,rHp t (G j))) t.finds.length tT [some 0,some 1,some 2,some 3] trivial ?_ ?_
   ·refine X2 rfl a1F rfl rfl rfl ?_ ?_ de rz
    ·rw [hG];simp [y3]
    ·rw [hG];simp [y3]
   intro j hj _;have lj:=lG j;by_cases hjt:j<t.finds.length
   ·obtain ⟨f,hf⟩:∃f,t.finds[j]? =some f:=⟨_,lbf hjt⟩;have fb:=a0L q4 f (lbm hf);have ig:=a5S f.grams om om;have o0:=b39 k 0 (f.grams:Rat);have lA:(G j).length<=(V6 (G j)).rows.length:=by show _<=(toC _).length;simp [toC]
    have lC:((G j).length+1)*97<=140737488355328:=om;have gs:G (j+1)=if f.kind=kind/\f.mv=(k:Int) then G j++[E1 k 0 (f.grams:Rat)] else G j:=by
     rw [hG,hG,a5e hf,a8F];split<;>simp
    conv=>whnf
    repeat' (first|refine zx ?_|refine j6 hf ?_|refine z6 lA lC ?_|apply zD<;>intro h<;>try omega)<;>conv=>whnf
    all_goals first|omega|skip
    ·rw [iA om] at gs;refine ⟨hjt,trivial,[some 0,some 1,some 2,some 4],X2 rfl a1F rfl rfl rfl ?_ ?_ de rz⟩
     ·rw [gs];simp [toC]
     ·rw [gs];exact a2D rfl
    all_goals
     rw [iB om] at gs;refine ⟨hjt,trivial,[some 0,some 1,some 2,some 3],X2 rfl a1F rfl rfl rfl ?_ ?_ de rz⟩
     ·rw [gs]
     ·rw [gs]
   ·have hje:j=t.finds.length:=by omega
    subst hje;conv=>whnf
    repeat' (first|refine zx ?_|apply zD<;>intro h<;>try omega)<;>conv=>whnf
    all_goals first|omega|exact ⟨[some 0,some 1,some 2,some 3],X2 rfl a1F rfl rfl rfl rfl rfl de rz⟩
  have lGe:=lG t.finds.length;obtain ⟨K,hK⟩:∃K:Nat->List C5,∀j,K j=G t.finds.length++List.replicate (E5 (t.cleans.take j) kind k) (E1 k 2 ((0:Int):Rat)):=⟨_,fun _=>rfl⟩;have lK:∀j,(K j).length<=14600:=fun j=>by
   have h1:E5 (t.cleans.take j) kind k<=50:=by
    unfold E5;exact lbS (lbt _ _) (by rw [lbs];omega)
   rw [hK];simp;omega
  have hKe:K t.cleans.length=v7 t kind (k+1):=by
   rw [hK,hG,hR2,hR1,lbn (lbR _),lbn (lbR _)];show _=(match t.ev.moves[k]? with|none=>v7 t kind k|some x=>v7 t kind k++N2 t kind k x);rw [hx];simp only [N2,hkd,lbD]
  refine t4 g8 _ ?_;conv=>whnf
  repeat' (first|refine zx ?_|apply zD<;>intro h<;>try omega)<;>conv=>whnf
  refine k5 g8 (fun j=>([J,eI kind,S.c (C.t (T.ptr (trT t))),J,sP 0 0 0,J,sP 1 0 0,sP 2 0 0,eI k,J,J,J,J,eI j]++Jn 127,rHp t (K j))) t.cleans.length tT [some 0,some 1,some 2,some 3] trivial ?_ ?_
  ·refine X2 rfl a1F rfl rfl rfl ?_ ?_ de rz
   ·rw [hK];simp [E5]
   ·rw [hK];simp [E5]
  intro j hj _;have lj:=lK j;by_cases hjt:j<t.cleans.length
  ·obtain ⟨c,hc⟩:∃c,t.cleans[j]? =some c:=⟨_,lbf hjt⟩;have o0:=b39 k 2 ((0:Int):Rat);have lA:(K j).length<=(V6 (K j)).rows.length:=by show _<=(toC _).length;simp [toC]
   have lC:((K j).length+1)*97<=140737488355328:=om;have gs:K (j+1)=if c.kind=kind/\c.mv=(k:Int) then K j++[E1 k 2 ((0:Int):Rat)] else K j:=by
    rw [hK,hK,a5e hc,a1T];split<;>simp [List.replicate_succ']
   conv=>whnf
   repeat' (first|refine zx ?_|refine j6 hc ?_|refine z6 lA lC ?_|apply zD<;>intro h<;>try omega)<;>conv=>whnf
   all_goals first|omega|skip
   ·rw [iA om] at gs;refine ⟨hjt,trivial,[some 0,some 1,some 2,some 4],X2 rfl a1F rfl rfl rfl ?_ ?_ de rz⟩
    ·rw [gs];simp [toC]
    ·rw [gs];exact a2D rfl
   all_goals
    rw [iB om] at gs;refine ⟨hjt,trivial,[some 0,some 1,some 2,some 3],X2 rfl a1F rfl rfl rfl ?_ ?_ de rz⟩
    ·rw [gs]
    ·rw [gs]
  ·have hje:j=t.cleans.length:=by omega
   subst hje;conv=>whnf
   repeat' (first|refine zx ?_|apply zD<;>intro h<;>try omega)<;>conv=>whnf
   all_goals try omega
   refine t4 g8 _ ?_;conv=>whnf
   repeat' (first|refine zx ?_|apply zD<;>intro h<;>try omega)<;>conv=>whnf
   all_goals try omega
   exact ⟨hlt,trivial,[some 0,some 1,some 2,some 3],X2 rfl a1F rfl rfl rfl (by rw [hKe]) (by rw [hKe]) de rz⟩
 ·have hke:k=t.ev.moves.length:=by omega
  subst hke;exact ⟨⟨[some 3],rfl,rfl,⟨i6 (rows:=(p6 t kind).rows.map v5) rfl rfl rfl rfl rfl,trivial⟩,⟨⟨rfl,⟨rfl,rfl,rfl,fun h=>h⟩,trivial⟩,rz⟩⟩⟩
def a4F (t:k8) (kind:Int) (hs:t.Sized):ec 67 [trS t,eI kind] [] (.tup [U9 (a6J t kind),eI (a0o t kind)]) []:=by
 have rt:=b0d t hs kind;have m2:(t.ev.moves.map C6.row).length=t.ev.moves.length:=zq;have m4:(t.finds.map a1M.row).length=t.finds.length:=zq;have m5:(t.cleans.map W9.row).length=t.cleans.length:=zq;by_cases h1:t9 t≠0\/kind<0\/8<=kind
 ·have e1:a0o t kind=1:=by unfold a0o;rw [iA h1]
  have e2:a6J t kind=⟨0,[]⟩:=by unfold a6J;rw [iA h1]
  rw [e1,e2];rw [lbJ om] at rt;refine ac Tryz.func67 ?_;conv=>whnf
  repeat' (first|refine zx ?_|apply zD<;>intro h<;>try omega)<;>conv=>whnf
  all_goals first|omega|exact p7 rz
 have e1:a0o t kind=0:=by unfold a0o;rw [iB h1]
 have e2:a6J t kind=p6 t kind:=by unfold a6J;rw [iB h1]
 rw [e1,e2];exact aI2 (b2f t kind hs h1) (p7 ⟨⟨rfl,show VC _ (fun id=>M3 [] id=true) _ _ from w6 rfl rfl zi rfl rfl (by rw [lbr]),trivial⟩,rz⟩)
end Go.Proofs.YtikokmdpigploaaGreat
