/- Chapter 21 in plain Lean: the system of a kind of foreign matter, and its solutions. No program is in sight. -/
import Derived.Test.YtdbogogfeffjlaaGreatMr7
namespace Go.Proofs.YtdbogogfeffjlaaGreat
set_option linter.unusedVariables false
set_option linter.unusedSimpArgs false
set_option maxRecDepth 100000
set_option maxHeartbeats 8000000
open Go.RowKit
open St1 St2 St3 St4 St5 St6 St7 St8 StA StB
section
def u7 (p:List Int):Int:=p.getLast?.getD 0
theorem E3 {p:List Int} {k:Int}:u7 (p++[k])=k:=by simp [u7]
def ltP (p q:List Int):Prop:=p.length<q.length∨(p.length=q.length∧a5r p q=true)
theorem ar1 {a b:Int}:∀{p q:List Int},a5r p q=true->a5r (p++[a]) (q++[b])=true
 |x::p,y::q,h=>by
  rw [a5r] at h
  show a5r (x::(p++[a])) (y::(q++[b]))=true
  rw [a5r]
  split at h
  ·rename_i hxy;rw [if_pos hxy];exact ar1 h
  ·rename_i hxy;rw [if_neg hxy];exact h
 |[],_,h=>by cases h
 |_::_,[],h=>by cases h
theorem as0 {a b:Int} (h:a<b):∀p,a5r (p++[a]) (p++[b])=true
 |[]=>by show a5r [a] [b]=true;rw [a5r,if_neg (by omega)];simpa using h
 |x::p=>by show a5r (x::(p++[a])) (x::(p++[b]))=true;rw [a5r,if_pos rfl];exact as0 h p
theorem am8:∀{p q r:List Int},a5r p q=true->a5r q r=true->a5r p r=true
 |x::p,y::q,z::r,h,h'=>by
  rw [a5r] at h h' ⊢
  split at h
  ·rename_i hxy
   split at h'
   ·rename_i hyz;rw [if_pos (hxy.trans hyz)];exact am8 h h'
   ·rename_i hyz;rw [if_neg (by rw [hxy];exact hyz)];simp at h' ⊢;omega
  ·rename_i hxy
   split at h'
   ·rename_i hyz;rw [if_neg (by rw [← hyz];exact hxy)];simp at h ⊢;omega
   ·rename_i hyz;simp at h h';rw [if_neg (by omega)];simp;omega
 |[],_,_,h,_=>by cases h
 |_::_,[],_,h,_=>by cases h
 |_::_,_::_,[],_,h=>by cases h
theorem b2B {p q r:List Int} (h:ltP p q) (h':ltP q r):ltP p r:=by
 rcases h with h|⟨h1,h2⟩
 ·rcases h' with h'|⟨h',_⟩<;>exact .inl (by omega)
 ·rcases h' with h'|⟨h3,h4⟩
  ·exact .inl (by omega)
  ·exact .inr ⟨by omega,am8 h2 h4⟩
theorem aO2 {p q:List Int} {a b:Int} (h:ltP p q):ltP (p++[a]) (q++[b]):=by
 rcases h with h|⟨h1,h2⟩
 ·exact .inl (by simp;exact h)
 ·exact .inr ⟨by simp [h1],ar1 h2⟩
theorem b4g {p:List Int} {a b:Int} (h:a<b):ltP (p++[a]) (p++[b]):=.inr ⟨by simp,as0 h p⟩
inductive Pa (fr:Int) (nxt:Int->List Int):List Int->Prop
 |one:Pa fr nxt [fr]
 |snoc {p:List Int} {k:Int} (h:Pa fr nxt p) (hk:k ∈ nxt (u7 p)):Pa fr nxt (p++[k])
def a2o (ps:List (List Int)) (k:Int):Bool:=ps.any fun q=>decide (u7 q=k)
def a0c (p:List Int) (ps:List (List Int)) (k:Int):List (List Int):=if a2o ps k=true then ps else ps++[p++[k]]
theorem a5t {ps:List (List Int)} {k:Int}:a2o ps k=true↔∃q ∈ ps,u7 q=k:=by
 unfold a2o
 rw [lbw]
 constructor
 ·rintro ⟨q,h1,h2⟩;exact ⟨q,h1,by simpa using h2⟩
 ·rintro ⟨q,h1,h2⟩;exact ⟨q,h1,by simpa using h2⟩
section
variable {fr:Int} {nxt:Int->List Int}
theorem Pa.pos {p:List Int} (h:Pa fr nxt p):0<p.length:=by cases h<;>simp
theorem b4B {p q:List Int} {a b:Int} (h:p++[a]=q++[b]):p=q∧a=b:=by
 have:=List.append_inj' h rfl
 exact ⟨this.1,by simpa using this.2⟩
theorem Pa.inv {p:List Int} {k:Int} (hp:p≠[]) (h:Pa fr nxt (p++[k])):Pa fr nxt p∧k ∈ nxt (u7 p):=by
 generalize hq:p++[k]=q at h
 cases h with
 |one=>
  have:=congrArg List.length hq
  simp at this
  exact absurd this hp
 |snoc h hk=>
  obtain ⟨rfl,rfl⟩:=b4B hq
  exact ⟨h,hk⟩
theorem Pa.ge (hgt:∀m k,k ∈ nxt m->m<k) {p:List Int} (h:Pa fr nxt p):fr<=u7 p:=by
 induction h with
 |one=>simp [u7]
 |snoc h hk ih=>rw [E3];have:=hgt _ _ hk;omega
structure JJ (fr:Int) (nxt:Int->List Int) (ps:List (List Int)) (b:Nat) (ds:List Int):Prop where
 from0:[fr] ∈ ps
 pa:∀p ∈ ps,Pa fr nxt p
 srt:ps.Pairwise ltP
 dist:ps.Pairwise fun p q=>u7 p≠u7 q
 don:∀(j:Nat) (p:List Int),j<b->ps[j]? =some p->∀k ∈ nxt (u7 p),∃q ∈ ps,u7 q=k∧(q=p++[k]∨ltP q (p++[k]))
 dcur:∀(p:List Int),ps[b]? =some p->∀k ∈ ds,∃q ∈ ps,u7 q=k∧(q=p++[k]∨ltP q (p++[k]))
 par:∀q ∈ ps,q=[fr]∨∃(j:Nat) (p:List Int) (k:Int),ps[j]? =some p∧q=p++[k]∧(j<b∨(j=b∧k ∈ ds))
theorem a7t {α:Type} {R:α->α->Prop} {l:List α} (h:l.Pairwise R) {i j:Nat} {x y:α} (hi:l[i]? =some x) (hj:l[j]? =some y) (hij:i<j):R x y:=by
 obtain ⟨h1,rfl⟩:=lbe.1 hi
 obtain ⟨h2,rfl⟩:=lbe.1 hj
 exact List.pairwise_iff_getElem.1 h i j h1 h2 hij
theorem JJ.step (hgt:∀m k,k ∈ nxt m->m<k) {ps:List (List Int)} {b:Nat} {ds:List Int} (h:JJ fr nxt ps b ds) {p:List Int} (hb:ps[b]? =some p) {k:Int} (hk:k ∈ nxt (u7 p)) (hd:∀d ∈ ds,d<k):
 JJ fr nxt (a0c p ps k) b (ds++[k]):=by
 have hp:=h.pa p (lbm hb)
 have hblt:=(lbe.1 hb).1
 have hfk:fr<k:=by have:=hp.ge hgt;have:=hgt _ _ hk;omega
 have hcmp:∀q ∈ ps,ltP q (p++[k])∨q=p++[k]∨(∃ k',q=p++[k']∧k' ∈ ds)∨q=[fr]:=fun q hq=>by
  rcases h.par q hq with rfl|⟨j,p',k',hj,rfl,hjb|⟨rfl,hjd⟩⟩
  ·exact .inr (.inr (.inr rfl))
  ·exact .inl (aO2 (a7t h.srt hj hb hjb))
  ·rw [hb] at hj
   injection hj with hj
   subst hj
   exact .inr (.inr (.inl ⟨k',rfl,hjd⟩))
 unfold a0c
 split
 ·rename_i hs
  obtain ⟨q,hq,hqk⟩:=a5t.1 hs
  refine ⟨h.from0,h.pa,h.srt,h.dist,h.don,?_,?_⟩
  ·intro p' hp' k' hk'
   rw [hb] at hp'
   injection hp' with hp'
   subst hp'
   rcases lbz.1 hk' with hk'|hk'
   ·exact h.dcur p hb k' hk'
   ·simp at hk'
    subst hk'
    refine ⟨q,hq,hqk,?_⟩
    rcases hcmp q hq with h1|h1|⟨k2,rfl,h1⟩|rfl
    ·exact .inr h1
    ·exact .inl h1
    ·rw [E3] at hqk;subst hqk;exact .inl rfl
    ·simp [u7] at hqk;omega
  ·intro q hq
   rcases h.par q hq with h1|⟨j,p',k',hj,h2,h3⟩
   ·exact .inl h1
   ·exact .inr ⟨j,p',k',hj,h2,h3.imp id fun h=>⟨h.1,lbz.2 (.inl h.2)⟩⟩
 ·rename_i hs
  have hns:∀q ∈ ps,u7 q≠k:=fun q hq hqk=>hs (a5t.2 ⟨q,hq,hqk⟩)
  have hget:∀(j:Nat) (x:List Int),ps[j]? =some x->(ps++[p++[k]])[j]? =some x:=fun j x hj=>by
   rw [lbb (lbe.1 hj).1];exact hj
  have hget':∀(j:Nat) (x:List Int),j<=b->(ps++[p++[k]])[j]? =some x->ps[j]? =some x:=fun j x hjb hj=>by
   rwa [lbb (by omega)] at hj
  refine ⟨lbz.2 (.inl h.from0),?_,?_,?_,?_,?_,?_⟩
  ·intro q hq
   rcases lbz.1 hq with hq|hq
   ·exact h.pa q hq
   ·simp at hq;subst hq;exact .snoc hp hk
  ·refine lb9.2 ⟨h.srt,by simp,fun q hq r hr=>?_⟩
   simp at hr
   subst hr
   rcases hcmp q hq with h1|h1|⟨k2,rfl,h1⟩|rfl
   ·exact h1
   ·subst h1;exact absurd E3 (hns _ hq)
   ·exact b4g (hd _ h1)
   ·exact .inl (by have:=hp.pos;simp;omega)
  ·refine lb9.2 ⟨h.dist,by simp,fun q hq r hr=>?_⟩
   simp at hr
   subst hr
   rw [E3]
   exact hns q hq
  ·intro j x hj hx k' hk'
   obtain ⟨q,h1,h2⟩:=h.don j x hj (hget' j x (by omega) hx) k' hk'
   exact ⟨q,lbz.2 (.inl h1),h2⟩
  ·intro x hx0 k' hk'
   have hx:=hget' b x (lbR _) hx0
   clear hx0
   rcases lbz.1 hk' with hk'|hk'
   ·obtain ⟨q,h1,h2⟩:=h.dcur x hx k' hk'
    exact ⟨q,lbz.2 (.inl h1),h2⟩
   ·simp at hk'
    subst hk'
    rw [hb] at hx
    injection hx with hx
    subst hx
    exact ⟨_,lbz.2 (.inr (by simp)),E3,.inl rfl⟩
  ·intro q hq
   rcases lbz.1 hq with hq|hq
   ·rcases h.par q hq with h1|⟨j,p',k',hj,h2,h3⟩
    ·exact .inl h1
    ·exact .inr ⟨j,p',k',hget _ _ hj,h2,h3.imp id fun h=>⟨h.1,lbz.2 (.inl h.2)⟩⟩
   ·simp at hq
    subst hq
    exact .inr ⟨b,p,k,hget _ _ hb,rfl,.inr ⟨rfl,lbz.2 (.inr (by simp))⟩⟩
theorem a4Q (p:List Int) (ps:List (List Int)) (k:Int):∃X,a0c p ps k=ps++X:=by
 unfold a0c
 split
 ·exact ⟨[],by simp⟩
 ·exact ⟨_,rfl⟩
theorem a1u (p:List Int):∀(ks:List Int) (ps:List (List Int)),∃X,ks.foldl (a0c p) ps=ps++X
 |[],ps=>⟨[],by simp⟩
 |k::ks,ps=>by
  obtain ⟨X,hX⟩:=a4Q p ps k
  obtain ⟨Y,hY⟩:=a1u p ks (a0c p ps k)
  exact ⟨X++Y,by rw [List.foldl_cons,hY,hX,lbD]⟩
theorem JJ.all (hgt:∀m k,k ∈ nxt m->m<k) (hasc:∀m,(nxt m).Pairwise (·<·)) {b:Nat} {p:List Int}:∀(ks ds:List Int) {ps:List (List Int)},nxt (u7 p)=ds++ks->JJ fr nxt ps b ds->ps[b]? =some p->JJ fr nxt (ks.foldl (a0c p) ps) b (ds++ks)
 |[],ds,ps,hn,h,hb=>by simpa using h
 |k::ks,ds,ps,hn,h,hb=>by
  have h1:=h.step hgt hb (k:=k) (by rw [hn];simp) (fun d hd=>by
   have:=hasc (u7 p)
   rw [hn] at this
   exact (lb9.1 this).2.2 d hd k (by simp))
  obtain ⟨X,hX⟩:=a4Q p ps k
  have:=JJ.all hgt hasc ks (ds++[k]) (by rw [hn];simp) h1 (by rw [hX,lbb (lbe.1 hb).1];exact hb)
  simpa using this
def a0j (nxt:Int->List Int) (ps:List (List Int)) (p:List Int):List (List Int):=(nxt (u7 p)).foldl (a0c p) ps
theorem JJ.next (hgt:∀m k,k ∈ nxt m->m<k) (hasc:∀m,(nxt m).Pairwise (·<·)) {b:Nat} {p:List Int} {ps:List (List Int)} (h:JJ fr nxt ps b []) (hb:ps[b]? =some p):JJ fr nxt (a0j nxt ps p) (b+1) []:=by
 have h1:=JJ.all hgt hasc (nxt (u7 p)) [] rfl h hb
 obtain ⟨X,hX⟩:=a1u p (nxt (u7 p)) ps
 have hb':(a0j nxt ps p)[b]? =some p:=by unfold a0j;rw [hX,lbb (lbe.1 hb).1];exact hb
 refine ⟨h1.from0,h1.pa,h1.srt,h1.dist,?_,fun _ _ k hk=>(by cases hk),fun q hq=>?_⟩
 ·intro j x hj hx k hk
  by_cases hjb:j=b
  ·subst hjb
   rw [hb'] at hx
   injection hx with hx
   subst hx
   exact h1.dcur p hb' k (by simpa using hk)
  ·exact h1.don j x (by omega) hx k hk
 ·rcases h1.par q hq with h2|⟨j,p',k',hj,h2,h3⟩
  ·exact .inl h2
  ·exact .inr ⟨j,p',k',hj,h2,.inl (by omega)⟩
theorem JJ.run (hgt:∀m k,k ∈ nxt m->m<k) (hasc:∀m,(nxt m).Pairwise (·<·)):∀(l:List (List Int)) {ps:List (List Int)} {b:Nat},(∀ i p,l[i]? =some p->ps[b+i]? =some p)->JJ fr nxt ps b []->
 JJ fr nxt (l.foldl (a0j nxt) ps) (b+l.length) []∧∃X,l.foldl (a0j nxt) ps=ps++X
 |[],ps,b,_,h=>⟨by simpa using h,[],by simp⟩
 |p::l,ps,b,hl,h=>by
  have hb:=hl 0 p rfl
  obtain ⟨X,hX⟩:=a1u p (nxt (u7 p)) ps
  obtain ⟨h1,Y,hY⟩:=JJ.run hgt hasc l (ps:=a0j nxt ps p) (b:=b+1) (fun i q hi=>by
   have:=hl (i+1) q (by simpa using hi)
   unfold a0j
   rw [hX,lbb (by have:=(lbe.1 this).1;omega),show b+1+i=b+(i+1) by omega]
   exact this) (h.next hgt hasc hb)
  refine ⟨?_,X++Y,?_⟩
  ·rw [List.foldl_cons,lbu,show b+(l.length+1)=b+1+l.length by omega];exact h1
  ·rw [List.foldl_cons,hY]
   unfold a0j
   rw [hX,lbD]
def a55 (nxt:Int->List Int) (ps:List (List Int)) (b:Nat):List (List Int):=(ps.drop b).foldl (a0j nxt) ps
def Lev (ps:List (List Int)) (b L:Nat):Prop:=∀(j:Nat) (p:List Int),ps[j]? =some p->(j<b->p.length<L)∧(b<=j->p.length=L)
theorem JJ.round (hgt:∀m k,k ∈ nxt m->m<k) (hasc:∀m,(nxt m).Pairwise (·<·)) {ps:List (List Int)} {b L:Nat} (h:JJ fr nxt ps b []) (hb:b<=ps.length) (hl:Lev ps b L):
 JJ fr nxt (a55 nxt ps b) ps.length []∧Lev (a55 nxt ps b) ps.length (L+1)∧ps.length<=(a55 nxt ps b).length:=by
 obtain ⟨h1,X,hX⟩:=JJ.run hgt hasc (ps.drop b) (ps:=ps) (b:=b) (fun i p hi=>by rwa [lbj] at hi) h
 rw [List.length_drop,show b+(ps.length - b)=ps.length by omega] at h1
 have hX':a55 nxt ps b=ps++X:=hX
 have h1':JJ fr nxt (a55 nxt ps b) ps.length []:=h1
 refine ⟨h1',?_,by rw [hX'];simp⟩
 intro j p hj
 refine ⟨fun hjl=>?_,fun hjl=>?_⟩
 ·rw [hX',lbb hjl] at hj
  obtain ⟨q1,q2⟩:=hl j p hj
  rcases Nat.lt_or_ge j b with hlt|hge
  ·have:=q1 hlt;omega
  ·have:=q2 hge;omega
 ·have hpm:=lbm hj
  have hold:∀(i:Nat) (q:List Int),ps[i]? =some q->(a55 nxt ps b)[i]? =some q:=fun i q hi=>by
   rw [hX',lbb (lbe.1 hi).1];exact hi
  have hclash:∀q ∈ ps,u7 q≠u7 p:=fun q hq=>by
   obtain ⟨i,hi⟩:=List.mem_iff_getElem?.1 hq
   exact a7t h1'.dist (hold i q hi) hj (by have:=(lbe.1 hi).1;omega)
  rcases h1'.par p hpm with rfl|⟨i,q,k,hi,rfl,hib|⟨_,hk⟩⟩
  ·exact absurd rfl (hclash _ h.from0)
  ·have hi':ps[i]? =some q:=by rwa [hX',lbb hib] at hi
   have hqp:=(h.pa q (lbm hi')).pos
   have hk:=((h1'.pa _ hpm).inv (by intro e;subst e;simp at hqp)).2
   obtain ⟨q1,q2⟩:=hl i q hi'
   rcases Nat.lt_or_ge i b with hlt|hge
   ·obtain ⟨q3,h3,h4,_⟩:=h.don i q hlt hi' k hk
    exact absurd (by rw [h4,E3]) (hclash q3 h3)
   ·have:=q2 hge
    simp;omega
  ·cases hk
theorem JJ.found {ps:List (List Int)} {b L:Nat} {t:Int} (h:JJ fr nxt ps b []) (hl:Lev ps b L) {p:List Int} (hp:p ∈ ps) (ht:u7 p=t):∀q,Pa fr nxt q->u7 q=t->p=q∨ltP p q:=by
 have key:∀q,Pa fr nxt q->(∃ p ∈ ps,u7 p=u7 q∧(p=q∨ltP p q))∨L<q.length:=by
  intro q hq
  induction hq with
  |one=>exact .inl ⟨_,h.from0,rfl,.inl rfl⟩
  |@snoc q k hq hk ih=>
   rcases ih with ⟨r,hr,h1,h2⟩|h1
   ·obtain ⟨j,hj⟩:=List.mem_iff_getElem?.1 hr
    rcases Nat.lt_or_ge j b with hlt|hge
    ·obtain ⟨r2,h3,h4,h5⟩:=h.don j r hlt hj k (by rw [h1];exact hk)
     refine .inl ⟨r2,h3,by rw [h4,E3],?_⟩
     have h6:r++[k]=q++[k]∨ltP (r++[k]) (q++[k]):=h2.imp (fun h=>by rw [h]) aO2
     rcases h5 with rfl|h5
     ·exact h6
     ·rcases h6 with h6|h6
      ·rw [← h6];exact .inr h5
      ·exact .inr (b2B h5 h6)
    ·refine .inr ?_
     have hL:=(hl j r hj).2 hge
     rcases h2 with rfl|h2|⟨h2,_⟩<;>simp<;>omega
   ·exact .inr (by simp;omega)
 intro q hq hqt
 rcases key q hq with ⟨r,hr,h1,h2⟩|h1
 ·have:r=p:=by
   obtain ⟨i,hi⟩:=List.mem_iff_getElem?.1 hr
   obtain ⟨j,hj⟩:=List.mem_iff_getElem?.1 hp
   rcases Nat.lt_trichotomy i j with hlt|heq|hgt
   ·exact absurd (by rw [h1,hqt,ht]) (a7t h.dist hi hj hlt)
   ·subst heq;rw [hi] at hj;injection hj
   ·exact absurd (by rw [h1,hqt,ht]) (a7t h.dist hj hi hgt)
  subst this
  exact h2
 ·obtain ⟨j,hj⟩:=List.mem_iff_getElem?.1 hp
  obtain ⟨q1,q2⟩:=hl j p hj
  refine .inr (.inl ?_)
  rcases Nat.lt_or_ge j b with hlt|hge
  ·have:=q1 hlt;omega
  ·have:=q2 hge;omega
theorem JJ.none {ps:List (List Int)} {b:Nat} {t:Int} (h:JJ fr nxt ps b []) (hb:ps.length<=b) (ht:∀p ∈ ps,u7 p≠t):∀q,Pa fr nxt q->u7 q≠t:=by
 have key:∀q,Pa fr nxt q->∃p ∈ ps,u7 p=u7 q:=by
  intro q hq
  induction hq with
  |one=>exact ⟨_,h.from0,rfl⟩
  |@snoc q k hq hk ih=>
   obtain ⟨r,hr,h1⟩:=ih
   obtain ⟨j,hj⟩:=List.mem_iff_getElem?.1 hr
   obtain ⟨r2,h3,h4,_⟩:=h.don j r (by have:=(lbe.1 hj).1;omega) hj k (by rw [h1];exact hk)
   exact ⟨r2,h3,by rw [h4,E3]⟩
 intro q hq hqt
 obtain ⟨p,h1,h2⟩:=key q hq
 exact ht p h1 (h2.trans hqt)
theorem JJ.start:JJ fr nxt [[fr]] 0 []:=⟨(by simp),(by simp;exact .one),(by simp),(by simp),(fun j p h=>by omega),(fun _ _ k hk=>by cases hk),(by simp)⟩
end
end
theorem a6h {α:Type} (P:Nat->α->Bool):∀(l:List α) (n:Nat),(m8 P n l).Pairwise (·<·)∧∀x ∈ m8 P n l,(n:Int)<=x
 |[],n=>by simp [m8]
 |y::l,n=>by
  obtain ⟨h1,h2⟩:=a6h P l (n+1)
  unfold m8
  split
  ·refine ⟨List.pairwise_cons.2 ⟨fun x hx=>by have:=h2 x hx;omega,h1⟩,fun x hx=>?_⟩
   rcases lbA.1 hx with rfl|hx
   ·omega
   ·have:=h2 x hx;omega
  ·exact ⟨h1,fun x hx=>by have:=h2 x hx;omega⟩
theorem b2n {e:Ev} {bl:List Bool} (m:Int):(L1 e bl m).Pairwise (·<·):=by
 unfold L1
 split
 ·exact (a6h _ _ _).1
 ·simp
theorem aa3 {e:Ev} {bl:List Bool} (m k:Int) (h:k ∈ L1 e bl m):m<k:=by
 unfold L1 at h
 split at h
 ·obtain ⟨i,z,hz,hP,rfl⟩:=y0.1 h
  simp [a2e] at hP
  omega
 ·cases h
theorem ag7 {n:Nat} {fr:Int} {s:BQ} (h:E0 n fr s) {k:Nat} {m:Int} (hk:s.bef.getD k 0=-1) (hkn:k<n):∀(f:Nat) (v:Nat),v<n->s.bef.getD v 0≠-1->E7 (s.bef.set k m) fr f v=E7 s.bef fr f v
 |0,_,_,_=>rfl
 |f+1,v,hv,hb=>by
  have hvk:v≠k:=by rintro rfl;exact hb hk
  unfold E7
  by_cases hfr:(v:Int)=fr
  ·rw [if_pos hfr,if_pos hfr]
  ·rw [if_neg hfr,if_neg hfr]
   congr 1
   rw [lbY,H5 (by rw [h.len];exact hkn),if_neg hvk]
   rcases h.bef v hv hb with h1|⟨h1,h2,h3,h4⟩
   ·exact absurd h1.1 hfr
   ·obtain ⟨w,hw⟩:=Int.eq_ofNat_of_zero_le h1
    rw [hw] at h2 h3 ⊢
    exact ag7 h hk hkn f w (by omega) (by simpa using h3)
structure a3y (n:Nat) (fr:Int) (s:BQ) (ps:List (List Int)):Prop where
 que:s.que=ps.map u7
 vis:∀k,k<n->(s.bef.getD k 0=-1↔a2o ps k=false)
 tree:∀p ∈ ps,0<=u7 p∧(u7 p).toNat<n∧E7 s.bef fr ((u7 p).toNat+1) (u7 p)=p.reverse
theorem aY2 {ps:List (List Int)} {p:List Int} {k j:Int}:a2o (ps++[p++[k]]) j=(a2o ps j || decide (k=j)):=by
 unfold a2o
 rw [List.any_append]
 simp [E3]
theorem a3y.step {e:Ev} {bl:List Bool} {fr:Int} {s:BQ} {ps:List (List Int)} (hg:E0 e.moves.length fr s) (h:a3y e.moves.length fr s ps) {p:List Int} (hp:p ∈ ps) {k:Int} (hk:k ∈ L1 e bl (u7 p)):
 a3y e.moves.length fr (P2 (u7 p) s k) (a0c p ps k):=by
 obtain ⟨h0,h1,h2⟩:=h.tree p hp
 obtain ⟨k0,k1,k2⟩:=a35 h0 hk
 have hov:OkQ e.moves.length fr s (u7 p):=hg.que _ (by rw [h.que];exact lbx.2 ⟨p,hp,rfl⟩)
 obtain ⟨kn,rfl⟩:=Int.eq_ofNat_of_zero_le k0
 rw [lbY] at k1
 have hv:=h.vis kn k1
 unfold P2 a0c
 rw [lbY]
 by_cases hb:s.bef.getD kn 0=-1
 ·rw [if_pos hb,if_neg (by rw [hv.1 hb];decide)]
  obtain ⟨m,hm⟩:=Int.eq_ofNat_of_zero_le h0
  rw [hm] at h2 h1 k2 ⊢
  rw [hm] at hov
  rw [lbY] at h1 h2
  have hbm:s.bef.getD m 0≠-1:=by simpa using hov.2.2.2
  refine ⟨?_,?_,?_⟩
  ·show s.que++[(kn:Int)]=_
   rw [h.que,lbC];simp [E3]
  ·intro j hj
   show (s.bef.set kn (m:Int)).getD j 0=-1↔_
   rw [H5 (by rw [hg.len];exact k1),aY2]
   by_cases hjk:j=kn
   ·subst hjk
    rw [if_pos rfl]
    simp
   ·rw [if_neg hjk,h.vis j hj]
    have:decide ((kn:Int)=(j:Int))=false:=by simp;omega
    rw [this,Bool.or_false]
  ·intro q hq
   rcases lbz.1 hq with hq|hq
   ·obtain ⟨q0,q1,q2⟩:=h.tree q hq
    refine ⟨q0,q1,?_⟩
    have hoq:OkQ e.moves.length fr s (u7 q):=hg.que _ (by rw [h.que];exact lbx.2 ⟨q,hq,rfl⟩)
    obtain ⟨v,hvq⟩:=Int.eq_ofNat_of_zero_le q0
    rw [hvq] at q1 q2 ⊢
    rw [hvq] at hoq
    show E7 (s.bef.set kn (m:Int)) fr _ _=_
    rw [ag7 hg hb k1 _ v (by simpa using q1) (by simpa using hoq.2.2.2)]
    exact q2
   ·simp at hq
    subst hq
    rw [E3]
    refine ⟨by omega,by simpa using k1,?_⟩
    show E7 (s.bef.set kn (m:Int)) fr _ _=_
    have hfr:¬(kn:Int)=fr:=by have:=hov.2.2.1;omega
    rw [E7,if_neg hfr,List.reverse_append]
    show _=(kn:Int)::p.reverse
    congr 1
    rw [lbY,H5 (by rw [hg.len];exact k1),if_pos rfl,ag7 hg hb k1 _ m h1 hbm,at8 hg m kn (m+1) h1 hbm (by omega) (by omega)]
    exact h2
 ·have hs:a2o ps kn=true:=by
   cases hq:a2o ps kn with
   |true=>rfl
   |false=>exact absurd (hv.2 hq) hb
  rw [if_neg hb,if_pos hs]
  exact h
theorem a3y.ks {e:Ev} {bl:List Bool} {fr:Int} {p:List Int}:∀(ks:List Int) {s:BQ} {ps:List (List Int)},E0 e.moves.length fr s->a3y e.moves.length fr s ps->p ∈ ps->(∀ k ∈ ks,k ∈ L1 e bl (u7 p))->
 E0 e.moves.length fr (ks.foldl (P2 (u7 p)) s)∧a3y e.moves.length fr (ks.foldl (P2 (u7 p)) s) (ks.foldl (a0c p) ps)
 |[],s,ps,hg,h,_,_=>⟨hg,h⟩
 |k::ks,s,ps,hg,h,hp,hk=>by
  have hov:OkQ e.moves.length fr s (u7 p):=hg.que _ (by rw [h.que];exact lbx.2 ⟨p,hp,rfl⟩)
  have hkm:=a35 hov.1 (hk k (by simp))
  obtain ⟨X,hX⟩:=a4Q p ps k
  exact a3y.ks ks (hg.stepK hov.1 hov.2.1 hov.2.2.2 hkm.2.1 hkm.2.2 hov.2.2.1) (h.step hg hp (hk k (by simp))) (by rw [hX];exact lbz.2 (.inl hp)) (fun k' hk'=>hk k' (by simp [hk']))
theorem a3y.run {e:Ev} {bl:List Bool} {fr:Int}:∀(l:List (List Int)) {s:BQ} {ps:List (List Int)},E0 e.moves.length fr s->a3y e.moves.length fr s ps->(∀ p ∈ l,p ∈ ps)->
 E0 e.moves.length fr ((l.map u7).foldl (a2P e bl) s)∧a3y e.moves.length fr ((l.map u7).foldl (a2P e bl) s) (l.foldl (a0j (L1 e bl)) ps)
 |[],s,ps,hg,h,_=>⟨hg,h⟩
 |p::l,s,ps,hg,h,hl=>by
  obtain ⟨h1,h2⟩:=a3y.ks (bl:=bl) (L1 e bl (u7 p)) hg h (hl p (by simp)) (fun k hk=>hk)
  obtain ⟨X,hX⟩:=a1u p (L1 e bl (u7 p)) ps
  exact a3y.run l h1 h2 (fun q hq=>by
   unfold a0j;rw [hX];exact lbz.2 (.inl (hl q (by simp [hq]))))
theorem a3y.round {e:Ev} {bl:List Bool} {fr:Int} {s:BQ} {ps:List (List Int)} (hg:E0 e.moves.length fr s) (h:a3y e.moves.length fr s ps) (b:Nat):
 E0 e.moves.length fr (a4C e bl s b)∧a3y e.moves.length fr (a4C e bl s b) (a55 (L1 e bl) ps b):=by
 have:=a3y.run (bl:=bl) (ps.drop b) hg h (fun p hp=>List.mem_of_mem_drop hp)
 unfold a4C a55
 rw [h.que,←List.map_drop]
 exact this
theorem aQ7 {e:Ev} {bl:List Bool} {fr t:Int} (ht:t.toNat<e.moves.length) (ht0:0<=t):∀(f:Nat) (s:BQ) (ps:List (List Int)) (b L:Nat),E0 e.moves.length fr s->a3y e.moves.length fr s ps->JJ fr (L1 e bl) ps b []->Lev ps b L->b<=ps.length->e.moves.length<f+b->
 ∃ps' b' L',E0 e.moves.length fr (a2z e bl t f s b)∧a3y e.moves.length fr (a2z e bl t f s b) ps'∧JJ fr (L1 e bl) ps' b' []∧Lev ps' b' L'∧(a2o ps' t=true∨ps'.length<=b')
 |0,s,ps,b,L,hg,h,hj,hl,hb,hf=>by
  have h1:=hg.room
  rw [h.que,lbr] at h1
  omega
 |f+1,s,ps,b,L,hg,h,hj,hl,hb,hf=>by
  have hlen:s.que.length=ps.length:=by rw [h.que,lbr]
  by_cases hc:b<s.que.length∧s.bef.getD t.toNat 0=-1
  ·rw [aQ3 hc]
   obtain ⟨h1,h2⟩:=h.round hg (bl:=bl) b
   obtain ⟨h3,h4,h5⟩:=hj.round aa3 b2n hb hl
   rw [hlen]
   exact aQ7 ht ht0 f _ _ _ _ h1 h2 h3 h4 h5 (by omega)
  ·rw [ac8 hc]
   refine ⟨ps,b,L,hg,h,hj,hl,?_⟩
   by_cases hbl:b<ps.length
   ·left
    have hv:=h.vis t.toNat ht
    rw [lbZ ht0] at hv
    cases hq:a2o ps t with
    |true=>rfl
    |false=>exact absurd ⟨by omega,hv.2 hq⟩ hc
   ·right;omega
theorem b0D {e:Ev} {fr:Int} (h0:0<=fr) (h1:fr.toNat<e.moves.length):a3y e.moves.length fr (S4 e fr) [[fr]]:=by
 have hl:fr.toNat<(List.replicate e.moves.length (-1:Int)).length:=by simpa using h1
 refine ⟨by simp [S4,u7],fun k hk=>?_,fun p hp=>?_⟩
 ·unfold S4
  simp only [H5 hl]
  by_cases hkf:k=fr.toNat
  ·rw [if_pos hkf]
   have e1:(k:Int)=fr:=by omega
   simp [a2o,u7,e1]
   omega
  ·rw [if_neg hkf]
   have e1:¬fr=(k:Int):=by omega
   simp [a2o,u7,e1,lbl,lbk,hk]
 ·simp at hp
  subst hp
  have e1:u7 [fr]=fr:=rfl
  rw [e1]
  refine ⟨h0,h1,?_⟩
  rw [E7,if_pos rfl];rfl
theorem ad5 {e:Ev} {bl:List Bool} {fr t:Int} (hf:N7 e fr bl=true) (ht:N7 e t bl=true) (hb:bl.getD fr.toNat true=false):
 (Pa fr (L1 e bl) (M3 e bl fr t)∧u7 (M3 e bl fr t)=t∧∀q,Pa fr (L1 e bl) q->u7 q=t->M3 e bl fr t=q∨ltP (M3 e bl fr t) q)∨(M3 e bl fr t=[]∧∀q,Pa fr (L1 e bl) q->u7 q≠t):=by
 have f1:(0<=fr∧fr<e.moves.length)∧(bl.length:Int)=e.moves.length:=by simpa [N7] using hf
 have f2:(0<=t∧t<e.moves.length)∧(bl.length:Int)=e.moves.length:=by simpa [N7] using ht
 obtain ⟨ps,b,L,hg,hr,hj,hl,hs⟩:=aQ7 (e:=e) (bl:=bl) (fr:=fr) (t:=t) (by omega) f2.1.1 (e.moves.length+1) (S4 e fr) [[fr]] 0 1 (a9q f1.1.1 (by omega)) (b0D f1.1.1 (by omega)) JJ.start
  (fun j p hj=>⟨fun h=>by omega,fun _=>by
    match j,hj with
    |0,hj=>simp at hj;subst hj;rfl⟩) (by simp) (by omega)
 have hv:=hr.vis t.toNat (by omega)
 rw [lbZ f2.1.1] at hv
 have hpf:M3 e bl fr t=if (a2z e bl t (e.moves.length+1) (S4 e fr) 0).bef.getD t.toNat 0=-1 then [] else (E7 (a2z e bl t (e.moves.length+1) (S4 e fr) 0).bef fr (t.toNat+1) t).reverse:=by
  unfold M3 a8U;rw [if_pos ⟨hf,ht,hb⟩]
 cases hq:a2o ps t with
 |true=>
  left
  obtain ⟨p,hp,hpt⟩:=a5t.1 hq
  have hne:¬(a2z e bl t (e.moves.length+1) (S4 e fr) 0).bef.getD t.toNat 0=-1:=fun h=>by rw [hv.1 h] at hq;cases hq
  have htr:=(hr.tree p hp).2.2
  rw [hpt] at htr
  have hpp:M3 e bl fr t=p:=by rw [hpf,if_neg hne,htr,List.reverse_reverse]
  rw [hpp]
  exact ⟨hj.pa p hp,hpt,hj.found hl hp hpt⟩
 |false=>
  right
  refine ⟨by rw [hpf,if_pos (hv.2 hq)],hj.none ?_ ?_⟩
  ·rcases hs with h|h
   ·rw [hq] at h;cases h
   ·exact h
  ·intro p hp hpt
   have:=a5t.2 ⟨p,hp,hpt⟩
   rw [hq] at this;cases this
def a7M (e:Ev) (i k:Nat):Bool:=match e.moves[i]?,e.moves[k]? with
 |some u,some v=>decide (i<k) && decide (v.src=u.dst) && a0H e u.dst i k
 |_,_=>false
def a7I (e:Ev) (pf:Int->List Int) (i:Nat) (x:n9):Bool:=decide (j9 e x.src=0) && decide (0<(pf i).length)
def a0y (e:Ev) (bl:List Bool) (t:Int):List Int:=if N7 e t bl=true then m8 (a7I e fun i=>M3 e bl i t) 0 e.moves else []
theorem b2L (e:Ev) (hs:e.Sized) (h0:y8 e=0) (t:Int) (bl:List Bool):a9 Tryz.prog 50 [evS e,a7 .i64 t,G8 bl] [] (d6 (a0y e bl t)) []:=by
 have f1:=a6J e t bl
 cases hfit:N7 e t bl with
 |false=>
  rw [hfit] at f1
  have hp:a0y e bl t=[]:=by unfold a0y;rw [if_neg (by simp [hfit])]
  rw [hp]
  (refine ac Tryz.func50 ?_;(conv=>whnf);repeat (refine zy ?_;conv=>whnf))
  repeat' (first|refine zx ?_|refine qp f1 ?_|refine zd ?_ ?_<;>intro h<;>try omega|fail)<;>conv=>whnf
  all_goals first|(exfalso;simp_all;done)|exact k9 rfl
 |true=>
  rw [hfit] at f1
  have hp:a0y e bl t=m8 (a7I e fun i=>M3 e bl i t) 0 e.moves:=by unfold a0y;rw [if_pos hfit]
  rw [hp]
  have l1:=hs.s2
  have l2:(e.moves.map n9.row).length=e.moves.length:=by simp
  let P:Nat->n9->Bool:=a7I e fun i=>M3 e bl i t
  have hpP:(a7I e fun i=>M3 e bl i t)=P:=rfl
  rw [hpP]
  (refine ac Tryz.func50 ?_;(conv=>whnf);repeat (refine zy ?_;conv=>whnf))
  repeat' (first|refine zx ?_|refine qp f1 ?_|refine zd ?_ ?_<;>intro h<;>try omega|fail)<;>conv=>whnf
  refine d8 c8 (fun k=>([J,a7 .i64 t,G8 bl,S.c (C.ptr 0 0 0),J,J,J,M4 1 (z7 P e.moves k),J,J,J,J,J,J,J,J,S.c (C.t (a1g e.moves)),a7 .i64 e.moves.length,a7 .i64 k]++Jn 27,[evB e,k8 (z7 P e.moves k)])) e.moves.length (fun k=>True) [some 0,none] trivial
   ⟨rfl,rfl,⟨⟨rfl,rfl,rfl,.inl ⟨rfl,j7 e⟩⟩,⟨rfl,rfl⟩,trivial⟩,⟨rfl,g6 rfl,⟨rfl,rfl,rfl⟩,⟨rfl,rfl,rfl⟩,g6 rfl,b8 (by simp),b8 rfl,trivial⟩⟩ ?_
  intro k hk hI
  have hpl:=a2S P e.moves k
  conv=>whnf
  repeat' (first|refine zx ?_|refine zd ?_ ?_<;>intro h<;>try omega|fail)<;>conv=>whnf
  ·have hlt:k<e.moves.length:=by omega
   obtain ⟨x,hx⟩:∃x,e.moves[k]? =some x:=⟨_,lbf hlt⟩
   obtain ⟨i,p,hsrc,hpl2,-⟩:=b57 h0 (lbm hx)
   have hkx:j9 e x.src=p.kind:=by rw [hsrc,a8J hpl2]
   have pa:=bc1 e hs k t bl
   have lpa:((M3 e bl k t).map c9).length=(M3 e bl k t).length:=by simp
   have hP:P k x=(decide (p.kind=0) && decide (0<(M3 e bl k t).length)):=by show a7I _ _ _ _=_;unfold a7I;rw [hkx]
   repeat' (first|refine zx ?_|refine qp pa ?_|refine qp toC ?_|refine qp toC ?_|refine b9 hx ?_|refine F4 hsrc hpl2 ?_|refine o8 (by simp [toC]) (by simp [toC];omega) ?_|refine zd ?_ ?_<;>intro h<;>try omega|fail)<;>conv=>whnf
   ·have hP':P k x=true:=by rw [hP,lbN,decide_eq_true_iff,decide_eq_true_iff];exact ⟨by assumption,by omega⟩
    have hy:=a1G P hx hP'
    refine ⟨by omega,trivial,[some 0,some 3],rfl,rfl,⟨⟨rfl,rfl,rfl,.inl ⟨rfl,j7 e⟩⟩,a8 (rows:=(z7 P e.moves (k+1)).map c9) rfl rfl rfl ?_ rfl,trivial⟩,⟨rfl,rfl,⟨rfl,rfl,rfl⟩,f8 rfl ?_,rfl,rfl,rfl,trivial⟩⟩
    ·rw [hy,lbC]
     exact (congrArg (fun n=>List.take n (toC ((z7 P e.moves k).map c9))++toC [[ti (k:Nat)]]) (by simp)).trans a7A
    ·show _=(z7 P e.moves (k+1)).length
     rw [hy];simp [toC]
   all_goals
    have hP':P k x=false:=by
     rw [hP,lbP,lbK,lbK]
     first|(refine .inr ?_;omega)|(refine .inl ?_;assumption)
    have hy:=Y2 P hx hP'
    refine ⟨by omega,trivial,[some 0,some 1],rfl,rfl,⟨⟨rfl,rfl,rfl,.inl ⟨rfl,j7 e⟩⟩,a8 rfl rfl rfl ?_ rfl,trivial⟩,⟨rfl,rfl,⟨rfl,rfl,rfl⟩,f8 rfl ?_,rfl,rfl,rfl,trivial⟩⟩
    ·exact congrArg (fun l=>toC (l.map c9)) hy.symm
    ·exact congrArg List.length hy.symm
  ·have hk':m8 P 0 e.moves=z7 P e.moves k:=(a6z P (by omega)).symm
   show Fin 0 _ _ (d6 (m8 P 0 e.moves)) []
   rw [hk']
   exact I6 rfl (by intro h;cases h) rfl rfl (by simp)
theorem ay2 {e:Ev} {bl:List Bool} {i j:Nat}:(j:Int) ∈ L1 e bl i↔a7M e i j=true∧bl.getD j true=false:=by
 unfold L1 a7M
 rw [lbY]
 cases hi:e.moves[i]? with
 |none=>simp
 |some u=>
  simp only
  constructor
  ·intro h
   obtain ⟨k,z,hz,hP,hk⟩:=y0.1 h
   have:k=j:=by omega
   subst this
   rw [Nat.zero_add] at hP
   simp only [a2e,lbN,Bool.not_eq_true'] at hP
   rw [hz]
   exact ⟨by simp only [lbN];exact hP.1,hP.2⟩
  ·rintro ⟨h1,h2⟩
   cases hj:e.moves[j]? with
   |none=>rw [hj] at h1;cases h1
   |some v=>
    rw [hj] at h1
    refine y0.2 ⟨j,v,hj,?_,by omega⟩
    rw [Nat.zero_add]
    simp only [a2e,lbN,Bool.not_eq_true']
    simp only [lbN] at h1
    exact ⟨h1,h2⟩
theorem b55 {e:Ev} {i j:Nat} (h:a7M e i j=true):i<j∧j<e.moves.length:=by
 unfold a7M at h
 split at h
 ·rename_i u v hu hv
  simp only [lbN,lbI] at h
  exact ⟨h.1.1,(lbe.1 hv).1⟩
 ·cases h
theorem Pa.case {e:Ev} {bl:List Bool} {fr:Nat} {q:List Int} (h:Pa fr (L1 e bl) q) {k:Nat} (hk:u7 q=k):(q=[(fr:Int)]∧k=fr)∨∃(p:List Int) (i:Nat),q=p++[(k:Int)]∧Pa fr (L1 e bl) p∧u7 p=i∧fr<=i∧a7M e i k=true∧bl.getD k true=false:=by
 cases h with
 |one=>left;simp [u7] at hk;exact ⟨rfl,by omega⟩
 |@snoc p j hp hj=>
  right
  rw [E3] at hk
  subst hk
  have hge:=hp.ge aa3
  obtain ⟨i,hi⟩:=Int.eq_ofNat_of_zero_le (show 0<=u7 p by omega)
  rw [hi] at hj
  obtain ⟨h1,h2⟩:=ay2.1 hj
  exact ⟨p,i,rfl,hp,hi,by omega,h1,h2⟩
theorem aw3 {a:List Bool} {i j:Nat} {v:Bool} (h:i<a.length):(a.set i v).getD j false=if j=i then v else a.getD j false:=by
 rw [lbl,lbl]
 by_cases hj:j=i
 ·subst hj;rw [List.getElem?_set_self h,if_pos rfl];rfl
 ·rw [List.getElem?_set_ne (Ne.symm hj),if_neg hj]
def Rch (e:Ev) (bl:List Bool) (m v:Nat):Prop:=∃q,Pa m (L1 e bl) q∧u7 q=(v:Int)
theorem Rch.self {e:Ev} {bl:List Bool} {m:Nat}:Rch e bl m m:=⟨_,.one,rfl⟩
theorem Rch.ge {e:Ev} {bl:List Bool} {m v:Nat} (h:Rch e bl m v):m<=v:=by
 obtain ⟨q,h1,h2⟩:=h
 have:=h1.ge aa3
 omega
theorem Rch.step {e:Ev} {bl:List Bool} {m v k:Nat} (h:Rch e bl m v) (hs:a7M e v k=true) (hb:bl.getD k true=false):Rch e bl m k:=by
 obtain ⟨q,h1,h2⟩:=h
 exact ⟨q++[(k:Int)],.snoc h1 (by rw [h2];exact ay2.2 ⟨hs,hb⟩),E3⟩
theorem Rch.case {e:Ev} {bl:List Bool} {m k:Nat} (h:Rch e bl m k):k=m∨∃v,Rch e bl m v∧a7M e v k=true∧bl.getD k true=false:=by
 obtain ⟨q,h1,h2⟩:=h
 rcases h1.case h2 with ⟨_,h⟩|⟨p,i,_,h4,h5,_,h7,h8⟩
 ·exact .inl h
 ·exact .inr ⟨i,⟨p,h4,h5⟩,h7,h8⟩
def a4i (e:Ev) (bl:List Bool) (m i p:Nat):Prop:=∃(v:Nat) (u:n9),v<i∧e.moves[v]? =some u∧Rch e bl m v∧u.dst=(p:Int)∧a0H e u.dst v i=true
theorem a4i.reach {e:Ev} {bl:List Bool} {m i:Nat} {x:n9} (hx:e.moves[i]? =some x) (hm:m<i) {p:Nat} (hp:x.src=(p:Int)) (hb:bl.getD i true=false):Rch e bl m i↔a4i e bl m i p:=by
 constructor
 ·intro h
  rcases h.case with h|⟨v,h1,h2,_⟩
  ·omega
  ·have h3:=b55 h2
   unfold a7M at h2
   split at h2
   ·rename_i u w hu hw
    rw [hx] at hw
    injection hw with hw
    subst hw
    simp only [lbN,lbI] at h2
    exact ⟨v,u,h3.1,hu,h1,by rw [← h2.1.2,hp],h2.2⟩
   ·cases h2
 ·rintro ⟨v,u,h1,h2,h3,h4,h5⟩
  refine h3.step ?_ hb
  unfold a7M
  rw [h2,hx]
  simp only [lbN,lbI]
  exact ⟨⟨h1,by rw [hp,h4]⟩,h5⟩
theorem ax4 {a:List Bool} {i j:Nat} (h:i<a.length):(a.set i true).getD j false=true↔j=i∨a.getD j false=true:=by
 rw [aw3 h]
 split
 ·rename_i hq;simp [hq]
 ·rename_i hq;simp [hq]
theorem b3h {a:List Bool} {i j:Nat} (h:i<a.length):(a.set i false).getD j false=true↔j≠i∧a.getD j false=true:=by
 rw [aw3 h]
 split
 ·rename_i hq;simp [hq]
 ·rename_i hq;simp [hq]
theorem atTo_holds {e:Ev} (h0:y8 e=0) {bl:List Bool} {m:Nat} {x0:n9} (hm:e.moves[m]? =some x0):∀k,m+1+k<=e.moves.length->∀p,(L2 e bl m x0.dst.toNat k).getD p false=true↔a4i e bl m (m+1+k) p
 |0,_,p=>by
  have hd:=H9 (p8 h0 (lbm hm))
  have hl:x0.dst.toNat<(List.replicate e.places.length false).length:=by simp;omega
  rw [L2,ax4 hl]
  have hr:(List.replicate e.places.length false).getD p false=false:=by simp [lbl,lbk];split<;>rfl
  rw [hr]
  constructor
  ·rintro (h|h)
   ·exact ⟨m,x0,by omega,hm,.self,by omega,a3w⟩
   ·cases h
  ·rintro ⟨v,u,h1,h2,h3,h4,h5⟩
   have:=h3.ge
   obtain rfl:v=m:=by omega
   rw [hm] at h2
   injection h2 with h2
   subst h2
   exact .inl (by omega)
 |k+1,hk,p=>by
  have hlt:m+1+k<e.moves.length:=by omega
  obtain ⟨x,hx⟩:∃x,e.moves[m+1+k]? =some x:=⟨_,lbf hlt⟩
  have hmo:=p8 h0 (lbm hx)
  have hsr:=B6 hmo
  have hdr:=H9 hmo
  have hne:=a3g hmo
  have ih:=atTo_holds h0 (bl:=bl) hm k (by omega)
  have hal:=V7 (e:=e) (bl:=bl) (m:=m) (d:=x0.dst.toNat) k
  obtain ⟨s,hs⟩:=Int.eq_ofNat_of_zero_le hsr.1
  obtain ⟨d,hd⟩:=Int.eq_ofNat_of_zero_le hdr.1
  rw [a5I hx]
  unfold P8
  rw [hs,hd,lbY,lbY]
  have hsd:s≠d:=by omega
  -- what holds before the next move
  have old:∀q:Nat,(∃ (v:Nat) (u:n9),v<m+1+k∧e.moves[v]? =some u∧Rch e bl m v∧u.dst=(q:Int)∧a0H e u.dst v (m+1+(k+1))=true)↔a4i e bl m (m+1+k) q∧¬(s=q∧x.all=true):=fun q=>by
   constructor
   ·rintro ⟨v,u,h1,h2,h3,h4,h5⟩
    have:=h3.ge
    rw [show m+1+(k+1)=m+1+k+1 by omega,a2I hx (by omega),lbN] at h5
    refine ⟨⟨v,u,h1,h2,h3,h4,h5.1⟩,?_⟩
    rintro ⟨rfl,ha⟩
    have h6:=h5.2
    rw [ha,h4,hs] at h6
    simp at h6
   ·rintro ⟨⟨v,u,h1,h2,h3,h4,h5⟩,h6⟩
    refine ⟨v,u,h1,h2,h3,h4,?_⟩
    rw [show m+1+(k+1)=m+1+k+1 by omega,a2I hx (by omega),h5,Bool.true_and]
    cases ha:x.all with
    |false=>simp
    |true=>
     have:¬s=q:=fun h=>h6 ⟨h,ha⟩
     simp [hs,h4]
     omega
  have new:∀q:Nat,a4i e bl m (m+1+(k+1)) q↔(a4i e bl m (m+1+k) q∧¬(s=q∧x.all=true))∨(d=q∧Rch e bl m (m+1+k)):=fun q=>by
   rw [← old q]
   constructor
   ·rintro ⟨v,u,h1,h2,h3,h4,h5⟩
    by_cases hv:v=m+1+k
    ·subst hv
     rw [hx] at h2
     injection h2 with h2
     subst h2
     exact .inr ⟨by omega,h3⟩
    ·exact .inl ⟨v,u,by omega,h2,h3,h4,h5⟩
   ·rintro (⟨v,u,h1,h2,h3,h4,h5⟩|⟨rfl,h⟩)
    ·exact ⟨v,u,by omega,h2,h3,h4,h5⟩
    ·exact ⟨m+1+k,x,by omega,hx,h,hd,a3w⟩
  have hrch:Rch e bl m (m+1+k)↔(L2 e bl m x0.dst.toNat k).getD s false=true∧bl.getD (m+1+k) true=false:=by
   constructor
   ·intro h
    have hb:bl.getD (m+1+k) true=false:=by
     rcases h.case with h'|⟨v,_,_,h'⟩
     ·omega
     ·exact h'
    exact ⟨(ih s).2 ((a4i.reach hx (by omega) hs hb).1 h),hb⟩
   ·rintro ⟨h1,h2⟩
    exact (a4i.reach hx (by omega) hs h2).2 ((ih s).1 h1)
  rw [new p]
  cases ha:(L2 e bl m x0.dst.toNat k).getD s false with
  |false=>
   rw [cond_false]
   have hnr:¬Rch e bl m (m+1+k):=fun h=>by have:=(hrch.1 h).1;rw [ha] at this;cases this
   have hnh:¬a4i e bl m (m+1+k) s:=fun h=>by have:=(ih s).2 h;rw [ha] at this;cases this
   rw [ih p]
   constructor
   ·intro h
    exact .inl ⟨h,fun hq=>hnh (hq.1 ▸ h)⟩
   ·rintro (h|h)
    ·exact h.1
    ·exact absurd h.2 hnr
  |true=>
   rw [cond_true]
   have hr2:Rch e bl m (m+1+k)↔bl.getD (m+1+k) true=false:=by rw [hrch,ha];simp
   have h1:∀q:Nat,(cond (bl.getD (m+1+k) true) (L2 e bl m x0.dst.toNat k) ((L2 e bl m x0.dst.toNat k).set d true)).getD q false=true↔a4i e bl m (m+1+k) q∨(d=q∧Rch e bl m (m+1+k)):=fun q=>by
    rw [hr2]
    cases hb:bl.getD (m+1+k) true with
    |true=>rw [cond_true,ih q];simp
    |false=>
     rw [cond_false,ax4 (by rw [hal];omega),ih q]
     constructor
     ·rintro (h|h)
      ·exact .inr ⟨h.symm,rfl⟩
      ·exact .inl h
     ·rintro (h|h)
      ·exact .inr h
      ·exact .inl h.1.symm
   have hlen:(cond (bl.getD (m+1+k) true) (L2 e bl m x0.dst.toNat k) ((L2 e bl m x0.dst.toNat k).set d true)).length=e.places.length:=by
    cases bl.getD (m+1+k) true<;>simp [hal]
   cases hall:x.all with
   |false=>
    rw [cond_false,h1 p]
    simp
   |true=>
    rw [cond_true,b3h (by rw [hlen];omega),h1 p]
    constructor
    ·rintro ⟨h2,h3|h3⟩
     ·exact .inl ⟨h3,fun h=>h2 h.1.symm⟩
     ·exact .inr h3
    ·rintro (⟨h2,h3⟩|⟨h2,h3⟩)
     ·exact ⟨fun h=>h3 ⟨h.symm,rfl⟩,.inl h2⟩
     ·exact ⟨by omega,.inr ⟨h2,h3⟩⟩
theorem a4L {e:Ev} (h0:y8 e=0) {bl:List Bool} {m:Nat} {x0:n9} (hm:e.moves[m]? =some x0) {k:Nat}:(k:Int) ∈ T6 e bl m x0.dst.toNat↔m<k∧Rch e bl m k∧k<e.moves.length:=by
 constructor
 ·intro h
  obtain ⟨i,x,hx,hP,hi⟩:=y0.1 h
  obtain rfl:i=k:=by omega
  have hlt:=(lbe.1 hx).1
  rw [Nat.zero_add] at hP
  unfold a62 at hP
  simp only [lbN,lbI,Bool.not_eq_true'] at hP
  have hsr:=B6 (p8 h0 (lbm hx))
  obtain ⟨s,hs⟩:=Int.eq_ofNat_of_zero_le hsr.1
  have hh:=(atTo_holds h0 (bl:=bl) hm (i - (m+1)) (by omega) s).1 (by have:=hP.1.2;rwa [hs,lbY] at this)
  rw [show m+1+(i - (m+1))=i by omega] at hh
  exact ⟨hP.1.1,(a4i.reach hx hP.1.1 hs hP.2).2 hh,hlt⟩
 ·rintro ⟨h1,h2,hlt⟩
  obtain ⟨x,hx⟩:∃x,e.moves[k]? =some x:=⟨_,lbf hlt⟩
  refine y0.2 ⟨k,x,hx,?_,by omega⟩
  rw [Nat.zero_add]
  have hsr:=B6 (p8 h0 (lbm hx))
  obtain ⟨s,hs⟩:=Int.eq_ofNat_of_zero_le hsr.1
  have hb:bl.getD k true=false:=by
   rcases h2.case with h'|⟨v,_,_,h'⟩
   ·omega
   ·exact h'
  have hh:=(a4i.reach hx h1 hs hb).1 h2
  unfold a62
  simp only [lbN,lbI,Bool.not_eq_true']
  refine ⟨⟨h1,?_⟩,hb⟩
  rw [hs,lbY]
  refine (atTo_holds h0 (bl:=bl) hm (k - (m+1)) (by omega) s).2 ?_
  rw [show m+1+(k - (m+1))=k by omega]
  exact hh
theorem ah4 {e:Ev} {bl:List Bool} (hl:bl.length=e.moves.length) {m k:Nat} {x0:n9} (hx:e.moves[m]? =some x0) (hk:k<e.moves.length):((m:Int) ∈ a0y e bl k↔j9 e x0.src=0∧0<(M3 e bl m k).length):=by
 have f2:N7 e k bl=true:=S9.2 (by omega)
 unfold a0y
 rw [if_pos f2]
 constructor
 ·intro h
  obtain ⟨i,z,hz,hP,hi⟩:=y0.1 h
  obtain rfl:i=m:=by omega
  rw [hx] at hz
  injection hz with hz
  subst hz
  rw [Nat.zero_add] at hP
  unfold a7I at hP
  simpa only [lbN,lbI] using hP
 ·intro h
  refine y0.2 ⟨m,x0,hx,?_,by omega⟩
  rw [Nat.zero_add]
  unfold a7I
  simpa only [lbN,lbI] using h

section
open Go.RowKit
theorem a0L {e:Ev} {x:n9} (h:D5 e x=true):((x.src.toNat:Nat):Int)=x.src:=by have:=B6 h;omega
theorem aD6 {e:Ev} {x:n9} (h:D5 e x=true):((x.dst.toNat:Nat):Int)=x.dst:=by have:=H9 h;omega
theorem aq1 {bl:List Bool} {i:Nat} {x:n9} {a:List Bool} {p:Nat} (hp:a.getD p false=true) (h:¬(p=x.src.toNat∧x.all=true)):(P8 bl i x a).getD p false=true:=by
 have hpl:p<a.length:=by
  rcases Nat.lt_or_ge p a.length with h|h
  ·exact h
  ·rw [lbl,lbd h] at hp;cases hp
 have hset:∀q,(a.set q true).getD p false=true:=fun q=>by
  rw [lbl,lbg]
  by_cases hq:q=p
  ·subst hq;simp [hpl]
  ·rw [if_neg hq,←lbl];exact hp
 have hfix:(cond (bl.getD i true) a (a.set x.dst.toNat true)).getD p false=true:=by
  cases bl.getD i true
  ·exact hset _
  ·exact hp
 unfold P8
 cases a.getD x.src.toNat false with
 |false=>exact hp
 |true=>
  cases hal:x.all with
  |false=>exact hfix
  |true=>
   have hne:x.src.toNat≠p:=fun hq=>h ⟨hq.symm,hal⟩
   show ((cond (bl.getD i true) a (a.set x.dst.toNat true)).set x.src.toNat false).getD p false=true
   rw [lbl,lbg,if_neg hne,←lbl]
   exact hfix
theorem b3I {bl:List Bool} {i:Nat} {x:n9} {a:List Bool} (hs:a.getD x.src.toNat false=true) (hb:bl.getD i true=false) (hd:x.dst.toNat<a.length) (hne:x.src.toNat≠x.dst.toNat):(P8 bl i x a).getD x.dst.toNat false=true:=by
 have h1:(a.set x.dst.toNat true).getD x.dst.toNat false=true:=by rw [lbl,lbg,if_pos rfl,if_pos hd];rfl
 unfold P8
 rw [hs,hb]
 cases x.all with
 |false=>exact h1
 |true=>
  show ((a.set x.dst.toNat true).set x.src.toNat false).getD x.dst.toNat false=true
  rw [lbl,lbg,if_neg hne,←lbl]
  exact h1
section
variable {t:d9} {kind:Int} {z:List Rat} {m:Nat}
theorem b1y {k:Nat} {x:n9} (h:a9D t kind z) (ho:∀j,a6y t.ev j->j≠m->z.getD j 0=0) (hx:t.ev.moves[k]? =some x) (hk:k≠m) (hs:j9 t.ev x.src≠0->Q8 t.ev z k x.src.toNat=0):z.getD k 0=0:=by
 have h1:=(h.step k x hx).1
 by_cases hb:j9 t.ev x.src=0
 ·exact ho k ⟨x,hx,hb⟩ hk
 ·have:=h1.most hb
  have:=h1.pos
  have:=hs hb
  grind
theorem b0I (h:a9D t kind z) (ho:∀j,a6y t.ev j->j≠m->z.getD j 0=0):∀k,k<=m->∀p:Nat,j9 t.ev p≠0->Q8 t.ev z k p=0
 |0,_,p,_=>rfl
 |k+1,hk,p,hp=>by
  have ih:=b0I h ho k (by omega)
  cases hx:t.ev.moves[k]? with
  |none=>rw [a4E hx];exact ih p hp
  |some x=>
   have hmo:=p8 (o4 h.tr).1 (lbm hx)
   have h0:=b1y h ho hx (by omega) (fun hb=>ih _ (by rw [a0L hmo];exact hb))
   rw [Z2 hx,h0,ih p hp]
   split
   ·grind
   ·split<;>grind
theorem a8n {xm:n9} {bl:List Bool} (h:a9D t kind z) (ho:∀j,a6y t.ev j->j≠m->z.getD j 0=0) (hb:∀i x,t.ev.moves[i]? =some x->bl.getD i true=true->z.getD i 0=0)
 (hxm:t.ev.moves[m]? =some xm) (hbin:j9 t.ev xm.src=0):∀k,m+1+k<=t.ev.moves.length->∀p:Nat,j9 t.ev p≠0->Q8 t.ev z (m+1+k) p≠0->(L2 t.ev bl m xm.dst.toNat k).getD p false=true
 |0,hk,p,hp,hs=>by
  have hbare:=b0I h ho m (lbR _)
  have hmo:=p8 (o4 h.tr).1 (lbm hxm)
  have md:=H9 hmo
  rw [Nat.add_zero,Z2 hxm] at hs
  by_cases c1:xm.src=(p:Int)
  ·rw [← c1] at hp;exact absurd hbin hp
  ·rw [if_neg c1] at hs
   by_cases c2:xm.dst=(p:Int)
   ·have:xm.dst.toNat=p:=by omega
    show ((List.replicate t.ev.places.length false).set xm.dst.toNat true).getD p false=true
    rw [this,lbl,lbg,if_pos rfl,if_pos (by simp;omega)];rfl
   ·rw [if_neg c2] at hs;exact absurd (hbare p hp) hs
 |k+1,hk,p,hp,hs=>by
  have ih:=a8n h ho hb hxm hbin k (by omega)
  obtain ⟨x,hx⟩:∃x,t.ev.moves[m+1+k]? =some x:=⟨_,lbf (by omega)⟩
  have hmo:=p8 (o4 h.tr).1 (lbm hx)
  have ms:=B6 hmo
  have md:=H9 hmo
  have hne:=a3g hmo
  have tk:=(h.step _ x hx).1
  rw [a5I hx]
  rw [show m+1+(k+1)=m+1+k+1 by omega,Z2 hx] at hs
  by_cases ha:p=x.src.toNat∧x.all=true
  ·have he:=tk.all ha.2
   rw [if_pos (by omega),he,←ha.1] at hs
   exact absurd (by grind) hs
  by_cases hst:Q8 t.ev z (m+1+k) p=0
  ·have hz:z.getD (m+1+k) 0≠0:=by
    intro hz
    rw [hz,hst] at hs
    apply hs
    split
    ·grind
    ·split<;>grind
   have hbl:bl.getD (m+1+k) true=false:=by
    rw [← lbQ];intro hh;exact hz (hb _ x hx hh)
   have hk2:j9 t.ev x.src≠0:=fun hk2=>hz (ho _ ⟨x,hx,hk2⟩ (by omega))
   have hsrc:=ih x.src.toNat (by rw [a0L hmo];exact hk2) (by have:=tk.most hk2;have:=tk.pos;grind)
   have c:x.dst=(p:Int)∨x.src=(p:Int):=by
    by_cases c1:x.src=(p:Int)
    ·exact .inr c1
    ·by_cases c2:x.dst=(p:Int)
     ·exact .inl c2
     ·rw [if_neg c1,if_neg c2] at hs;exact absurd hst hs
   rcases c with c|c
   ·have:p=x.dst.toNat:=by omega
    rw [this]
    exact b3I hsrc hbl (by rw [V7];omega) (by omega)
   ·have:p=x.src.toNat:=by omega
    rw [this] at ha ⊢
    exact aq1 hsrc ha
  ·exact aq1 (ih p hp hst) ha
theorem b1u {xm:n9} {bl:List Bool} (h:a9D t kind z) (ho:∀j,a6y t.ev j->j≠m->z.getD j 0=0) (hb:∀i x,t.ev.moves[i]? =some x->bl.getD i true=true->z.getD i 0=0)
 (hxm:t.ev.moves[m]? =some xm) (hbin:j9 t.ev xm.src=0) {i:Nat} {x:n9} (hx:t.ev.moves[i]? =some x) (hi:i≠m) (hz:z.getD i 0≠0):a62 t.ev bl m xm.dst.toNat i x=true:=by
 have hil:=(lbe.1 hx).1
 have hmo:=p8 (o4 h.tr).1 (lbm hx)
 have hk2:j9 t.ev x.src≠0:=fun hk2=>hz (ho i ⟨x,hx,hk2⟩ hi)
 have tk:=(h.step _ x hx).1
 have hmi:m<i:=by
  rcases Nat.lt_or_ge m i with h1|h1
  ·exact h1
  ·exact absurd (b1y h ho hx hi (fun hb=>b0I h ho i h1 _ (by rw [a0L hmo];exact hb))) hz
 have hr:=a8n h ho hb hxm hbin (i - (m+1)) (by omega) x.src.toNat (by rw [a0L hmo];exact hk2) (by
  rw [show m+1+(i - (m+1))=i by omega]
  have:=tk.most hk2;have:=tk.pos;grind)
 have hbl:bl.getD i true=false:=by
  rw [← lbQ];intro hh;exact hz (hb _ x hx hh)
 unfold a62
 rw [hr,hbl];simp [hmi]
end
theorem a6G {e:Ev} {bl:List Bool} {m d i:Nat} {x:n9} (hx:e.moves[i]? =some x):(i:Int) ∈ T6 e bl m d↔a62 e bl m d i x=true:=by
 unfold T6
 rw [y0]
 constructor
 ·rintro ⟨j,y,hy,hc,hj⟩
  obtain rfl:i=j:=by omega
  rw [hx] at hy;injection hy with hy;subst hy
  rwa [Nat.zero_add] at hc
 ·intro h;exact ⟨i,x,hx,by rw [Nat.zero_add];exact h,by rw [Nat.zero_add]⟩
theorem aH8 {e:Ev} {bl:List Bool} {m d p:Nat}:(p:Int) ∈ Y3 e bl m d↔(L2 e bl m d (e.moves.length - (m+1))).getD p false=true:=by
 unfold Y3
 rw [y0]
 constructor
 ·rintro ⟨j,y,hy,hc,hj⟩
  obtain rfl:p=j:=by omega
  rw [lbl,hy];exact hc
 ·intro h
  cases hy:(L2 e bl m d (e.moves.length - (m+1)))[p]? with
  |none=>rw [lbl,hy] at h;cases h
  |some b=>rw [lbl,hy] at h;exact ⟨p,b,hy,h,by rw [Nat.zero_add]⟩
def C6 (t:d9) (kind:Int) (i:Nat):Bool:=match t.ev.moves[i]? with
 |some x=>(match B2 t.ev x with|some (_,hi)=>decide (hi=0)|none=>false) || decide (0<o6 t.cleans kind i)
 |none=>false
def m9 (t:d9) (kind:Int):List Bool:=(List.range t.ev.moves.length).map (C6 t kind)
def a2Z (t:d9) (kind:Int):Bool:=(List.range t.ev.moves.length).any fun i=>C6 t kind i && (match t.ev.moves[i]? with|some x=>x.all|none=>false)
theorem Y9 (t:d9) (kind:Int):(m9 t kind).length=t.ev.moves.length:=by simp [m9]
theorem a4P {t:d9} {kind:Int} {i:Nat} (h:i<t.ev.moves.length):(m9 t kind).getD i true=C6 t kind i:=by
 unfold m9;rw [lbl];simp [h]
theorem a1s {t:d9} {kind:Int} {z:List Rat} (h:a9D (v8 t) kind z) {i:Nat} {x:n9} (hx:t.ev.moves[i]? =some x) (hb:(m9 t kind).getD i true=true):z.getD i 0=0:=by
 have hi:=(lbe.1 hx).1
 rw [a4P hi] at hb
 obtain ⟨s1,s2⟩:=h.step i x hx
 unfold C6 at hb
 rw [hx] at hb
 simp only [lbO,lbI] at hb
 rcases hb with hb|hb
 ·have c:=s2.cap
  have c:aD1 (B2 t.ev x) (z.getD i 0)=true:=c
  cases hiv:B2 t.ev x with
  |none=>rw [hiv] at hb;cases hb
  |some q=>
   obtain ⟨lo,hi'⟩:=q
   rw [hiv] at hb c
   simp only [aD1,lbI] at hb c
   have:=s1.pos
   subst hb
   grind
 ·exact s2.cln hb
def a05 (e:Ev) (bl:List Bool) (m k:Nat) (x:n9) (f:Nat->Rat):Rat:=
 if bl.getD k true=true then 0 else if j9 e x.src=0 then (if k=m then 1 else 0) else if x.all=true then f x.src.toNat else f x.src.toNat / 2
def J8 (e:Ev) (bl:List Bool) (m:Nat):Nat->Nat->Rat
 |0=>fun _=>0
 |k+1=>match e.moves[k]? with
  |none=>J8 e bl m k
  |some x=>fun p=>if x.src=(p:Int) then J8 e bl m k p - a05 e bl m k x (J8 e bl m k) else if x.dst=(p:Int) then J8 e bl m k p+a05 e bl m k x (J8 e bl m k) else J8 e bl m k p
def R7 (e:Ev) (bl:List Bool) (m:Nat):List Rat:=(List.range e.moves.length).map fun k=>match e.moves[k]? with
 |some x=>a05 e bl m k x (J8 e bl m k)
 |none=>0
theorem Z6 {e:Ev} {bl:List Bool} {m k:Nat} {x:n9} (hx:e.moves[k]? =some x):(R7 e bl m).getD k 0=a05 e bl m k x (J8 e bl m k):=by
 have hk:=(lbe.1 hx).1
 unfold R7
 rw [lbl,lba,lbh hk]
 simp [hx]
theorem a4d {e:Ev} {bl:List Bool} {m k:Nat} {x:n9} (hx:e.moves[k]? =some x) (p:Nat):J8 e bl m (k+1) p=if x.src=(p:Int) then J8 e bl m k p - a05 e bl m k x (J8 e bl m k) else if x.dst=(p:Int) then J8 e bl m k p+a05 e bl m k x (J8 e bl m k) else J8 e bl m k p:=by
 rw [J8,hx]
theorem av9 {e:Ev} {bl:List Bool} {m k:Nat} (hx:e.moves[k]? =none) (p:Nat):J8 e bl m (k+1) p=J8 e bl m k p:=by
 rw [J8,hx]
theorem a8h {e:Ev} {bl:List Bool} {m:Nat}:∀k p:Nat,Q8 e (R7 e bl m) k p=J8 e bl m k p
 |0,p=>rfl
 |k+1,p=>by
  have ih:=a8h (e:=e) (bl:=bl) (m:=m) k p
  cases hx:e.moves[k]? with
  |none=>rw [a4E hx,av9 hx,ih]
  |some x=>rw [Z2 hx,a4d hx,Z6 hx,ih]
theorem b1e {a:Rat} (h:0<=a):0<=a / 2∧a / 2<=a:=by constructor<;>grind
theorem a7w {e:Ev} {bl:List Bool} {m k:Nat} {x:n9} {f:Nat->Rat} (hf:j9 e x.src≠0->0<=f x.src.toNat):0<=a05 e bl m k x f∧(j9 e x.src≠0->a05 e bl m k x f<=f x.src.toNat):=by
 unfold a05
 split
 ·exact ⟨lb3,hf⟩
 ·split
  ·rename_i h
   refine ⟨?_,fun h'=>absurd h h'⟩
   split
   ·decide +kernel
   ·exact lb3
  ·rename_i h
   have h0:=hf h
   split
   ·exact ⟨h0,fun _=>lb3⟩
   ·exact ⟨(b1e h0).1,fun _=>(b1e h0).2⟩
theorem a1B {e:Ev} (h0:y8 e=0) {bl:List Bool} {m:Nat}:∀k p:Nat,j9 e p≠0->0<=J8 e bl m k p
 |0,p,_=>lb3
 |k+1,p,hp=>by
  have ih:=a1B h0 (bl:=bl) (m:=m) k
  cases hx:e.moves[k]? with
  |none=>rw [av9 hx];exact ih p hp
  |some x=>
   have hmo:=p8 h0 (lbm hx)
   obtain ⟨v1,v2⟩:=a7w (e:=e) (bl:=bl) (m:=m) (k:=k) (x:=x) (f:=J8 e bl m k) (fun hk=>ih _ (by rw [a0L hmo];exact hk))
   have ihp:=ih p hp
   rw [a4d hx]
   split
   ·rename_i hs
    have h2:=v2 (by rw [hs];exact hp)
    rw [hs,show ((p:Int)).toNat=p by omega] at h2
    grind
   ·split
    ·grind
    ·exact ihp
theorem ai0 (a b:Nat->Rat) (ha:∀i,0<=a i) (hb:∀i,0<=b i) (h:∀i,a i=0∨0<b i):∀n:Nat,∃d:Rat,0<d∧d<=1∧∀i,i<n->d*a i<=b i
 |0=>⟨1,by decide +kernel,lb3,fun i hi=>by omega⟩
 |n+1=>by
  obtain ⟨d,d0,d1,hd⟩:=ai0 a b ha hb h n
  rcases h n with hz|hz
  ·refine ⟨d,d0,d1,fun i hi=>?_⟩
   by_cases hin:i=n
   ·subst hin;rw [hz];have:=hb i;grind
   ·exact hd i (by omega)
  ·have hs:0<a n+b n:=by have:=ha n;grind
   have hi0:0<(a n+b n)⁻¹:=Rat.inv_pos.2 hs
   have e1:(a n+b n)*(a n+b n)⁻¹=1:=Rat.mul_inv_cancel _ (by grind)
   have c0:0<b n*(a n+b n)⁻¹:=lb2 hz hi0
   have hai:0<=a n*(a n+b n)⁻¹:=lb1 (ha n) (by grind)
   have c1:b n*(a n+b n)⁻¹<=1:=by grind
   have ca:a n*(a n+b n)⁻¹<=1:=by grind
   generalize hc:b n*(a n+b n)⁻¹=c at c0 c1
   have can:c*a n<=b n:=by
    have e2:c*a n=b n*(a n*(a n+b n)⁻¹):=by rw [← hc];grind
    rw [e2]
    have:=a17 ca (hb n)
    grind
   refine ⟨d*c,lb2 d0 c0,?_,fun i hi=>?_⟩
   ·have:=a17 c1 (show 0<=d by grind)
    grind
   ·by_cases hin:i=n
    ·subst hin
     have h1:=lb1 (show 0<=c by grind) (ha i)
     have h2:=am1 h1 d1
     grind
    ·have h1:=hd i (by omega)
     have h2:=lb1 (show 0<=d by grind) (ha i)
     have h3:=am1 h2 c1
     grind
theorem b3l {t:d9} {kind:Int} {m:Nat} (h:QT t) (k0:0<=kind) (k1:kind<8) (hall:a2Z t kind=false):
 ∃d:Rat,0<d∧a9u t kind m ((R7 t.ev (m9 t kind) m).map (d*·)):=by
 have h0:=(o4 h.h).1
 have hZ:∀i,0<=(R7 t.ev (m9 t kind) m).getD i 0:=fun i=>by
  cases hx:t.ev.moves[i]? with
  |none=>
   rw [lbl,lbd (by have:=List.getElem?_eq_none_iff.1 hx;simpa [R7] using this)]
   exact lb3
  |some x=>
   have hmo:=p8 h0 (lbm hx)
   rw [Z6 hx]
   exact (a7w (fun hk=>a1B h0 _ _ (by rw [a0L hmo];exact hk))).1
 have hbl:∀i x,t.ev.moves[i]? =some x->C6 t kind i=true->(R7 t.ev (m9 t kind) m).getD i 0=0:=fun i x hx hb=>by
  rw [Z6 hx]
  unfold a05
  rw [a4P (lbe.1 hx).1,if_pos hb]
 obtain ⟨d,d0,d1,hd⟩:=ai0 (fun i=>(R7 t.ev (m9 t kind) m).getD i 0)
  (fun i=>match t.ev.moves[i]? with|some x=>(match B2 t.ev x with|some (_,hi)=>hi|none=>1)|none=>1) hZ
  (fun i=>by
    cases hx:t.ev.moves[i]? with
    |none=>exact (show (0:Rat)<=1 by decide +kernel)
    |some x=>
     simp only
     cases hiv:B2 t.ev x with
     |none=>exact (show (0:Rat)<=1 by decide +kernel)
     |some q=>
      obtain ⟨lo,hi⟩:=q
      simp only
      unfold B2 at hiv
      split at hiv
      ·cases hiv
      ·exact ay9 hiv)
  (fun i=>by
    cases hx:t.ev.moves[i]? with
    |none=>exact .inr (show (0:Rat)<1 by decide +kernel)
    |some x=>
     simp only
     cases hiv:B2 t.ev x with
     |none=>exact .inr (show (0:Rat)<1 by decide +kernel)
     |some q=>
      obtain ⟨lo,hi⟩:=q
      simp only
      have hp:0<=hi:=by
       unfold B2 at hiv
       split at hiv
       ·cases hiv
       ·exact ay9 hiv
      by_cases hh:hi=0
      ·left
       refine hbl i x hx ?_
       unfold C6
       rw [hx]
       simp only
       rw [hiv]
       simp [hh]
      ·right;grind) t.ev.moves.length
 refine ⟨d,d0,?_⟩
 have hw:∀i,((R7 t.ev (m9 t kind) m).map (d*·)).getD i 0=d*(R7 t.ev (m9 t kind) m).getD i 0:=fun i=>by
  rw [lbl,lba,lbl]
  cases (R7 t.ev (m9 t kind) m)[i]? with
  |none=>simp
  |some v=>rfl
 have hst:∀k p,Q8 t.ev ((R7 t.ev (m9 t kind) m).map (d*·)) k p=d*J8 t.ev (m9 t kind) m k p:=fun k p=>by
  rw [al3 (w:=(R7 t.ev (m9 t kind) m).map (d*·)) (z:=R7 t.ev (m9 t kind) m) (y:=R7 t.ev (m9 t kind) m) (a:=d) (b:=0) (fun i _=>by rw [hw];grind),a8h]
  grind
 have dn:0<=d:=by grind
 refine ⟨⟨a1z h.h,k0,k1,by simp [R7,v8],fun i x hx=>?_⟩,fun j hj hjm=>?_⟩
 ·have hx:t.ev.moves[i]? =some x:=hx
  have hi:=(lbe.1 hx).1
  have hmo:=p8 h0 (lbm hx)
  obtain ⟨v1,v2⟩:=a7w (e:=t.ev) (bl:=m9 t kind) (m:=m) (k:=i) (x:=x) (f:=J8 t.ev (m9 t kind) m i) (fun hk=>a1B h0 _ _ (by rw [a0L hmo];exact hk))
  have hst2:Q8 (v8 t).ev ((R7 t.ev (m9 t kind) m).map (d*·)) i x.src.toNat=d*J8 t.ev (m9 t kind) m i x.src.toNat:=hst _ _
  rw [hst2]
  have hwi:=hw i
  have hdi:=hd i hi
  simp only [hx] at hdi
  rw [Z6 hx] at hwi hdi
  rw [hwi]
  refine ⟨⟨lb1 dn v1,fun hk=>a17 (v2 hk) dn,fun ha=>?_⟩,?_,fun g hg=>(by simp [i8,v8] at hg),fun hc=>?_⟩
  ·have hb:C6 t kind i=false:=by
    rw [← lbQ]
    intro hb
    have:a2Z t kind=true:=lbw.2 ⟨i,lbB.2 hi,by rw [hb,hx];simpa using ha⟩
    rw [this] at hall;cases hall
   unfold a05
   rw [a4P hi,hb,if_neg (by decide),if_neg (ac4 hmo ha),if_pos ha]
  ·show aD1 (B2 t.ev x) _=true
   cases hiv:B2 t.ev x with
   |none=>rfl
   |some q=>
    obtain ⟨lo,hi'⟩:=q
    rw [hiv] at hdi
    simp only [aD1,lbI]
    exact hdi
  ·have hb:C6 t kind i=true:=by
    unfold C6
    rw [hx]
    have hc:0<o6 t.cleans kind i:=hc
    simp [hc]
   have h1:=hbl i x hx hb
   rw [Z6 hx] at h1
   rw [h1];grind
 ·obtain ⟨x,hx,hk⟩:=hj
  rw [hw,Z6 hx]
  unfold a05
  split
  ·grind
  ·first
    |(rw [if_pos hk,if_neg hjm];grind)
    |simp
theorem aF2 {e:Ev} (h0:y8 e=0) {bl:List Bool} {m:Nat} {xm:n9} (hxm:e.moves[m]? =some xm) (hbin:j9 e xm.src=0) (hbm:bl.getD m true=false):
 ∀k,m+1+k<=e.moves.length->∀p:Nat,(L2 e bl m xm.dst.toNat k).getD p false=true->j9 e p≠0∧0<J8 e bl m (m+1+k) p
 |0,hk,p,hp=>by
  have hmo:=p8 h0 (lbm hxm)
  have md:=H9 hmo
  have hp:((List.replicate e.places.length false).set xm.dst.toNat true).getD p false=true:=hp
  have hpe:p=xm.dst.toNat:=by
   rw [lbl,lbg] at hp
   by_cases h:xm.dst.toNat=p
   ·exact h.symm
   ·rw [if_neg h,lbk] at hp
    split at hp<;>cases hp
  subst hpe
  have hd:j9 e ((xm.dst.toNat:Nat):Int)≠0:=by rw [aD6 hmo];exact a07 hmo
  refine ⟨hd,?_⟩
  rw [Nat.add_zero,a4d hxm,if_neg (by have:=a3g hmo;rw [aD6 hmo];exact this),if_pos (by rw [aD6 hmo])]
  have h1:=a1B h0 (bl:=bl) (m:=m) m xm.dst.toNat hd
  have h2:a05 e bl m m xm (J8 e bl m m)=1:=by unfold a05;rw [hbm,if_neg (by decide),if_pos hbin,if_pos rfl]
  rw [h2];grind
 |k+1,hk,p,hp=>by
  have ih:=aF2 h0 hxm hbin hbm k (by omega)
  obtain ⟨x,hx⟩:∃x,e.moves[m+1+k]? =some x:=⟨_,lbf (by omega)⟩
  have hmo:=p8 h0 (lbm hx)
  have ms:=B6 hmo
  have md:=H9 hmo
  have hne:=a3g hmo
  obtain ⟨v1,v2⟩:=a7w (e:=e) (bl:=bl) (m:=m) (k:=m+1+k) (x:=x) (f:=J8 e bl m (m+1+k)) (fun hk=>a1B h0 _ _ (by rw [a0L hmo];exact hk))
  rw [a5I hx] at hp
  rw [show m+1+(k+1)=m+1+k+1 by omega,a4d hx]
  have hset:∀(a:List Bool) (q:Nat),(a.set q true).getD p false=true->p=q∨a.getD p false=true:=fun a q h=>by
   rw [lbl,lbg] at h
   by_cases hq:q=p
   ·exact .inl hq.symm
   ·rw [if_neg hq,←lbl] at h;exact .inr h
  cases hsrc:(L2 e bl m xm.dst.toNat k).getD x.src.toNat false with
  |false=>
   unfold P8 at hp
   rw [hsrc] at hp
   obtain ⟨q1,q2⟩:=ih p hp
   refine ⟨q1,?_⟩
   rw [if_neg (fun hs=>by rw [hs,show ((p:Int)).toNat=p by omega] at hsrc;have hp:(L2 e bl m xm.dst.toNat k).getD p false=true:=hp;rw [hsrc] at hp;cases hp)]
   split
   ·grind
   ·exact q2
  |true=>
   obtain ⟨s1,s2⟩:=ih _ hsrc
   have s1:j9 e x.src≠0:=by rw [a0L hmo] at s1;exact s1
   unfold P8 at hp
   rw [hsrc] at hp
   have hp:(cond x.all ((cond (bl.getD (m+1+k) true) (L2 e bl m xm.dst.toNat k) ((L2 e bl m xm.dst.toNat k).set x.dst.toNat true)).set x.src.toNat false) (cond (bl.getD (m+1+k) true) (L2 e bl m xm.dst.toNat k) ((L2 e bl m xm.dst.toNat k).set x.dst.toNat true))).getD p false=true:=hp
   have hp2:(cond (bl.getD (m+1+k) true) (L2 e bl m xm.dst.toNat k) ((L2 e bl m xm.dst.toNat k).set x.dst.toNat true)).getD p false=true∧(x.all=true->p≠x.src.toNat):=by
    cases ha:x.all with
    |false=>rw [ha] at hp;exact ⟨hp,fun h=>by cases h⟩
    |true=>
     rw [ha] at hp
     have hp:((cond (bl.getD (m+1+k) true) (L2 e bl m xm.dst.toNat k) ((L2 e bl m xm.dst.toNat k).set x.dst.toNat true)).set x.src.toNat false).getD p false=true:=hp
     rw [lbl,lbg] at hp
     by_cases hq:x.src.toNat=p
     ·rw [if_pos hq] at hp;split at hp<;>cases hp
     ·rw [if_neg hq,←lbl] at hp
      exact ⟨hp,fun _ h=>hq h.symm⟩
   obtain ⟨hp3,hp4⟩:=hp2
   have hp5:(p=x.dst.toNat∧bl.getD (m+1+k) true=false)∨(L2 e bl m xm.dst.toNat k).getD p false=true:=by
    cases hb:bl.getD (m+1+k) true with
    |true=>rw [hb] at hp3;exact .inr hp3
    |false=>rw [hb] at hp3;exact (hset _ _ hp3).imp (fun h=>⟨h,rfl⟩) id
   by_cases hps:x.src=(p:Int)
   ·have hpn:p=x.src.toNat:=by omega
    have hpo:(L2 e bl m xm.dst.toNat k).getD p false=true:=by rw [hpn];exact hsrc
    have hal:x.all=false:=by rw [← lbQ];intro h;exact hp4 h hpn
    refine ⟨by rw [← hps];exact s1,?_⟩
    rw [if_pos hps]
    unfold a05
    rw [hpn]
    split
    ·grind
    ·first
      |(rw [if_neg s1,if_neg (by rw [hal];decide)];grind)
      |(rw [if_neg (by rw [hal];decide)];grind)
   ·rw [if_neg hps]
    by_cases hpd:x.dst=(p:Int)
    ·refine ⟨by rw [← hpd];exact a07 hmo,?_⟩
     rw [if_pos hpd]
     have h1:=a1B h0 (bl:=bl) (m:=m) (m+1+k) p (by rw [← hpd];exact a07 hmo)
     rcases hp5 with ⟨_,hb⟩|hp5
     ·have:0<a05 e bl m (m+1+k) x (J8 e bl m (m+1+k)):=by
       unfold a05
       rw [hb,if_neg (by decide),if_neg s1]
       split
       ·exact s2
       ·grind
      grind
     ·have:=(ih p hp5).2
      grind
    ·rw [if_neg hpd]
     rcases hp5 with ⟨h,_⟩|hp5
     ·omega
     ·exact ih p hp5
theorem a4B {t:d9} {find:Int} {f:L0} (h:ae5 t find f) {i:Nat} (hi:i ∈ J1 t f.kind f.mv.toNat):(i:Int) ∈ a0y t.ev (m9 t f.kind) f.mv:=by
 obtain ⟨h1,h2⟩:=lby.1 hi
 obtain ⟨x,hx,hb⟩:=I4.1 h1
 have hl:=(lbe.1 hx).1
 have h0:=(o4 h.q.h).1
 obtain ⟨z,hz,hp⟩:=(a56 h.q h.k0 h.k1 h.ml).1 h2
 have hs:=al0 hz hl h.ml hp
 have hbl:∀j y,t.ev.moves[j]? =some y->(m9 t f.kind).getD j true=true->z.getD j 0=0:=fun j y hy hb=>a1s hz.p hy hb
 have hbi:(m9 t f.kind).getD i true=false:=by
  rw [← lbQ];intro hh;rw [hbl i x hx hh] at hs;exact absurd hs (by decide +kernel)
 have hmv:f.mv=((f.mv.toNat:Nat):Int):=by have:=h.m0;omega
 rw [hmv]
 refine (ah4 (Y9 t f.kind) hx h.ml).2 ⟨hb,?_⟩
 have hr:Rch t.ev (m9 t f.kind) i f.mv.toNat:=by
  by_cases hie:f.mv.toNat=i
  ·rw [hie];exact Rch.self
  ·obtain ⟨y,hy⟩:∃y,t.ev.moves[f.mv.toNat]? =some y:=⟨_,lbf h.ml⟩
   have hc:=b1u (t:=v8 t) hz.p hz.o hbl hx hb hy hie (by intro e;rw [e] at hp;exact absurd hp (by decide +kernel))
   exact ((a4L h0 hx).1 ((a6G hy).2 hc)).2.1
 have f1:N7 t.ev i (m9 t f.kind)=true:=S9.2 (by have:=Y9 t f.kind;omega)
 have f2:N7 t.ev ((f.mv.toNat:Nat):Int) (m9 t f.kind)=true:=S9.2 (by have:=Y9 t f.kind;have:=h.ml;omega)
 rcases ad5 f1 f2 (by rw [lbY];exact hbi) with ⟨p1,p2,p3⟩|⟨p1,p2⟩
 ·exact p1.pos
 ·obtain ⟨q,hq,hql⟩:=hr
  exact absurd hql (p2 q hq)
theorem a49 {t:d9} {find:Int} {f:L0} (h:ae5 t find f) {i:Nat} {x:n9} (hi:i ∈ J1 t f.kind f.mv.toNat) (hx:t.ev.moves[i]? =some x):
 Q0 t.ev i (m9 t f.kind)=(T6 t.ev (m9 t f.kind) i x.dst.toNat,Y3 t.ev (m9 t f.kind) i x.dst.toNat):=by
 have hl:=(lbe.1 hx).1
 obtain ⟨h1,h2⟩:=lby.1 hi
 obtain ⟨z,hz,hp⟩:=(a56 h.q h.k0 h.k1 h.ml).1 h2
 have hs:=al0 hz hl h.ml hp
 refine aw5 (S9.2 (by have:=Y9 t f.kind;omega)) ?_ hx
 rw [← lbQ];intro hh;rw [a1s hz.p hx hh] at hs;exact absurd hs (by decide +kernel)
theorem ao9 {t:d9} {find:Int} {f:L0} (h:ae5 t find f) {g:Nat} (hg:g ∈ L8 t f.kind f.mv.toNat):∃i ∈ J1 t f.kind f.mv.toNat,g=i∨(g:Int) ∈ (Q0 t.ev i (m9 t f.kind)).1:=by
 obtain ⟨g1,g2⟩:=am0.1 hg
 obtain ⟨i,hi,hA⟩:=lbw.1 g2
 obtain ⟨h1,h2⟩:=lby.1 hi
 obtain ⟨x,hx,hb⟩:=I4.1 h1
 refine ⟨i,hi,?_⟩
 by_cases hgi:g=i
 ·exact .inl hgi
 ·right
  rw [a49 h hi hx]
  obtain ⟨z,hz,hp⟩:=(a56 h.q h.k0 h.k1 g1).1 hA
  obtain ⟨y,hy⟩:∃y,t.ev.moves[g]? =some y:=⟨_,lbf g1⟩
  refine (a6G hy).2 (b1u (t:=v8 t) hz.p hz.o (fun j y hy hb=>a1s hz.p hy hb) hx hb hy hgi ?_)
  intro e;rw [e] at hp;exact absurd hp (by decide +kernel)
theorem an4 {t:d9} {find:Int} {f:L0} (h:ae5 t find f) {p:Nat} (hg:p ∈ I7 t f.kind f.mv.toNat):∃i ∈ J1 t f.kind f.mv.toNat,(p:Int) ∈ (Q0 t.ev i (m9 t f.kind)).2:=by
 obtain ⟨g1,g2⟩:=a9h.1 hg
 obtain ⟨i,hi,hA⟩:=lbw.1 g2
 obtain ⟨h1,h2⟩:=lby.1 hi
 obtain ⟨x,hx,hb⟩:=I4.1 h1
 have hil:=(lbe.1 hx).1
 refine ⟨i,hi,?_⟩
 rw [a49 h hi hx]
 have hml:=h.ml
 obtain ⟨z,hz,hp⟩:=(aC0 h.q (by omega) h.k0 h.k1 (by omega)).1 hA
 unfold aL4 at hp
 rw [if_neg (by omega),Nat.add_sub_cancel_left] at hp
 split at hp
 ·exact absurd hp (by decide +kernel)
 ·rename_i hk
  refine aH8.2 (a8n (t:=v8 t) hz.p hz.o (fun j y hy hb=>a1s hz.p hy hb) hx hb _ (by show i+1+(t.ev.moves.length - (i+1))<=t.ev.moves.length;omega) p hk ?_)
  rw [show i+1+(t.ev.moves.length - (i+1))=t.ev.moves.length by omega]
  show Q8 t.ev z t.ev.moves.length p≠0
  intro e;rw [e] at hp;exact absurd hp (by decide +kernel)
theorem a53 {t:d9} {find:Int} {f:L0} (h:ae5 t find f) (hall:a2Z t f.kind=false) {i:Nat} {x:n9} (hx:t.ev.moves[i]? =some x) (hi:(i:Int) ∈ a0y t.ev (m9 t f.kind) f.mv):
 i ∈ J1 t f.kind f.mv.toNat∧(∀ g:Nat,g=i∨(g:Int) ∈ (Q0 t.ev i (m9 t f.kind)).1->g ∈ L8 t f.kind f.mv.toNat)∧(∀ p:Nat,(p:Int) ∈ (Q0 t.ev i (m9 t f.kind)).2->p ∈ I7 t f.kind f.mv.toNat):=by
 have h0:=(o4 h.q.h).1
 have hil:=(lbe.1 hx).1
 have hml:=h.ml
 have hmv:f.mv=((f.mv.toNat:Nat):Int):=by have:=h.m0;omega
 rw [hmv] at hi
 obtain ⟨hb,hpp⟩:=(ah4 (Y9 t f.kind) hx hml).1 hi
 have hlen:=Y9 t f.kind
 have f1:N7 t.ev i (m9 t f.kind)=true:=S9.2 (by omega)
 have f2:N7 t.ev ((f.mv.toNat:Nat):Int) (m9 t f.kind)=true:=S9.2 (by omega)
 have hbi:(m9 t f.kind).getD i true=false:=by
  rw [← lbQ];intro hh
  unfold M3 at hpp
  rw [if_neg (by rw [lbY,hh];simp)] at hpp
  exact absurd hpp (by simp)
 obtain ⟨d,d0,hA⟩:=b3l (m:=i) h.q h.k0 h.k1 hall
 have hw:∀j,((R7 t.ev (m9 t f.kind) i).map (d*·)).getD j 0=d*(R7 t.ev (m9 t f.kind) i).getD j 0:=fun j=>by
  rw [lbl,lba,lbl]
  cases (R7 t.ev (m9 t f.kind) i)[j]? with
  |none=>simp
  |some v=>rfl
 have hst:∀k p,Q8 t.ev ((R7 t.ev (m9 t f.kind) i).map (d*·)) k p=d*J8 t.ev (m9 t f.kind) i k p:=fun k p=>by
  rw [al3 (w:=(R7 t.ev (m9 t f.kind) i).map (d*·)) (z:=R7 t.ev (m9 t f.kind) i) (y:=R7 t.ev (m9 t f.kind) i) (a:=d) (b:=0) (fun j _=>by rw [hw];grind),a8h]
  grind
 have key:∀g:Nat,g<t.ev.moves.length->g=i∨(i<g∧Rch t.ev (m9 t f.kind) i g)->(isA t f.kind i).getD g false=true:=fun g hgl hg=>by
  refine (a56 h.q h.k0 h.k1 hgl).2 ⟨_,hA,?_⟩
  rw [hw]
  refine lb2 d0 ?_
  rcases hg with rfl|⟨hg0,hg⟩
  ·rw [Z6 hx]
   unfold a05
   rw [hbi,if_neg (by decide),if_pos hb,if_pos rfl];decide +kernel
  ·obtain ⟨y,hy⟩:∃y,t.ev.moves[g]? =some y:=⟨_,lbf hgl⟩
   have hmo:=p8 h0 (lbm hy)
   have hc:=(a6G hy).1 ((a4L h0 hx).2 ⟨hg0,hg,hgl⟩)
   unfold a62 at hc
   simp only [lbN,lbI,Bool.not_eq_true'] at hc
   obtain ⟨⟨c1,c2⟩,c3⟩:=hc
   obtain ⟨s1,s2⟩:=aF2 h0 hx hb hbi (g - (i+1)) (by omega) _ c2
   rw [show i+1+(g - (i+1))=g by omega] at s2
   rw [a0L hmo] at s1
   rw [Z6 hy]
   unfold a05
   rw [c3,if_neg (by decide),if_neg s1]
   split
   ·exact s2
   ·grind
 have hor:i ∈ J1 t f.kind f.mv.toNat:=by
  refine lby.2 ⟨I4.2 ⟨x,hx,hb⟩,key _ hml ?_⟩
  rcases ad5 f1 f2 (by rw [lbY];exact hbi) with ⟨p1,p2,p3⟩|⟨p1,p2⟩
  ·have hr:Rch t.ev (m9 t f.kind) i f.mv.toNat:=⟨_,p1,p2⟩
   have:=hr.ge
   by_cases he:f.mv.toNat=i
   ·exact .inl he
   ·exact .inr ⟨by omega,hr⟩
  ·rw [p1] at hpp;exact absurd hpp (by simp)
 have hld:=a49 h hor hx
 refine ⟨hor,fun g hg=>?_,fun p hp=>?_⟩
 ·rw [hld] at hg
  have hg2:g<t.ev.moves.length∧(g=i∨(i<g∧Rch t.ev (m9 t f.kind) i g)):=by
   rcases hg with hg|hg
   ·exact ⟨by omega,.inl hg⟩
   ·obtain ⟨q1,q2,q3⟩:=(a4L h0 hx).1 hg
    exact ⟨q3,.inr ⟨q1,q2⟩⟩
  exact am0.2 ⟨hg2.1,lbw.2 ⟨i,hor,key g hg2.1 hg2.2⟩⟩
 ·rw [hld] at hp
  have hp2:=aH8.1 hp
  obtain ⟨s1,s2⟩:=aF2 h0 hx hb hbi _ (by omega) _ hp2
  rw [show i+1+(t.ev.moves.length - (i+1))=t.ev.moves.length by omega] at s2
  have hpl:p<t.ev.places.length:=by
   rcases Nat.lt_or_ge p t.ev.places.length with hlt|hge
   ·exact hlt
   ·rw [lbl,lbd (by rw [V7];exact hge)] at hp2;cases hp2
  refine a9h.2 ⟨hpl,lbw.2 ⟨i,hor,(aC0 h.q (by omega) h.k0 h.k1 (by omega)).2 ⟨_,hA,?_⟩⟩⟩
  unfold aL4
  rw [if_neg (by omega),Nat.add_sub_cancel_left,if_neg s1,hst]
  exact lb2 d0 s2
end
theorem b2w {l:List Q3} {kind:Int} {i:Nat}:decide (0<o6 l kind i)=l.any fun c=>decide (c.kind=kind) && decide (c.mv=(i:Int)):=by
 unfold o6
 rw [Bool.eq_iff_iff,lbI,List.length_pos_iff_exists_mem,lbw]
 constructor
 ·rintro ⟨x,hx⟩
  exact ⟨x,(lby.1 hx).1,(lby.1 hx).2⟩
 ·rintro ⟨x,hx,hq⟩
  exact ⟨x,lby.2 ⟨hx,hq⟩⟩
def hiB (e:Ev) (x:n9):Bool:=match B2 e x with|some (_,hi)=>decide (hi=0)|none=>false
def b2u (kind:Int) (i:Nat) (c:Q3):Bool:=decide (c.kind=kind) && decide (c.mv=(i:Int))
theorem b0g {t:d9} {kind:Int} {i:Nat} {x:n9} (hx:t.ev.moves[i]? =some x):C6 t kind i=(hiB t.ev x || t.cleans.any (b2u kind i)):=by
 unfold C6 hiB
 rw [hx]
 simp only
 rw [b2w];rfl
def bkT (t:d9) (kind:Int) (i:Nat):List Bool:=(List.range t.ev.moves.length).map fun j=>decide (j<i) && C6 t kind j
def alK (t:d9) (kind:Int) (i:Nat):Bool:=(List.range i).any fun j=>C6 t kind j && (match t.ev.moves[j]? with|some x=>x.all|none=>false)
theorem a4c (t:d9) (kind:Int) (i:Nat):(bkT t kind i).length=t.ev.moves.length:=by simp [bkT]
theorem aD8 {t:d9} {kind:Int} {i j:Nat} (h:j<t.ev.moves.length):(bkT t kind i)[j]? =some (decide (j<i) && C6 t kind j):=by simp [bkT,h]
theorem b74 {t:d9} {kind:Int} {i:Nat} (h:i<t.ev.moves.length):(bkT t kind i).set i (C6 t kind i)=bkT t kind (i+1):=by
 apply List.ext_getElem?
 intro j
 by_cases hj:j<t.ev.moves.length
 ·rw [aD8 hj,lbg,a4c]
  by_cases hij:i=j
  ·subst hij;simp [h]
  ·rw [if_neg hij,aD8 hj]
   have:decide (j<i+1)=decide (j<i):=by rw [decide_eq_decide];omega
   rw [this]
 ·rw [lbd (by simp [a4c];omega),lbd (by simp [a4c];omega)]
theorem b6w (t:d9) (kind:Int):bkT t kind t.ev.moves.length=m9 t kind:=lbp fun j hj=>by rw [lbH (lbB.1 hj),Bool.true_and]
theorem b5G (t:d9) (kind:Int):bkT t kind 0=List.replicate t.ev.moves.length false:=by
 unfold bkT
 exact List.eq_replicate_iff.2 ⟨by simp,fun b hb=>by obtain ⟨j,_,rfl⟩:=lbx.1 hb;simp⟩
theorem b3Y {t:d9} {kind:Int} {i:Nat} {x:n9} (hx:t.ev.moves[i]? =some x):alK t kind (i+1)=(alK t kind i || (C6 t kind i && x.all)):=by
 unfold alK
 rw [List.range_succ,List.any_append]
 simp [hx]
theorem b7k (e:Ev) (hc:e.certs.length<=1000000) (hr:e.recalls.length<=1000000) (x:n9):∃(a b:Fr) (ok:Bool) (sg:Int),
 a9 Tryz.prog 116 [.c (.t (X7 e.certs)),.c (.t (G2 e.recalls)),a7 .i64 x.scale,a7 .i64 x.reading,a7 .i64 x.day] [] (.tup [frS a,frS b,e8 ok]) []∧
 (ok=true->a9 Tryz.prog 46 [frS b] [] (a7 .i64 sg) [])∧hiB e x=(decide (x.scale≠-1) && ok && decide (sg=0)):=by
 have iv:=ag4 e.certs e.recalls hc hr x.scale x.reading x.day
 cases ho:G4 e.certs e.recalls x.scale x.reading x.day with
 |none=>
  rw [ho] at iv
  refine ⟨_,_,_,1,iv,(fun h=>(by cases h)),?_⟩
  unfold hiB B2
  rw [ho]
  split<;>simp_all
 |some q=>
  obtain ⟨lo,hi⟩:=q
  rw [ho] at iv
  refine ⟨_,_,_,sgR hi,iv,fun _=>a5p hi (by have:=a9p ho;omega),?_⟩
  unfold hiB B2
  rw [ho]
  have h0:decide (hi=0)=decide (sgR hi=0):=by
   rw [decide_eq_decide];exact a4N.symm
  by_cases hsc:x.scale=-1
  ·rw [if_pos hsc];simp [hsc]
  ·rw [if_neg hsc];simp [hsc,h0]
abbrev bk4 (x:n9):Blk:={ mode:=.live,elem:=79,size:=6,rows:=[x.row.map .t],box:=true }
theorem aX5 (t:d9) (hs:t.Sized) (kind:Int):a9 Tryz.prog 49 [trS t,a7 .i64 kind] [] (.tup [G8 (m9 t kind),e8 (a2Z t kind)]) []:=by
 have l2:=hs.ev.s2
 have l3:=hs.ev.s3
 have l4:=hs.ev.s4
 have l5:=hs.c
 have m1:(t.ev.moves.map n9.row).length=t.ev.moves.length:=by simp
 have m2:(t.cleans.map Q3.row).length=t.cleans.length:=by simp
 (refine ac Tryz.func49 ?_;(conv=>whnf);repeat ((first|refine b0x ?_|refine zy ?_);conv=>whnf))
 repeat' (first|refine zx ?_|refine a2B (by omega) (by omega) (by omega) (by decide) ?_|refine zd ?_ ?_<;>intro h<;>try omega|fail)<;>conv=>whnf
 refine d8 c8 (fun i=>([J,a7 .i64 kind,S.c (C.t (T.ptr (trT t))),J,J,J,b8j 0 (bkT t kind i),e8 (alK t kind i),a7 .i64 i]++Jn 100,[ag6 (bkT t kind i)])) t.ev.moves.length (fun _=>True) [some 0] trivial
  ⟨rfl,rfl,⟨a8 rfl rfl rfl ?_ rfl,trivial⟩,⟨rfl,rfl,f8 rfl ?_,rfl,rfl,trivial⟩⟩ ?_
 ·rw [b5G];simp [toC,y5,R3,B3]
 ·simp [a4c]
 intro i hi _
 have bl:=a4c t kind i
 by_cases hlt:i<t.ev.moves.length
 ·obtain ⟨x,hx⟩:∃x,t.ev.moves[i]? =some x:=⟨_,lbf hlt⟩
  obtain ⟨fa,fb,ok,sg,iv,hsg,hh⟩:=b7k t.ev (by omega) (by omega) x
  have gb:(bkT t kind i)[0+(i:Int).toNat]? =some false:=by
   rw [Nat.zero_add,show (i:Int).toNat=i by omega,aD8 hlt];simp
  conv=>whnf
  rcases hok:ok with _|_
  all_goals
   rw [hok] at iv hsg hh
   repeat' (first|refine zx ?_|refine qp iv ?_|refine qp (hsg rfl) ?_|refine b9 hx ?_|refine o5 gb ?_|refine zd ?_ ?_<;>intro h<;>try omega|fail)<;>conv=>whnf
  all_goals try omega
  all_goals
   refine d8 c8 (fun k=>([J,a7 .i64 kind,S.c (C.t (T.ptr (trT t))),J,J,J,b8j 0 (bkT t kind i),e8 (alK t kind i),a7 .i64 i,S.c (C.ptr 1 0 0),J,J,J,a7 .i64 k]++Jn 95,[ag6 ((bkT t kind i).set i (hiB t.ev x || (t.cleans.take k).any (b2u kind i))),bk4 x])) t.cleans.length (fun _=>True) [some 0,some 1] trivial
    ⟨rfl,rfl,⟨a8 rfl rfl rfl ?_ rfl,⟨rfl,rfl,rfl,.inl ⟨rfl,c6 [x.row]⟩⟩,trivial⟩,⟨rfl,rfl,⟨rfl,rfl,rfl,fun h=>h⟩,rfl,rfl,⟨rfl,rfl,rfl⟩,rfl,trivial⟩⟩ ?_
   ·rw [hh];simp_all [toC,R3,List.map_set,t8]
   intro k hk _
   by_cases hkl:k<t.cleans.length
   ·obtain ⟨c,hc⟩:∃c,t.cleans[k]? =some c:=⟨_,lbf hkl⟩
    obtain ⟨b,hbv⟩:∃b,b=(hiB t.ev x || (t.cleans.take k).any (b2u kind i)):=⟨_,rfl⟩
    have e1:(hiB t.ev x || (t.cleans.take (k+1)).any (b2u kind i))=(b || b2u kind i c):=by rw [a0O hc,←Bool.or_assoc,←hbv]
    rw [e1,←hbv]
    have gk:((bkT t kind i).set i b)[0+(i:Int).toNat]? =some b:=by rw [Nat.zero_add,lbY,List.getElem?_set_self (by omega)]
    clear hh hsg iv hbv e1
    conv=>whnf
    repeat' (first|refine zx ?_|refine o5 gk ?_|refine b9 hc ?_|refine zd ?_ ?_<;>intro h<;>try omega|fail)<;>conv=>whnf
    all_goals first
     |omega
     |(refine ⟨hkl,trivial,[some 0,some 1],rfl,rfl,⟨a8 rfl rfl rfl ?_ rfl,⟨rfl,rfl,rfl,.inl ⟨rfl,c6 [x.row]⟩⟩,trivial⟩,⟨rfl,rfl,⟨rfl,rfl,rfl,fun h=>h⟩,rfl,rfl,⟨rfl,rfl,rfl⟩,b8 (by omega),trivial⟩⟩
       simp_all [toC,R3,List.map_set,t8,b2u])
   ·have hke:k=t.cleans.length:=by omega
    subst hke
    rw [lbn (lbR _),←b0g hx]
    have e3:=b3Y (kind:=kind) hx
    have e4:=b74 (kind:=kind) hlt
    have gk:((bkT t kind i).set i (C6 t kind i))[0+(i:Int).toNat]? =some (C6 t kind i):=by rw [Nat.zero_add,lbY,List.getElem?_set_self (by omega)]
    have l9:(bkT t kind (i+1)).length=(bkT t kind i).length:=by rw [a4c,a4c]
    generalize C6 t kind i=B at gk e3 e4 ⊢
    clear hh hsg iv
    generalize alK t kind i=A at e3 ⊢
    cases A<;>
    ·conv=>whnf
     repeat' (first|refine zx ?_|refine o5 gk ?_|refine zd ?_ ?_<;>intro h<;>try omega|fail)<;>conv=>whnf
     all_goals first
      |omega
      |(refine ⟨hlt,trivial,[some 0],rfl,rfl,⟨a8 rfl rfl rfl ?_ rfl,trivial⟩,⟨rfl,rfl,f8 rfl l9.symm,g6 ?_,b8 (by omega),trivial⟩⟩
        ·rw [← e4]
        ·rw [e3];simp_all)
 ·have hie:i=t.ev.moves.length:=by omega
  subst hie
  rw [← b6w,show a2Z t kind=alK t kind t.ev.moves.length from rfl]
  conv=>whnf
  repeat' (first|refine zx ?_|refine zd ?_ ?_<;>intro h<;>try omega|fail)<;>conv=>whnf
  all_goals first
   |omega
   |exact k9 ⟨(show VC _ (fun id=>E4 [] id=true) _ _ from u4 (k:=ag6 (bkT t kind t.ev.moves.length)) rfl rfl (fun h=>h) rfl rfl (by simp)),rfl,trivial⟩
theorem a0v {a b:List Int}:a0R a b=true↔∀x ∈ a,x ∈ b:=by
 unfold a0R
 rw [lbv]
 constructor
 ·intro h x hx
  obtain ⟨y,hy,e⟩:=lbw.1 (h x hx)
  rw [← lbL e];exact hy
 ·intro h x hx
  exact lbw.2 ⟨x,h x hx,lbH rfl⟩
def a1v (all:Bool) (O:List Int) (x:Int):Bool:=!(all && !(O.any fun y=>decide (y=x)))
def lKs (e:Ev) (bl:List Bool) (q:Int->Bool) (L:List Int) (k:Nat):List Int:=((L.take k).filter q).flatMap fun x=>x::(Q0 e x bl).1
def pKs (e:Ev) (bl:List Bool) (q:Int->Bool) (L:List Int) (k:Nat):List Int:=((L.take k).filter q).flatMap fun x=>(Q0 e x bl).2
theorem ab8 {e:Ev} {bl:List Bool} {q:Int->Bool} {L:List Int} {k:Nat} {x:Int} (hx:L[k]? =some x):lKs e bl q L (k+1)=if q x=true then lKs e bl q L k++x::(Q0 e x bl).1 else lKs e bl q L k:=by
 unfold lKs
 rw [a4b hx,lb8,List.flatMap_append]
 cases h:q x<;>simp [h]
theorem aj5 {e:Ev} {bl:List Bool} {q:Int->Bool} {L:List Int} {k:Nat} {x:Int} (hx:L[k]? =some x):pKs e bl q L (k+1)=if q x=true then pKs e bl q L k++(Q0 e x bl).2 else pKs e bl q L k:=by
 unfold pKs
 rw [a4b hx,lb8,List.flatMap_append]
 cases h:q x<;>simp [h]
theorem a2A {e:Ev} {x:Int} {bl:List Bool}:(Q0 e x bl).1.length<=e.moves.length∧(Q0 e x bl).2.length<=e.places.length:=by
 unfold Q0
 split
 ·split
  ·rename_i y hy
   refine ⟨P7 _ _ _,?_⟩
   have:=P7 (fun _ b=>b) (L2 e bl x.toNat y.dst.toNat (e.moves.length - (x.toNat+1))) 0
   rw [V7] at this
   exact this
  ·simp
 ·simp
theorem aG9 {e:Ev} {bl:List Bool} {q:Int->Bool} {L:List Int}:∀k,k<=L.length->(lKs e bl q L k).length<=k*(e.moves.length+1)
 |0,_=>by simp [lKs]
 |k+1,hk=>by
  have ih:=aG9 (e:=e) (bl:=bl) (q:=q) (L:=L) k (by omega)
  obtain ⟨x,hx⟩:∃x,L[k]? =some x:=⟨_,lbf (by omega)⟩
  have h1:=(a2A (e:=e) (x:=x) (bl:=bl)).1
  rw [ab8 hx,lbV]
  split
  ·rw [lbq,lbu];omega
  ·omega
theorem aG5 {e:Ev} {bl:List Bool} {q:Int->Bool} {L:List Int}:∀k,k<=L.length->(pKs e bl q L k).length<=k*e.places.length
 |0,_=>by simp [pKs]
 |k+1,hk=>by
  have ih:=aG5 (e:=e) (bl:=bl) (q:=q) (L:=L) k (by omega)
  obtain ⟨x,hx⟩:∃x,L[k]? =some x:=⟨_,lbf (by omega)⟩
  have h1:=(a2A (e:=e) (x:=x) (bl:=bl)).2
  rw [aj5 hx,lbV]
  split
  ·rw [lbq];omega
  ·omega
theorem b1Q {e:Ev} {bl:List Bool} {q:Int->Bool} {L:List Int} {g:Int}:g ∈ lKs e bl q L L.length↔∃x ∈ L,q x=true∧(g=x∨g ∈ (Q0 e x bl).1):=by
 unfold lKs
 rw [lbn (lbR _),List.mem_flatMap]
 constructor
 ·rintro ⟨x,hx,hg⟩
  obtain ⟨h1,h2⟩:=lby.1 hx
  exact ⟨x,h1,h2,lbA.1 hg⟩
 ·rintro ⟨x,h1,h2,hg⟩
  exact ⟨x,lby.2 ⟨h1,h2⟩,lbA.2 hg⟩
theorem b22 {e:Ev} {bl:List Bool} {q:Int->Bool} {L:List Int} {g:Int}:g ∈ pKs e bl q L L.length↔∃x ∈ L,q x=true∧g ∈ (Q0 e x bl).2:=by
 unfold pKs
 rw [lbn (lbR _),List.mem_flatMap]
 constructor
 ·rintro ⟨x,hx,hg⟩
  obtain ⟨h1,h2⟩:=lby.1 hx
  exact ⟨x,h1,h2,hg⟩
 ·rintro ⟨x,h1,h2,hg⟩
  exact ⟨x,lby.2 ⟨h1,h2⟩,hg⟩
theorem ag5 {all:Bool} {O:List Int} {x:Int} (h:x ∈ O):a1v all O x=true:=by
 unfold a1v
 have:(O.any fun y=>decide (y=x))=true:=lbw.2 ⟨x,h,lbH rfl⟩
 rw [this];cases all<;>rfl
theorem aT9 {t:d9} {find:Int} {f:L0} (h:ae5 t find f):∃(O M P L l p:List Int) (all:Bool) (bl:List Bool),
 O=J3 (J1 t f.kind f.mv.toNat)∧M=J3 (L8 t f.kind f.mv.toNat)∧P=J3 (I7 t f.kind f.mv.toNat)∧all=a2Z t f.kind∧bl=m9 t f.kind∧L=a0y t.ev bl f.mv∧
 l=lKs t.ev bl (a1v all O) L L.length∧p=pKs t.ev bl (a1v all O) L L.length∧a0R O L=true∧a0R M l=true∧a0R P p=true∧(all=false->a0R L O=true∧a0R l M=true∧a0R p P=true):=by
 have hO:∀x ∈ J3 (J1 t f.kind f.mv.toNat),∃i:Nat,x=i∧i ∈ J1 t f.kind f.mv.toNat:=fun x hx=>by
  obtain ⟨n,hn,rfl⟩:=lbx.1 hx;exact ⟨n,rfl,hn⟩
 have mem:∀{l:List Nat} {i:Nat},i ∈ l->(i:Int) ∈ J3 l:=fun {l i} hi=>lbx.2 ⟨i,hi,rfl⟩
 refine ⟨_,_,_,_,_,_,_,_,rfl,rfl,rfl,rfl,rfl,rfl,rfl,rfl,a0v.2 fun x hx=>?_,a0v.2 fun x hx=>?_,a0v.2 fun x hx=>?_,fun hall=>?_⟩
 ·obtain ⟨i,rfl,hi⟩:=hO x hx
  exact a4B h hi
 ·obtain ⟨g,hg,rfl⟩:=lbx.1 hx
  obtain ⟨i,hi,hgi⟩:=ao9 h hg
  refine b1Q.2 ⟨i,a4B h hi,ag5 (mem hi),?_⟩
  rcases hgi with rfl|hgi
  ·exact .inl rfl
  ·exact .inr hgi
 ·obtain ⟨g,hg,rfl⟩:=lbx.1 hx
  obtain ⟨i,hi,hgi⟩:=an4 h hg
  exact b22.2 ⟨i,a4B h hi,ag5 (mem hi),hgi⟩
 ·have key:∀x ∈ a0y t.ev (m9 t f.kind) f.mv,∃(i:Nat) (m:n9),x=i∧t.ev.moves[i]? =some m:=fun x hx=>by
   unfold a0y at hx
   split at hx
   ·obtain ⟨i,m,h1,_,h2⟩:=y0.1 hx
    exact ⟨i,m,by rw [h2,Nat.zero_add],h1⟩
   ·cases hx
  refine ⟨a0v.2 fun x hx=>?_,a0v.2 fun x hx=>?_,a0v.2 fun x hx=>?_⟩
  ·obtain ⟨i,m,rfl,hm⟩:=key x hx
   exact mem (a53 h hall hm hx).1
  ·obtain ⟨y,hy,_,hg⟩:=b1Q.1 hx
   obtain ⟨i,m,rfl,hm⟩:=key y hy
   have q:=(a53 h hall hm hy).2.1
   rcases hg with rfl|hg
   ·exact mem (q i (.inl rfl))
   ·have:∃g:Nat,x=g:=by
     unfold Q0 at hg
     split at hg
     ·split at hg
      ·obtain ⟨j,_,_,_,h2⟩:=y0.1 hg
       exact ⟨_,h2⟩
      ·cases hg
     ·cases hg
    obtain ⟨g,rfl⟩:=this
    exact mem (q g (.inr hg))
  ·obtain ⟨y,hy,_,hg⟩:=b22.1 hx
   obtain ⟨i,m,rfl,hm⟩:=key y hy
   have q:=(a53 h hall hm hy).2.2
   have:∃g:Nat,x=g:=by
    unfold Q0 at hg
    split at hg
    ·split at hg
     ·obtain ⟨j,_,_,_,h2⟩:=y0.1 hg
      exact ⟨_,h2⟩
     ·cases hg
    ·cases hg
   obtain ⟨g,rfl⟩:=this
   exact mem (q g hg)
theorem a7b (t:d9) (find:Int):a9 Tryz.prog 12 [trS t,a7 .i64 find] [] (e8 true) []:=by
 have sa:=b5J
 have sm:=b5P t 7
 have m3:(t.finds.map L0.row).length=t.finds.length:=by simp
 cases hsm:a3E t 7 with
 |false=>
  rw [hsm] at sm
  (refine ac Tryz.func12 ?_;(conv=>whnf);repeat ((first|refine b0x ?_|refine zy ?_);conv=>whnf))
  repeat' (first|refine zx ?_|refine qp sa ?_|refine qp sm ?_|refine zd ?_ ?_<;>intro h<;>try omega|fail)<;>conv=>whnf
  all_goals first
   |omega
   |exact c7 rfl
 |true=>
 rw [hsm] at sm
 obtain ⟨s1,s2,s3⟩:=a6a (by decide) hsm
 have ck:=ae1 t s1
 cases hf:a1l t find with
 |false=>
  have hn:¬(v3 t=0∧0<=find∧find<t.finds.length):=fun ⟨a,b,c⟩=>by
   unfold a1l at hf;rw [lbH a,lbH b,lbH c] at hf;cases hf
  (refine ac Tryz.func12 ?_;(conv=>whnf);repeat ((first|refine b0x ?_|refine zy ?_);conv=>whnf))
  repeat' (first|refine zx ?_|refine qp sa ?_|refine qp sm ?_|refine qp ck ?_|refine zd ?_ ?_<;>intro h<;>try omega|fail)<;>conv=>whnf
  all_goals first
   |omega
   |exact c7 rfl
 |true=>
 obtain ⟨f,hF⟩:=b88 (by decide) hsm hf
 rw [hF.q.h] at ck
 have fl:=(lbe.1 hF.hf).1
 have f0:=hF.f0
 have hp:=hF.q.p
 have hm:=hF.q.m
 have h0:=(o4 hF.q.h).1
 have hf2:=hF.hf
 have og:=a5Y t s1 hF.q find f hF.f0 hF.hf
 have lo:=ak6 t s1 hF.q find f hF.f0 hF.hf
 have bk:=aX5 t s1 f.kind
 have li:=b2L t.ev s1.ev h0 f.mv (m9 t f.kind)
 obtain ⟨O,M,P,L,l,p,all,bl,hO,hM,hP,hall,hbl,hL,hl,hpp,i1,i2,i3,i4⟩:=aT9 hF
 rw [← hO] at og
 rw [← hM,←hP] at lo
 rw [← hbl,←hall] at bk
 rw [← hbl,←hL] at li
 have lM:M.length<=28:=by rw [hM,a1I];have:=a6R t f.kind f.mv.toNat (t.ev.moves.length+t.ev.places.length);show (O4 _ _ _ _).length<=_;omega
 have lP:P.length<=28:=by rw [hP,a1I];have:=a94 t f.kind f.mv.toNat (t.ev.moves.length+t.ev.places.length);show (F0 _ _ _ _).length<=_;omega
 have lO:O.length<=8:=by
  rw [hO,a1I]
  have a:(J1 t f.kind f.mv.toNat).length<=(i9 t.ev).length:=lbt _ _
  have b:(i9 t.ev).length<=t.ev.moves.length:=A7 _
  omega
 have lL:L.length<=8:=by
  rw [hL];unfold a0y
  split
  ·have:=P7 (a7I t.ev fun i=>M3 t.ev bl i f.mv) t.ev.moves 0;omega
  ·simp
 have ll:l.length<=8*9:=by rw [hl];exact lbS (aG9 _ (lbR _)) (lbT lL (by omega))
 have lp:p.length<=8*20:=by rw [hpp];exact lbS (aG5 _ (lbR _)) (lbT lL hp)
 have j1:=a0x O L (by omega) (by omega)
 have j2:=a0x M l (by omega) (by omega)
 have j3:=a0x P p (by omega) (by omega)
 have j4:=a0x L O (by omega) (by omega)
 have j5:=a0x l M (by omega) (by omega)
 have j6:=a0x p P (by omega) (by omega)
 rw [i1] at j1
 rw [i2] at j2
 rw [i3] at j3
 have m5:∀l:List Int,(l.map c9).length=l.length:=fun l=>by simp
 have m6:=m5 L
 clear hall hbl hL hO hM hP
 have lkl:∀k,k<=L.length->(lKs t.ev bl (a1v all O) L k).length<=8*9:=fun k hk=>lbS (aG9 k hk) (lbT (by omega) (by omega))
 have pkl:∀k,k<=L.length->(pKs t.ev bl (a1v all O) L k).length<=8*20:=fun k hk=>lbS (aG5 k hk) (lbT (by omega) (by omega))
 cases all with
 |false=>
  obtain ⟨i5,i6,i7⟩:=i4 rfl
  rw [i5] at j4
  rw [i6] at j5
  rw [i7] at j6
  (refine ac Tryz.func12 ?_;(conv=>whnf);repeat ((first|refine b0x ?_|refine zy ?_);conv=>whnf))
  repeat' (first|refine zx ?_|refine qp sa ?_|refine qp sm ?_|refine qp ck ?_|refine qp og ?_|refine qp lo ?_|refine qp bk ?_|refine qp li ?_|refine v6 f0 hf2 ?_|refine zd ?_ ?_<;>intro h<;>try omega|fail)<;>conv=>whnf
  all_goals try omega
  refine ag3 ?_
  refine d8 c8 (fun k=>([J,J,S.c (C.t (T.ptr (trT t))),J,J,e8 true,G8 bl,e8 false,d6 O,J,d6 M,d6 P,J,d6 L,M4 0 (lKs t.ev bl (a1v false O) L k),M4 1 (pKs t.ev bl (a1v false O) L k),a7 .i64 k]++Jn 137,[k8 (lKs t.ev bl (a1v false O) L k),k8 (pKs t.ev bl (a1v false O) L k)])) L.length (fun _=>True) [none,none] trivial
   ⟨rfl,rfl,⟨⟨rfl,rfl⟩,⟨rfl,rfl⟩,trivial⟩,⟨rfl,rfl,rfl,rfl,rfl,rfl,rfl,rfl,⟨rfl,rfl,rfl⟩,⟨rfl,rfl,rfl⟩,rfl,trivial⟩⟩ ?_
  intro k hk _
  have q1:=lkl k hk
  have q2:=pkl k hk
  by_cases hlt:k<L.length
  ·obtain ⟨x,hx⟩:∃x,L[k]? =some x:=⟨_,lbf hlt⟩
   have ld:=af4 t.ev s1.ev h0 x bl
   have lens:=a2A (e:=t.ev) (x:=x) (bl:=bl)
   rw [ab8 hx,aj5 hx,if_pos (show a1v false O x=true from rfl),if_pos (show a1v false O x=true from rfl)]
   generalize lKs t.ev bl (a1v false O) L k=X at *
   generalize pKs t.ev bl (a1v false O) L k=Y at *
   obtain ⟨a,ha⟩:∃a,a=(Q0 t.ev x bl).1:=⟨_,rfl⟩
   obtain ⟨b,hb⟩:∃b,b=(Q0 t.ev x bl).2:=⟨_,rfl⟩
   have ld:a9 Tryz.prog 51 [evS t.ev,a7 .i64 x,G8 bl] [] (.tup [d6 a,d6 b]) []:=by rw [ha,hb];exact ld
   rw [← ha,←hb]
   rw [← ha,←hb] at lens
   have lA:X.length<=(k8 X).rows.length:=by show _<=(toC _).length;simp [toC]
   have lB:Y.length<=(k8 Y).rows.length:=by show _<=(toC _).length;simp [toC]
   clear ha hb
   conv=>whnf
   repeat' (first|refine zx ?_|refine qp ld ?_|refine qp toC ?_|refine qp toC ?_|refine qp (toC,y5) ?_|refine qp toC ?_|refine b9 hx ?_|refine o8 lA (by simp [toC];omega) ?_|refine o8 lB (by simp [toC];omega) ?_|refine o8 (by simp [toC,y5]) (by simp [toC];omega) ?_|refine zd ?_ ?_<;>intro h<;>try omega|fail)<;>conv=>whnf
   all_goals first
    |omega
    |(refine ⟨hlt,trivial,[some 3,some 4],rfl,rfl,⟨a8 (rows:=(X++x::a).map c9) rfl rfl rfl ?_ rfl,a8 (rows:=(Y++b).map c9) rfl rfl rfl ?_ rfl,trivial⟩,⟨rfl,rfl,rfl,rfl,rfl,rfl,rfl,rfl,f8 rfl ?_,f8 rfl ?_,b8 (by omega),trivial⟩⟩
      ·simp [toC,y5,c9,lbn]
      ·simp [toC,y5,lbn]
      ·simp [toC];omega
      ·simp [toC])
  ·have hke:k=L.length:=by omega
   subst hke
   rw [← hl,←hpp]
   conv=>whnf
   repeat' (first|refine zx ?_|refine zd ?_ ?_<;>intro h<;>try omega|fail)<;>conv=>whnf
   all_goals try omega
   refine .inr ⟨[],[J,J,S.c (C.t (T.ptr (trT t))),J,J,e8 true,J,e8 false,d6 O,J,d6 M,d6 P,J,d6 L,d6 l,d6 p]++Jn 138,[],⟨rfl,rfl,trivial,⟨rfl,rfl,rfl,rfl,rfl,rfl,rfl,a2a rfl rfl (by intro h;cases h) rfl rfl (by simp),a2a rfl rfl (by intro h;cases h) rfl rfl (by simp),trivial⟩⟩,?_⟩
   conv=>whnf
   repeat' (first|refine zx ?_|refine qp j1 ?_|refine qp j2 ?_|refine qp j3 ?_|refine qp j4 ?_|refine qp j5 ?_|refine qp j6 ?_|refine zd ?_ ?_<;>intro h<;>try omega|fail)<;>conv=>whnf
   all_goals first
    |omega
    |exact c7 rfl
 |true=>
  (refine ac Tryz.func12 ?_;(conv=>whnf);repeat ((first|refine b0x ?_|refine zy ?_);conv=>whnf))
  repeat' (first|refine zx ?_|refine qp sa ?_|refine qp sm ?_|refine qp ck ?_|refine qp og ?_|refine qp lo ?_|refine qp bk ?_|refine qp li ?_|refine v6 f0 hf2 ?_|refine zd ?_ ?_<;>intro h<;>try omega|fail)<;>conv=>whnf
  all_goals try omega
  refine ag3 ?_
  refine d8 c8 (fun k=>([J,J,S.c (C.t (T.ptr (trT t))),J,J,e8 true,G8 bl,e8 true,d6 O,J,d6 M,d6 P,J,d6 L,M4 0 (lKs t.ev bl (a1v true O) L k),M4 1 (pKs t.ev bl (a1v true O) L k),a7 .i64 k]++Jn 137,[k8 (lKs t.ev bl (a1v true O) L k),k8 (pKs t.ev bl (a1v true O) L k)])) L.length (fun _=>True) [none,none] trivial
   ⟨rfl,rfl,⟨⟨rfl,rfl⟩,⟨rfl,rfl⟩,trivial⟩,⟨rfl,rfl,rfl,rfl,rfl,rfl,rfl,rfl,⟨rfl,rfl,rfl⟩,⟨rfl,rfl,rfl⟩,rfl,trivial⟩⟩ ?_
  intro k hk _
  have q1:=lkl k hk
  have q2:=pkl k hk
  by_cases hlt:k<L.length
  ·obtain ⟨x,hx⟩:∃x,L[k]? =some x:=⟨_,lbf hlt⟩
   have hs:=b5l O x (by omega)
   have es:a1v true O x=O.any fun y=>decide (y=x):=by unfold a1v;simp
   rw [ab8 hx,aj5 hx,es]
   cases hq:(O.any fun y=>decide (y=x)) with
   |false=>
    rw [hq] at hs
    rw [if_neg (by decide),if_neg (by decide)]
    generalize lKs t.ev bl (a1v true O) L k=X at *
    generalize pKs t.ev bl (a1v true O) L k=Y at *
    conv=>whnf
    repeat' (first|refine zx ?_|refine qp hs ?_|refine b9 hx ?_|refine zd ?_ ?_<;>intro h<;>try omega|fail)<;>conv=>whnf
    all_goals first
     |omega
     |exact ⟨hlt,trivial,[some 0,some 1],rfl,rfl,⟨d7 (c6 _),d7 (c6 _),trivial⟩,⟨rfl,rfl,rfl,rfl,rfl,rfl,rfl,rfl,⟨rfl,rfl,rfl,fun h=>h⟩,⟨rfl,rfl,rfl,fun h=>h⟩,b8 (by omega),trivial⟩⟩
   |true=>
    rw [hq] at hs
    rw [if_pos rfl,if_pos rfl]
    have ld:=af4 t.ev s1.ev h0 x bl
    have lens:=a2A (e:=t.ev) (x:=x) (bl:=bl)
    generalize lKs t.ev bl (a1v true O) L k=X at *
    generalize pKs t.ev bl (a1v true O) L k=Y at *
    obtain ⟨a,ha⟩:∃a,a=(Q0 t.ev x bl).1:=⟨_,rfl⟩
    obtain ⟨b,hb⟩:∃b,b=(Q0 t.ev x bl).2:=⟨_,rfl⟩
    have ld:a9 Tryz.prog 51 [evS t.ev,a7 .i64 x,G8 bl] [] (.tup [d6 a,d6 b]) []:=by rw [ha,hb];exact ld
    rw [← ha,←hb]
    rw [← ha,←hb] at lens
    have lA:X.length<=(k8 X).rows.length:=by show _<=(toC _).length;simp [toC]
    have lB:Y.length<=(k8 Y).rows.length:=by show _<=(toC _).length;simp [toC]
    clear ha hb
    conv=>whnf
    repeat' (first|refine zx ?_|refine qp hs ?_|refine qp ld ?_|refine qp toC ?_|refine qp toC ?_|refine qp (toC,y5) ?_|refine qp toC ?_|refine b9 hx ?_|refine o8 lA (by simp [toC];omega) ?_|refine o8 lB (by simp [toC];omega) ?_|refine o8 (by simp [toC,y5]) (by simp [toC];omega) ?_|refine zd ?_ ?_<;>intro h<;>try omega|fail)<;>conv=>whnf
    all_goals first
     |omega
     |(refine ⟨hlt,trivial,[some 3,some 4],rfl,rfl,⟨a8 (rows:=(X++x::a).map c9) rfl rfl rfl ?_ rfl,a8 (rows:=(Y++b).map c9) rfl rfl rfl ?_ rfl,trivial⟩,⟨rfl,rfl,rfl,rfl,rfl,rfl,rfl,rfl,f8 rfl ?_,f8 rfl ?_,b8 (by omega),trivial⟩⟩
       ·simp [toC,y5,c9,lbn]
       ·simp [toC,y5,lbn]
       ·simp [toC];omega
       ·simp [toC])
  ·have hke:k=L.length:=by omega
   subst hke
   rw [← hl,←hpp]
   conv=>whnf
   repeat' (first|refine zx ?_|refine zd ?_ ?_<;>intro h<;>try omega|fail)<;>conv=>whnf
   all_goals try omega
   refine .inr ⟨[],[J,J,S.c (C.t (T.ptr (trT t))),J,J,e8 true,J,e8 true,d6 O,J,d6 M,d6 P,J,d6 L,d6 l,d6 p]++Jn 138,[],⟨rfl,rfl,trivial,⟨rfl,rfl,rfl,rfl,rfl,rfl,rfl,a2a rfl rfl (by intro h;cases h) rfl rfl (by simp),a2a rfl rfl (by intro h;cases h) rfl rfl (by simp),trivial⟩⟩,?_⟩
   conv=>whnf
   repeat' (first|refine zx ?_|refine qp j1 ?_|refine qp j2 ?_|refine qp j3 ?_|refine zd ?_ ?_<;>intro h<;>try omega|fail)<;>conv=>whnf
   all_goals first
    |omega
    |exact c7 rfl
section
open Go.RowKit Go.ChangeShapes Go.WideShapes Go.Deep
section
variable {H:Type} {enc:TypeId × Value->H} {P:Program}
theorem an6 (hl:laidOutB P=true) {W W':World} {sp:Nat->Bool}:∀{ts:List TypeId} {vs:List Value} {ds:List (DataW H)} {ps:List MemPlace},(∀ t ∈ ts,P.readableRec t=true∧t<P.types.size)->
 DataW.TrodAll enc P W 0 (fun _=>true) true ts vs ds ps->(∀ p ∈ ps,W.sameAt W' p)->(∀ p ∈ ps,sp p.block=true)->DataW.TrodAll enc P W' 0 sp true ts vs ds ps:=by
 intro ts
 induction ts with
 |nil=>
  intro vs ds ps _ h _ _
  obtain ⟨rfl,rfl,rfl⟩:=trodAll_nil h
  exact trodAll_mk0
 |cons t ts ih=>
  intro vs ds ps hr h hsame hs
  obtain ⟨v,vs',d,ds',p,q,rfl,rfl,rfl,h1,h2⟩:=trodAll_cons h
  obtain ⟨ht,hlt⟩:=hr t (by simp)
  exact trodAll_cons_mk (WideElems.Trod_stays hl ht hlt h1 (fun x hx=>hsame x (by simp [hx])) (fun x hx=>hs x (by simp [hx]))) (ih (fun t ht=>hr t (by simp [ht])) h2 (fun x hx=>hsame x (by simp [hx])) (fun x hx=>hs x (by simp [hx])))
theorem b6l {f:Func} {s:ChangeSpec} {fresh handsOn:Bool} {W W':World} {args:Array Value} {ds gs:List (DataW H)} {before:List MemPlace} {tb:TypeId}
 (hW:DataW.Whole enc P f.params.toList s.vars false W args.toList ds gs before) (hl:laidOutB P=true) (hr:∀t ∈ f.params.toList,P.readableRec t=true∧t<P.types.size) (hv:s.vars=[])
 (hfn:s.fn H (ds++gs)={ results:=[.lit (.bool true)],args:=ds }) (hres:f.resultTypes=#[tb]) (hbool:P.underlying tb=some .bool) (hb:Below W.heap.size W W'):
 s.post enc P f false fresh handsOn false W args (.bool true) W':=by
 have hW':=hW
 obtain ⟨p,q,hA,hV,rfl,hfz,hnd⟩:=hW
 rw [hv] at hV
 obtain ⟨rfl,rfl⟩:=trodVars_none hV
 have hlt:∀x ∈ p,x.block<W.heap.size:=fun x hx=>by have:=hW'.lt x (by simpa using hx);simpa using this
 refine ⟨ds,[],p++[],[],p,[],hW',?_,?_,?_,hb.frame _,fun h=>by cases h⟩
 ·rw [hfn,hres]
  exact trodAll_mk1 (shut_bool hbool true)
 ·rw [hfn]
  exact an6 hl hr hA (fun x hx=>hb.same (hlt x hx)) (fun x hx=>by simpa using hlt x hx)
 ·rw [hv,hfn]
  exact rfl
variable {w:World} {base:Nat} {spare:Nat->Bool} {held:Bool}
end
end
section
open Go.RowKit Go.ChangeShapes Go.WideShapes Go.Deep
section
variable {H:Type} {enc:TypeId × Value->H} {w:World} {base:Nat} {spare:Nat->Bool} {held:Bool}
end
theorem b7K:ownKnob Tryz.prog.godebug=none:=by kernel_rfl
theorem b5r:laidOutB Tryz.prog=true:=by kernel_rfl
end
theorem b9O {w:World} {n:Int}:RS w (fun _=>none) (fun _=>False) (a7 .i64 n) (.int .i64 n):=RS.int
inductive ax0 (w:World):List S->List Value->Prop
 |nil:ax0 w [] []
 |cons {s:S} {v:Value} {ss:List S} {vs:List Value} (h:RS w (fun _=>none) (fun _=>False) s v) (hs:ax0 w ss vs):ax0 w (s::ss) (v::vs)
theorem ax0.get {w:World} {ss:List S} {vs:List Value} (h:ax0 w ss vs):vs.length=ss.length∧∀(j:Nat) (s:S),ss[j]? =some s->RS w (fun _=>none) (fun _=>False) s (vs.getD j undef):=by
 induction h with
 |nil=>exact ⟨rfl,by simp⟩
 |cons h hs ih=>
  refine ⟨by simp [ih.1],fun j s hj=>?_⟩
  cases j with
  |zero=>simp at hj;subst hj;exact h
  |succ j=>simpa using ih.2 j s (by simpa using hj)
theorem aA5 {P:Program} {g:FuncId} {ss:List S} {b:Bool} (h:a9 P g ss [] (e8 b) []) {w:World} {vs:List Value} (ha:ax0 w ss vs):
 Calls P g vs.toArray w fun e w'=>e=.returned (.bool b)∧Below w.heap.size w w':=by
 obtain ⟨h1,h2⟩:=ha.get
 refine Calls.mono (h.2 w (fun _=>none) (fun _=>False) vs h1 h2 ⟨by simp,by simp,by simp,by simp,by simp⟩ (fun _ h=>h.elim) (fun _ _=>rfl)) ?_
 rintro e w' ⟨v,rfl,ι',M',q1,q2,q3,q4,q5⟩
 rw [q1.inv_atm]
 exact ⟨rfl,q5.os,q5.tape,q5.output,q5.size,fun k hk=>q5.keep k hk (by rintro ⟨id,k,_,_,hk,_⟩;simp at hk)⟩
open Go.RowKit Go.ChangeShapes Go.WideShapes Go.ChangeAt
theorem b31 {P:Program} {f:FuncId} {fn:Func} {s:ChangeSpec} {c:OpenClaim}
 (h1:c.wf (OpenSpec.ofChange s)=true) (h2:laidOutB P=true) (h3:mapsRowed P=true) (h4:fn.params.all (P.readableRec ·)=true) (h5:namedTie P c.named s.vars=true)
 (h6:(c.stops == [])=true) (h7:(P.stops == [])=true) (h8:(c.knobs == [])=true) (h9:(P.stopKnobs == [])=true)
 (h10:(c.inPlace == P.inPlace f)=true) (h11:(c.unfollowed == P.unfollowed f)=true) (h12:(c.recurses == P.recurses f)=true) (h13:(c.named == P.varsNamed f)=true)
 (h14:(c.maps == (fn.params.toList++s.plain.varTypes P).any (P.mapsRec ·))=true) (h15:(c.ifaces == (fn.params.toList++s.plain.varTypes P).any (P.ifacesRec ·))=true) (h16:(c.mapsOut == P.mapsAmong fn.resultTypes.toList)=true)
 (h17:(c.loops == (fn.params.toList++s.plain.varTypes P).any (P.loopsFrom ·))=true) (h18:(c.wideKeys == (fn.params.toList++s.plain.varTypes P++fn.resultTypes.toList).any (P.wideKeysFrom ·))=true)
 (h19:s.vars.all (P.varReadable ·)=true) (h20:fn.resultTypes.all (fun t=>P.readableRec t && decide (t<P.types.size))=true) (h21:(c.ifacesOut == fn.resultTypes.toList.any (P.ifacesRec ·))=true) (h22:(c.loopsOut == fn.resultTypes.toList.any (P.loopsFrom ·))=true)
 (h23:(c.plainKeys == P.plainKeys)=true) (h24:c.shortTexts.isNone=true) (h25:P.stopsHeard=true) (h26:P.mayEnter=true) (h27:(c.lifted == P.liftsFinal)=true) (h28:(P.make == some c.make)=true)
 (h29:c.domain.isEmpty=true) (h29b:(c.kinds == [])=true) (h30:(c.pinned == c.pinnedBy)=true)
 (h31:(c.veiled == (fn.params.toList++s.plain.varTypes P++fn.resultTypes.toList).any (P.veiledRec ·))=true) (h32:c.veiledFits P fn.params.toList (fn.params.toList++s.plain.varTypes P++fn.resultTypes.toList)=true):
 joinedFacts P f fn s c=true:=by
 unfold joinedFacts
 rw [h1,h2,h3,h4,h5,h6,h7,h8,h9,h10,h11,h12,h13,h14,h15,h16,h17,h18,h19,h20,h21,h22,h23,h24,h25,h26,h27,h28,if_pos h29,h29b,h30,h31,h32]
 rfl
theorem b7X:laidOutB Tryz.pinned.checked.prog=true:=by kernel_rfl
theorem b7d:mapsRowed Tryz.pinned.checked.prog=true:=by kernel_rfl
theorem b6H:Tryz.pinned.checked.prog.plainKeys=true:=by kernel_rfl
theorem b4o:Tryz.pinned.checked.prog.stopsHeard=true:=by kernel_rfl
theorem b6g:Tryz.pinned.checked.prog.mayEnter=true:=by kernel_rfl
theorem b8k:(Rows.sourceTrueRow.lifted == Tryz.pinned.checked.prog.liftsFinal)=true:=by kernel_rfl
theorem b7e:(Tryz.pinned.checked.prog.make == some Rows.sourceTrueRow.make)=true:=by kernel_rfl
section
open Go.RowKit Go.ChangeShapes Go.WideShapes Go.Deep
inductive Sh where
 |int (k:IntKind)
 |bool
 |sl (row:List Sh)
inductive Fit:Sh->T->Prop
 |int {k:IntKind} {n:Int} (h:(Lit.int k n).wf=true):Fit (.int k) (.atm (.int k n))
 |bool {b:Bool}:Fit .bool (.atm (.bool b))
 |sl {row:List Sh} {rows:List (List T)} (hl:∀r ∈ rows,r.length=row.length) (h:∀r ∈ rows,∀(j:Nat) (s:Sh) (t:T),row[j]? =some s->r[j]? =some t->Fit s t):Fit (.sl row) (.sl row.length .any rows)
inductive G1 (P:Program):TypeId->List Sh->Prop
 |int {t:TypeId} {k:IntKind} (h:P.underlying t=some (.int k)):G1 P t [.int k]
 |bool {t:TypeId} (h:P.underlying t=some .bool):G1 P t [.bool]
 |sl {t e:TypeId} {row:List Sh} (h:P.underlying t=some (.slice e)) (hc:P.cellsOf e=row.length) (hp:0<row.length) (he:G1 P e row):G1 P t [.sl row]
 |struct {t:TypeId} {fs:Array Field} (parts:List (List Sh)) (h:P.underlying t=some (.struct fs)) (hl:parts.length=fs.size)
   (ho:∀(i:Nat) (f:Field) (p:List Sh),fs[i]? =some f->parts[i]? =some p->f.offset=(parts.take i).flatten.length∧P.cellsOf f.type=p.length)
   (hc:P.cellsOf t=parts.flatten.length)
   (he:∀(i:Nat) (f:Field) (p:List Sh),fs[i]? =some f->parts[i]? =some p->G1 P f.type p):G1 P t parts.flatten
section
variable {H:Type} {enc:TypeId × Value->H} {P:Program} {w:World} {base:Nat} {spare:Nat->Bool} {held:Bool}
def ay6 (w:World) (shs:List Sh) (cs:List Value):Prop:=
 cs.length=shs.length∧∃ts:List T,ts.length=shs.length∧∀(j:Nat) (s:Sh),shs[j]? =some s->∃u t,cs[j]? =some u∧ts[j]? =some t∧RT w (fun _=>False) t u∧Fit s t
theorem ai6 {α:Type}:∀(parts:List (List α)) (j:Nat) (x:α),parts.flatten[j]? =some x->∃i p k,parts[i]? =some p∧p[k]? =some x∧j=(parts.take i).flatten.length+k
 |[],j,x,h=>by simp at h
 |p::r,j,x,h=>by
  rw [List.flatten_cons] at h
  by_cases hj:j<p.length
  ·rw [lbb hj] at h
   exact ⟨0,p,j,rfl,h,by simp⟩
  ·rw [lbc (by omega)] at h
   obtain ⟨i,q,k,h1,h2,h3⟩:=ai6 r _ x h
   exact ⟨i+1,q,k,by simpa using h1,h2,by rw [List.take_succ_cons,List.flatten_cons,lbq];omega⟩
theorem a1t {α:Type} {p:Nat->α->Prop}:∀(n:Nat),(∀ i,i<n->∃x,p i x)->∃xs:List α,xs.length=n∧∀i x,xs[i]? =some x->p i x
 |0,_=>⟨[],rfl,by simp⟩
 |n+1,h=>by
  obtain ⟨xs,h1,h2⟩:=a1t n fun i hi=>h i (by omega)
  obtain ⟨x,hx⟩:=h n (by omega)
  refine ⟨xs++[x],by simp [h1],fun i y hy=>?_⟩
  by_cases hi:i<xs.length
  ·rw [lbb hi] at hy;exact h2 i y hy
  ·rw [lbc (by omega)] at hy
   have:i=n:=by
    have:=(lbe.1 hy).1
    simp at this;omega
   subst this
   rw [h1] at hy
   simp at hy
   subst hy
   exact hx
theorem b7P {t:TypeId} {shs:List Sh} (h:G1 P t shs):∀(n:Nat) (cs:List Value) (x:DataW H × List MemPlace),DataW.trod enc P w base spare held n t cs=some x->ay6 w shs cs:=by
 induction h with
 |int h=>
  intro n cs x hx
  obtain ⟨a,rfl,_,hw⟩:=DataW.trod_int h hx
  exact ⟨rfl,[.atm (.int _ a)],rfl,fun j s hj=>by
   match j,hj with
   |0,hj=>simp at hj;subst hj;exact ⟨_,_,rfl,rfl,.atm rfl,.int hw⟩⟩
 |bool h=>
  intro n cs x hx
  obtain ⟨a,rfl,_⟩:=DataW.trod_bool h hx
  exact ⟨rfl,[.atm (.bool a)],rfl,fun j s hj=>by
   match j,hj with
   |0,hj=>simp at hj;subst hj;exact ⟨_,_,rfl,rfl,.atm rfl,.bool⟩⟩
 |@sl t e row h hc hp he ih=>
  intro n cs x hx
  have key:∀(rows:List (List T)) (u:Value),cs=[u]->RT w (fun _=>False) (.sl row.length .any rows) u->(∀ r ∈ rows,r.length=row.length)->(∀ r ∈ rows,∀(j:Nat) (s:Sh) (t:T),row[j]? =some s->r[j]? =some t->Fit s t)->ay6 w [.sl row] cs:=by
   rintro rows u rfl hu h1 h2
   exact ⟨rfl,[.sl row.length .any rows],rfl,fun j s hj=>by
    match j,hj with
    |0,hj=>simp at hj;subst hj;exact ⟨_,_,rfl,rfl,hu,.sl h1 h2⟩⟩
  rcases open_slice h hx with ⟨h0,_⟩|⟨a,len,cap,m,n,D,Pl,hcs,hb,hl,hm,hmm,hx,hi⟩
  ·exact key [] _ h0 (.sl (b:=0) (off:=0) (fun _ _=>undef) (by simp) (by simp) (by unfold maxLen;omega) (by intro h;cases h) (by intro h;cases h) (by simp) (by simp [at2]) (by simp [at2])) (by simp) (by simp)
  ·by_cases hz:len=0
   ·subst hz
    exact key [] _ hcs (.sl (b:=0) (off:=0) (fun _ _=>undef) (by simp) (by simp) hm (by intro h;cases h) (by intro h;cases h) (by simp) (by simp [at2]) (by simp [at2])) (by simp) (by simp)
   have hlm:len<=m:=by rw [hmm];split<;>omega
   have each:∀i,i<len->∃cs':List Value,(∀ j,j<row.length->w.cell? (a.add (i*row.length+j))=cs'[j]?)∧ay6 w row cs':=by
    intro i hil
    obtain ⟨cs',hc',ht'⟩:=hi i (by omega)
    rw [hc] at hc'
    obtain ⟨_,hcl,hat⟩:=World.cells?_some hc'
    exact ⟨cs',fun j hj=>by rw [← Go.Deep.add_add];exact hat j hj,ih n cs' _ ht'⟩
   obtain ⟨css,hcl,hcs2⟩:=a1t len each
   obtain ⟨rows,hrl,hrows⟩:=a1t (α:=List T) (p:=fun i ts=>ts.length=row.length∧∀(j:Nat) (s:Sh),row[j]? =some s->∃u t,(css.getD i [])[j]? =some u∧ts[j]? =some t∧RT w (fun _=>False) t u∧Fit s t) len (fun i hi=>by
    have hg:css[i]? =some (css[i]'(by omega)):=lbf (by omega)
    obtain ⟨_,_,ts,h1,h2⟩:=hcs2 i _ hg
    refine ⟨ts,h1,?_⟩
    rw [lbl,hg]
    exact h2)
   have hcell:∀i j,i<len->j<row.length->w.cell? (a.add (i*row.length+j))=some ((css.getD i []).getD j undef):=by
    intro i j hi hj
    have hg:css[i]? =some (css[i]'(by omega)):=lbf (by omega)
    obtain ⟨h1,h2,_⟩:=hcs2 i _ hg
    rw [h1 j hj]
    have hgd:css.getD i []=css[i]'(by omega):=by rw [lbl,hg];rfl
    rw [hgd,lbl,lbf (by omega)];rfl
   have hspot:a.spot=none:=by
    have:=World.cell?_spot (hcell 0 0 (by omega) hp)
    simpa [Addr.add] using this
   obtain ⟨b,off,sp⟩:=a
   simp only at hspot
   subst hspot
   have hadd:∀k,(⟨b,off,none⟩:Addr).add k=⟨b,off+k,none⟩:=by
    intro k
    unfold Addr.add
    split
    ·subst_vars;rfl
    ·rfl
   have hat:∀i j c,at2 rows i j=some c->i<len∧j<row.length∧∃r s,rows[i]? =some r∧r[j]? =some c∧row[j]? =some s:=by
    intro i j c hc
    obtain ⟨r,q1,q2⟩:=C7 hc
    have hil:i<len:=by rw [← hrl];exact (lbe.1 q1).1
    have hjl:j<row.length:=by rw [← (hrows i r q1).1];exact (lbe.1 q2).1
    exact ⟨hil,hjl,r,_,q1,q2,lbf hjl⟩
   refine key rows (.slice (some ⟨b,off,none⟩) len cap) hcs ?_ ?_ ?_
   ·rw [← hrl]
    refine .sl (b:=b) (off:=off) (fun i j=>(css.getD i []).getD j undef) ?_ (by omega) hm (by intro h;cases h) (by intro h;cases h) (fun _=>rfl) ?_ ?_
    ·intro r hr
     obtain ⟨i,hi⟩:=List.mem_iff_getElem?.1 hr
     exact (hrows i r hi).1
    ·intro i j c hc
     obtain ⟨hil,hjl,_⟩:=hat i j c hc
     have:=hcell i j hil hjl
     rw [hadd] at this
     exact ⟨this,fun h=>h⟩
    ·intro i j c hc
     obtain ⟨hil,hjl,r,s,q1,q2,q3⟩:=hat i j c hc
     obtain ⟨u,t,h1,h2,h3,h4⟩:=(hrows i r q1).2 j s q3
     rw [q2] at h2
     injection h2 with h2
     subst h2
     rw [lbl (l:=css.getD i []),h1]
     exact h3
   ·intro r hr
    obtain ⟨i,hi⟩:=List.mem_iff_getElem?.1 hr
    exact (hrows i r hi).1
   ·intro r hr j s t hs ht
    obtain ⟨i,hi⟩:=List.mem_iff_getElem?.1 hr
    obtain ⟨u,t',h1,h2,h3,h4⟩:=(hrows i r hi).2 j s hs
    rw [ht] at h2
    injection h2 with h2
    subst h2
    exact h4
 |@struct t fs parts h hl ho hc he ih=>
  intro n cs x hx
  obtain ⟨xs,n',hn',hy,hlen,hyl,hf⟩:=DataW.trod_struct h hx
  have hlen':cs.length=parts.flatten.length:=by rw [hlen,hc]
  have each:∀j,j<parts.flatten.length->∃t,∀s,parts.flatten[j]? =some s->∃u,cs[j]? =some u∧RT w (fun _=>False) t u∧Fit s t:=by
   intro j hj
   obtain ⟨i,p,k,q1,q2,q3⟩:=ai6 parts j _ (lbf hj)
   have hi:i<fs.size:=by rw [← hl];exact (lbe.1 q1).1
   have hfi:fs[i]? =some fs[i]:=Array.getElem?_eq_getElem hi
   obtain ⟨o1,o2⟩:=ho i _ p hfi q1
   have h1:=hf i _ hfi
   have hxi:xs[i]? =some (xs[i]'(by omega)):=lbf (by omega)
   obtain ⟨r1,ts,r2,r3⟩:=ih i _ p hfi q1 n' _ _ (h1.trans hxi)
   obtain ⟨u,t,e1,e2,e3,e4⟩:=r3 k _ q2
   refine ⟨t,fun s hs=>⟨u,?_,e3,?_⟩⟩
   ·have hk:k<p.length:=(lbe.1 q2).1
    rw [lbi,o2,if_pos hk,lbj,o1,←q3] at e1
    exact e1
   ·rw [lbf hj] at hs
    injection hs with hs
    rw [← hs];exact e4
  obtain ⟨ts,t1,t2⟩:=a1t parts.flatten.length each
  refine ⟨hlen',ts,t1,fun j s hj=>?_⟩
  have hjl:=(lbe.1 hj).1
  have htj:ts[j]? =some (ts[j]'(by omega)):=lbf (by omega)
  obtain ⟨u,h1,h2,h3⟩:=t2 j _ htj s hj
  exact ⟨u,_,h1,htj,h2,h3⟩
end
theorem Fit.int_inv {k:IntKind} {t:T} (h:Fit (.int k) t):∃n,t=.atm (.int k n)∧(Lit.int k n).wf=true:=by cases h with|int h=>exact ⟨_,rfl,h⟩
theorem Fit.bool_inv {t:T} (h:Fit .bool t):∃b,t=.atm (.bool b):=by cases h with|bool=>exact ⟨_,rfl⟩
theorem aI3 {α:Type} {f:α->List T} {p:α->Prop}:∀{rows:List (List T)},(∀ r ∈ rows,∃x,r=f x∧p x)->∃xs:List α,rows=xs.map f∧∀x ∈ xs,p x
 |[],_=>⟨[],rfl,by simp⟩
 |r::rs,h=>by
  obtain ⟨x,rfl,hx⟩:=h r (by simp)
  obtain ⟨xs,rfl,hxs⟩:=aI3 (rows:=rs) (f:=f) (p:=p) fun r hr=>h r (List.mem_cons_of_mem _ hr)
  exact ⟨x::xs,rfl,fun y hy=>by rcases lbA.1 hy with rfl|hy;exact hx;exact hxs y hy⟩
theorem Fit.sl_inv {α:Type} (f:α->List T) (p:α->Prop) {row:List Sh} {t:T} (h:Fit (.sl row) t)
 (hrow:∀r:List T,r.length=row.length->(∀ (j:Nat) (s:Sh) (t:T),row[j]? =some s->r[j]? =some t->Fit s t)->∃x,r=f x∧p x):
 ∃xs:List α,t=.sl row.length .any (xs.map f)∧∀x ∈ xs,p x:=by
 cases h with
 |sl hl h=>
  obtain ⟨xs,rfl,hx⟩:=aI3 (f:=f) (p:=p) (fun r hr=>hrow r (hl r hr) (h r hr))
  exact ⟨xs,rfl,hx⟩
end
section
open Go.RowKit Go.ChangeShapes Go.WideShapes Go.Deep
abbrev f6:Sh:=.int .i64
theorem y9:G1 Tryz.prog 3 [f6]:=.int Tryz.underlying3
theorem aH2 {P:Program} {t:TypeId} {fs:Array Field} {p0 p1:List Sh} (h:P.underlying t=some (.struct fs)) (hl:fs.size=2)
 (h0:∃f,fs[0]? =some f∧f.offset=0∧P.cellsOf f.type=p0.length∧G1 P f.type p0) (h1:∃f,fs[1]? =some f∧f.offset=p0.length∧P.cellsOf f.type=p1.length∧G1 P f.type p1)
 (hc:P.cellsOf t=p0.length+p1.length):G1 P t (p0++p1):=by
 obtain ⟨f0,a1,a2,a3,a4⟩:=h0
 obtain ⟨f1,b1,b2,b3,b4⟩:=h1
 have:=G1.struct (P:=P) (t:=t) (fs:=fs) [p0,p1] h (by simp [hl]) (fun i f p hf hp=>by
  match i,hp with
  |0,hp=>simp at hp;subst hp;rw [a1] at hf;injection hf with hf;subst hf;exact ⟨by simp [a2],a3⟩
  |1,hp=>simp at hp;subst hp;rw [b1] at hf;injection hf with hf;subst hf;exact ⟨by simp [b2],b3⟩
  |n+2,hp=>simp at hp) (by simp [hc]) (fun i f p hf hp=>by
  match i,hp with
  |0,hp=>simp at hp;subst hp;rw [a1] at hf;injection hf with hf;subst hf;exact a4
  |1,hp=>simp at hp;subst hp;rw [b1] at hf;injection hf with hf;subst hf;exact b4
  |n+2,hp=>simp at hp)
 simpa using this
theorem aY4:G1 Tryz.prog 54 [f6,f6]:=
 aH2 (p0:=[f6]) (p1:=[f6]) Tryz.underlying54 (by kernel_rfl) ⟨_,rfl,rfl,by kernel_rfl,y9⟩ ⟨_,rfl,rfl,by kernel_rfl,y9⟩ (by kernel_rfl)
section
variable {H:Type} {enc:TypeId × Value->H} {w:World} {base:Nat} {spare:Nat->Bool} {held:Bool}
theorem b60 {shs:List Sh} {l:List Value} (h:ay6 w shs l):∃ts:List T,ts.length=shs.length∧(∀ (j:Nat) (s:Sh) (t:T),shs[j]? =some s->ts[j]? =some t->Fit s t)∧RS w (fun _=>none) (fun _=>False) (.agg (ts.map C.t)) (.agg ⟨l⟩):=by
 obtain ⟨h0,ts,h1,h2⟩:=h
 refine ⟨ts,h1,fun j s t hs ht=>?_,?_⟩
 ·obtain ⟨u,t',e1,e2,e3,e4⟩:=h2 j s hs
  rw [ht] at e2;injection e2 with e2;subst e2;exact e4
 ·refine .agg l (by simp [h0,h1]) fun j c hc=>?_
  rw [lba] at hc
  obtain ⟨t,ht,rfl⟩:=Option.map_eq_some_iff.1 hc
  have hj:j<shs.length:=by rw [← h1];exact (lbe.1 ht).1
  obtain ⟨u,t',e1,e2,e3,e4⟩:=h2 j _ (lbf hj)
  rw [ht] at e2;injection e2 with e2;subst e2
  rw [lbl,e1]
  exact .t e3
end
end
section
open Go.RowKit Go.ChangeShapes Go.WideShapes Go.Deep
def aR6 (P:Program):List Field->List (List Sh)->Nat->Prop
 |[],[],_=>True
 |f::fs,p::ps,o=>(f.offset=o∧P.cellsOf f.type=p.length∧G1 P f.type p)∧aR6 P fs ps (o+p.length)
 |_,_,_=>False
theorem aR6.get {P:Program}:∀{fs:List Field} {ps:List (List Sh)} {o:Nat},aR6 P fs ps o->ps.length=fs.length∧∀(i:Nat) (f:Field) (p:List Sh),fs[i]? =some f->ps[i]? =some p->f.offset=o+(ps.take i).flatten.length∧P.cellsOf f.type=p.length∧G1 P f.type p
 |[],[],o,_=>⟨rfl,by simp⟩
 |f::fs,p::ps,o,h=>by
  obtain ⟨⟨h1,h2,h3⟩,h4⟩:=h
  obtain ⟨l,g⟩:=aR6.get h4
  refine ⟨by simp [l],fun i f' p' hf hp=>?_⟩
  cases i with
  |zero=>simp at hf hp;subst hf hp;exact ⟨by simp [h1],h2,h3⟩
  |succ i=>
   obtain ⟨g1,g2,g3⟩:=g i f' p' (by simpa using hf) (by simpa using hp)
   exact ⟨by rw [g1];simp;omega,g2,g3⟩
 |[],_::_,_,h=>h.elim
 |_::_,[],_,h=>h.elim
theorem T2 {P:Program} {t:TypeId} {fs:Array Field} (parts:List (List Sh)) (h:P.underlying t=some (.struct fs)) (hf:aR6 P fs.toList parts 0) (hc:P.cellsOf t=parts.flatten.length):G1 P t parts.flatten:=by
 obtain ⟨l,g⟩:=hf.get
 refine G1.struct parts h (by simpa using l) (fun i f p hi hp=>?_) hc (fun i f p hi hp=>?_)
 ·obtain ⟨g1,g2,g3⟩:=g i f p (by simpa using hi) hp
  exact ⟨by rw [g1];simp,g2⟩
 ·exact (g i f p (by simpa using hi) hp).2.2
theorem b54:G1 Tryz.prog 4 [.bool]:=.bool Tryz.underlying4
theorem b3m:G1 Tryz.prog 77 [f6,f6,f6]:=
 T2 [[f6],[f6],[f6]] Tryz.underlying77 ⟨⟨by kernel_rfl,by kernel_rfl,y9⟩,⟨by kernel_rfl,by kernel_rfl,y9⟩,⟨by kernel_rfl,by kernel_rfl,y9⟩,trivial⟩ (by kernel_rfl)
theorem b4x:G1 Tryz.prog 79 [f6,f6,f6,f6,f6,.bool]:=
 T2 [[f6],[f6],[f6],[f6],[f6],[.bool]] Tryz.underlying79 ⟨⟨by kernel_rfl,by kernel_rfl,y9⟩,⟨by kernel_rfl,by kernel_rfl,y9⟩,⟨by kernel_rfl,by kernel_rfl,y9⟩,⟨by kernel_rfl,by kernel_rfl,y9⟩,⟨by kernel_rfl,by kernel_rfl,y9⟩,⟨by kernel_rfl,by kernel_rfl,b54⟩,trivial⟩ (by kernel_rfl)
theorem b5W:G1 Tryz.prog 209 [f6,f6,f6,f6,f6,f6]:=
 T2 [[f6],[f6],[f6],[f6],[f6],[f6]] Tryz.underlying209 ⟨⟨by kernel_rfl,by kernel_rfl,y9⟩,⟨by kernel_rfl,by kernel_rfl,y9⟩,⟨by kernel_rfl,by kernel_rfl,y9⟩,⟨by kernel_rfl,by kernel_rfl,y9⟩,⟨by kernel_rfl,by kernel_rfl,y9⟩,⟨by kernel_rfl,by kernel_rfl,y9⟩,trivial⟩ (by kernel_rfl)
theorem aX1:G1 Tryz.prog 216 [f6,f6,f6,f6]:=
 T2 [[f6],[f6],[f6],[f6]] Tryz.underlying216 ⟨⟨by kernel_rfl,by kernel_rfl,y9⟩,⟨by kernel_rfl,by kernel_rfl,y9⟩,⟨by kernel_rfl,by kernel_rfl,y9⟩,⟨by kernel_rfl,by kernel_rfl,y9⟩,trivial⟩ (by kernel_rfl)
theorem b4W:G1 Tryz.prog 34 [f6,f6,f6]:=
 T2 [[f6],[f6],[f6]] Tryz.underlying34 ⟨⟨by kernel_rfl,by kernel_rfl,y9⟩,⟨by kernel_rfl,by kernel_rfl,y9⟩,⟨by kernel_rfl,by kernel_rfl,y9⟩,trivial⟩ (by kernel_rfl)
theorem b2H:G1 Tryz.prog 36 [f6,f6]:=
 T2 [[f6],[f6]] Tryz.underlying36 ⟨⟨by kernel_rfl,by kernel_rfl,y9⟩,⟨by kernel_rfl,by kernel_rfl,y9⟩,trivial⟩ (by kernel_rfl)
theorem b06:G1 Tryz.prog 22 [.sl [f6,f6,f6]]:=.sl Tryz.underlying22 (by kernel_rfl) (by decide) b3m
theorem b2g:G1 Tryz.prog 23 [.sl [f6,f6,f6,f6,f6,.bool]]:=.sl Tryz.underlying23 (by kernel_rfl) (by decide) b4x
theorem b2p:G1 Tryz.prog 24 [.sl [f6,f6,f6,f6,f6,f6]]:=.sl Tryz.underlying24 (by kernel_rfl) (by decide) b5W
theorem aL8:G1 Tryz.prog 25 [.sl [f6,f6]]:=.sl Tryz.underlying25 (by kernel_rfl) (by decide) aY4
theorem aD5:G1 Tryz.prog 26 [.sl [f6,f6,f6,f6]]:=.sl Tryz.underlying26 (by kernel_rfl) (by decide) aX1
theorem b2m:G1 Tryz.prog 29 [.sl [f6,f6,f6]]:=.sl Tryz.underlying29 (by kernel_rfl) (by decide) b4W
theorem aY8:G1 Tryz.prog 30 [.sl [f6,f6]]:=.sl Tryz.underlying30 (by kernel_rfl) (by decide) b2H
abbrev b9J:List Sh:=[f6,f6,f6,.sl [f6,f6,f6],.sl [f6,f6,f6,f6,f6,.bool],.sl [f6,f6,f6,f6,f6,f6],.sl [f6,f6],.sl [f6,f6,f6,f6]]
theorem ba8:G1 Tryz.prog 28 b9J:=
 T2 [[f6],[f6],[f6],[.sl [f6,f6,f6]],[.sl [f6,f6,f6,f6,f6,.bool]],[.sl [f6,f6,f6,f6,f6,f6]],[.sl [f6,f6]],[.sl [f6,f6,f6,f6]]] Tryz.underlying28
  ⟨⟨by kernel_rfl,by kernel_rfl,y9⟩,⟨by kernel_rfl,by kernel_rfl,y9⟩,⟨by kernel_rfl,by kernel_rfl,y9⟩,⟨by kernel_rfl,by kernel_rfl,b06⟩,⟨by kernel_rfl,by kernel_rfl,b2g⟩,⟨by kernel_rfl,by kernel_rfl,b2p⟩,⟨by kernel_rfl,by kernel_rfl,aL8⟩,⟨by kernel_rfl,by kernel_rfl,aD5⟩,trivial⟩ (by kernel_rfl)
abbrev bj5:List Sh:=b9J++[.sl [f6,f6,f6],.sl [f6,f6]]
theorem b8V:G1 Tryz.prog 32 bj5:=
 T2 [b9J,[.sl [f6,f6,f6]],[.sl [f6,f6]]] Tryz.underlying32
  ⟨⟨by kernel_rfl,by kernel_rfl,ba8⟩,⟨by kernel_rfl,by kernel_rfl,b2m⟩,⟨by kernel_rfl,by kernel_rfl,aY8⟩,trivial⟩ (by kernel_rfl)
theorem D8 {t:T} (h:Fit f6 t):∃n,t=ti n:=by obtain ⟨n,h,_⟩:=h.int_inv;exact ⟨n,h⟩
section
variable {α:Type} {t:T}
theorem b0L (h:Fit (.sl [f6,f6,f6]) t):∃l:List G5,t=a1p l:=by
 obtain ⟨xs,rfl,_⟩:=h.sl_inv G5.row (fun _=>True) (fun r hl hr=>by
  match r,hl with
  |[a,b,c],_=>
   obtain ⟨a,rfl⟩:=D8 (hr 0 _ _ rfl rfl)
   obtain ⟨b,rfl⟩:=D8 (hr 1 _ _ rfl rfl)
   obtain ⟨c,rfl⟩:=D8 (hr 2 _ _ rfl rfl)
   exact ⟨⟨a,b,c⟩,rfl,trivial⟩)
 exact ⟨xs,rfl⟩
theorem b2D (h:Fit (.sl [f6,f6,f6]) t):∃l:List L0,t=ag0 l:=by
 obtain ⟨xs,rfl,_⟩:=h.sl_inv L0.row (fun _=>True) (fun r hl hr=>by
  match r,hl with
  |[a,b,c],_=>
   obtain ⟨a,rfl⟩:=D8 (hr 0 _ _ rfl rfl)
   obtain ⟨b,rfl⟩:=D8 (hr 1 _ _ rfl rfl)
   obtain ⟨c,rfl⟩:=D8 (hr 2 _ _ rfl rfl)
   exact ⟨⟨a,b,c⟩,rfl,trivial⟩)
 exact ⟨xs,rfl⟩
theorem aU2 (h:Fit (.sl [f6,f6]) t):∃l:List Q3,t=a2t l:=by
 obtain ⟨xs,rfl,_⟩:=h.sl_inv Q3.row (fun _=>True) (fun r hl hr=>by
  match r,hl with
  |[a,b],_=>
   obtain ⟨a,rfl⟩:=D8 (hr 0 _ _ rfl rfl)
   obtain ⟨b,rfl⟩:=D8 (hr 1 _ _ rfl rfl)
   exact ⟨⟨a,b⟩,rfl,trivial⟩)
 exact ⟨xs,rfl⟩
theorem aR5 (h:Fit (.sl [f6,f6]) t):∃l:List C2,t=G2 l:=by
 obtain ⟨xs,rfl,_⟩:=h.sl_inv C2.row (fun _=>True) (fun r hl hr=>by
  match r,hl with
  |[a,b],_=>
   obtain ⟨a,rfl⟩:=D8 (hr 0 _ _ rfl rfl)
   obtain ⟨b,rfl⟩:=D8 (hr 1 _ _ rfl rfl)
   exact ⟨⟨a,b⟩,rfl,trivial⟩)
 exact ⟨xs,rfl⟩
theorem aG3 (h:Fit (.sl [f6,f6,f6,f6]) t):∃l:List a1f,t=a0F l:=by
 obtain ⟨xs,rfl,_⟩:=h.sl_inv a1f.row (fun _=>True) (fun r hl hr=>by
  match r,hl with
  |[a,b,c,d],_=>
   obtain ⟨a,rfl⟩:=D8 (hr 0 _ _ rfl rfl)
   obtain ⟨b,rfl⟩:=D8 (hr 1 _ _ rfl rfl)
   obtain ⟨c,rfl⟩:=D8 (hr 2 _ _ rfl rfl)
   obtain ⟨d,rfl⟩:=D8 (hr 3 _ _ rfl rfl)
   exact ⟨⟨a,b,c,d⟩,rfl,trivial⟩)
 exact ⟨xs,rfl⟩
theorem b2S (h:Fit (.sl [f6,f6,f6,f6,f6,f6]) t):∃l:List J2,t=X7 l:=by
 obtain ⟨xs,rfl,_⟩:=h.sl_inv J2.row (fun _=>True) (fun r hl hr=>by
  match r,hl with
  |[a,b,c,d,e,f],_=>
   obtain ⟨a,rfl⟩:=D8 (hr 0 _ _ rfl rfl)
   obtain ⟨b,rfl⟩:=D8 (hr 1 _ _ rfl rfl)
   obtain ⟨c,rfl⟩:=D8 (hr 2 _ _ rfl rfl)
   obtain ⟨d,rfl⟩:=D8 (hr 3 _ _ rfl rfl)
   obtain ⟨e,rfl⟩:=D8 (hr 4 _ _ rfl rfl)
   obtain ⟨f,rfl⟩:=D8 (hr 5 _ _ rfl rfl)
   exact ⟨⟨a,b,c,d,e,f⟩,rfl,trivial⟩)
 exact ⟨xs,rfl⟩
theorem b3a (h:Fit (.sl [f6,f6,f6,f6,f6,.bool]) t):∃l:List n9,t=a1g l:=by
 obtain ⟨xs,rfl,_⟩:=h.sl_inv n9.row (fun _=>True) (fun r hl hr=>by
  match r,hl with
  |[a,b,c,d,e,f],_=>
   obtain ⟨a,rfl⟩:=D8 (hr 0 _ _ rfl rfl)
   obtain ⟨b,rfl⟩:=D8 (hr 1 _ _ rfl rfl)
   obtain ⟨c,rfl⟩:=D8 (hr 2 _ _ rfl rfl)
   obtain ⟨d,rfl⟩:=D8 (hr 3 _ _ rfl rfl)
   obtain ⟨e,rfl⟩:=D8 (hr 4 _ _ rfl rfl)
   obtain ⟨f,rfl⟩:=(hr 5 _ _ rfl rfl).bool_inv
   exact ⟨⟨a,b,c,d,e,f⟩,rfl,trivial⟩)
 exact ⟨xs,rfl⟩
end
section
variable {H:Type} {enc:TypeId × Value->H} {w:World} {base:Nat} {spare:Nat->Bool} {held:Bool}
theorem open_trace {v:Value} {d:DataW H} {p:List MemPlace} {r:Reach} {b0:Nat} (hv:Value.okWide Tryz.prog w r b0 32 v) (h:DataW.Trod enc Tryz.prog w base spare held 32 v d p):∃t:d9,RS w (fun _=>none) (fun _=>False) (trS t) v:=by
 obtain ⟨⟨l⟩,rfl,_⟩:=okWide_struct Tryz.underlying32 hv
 obtain ⟨fuel,hf⟩:=h
 obtain ⟨ts,h1,h2,h3⟩:=b60 (b7P b8V fuel _ _ hf)
 match ts,h1 with
 |[a,b,c,d,e,f,g,h,i,j],_=>
  obtain ⟨a,rfl⟩:=D8 (h2 0 _ _ rfl rfl)
  obtain ⟨b,rfl⟩:=D8 (h2 1 _ _ rfl rfl)
  obtain ⟨c,rfl⟩:=D8 (h2 2 _ _ rfl rfl)
  obtain ⟨d,rfl⟩:=b0L (h2 3 _ _ rfl rfl)
  obtain ⟨e,rfl⟩:=b3a (h2 4 _ _ rfl rfl)
  obtain ⟨f,rfl⟩:=b2S (h2 5 _ _ rfl rfl)
  obtain ⟨g,rfl⟩:=aR5 (h2 6 _ _ rfl rfl)
  obtain ⟨h,rfl⟩:=aG3 (h2 7 _ _ rfl rfl)
  obtain ⟨i,rfl⟩:=b2D (h2 8 _ _ rfl rfl)
  obtain ⟨j,rfl⟩:=aU2 (h2 9 _ _ rfl rfl)
  exact ⟨⟨⟨a,b,c,d,e,f,g,h⟩,i,j⟩,h3⟩
end
end
section
open Go.RowKit Go.ChangeShapes Go.WideShapes Go.ChangeAt
set_option maxRecDepth 100000 in
theorem a3G (os:Os) (started:os.Started) (H:Type) (enc:TypeId × Value->H):
 ReturnsInHanded {} Tryz.checked os 12 .any (Rows.quarantineReachSpec.pre6 enc Tryz.prog Tryz.f12 Rows.quarantineReachRow.domain false) (Rows.quarantineReachSpec.post enc Tryz.prog Tryz.f12 false true false false):=by
 refine returnsInHanded_of_change (C:=Tryz.checked) b7K started (by kernel_rfl) Tryz.func12
  (ChangeSpec.witness6 (enc:=enc) (C:=Tryz.checked) false ⟨#[],#[.agg #[.int .i64 0,.int .i64 0,.int .i64 0,.slice none 0 0,.slice none 0 0,.slice none 0 0,.slice none 0 0,.slice none 0 0,.slice none 0 0,.slice none 0 0],.int .i64 0],[]⟩ 12 (by kernel_rfl) (by kernel_rfl) (by kernel_rfl) (by kernel_rfl)) ?_
 intro W base args ds gs before hval0 hW hcnd _
 have hval:∀(j:Nat) t v,Tryz.f12.params[j]? =some t->args[j]? =some v->Value.okWide Tryz.prog W .any base t v:=hval0
 have hW':=hW
 obtain ⟨p,q,hA0,hV,rfl,hfz,hnd⟩:=hW
 have hA:DataW.TrodAll enc Tryz.prog W 0 (fun _=>true) true Tryz.f12.params.toList args.toList ds p:=hA0
 rw [Tryz.params12] at hA hval
 obtain ⟨v0,vs0,d0,ds0,p0,q0,hargs,rfl,rfl,h0,r0⟩:=trodAll_cons hA
 obtain ⟨v1,vs1,d1,ds1,p1,q1,rfl,rfl,rfl,h1,r1⟩:=trodAll_cons r0
 obtain ⟨rfl,rfl,rfl⟩:=trodAll_nil r1
 obtain rfl:args=#[v0,v1]:=by cases args;simp_all
 obtain ⟨rfl,rfl⟩:=trodVars_none hV
 obtain ⟨a0,t0⟩:=Go.Proofs.YtdbogogfeffjlaaGreat.open_trace (hval 0 32 v0 rfl rfl) h0
 obtain ⟨a1,rfl,rfl,rfl,w1⟩:=open_int Tryz.underlying3 (hval 1 3 v1 rfl rfl) h1
 refine (aA5 (a7b a0 a1) (.cons (t0) (.cons (b9O) (.nil)))).mono fun ee W' ⟨he,hg⟩=>?_
 subst he
 exact ⟨_,rfl,b6l hW' b5r (by rw [Tryz.params12];intro t ht;simp at ht;first|(rcases ht with rfl|rfl<;>exact ⟨by kernel_rfl,lbL (by kernel_rfl)⟩)|(rcases ht with rfl|rfl<;>exact ⟨by kernel_rfl,lbL (by kernel_rfl)⟩)) rfl rfl (by kernel_rfl) Tryz.underlying4 hg⟩
theorem a4v:(Rows.quarantineReachRow.inPlace == Tryz.pinned.checked.prog.inPlace 12)=true:=by kernel_rfl
theorem a60:(Rows.quarantineReachRow.unfollowed == Tryz.pinned.checked.prog.unfollowed 12)=true:=by kernel_rfl
theorem a5Z:(Rows.quarantineReachRow.recurses == Tryz.pinned.checked.prog.recurses 12)=true:=by kernel_rfl
theorem a4x:(Rows.quarantineReachRow.named == Tryz.pinned.checked.prog.varsNamed 12)=true:=by kernel_rfl
theorem a4u:(Rows.quarantineReachRow.loops == (Tryz.f12.params.toList++Rows.quarantineReachSpec.plain.varTypes Tryz.pinned.checked.prog).any (Tryz.pinned.checked.prog.loopsFrom ·))=true:=by kernel_rfl
set_option maxRecDepth 100000 in
theorem a3C:joinedFacts Tryz.pinned.checked.prog 12 Tryz.f12 (Rows.quarantineReachSpec) Rows.quarantineReachRow=true:=b31 (by kernel_rfl) b7X b7d (by kernel_rfl) (by kernel_rfl) (by kernel_rfl) (by kernel_rfl) (by kernel_rfl) (by kernel_rfl) a4v a60 a5Z a4x (by kernel_rfl) (by kernel_rfl) (by kernel_rfl) a4u (by kernel_rfl) (by kernel_rfl) (by kernel_rfl) (by kernel_rfl) (by kernel_rfl) b6H (by kernel_rfl) b4o b6g b8k b7e (by kernel_rfl) (by kernel_rfl) (by kernel_rfl) (by kernel_rfl) (by kernel_rfl)
theorem quarantineReach_holds:Rows.QuarantineReachSaid:=
 OpenClaim.holds_of_wide 12 Tryz.f12 rfl rfl rfl rfl rfl rfl rfl ⟨rfl,rfl,rfl,rfl,rfl⟩ rfl rfl rfl rfl rfl (by kernel_rfl) Tryz.func12 a3C
  (lbL (by kernel_rfl)) (by unfold Func.isWrapper;first|(rw [if_pos (by decide +kernel)];kernel_rfl)|(rw [if_neg (by decide +kernel)];exact ⟨rfl,rfl⟩))
  (fun os started H enc _=>a3G os started H enc)
end
end Go.Proofs.YtdbogogfeffjlaaGreat
