/- Part 3. -/
import Derived.Test.YtdbogogfeffjlaaGreatMr2
namespace Go.Proofs.YtdbogogfeffjlaaGreat
set_option linter.unusedVariables false
set_option linter.unusedSimpArgs false
section
open Go.RowKit
section
variable {P:Program} {ops:Array Oper} {envs:Nat->Env} {hs:Nat->Hp} {rs:Nat->S} {kd:Nat->Kd}
variable {w0:World} {ι0:Io} {M0:Ms} {H0:Hp} {listed:Array Bool} {a:Act} {w:World} {p q:Nat}
theorem a6x.full (hT:∀j,j<ops.size->aK1 P ops.toList envs hs rs kd j) (hdo:a7G ops.toList=true) (hI:a6x P ops envs hs rs kd w0 ι0 M0 H0 listed a w p q) (hall:∀j,j<q->listed.getD j false=true):
 Sim w0 ι0 M0 H0 a w (envs q) (hs q):=by
 obtain ⟨ι,M,hd,hsz,h1,h2,hH,hM,hf,hF,hst⟩:=hI.rel
 refine ⟨ι,M,hd,by rw [hsz,a8p hT hI.hpq hI.hqn],fun t s ht=>?_,hH,hM,hF,hst⟩
 have htl:t<(envs p).length:=by rw [← a8p hT hI.hpq hI.hqn];exact (lbe.1 ht).1
 by_cases hex:∃i,p<=i∧i<q∧B7 ops i=some t
 ·obtain ⟨i,h3,h4,h5⟩:=hex
  rw [aX0 hT hdo h3 h4 hI.hqn h5 htl] at ht
  injection ht with ht
  subst ht
  exact h1 i t h3 (hall i h4) h5 htl
 ·have hno:∀i,p<=i->i<q->B7 ops i≠some t:=fun i h3 h4 h5=>hex ⟨i,h3,h4,h5⟩
  rw [a5o hT hI.hpq hI.hqn hno] at ht
  refine h2 t s (fun i h3 h4=>hno i h3 ?_) (fun i h3 h4=>?_) ht
  ·rcases Nat.lt_or_ge i q with h|h
   ·exact h
   ·rw [hI.high i h] at h4;cases h4
  ·have:=hI.hpq
   rw [hall i (by omega)] at h4;cases h4
theorem a6x.reads (hT:∀j,j<ops.size->aK1 P ops.toList envs hs rs kd j) (hb:a5i ops.toList=true) (hdo:a7G ops.toList=true) (hdep:aT8 ops.toList=true)
 (hI:a6x P ops envs hs rs kd w0 ι0 M0 H0 listed a w p q) {ι:Io} {M:Ms}
 (h1:∀i t,p<=i->listed.getD i false=true->B7 ops i=some t->t<(envs p).length->RS w ι M (rs i) (a.tmps.getD t undef))
 (h2:∀t s,(∀ i,p<=i->listed.getD i false=true->B7 ops i≠some t)->(∀ i,i<p->listed.getD i false=false->B7 ops i≠some t)->(envs p)[t]? =some s->RS w ι M s (a.tmps.getD t undef))
 {i:Nat} {o:Oper} (ho:ops[i]? =some o) (hpi:p<=i) (hiN:i<=ops.size) (hun:listed.getD i false=false) (hready:∀e ∈ o.after.toList,Region.binds .any e=true->listed.getD e.on false=true)
 {t:Nat} (ht:t ∈ a0k ops.toList o):RS w ι M (F5 (envs i) (.tmp t)) (a.tmps.getD t undef):=by
 show RS w ι M ((envs i).getD t .junk) _
 rw [lbl]
 have ho':ops.toList[i]? =some o:=by simpa using ho
 have hS:∀i o,ops.toList[i]? =some o->(listed.getD i false=true)->∀e ∈ o.after.toList,Region.binds .any e=true->listed.getD e.on false=true:=fun i o h=>hI.closed i o (by simpa using h)
 have hlow:∀j,j<p->listed.getD j false=false->B7 ops j≠some t:=fun j hj hl hd=>by
  obtain ⟨m1,m2⟩:=a7E hdep ho ht hd (by omega)
  have:=a24 hb hS ho' hready (m1 (by omega))
  rw [hl] at this;cases this
 cases hg:(envs i)[t]? with
 |none=>exact .junk
 |some s=>
  have htl:t<(envs p).length:=by rw [← a8p hT hpi hiN];exact (lbe.1 hg).1
  show RS w ι M s _
  by_cases hex:∃j,p<=j∧j≠i∧B7 ops j=some t
  ·obtain ⟨j,hpj,hne,hj⟩:=hex
   obtain ⟨m1,m2⟩:=a7E hdep ho ht hj (Ne.symm hne)
   rcases Nat.lt_or_gt_of_ne hne with hlt|hgt
   ·have hl:=a24 hb hS ho' hready (m1 hlt)
    rw [aX0 hT hdo hpj hlt hiN hj htl] at hg
    injection hg with hg
    subst hg
    exact h1 j t hpj hl hj htl
   ·have hjl:listed.getD j false≠true:=fun hjl=>by
     have hoj:∃oj,ops.toList[j]? =some oj:=by
      unfold B7 at hj
      cases h:ops[j]? with
      |none=>rw [h] at hj;cases hj
      |some oj=>exact ⟨oj,by simpa using h⟩
     obtain ⟨oj,hoj⟩:=hoj
     have:=aj3 hb hS j oj i hoj (m2 hgt) hjl
     rw [hun] at this;cases this
    rw [a5o hT hpi hiN (fun i' h3 h4 h5=>by have:=a3h hdo hj h5;omega)] at hg
    refine h2 t s (fun i' h3 h4 h5=>?_) hlow hg
    have:=a3h hdo hj h5
    subst this
    exact hjl h4
  ·have hno:∀i',p<=i'->i'≠i->B7 ops i'≠some t:=fun i' h3 h4 h5=>hex ⟨i',h3,h4,h5⟩
   rw [a5o hT hpi hiN (fun i' h3 h4=>hno i' h3 (by omega))] at hg
   refine h2 t s (fun i' h3 h4=>hno i' h3 ?_) hlow hg
   rintro rfl
   rw [hun] at h4;cases h4
theorem a6x.reads_late (hb:a5i ops.toList=true) (hdo:a7G ops.toList=true) (hdep:aT8 ops.toList=true)
 (hI:a6x P ops envs hs rs kd w0 ι0 M0 H0 listed a w p q) {ι:Io} {M:Ms}
 (h2:∀t s,(∀ i,p<=i->listed.getD i false=true->B7 ops i≠some t)->(∀ i,i<p->listed.getD i false=false->B7 ops i≠some t)->(envs p)[t]? =some s->RS w ι M s (a.tmps.getD t undef))
 {i r:Nat} {o:Oper} (ho:ops[i]? =some o) (hip:i<p) (hr:p=r+1) (hf:a11 ops.toList r i=true) (hun:listed.getD i false=false) (hready:∀e ∈ o.after.toList,Region.binds .any e=true->listed.getD e.on false=true)
 {t:Nat} (ht:t ∈ a0k ops.toList o):RS w ι M (F5 (envs p) (.tmp t)) (a.tmps.getD t undef):=by
 show RS w ι M ((envs p).getD t .junk) _
 rw [lbl]
 have ho':ops.toList[i]? =some o:=by simpa using ho
 have hS:∀i o,ops.toList[i]? =some o->(listed.getD i false=true)->∀e ∈ o.after.toList,Region.binds .any e=true->listed.getD e.on false=true:=fun i o h=>hI.closed i o (by simpa using h)
 cases hg:(envs p)[t]? with
 |none=>exact .junk
 |some s=>
  refine h2 t s (fun j h3 h4 h5=>?_) (fun j h3 h4 h5=>?_) hg
  ·have hoj:∃oj,ops.toList[j]? =some oj:=by
    unfold B7 at h5
    cases h:ops[j]? with
    |none=>rw [h] at h5;cases h5
    |some oj=>exact ⟨oj,by simpa using h⟩
   obtain ⟨oj,hoj⟩:=hoj
   have:=aj3 hb hS j oj i hoj ((a7E hdep ho ht h5 (by omega)).2 (by omega)) h4
   rw [hun] at this;cases this
  ·by_cases hji:j=i
   ·subst hji
    rcases a52 (d:=0) hf ho ht h5 with h|h<;>omega
   have hlt:j<i:=by
    rcases a52 (d:=0) hf ho ht h5 with h|h
    ·exact h
    ·omega
   have:=a24 hb hS ho' hready ((a7E hdep ho ht h5 (by omega)).1 hlt)
   rw [h4] at this;cases this
theorem a2Q {listed:Array Bool} {i:Nat} (h:i<listed.size):(listed.setIfInBounds i true).getD i false=true:=by simp [h]
theorem Z8 {listed:Array Bool} {i j:Nat} (h:(listed.setIfInBounds i true).getD j false=true):j=i∨listed.getD j false=true:=by
 by_cases hij:i=j
 ·exact .inl hij.symm
 ·rw [getD_set_ne false hij] at h;exact .inr h
theorem a6x.step (hT:∀j,j<ops.size->aK1 P ops.toList envs hs rs kd j) (hI:a6x P ops envs hs rs kd w0 ι0 M0 H0 listed a w p q) (hd:a.defers=[]) (hsz:a.tmps.size=(envs p).length)
 {i:Nat} {o:Oper} (ho:ops[i]? =some o) (hpi:p<=i) (hiq:i<q) (hun:listed.getD i false=false) (hready:∀e ∈ o.after.toList,Region.binds .any e=true->listed.getD e.on false=true)
 (hdo:a7G ops.toList=true) {v:Value} {w':World} {ι':Io} {M':Ms}
 (h1:∀i t,p<=i->listed.getD i false=true->B7 ops i=some t->t<(envs p).length->RS w' ι' M' (rs i) (a.tmps.getD t undef))
 (h2:∀t s,(∀ i,p<=i->listed.getD i false=true->B7 ops i≠some t)->(∀ i,i<p->listed.getD i false=false->B7 ops i≠some t)->(envs p)[t]? =some s->RS w' ι' M' s (a.tmps.getD t undef))
 (hr:RS w' ι' M' (rs i) v) (hH:p5 w' ι' M' (hs q)) (hM:MB w' M')
 (hf:∀j B,p<=j->j<q->j≠i->listed.getD j false=false->kd j=.quiet B->∀k,k<B.length->ι' ((hs j).length+k)=none) (hF:a2E ι' (hs q).length) (hst:a4t w0 ι0 M0 H0 w' ι' M' (hs q)):
 a6x P ops envs hs rs kd w0 ι0 M0 H0 (listed.setIfInBounds i true) (a.put o.dst v) w' p q:=by
 have hil:i<listed.size:=by rw [hI.lsz];exact (lb6.1 ho).1
 have hdi:B7 ops i=o.dst:=by unfold B7;rw [ho];rfl
 refine ⟨hI.hpq,hI.hqn,hI.seg,hI.fin,hI.h0,by simpa using hI.lsz,fun j hj=>?_,fun j hj=>?_,?_,ι',M',by rw [a13,hd],by rw [a4Y,hsz],?_,?_,hH,hM,?_,hF,hst⟩
 ·exact (hI.low j hj).imp (fun h=>getD_set_true h) id
 ·rw [getD_set_ne false (by omega)];exact hI.high j hj
 ·intro j oj hoj hl e he hb
  rcases Z8 hl with rfl|hl
  ·rw [ho] at hoj
   injection hoj with hoj
   subst hoj
   exact getD_set_true (hready e he hb)
  ·exact getD_set_true (hI.closed j oj hoj hl e he hb)
 ·intro j t hpj hl hdj htl
  by_cases hji:j=i
  ·subst hji
   rw [hdi] at hdj
   rw [hdj]
   show RS w' ι' M' (rs j) ((a.tmps.setIfInBounds t v).getD t undef)
   simpa [show t<a.tmps.size by omega] using hr
  ·have hl':=(Z8 hl).resolve_left hji
   have hne:o.dst≠some t:=fun h=>by rw [← hdi] at h;exact hji (a3h hdo hdj h)
   have:=h1 j t hpj hl' hdj htl
   cases hdd:o.dst with
   |none=>exact this
   |some d=>
    have:d≠t:=fun e=>hne (by rw [hdd,e])
    show RS w' ι' M' (rs j) ((a.tmps.setIfInBounds d v).getD t undef)
    rw [Array.getD_eq_getD_getElem?,Array.getElem?_setIfInBounds_ne this]
    rw [Array.getD_eq_getD_getElem?] at *
    assumption
 ·intro t s hno hno2 hs'
  have hne:o.dst≠some t:=fun h=>hno i hpi (a2Q hil) (by rw [hdi,h])
  have:=h2 t s (fun j h3 h4=>hno j h3 (getD_set_true h4)) (fun j h3 h4=>hno2 j h3 (by rw [getD_set_ne false (by omega)];exact h4)) hs'
  cases hdd:o.dst with
  |none=>exact this
  |some d=>
   have hdt:d≠t:=fun e=>hne (by rw [hdd,e])
   show RS w' ι' M' s ((a.tmps.setIfInBounds d v).getD t undef)
   rw [Array.getD_eq_getD_getElem?,Array.getElem?_setIfInBounds_ne hdt]
   rw [Array.getD_eq_getD_getElem?] at this
   exact this
 ·intro j B hpj hjq hl hk
  have hji:j≠i:=by rintro rfl;rw [a2Q hil] at hl;cases hl
  rw [getD_set_ne false (Ne.symm hji)] at hl
  exact hf j B hpj hjq hji hl hk
theorem a6x.late (hI:a6x P ops envs hs rs kd w0 ι0 M0 H0 listed a w p q) (hd:a.defers=[]) (hsz:a.tmps.size=(envs p).length)
 {i:Nat} {o:Oper} {d:Nat} (ho:ops[i]? =some o) (hod:o.dst=some d) (hip:i<p) (hready:∀e ∈ o.after.toList,Region.binds .any e=true->listed.getD e.on false=true)
 (hdo:a7G ops.toList=true) {v:Value} {w':World} {ι':Io} {M':Ms}
 (h1:∀i t,p<=i->listed.getD i false=true->B7 ops i=some t->t<(envs p).length->RS w' ι' M' (rs i) (a.tmps.getD t undef))
 (h2:∀t s,(∀ i,p<=i->listed.getD i false=true->B7 ops i≠some t)->(∀ i,i<p->listed.getD i false=false->B7 ops i≠some t)->(envs p)[t]? =some s->RS w' ι' M' s (a.tmps.getD t undef))
 (hr:RS w' ι' M' (F5 (envs p) (.tmp d)) v) (hH:p5 w' ι' M' (hs q)) (hM:MB w' M')
 (hf:∀j B,p<=j->j<q->listed.getD j false=false->kd j=.quiet B->∀k,k<B.length->ι' ((hs j).length+k)=none) (hF:a2E ι' (hs q).length) (hst:a4t w0 ι0 M0 H0 w' ι' M' (hs q)):
 a6x P ops envs hs rs kd w0 ι0 M0 H0 (listed.setIfInBounds i true) (a.put o.dst v) w' p q:=by
 have hil:i<listed.size:=by rw [hI.lsz];exact (lb6.1 ho).1
 have hdi:B7 ops i=some d:=by unfold B7;rw [ho];exact hod
 have hpq:=hI.hpq
 refine ⟨hI.hpq,hI.hqn,hI.seg,hI.fin,hI.h0,by simpa using hI.lsz,fun j hj=>?_,fun j hj=>?_,?_,ι',M',by rw [a13,hd],by rw [a4Y,hsz],?_,?_,hH,hM,?_,hF,hst⟩
 ·exact (hI.low j hj).imp (fun h=>getD_set_true h) id
 ·rw [getD_set_ne false (by omega)];exact hI.high j hj
 ·intro j oj hoj hl e he hb
  rcases Z8 hl with rfl|hl
  ·rw [ho] at hoj
   injection hoj with hoj
   subst hoj
   exact getD_set_true (hready e he hb)
  ·exact getD_set_true (hI.closed j oj hoj hl e he hb)
 ·intro j t hpj hl hdj htl
  have hji:j≠i:=by omega
  have hl':=(Z8 hl).resolve_left hji
  have:=h1 j t hpj hl' hdj htl
  have hdt:d≠t:=fun e=>hji (a3h hdo hdj (by rw [← e];exact hdi))
  rw [hod]
  show RS w' ι' M' (rs j) ((a.tmps.setIfInBounds d v).getD t undef)
  rw [Array.getD_eq_getD_getElem?,Array.getElem?_setIfInBounds_ne hdt]
  rw [Array.getD_eq_getD_getElem?] at this
  exact this
 ·intro t s hno hno2 hs'
  rw [hod]
  show RS w' ι' M' s ((a.tmps.setIfInBounds d v).getD t undef)
  by_cases hdt:d=t
  ·subst hdt
   have htl:=(lbe.1 hs').1
   have he:F5 (envs p) (.tmp d)=s:=by
    show (envs p).getD d .junk=s
    rw [lbl,hs'];rfl
   rw [he] at hr
   simpa [show d<a.tmps.size by omega] using hr
  ·have:=h2 t s (fun j h3 h4=>hno j h3 (getD_set_true h4)) (fun j h3 h4 h5=>by
    by_cases hji:j=i
    ·subst hji;rw [hdi] at h5;injection h5 with h5;exact hdt h5
    ·exact hno2 j h3 (by rw [getD_set_ne false (Ne.symm hji)];exact h4) h5) hs'
   rw [Array.getD_eq_getD_getElem?,Array.getElem?_setIfInBounds_ne hdt]
   rw [Array.getD_eq_getD_getElem?] at this
   exact this
 ·intro j B hpj hjq hl hk
  rw [getD_set_ne false (by omega)] at hl
  exact hf j B hpj hjq hl hk
theorem aS4 (kd:Nat->Kd) (p n:Nat) (h:p<=n):∃q,p<=q∧q<=n∧(∀ j,p<=j->j<q->kd j≠.gen)∧(q=n∨kd q=.gen):=by
 obtain ⟨m,hm⟩:∃m,m=n - p:=⟨_,rfl⟩
 induction m generalizing p with
 |zero=>exact ⟨p,lbR _,h,fun j _ _=>by omega,.inl (by omega)⟩
 |succ m ih=>
  cases hk:kd p with
  |gen=>exact ⟨p,lbR _,h,fun j _ _=>by omega,.inr hk⟩
  |skip=>
   obtain ⟨q,h1,h2,h3,h4⟩:=ih (p+1) (by omega) (by omega)
   refine ⟨q,by omega,h2,fun j h5 h6=>?_,h4⟩
   by_cases hj:j=p
   ·subst hj;rw [hk];intro h;cases h
   ·exact h3 j (by omega) h6
  |quiet B=>
   obtain ⟨q,h1,h2,h3,h4⟩:=ih (p+1) (by omega) (by omega)
   refine ⟨q,by omega,h2,fun j h5 h6=>?_,h4⟩
   by_cases hj:j=p
   ·subst hj;rw [hk];intro h;cases h
   ·exact h3 j (by omega) h6
def unl (n:Nat) (listed:Array Bool):Nat:=((List.range n).filter fun j=>!listed.getD j false).length
theorem b79 {n:Nat} {listed:Array Bool} {i:Nat} (hi:i<n) (hs:listed.size=n) (hu:listed.getD i false=false):unl n (listed.setIfInBounds i true)<unl n listed:=by
 unfold unl
 have h1:((List.range n).filter fun j=>!(listed.setIfInBounds i true).getD j false)=((List.range n).filter fun j=>!listed.getD j false).filter fun j=>j≠i:=by
  rw [List.filter_filter]
  apply List.filter_congr
  intro j hj
  by_cases hji:j=i
  ·subst hji;simp [hs,hi]
  ·rw [getD_set_ne false (Ne.symm hji)];simp [hji]
 rw [h1]
 have hmem:i ∈ (List.range n).filter fun j=>!listed.getD j false:=by simp [hi];simpa using hu
 have:∀(l:List Nat),i ∈ l->(l.filter fun j=>j≠i).length<l.length:=by
  intro l
  induction l with
  |nil=>intro h;cases h
  |cons x l ih=>
   intro h
   by_cases hx:x=i
   ·subst hx
    simp only [List.filter_cons,ne_eq,not_true_eq_false,decide_false,Bool.false_eq_true,if_false,lbu]
    have:=lbt (fun j=>decide ¬j=x) l
    exact Nat.lt_succ_of_le this
   ·rcases lbA.1 h with h|h
    ·exact absurd h.symm hx
    ·simp [List.filter_cons,hx]
     simpa using ih h
 exact this _ hmem
theorem a8S (hb:a5i ops.toList=true) (hsz:listed.size=ops.size) (h:Region.ready .any ops listed=[]):∀i,i<ops.size->listed.getD i false=true:=by
 intro i
 induction i using Nat.strongRecOn with
 |_ i ih=>
  intro hi
  cases hl:listed.getD i false with
  |true=>rfl
  |false=>
   have:i ∈ Region.ready .any ops listed:=by
    rw [mem_ready]
    refine ⟨by simp [hsz,hi] at hl ⊢;exact hl,ops[i],by simp,fun e he hbi=>?_⟩
    have hlt:=az1 hb (i:=i) (o:=ops[i]) (by simp) (by simpa using he) hbi
    exact ih e.on hlt (by omega)
   rw [h] at this;cases this
theorem b04 {n:Nat} (h:unl n listed=0):∀i,i<n->listed.getD i false=true:=by
 intro i hi
 unfold unl at h
 have:=lbF h
 rw [List.filter_eq_nil_iff] at this
 have:=this i (by simpa using hi)
 simpa using this
theorem b5e (hI:a6x P ops envs hs rs kd w0 ι0 M0 H0 listed a w p q) (hall:∀i,i<ops.size->listed.getD i false=true):q=ops.size:=by
 rcases Nat.lt_or_ge q ops.size with h|h
 ·have:=hI.high q (lbR _)
  rw [hall q h] at this;cases this
 ·have:=hI.hqn;omega
theorem b5V (hM0:MB w0 M0) (hT:∀j,j<ops.size->aK1 P ops.toList envs hs rs kd j) (hb:a5i ops.toList=true) (hdo:a7G ops.toList=true) (hdep:aT8 ops.toList=true) {Q:Exit->Act->World->Prop}
 (hK:∀a w,Sim w0 ι0 M0 H0 a w (envs ops.size) (hs ops.size)->Q .normal a w):∀(fuel:Nat) (listed:Array Bool) (a:Act) (w:World) (p q:Nat),a6x P ops envs hs rs kd w0 ι0 M0 H0 listed a w p q->unl ops.size listed<=fuel->
   wpAny P .any ops Q fuel listed a w:=by
 have hend:∀(listed:Array Bool) (a:Act) (w:World) (p q:Nat),a6x P ops envs hs rs kd w0 ι0 M0 H0 listed a w p q->(∀ i,i<ops.size->listed.getD i false=true)->Q .normal a w:=fun listed a w p q hI hall=>by
  obtain rfl:=b5e hI hall
  exact hK a w (hI.full hT hdo hall)
 intro fuel
 induction fuel with
 |zero=>
  intro listed a w p q hI hu
  have hall:=b04 (listed:=listed) (n:=ops.size) (by omega)
  refine ⟨?_,hend listed a w p q hI hall⟩
  cases hr:Region.ready .any ops listed with
  |nil=>rfl
  |cons i l=>
   have hi:i ∈ Region.ready .any ops listed:=by rw [hr];simp
   rw [mem_ready] at hi
   obtain ⟨h1,o,ho,_⟩:=hi
   have hlt:=(lb6.1 ho).1
   have h2:=hall i hlt
   have hsz:=hI.lsz
   simp [hsz,hlt] at h1 h2
   rw [h1] at h2;cases h2
 |succ fuel ih=>
  intro listed a w p q hI hu
  refine ⟨fun hr=>hend listed a w p q hI (a8S hb hI.lsz hr),fun i hi=>?_⟩
  rw [mem_ready] at hi
  obtain ⟨hl,o,ho,hready⟩:=hi
  have hiN:=(lb6.1 ho).1
  have hsz0:=hI.lsz
  have hun:listed.getD i false=false:=by simp [hsz0,hiN] at hl ⊢;exact hl
  have hready':∀e ∈ o.after.toList,Region.binds .any e=true->listed.getD e.on false=true:=fun e he=>hready e (by simpa using he)
  have hu':unl ops.size (listed.setIfInBounds i true)<=fuel:=by
   have:=b79 hiN hsz0 hun;omega
  have hS:∀i o,ops.toList[i]? =some o->(listed.getD i false=true)->∀e ∈ o.after.toList,Region.binds .any e=true->listed.getD e.on false=true:=fun i o h=>hI.closed i o (by simpa using h)
  unfold wpOp
  rw [ho]
  simp only
  obtain ⟨ι,M,hd,hsz,h1,h2,hH,hM,hf,hF,hst⟩:=hI.rel
  by_cases hip:i<p
  · -- one that came late
    rcases hI.low i hip with h|⟨⟨r,hpr,hfine⟩,oj,d,hoj,hod,hq⟩
    ·rw [h] at hun;cases hun
    rw [ho] at hoj
    injection hoj with hoj
    subst hoj
    have hgd:=b0q hfine ho
    have hreads:=fun t ht=>hI.reads_late hb hdo hdep h2 ho hip hpr hfine hun hready' (t:=t) ht
    rw [show Region.wanted o (yielded ops a.tmps)=true by unfold Region.wanted;rw [hgd]]
    simp only [if_true]
    refine .inl ?_
    obtain ⟨X,hX⟩:=Q6 hT hI.hpq hI.hqn hI.seg
    have hHp:p5 w ι M (hs p):=by rw [hX] at hH;exact hH.pre1
    have hev:V8 w ι M (evR o (envs p)) a:=by
     intro x
     cases x with
     |tmp t=>
      show RS w ι M (cond _ _ _) _
      cases hc:(o.op.operands.toList.filterMap fun x=>match x with|.tmp t=>some t|_=>none).contains t with
      |true=>
       refine hreads t ?_
       unfold a0k
       rw [lbz]
       exact .inl (List.contains_iff_mem.1 hc)
      |false=>exact .junk
     |const v=>exact RS.const v
     |global g=>exact .junk
     |func f=>exact .c (.t (.fn [] rfl (by simp)))
    refine hq a w ι M hev hHp hM (by simp) _ _ fun v w' hp=>?_
    obtain ⟨new,q1,q2,q3,q4,q5,q6⟩:=hp.insert hH hM (by simp) (by simp)
    have hsame:∀id,y7 ι (hs p).length ([]:List Blk).length new id=ι id:=fun id=>by unfold y7;rw [if_neg (by simp)]
    have keep:∀{s v},RS w ι M s v->RS w' (y7 ι (hs p).length ([]:List Blk).length new) (a4G M ([]:List Blk).length new) s v:=fun h=>h.keep (fun b hb _=>q2.keep b hb) q5 (fun id l hl=>by rw [hsame];exact hl)
    refine ih _ _ _ p q (hI.late hd hsz ho hod hip hready' hdo (fun j t h3 h4 h5 h6=>keep (h1 j t h3 h4 h5 h6)) (fun t s h3 h4 h5=>keep (h2 t s h3 h4 h5)) q1 q3 q4 ?_ ?_ ?_) hu'
    ·intro j B' h3 h4 h6 h7 k hk
     rw [hsame]
     exact hf j B' h3 h4 h6 h7 k hk
    ·intro id hid
     rw [hsame]
     exact hF id hid
    ·refine ⟨q2.os.trans hst.os,q2.tape.trans hst.tape,q2.output.trans hst.output,lbS hst.size q2.size,fun b hb' hl'=>(q2.keep b (Nat.lt_of_lt_of_le hb' hst.size)).trans (hst.keep b hb' hl'),?_,?_,?_,?_,hst.len⟩
     ·intro id hid
      rw [hsame]
      exact hst.same id hid
     ·intro b hb'
      rcases q5 b hb' with h|h
      ·exact hst.mnew b h
      ·exact .inr (lbS hst.size h)
     ·intro b hb'
      rcases hst.mold b hb' with h|h
      ·exact .inl (.inl h)
      ·exact .inr h
     ·intro b hb'
      rcases q6 b hb' with h|h
      ·exact hst.live b h
      ·exact .inr (lbS hst.size h)
  have hpi:p<=i:=by omega
  have hiq:i<=q:=by
   rcases Nat.lt_or_ge q i with h|h
   ·have hkq:kd q=.gen:=hI.fin.resolve_left (by omega)
    obtain ⟨oq,hoq,_,h3⟩:=hT q (by omega)
    rw [hkq] at h3
    have:=a24 hb hS (by simpa using ho) hready' (an5 h3.2.2.1 hiN h)
    rw [hI.high q (lbR _)] at this;cases this
   ·exact h
  obtain ⟨o',ho',henv,hk⟩:=hT i hiN
  have:o'=o:=by
   have:ops[i]? =some o':=by simpa using ho'
   rw [ho] at this;injection this with this;exact this.symm
  subst this
  have hreads:=fun t ht=>hI.reads hT hb hdo hdep h1 h2 ho hpi (Nat.le_of_lt hiN) hun hready' (t:=t) ht
  have hlenI:a.tmps.size=(envs i).length:=by rw [hsz,a8p hT hpi (by omega)]
  have hguard:∀j want oj d,o'.guard=some (j,want)->ops[j]? =some oj->oj.dst=some d->RS w ι M (F5 (envs i) (.tmp d)) (a.tmps.getD d undef):=fun j want oj d hg hoj hdj=>by
   refine hreads d ?_
   unfold a0k
   rw [lbz]
   refine .inr ?_
   have hoj':ops.toList[j]? =some oj:=by simpa using hoj
   rw [hg]
   simp [hoj',hdj]
  have hev:V8 w ι M (evR o' (envs i)) a:=by
   intro x
   cases x with
   |tmp t=>
    show RS w ι M (cond _ _ _) _
    cases hc:(o'.op.operands.toList.filterMap fun x=>match x with|.tmp t=>some t|_=>none).contains t with
    |true=>
     refine hreads t ?_
     unfold a0k
     rw [lbz]
     exact .inl (List.contains_iff_mem.1 hc)
    |false=>exact .junk
   |const v=>exact RS.const v
   |global g=>exact .junk
   |func f=>exact .c (.t (.fn [] rfl (by simp)))
  by_cases hlt:i<q
  ·obtain ⟨X,hX⟩:=Q6 hT (Nat.le_of_lt hlt) hI.hqn (fun k h3 h4=>hI.seg k (by omega) h4)
   cases hkd:kd i with
   |skip=>
    rw [hkd] at hk
    obtain ⟨hw,hr,_⟩:=hk
    rw [a3W hlenI hw hguard]
    simp only [Bool.false_eq_true,if_false]
    refine ih _ _ _ p q (hI.step hT hd hsz ho hpi hlt hun hready' hdo h1 h2 (by rw [hr];exact .skip) hH hM (fun j B h3 h4 _ h5 h6=>hf j B h3 h4 h5 h6) hF hst) hu'
   |quiet B=>
    rw [hkd] at hk
    obtain ⟨hw,hqop,hB⟩:=hk
    rw [a3W hlenI hw hguard]
    simp only [if_true]
    refine .inl ?_
    have hfi:=hf i B hpi hlt hun hkd
    have hHi:p5 w ι M (hs i):=by rw [hX] at hH;exact hH.pre1
    refine hqop a w ι M hev hHi hM hfi _ _ fun v w' hp=>?_
    obtain ⟨X1,hX1⟩:=Q6 hT (show i+1<=q by omega) hI.hqn (fun k h3 h4=>hI.seg k (by omega) h4)
    have hBq:∀k,k<B.length->(hs q)[(hs i).length+k]? =B[k]?:=fun k hk=>by
     rw [hX1,hB,lbD,lbc (by omega),lbb (by omega)]
     congr 1;omega
    obtain ⟨new,q1,q2,q3,q4,q5,q6⟩:=hp.insert hH hM hBq hfi
    have hext:∀id l,ι id=some l->y7 ι (hs i).length B.length new id=some l:=fun id l hl=>a8D hfi hl
    have keep:∀{s v},RS w ι M s v->RS w' (y7 ι (hs i).length B.length new) (a4G M B.length new) s v:=fun h=>h.keep (fun b hb _=>q2.keep b hb) q5 hext
    have hqlen:(hs i).length+B.length<=(hs q).length:=by rw [hX1,hB];simp
    have hH0:H0.length<=(hs i).length:=by
     obtain ⟨Z,hZ⟩:=Q6 hT hpi (by omega) (fun k h3 h4=>hI.seg k h3 (by omega))
     have:=hI.h0
     rw [hZ];simp;omega
    refine ih _ _ _ p q (hI.step hT hd hsz ho hpi hlt hun hready' hdo (fun j t h3 h4 h5 h6=>keep (h1 j t h3 h4 h5 h6)) (fun t s h3 h4 h5=>keep (h2 t s h3 h4 h5)) q1 q3 q4 ?_ ?_ ?_) hu'
    ·intro j B' h3 h4 h5 h6 h7 k hk
     have hfj:=hf j B' h3 h4 h6 h7 k hk
     unfold y7
     rw [if_neg ?_,hfj]
     -- the new ids of two places are apart
     rintro ⟨r1,r2⟩
     rcases Nat.lt_or_gt_of_ne h5 with hji|hji
     ·obtain ⟨Y,hY⟩:=Q6 hT (show j+1<=i by omega) (by omega) (fun k h3' h4'=>hI.seg k (by omega) (by omega))
      obtain ⟨oj,_,_,hkj⟩:=hT j (by omega)
      rw [h7] at hkj
      rw [hY,hkj.2.2] at r1
      simp at r1
      omega
     ·obtain ⟨Y,hY⟩:=Q6 hT (show i+1<=j by omega) (by have:=hI.hqn;omega) (fun k h3' h4'=>hI.seg k (by omega) (by omega))
      rw [hY,hB] at r2
      simp at r2
      omega
    ·intro id hid
     unfold y7
     rw [if_neg (by omega)]
     exact hF id hid
    ·refine ⟨q2.os.trans hst.os,q2.tape.trans hst.tape,q2.output.trans hst.output,lbS hst.size q2.size,fun b hb' hl'=>(q2.keep b (Nat.lt_of_lt_of_le hb' hst.size)).trans (hst.keep b hb' hl'),?_,?_,?_,?_,hst.len⟩
     ·intro id hid
      unfold y7
      rw [if_neg (by omega)]
      exact hst.same id hid
     ·intro b hb'
      rcases q5 b hb' with h|h
      ·exact hst.mnew b h
      ·exact .inr (lbS hst.size h)
     ·intro b hb'
      rcases hst.mold b hb' with h|h
      ·exact .inl (.inl h)
      ·exact .inr h
     ·intro b hb'
      rcases q6 b hb' with h|h
      ·exact hst.live b h
      ·exact .inr (lbS hst.size h)
   |gen=>exact absurd hkd (hI.seg i hpi hlt)
  · -- a general operation: the segment before it is done
    obtain rfl:i=q:=by omega
    have hkq:kd i=.gen:=hI.fin.resolve_left (by omega)
    rw [hkq] at hk
    obtain ⟨hw,hg,hbar,hlate⟩:=hk
    rw [a3W hlenI hw hguard]
    simp only [if_true]
    refine .inl ?_
    refine hg a w ι M hev hH hM hF _ _ fun v w' hp=>?_
    obtain ⟨ι1,M1,g1,hH1,hM1,hF1,g5⟩:=hp
    have hkb:∀b,b<w.heap.size->¬M b->w'.heap[b]? =w.heap[b]?:=fun b hb hnm=>g5.keep b hb fun hl=>hnm (a48.inM hH hl)
    have hki:∀id l,ι id=some l->ι1 id=some l:=fun id l hl=>by
     have hlt:id<(hs i).length:=by
      rcases Nat.lt_or_ge id (hs i).length with h|h
      ·exact h
      ·rw [hF id h] at hl;cases hl
     rw [g5.same id hlt,hl]
    have keep:∀{s v},RS w ι M s v->RS w' ι1 M1 s v:=fun h=>h.keep hkb g5.mnew hki
    have hst1:=hst.trans hM0 g5
    have hlen1:(envs (i+1)).length=(envs i).length:=by rw [henv,a2w]
    obtain ⟨q',r1,r2,r3,r4⟩:=aS4 kd (i+1) ops.size (by omega)
    obtain ⟨X,hX⟩:=Q6 hT r1 r2 r3
    have hdi:B7 ops i=o'.dst:=by unfold B7;rw [ho];rfl
    have henvne:∀t,o'.dst≠some t->(envs (i+1))[t]? =(envs i)[t]?:=fun t hne=>by
     rw [henv]
     cases hdd:o'.dst with
     |none=>rfl
     |some d=>
      have hdt:d≠t:=fun e=>hne (by rw [hdd,e])
      show ((envs i).set d (rs i))[t]? =_
      rw [List.getElem?_set_ne hdt]
    refine ih _ _ _ (i+1) q' ⟨r1,r2,r3,r4,hst1.len,by simpa using hsz0,fun j hj=>?_,fun j hj=>?_,?_,ι1,M1,by rw [a13,hd],by rw [a4Y,hlenI,hlen1],?_,?_,?_,hM1,?_,?_,?_⟩ hu'
    ·by_cases hji:j=i
     ·subst hji;exact .inl (a2Q (by omega))
     ·cases hl:listed.getD j false with
      |true=>exact .inl (getD_set_true hl)
      |false=>
       by_cases hjl:j ∈ Y7 ops.toList i
       ·have hfine:=aG2 hbar hjl
        obtain ⟨oj,d,hoj,hod,hq⟩:=hlate j hjl
        have hoj':ops[j]? =some oj:=by simpa using hoj
        refine .inr ⟨⟨i,rfl,hfine⟩,oj,d,hoj',hod,?_⟩
        have hev1:evR oj (envs (i+1))=evR oj (envs i):=by
         funext x
         cases x with
         |tmp t=>
          show cond _ _ _=cond _ _ _
          cases hc:(oj.op.operands.toList.filterMap fun x=>match x with|.tmp t=>some t|_=>none).contains t with
          |false=>rfl
          |true=>
           have ht:t ∈ a0k ops.toList oj:=by
            unfold a0k
            rw [lbz]
            exact .inl (List.contains_iff_mem.1 hc)
           have hne:o'.dst≠some t:=fun he=>by
            have:=a52 (d:=0) hfine hoj' ht (hdi.trans he)
            omega
           show (envs (i+1)).getD t .junk=(envs i).getD t .junk
           rw [lbl,lbl,henvne t hne]
         |const v=>rfl
         |global g=>rfl
         |func f=>rfl
        have hne:o'.dst≠some d:=fun he=>hji (a3h hdo (show B7 ops j=some d by unfold B7;rw [hoj'];exact hod) (hdi.trans he))
        have hd1:F5 (envs (i+1)) (.tmp d)=F5 (envs i) (.tmp d):=by
         show (envs (i+1)).getD d .junk=(envs i).getD d .junk
         rw [lbl,lbl,henvne d hne]
        rw [hev1,hd1]
        exact hq
       ·have:=a24 hb hS (by simpa using ho) hready' (am3 (by omega) hjl)
        rw [hl] at this;cases this
    ·rw [getD_set_ne false (by omega)];exact hI.high j (by omega)
    ·intro j oj hoj hl' e he' hb'
     rcases Z8 hl' with rfl|hl'
     ·rw [ho] at hoj
      injection hoj with hoj
      subst hoj
      exact getD_set_true (hready' e he' hb')
     ·exact getD_set_true (hI.closed j oj hoj hl' e he' hb')
    ·intro j t hj hl' _ _
     rcases Z8 hl' with rfl|hl'
     ·omega
     ·rw [hI.high j (by omega)] at hl';cases hl'
    ·intro t s _ hno2 hs'
     have htl:t<(envs i).length:=by rw [← hlen1];exact (lbe.1 hs').1
     by_cases hdt:o'.dst=some t
     ·have:(envs (i+1))[t]? =some (rs i):=by
       rw [henv,hdt]
       show ((envs i).set t (rs i))[t]? =_
       rw [List.getElem?_set_self htl]
      rw [this] at hs'
      injection hs' with hs'
      subst hs'
      rw [hdt]
      show RS w' ι1 M1 (rs i) ((a.tmps.setIfInBounds t v).getD t undef)
      simpa [show t<a.tmps.size by omega] using g1
     ·rw [henvne t hdt] at hs'
      have hold:RS w ι M s (a.tmps.getD t undef):=by
       by_cases hex:∃j,p<=j∧j<i∧B7 ops j=some t
       ·obtain ⟨j,h3,h4,h5⟩:=hex
        have htp:t<(envs p).length:=by rw [← a8p hT hpi (by omega)];exact htl
        rw [aX0 hT hdo h3 h4 (by omega) h5 htp] at hs'
        injection hs' with hs'
        subst hs'
        refine h1 j t h3 ?_ h5 htp
        cases hl:listed.getD j false with
        |true=>rfl
        |false=>exact absurd h5 (hno2 j (by omega) (by rw [getD_set_ne false (by omega)];exact hl))
       ·rw [a5o hT hpi (by omega) (fun j h3 h4 h5=>hex ⟨j,h3,h4,h5⟩)] at hs'
        refine h2 t s (fun j h3 h4 h5=>?_) (fun j h3 h4 h5=>?_) hs'
        ·rcases Nat.lt_or_ge j i with h|h
         ·exact hex ⟨j,h3,h,h5⟩
         ·rw [hI.high j h] at h4;cases h4
        ·exact hno2 j (by omega) (by rw [getD_set_ne false (by omega)];exact h4) h5
      cases hdd:o'.dst with
      |none=>exact keep hold
      |some d=>
       have hdt':d≠t:=fun e=>hdt (by rw [hdd,e])
       show RS w' ι1 M1 s ((a.tmps.setIfInBounds d v).getD t undef)
       have:=keep hold
       rw [Array.getD_eq_getD_getElem?,Array.getElem?_setIfInBounds_ne hdt']
       rw [Array.getD_eq_getD_getElem?] at this
       exact this
    ·rw [hX];exact hH1.extend hF1
    ·intro j B h3 h4 _ _ k hk
     obtain ⟨Y,hY⟩:=Q6 hT h3 (by omega) (fun k h3' h4'=>r3 k h3' (by omega))
     exact hF1 _ (by rw [hY];simp;omega)
    ·intro id hid
     exact hF1 id (by rw [hX] at hid;simp at hid;omega)
    ·refine ⟨hst1.os,hst1.tape,hst1.output,hst1.size,hst1.keep,hst1.same,hst1.mnew,hst1.mold,?_,by rw [hX];have:=hst1.len;simp;omega⟩
     rintro b ⟨id,k,cap,size,hk,hm,hi'⟩
     have hid:id<(hs (i+1)).length:=by
      rcases Nat.lt_or_ge id (hs (i+1)).length with h|h
      ·exact h
      ·rw [hF1 id h] at hi';cases hi'
     rw [hX,lbb hid] at hk
     exact hst1.live b ⟨id,k,cap,size,hk,hm,hi'⟩
end
theorem a8X {P:Program} {τ:Tab} (hτ:A8 P τ) {ops:Array Oper} {Q:Exit->Act->World->Prop} {K:Env->Hp->Prop} {w0:World} {ι0:Io} {M0:Ms} {H0:Hp} (hM0:MB w0 M0)
 (hK:∀env H a w,K env H->Sim w0 ι0 M0 H0 a w env H->Q .normal a w) {env:Env} {H:Hp} {a:Act} {w:World}
 (hr:a9r ops.toList=true) (h:a8P P τ ops.toList true 0 ops.toList env H K) (hs:Sim w0 ι0 M0 H0 a w env H):wpAny P .any ops Q ops.size (Array.replicate ops.size false) a { w with drawn:=w.drawn+1 }:=by
 simp only [a9r,lbN] at hr
 obtain ⟨⟨hb,hdo⟩,hdep⟩:=hr
 obtain ⟨envs,hps,rs,kd,h1,h2,h3,h4⟩:=ak8 hτ ops.toList 0 env H rfl h
 have hT:∀j,j<ops.size->aK1 P ops.toList envs hps rs kd j:=fun j hj=>h4 j (Nat.zero_le _) (by simpa using hj)
 obtain ⟨q,q1,q2,q3,q4⟩:=aS4 kd 0 ops.size (Nat.zero_le _)
 obtain ⟨X,hX⟩:=Q6 hT q1 q2 q3
 obtain ⟨ι,M,hd,hsz,he,hH,hM,hF,hst⟩:=hs
 have hnone:∀j,(Array.replicate ops.size false).getD j false=false:=fun j=>by
  by_cases hj:j<ops.size
  ·simp [hj]
  ·simp [hj]
 refine b5V hM0 hT hb hdo hdep (fun a w hs=>hK _ _ a w (by simpa using h3) hs) ops.size _ a _ 0 q ?_ ?_
 ·refine ⟨q1,q2,q3,q4,by rw [h2];exact hst.len,by simp,fun j hj=>by omega,fun j _=>hnone j,(fun i o _ hl=>absurd hl (by rw [hnone i];simp)),⟨ι,M,hd,by rw [h1];exact hsz,(fun i t _ hl=>absurd hl (by rw [hnone i];simp)),?_,?_,hM,?_,?_,?_⟩⟩
  ·intro t s _ _ ht
   rw [h1] at ht
   exact (he t s ht).keep (w:=w) (w':={ w with drawn:=w.drawn+1 }) (fun _ _ _=>rfl) (fun b h=>.inl h) (fun _ _ h=>h)
  ·rw [hX,h2]
   have:=p5.extend (X:=X) hH hF
   exact ⟨fun id k hk hd l hl=>by
    have hb:=this.blk id k hk hd l hl
    cases l with
    |nil=>exact hb
    |blk b cap size=>
     obtain ⟨r1,r2,r3,r4,r5,cur,r6,r7,r8⟩:=hb
     exact ⟨r1,r2,r3,r4,r5,cur,r6,r7,fun i j c hc=>by
      obtain ⟨u,s1,s2⟩:=r8 i j c hc
      exact ⟨u,s1,s2.keep (w:=w) (w':={ w with drawn:=w.drawn+1 }) (fun _ _ _=>rfl) (fun b h=>.inl h) (fun _ _ h=>h)⟩⟩,this.liv,this.fro,this.inj,this.old⟩
  ·intro i B _ hi _ hk k hkB
   obtain ⟨Y,hY⟩:=Q6 hT (Nat.zero_le i) (by omega) (fun k h1 h2=>q3 k h1 (by omega))
   exact hF _ (by rw [hY,h2];simp;omega)
  ·intro id hid
   exact hF id (by rw [hX,h2] at hid;simp at hid;omega)
  ·rw [hX,h2]
   refine ⟨hst.os,hst.tape,hst.output,hst.size,hst.keep,hst.same,hst.mnew,hst.mold,?_,by have:=hst.len;simp;omega⟩
   rintro b ⟨id,k,cap,size,hk,hm,hi⟩
   have hid:id<H.length:=by
    rcases Nat.lt_or_ge id H.length with h|h
    ·exact h
    ·rw [hF id h] at hi;cases hi
   rw [lbb hid] at hk
   exact hst.live b ⟨id,k,cap,size,hk,hm,hi⟩
 ·unfold unl
  have:=lbt (fun j=>!(Array.replicate ops.size false).getD j false) (List.range ops.size)
  simpa using this
end
section
open Go.RowKit
def a7H (i:Nat):List Nat->Nat
 |[]=>0
 |x::r=>cond (Nat.beq x i) 0 (a7H i r+1)
def a6F (π:List Nat) (o:Oper):Oper:={ o with after:=(o.after.toList.map fun e=>{ e with on:=a7H e.on π }).toArray,guard:=o.guard.map fun g=>(a7H g.1 π,g.2) }
def W8 (π:List Nat) (ops:List Oper):List Oper:=π.filterMap fun i=>(ops[i]?).map (a6F π)
def aB7 (π:List Nat) (n:Nat):Bool:=Nat.beq π.length n && π.all (fun i=>Nat.blt i n) && (List.range n).all (fun p=>match π[p]? with|some i=>Nat.beq (a7H i π) p|none=>false) && (List.range n).all (fun i=>match π[a7H i π]? with|some j=>Nat.beq j i|none=>false)
def a75 (o:Option (List Nat)) (ops:List Oper):List Oper:=match o with
 |none=>ops
 |some π=>W8 π ops
def b1z (o:Option (List Nat)) (n:Nat):Bool:=match o with
 |none=>true
 |some π=>aB7 π n
structure b2U (ops:List Oper) (K:List Oper->Prop):Prop where
 out:∃o,b1z o ops.length=true∧a9r (a75 o ops)=true∧K (a75 o ops)
structure a4l (π:List Nat) (n:Nat):Prop where
 len:π.length=n
 lt:∀p i:Nat,π[p]? =some i->i<n
 pos:∀i:Nat,i<n->π[a7H i π]? =some i
 inv:∀p i:Nat,π[p]? =some i->a7H i π=p
theorem aM3 {π:List Nat} {n:Nat} (h:aB7 π n=true):a4l π n:=by
 unfold aB7 at h
 simp only [lbN] at h
 obtain ⟨⟨⟨h1,h2⟩,h3⟩,h4⟩:=h
 have hl:=Nat.eq_of_beq_eq_true h1
 refine ⟨hl,fun p i hp=>?_,fun i hi=>?_,fun p i hp=>?_⟩
 ·have:=lbv.1 h2 i (lbm hp)
  simpa using this
 ·have:=lbv.1 h4 i (lbB.2 hi)
  split at this
  ·rename_i j hj
   rw [hj,Nat.eq_of_beq_eq_true this]
  ·cases this
 ·have hlt:=(lbe.1 hp).1
  have:=lbv.1 h3 p (lbB.2 (by omega))
  rw [hp] at this
  exact Nat.eq_of_beq_eq_true this
theorem aE4 {i:Nat}:∀{π:List Nat},i ∉ π->a7H i π=π.length
 |[],_=>rfl
 |x::r,h=>by
  unfold a7H
  have h1:Nat.beq x i=false:=by
   cases hb:Nat.beq x i with
   |false=>rfl
   |true=>exact absurd (by rw [Nat.eq_of_beq_eq_true hb];simp) h
  rw [h1,cond_false,aE4 (fun hm=>h (by simp [hm]))];rfl
theorem a6e {α β:Type} {f:α->Option β}:∀{l:List α},(∀ x ∈ l,(f x).isSome=true)->∀p:Nat,(l.filterMap f)[p]? =(l[p]?).bind f
 |[],_,p=>by simp
 |x::r,h,p=>by
  obtain ⟨y,hy⟩:=Option.isSome_iff_exists.1 (h x (by simp))
  rw [List.filterMap_cons_some hy]
  cases p with
  |zero=>simp [hy]
  |succ p=>simpa using a6e (fun x hx=>h x (by simp [hx])) p
theorem a6c {α β:Type} {f:α->Option β}:∀{l:List α},(∀ x ∈ l,(f x).isSome=true)->(l.filterMap f).length=l.length
 |[],_=>rfl
 |x::r,h=>by
  obtain ⟨y,hy⟩:=Option.isSome_iff_exists.1 (h x (by simp))
  rw [List.filterMap_cons_some hy,lbu,lbu,a6c fun x hx=>h x (by simp [hx])]
theorem aL5 {π:List Nat} {ops:List Oper} (hP:a4l π ops.length) {p i:Nat} (hp:π[p]? =some i):(W8 π ops)[p]? =(ops[i]?).map (a6F π):=by
 unfold W8
 rw [a6e (fun x hx=>?_),hp]
 ·rfl
 ·obtain ⟨q,hq⟩:=List.getElem?_of_mem hx
  have:=hP.lt q x hq
  rw [lbf this];rfl
theorem a7n {π:List Nat} {ops:List Oper} (hP:a4l π ops.length):(W8 π ops).length=ops.length:=by
 rw [← hP.len]
 unfold W8
 refine a6c fun x hx=>?_
 obtain ⟨q,hq⟩:=List.getElem?_of_mem hx
 have:=hP.lt q x hq
 rw [lbf this];rfl
section
variable {P:Program} {Q:Exit->Act->World->Prop} {md:Region.Mode} {π:List Nat} {ops ops':Array Oper}
structure aH5 (π:List Nat) (n:Nat) (listed listed':Array Bool):Prop where
 s:listed.size=n
 s':listed'.size=n
 eq:∀p i:Nat,π[p]? =some i->listed'.getD p false=listed.getD i false
theorem b3J {n p i:Nat} (hP:a4l π n) {listed listed':Array Bool} (h:aH5 π n listed listed') (hp:π[p]? =some i):aH5 π n (listed.setIfInBounds i true) (listed'.setIfInBounds p true):=by
 refine ⟨by simp [h.s],by simp [h.s'],fun q j hq=>?_⟩
 have h1:=hP.lt p i hp
 have h2:=hP.lt q j hq
 have h3:p<n:=by rw [← hP.len];exact (lbe.1 hp).1
 have h4:q<n:=by rw [← hP.len];exact (lbe.1 hq).1
 have he:=h.eq q j hq
 by_cases hqp:q=p
 ·subst hqp
  rw [hp] at hq
  injection hq with hq
  subst hq
  simp [h.s,h.s',h1,h3]
 ·have hji:j≠i:=fun e=>by
   subst e
   have a:=hP.inv p j hp
   have b:=hP.inv q j hq
   omega
  rw [Array.getD_eq_getD_getElem?] at he ⊢
  rw [Array.getD_eq_getD_getElem?] at he ⊢
  rw [Array.getElem?_setIfInBounds_ne (Ne.symm hqp),Array.getElem?_setIfInBounds_ne (Ne.symm hji)]
  exact he
theorem a6B (hP:a4l π ops.size) (ho:ops'.toList=W8 π ops.toList) {listed listed':Array Bool} (h:aH5 π ops.size listed listed') {p i:Nat} (hp:π[p]? =some i):
 p ∈ Region.ready md ops' listed'↔i ∈ Region.ready md ops listed:=by
 have hP':a4l π ops.toList.length:=by simpa using hP
 have hlen:ops'.size=ops.size:=by
  have:=congrArg List.length ho
  rw [a7n hP'] at this
  simpa using this
 have hi:=hP.lt p i hp
 have hpn:p<ops.size:=by rw [← hP.len];exact (lbe.1 hp).1
 have hop:ops'[p]? =(ops[i]?).map (a6F π):=by
  have:=aL5 hP' hp
  rw [← ho] at this
  simpa using this
 have hoi:ops[i]? =some ops[i]:=Array.getElem?_eq_getElem hi
 have hl:=h.eq p i hp
 have hD:∀(l:Array Bool) (j:Nat),j<l.size->l.getD j true=l.getD j false:=fun l j hj=>by simp [hj]
 unfold Region.ready
 rw [lby,lby,lbB,lbB,hop,hoi]
 simp only [Option.map_some,Option.getD_some]
 rw [hD listed i (by rw [h.s];exact hi),hD listed' p (by rw [h.s'];exact hpn),hl,hlen]
 have e:(a6F π ops[i]).after.all (fun e=>!Region.binds md e || listed'.getD e.on false)=ops[i].after.all (fun e=>!Region.binds md e || listed.getD e.on false):=by
  rw [← Array.all_toList,←Array.all_toList]
  show ((ops[i].after.toList.map fun e=>({ e with on:=a7H e.on π }:Edge)).toArray.toList).all _=_
  rw [List.all_map]
  congr 1
  funext e
  show (!Region.binds md { e with on:=a7H e.on π } || listed'.getD (a7H e.on π) false)=_
  have hb:Region.binds md { e with on:=a7H e.on π }=Region.binds md e:=rfl
  rw [hb]
  congr 1
  by_cases hn:e.on<ops.size
  ·exact h.eq _ _ (hP.pos _ hn)
  ·have hm:e.on ∉ π:=fun hm=>by
    obtain ⟨q,hq⟩:=List.getElem?_of_mem hm
    exact hn (hP.lt q _ hq)
   rw [aE4 hm,hP.len]
   simp [h.s,h.s',hn]
 rw [e]
 simp [hi,hpn]
theorem b3f (hP:a4l π ops.size) (ho:ops'.toList=W8 π ops.toList) {p i:Nat} (hp:π[p]? =some i) {K K':Act->World->Prop} (hK:∀a w,K' a w->K a w) {a:Act} {w:World} (h:wpOp P ops' Q p K' a w):wpOp P ops Q i K a w:=by
 have hP':a4l π ops.toList.length:=by simpa using hP
 have hi:=hP.lt p i hp
 have hget:∀q j,π[q]? =some j->ops'[q]? =(ops[j]?).map (a6F π):=fun q j hq=>by
  have:=aL5 hP' hq
  rw [← ho] at this
  simpa using this
 have hlen:ops'.size=ops.size:=by
  have:=congrArg List.length ho
  rw [a7n hP'] at this
  simpa using this
 have hoi:ops[i]? =some ops[i]:=Array.getElem?_eq_getElem hi
 have hy:∀j,yielded ops' a.tmps (a7H j π)=yielded ops a.tmps j:=fun j=>by
  unfold yielded
  by_cases hn:j<ops.size
  ·rw [hget _ _ (hP.pos j hn),Array.getElem?_eq_getElem hn];rfl
  ·have hm:j ∉ π:=fun hm=>by
    obtain ⟨q,hq⟩:=List.getElem?_of_mem hm
    exact hn (hP.lt q _ hq)
   rw [aE4 hm,hP.len,Array.getElem?_eq_none (by omega),Array.getElem?_eq_none (by omega)]
 have hw:Region.wanted (a6F π ops[i]) (yielded ops' a.tmps)=Region.wanted ops[i] (yielded ops a.tmps):=by
  unfold Region.wanted a6F
  cases ops[i].guard with
  |none=>rfl
  |some g=>simp only [Option.map_some];rw [hy]
 have h2:wpOp P ops Q i K' a w:=by
  unfold wpOp at h ⊢
  rw [hget p i hp,hoi] at h
  rw [hoi]
  simp only [Option.map_some] at h
  rw [hw] at h
  exact h
 exact wpOp_mono hK h2
theorem aV7 (hP:a4l π ops.size) (ho:ops'.toList=W8 π ops.toList):∀(fuel:Nat) (listed listed':Array Bool) (a:Act) (w:World),aH5 π ops.size listed listed'->wpAny P md ops' Q fuel listed' a w->wpAny P md ops Q fuel listed a w:=by
 have hP':a4l π ops.toList.length:=by simpa using hP
 have hlen:ops'.size=ops.size:=by
  have:=congrArg List.length ho
  rw [a7n hP'] at this
  simpa using this
 have hnil:∀listed listed',aH5 π ops.size listed listed'->(Region.ready md ops' listed'=[]↔Region.ready md ops listed=[]):=fun listed listed' h=>by
  constructor
  ·intro he
   cases hr:Region.ready md ops listed with
   |nil=>rfl
   |cons i r=>
    have hm:i ∈ Region.ready md ops listed:=by rw [hr];simp
    have hi:i<ops.size:=by unfold Region.ready at hm;exact lbB.1 (lby.1 hm).1
    have:=(a6B hP ho h (hP.pos i hi)).2 hm
    rw [he] at this;cases this
  ·intro he
   cases hr:Region.ready md ops' listed' with
   |nil=>rfl
   |cons p r=>
    have hm:p ∈ Region.ready md ops' listed':=by rw [hr];simp
    have hpn:p<ops'.size:=by unfold Region.ready at hm;exact lbB.1 (lby.1 hm).1
    have:=(a6B hP ho h (lbf (by rw [hP.len];omega))).1 hm
    rw [he] at this;cases this
 intro fuel
 induction fuel with
 |zero=>intro listed listed' a w h hh;exact ⟨(hnil _ _ h).1 hh.1,hh.2⟩
 |succ fuel ih=>
  intro listed listed' a w h hh
  refine ⟨fun he=>hh.1 ((hnil _ _ h).2 he),fun i hi=>?_⟩
  have hin:i<ops.size:=by unfold Region.ready at hi;exact lbB.1 (lby.1 hi).1
  have hp:=hP.pos i hin
  exact b3f hP ho hp (fun a w hk=>ih _ _ a w (b3J hP h hp) hk) (hh.2 _ ((a6B hP ho h hp).2 hi))
end
theorem aY5 {P:Program} {τ:Tab} (hτ:A8 P τ) {ops:Array Oper} {Q:Exit->Act->World->Prop} {K:Env->Hp->Prop} {w0:World} {ι0:Io} {M0:Ms} {H0:Hp} (hM0:MB w0 M0)
 (hK:∀env H a w,K env H->Sim w0 ι0 M0 H0 a w env H->Q .normal a w) {env:Env} {H:Hp} {a:Act} {w:World} {id:Nat} {o:Option (List Nat)}
 (ho:b1z o ops.toList.length=true) (hr:a9r (a75 o ops.toList)=true) (h:a8P P τ (a75 o ops.toList) true 0 (a75 o ops.toList) env H K) (hs:Sim w0 ι0 M0 H0 a w env H):(Code.region id ops true).wp P Q a w:=by
 refine wp_region_any hτ.mixed ?_
 cases o with
 |none=>exact a8X hτ hM0 hK hr h hs
 |some π=>
  have hP:a4l π ops.toList.length:=aM3 ho
  have hP2:a4l π ops.size:=by simpa using hP
  have h1:=a8X (ops:=(W8 π ops.toList).toArray) hτ hM0 hK hr h hs
  have hl:(W8 π ops.toList).toArray.size=ops.size:=by simp [a7n hP]
  rw [hl] at h1
  exact aV7 hP2 rfl _ _ _ _ _ ⟨by simp,by simp,fun p i hp=>by
   have a1:=hP2.lt p i hp
   have a2:p<ops.size:=by rw [← hP2.len];exact (lbe.1 hp).1
   simp [a1,a2]⟩ h1
end
section
open Go.RowKit
inductive AX where
 |normal
 |exit (id:Nat)
 |ret
def AX.real:AX->Exit
 |.normal=>.normal
 |.exit id=>.exit id
 |.ret=>.ret
structure Awp (P:Program) (n0:Nat) (c:Code) (env:Env) (H:Hp) (Q:AX->Env->Hp->Prop):Prop where
 out:∀(w0:World) (ι0:Io) (M0:Ms) (H0:Hp) (a:Act) (w:World),H0.length=n0->MB w0 M0->Sim w0 ι0 M0 H0 a w env H->
  c.wp P (fun e a' w'=>∃x env' H',e=AX.real x∧Q x env' H'∧Sim w0 ι0 M0 H0 a' w' env' H') a w
abbrev AQ:=AX->Env->Hp->Prop
abbrev AC:=Env->Hp->AQ->Prop
def b4U:AC:=fun env H Q=>Q .normal env H
noncomputable def b4h (P:Program) (τ:Tab) (_:Nat) (ops:Array Oper) (draw:Bool):AC:=fun env H Q=>match draw with
 |true=>b2U ops.toList fun ops=>a8P P τ ops true 0 ops env H (Q .normal)
 |false=>a8P P τ ops.toList false 0 ops.toList env H (Q .normal)
def b8R (b:AC) (Q:AQ):AQ:=fun x env' H'=>match x with
    |.normal=>b env' H' Q
    |.exit j=>Q (.exit j) env' H'
    |.ret=>Q .ret env' H'
def bf1 (_ _:Code) (a b:AC):AC:=fun env H Q=>a env H (b8R b Q)
def b9X (c:Operand) (_ _:Code) (t e:AC):AC:=fun env H Q=>match F5 env c with
    |.c (.t (.atm (.bool b)))=>cond b (t env H Q) (e env H Q)
    |_=>False
def bf2 (id:Nat) (Q:AQ):AQ:=fun x env' H'=>match x with
    |.exit j=>cond (Nat.beq j id) (Q .normal env' H') (Q (.exit j) env' H')
    |.normal=>Q .normal env' H'
    |.ret=>Q .ret env' H'
def b8a (id:Nat) (_:Code) (b:AC):AC:=fun env H Q=>b env H (bf2 id Q)
def b97 (P:Program) (n0:Nat) (c:Code) (_:AC):AC:=fun env H Q=>Awp P n0 (.loop c) env H Q
def b9v (id:Nat):AC:=fun env H Q=>Q (.exit id) env H
def bf5:AC:=fun env H Q=>Q .ret env H
def b7S:AC:=fun _ _ _=>False
noncomputable def a4T (P:Program) (τ:Tab) (n0:Nat) (c:Code):Env->Hp->(AX->Env->Hp->Prop)->Prop:=
 Code.rec (motive:=fun _=>AC) b4U (b4h P τ) bf1 b9X b8a (b97 P n0) (fun _ _ _ _ _ _=>b7S) b9v (fun _ _=>b7S) (fun _=>b4U) (fun _=>b7S) bf5 (fun _=>b7S) c
theorem z6 {P:Program} {τ:Tab} {n0:Nat} (hτ:A8 P τ) (c:Code):∀{env:Env} {H:Hp} {Q:AX->Env->Hp->Prop},a4T P τ n0 c env H Q->Awp P n0 c env H Q:=by
 induction c with
 |skip=>intro env H Q h;refine ⟨fun w0 ι0 M0 H0 a w hn hM hs=>?_⟩;exact wp_skip ⟨.normal,env,H,rfl,h,hs⟩
 |region id ops draw=>
  intro env H Q h
  refine ⟨fun w0 ι0 M0 H0 a w hn hM hs=>?_⟩
  cases draw with
  |false=>
   refine wp_region ?_
   have:=b5x hτ hM (Q:=fun e a' w'=>∃x env' H',e=AX.real x∧Q x env' H'∧Sim w0 ι0 M0 H0 a' w' env' H') (K:=Q .normal)
    (fun env H a w hk hs=>⟨.normal,env,H,rfl,hk,hs⟩) ops.toList 0 env H a w rfl h hs
   rw [List.range_eq_range']
   simpa using this
  |true=>
   have h:b2U ops.toList fun ops=>a8P P τ ops true 0 ops env H (Q .normal):=h
   obtain ⟨π,h1,h2,h3⟩:=h.out
   exact aY5 hτ hM (fun env H a w hk hs=>⟨.normal,env,H,rfl,hk,hs⟩) h1 h2 h3 hs
 |seq x y ihx ihy=>
  intro env H Q h
  refine ⟨fun w0 ι0 M0 H0 a w hn hM hs=>?_⟩
  refine wp_seq (wp_mono ((ihx h).out w0 ι0 M0 H0 a w hn hM hs) ?_)
  rintro e a' w' ⟨x,env',H',rfl,hq,hs'⟩
  cases x with
  |normal=>exact (ihy hq).out w0 ι0 M0 H0 a' w' hn hM hs'
  |exit id=>exact ⟨_,env',H',rfl,hq,hs'⟩
  |ret=>exact ⟨_,env',H',rfl,hq,hs'⟩
 |cond c t e iht ihe=>
  intro env H Q h
  refine ⟨fun w0 ι0 M0 H0 a w hn hM hs=>?_⟩
  have h:(match F5 env c with
   |.c (.t (.atm (.bool b)))=>cond b (a4T P τ n0 t env H Q) (a4T P τ n0 e env H Q)
   |_=>False):=h
  split at h
  ·rename_i b hb
   obtain ⟨ι,M,hd,hsz,he,hH,hMB,hF,hst⟩:=hs
   have hv:=(he.ev.to hb).inv_atm
   have hs:Sim w0 ι0 M0 H0 a w env H:=⟨ι,M,hd,hsz,he,hH,hMB,hF,hst⟩
   refine wp_cond hv ?_
   cases b with
   |true=>exact (iht h).out w0 ι0 M0 H0 a w hn hM hs
   |false=>exact (ihe h).out w0 ι0 M0 H0 a w hn hM hs
  ·exact h.elim
 |block id c ih=>
  intro env H Q h
  refine ⟨fun w0 ι0 M0 H0 a w hn hM hs=>?_⟩
  refine wp_block (wp_mono ((ih h).out w0 ι0 M0 H0 a w hn hM hs) ?_)
  rintro e a' w' ⟨x,env',H',rfl,hq,hs'⟩
  cases x with
  |normal=>exact ⟨_,env',H',rfl,hq,hs'⟩
  |exit j=>
   have hq:cond (Nat.beq j id) (Q .normal env' H') (Q (.exit j) env' H'):=hq
   show if j=id then _ else _
   by_cases hj:j=id
   ·subst hj
    rw [if_pos rfl]
    simp only [Nat.beq_refl,cond_true] at hq
    exact ⟨_,env',H',rfl,hq,hs'⟩
   ·rw [if_neg hj]
    have:Nat.beq j id=false:=by
     cases hb:Nat.beq j id with
     |false=>rfl
     |true=>exact absurd (Nat.eq_of_beq_eq_true hb) hj
    simp only [this,cond_false] at hq
    exact ⟨_,env',H',rfl,hq,hs'⟩
  |ret=>exact ⟨_,env',H',rfl,hq,hs'⟩
 |loop c ih=>intro env H Q h;exact h
 |exit id=>intro env H Q h;refine ⟨fun w0 ι0 M0 H0 a w hn hM hs=>?_⟩;exact wp_exit ⟨.exit id,env,H,rfl,h,hs⟩
 |ret=>intro env H Q h;refine ⟨fun w0 ι0 M0 H0 a w hn hM hs=>?_⟩;exact wp_ret ⟨.ret,env,H,rfl,h,hs⟩
 |label l=>intro env H Q h;refine ⟨fun w0 ι0 M0 H0 a w hn hM hs=>?_⟩;exact wp_label ⟨.normal,env,H,rfl,h,hs⟩
 |_=>intros;rename_i h;exact False.elim h
def b3t (τ:Tab) (env:Env) (H:Hp):List ResultVar->(List S->Prop)->Prop
 |[],k=>k []
 |.tmp t::r,k=>ah7 (F5 env (.tmp t)) fun s=>b3t τ env H r fun l=>k (s::l)
 |.cell x t::r,k=>at4 τ (F5 env) H t (.tmp x) fun s=>b3t τ env H r fun l=>k (s::l)
def a71 (τ:Tab) (fn:Func) (env:Env) (H:Hp) (k:S->Prop):Prop:=
 b3t τ env H fn.results.toList fun l=>match l with
  |[s]=>k s
  |l=>k (.tup l)
theorem Sim.init {w:World} {ι:Io} {M:Ms} {H:Hp} {vals:List Value} {args:List S} (hl:vals.length=args.length) (hr:∀j s,args[j]? =some s->RS w ι M s (vals.getD j undef))
 (hH:p5 w ι M H) (hM:MB w M) (hF:a2E ι H.length) (n:Nat):
 Sim w ι M H { tmps:=vals.toArray++Array.replicate n undef,defers:=[] } w (args++List.replicate n .junk) H:=by
 refine ⟨ι,M,rfl,by simp [hl],fun t s ht=>?_,hH,hM,hF,a4t.refl w ι M H⟩
 by_cases h:t<args.length
 ·rw [lbb h] at ht
  have:=hr t s ht
  have hlt:t<vals.length:=by omega
  rw [lbl,lbf hlt] at this
  rw [Array.getD_eq_getD_getElem?,Array.getElem?_append_left (by simpa using hlt)]
  simpa [hlt] using this
 ·rw [lbc (by omega),lbk] at ht
  split at ht
  ·injection ht with ht;subst ht;exact .junk
  ·cases ht
theorem a76 {P:Program} {τ:Tab} (hτ:A8 P τ) {w:World} {ι:Io} {M:Ms} {env:Env} {H:Hp} {a:Act} (he:a3u w ι M env a) (hH:p5 w ι M H):∀(rs:List ResultVar) {k:List S->Prop},b3t τ env H rs k->
 ∃l,k l∧∃vs:List Value,(rs.mapM fun|.tmp t=>pure (a.tmps.getD t undef)|.cell x t=>do loadVar t (← asAddr (a.tmps.getD x undef)):Sem (List Value)).run P w=.ok vs w∧vs.length=l.length∧
  ∀(j:Nat) (s:S),l[j]? =some s->RS w ι M s (vs.getD j undef)
 |[],k,h=>⟨[],h,[],by simp,rfl,by simp⟩
 |.tmp t::r,k,h=>by
  simp only [b3t] at h
  rw [a1E] at h
  obtain ⟨l,hk,vs,h1,h2,h3⟩:=a76 hτ he hH r h
  refine ⟨_,hk,a.tmps.getD t undef::vs,?_,by simp [h2],fun j s hj=>?_⟩
  ·simp only [List.mapM_cons,Sem.run_bind,Sem.run_pure,Result.andThen_ok,h1]
  ·cases j with
   |zero=>simp at hj;subst hj;exact he.ev (.tmp t)
   |succ j=>simpa using h3 j s (by simpa using hj)
 |.cell x t::r,k,h=>by
  simp only [b3t] at h
  obtain ⟨s,hs,hv⟩:=ar8 hτ h
  obtain ⟨v,ad,g0,g1,g2⟩:=hv a w ι M he.ev hH
  obtain ⟨l,hk,vs,h1,h2,h3⟩:=a76 hτ he hH r hs
  have g0':a.tmps.getD x undef=.pointer (some ad):=g0
  have e:(do loadVar t (← asAddr (a.tmps.getD x undef)):Sem Value).run P w=.ok v w:=by
   rw [g0] at g1
   rw [g0']
   simpa [asAddr,Instr.loadAt,Instr.sureAddr] using g1
  refine ⟨_,hk,v::vs,?_,by simp [h2],fun j s hj=>?_⟩
  ·simp only [List.mapM_cons,Sem.run_bind,Sem.run_pure,Result.andThen_ok] at e ⊢
   rw [e]
   simp only [Result.andThen_ok,h1]
  ·cases j with
   |zero=>simp at hj;subst hj;exact g2
   |succ j=>simpa using h3 j s (by simpa using hj)
end
section
open Go.RowKit
def b9A (P:Program) (t:TypeId):Option TK:=
 match P.underlying t with
 |some .bool=>some .bool
 |some (.int k)=>some (.int k)
 |some (.slice e)=>some (.slice e)
 |some (.array n e)=>some (.arr n e)
 |some (.struct fs)=>cond (fs.toList.all fun f=>(P.info? f.type).isSome) (some (.struct (fs.toList.map fun f=>(f.offset,P.cellsOf f.type,false)))) none
 |some _=>some .bas
 |none=>none
def bc8:TK->Bool
 |.arr _ _=>true
 |.struct _=>true
 |_=>false
theorem au8 {P:Program}:∀(fs:List Field),(fs.all fun f=>(P.info? f.type).isSome)=true->
 fs.mapM (fun f=>(P.info? f.type).map fun i=>(f.offset,i.size))=some ((fs.map fun f=>(f.offset,P.cellsOf f.type,false)).map (fun x=>(x.1,x.2.1)))
 |[],_=>rfl
 |f::fs,h=>by
  simp only [List.all_cons,lbN] at h
  obtain ⟨i,hi⟩:=Option.isSome_iff_exists.1 h.1
  have ih:=au8 fs h.2
  have hc:P.cellsOf f.type=i.size:=by simp [Program.cellsOf,hi]
  simp only [List.mapM_cons,hi,ih,List.map_cons,hc,Option.map_some]
  rfl
theorem bf9 {P:Program} {t:TypeId} {d:TD} (h1:b9A P t=some d.k) (h2:d.agg=bc8 d.k)
 (h3:(P.info? t).map (fun i=>(i.zero.map (·.cells.toList),i.size,i.bytes))=some (some d.zero,d.size,d.bytes)) (h4:d.zero.all (·.oneCell')=true) (h5:d.zero.length=d.size):aB1 P t d:=by
 constructor
 ·cases hi:P.info? t with
  |none=>rw [hi] at h3;cases h3
  |some i=>
   rw [hi] at h3
   simp only [Option.map_some,lb5,Prod.mk.injEq] at h3
   cases hz:i.zero with
   |none=>rw [hz] at h3;cases h3.1
   |some z=>
    rw [hz] at h3
    simp only [Option.map_some,lb5] at h3
    exact ⟨i,rfl,h3.2.1,h3.2.2,z,hz,h3.1,fun v hv=>lbv.1 h4 v hv,h5⟩
 ·unfold b9A at h1
  cases hu:P.underlying t with
  |none=>rw [hu] at h1;cases h1
  |some u=>
   rw [hu] at h1
   refine ⟨u,rfl,?_⟩
   rw [h2]
   cases u with
   |struct fs=>
    simp only at h1
    cases hb:(fs.toList.all fun f=>(P.info? f.type).isSome) with
    |false=>rw [hb] at h1;cases h1
    |true=>
     rw [hb] at h1
     simp only [cond_true,lb5] at h1
     rw [← h1]
     refine ⟨rfl,fs,rfl,?_,fun f hf=>lbv.1 hb f hf,au8 _ hb⟩
     simp
   |_=>simp only [lb5] at h1<;>rw [← h1]<;>exact ⟨rfl,by first|trivial|rfl⟩
def b2b (P:Program):Nat->List (Option TD)->Prop
 |_,[]=>True
 |t,none::r=>b2b P (t+1) r
 |t,some d::r=>aB1 P t d∧b2b P (t+1) r
theorem a8o {P:Program}:∀(l:List (Option TD)) (t0:Nat),b2b P t0 l->∀i d,l.getD i none=some d->aB1 P (t0+i) d
 |[],_,_,i,d,h=>by simp at h
 |none::r,t0,hr,i,d,h=>by
  cases i with
  |zero=>simp at h
  |succ i=>have:=a8o r (t0+1) hr i d (by simpa using h);rwa [show t0+1+i=t0+(i+1) by omega] at this
 |some e::r,t0,hr,i,d,h=>by
  cases i with
  |zero=>simp at h;subst h;exact hr.1
  |succ i=>have:=a8o r (t0+1) hr.2 i d (by simpa using h);rwa [show t0+1+i=t0+(i+1) by omega] at this
theorem b4w {P:Program} {l:List (Option TD)} (hm:P.follows .mixedOrders=true) (h:b2b P 0 l):A8 P (fun t=>l.getD t none):=⟨hm,fun t d hd=>by
 have:=a8o l 0 h t d hd
 rwa [Nat.zero_add] at this⟩
end
section
open Go.RowKit
def a4K:T->T->T
 |.sl s .any _,.sl s0 k r=>match k with
  |.nil=>.sl s .any []
  |_=>.sl s0 .any r
 |_,x=>x
theorem RT.weak {w:World} {M:Ms} {x y:T} {v:Value} (h:a4K y x=y) (hr:RT w M x v):RT w M y v:=by
 unfold a4K at h
 split at h
 ·split at h
  ·rw [← h]
   cases hr with
   |sl f hrow hcap hmax hk hn hA hc hr=>
    obtain ⟨rfl,rfl,rfl⟩:=hn rfl
    exact .sl (b:=0) (off:=0) (fun _ _=>undef) (by simp) hcap hmax (by intro h;cases h) (by intro h;cases h) (by simp) (by simp [at2]) (by simp [at2])
  ·rw [← h]
   cases hr with
   |sl f hrow hcap hmax hk hn hA hc hr=>exact .sl f hrow hcap hmax (by intro h;cases h) (by intro h;cases h) hA hc hr
 ·rw [← h];exact hr
theorem a1x (x:T):a4K x x=x:=by
 cases x with
 |sl s k r=>cases k<;>rfl
 |_=>rfl
theorem a9T {x y:T} (h:x=y):a4K y x=y:=by subst h;exact a1x x
mutual
def VC (H:Hp) (p:Nat->Prop):C->T->Prop
 |.t x,y=>a4K y x=y
 |.ptr id r o,y=>match y with
  |.ptr cells=>p id∧∃k row,H[id]? =some k∧¬k.mode.gone∧k.rows[r]? =some row∧row.drop o=cells.map C.t
  |_=>False
 |.own id lo len _,y=>match y with
  |.sl size .any rows=>p id∧∃k,H[id]? =some k∧¬k.mode.gone∧k.size=size∧lo+len<=k.rows.length∧(k.rows.drop lo).take len=toC rows
  |_=>False
 |.fn f caps,y=>match y with
  |.fn f' caps'=>f=f'∧VL H p caps caps'
  |_=>False
def VL (H:Hp) (p:Nat->Prop):List C->List T->Prop
 |[],ys=>ys=[]
 |x::r,ys=>match ys with
  |[]=>False
  |y::r'=>VC H p x y∧VL H p r r'
end
theorem b8W {rows:List (List T)} {i j:Nat} {c:T} (h:at2 rows i j=some c):at2 (toC rows) i j=some (.t c):=by
 obtain ⟨row,h1,h2⟩:=C7 h
 exact z5 (row:=row.map C.t) (by simp [toC,h1]) (by simp [h2])
mutual
theorem VC.rt {H:Hp} {p:Nat->Prop} {w:World} {ι:Io} {M M':Ms} (hH:p5 w ι M H) (hM:∀b,M' b->M b) (hp:∀id k b cap size,p id->H[id]? =some k->¬k.mode.gone->ι id=some (.blk b cap size)->¬M' b):
 ∀(x:C) (y:T) (v:Value),VC H p x y->RC w ι M x v->RT w M' y v
 |.t x,y,v,h,hr=>by
  have h:a4K y x=y:=by simpa only [VC] using h
  cases hr with
  |t hr=>exact (hr.weak h).keep (fun _ _ _=>rfl) (fun b hb=>.inl (hM b hb))
 |.ptr id r o,y,v,h,hr=>by
  cases y with
  |ptr cells=>
   simp only [VC] at h
   obtain ⟨hpi,k,row,hk,hd,hrow,hc⟩:=h
   cases hr with
   |@ptr _ _ _ b cap size hi=>
    have hb:=(hH.blk id k hk (fun e=>hd (by rw [e];trivial)) _ hi).row hrow
    have hnm:=hp id k b cap size hpi hk hd hi
    have hat:∀(j:Nat) (c:T),cells[j]? =some c->row[o+j]? =some (.t c):=fun j c hj=>by
     have:(row.drop o)[j]? =some (.t c):=by rw [hc,lba,hj];rfl
     rwa [lbj] at this
    refine .ptr (fun j=>(w.cell? ⟨b,r*size+o+j,none⟩).getD undef) (fun j c hj=>?_) (fun j c hj=>?_)
    ·obtain ⟨u,h1,h2⟩:=hb _ _ (hat j c hj)
     rw [Nat.add_assoc,h1]
     exact ⟨rfl,hnm⟩
    ·obtain ⟨u,h1,h2⟩:=hb _ _ (hat j c hj)
     rw [Nat.add_assoc,h1]
     cases h2 with
     |t h2=>exact h2.keep (fun _ _ _=>rfl) (fun b hb=>.inl (hM b hb))
  |_=>simp only [VC] at h
 |.own id lo len app,y,v,h,hr=>by
  cases y with
  |sl size sk rows=>
   cases sk with
   |any=>
    simp only [VC] at h
    obtain ⟨hpi,k,hk,hd,hsz,hl,hc⟩:=h
    have hlen:rows.length=len:=by
     have:=congrArg List.length hc
     simp [toC] at this
     omega
    cases hr with
    |@own _ _ _ _ b cap sz A cap' hi q1 q2 q3 q4 q5=>
     have hbr:=hH.blk id k hk (fun e=>hd (by rw [e];trivial)) _ hi
     obtain ⟨r1,r2,r3,r4,r5,cur,r6,r7,r8⟩:=hbr
     have hnm:=hp id k b cap sz hpi hk hd hi
     have hse:sz=size:=by rw [← hsz,r1]
     subst hse
     have hat:∀(i j:Nat) (c:T),at2 rows i j=some c->∃u,cur[(lo+i)*sz+j]? =some u∧RT w M' c u:=fun i j c hij=>by
      have h1:=b8W hij
      rw [← hc] at h1
      obtain ⟨row,s1,s2⟩:=C7 h1
      rw [lbi] at s1
      split at s1
      ·rw [lbj] at s1
       obtain ⟨u,t1,t2⟩:=r8 _ _ _ (z5 s1 s2)
       refine ⟨u,t1,?_⟩
       cases t2 with
       |t t2=>exact t2.keep (fun _ _ _=>rfl) (fun b hb=>.inl (hM b hb))
      ·cases s1
     subst hlen
     refine .sl (b:=b) (off:=lo*sz) (fun i j=>cur.getD ((lo+i)*sz+j) undef) ?_ q3 q4 (by intro h;cases h) (by intro h;cases h) (fun hne=>q2 (List.length_pos_iff.2 hne)) ?_ ?_
     ·intro r hr'
      have:r.map C.t ∈ toC rows:=lbx.2 ⟨r,hr',rfl⟩
      rw [← hc] at this
      have:=r5 _ (List.mem_of_mem_drop (List.mem_of_mem_take this))
      simpa using this
     ·intro i j c hij
      obtain ⟨u,t1,t2⟩:=hat i j c hij
      refine ⟨?_,hnm⟩
      rw [show lo*sz+(i*sz+j)=(lo+i)*sz+j by rw [Nat.add_mul];omega]
      simp [World.cell?,r6,t1]
     ·intro i j c hij
      obtain ⟨u,t1,t2⟩:=hat i j c hij
      have:cur.getD ((lo+i)*sz+j) undef=u:=by simp [t1]
      show RT w M' c (cur.getD ((lo+i)*sz+j) undef)
      rw [this];exact t2
    |nil hi=>
     have hr0:rows=[]:=lbF hlen
     subst hr0
     exact .sl (b:=0) (off:=0) (fun _ _=>undef) (by simp) (by simp) (by unfold maxLen;omega) (by simp) (by simp) (by simp) (by simp [at2]) (by simp [at2])
   |_=>simp only [VC] at h
  |_=>simp only [VC] at h
 |.fn f caps,y,v,h,hr=>by
  cases y with
  |fn f' caps'=>
   simp only [VC] at h
   obtain ⟨rfl,h⟩:=h
   cases hr with
   |fn vs hl hr=>
    obtain ⟨h1,h2⟩:=VL.rt hH hM hp caps caps' h
    exact .fn vs (by omega) fun j c hj=>by
     have hlt:=(lbe.1 hj).1
     exact h2 j _ c _ (lbf (by omega)) hj (hr j _ (lbf (by omega)))
  |_=>simp only [VC] at h
theorem VL.rt {H:Hp} {p:Nat->Prop} {w:World} {ι:Io} {M M':Ms} (hH:p5 w ι M H) (hM:∀b,M' b->M b) (hp:∀id k b cap size,p id->H[id]? =some k->¬k.mode.gone->ι id=some (.blk b cap size)->¬M' b):
 ∀(xs:List C) (ys:List T),VL H p xs ys->xs.length=ys.length∧∀(j:Nat) (x:C) (y:T) (v:Value),xs[j]? =some x->ys[j]? =some y->RC w ι M x v->RT w M' y v
 |[],ys,h=>by
  simp only [VL] at h
  subst h
  exact ⟨rfl,by simp⟩
 |x::r,ys,h=>by
  cases ys with
  |nil=>simp only [VL] at h
  |cons y r'=>
   simp only [VL] at h
   obtain ⟨h1,h2⟩:=VL.rt hH hM hp r r' h.2
   refine ⟨by simp [h1],fun j x' y' v hx hy hr=>?_⟩
   cases j with
   |zero=>simp at hx hy;subst hx hy;exact VC.rt hH hM hp x y v h.1 hr
   |succ j=>exact h2 j x' y' v (by simpa using hx) (by simpa using hy) hr
end
theorem aS2 {H:Hp} {p:Nat->Prop} {x y:T} (h:a4K y x=y):VC H p (.t x) y:=by simpa only [VC] using h
theorem b9V {H:Hp} {p:Nat->Prop} {id lo len:Nat} {app:Bool} {size:Nat} {k:Blk} {rows:List (List T)} (hp:p id) (hk:H[id]? =some k) (hd:¬k.mode.gone) (hs:k.size=size) (hl:lo+len<=k.rows.length) (hc:(k.rows.drop lo).take len=toC rows):VC H p (.own id lo len app) (.sl size .any rows):=by
 simp only [VC];exact ⟨hp,k,hk,hd,hs,hl,hc⟩
theorem u4 {H:Hp} {p:Nat->Prop} {id len:Nat} {app:Bool} {size:Nat} {k:Blk} {rows:List (List T)} (hp:p id) (hk:H[id]? =some k) (hd:¬k.mode.gone) (hs:k.size=size) (hc:k.rows=toC rows) (hl:len=rows.length):VC H p (.own id 0 len app) (.sl size .any rows):=
 b9V hp hk hd hs (by rw [hc,hl];simp [toC]) (by rw [hc,hl,List.drop_zero,lbn (by simp [toC])])
def VS (H:Hp) (p:Nat->Prop):S->S->Prop
 |_,.junk=>True
 |.c x,.c (.t y)=>VC H p x y
 |.agg xs,.agg ys=>∃ts,ys=ts.map C.t∧VL H p xs ts
 |_,_=>False
theorem a19 {H:Hp} {p:Nat->Prop} {x:C} {y:T} (h:VC H p x y):VS H p (.c x) (.c (.t y)):=h
theorem VS.rs {H:Hp} {p:Nat->Prop} {w:World} {ι ι':Io} {M M':Ms} (hH:p5 w ι M H) (hM:∀b,M' b->M b) (hp:∀id k b cap size,p id->H[id]? =some k->¬k.mode.gone->ι id=some (.blk b cap size)->¬M' b)
 {x y:S} {v:Value} (h:VS H p x y) (hr:RS w ι M x v):RS w ι' M' y v:=by
 unfold VS at h
 split at h
 ·exact .junk
 ·cases hr with
  |c hr=>exact .c (.t (VC.rt hH hM hp _ _ _ h hr))
 ·obtain ⟨ts,rfl,h⟩:=h
  cases hr with
  |agg vs hl hr=>
   obtain ⟨h1,h2⟩:=VL.rt hH hM hp _ _ h
   refine .agg vs (by simp;omega) fun j c hj=>?_
   rw [lba] at hj
   cases hj':ts[j]? with
   |none=>rw [hj'] at hj;cases hj
   |some c'=>
    rw [hj'] at hj
    injection hj with hj
    subst hj
    have hlt:=(lbe.1 hj').1
    exact .t (h2 j _ c' _ (lbf (by omega)) hj' (hr j _ (lbf (by omega))))
 ·exact h.elim
def a4k (H:Hp) (p:Nat->Prop):List S->List S->Prop
 |[],[]=>True
 |x::r,y::r'=>VS H p x y∧a4k H p r r'
 |_,_=>False
theorem a4k.get {H:Hp} {p:Nat->Prop}:∀{xs ys:List S},a4k H p xs ys->xs.length=ys.length∧∀(j:Nat) (y:S),ys[j]? =some y->∃x,xs[j]? =some x∧VS H p x y
 |[],[],_=>⟨rfl,by simp⟩
 |x::r,y::r',h=>by
  obtain ⟨h1,h2⟩:=a4k.get h.2
  refine ⟨by simp [h1],fun j y' hj=>?_⟩
  cases j with
  |zero=>simp at hj;subst hj;exact ⟨x,rfl,h.1⟩
  |succ j=>simpa using h2 j y' (by simpa using hj)
 |[],_::_,h=>h.elim
 |_::_,[],h=>h.elim
end
section
open Go.RowKit
def C.isT:C->Bool
 |.t _=>true
 |_=>false
def S.isT:S->Bool
 |.junk=>true
 |.c x=>x.isT
 |.agg cs=>cs.all C.isT
 |.tup ss=>ss.all fun s=>match s with
  |.c x=>x.isT
  |.agg cs=>cs.all C.isT
  |.junk=>true
  |.tup _=>false
theorem RC.tree {w:World} {ι ι':Io} {M:Ms} {x:C} {v:Value} (h:x.isT=true) (hr:RC w ι M x v):RC w ι' M x v:=by
 cases hr<;>first|exact .t ‹_›|cases h
theorem RS.tree1 {w:World} {ι ι':Io} {M:Ms} {s:S} {v:Value} (h:(match s with|.c x=>x.isT|.agg cs=>cs.all C.isT|.junk=>true|.tup _=>false)=true) (hr:RS w ι M s v):RS w ι' M s v:=by
 cases hr with
 |junk=>exact .junk
 |c hr=>exact .c (hr.tree h)
 |agg vs hl hr=>exact .agg vs hl fun j c hj=>(hr j c hj).tree (lbv.1 h c (lbm hj))
 |tup vs hl hr=>cases h
theorem RS.tree {w:World} {ι ι':Io} {M:Ms} {s:S} {v:Value} (h:s.isT=true) (hr:RS w ι M s v):RS w ι' M s v:=by
 cases hr with
 |junk=>exact .junk
 |c hr=>exact .c (hr.tree h)
 |agg vs hl hr=>exact .agg vs hl fun j c hj=>(hr j c hj).tree (lbv.1 h c (lbm hj))
 |tup vs hl hr=>exact .tup vs hl fun j s hj=>(hr j s hj).tree1 (lbv.1 h s (lbm hj))
theorem z9 {P:Program} {g:FuncId} {args:List S} {H:Hp} {r:S} (h:a9 P g args [] r []) (ha:args.all S.isT=true) (hr:r.isT=true):Z5 P g args H r []:=by
 refine ⟨h.1,fun w ι M vals hl hv hH hM hf=>?_⟩
 have:=h.2 w (fun _=>none) M vals hl (fun j s hj=>(hv j s hj).tree (lbv.1 ha s (lbm hj)))
  ⟨by simp,by simp,by simp,by simp,by simp⟩ hM (fun _ _=>rfl)
 refine Calls.mono this ?_
 rintro e w' ⟨v,rfl,ι',M',h1,h2,h3,h4,h5⟩
 refine ⟨v,rfl,H6.of_none ?_ ?_⟩
 ·refine RS.keep (ι:=ι) (M:=M') (fun _ _ _=>rfl) (fun b hb=>?_) (fun _ _ h=>h) (h1.tree hr)
  rcases h5.mold b hb with h|⟨id,k,_,_,hk,_⟩
  ·exact .inl h
  ·simp at hk
 ·exact ⟨h5.os,h5.tape,h5.output,h5.size,fun b hb=>h5.keep b hb (by rintro ⟨id,k,_,_,hk,_⟩;simp at hk)⟩
theorem Awp.mono {P:Program} {n0:Nat} {c:Code} {env:Env} {H:Hp} {Q Q':AX->Env->Hp->Prop} (h:Awp P n0 c env H Q) (hq:∀a env H,Q a env H->Q' a env H):Awp P n0 c env H Q':=
 ⟨fun w0 ι0 M0 H0 a w hn hM hs=>wp_mono (h.out w0 ι0 M0 H0 a w hn hM hs) (by rintro e a' w' ⟨x,env',H',h1,h2,h3⟩;exact ⟨x,env',H',h1,hq _ _ _ h2,h3⟩)⟩
theorem a3L {x:Int} (h1:-9223372036854775808<=x) (h2:x<=9223372036854775807):F8 .i64 x x:=by
 unfold F8
 exact (IntWalk.i64_in x ⟨h1,by omega⟩).symm
def E4:List (Option Nat)->Nat->Bool
 |[],_=>true
 |some m::r,n=>!(Nat.beq m n) && E4 r n
 |none::r,n=>E4 r n
def b8p (ρ:List (Option Nat)) (x y:C):Prop:=
 match y with
 |.t y=>match x with
  |.t x=>x=y
  |_=>False
 |.ptr id' r' o'=>match x with
  |.ptr id r o=>ρ[id']? =some (some id)∧r=r'∧o=o'
  |_=>False
 |_=>False
def av3 (ρ:List (Option Nat)):List C->List C->Prop
 |[],[]=>True
 |x::r,y::r'=>b8p ρ x y∧av3 ρ r r'
 |_,_=>False
def aT3 (ρ:List (Option Nat)) (H:Hp) (x y:C):Prop:=
 match y with
 |.t y=>match x with
  |.t x=>a4K y x=y
  |x=>VC H (fun id=>E4 ρ id=true) x y
 |.own id' lo' len' app'=>match x with
  |.t (.sl _ .nil _)=>ρ[id']? =some none∧lo'=0∧len'=0
  |.t (.sl _ .full [])=>ρ[id']? =some none∧lo'=0∧len'=0
  |.own id lo len app=>ρ[id']? =some (some id)∧lo=lo'∧len=len'∧(app'=true->app=true)
  |_=>False
 |.ptr id' r' o'=>match x with
  |.ptr id r o=>ρ[id']? =some (some id)∧r=r'∧o=o'
  |_=>False
 |.fn f' caps'=>match x with
  |.fn f caps=>f=f'∧av3 ρ caps caps'
  |_=>False
def a41 (ρ:List (Option Nat)) (H:Hp):List C->List C->Prop
 |[],[]=>True
 |x::r,y::r'=>aT3 ρ H x y∧a41 ρ H r r'
 |_,_=>False
def a4z (ρ:List (Option Nat)) (H:Hp) (s:S) (s':S):Prop:=
 match s' with
 |.junk=>True
 |.c y=>match s with
  |.c x=>aT3 ρ H x y
  |_=>False
 |.agg cs'=>match s with
  |.agg cs=>a41 ρ H cs cs'
  |_=>False
 |.tup _=>False
def a14 (ρ:List (Option Nat)) (H:Hp):Env->Env->Prop
 |[],[]=>True
 |s::r,s'::r'=>match s' with
  |.junk=>a14 ρ H r r'
  |s'=>a4z ρ H s s'∧a14 ρ H r r'
 |_,_=>False
def I9 (rows:List (List C)):Prop:=∀r ∈ rows,∀c ∈ r,c.isT=true
def a4Z (ρ:List (Option Nat)) (H:Hp):List (List C)->List (List C)->Prop
 |[],[]=>True
 |x::r,y::r'=>a41 ρ H x y∧a4Z ρ H r r'
 |_,_=>False
def a2M (k k':Blk):Bool:=match k.mode,k'.mode with
 |.live,.live=>cond k.app k'.app true
 |.live,.old=>k.app
 |.froz,.froz=>true
 |.old,.old=>true
 |.dead,.dead=>true
 |_,_=>false
theorem T1 {k k':Blk} (h:a2M k k'=true):(k'.mode≠.dead->k.mode≠.dead)∧(k'.mode=.live->k.mode=.live∧(k.app=true->k'.app=true))∧(k'.mode=.froz->k.mode=.froz)∧
 (k'.mode=.old->k.mode=.old∨(k.mode=.live∧k.app=true)):=by
 unfold a2M at h
 cases h1:k.mode<;>cases h2:k'.mode<;>rw [h1,h2] at h<;>simp at h ⊢
 ·intro ha;rw [ha] at h;simpa using h
 ·exact h
def a5q (ρ:List (Option Nat)) (H:Hp) (k k':Blk):Prop:=
 a2M k k'=true∧k.elem=k'.elem∧k.size=k'.size∧((k.rows=k'.rows∧I9 k.rows)∨a4Z ρ H k.rows k'.rows)
def a4a (ρ:List (Option Nat)) (H:Hp):List (Option Nat)->Hp->Prop
 |[],[]=>True
 |x::r,k'::r'=>(match x with
  |none=>k'.rows=[]∧k'.mode=.live
  |some id=>match H[id]? with
   |some k=>a5q ρ H k k'
   |none=>False)∧a4a ρ H r r'
 |_,_=>False
def a50:Nat->List (Option Nat)->Hp->Bool
 |n,x::r,k::H=>(match x,k.mode with
  |_,.old=>false
  |some m,_=>Nat.beq m n
  |none,_=>false) || a50 n r H
 |_,_,_=>false
def S3:List (Option Nat)->Hp->Bool
 |none::r,_::H=>S3 r H
 |some n::r,k::H=>(match k.mode with
  |.old=>true
  |_=>!(a50 n r H)) && S3 r H
 |_,_=>true
def a2d (ρ:List (Option Nat)):Nat->Bool
 |0=>true
 |n+1=>(match ρ[n]? with|some (some m)=>Nat.beq m n|_=>false) && a2d ρ n
def Ent (n0:Nat) (ρ:List (Option Nat)) (env:Env) (H:Hp) (env':Env) (H':Hp):Prop:=
 a2d ρ n0=true∧S3 ρ H'=true∧a4a ρ H ρ H'∧a14 ρ H env env'
def P6 (ρ:List (Option Nat)) (ι:Io):Io:=fun id=>match ρ[id]? with
 |some (some j)=>ι j
 |some none=>some .nil
 |none=>none
def a7V (ρ:List (Option Nat)) (H:Hp) (ι:Io) (M:Ms):Ms:=fun b=>M b∧¬∃id k cap size,E4 ρ id=true∧H[id]? =some k∧¬k.mode.gone∧ι id=some (.blk b cap size)
theorem ap6:∀{ρ:List (Option Nat)} {i n:Nat},ρ[i]? =some (some n)->E4 ρ n=true->False
 |[],i,n,h,_=>by simp at h
 |x::r,i,n,h,hn=>by
  have hr:E4 r n=true:=by cases x<;>simp [E4] at hn<;>first|exact hn|exact hn.2
  cases i with
  |zero=>
   simp at h
   subst h
   simp [E4] at hn
  |succ i=>exact ap6 (by simpa using h) hr
theorem RC.sub {w:World} {ι:Io} {M M':Ms} (hM:∀b,M' b->M b) {x:C} {v:Value} (h:RC w ι M x v):RC w ι M' x v:=h.keep (fun _ _ _=>rfl) (fun b hb=>.inl (hM b hb)) (fun _ _ h=>h)
theorem b8p.rc {w:World} {ι:Io} {M:Ms} {ρ:List (Option Nat)} {H:Hp} {x y:C} {v:Value} (h:b8p ρ x y) (hr:RC w ι M x v):RC w (P6 ρ ι) (a7V ρ H ι M) y v:=by
 cases y with
 |t y=>
  cases x with
  |t x=>
   have h:x=y:=h
   subst h
   cases hr with
   |t hr=>exact .t (hr.keep (fun _ _ _=>rfl) fun b hb=>.inl hb.1)
  |_=>exact False.elim h
 |ptr id' r' o'=>
  cases x with
  |ptr id r o=>
   obtain ⟨h1,rfl,rfl⟩:=h
   cases hr with
   |ptr hi=>exact .ptr (by unfold P6;rw [h1];exact hi)
  |_=>exact False.elim h
 |own _ _ _ _=>exact False.elim h
 |fn _ _=>exact False.elim h
theorem av3.get {ρ:List (Option Nat)}:∀{xs ys:List C},av3 ρ xs ys->xs.length=ys.length∧∀(j:Nat) (x y:C),xs[j]? =some x->ys[j]? =some y->b8p ρ x y
 |[],[],_=>⟨rfl,by simp⟩
 |x::xs,y::ys,h=>by
  obtain ⟨h1,h2⟩:=av3.get h.2
  refine ⟨by simp [h1],fun j x' y' hx hy=>?_⟩
  cases j with
  |zero=>simp at hx hy;subst hx hy;exact h.1
  |succ j=>exact h2 j x' y' (by simpa using hx) (by simpa using hy)
 |[],_::_,h=>h.elim
 |_::_,[],h=>h.elim
theorem aT3.rc {w:World} {ι:Io} {M:Ms} {ρ:List (Option Nat)} {H:Hp} (hH:p5 w ι M H) {x y:C} {v:Value} (h:aT3 ρ H x y) (hr:RC w ι M x v):RC w (P6 ρ ι) (a7V ρ H ι M) y v:=by
 cases y with
 |t y=>
  have h:VC H (fun id=>E4 ρ id=true) x y:=by cases x<;>first|exact h|(simp only [VC];exact h)
  refine .t (VC.rt hH (fun b hb=>hb.1) ?_ x y v h hr)
  intro id k b cap size hp hk hd hi hb
  exact hb.2 ⟨id,k,cap,size,hp,hk,hd,hi⟩
 |own id' lo' len' app'=>
  cases x with
  |t x=>
   cases x with
   |sl size k rows=>
    cases k with
    |nil=>
     obtain ⟨h1,rfl,rfl⟩:=h
     cases hr with
     |t hr=>cases hr with
      |sl f hrow hcap hmax hk hn hA hc hr=>
       obtain ⟨rfl,rfl,rfl⟩:=hn rfl
       exact .nil (by unfold P6;rw [h1])
    |full=>
     cases rows with
     |nil=>
      obtain ⟨h1,rfl,rfl⟩:=h
      cases hr with
      |t hr=>cases hr with
       |sl f hrow hcap hmax hk hn hA hc hr=>
        obtain rfl:=hk rfl
        exact .nil (by unfold P6;rw [h1])
     |cons _ _=>exact False.elim h
    |any=>exact False.elim h
    |nul=>exact False.elim h
    |non=>exact False.elim h
   |_=>exact False.elim h
  |own id lo len app=>
   obtain ⟨h1,rfl,rfl,happ⟩:=h
   cases hr with
   |own hi q1 q2 q3 q4 q5=>exact .own (by unfold P6;rw [h1];exact hi) q1 q2 q3 q4 (fun h=>q5 (happ h))
   |nil hi=>exact .nil (by unfold P6;rw [h1];exact hi)
  |_=>exact False.elim h
 |ptr id' r' o'=>
  cases x with
  |ptr id r o=>
   obtain ⟨h1,rfl,rfl⟩:=h
   cases hr with
   |ptr hi=>exact .ptr (by unfold P6;rw [h1];exact hi)
  |_=>exact False.elim h
 |fn f' caps'=>
  cases x with
  |fn f caps=>
   obtain ⟨rfl,h⟩:=h
   obtain ⟨h1,h2⟩:=av3.get h
   cases hr with
   |fn vs hl hr=>
    refine .fn vs (by omega) fun j c hj=>?_
    have hlt:=(lbe.1 hj).1
    exact (h2 j _ c (lbf (by omega)) hj).rc (hr j _ (lbf (by omega)))
  |_=>exact False.elim h
section
variable {w:World} {ι:Io} {M:Ms} {ρ:List (Option Nat)} {H:Hp} (hH:p5 w ι M H)
include hH
theorem a41.rc:∀{xs ys:List C},a41 ρ H xs ys->xs.length=ys.length∧∀(j:Nat) (x y:C) (v:Value),xs[j]? =some x->ys[j]? =some y->RC w ι M x v->RC w (P6 ρ ι) (a7V ρ H ι M) y v
 |[],[],_=>⟨rfl,by simp⟩
 |x::xs,y::ys,h=>by
  obtain ⟨h1,h2⟩:=a41.rc h.2
  refine ⟨by simp [h1],fun j x' y' v hx hy hr=>?_⟩
  cases j with
  |zero=>simp at hx hy;subst hx hy;exact h.1.rc hH hr
  |succ j=>exact h2 j x' y' v (by simpa using hx) (by simpa using hy) hr
 |[],_::_,h=>h.elim
 |_::_,[],h=>h.elim
theorem a4z.rs {s s':S} {v:Value} (h:a4z ρ H s s') (hr:RS w ι M s v):RS w (P6 ρ ι) (a7V ρ H ι M) s' v:=by
 unfold a4z at h
 split at h
 ·exact .junk
 ·split at h
  ·exact .c (aT3.rc hH h hr.inv_c)
  ·exact h.elim
 ·split at h
  ·cases hr with
   |agg vs hl hr=>
    obtain ⟨h1,h2⟩:=a41.rc hH h
    refine .agg vs (by omega) fun j c hj=>?_
    have hlt:=(lbe.1 hj).1
    exact h2 j _ c _ (lbf (by omega)) hj (hr j _ (lbf (by omega)))
  ·exact h.elim
 ·exact h.elim
omit hH in
theorem a14.rel:∀{env env':Env},a14 ρ H env env'->env.length=env'.length∧∀(t:Nat) (s':S),env'[t]? =some s'->∃s,env[t]? =some s∧a4z ρ H s s'
 |[],[],_=>⟨rfl,by simp⟩
 |s::r,s'::r',h=>by
  have h':a4z ρ H s s'∧a14 ρ H r r':=by
   cases s' with
   |junk=>exact ⟨trivial,h⟩
   |_=>exact h
  obtain ⟨h1,h2⟩:=a14.rel h'.2
  refine ⟨by simp [h1],fun t s'' ht=>?_⟩
  cases t with
  |zero=>simp at ht;subst ht;exact ⟨s,rfl,h'.1⟩
  |succ t=>simpa using h2 t s'' (by simpa using ht)
 |[],_::_,h=>h.elim
 |_::_,[],h=>h.elim
theorem a4Z.rc:∀{xs ys:List (List C)},a4Z ρ H xs ys->xs.length=ys.length∧(∀ n,(∀ r ∈ xs,r.length=n)->∀r ∈ ys,r.length=n)∧
 ∀(i j:Nat) (y:C),at2 ys i j=some y->∃x,at2 xs i j=some x∧∀v,RC w ι M x v->RC w (P6 ρ ι) (a7V ρ H ι M) y v
 |[],[],_=>⟨rfl,by simp,by simp [at2]⟩
 |x::xs,y::ys,h=>by
  obtain ⟨h1,h2,h3⟩:=a4Z.rc h.2
  obtain ⟨q1,q2⟩:=a41.rc hH h.1
  refine ⟨by simp [h1],fun n hn r hr=>?_,fun i j y' hy=>?_⟩
  ·rcases lbA.1 hr with rfl|hr
   ·rw [← q1];exact hn x (by simp)
   ·exact h2 n (fun r hr=>hn r (by simp [hr])) r hr
  ·obtain ⟨row,r1,r2⟩:=C7 hy
   cases i with
   |zero=>
    simp at r1
    subst r1
    have hlt:=(lbe.1 r2).1
    exact ⟨_,z5 rfl (lbf (by omega)),fun v hv=>q2 j _ _ v (lbf (by omega)) r2 hv⟩
   |succ i=>
    obtain ⟨x',s1,s2⟩:=h3 i j y' (z5 (by simpa using r1) r2)
    obtain ⟨row',t1,t2⟩:=C7 s1
    exact ⟨x',z5 (by simpa using t1) t2,s2⟩
 |[],_::_,h=>h.elim
 |_::_,[],h=>h.elim
end
theorem a4a.get {ρ:List (Option Nat)} {H:Hp}:∀{r:List (Option Nat)} {H':Hp},a4a ρ H r H'->r.length=H'.length∧∀(id:Nat) (k':Blk),H'[id]? =some k'->
 (r[id]? =some none∧k'.rows=[]∧k'.mode=.live)∨∃j k,r[id]? =some (some j)∧H[j]? =some k∧a5q ρ H k k'
 |[],[],_=>⟨rfl,by simp⟩
 |x::r,k::H',h=>by
  obtain ⟨h1,h2⟩:=a4a.get h.2
  refine ⟨by simp [h1],fun id k' hk=>?_⟩
  cases id with
  |zero=>
   simp at hk
   subst hk
   have hx:=h.1
   cases x with
   |none=>exact .inl ⟨rfl,hx⟩
   |some j=>
    refine .inr ⟨j,?_⟩
    simp only at hx
    split at hx
    ·rename_i k0 hk0
     exact ⟨k0,rfl,hk0,hx⟩
    ·exact hx.elim
  |succ id=>simpa using h2 id k' (by simpa using hk)
 |[],_::_,h=>h.elim
 |_::_,[],h=>h.elim
theorem as5:∀{r:List (Option Nat)} {H:Hp} {n j:Nat} {k:Blk},a50 n r H=false->r[j]? =some (some n)->H[j]? =some k->k.mode=.old
 |[],_,n,j,k,_,h,_=>by simp at h
 |x::r,[],n,j,k,_,_,h=>by simp at h
 |x::r,k0::H,n,0,k,hs,h,hk=>by
  simp at h hk
  subst h hk
  simp only [a50,Bool.or_eq_false_iff] at hs
  cases hm:k0.mode with
  |old=>rfl
  |_=>rw [hm] at hs;simp at hs
 |x::r,k0::H,n,j+1,k,hs,h,hk=>by
  simp only [a50,Bool.or_eq_false_iff] at hs
  exact as5 hs.2 (by simpa using h) (by simpa using hk)
theorem aw6:∀{l:List (Option Nat)} {H:Hp},S3 l H=true->∀(i j n:Nat) (k k':Blk),l[i]? =some (some n)->l[j]? =some (some n)->H[i]? =some k->H[j]? =some k'->k.mode≠.old->k'.mode≠.old->i=j
 |[],_,_,i,j,n,k,k',h,_,_,_,_,_=>by simp at h
 |x::r,[],_,i,j,n,k,k',_,_,h,_,_,_=>by simp at h
 |x::r,k0::H,hn,i,j,n,k,k',hi,hj,hk,hk',ho,ho'=>by
  have hr:S3 r H=true:=by
   cases x with
   |none=>exact hn
   |some m=>simp only [S3,lbN] at hn;exact hn.2
  have hx:∀(q:Nat) (kq:Blk),x=some n->k0.mode≠.old->r[q]? =some (some n)->H[q]? =some kq->kq.mode=.old:=fun q kq hxn h0 hq hkq=>by
   subst hxn
   simp only [S3,lbN] at hn
   have h1:=hn.1
   have:a50 n r H=false:=by
    cases hm:k0.mode with
    |old=>exact absurd hm h0
    |_=>simpa using h1
   exact as5 this hq hkq
  cases i with
  |zero=>cases j with
   |zero=>rfl
   |succ j=>
    simp at hi hj hk hk'
    subst hk
    exact absurd (hx j k' hi ho hj hk') ho'
  |succ i=>cases j with
   |zero=>
    simp at hi hj hk hk'
    subst hk'
    exact absurd (hx i k hj ho' hi hk) ho
   |succ j=>
    simp at hi hj hk hk'
    rw [aw6 hr i j n k k' hi hj hk hk' ho ho']
theorem a88 {ρ:List (Option Nat)}:∀{n:Nat},a2d ρ n=true->∀i,i<n->ρ[i]? =some (some i)
 |0,_,i,h=>by omega
 |n+1,hk,i,h=>by
  simp only [a2d,lbN] at hk
  by_cases hi:i=n
  ·subst hi
   have:=hk.1
   split at this
   ·rename_i m hm
    rw [hm,Nat.eq_of_beq_eq_true this]
   ·cases this
  ·exact a88 hk.2 i (by omega)
theorem ac0 {w:World} {ι ι':Io} {M M':Ms} (hM:∀b,M' b->M b) {rows:List (List C)} (h:I9 rows) {i j:Nat} {c:C} (hc:at2 rows i j=some c) {u:Value} (hr:RC w ι M c u):RC w ι' M' c u:=by
 obtain ⟨row,h1,h2⟩:=C7 hc
 exact (hr.tree (h row (lbm h1) c (lbm h2))).sub hM
theorem a4a.all {n0:Nat} {ρ:List (Option Nat)} {H H':Hp} (h1:a2d ρ n0=true) (h2:S3 ρ H'=true) (h3:a4a ρ H ρ H') {w0:World} {ι0:Io} {M0:Ms} {H0:Hp} {w:World} {ι:Io} {M:Ms} (hn:H0.length=n0) (hM0:MB w0 M0)
 (hH:p5 w ι M H) (hst:a4t w0 ι0 M0 H0 w ι M H):p5 w (P6 ρ ι) (a7V ρ H ι M) H'∧a2E (P6 ρ ι) H'.length∧a4t w0 ι0 M0 H0 w (P6 ρ ι) (a7V ρ H ι M) H':=by
 obtain ⟨hl,hg0⟩:=a4a.get h3
 have hg:∀(id:Nat) (k':Blk),H'[id]? =some k'->(ρ[id]? =some none∧k'.rows=[]∧k'.mode=.live)∨∃j k,ρ[id]? =some (some j)∧H[j]? =some k∧a2M k k'=true∧k.elem=k'.elem∧k.size=k'.size∧
  ((k.rows=k'.rows∧I9 k.rows)∨a4Z ρ H k.rows k'.rows):=fun id k' hk=>by
  rcases hg0 id k' hk with h|⟨j,k,q1,q2,q3,q4,q5,q6⟩
  ·exact .inl h
  ·exact .inr ⟨j,k,q1,q2,q3,q4,q5,q6⟩
 have hlen:∀{k k':Blk},((k.rows=k'.rows∧I9 k.rows)∨a4Z ρ H k.rows k'.rows)->k.rows.length=k'.rows.length:=fun h=>by
  rcases h with h|h
  ·rw [h.1]
  ·exact (a4Z.rc hH h).1
 have hsub:∀b,a7V ρ H ι M b->M b:=fun b hb=>hb.1
 have hren:∀id j,ρ[id]? =some (some j)->P6 ρ ι id=ι j:=fun id j hj=>by unfold P6;rw [hj]
 have hnil:∀id,ρ[id]? =some none->P6 ρ ι id=some .nil:=fun id hj=>by unfold P6;rw [hj]
 have hle:H0.length<=H'.length:=by
  rw [← hl,hn]
  rcases Nat.lt_or_ge ρ.length n0 with hlt|hge
  ·have:=a88 h1 ρ.length hlt
   simp at this
  ·exact hge
 refine ⟨⟨?_,?_,?_,?_,?_⟩,?_,⟨hst.os,hst.tape,hst.output,hst.size,hst.keep,?_,fun b hb=>hst.mnew b hb.1,?_,?_,hle⟩⟩
 ·intro id k' hk hd l hll
  rcases hg id k' hk with ⟨q1,q2,q3⟩|⟨j,k,q1,q2,q3,q4,q5,q6⟩
  ·rw [hnil id q1] at hll
   injection hll with hll
   subst hll
   exact q2
  ·rw [hren id j q1] at hll
   have hb:=hH.blk j k q2 ((T1 q3).1 hd) l hll
   cases l with
   |nil=>
    have hb':k.rows=[]:=hb
    show k'.rows=[]
    rcases q6 with ⟨q6,_⟩|q6
    ·rw [← q6,hb']
    ·rw [hb'] at q6
     cases hr:k'.rows with
     |nil=>rfl
     |cons y ys=>rw [hr] at q6;exact q6.elim
   |blk b cap size=>
    obtain ⟨r1,r2,r3,r4,r5,cur,r6,r7,r8⟩:=hb
    rcases q6 with ⟨q6,q7⟩|q6
    ·refine ⟨by rw [← q5];exact r1,r2,by rw [← q6];exact r3,r4,by rw [← q6];exact r5,cur,by rw [← q4];exact r6,r7,fun i j c hc=>?_⟩
     rw [← q6] at hc
     obtain ⟨u,s1,s2⟩:=r8 i j c hc
     exact ⟨u,s1,ac0 hsub q7 hc s2⟩
    ·obtain ⟨t1,t2,t3⟩:=a4Z.rc hH q6
     refine ⟨by rw [← q5];exact r1,r2,by rw [← t1];exact r3,r4,t2 size r5,cur,by rw [← q4];exact r6,r7,fun i j c hc=>?_⟩
     obtain ⟨x,u1,u2⟩:=t3 i j c hc
     obtain ⟨u,s1,s2⟩:=r8 i j x u1
     exact ⟨u,s1,u2 u s2⟩
 ·intro id k' hk hm b cap size hi
  rcases hg id k' hk with ⟨q1,q2,q3⟩|⟨j,k,q1,q2,q3,q4,q5,q6⟩
  ·rw [hnil id q1] at hi;cases hi
  ·rw [hren id j q1] at hi
   have hkl:k.mode=.live:=((T1 q3).2.1 hm).1
   have hMb:=hH.liv j k q2 hkl b cap size hi
   refine ⟨hMb,?_⟩
   rintro ⟨id2,k2,cap2,size2,n1,n2,n3,n4⟩
   cases hm2:k2.mode with
   |live=>
    have:=hH.inj j id2 k k2 q2 n2 hkl hm2 _ _ _ _ _ hi n4
    subst this
    exact ap6 q1 n1
   |froz=>exact hH.fro id2 k2 n2 hm2 _ _ _ n4 hMb
   |old=>exact n3 (by rw [hm2];trivial)
   |dead=>exact n3 (by rw [hm2];trivial)
 ·intro id k' hk hm b cap size hi
  rcases hg id k' hk with ⟨q1,q2,q3⟩|⟨j,k,q1,q2,q3,q4,q5,q6⟩
  ·rw [hnil id q1] at hi;cases hi
  ·rw [hren id j q1] at hi
   exact fun hb=>hH.fro j k q2 ((T1 q3).2.2.1 hm) b cap size hi hb.1
 ·intro id id' k k' hk hk' hm hm' b cap size cap' size' hi hi'
  rcases hg id k hk with ⟨q1,q2,q3⟩|⟨j,k1,q1,q2,q3,q4,q5,q6⟩
  ·rw [hnil id q1] at hi;cases hi
  ·rcases hg id' k' hk' with ⟨q1',q2',q3'⟩|⟨j',k1',q1',q2',q3',q4',q5',q6'⟩
   ·rw [hnil id' q1'] at hi';cases hi'
   ·rw [hren id j q1] at hi
    rw [hren id' j' q1'] at hi'
    have:=hH.inj j j' k1 k1' q2 q2' ((T1 q3).2.1 hm).1 ((T1 q3').2.1 hm').1 _ _ _ _ _ hi hi'
    subst this
    exact aw6 h2 id id' j k k' q1 q1' hk hk' (by rw [hm];intro h;cases h) (by rw [hm'];intro h;cases h)
 ·intro id id' k k' hk hk' hm hm' b cap size cap' size' hi hi'
  rcases hg id k hk with ⟨q1,q2,q3⟩|⟨j,k1,q1,q2,q3,q4,q5,q6⟩
  ·rw [hnil id q1] at hi;cases hi
  ·rcases hg0 id' k' hk' with ⟨q1',q2',q3'⟩|⟨j',k1',q1',q2',q3',q4',q5',q6'⟩
   ·rw [hnil id' q1'] at hi';cases hi'
   ·rw [hren id j q1] at hi
    rw [hren id' j' q1'] at hi'
    obtain ⟨hl1,s2⟩:=(T1 q3').2.1 hm'
    rcases (T1 q3).2.2.2 hm with ho|⟨ho,ha⟩
    ·obtain ⟨t1,t2,t3⟩:=hH.old j j' k1 k1' q2 q2' ho hl1 _ _ _ _ _ hi hi'
     exact ⟨s2 t1,t2,by rw [← hlen q6,←hlen q6'];exact t3⟩
    ·have hjj:=hH.inj j j' k1 k1' q2 q2' ho hl1 _ _ _ _ _ hi hi'
     subst hjj
     rw [q2] at q2'
     injection q2' with q2'
     subst q2'
     rw [hi] at hi'
     injection hi' with hi'
     injection hi' with _ _ hi'
     exact ⟨s2 ha,hi',by rw [← hlen q6,←hlen q6'];exact lbR _⟩
 ·intro id hid
  unfold P6
  rw [lbd (by omega)]
 ·intro id hid
  rw [hren id id (a88 h1 id (by omega))]
  exact hst.same id hid
 ·intro b hb
  rcases hst.mold b hb with h|h
  ·by_cases hx:∃id k cap size,E4 ρ id=true∧H[id]? =some k∧¬k.mode.gone∧ι id=some (.blk b cap size)
   ·obtain ⟨id,k,cap,size,n1,n2,n3,n4⟩:=hx
    refine .inr ?_
    have hlive:k.mode=.live:=by
     cases hm:k.mode with
     |live=>rfl
     |froz=>exact absurd h (hH.fro id k n2 hm _ _ _ n4)
     |old=>exact absurd (by rw [hm];trivial) n3
     |dead=>exact absurd (by rw [hm];trivial) n3
    rcases hst.live b ⟨id,k,cap,size,n2,hlive,n4⟩ with h'|h'
    ·exact h'
    ·have:=hM0 b hb;omega
   ·exact .inl ⟨h,hx⟩
  ·exact .inr h
 ·rintro b ⟨id,k',cap,size,hk,hm,hi⟩
  rcases hg id k' hk with ⟨q1,q2,q3⟩|⟨j,k,q1,q2,q3,q4,q5,q6⟩
  ·rw [hnil id q1] at hi;cases hi
  ·rw [hren id j q1] at hi
   exact hst.live b ⟨j,k,cap,size,q2,((T1 q3).2.1 hm).1,hi⟩
theorem Ent.sim {n0:Nat} {ρ:List (Option Nat)} {env env':Env} {H H':Hp} (h:Ent n0 ρ env H env' H') {w0:World} {ι0:Io} {M0:Ms} {H0:Hp} {a:Act} {w:World} (hn:H0.length=n0) (hM0:MB w0 M0)
 (hs:Sim w0 ι0 M0 H0 a w env H):Sim w0 ι0 M0 H0 a w env' H':=by
 obtain ⟨h1,h2,h3,h4⟩:=h
 obtain ⟨ι,M,hd,hsz,he,hH,hM,hF,hst⟩:=hs
 obtain ⟨hel,heg⟩:=a14.rel h4
 obtain ⟨q1,q2,q3⟩:=a4a.all h1 h2 h3 hn hM0 hH hst
 refine ⟨P6 ρ ι,_,hd,by omega,fun t s' ht=>?_,q1,fun b hb=>hM b hb.1,q2,q3⟩
 obtain ⟨s,q1,q2⟩:=heg t s' ht
 exact q2.rs hH (he t s q1)
def a9F (ρ:List (Option Nat)) (H:Hp) (s s':S):Prop:=
 match s' with
 |.tup ss'=>match s with
  |.tup ss=>a14 ρ H ss ss'
  |_=>False
 |s'=>a4z ρ H s s'
structure Fin (n0:Nat) (r:S) (H1:Hp) (s:S) (H':Hp):Prop where
 out:∃ρ,a2d ρ n0=true∧S3 ρ H'=true∧a4a ρ H1 ρ H'∧a9F ρ H1 r s
theorem a9F.rs {w:World} {ι:Io} {M:Ms} {ρ:List (Option Nat)} {H:Hp} (hH:p5 w ι M H) {s s':S} {v:Value} (h:a9F ρ H s s') (hr:RS w ι M s v):RS w (P6 ρ ι) (a7V ρ H ι M) s' v:=by
 cases s' with
 |tup ss'=>
  cases s with
  |tup ss=>
   cases hr with
   |tup vs hl hr=>
    obtain ⟨h1,h2⟩:=a14.rel h
    refine .tup vs (by omega) fun j s hj=>?_
    obtain ⟨s0,q1,q2⟩:=h2 j s hj
    exact q2.rs hH (hr j s0 q1)
  |_=>exact False.elim h
 |_=>exact a4z.rs hH h hr
theorem k9 {r s:S} {H1:Hp} (h:a9F [] H1 r s):Fin 0 r H1 s []:=⟨[],rfl,rfl,trivial,h⟩
theorem b49 {P : Program} {τ : Tab} (hτ : A8 P τ) {f : FuncId} {fn : Func} {c : Code} {args : List S} {H : Hp} {s : S} {H' : Hp} (hf : P.funcs[f]? = some fn) (hb : fn.body = some c) (hn : fn.name ≠ "runtime.NumGoroutine")
    (h:a4T P τ H.length c (args++List.replicate (fn.ntmps - args.length) .junk) H fun x env' H1=>match x with
      |.exit _=>False
      |_=>a71 τ fn env' H1 fun r=>Fin H.length r H1 s H'):a9 P f args H s H':=by
  refine ⟨⟨fn,hf,by rw [hb];rfl,hn⟩,fun w ι M vals hl hr hH hM hF=>?_⟩
  refine calls_of_wp hf hb ?_
  have hi:=Sim.init hl hr hH hM hF (fn.ntmps - args.length)
  have:=(z6 hτ c h).out w ι M H _ w rfl hM hi
  have e:vals.toArray.size=args.length:=by simpa using hl
  rw [e]
  refine wp_mono this ?_
  rintro e a' w' ⟨x,env',H1,rfl,hq,ι',M',hd,hsz,he,hH',hM',hF',hst⟩
  have key:(a71 τ fn env' H1 fun r=>Fin H.length r H1 s H')->a'.defers=[]∧∃v,(results fn a'.tmps).run P w'=.ok v w'∧∃v',Ending.returned v=.returned v'∧E5 w ι M H s H' v' w':=by
   intro hq
   refine ⟨hd,?_⟩
   obtain ⟨l,hk,vs,h1,h2,h3⟩:=a76 hτ he hH' fn.results.toList hq
   have hrun:∃v,(results fn a'.tmps).run P w'=.ok v w'∧v=(if h:vs.length=1 then vs[0] else .tuple vs.toArray):=by
    refine ⟨_,?_,rfl⟩
    unfold results
    rw [Array.mapM_eq_mapM_toList,Sem.run_bind,Sem.run_map]
    refine (congrArg (fun r=>Result.andThen (Result.andThen r _) _) h1).trans ?_
    simp
   obtain ⟨v,hv1,rfl⟩:=hrun
   refine ⟨_,hv1,_,rfl,?_⟩
   have hsr:∃r,RS w' ι' M' r (if h:vs.length=1 then vs[0] else .tuple vs.toArray)∧Fin H.length r H1 s H':=by
    match l,hk,h2,h3 with
    |[s1],hk,h2,h3=>
     refine ⟨s1,?_,hk⟩
     rw [dif_pos (by simpa using h2)]
     have:=h3 0 s1 rfl
     rw [lbl,lbf (by simp at h2;omega)] at this
     exact this
    |[],hk,h2,h3=>
     refine ⟨_,?_,hk⟩
     rw [dif_neg (by simp at h2;simp [h2])]
     exact .tup vs h2 h3
    |s1::s2::r,hk,h2,h3=>
     refine ⟨_,?_,hk⟩
     rw [dif_neg (by simp at h2;omega)]
     exact .tup vs h2 h3
   obtain ⟨r,h4,ρ,f1,f2,f3,f4⟩:=hsr
   obtain ⟨g1,g2,g3⟩:=a4a.all f1 f2 f3 rfl hM hH' hst
   exact ⟨P6 ρ ι',_,f4.rs hH' h4,g1,fun b hb=>hM' b hb.1,g2,g3⟩
  cases x with
  |normal=>exact key hq
  |ret=>exact key hq
  |exit id=>exact hq.elim
theorem a1C (p:Nat->Prop) (h:∃n,p n):∃n,p n∧∀m,p m->n<=m:=by
 obtain ⟨n,hn⟩:=h
 induction n using Nat.strongRecOn with
 |_ n ih=>
  by_cases hex:∃m,m<n∧p m
  ·obtain ⟨m,hm,hp⟩:=hex
   exact ih m hm hp
  ·exact ⟨n,hn,fun m hm=>Nat.le_of_not_lt fun hlt=>hex ⟨m,hlt,hm⟩⟩
theorem a81 {P:Program} {n0:Nat} {c:Code} {env:Env} {H:Hp} {Q:AX->Env->Hp->Prop} {σ:Type} (E:σ->Env × Hp) (μ:σ->Nat) (x0:σ) (ρ0:List (Option Nat))
 (h0:Ent n0 ρ0 env H (E x0).1 (E x0).2)
 (round:∀x,Awp P n0 c (E x).1 (E x).2 fun a env' H'=>match a with
   |.normal=>∃ρ x',Ent n0 ρ env' H' (E x').1 (E x').2∧μ x'<μ x
   |a=>Q a env' H'):Awp P n0 (.loop c) env H Q:=by
 refine ⟨fun w0 ι0 M0 H0 a w hn hM hs=>?_⟩
 have hs0:=h0.sim hn hM hs
 let I:Act->World->Prop:=fun a w=>∃x,Sim w0 ι0 M0 H0 a w (E x).1 (E x).2
 let J:Act->World->Nat->Prop:=fun a w n=>∃x,μ x=n∧Sim w0 ι0 M0 H0 a w (E x).1 (E x).2
 have hJ:∀a w,I a w->∃n,J a w n:=fun a w ⟨x,hx⟩=>⟨μ x,x,rfl,hx⟩
 classical
 let m:Act->World->Nat:=fun a w=>if h:∃n,J a w n then Classical.choose (a1C _ h) else 0
 have hmin:∀a w x,Sim w0 ι0 M0 H0 a w (E x).1 (E x).2->m a w<=μ x:=fun a w x hx=>by
  have h:∃n,J a w n:=⟨μ x,x,rfl,hx⟩
  show (if h:∃n,J a w n then Classical.choose (a1C _ h) else 0)<=μ x
  rw [dif_pos h]
  exact (Classical.choose_spec (a1C _ h)).2 _ ⟨x,rfl,hx⟩
 refine wp_loop I m ⟨x0,hs0⟩ fun a w hI=>?_
 have hex:=hJ a w hI
 have hm:m a w=Classical.choose (a1C _ hex):=by
  show (if h:∃n,J a w n then Classical.choose (a1C _ h) else 0)=_
  rw [dif_pos hex]
 obtain ⟨x,hx1,hx2⟩:=(Classical.choose_spec (a1C _ hex)).1
 have hr:=(round x).out w0 ι0 M0 H0 a w hn hM hx2
 refine wp_mono hr ?_
 rintro e a' w' ⟨ax,env',H',rfl,hq,hs'⟩
 cases ax with
 |normal=>
  obtain ⟨ρ,x',h1,h2⟩:=hq
  have hs2:=h1.sim hn hM hs'
  refine ⟨⟨x',hs2⟩,?_⟩
  have:=hmin a' w' x' hs2
  omega
 |exit id=>exact ⟨_,env',H',rfl,hq,hs'⟩
 |ret=>exact ⟨_,env',H',rfl,hq,hs'⟩
theorem d8 {P:Program} {τ:Tab} (hτ:A8 P τ) {n0:Nat} {c:Code} {env:Env} {H:Hp} {Q:AX->Env->Hp->Prop} (E:Nat->Env × Hp) (n:Nat) (I:Nat->Prop) (ρ0:List (Option Nat))
 (hI:I 0) (h0:Ent n0 ρ0 env H (E 0).1 (E 0).2)
 (round:∀k,k<=n->I k->a4T P τ n0 c (E k).1 (E k).2 fun a env' H'=>match a with
   |.normal=>k<n∧I (k+1)∧∃ρ,Ent n0 ρ env' H' (E (k+1)).1 (E (k+1)).2
   |a=>Q a env' H'):Awp P n0 (.loop c) env H Q:=by
 refine a81 (σ:={ k:Nat // k<=n∧I k }) (fun k=>E k.1) (fun k=>n - k.1) ⟨0,Nat.zero_le _,hI⟩ ρ0 h0 ?_
 rintro ⟨k,hk,hi⟩
 refine (z6 hτ c (round k hk hi)).mono ?_
 intro a env' H' h
 cases a with
 |normal=>
  obtain ⟨h1,h2,ρ,h3⟩:=h
  exact ⟨ρ,⟨k+1,h1,h2⟩,h3,by show n - (k+1)<n - k;omega⟩
 |exit id=>exact h
 |ret=>exact h
theorem U1 {n m:Int} {K:Prop} (h0:0<=n) (h1:n<m) (k:K):(0<=n∧n<m)∧K:=⟨⟨h0,h1⟩,k⟩
theorem b9 {α:Type} {xs:List α} {f:α->List T} {k:Nat} {x:α} {K:List T->Prop} (hx:xs[k]? =some x) (h:K (f x)):∃row,0<=(k:Int)∧(xs.map f)[(k:Int).toNat]? =some row∧K row:=
 ⟨f x,by omega,by simp [hx],h⟩
theorem v6 {α:Type} {xs:List α} {f:α->List T} {n:Int} {x:α} {K:List T->Prop} (h0:0<=n) (hx:xs[n.toNat]? =some x) (h:K (f x)):∃row,0<=n∧(xs.map f)[n.toNat]? =some row∧K row:=
 ⟨f x,h0,by simp [hx],h⟩
end
section
open Go.RowKit
def T.flat:T->Bool
 |.atm _=>true
 |_=>false
def C.flat:C->Bool
 |.t x=>x.flat
 |_=>false
def S.flat:S->Bool
 |.junk=>true
 |.c x=>x.flat
 |.agg cs=>cs.all C.flat
 |.tup ss=>ss.all fun s=>match s with
  |.c x=>x.flat
  |.agg cs=>cs.all C.flat
  |.junk=>true
  |.tup _=>false
theorem RC.flat {w:World} {ι ι':Io} {M M':Ms} {x:C} {v:Value} (h:x.flat=true) (hr:RC w ι M x v):RC w ι' M' x v:=by
 cases hr with
 |t hr=>cases hr with
  |atm hv=>exact .t (.atm hv)
  |_=>cases h
 |_=>cases h
theorem RS.flat1 {w:World} {ι ι':Io} {M M':Ms} {s:S} {v:Value} (h:(match s with|.c x=>x.flat|.agg cs=>cs.all C.flat|.junk=>true|.tup _=>false)=true) (hr:RS w ι M s v):RS w ι' M' s v:=by
 cases hr with
 |junk=>exact .junk
 |c hr=>exact .c (hr.flat h)
 |agg vs hl hr=>exact .agg vs hl fun j c hj=>(hr j c hj).flat (lbv.1 h c (lbm hj))
 |tup vs hl hr=>cases h
theorem RS.flat {w:World} {ι ι':Io} {M M':Ms} {s:S} {v:Value} (h:s.flat=true) (hr:RS w ι M s v):RS w ι' M' s v:=by
 cases hr with
 |junk=>exact .junk
 |c hr=>exact .c (hr.flat h)
 |agg vs hl hr=>exact .agg vs hl fun j c hj=>(hr j c hj).flat (lbv.1 h c (lbm hj))
 |tup vs hl hr=>exact .tup vs hl fun j s hj=>(hr j s hj).flat1 (lbv.1 h s (lbm hj))
theorem p5.none {w:World} {M:Ms}:p5 w (fun _=>Option.none) M []:=⟨by simp,by simp,by simp,by simp,by simp⟩
theorem af5 {P:Program} {g:FuncId} {args args':List S} {H:Hp} {r:S} (h:a9 P g args' [] r []) (ha:a4k H (fun _=>True) args args') (hr:r.flat=true):Z5 P g args H r []:=by
 refine ⟨h.1,fun w ι M vals hl hv hH hM hf=>?_⟩
 obtain ⟨hlen,hget⟩:=a4k.get ha
 have:=h.2 w (fun _=>none) (fun _=>False) vals (by omega) (fun j s hj=>by
  obtain ⟨x,hx,hs⟩:=hget j s hj
  exact hs.rs hH (fun _ h=>h.elim) (fun _ _ _ _ _ _ _ _ _ h=>h) (hv j x hx))
  .none (fun _ h=>h.elim) (fun _ _=>rfl)
 refine Calls.mono this ?_
 rintro e w' ⟨v,rfl,ι',M',h1,h2,h3,h4,h5⟩
 exact ⟨v,rfl,H6.of_none (h1.flat hr) ⟨h5.os,h5.tape,h5.output,h5.size,fun b hb=>h5.keep b hb (by rintro ⟨id,k,_,_,hk,_⟩;simp at hk)⟩⟩
theorem a0K {P:Program} {g:FuncId} {args args':List S} {H:Hp} {r:S} (h:a9 P g args' [] r []) (ha:a4k H (fun _=>False) args args') (hr:r.isT=true):Z5 P g args H r []:=by
 refine ⟨h.1,fun w ι M vals hl hv hH hM hf=>?_⟩
 obtain ⟨hlen,hget⟩:=a4k.get ha
 have:=h.2 w (fun _=>none) M vals (by omega) (fun j s hj=>by
  obtain ⟨x,hx,hs⟩:=hget j s hj
  exact hs.rs hH (fun _ h=>h) (fun _ _ _ _ _ h _ _ _ _=>h.elim) (hv j x hx))
  .none hM (fun _ _=>rfl)
 refine Calls.mono this ?_
 rintro e w' ⟨v,rfl,ι',M',h1,h2,h3,h4,h5⟩
 refine ⟨v,rfl,H6.of_none ?_ ?_⟩
 ·refine RS.keep (ι:=ι) (M:=M') (fun _ _ _=>rfl) (fun b hb=>?_) (fun _ _ h=>h) (h1.tree hr)
  rcases h5.mold b hb with h|⟨id,k,_,_,hk,_⟩
  ·exact .inl h
  ·simp at hk
 ·exact ⟨h5.os,h5.tape,h5.output,h5.size,fun b hb=>h5.keep b hb (by rintro ⟨id,k,_,_,hk,_⟩;simp at hk)⟩
def aF6 (fr:List Nat) (n:Nat) (k:Blk):Blk:=match fr.any (Nat.beq n),k.mode with
 |true,.live=>{ k with mode:=.froz }
 |_,_=>k
def a2r (fr:List Nat):Nat->Hp->Hp
 |_,[]=>[]
 |n,k::r=>aF6 fr n k::a2r fr (n+1) r
abbrev b6h (fr:List Nat) (H:Hp):Hp:=a2r fr 0 H
theorem a9g (fr:List Nat):∀(H:Hp) (n i:Nat),(a2r fr n H)[i]? =(H[i]?).map (aF6 fr (n+i))
 |[],n,i=>by simp [a2r]
 |k::r,n,0=>by simp [a2r]
 |k::r,n,i+1=>by simp [a2r,a9g fr r (n+1) i,show n+1+i=n+(i+1) by omega]
theorem a1H (fr:List Nat):∀(H:Hp) (n:Nat),(a2r fr n H).length=H.length
 |[],n=>rfl
 |k::r,n=>by simp [a2r,a1H fr r (n+1)]
theorem S6 {fr:List Nat} {H:Hp} {id:Nat} {k':Blk} (h:(b6h fr H)[id]? =some k'):∃k,H[id]? =some k∧k'.elem=k.elem∧k'.size=k.size∧k'.rows=k.rows∧
 ((k'=k∧(id ∉ fr∨k.mode≠.live))∨(id ∈ fr∧k.mode=.live∧k'.mode=.froz)):=by
 rw [a9g,Nat.zero_add] at h
 cases hk:H[id]? with
 |none=>rw [hk] at h;cases h
 |some k=>
  rw [hk] at h
  injection h with h
  refine ⟨k,rfl,?_⟩
  subst h
  unfold aF6
  split
  ·rename_i h1 h2
   obtain ⟨x,hx,hb⟩:=lbw.1 h1
   have:=Nat.eq_of_beq_eq_true hb
   subst this
   exact ⟨rfl,rfl,rfl,.inr ⟨hx,h2,rfl⟩⟩
  ·rename_i h1
   refine ⟨rfl,rfl,rfl,.inl ⟨rfl,?_⟩⟩
   by_cases hm:k.mode=.live
   ·refine .inl fun hi=>h1 ?_ hm
    exact lbw.2 ⟨id,hi,by simp⟩
   ·exact .inr hm
theorem w6 {P:Program} {g:FuncId} {args args':List S} {H:Hp} {r:S} (fr:List Nat) (h:a9 P g args' [] r []) (ha:a4k H (· ∈ fr) args args') (hr:r.isT=true):a9 P g args H r (b6h fr H):=by
 refine ⟨h.1,fun w ι M vals hl hv hH hM hf=>?_⟩
 obtain ⟨hlen,hget⟩:=a4k.get ha
 let M0:Ms:=fun b=>M b∧¬∃id k cap size,id ∈ fr∧H[id]? =some k∧k.mode=.live∧ι id=some (.blk b cap size)
 have hM0:∀b,M0 b->M b:=fun b hb=>hb.1
 have:=h.2 w (fun _=>none) M0 vals (by omega) (fun j s hj=>by
  obtain ⟨x,hx,hs⟩:=hget j s hj
  refine hs.rs hH hM0 ?_ (hv j x hx)
  intro id k b cap size hp hk hd hi hb
  cases hm:k.mode with
  |live=>exact hb.2 ⟨id,k,cap,size,hp,hk,hm,hi⟩
  |froz=>exact hH.fro id k hk hm b cap size hi hb.1
  |old=>exact hd (by rw [hm];trivial)
  |dead=>exact hd (by rw [hm];trivial))
  .none (fun b hb=>hM b hb.1) (fun _ _=>rfl)
 refine Calls.mono this ?_
 rintro e w' ⟨v,rfl,ι',M',h1,h2,h3,h4,h5⟩
 have hkeep:∀b,b<w.heap.size->w'.heap[b]? =w.heap[b]?:=fun b hb=>h5.keep b hb (by rintro ⟨id,k,_,_,hk,_⟩;simp at hk)
 have hold:∀b,M0 b->M' b:=fun b hb=>by
  rcases h5.mold b hb with h|⟨id,k,_,_,hk,_⟩
  ·exact h
  ·simp at hk
 refine ⟨v,rfl,ι,M',?_,⟨?_,?_,?_,?_,?_⟩,h3,?_,?_⟩
 ·exact h1.tree hr
 ·intro id k' hk' hd l hll
  obtain ⟨k,hk,e1,e2,e3,hc⟩:=S6 hk'
  have hd':k.mode≠.dead:=by
   rcases hc with ⟨rfl,_⟩|⟨_,h,_⟩
   ·exact hd
   ·rw [h];intro h;cases h
  have hb:=hH.blk id k hk hd' l hll
  cases l with
  |nil=>show k'.rows=[];rw [e3];exact hb
  |blk b cap size=>
   obtain ⟨q1,q2,q3,q4,q5,cur,q6,q7,q8⟩:=hb
   refine ⟨by rw [e2];exact q1,q2,by rw [e3];exact q3,q4,by rw [e3];exact q5,cur,by rw [e1];exact (hkeep b (D9 q6)).trans q6,q7,fun i j c hc=>?_⟩
   rw [e3] at hc
   obtain ⟨u,hu,hr⟩:=q8 i j c hc
   refine ⟨u,hu,hr.keep (fun b hb _=>hkeep b hb) (fun b hb=>?_) (fun _ _ h=>h)⟩
   rcases h5.mnew b hb with h|h
   ·exact .inl h.1
   ·exact .inr h
 ·intro id k' hk' hl' b cap size hi
  obtain ⟨k,hk,e1,e2,e3,hc⟩:=S6 hk'
  rcases hc with ⟨rfl,hc⟩|⟨_,_,h⟩
  ·refine hold b ⟨hH.liv id k' hk hl' b cap size hi,?_⟩
   rintro ⟨id2,k2,cap2,size2,n1,n2,n3,n4⟩
   have:=hH.inj id id2 k' k2 hk n2 hl' n3 _ _ _ _ _ hi n4
   subst this
   rcases hc with hc|hc
   ·exact hc n1
   ·exact hc hl'
  ·rw [h] at hl';cases hl'
 ·intro id k' hk' hl' b cap size hi hb
  obtain ⟨k,hk,e1,e2,e3,hc⟩:=S6 hk'
  have hlt:b<w.heap.size:=by
   have hd:k.mode≠.dead:=by
    rcases hc with ⟨rfl,_⟩|⟨_,h,_⟩
    ·rw [hl'];intro h;cases h
    ·rw [h];intro h;cases h
   obtain ⟨_,_,_,_,_,cur,q6,_⟩:=hH.blk id k hk hd _ hi
   exact D9 q6
  rcases h5.mnew b hb with h|h
  ·rcases hc with ⟨rfl,_⟩|⟨n1,n2,_⟩
   ·exact hH.fro id k' hk hl' b cap size hi h.1
   ·exact h.2 ⟨id,k,cap,size,n1,hk,n2,hi⟩
  ·omega
 ·intro id id' k1 k2 hk1 hk2 hm1 hm2
  obtain ⟨k,hk,e1,e2,e3,hc⟩:=S6 hk1
  obtain ⟨k',hk',e1',e2',e3',hc'⟩:=S6 hk2
  rcases hc with ⟨rfl,_⟩|⟨_,_,h⟩
  ·rcases hc' with ⟨rfl,_⟩|⟨_,_,h⟩
   ·exact hH.inj id id' _ _ hk hk' hm1 hm2
   ·rw [h] at hm2;cases hm2
  ·rw [h] at hm1;cases hm1
 ·intro id id' k1 k2 hk1 hk2 hm1 hm2
  obtain ⟨k,hk,e1,e2,e3,hc⟩:=S6 hk1
  obtain ⟨k',hk',e1',e2',e3',hc'⟩:=S6 hk2
  rcases hc with ⟨rfl,_⟩|⟨_,_,h⟩
  ·rcases hc' with ⟨rfl,_⟩|⟨_,_,h⟩
   ·exact hH.old id id' _ _ hk hk' hm1 hm2
   ·rw [h] at hm2;cases hm2
  ·rw [h] at hm1;cases hm1
 ·rw [a1H];exact hf
 ·refine ⟨h5.os,h5.tape,h5.output,h5.size,fun b hb _=>hkeep b hb,fun _ _=>rfl,?_,?_,?_,by rw [a1H];exact lbR _⟩
  ·intro b hb
   rcases h5.mnew b hb with h|h
   ·exact .inl h.1
   ·exact .inr h
  ·intro b hb
   by_cases hx:∃id k cap size,id ∈ fr∧H[id]? =some k∧k.mode=.live∧ι id=some (.blk b cap size)
   ·obtain ⟨id,k,cap,size,n1,n2,n3,n4⟩:=hx
    exact .inr ⟨id,k,cap,size,n2,n3,n4⟩
   ·exact .inl (hold b ⟨hb,hx⟩)
  ·rintro b ⟨id,k',cap,size,hk',hl',hi⟩
   obtain ⟨k,hk,e1,e2,e3,hc⟩:=S6 hk'
   rcases hc with ⟨rfl,_⟩|⟨_,_,h⟩
   ·exact .inl ⟨id,k',cap,size,hk,hl',hi⟩
   ·rw [h] at hl';cases hl'
theorem o8 {len m n b:Nat} {K:Prop} (h1:len<=m) (h2:(len+n)*b<=140737488355328) (k:K):(len<=m∧(len+n)*b<=140737488355328)∧K:=⟨⟨h1,h2⟩,k⟩
theorem b3M {α:Type} {xs:List α} {a b:Nat} {K:Prop} (h:a=b) (k:K):(xs.length=0∨a=b)∧K:=⟨.inr h,k⟩
theorem a7A {rows:List (List T)} {r:List T}:(toC rows).take rows.length++toC [r]=toC (rows++[r]):=by
 rw [lbn (by simp [toC])];simp [toC]
theorem b6f {ops:List Oper} {K:List Oper->Prop} (h:a9r ops=true) (k:K ops):b2U ops K:=⟨⟨none,rfl,h,k⟩⟩
theorem aR4 {ops:List Oper} {K:List Oper->Prop} (π:List Nat) (h:a9r (W8 π ops)=true) (h2:aB7 π ops.length=true) (k:K (W8 π ops)):b2U ops K:=⟨⟨some π,h2,h,k⟩⟩
theorem b5k {P:Program} {τ:Tab} {env:Env} {H':Hp} {ops:List Oper} {i:Nat} {K:Prop} (h:H4 ops i=true) (h2:Y7 ops i=[]) (k:K):H4 ops i=true∧∃L,Y7 ops i=L∧a2D P τ ops env H' K L:=⟨h,[],h2,k⟩
theorem b68 {P:Program} {τ:Tab} {env:Env} {H':Hp} {ops:List Oper} {i:Nat} {K:Prop} (L:List Nat) (h:H4 ops i=true) (h2:Y7 ops i=L) (k:a2D P τ ops env H' K L):H4 ops i=true∧∃L,Y7 ops i=L∧a2D P τ ops env H' K L:=⟨h,L,h2,k⟩
theorem b1W {s:S} {B:List Blk} {s':S} {K:Prop} (h1:B=[]) (h2:s=s') (k:K):(B=[]∧s=s')∧K:=⟨⟨h1,h2⟩,k⟩
theorem a79 {rl xl sz ds b:Nat} {K:Prop} (h1:rl=0) (h3:(rl+xl)*b<=140737488355328) (k:K):((rl=0∨(0<xl∧sz=ds))∧(rl+xl)*b<=140737488355328)∧K:=⟨⟨.inl h1,h3⟩,k⟩
theorem F4 {α:Type} {xs:List α} {f:α->List T} {n:Int} {k:Nat} {x:α} {K:List T->Prop} (e:n=k) (hx:xs[k]? =some x) (h:K (f x)):∃row,0<=n∧(xs.map f)[n.toNat]? =some row∧K row:=by
 subst e;exact b9 hx h
theorem au1 {a b:Int} {K:Prop} (h:a≠b) (k:K):a≠b∧K:=⟨h,k⟩
theorem a4r {l h m:Int} {K:Prop} (h1:0<=l) (h2:l<=h) (h3:h<=m) (k:K):(0<=l∧l<=h∧h<=m)∧K:=⟨⟨h1,h2,h3⟩,k⟩
theorem ag3 {P:Program} {n0:Nat} {c:Code} {env:Env} {H:Hp} {Q:AX->Env->Hp->Prop}
 (h:Awp P n0 c env H fun a env' H'=>Q a env' H'∨∃ρ E2 H2,Ent n0 ρ env' H' E2 H2∧Q a E2 H2):Awp P n0 c env H Q:=by
 refine ⟨fun w0 ι0 M0 H0 a w hn hM hs=>wp_mono (h.out w0 ι0 M0 H0 a w hn hM hs) ?_⟩
 rintro e a' w' ⟨x,env',H',rfl,hq,hs'⟩
 rcases hq with hq|⟨ρ,E2,H2,he,hq⟩
 ·exact ⟨x,env',H',rfl,hq,hs'⟩
 ·exact ⟨x,E2,H2,rfl,hq,he.sim hn hM hs'⟩
theorem I6 {id len:Nat} {app:Bool} {H1:Hp} {rows:List (List T)} {size:Nat} {k:Blk} (hk:H1[id]? =some k) (hd:¬k.mode.gone) (hs:k.size=size) (hc:k.rows=toC rows) (hl:len=rows.length):
 Fin 0 (.c (.own id 0 len app)) H1 (.c (.t (.sl size .any rows))) []:=k9 (show VC H1 _ _ _ from u4 rfl hk hd hs hc hl)
theorem f8 {ρ:List (Option Nat)} {H:Hp} {id id' len len':Nat} (h:ρ[id']? =some (some id)) (hl:len=len'):a4z ρ H (.c (.own id 0 len true)) (.c (.own id' 0 len' true)):=⟨h,rfl,hl,fun h=>h⟩
theorem c6 (rows:List (List T)):I9 (toC rows):=by
 intro r hr c hc
 obtain ⟨r',_,rfl⟩:=lbx.1 hr
 obtain ⟨c',_,rfl⟩:=lbx.1 hc
 rfl
theorem a8 {ρ:List (Option Nat)} {H:Hp} {k k':Blk} {rows:List (List T)} (h1:a2M k k'=true) (h2:k.elem=k'.elem) (h3:k.size=k'.size) (h4:k.rows=toC rows) (h5:k'.rows=toC rows):a5q ρ H k k':=
 ⟨h1,h2,h3,.inl ⟨h4.trans h5.symm,h4 ▸ c6 rows⟩⟩
theorem ao7 {H:Hp} {p:Nat->Prop} {x:T}:VS H p (.c (.t x)) (.c (.t x)):=a19 (aS2 (a1x x))
end
section
open Go.RowKit
mutual
def a01 (σ:List Nat):C->C
 |.t x=>.t x
 |.ptr id r o=>.ptr (σ.getD id 0) r o
 |.own id lo len app=>.own (σ.getD id 0) lo len app
 |.fn f caps=>.fn f (a21 σ caps)
def a21 (σ:List Nat):List C->List C
 |[]=>[]
 |x::r=>a01 σ x::a21 σ r
end
def a7B (σ:List Nat):S->S
 |.junk=>.junk
 |.c x=>.c (a01 σ x)
 |.agg cs=>.agg (a21 σ cs)
 |.tup ss=>.tup (ss.map fun s=>match s with
  |.c x=>.c (a01 σ x)
  |.agg cs=>.agg (a21 σ cs)
  |s=>s)
mutual
def okC (n:Nat):C->Bool
 |.t _=>true
 |.ptr id _ _=>Nat.blt id n
 |.own id _ _ _=>Nat.blt id n
 |.fn _ caps=>okL n caps
def okL (n:Nat):List C->Bool
 |[]=>true
 |x::r=>okC n x && okL n r
end
def okS (n:Nat):S->Bool
 |.junk=>true
 |.c x=>okC n x
 |.agg cs=>okL n cs
 |.tup _=>false
theorem M6 (σ:List Nat):∀l,a21 σ l=l.map (a01 σ)
 |[]=>by simp [a21]
 |x::r=>by simp [a21,M6 σ r]
theorem b1k {n:Nat}:∀{l:List C},okL n l=true->∀c ∈ l,okC n c=true
 |[],_,c,h=>by cases h
 |x::r,h,c,hc=>by
  simp only [okL,lbN] at h
  rcases lbA.1 hc with rfl|hc
  ·exact h.1
  ·exact b1k h.2 c hc
theorem am2 {σ:List Nat} {x:C} (h:x.isT=true):a01 σ x=x:=by
 cases x<;>first|rfl|cases h
def a0h (σ:List Nat) (ι:Io):Io:=fun id=>(σ[id]?).bind ι
mutual
theorem aC5 {w:World} {ι:Io} {M:Ms} {σ:List Nat}:∀(x:C) (v:Value),okC σ.length x=true->RC w ι M (a01 σ x) v->RC w (a0h σ ι) M x v
 |.t x,v,_,h=>by
  simp only [a01] at h
  cases h with
  |t h=>exact .t h
 |.ptr id r o,v,hk,h=>by
  simp only [a01] at h
  have hlt:id<σ.length:=by simpa [okC,Nat.blt_eq] using hk
  have e:a0h σ ι id=ι (σ.getD id 0):=by simp [a0h,lbf hlt,lbl]
  cases h with
  |ptr h=>exact .ptr (e.trans h)
 |.own id lo len app,v,hk,h=>by
  simp only [a01] at h
  have hlt:id<σ.length:=by simpa [okC,Nat.blt_eq] using hk
  have e:a0h σ ι id=ι (σ.getD id 0):=by simp [a0h,lbf hlt,lbl]
  cases h with
  |own h h1 h2 h3 h4 h5=>exact .own (e.trans h) h1 h2 h3 h4 h5
  |nil h=>exact .nil (e.trans h)
 |.fn f caps,v,hk,h=>by
  simp only [a01] at h
  cases h with
  |fn vs hl hr=>
   rw [M6,lbr] at hl
   refine .fn vs hl fun j c hj=>?_
   exact aF7 caps (by simpa [okC] using hk) c (lbm hj) _ (hr j _ (by rw [M6,lba,hj];rfl))
theorem aF7 {w:World} {ι:Io} {M:Ms} {σ:List Nat}:∀(l:List C),okL σ.length l=true->∀c ∈ l,∀v,RC w ι M (a01 σ c) v->RC w (a0h σ ι) M c v
 |[],_,c,h,_,_=>by cases h
 |x::r,hk,c,hc,v,h=>by
  simp only [okL,lbN] at hk
  rcases lbA.1 hc with hcx|hc
  ·rw [hcx] at h ⊢
   exact aC5 x v hk.1 h
  ·exact aF7 r hk.2 c hc v h
end
theorem b8l {w:World} {ι:Io} {M:Ms} {σ:List Nat} {s:S} {v:Value} (hk:okS σ.length s=true) (h:RS w ι M (a7B σ s) v):RS w (a0h σ ι) M s v:=by
 cases s with
 |junk=>exact .junk
 |c x=>cases h with
  |c h=>exact .c (aC5 x v hk h)
 |agg cs=>
  have h:RS w ι M (.agg (a21 σ cs)) v:=h
  cases h with
  |agg vs hl hr=>
   rw [M6,lbr] at hl
   refine .agg vs hl fun j c hj=>?_
   exact aF7 cs hk c (lbm hj) _ (hr j _ (by rw [M6,lba,hj];rfl))
 |tup ss=>cases hk
theorem RC.ren {w:World} {ι ι':Io} {M:Ms} {σ:List Nat} (hι:∀id l,ι id=some l->ι' (σ.getD id 0)=some l) {x:C} {v:Value} (h:RC w ι M x v):RC w ι' M (a01 σ x) v:=by
 induction h with
 |t h=>simp only [a01];exact .t h
 |ptr h=>simp only [a01];exact .ptr (hι _ _ h)
 |own h h1 h2 h3 h4 h5=>simp only [a01];exact .own (hι _ _ h) h1 h2 h3 h4 h5
 |nil h=>simp only [a01];exact .nil (hι _ _ h)
 |fn vs hl hr ih=>
  simp only [a01]
  refine .fn vs (by rw [M6,lbr];exact hl) fun j c hj=>?_
  rw [M6,lba] at hj
  obtain ⟨c0,hc0,rfl⟩:=Option.map_eq_some_iff.1 hj
  exact ih j c0 hc0
theorem RS.ren1 {w:World} {ι ι':Io} {M:Ms} {σ:List Nat} (hι:∀id l,ι id=some l->ι' (σ.getD id 0)=some l) {x:List C} {v:Value} (h:RS w ι M (.agg x) v):RS w ι' M (.agg (a21 σ x)) v:=by
 cases h with
 |agg vs hl hr=>
  refine .agg vs (by rw [M6,lbr];exact hl) fun j c hj=>?_
  rw [M6,lba] at hj
  obtain ⟨c0,hc0,rfl⟩:=Option.map_eq_some_iff.1 hj
  exact (hr j c0 hc0).ren hι
def bh9:S->Bool
 |.tup _=>false
 |_=>true
def aS8:S->Bool
 |.tup ss=>ss.all bh9
 |_=>true
theorem RS.ren {w:World} {ι ι':Io} {M:Ms} {σ:List Nat} (hι:∀id l,ι id=some l->ι' (σ.getD id 0)=some l) {s:S} {v:Value} (hs:aS8 s=true) (h:RS w ι M s v):RS w ι' M (a7B σ s) v:=by
 cases s with
 |junk=>exact .junk
 |c x=>cases h with
  |c h=>exact .c (h.ren hι)
 |agg cs=>exact RS.ren1 hι h
 |tup ss=>
  cases h with
  |tup vs hl hr=>
   refine .tup vs (by simpa using hl) fun j s hj=>?_
   rw [lba] at hj
   obtain ⟨s0,hs0,rfl⟩:=Option.map_eq_some_iff.1 hj
   have h0:=hr j s0 hs0
   have hno:=lbv.1 hs s0 (lbm hs0)
   cases s0 with
   |junk=>exact .junk
   |c x=>cases h0 with
    |c h=>exact .c (h.ren hι)
   |agg cs=>exact RS.ren1 hι h0
   |tup _=>cases hno
def a8C (σ:List Nat) (rows:List (List C)):List (List C):=rows.map (a21 σ)
theorem b5R {σ:List Nat} (rows:List (List T)):a8C σ (toC rows)=toC rows:=by
 unfold a8C toC
 rw [List.map_map]
 apply lbp
 intro r _
 show a21 σ (r.map C.t)=r.map C.t
 rw [M6,List.map_map]
 apply lbp
 intro c _
 simp [a01]
theorem b1w {σ:List Nat} {rows:List (List C)} {i j:Nat}:at2 (a8C σ rows) i j=(at2 rows i j).map (a01 σ):=by
 unfold at2 a8C
 rw [lba]
 cases rows[i]? with
 |none=>rfl
 |some r=>simp [M6]
def az9 (σ:List Nat) (k k':Blk):Prop:=k'.mode=k.mode∧k'.elem=k.elem∧k'.size=k.size∧k'.app=k.app∧k'.rows=a8C σ k.rows
theorem C0 {σ:List Nat} {k:Blk} {rows:List (List T)} (h:k.rows=toC rows):az9 σ k k:=⟨rfl,rfl,rfl,rfl,by rw [h,b5R]⟩
theorem b62 {n:Nat}:∀l:List T,okL n (l.map C.t)=true
 |[]=>by simp [okL]
 |x::r=>by simp [okL,okC,b62 r]
theorem a2i {n:Nat} (rows:List (List T)):∀r ∈ toC rows,okL n r=true:=by
 intro r hr
 obtain ⟨r',_,rfl⟩:=lbx.1 hr
 exact b62 r'
theorem L3.ren {w:World} {ι ι':Io} {M:Ms} {σ:List Nat} (hι:∀id l,ι id=some l->ι' (σ.getD id 0)=some l) {k k':Blk} (hk:az9 σ k k') {l:Loc} (h:L3 w ι M k l):L3 w ι' M k' l:=by
 obtain ⟨e1,e2,e3,e4,e5⟩:=hk
 cases l with
 |nil=>
  have h:k.rows=[]:=h
  show k'.rows=[]
  rw [e5,h];rfl
 |blk b cap size=>
  obtain ⟨q1,q2,q3,q4,q5,cur,q6,q7,q8⟩:=h
  refine ⟨by rw [e3];exact q1,q2,by rw [e5];simpa [a8C] using q3,q4,?_,cur,by rw [e2];exact q6,q7,fun i j c hc=>?_⟩
  ·intro r hr
   rw [e5] at hr
   obtain ⟨r0,h0,rfl⟩:=lbx.1 hr
   rw [M6,lbr]
   exact q5 r0 h0
  ·rw [e5,b1w] at hc
   obtain ⟨c0,hc0,rfl⟩:=Option.map_eq_some_iff.1 hc
   obtain ⟨u,h1,h2⟩:=q8 i j c0 hc0
   exact ⟨u,h1,h2.ren hι⟩
theorem L3.ren_in {w:World} {ι:Io} {M:Ms} {σ:List Nat} {k k':Blk} (hk:az9 σ k k') (hok:∀r ∈ k.rows,okL σ.length r=true) {l:Loc} (h:L3 w ι M k' l):L3 w (a0h σ ι) M k l:=by
 obtain ⟨e1,e2,e3,e4,e5⟩:=hk
 cases l with
 |nil=>
  have h:k'.rows=[]:=h
  show k.rows=[]
  rw [e5] at h
  simpa [a8C] using h
 |blk b cap size=>
  obtain ⟨q1,q2,q3,q4,q5,cur,q6,q7,q8⟩:=h
  refine ⟨by rw [← e3];exact q1,q2,by rw [e5] at q3;simpa [a8C] using q3,q4,?_,cur,by rw [← e2];exact q6,q7,fun i j c hc=>?_⟩
  ·intro r hr
   have:=q5 (a21 σ r) (by rw [e5];exact lbx.2 ⟨r,hr,rfl⟩)
   rw [M6,lbr] at this
   exact this
  ·obtain ⟨u,h1,h2⟩:=q8 i j (a01 σ c) (by rw [e5,b1w,hc];rfl)
   obtain ⟨row,r1,r2⟩:=C7 hc
   exact ⟨u,h1,aC5 c u (b1k (hok row (lbm r1)) c (lbm r2)) h2⟩
def a4w (σ:List Nat) (n m:Nat):List Nat:=σ++(List.range m).map (n+·)
theorem O6 {P:Program} {g:FuncId} {args args':List S} {H H' Hs Hs':Hp} {r r':S} (σ:List Nat) (h:a9 P g args Hs r Hs')
 (hargs:args'=args.map (a7B σ)) (hok:args.all (okS σ.length)=true) (hσl:σ.length=Hs.length) (hσn:σ.Nodup)
 (hin:∀i k,Hs[i]? =some k->k.mode=.live∧k.app=false∧(∀ r ∈ k.rows,okL σ.length r=true)∧∃k',H[σ.getD i 0]? =some k'∧az9 σ k k')
 (hno:∀k ∈ Hs',k.mode≠.old) (hlen:Hs.length<=Hs'.length)
 (hr:aS8 r=true) (hr':r'=a7B (a4w σ H.length (Hs'.length - Hs.length)) r)
 (hl':H'.length=H.length+(Hs'.length - Hs.length)) (hout:∀i k,Hs'[i]? =some k->∃k',H'[(a4w σ H.length (Hs'.length - Hs.length)).getD i 0]? =some k'∧az9 (a4w σ H.length (Hs'.length - Hs.length)) k k')
 (hrest:∀j,j<H.length->j ∉ σ->H'[j]? =H[j]?):a9 P g args' H r' H':=by
 refine ⟨h.1,fun w ι M vals hl hv hH hM hF=>?_⟩
 subst hargs
 have hσlt:∀i,i<σ.length->σ.getD i 0<H.length:=fun i hi=>by
  obtain ⟨_,_,_,k',hk',_⟩:=hin i Hs[i] (lbf (by omega))
  exact (lbe.1 hk').1
 have hsub:∀i,i<σ.length->a0h σ ι i=ι (σ.getD i 0):=fun i hi=>by simp [a0h,lbf hi,lbl]
 have hsubn:∀i,σ.length<=i->a0h σ ι i=none:=fun i hi=>by simp [a0h,lbd hi]
 have hget:∀i k,Hs[i]? =some k->i<σ.length:=fun i k hk=>by rw [hσl];exact (lbe.1 hk).1
 have hHs:p5 w (a0h σ ι) M Hs:=by
  refine ⟨?_,?_,?_,?_,?_⟩
  ·intro id k hk hd l hl
   obtain ⟨h1,h2,h3,k',hk',hren⟩:=hin id k hk
   rw [hsub id (hget id k hk)] at hl
   exact (hH.blk _ k' hk' (by rw [hren.1];exact hd) l hl).ren_in hren h3
  ·intro id k hk hm b cap size hl
   obtain ⟨h1,h2,h3,k',hk',hren⟩:=hin id k hk
   rw [hsub id (hget id k hk)] at hl
   exact hH.liv _ k' hk' (by rw [hren.1];exact hm) b cap size hl
  ·intro id k hk hm
   obtain ⟨h1,h2,h3,k',hk',hren⟩:=hin id k hk
   rw [h1] at hm;cases hm
  ·intro id id' k k2 hk hk2 hm hm2 b cap size cap' size' hl hl2
   obtain ⟨h1,h2,h3,k',hk',hren⟩:=hin id k hk
   obtain ⟨h1',h2',h3',k2',hk2',hren2⟩:=hin id' k2 hk2
   rw [hsub id (hget id k hk)] at hl
   rw [hsub id' (hget id' k2 hk2)] at hl2
   have:=hH.inj _ _ k' k2' hk' hk2' (by rw [hren.1];exact hm) (by rw [hren2.1];exact hm2) _ _ _ _ _ hl hl2
   have hi:=hget id k hk
   have hi':=hget id' k2 hk2
   rw [lbl,lbl,lbf hi,lbf hi'] at this
   simp only [Option.getD_some] at this
   have hp:=List.pairwise_iff_getElem.1 hσn
   rcases Nat.lt_trichotomy id id' with hlt|heq|hgt
   ·exact absurd this (hp id id' hi hi' hlt)
   ·exact heq
   ·exact absurd this.symm (hp id' id hi' hi hgt)
  ·intro id id' k k2 hk hk2 hm
   obtain ⟨h1,_⟩:=hin id k hk
   rw [h1] at hm;cases hm
 have hlive:∀b,a48 (a0h σ ι) Hs b->∃i k,i<σ.length∧H[σ.getD i 0]? =some k∧k.mode=.live∧k.app=false∧∃cap size,ι (σ.getD i 0)=some (.blk b cap size):=by
  rintro b ⟨i,k,cap,size,hk,hm,hi⟩
  obtain ⟨h1,h2,h3,k',hk',hren⟩:=hin i k hk
  rw [hsub i (hget i k hk)] at hi
  exact ⟨i,k',hget i k hk,hk',by rw [hren.1];exact h1,by rw [hren.2.2.2.1];exact h2,cap,size,hi⟩
 have hliveH:∀b,a48 (a0h σ ι) Hs b->a48 ι H b:=fun b hb=>by
  obtain ⟨i,k,_,hk,hm,_,cap,size,hi⟩:=hlive b hb
  exact ⟨_,k,cap,size,hk,hm,hi⟩
 have hvals:∀j s,args[j]? =some s->RS w (a0h σ ι) M s (vals.getD j undef):=fun j s hj=>
  b8l (lbv.1 hok s (lbm hj)) (hv j _ (by rw [lba,hj];rfl))
 have hcall:=h.2 w (a0h σ ι) M vals (by simpa using hl) hvals hHs hM (fun id hid=>hsubn id (by omega))
 refine Calls.mono hcall ?_
 rintro e w' ⟨v,rfl,ι',M',h1,h2,h3,h4,h5⟩
 refine ⟨v,rfl,?_⟩
 generalize hm:Hs'.length - Hs.length=m at *
 let σ':=a4w σ H.length m
 let ι2:Io:=fun j=>if j<H.length then ι j else ι' (Hs.length+(j - H.length))
 have hσ'l:σ'.length=Hs'.length:=by simp [σ',a4w];omega
 have hσ'1:∀i,i<σ.length->σ'.getD i 0=σ.getD i 0:=fun i hi=>by
  simp only [σ',a4w,lbl,lbb hi]
 have hσ'2:∀i,σ.length<=i->i<Hs'.length->σ'.getD i 0=H.length+(i - σ.length):=fun i hi hi'=>by
  simp only [σ',a4w,lbl]
  rw [lbc hi,lba,lbh (by omega)]
  rfl
 have hι2:∀id l,ι' id=some l->ι2 (σ'.getD id 0)=some l:=fun id l hid=>by
  have hidl:id<Hs'.length:=by
   rcases Nat.lt_or_ge id Hs'.length with h|h
   ·exact h
   ·rw [h4 id h] at hid;cases hid
  show (if _ then _ else _)=_
  by_cases hlt:id<σ.length
  ·rw [hσ'1 id hlt,if_pos (hσlt id hlt),←hsub id hlt,←h5.same id (by omega)]
   exact hid
  ·rw [hσ'2 id (by omega) hidl,if_neg (by omega),show Hs.length+(H.length+(id - σ.length) - H.length)=id by omega]
   exact hid
 have hkeepM:∀b,b<w.heap.size->¬M b->w'.heap[b]? =w.heap[b]?:=fun b hb hnm=>h5.keep b hb fun hl=>hnm (a48.inM hHs hl)
 have hιext:∀id l,ι id=some l->ι2 id=some l:=fun id l hid=>by
  show (if _ then _ else _)=_
  rw [if_pos]
  ·exact hid
  ·rcases Nat.lt_or_ge id H.length with h|h
   ·exact h
   ·rw [hF id h] at hid;cases hid
 -- what lies at a place
 have hcase:∀j k',H'[j]? =some k'->(j<H.length∧j ∉ σ∧H[j]? =some k')∨∃i k,Hs'[i]? =some k∧σ'.getD i 0=j∧az9 σ' k k'∧ι2 j=ι' i:=fun j k' hj=>by
  have hjl:=(lbe.1 hj).1
  have fromI:∀i,i<Hs'.length->σ'.getD i 0=j->∃i k,Hs'[i]? =some k∧σ'.getD i 0=j∧az9 σ' k k'∧ι2 j=ι' i:=fun i hi hij=>by
   obtain ⟨k2,hk2,hren⟩:=hout i Hs'[i] (lbf hi)
   have hk2':H'[j]? =some k2:=by rw [← hij];exact hk2
   rw [hj] at hk2'
   injection hk2' with hk2'
   subst hk2'
   refine ⟨i,_,lbf hi,hij,hren,?_⟩
   show (if _ then _ else _)=_
   by_cases hlt:i<σ.length
   ·rw [← hij,hσ'1 i hlt,if_pos (hσlt i hlt),←hsub i hlt,←h5.same i (by omega)]
   ·rw [← hij,hσ'2 i (by omega) hi,if_neg (by omega),show Hs.length+(H.length+(i - σ.length) - H.length)=i by omega]
  by_cases hlt:j<H.length
  ·by_cases hmem:j ∈ σ
   ·obtain ⟨i,hi⟩:=List.mem_iff_getElem?.1 hmem
    have hil:=(lbe.1 hi).1
    refine .inr (fromI i (by omega) ?_)
    rw [hσ'1 i hil,lbl,hi];rfl
   ·rw [hrest j hlt hmem] at hj
    exact .inl ⟨hlt,hmem,hj⟩
  ·refine .inr (fromI (σ.length+(j - H.length)) (by omega) ?_)
   rw [hσ'2 _ (by omega) (by omega)];omega
 have hold2:∀j,j<H.length->ι2 j=ι j:=fun j hj=>by show (if _ then _ else _)=_;rw [if_pos hj]
 have hmodeOut:∀j k',j<H.length->j ∉ σ->H[j]? =some k'->k'.mode=.live->∀b cap size,ι j=some (.blk b cap size)->¬a48 (a0h σ ι) Hs b:=fun j k' hjl hjn hk' hm' b cap size hi hb=>by
  obtain ⟨i,k,hil,hk,hkm,_,c,s,hi2⟩:=hlive b hb
  have:=hH.inj j _ k' k hk' hk hm' hkm _ _ _ _ _ hi hi2
  apply hjn
  rw [this,lbl,lbf hil]
  exact lbE hil
 refine ⟨ι2,M',?_,⟨?_,?_,?_,?_,?_⟩,h3,?_,?_⟩
 ·rw [hr']
  exact h1.ren hι2 hr
 ·intro j k' hj hd l hl2
  rcases hcase j k' hj with ⟨hjl,hjn,hk'⟩|⟨i,k,hk,hij,hren,hιj⟩
  ·rw [hold2 j hjl] at hl2
   have hb:=hH.blk j k' hk' hd l hl2
   cases l with
   |nil=>exact hb
   |blk b cap size=>
    obtain ⟨q1,q2,q3,q4,q5,cur,q6,q7,q8⟩:=hb
    have hnl:¬a48 (a0h σ ι) Hs b:=by
     intro hb
     cases hm':k'.mode with
     |live=>exact hmodeOut j k' hjl hjn hk' hm' b cap size hl2 hb
     |froz=>exact hH.fro j k' hk' hm' _ _ _ hl2 (a48.inM hHs hb)
     |old=>
      obtain ⟨i,k,hil,hk,hkm,hka,c,s,hi2⟩:=hlive b hb
      have:=(hH.old j _ k' k hk' hk hm' hkm _ _ _ _ _ hl2 hi2).1
      rw [hka] at this;cases this
     |dead=>exact hd hm'
    refine ⟨q1,q2,q3,q4,q5,cur,(h5.keep b (D9 q6) hnl).trans q6,q7,fun i j c hc=>?_⟩
    obtain ⟨u,r1,r2⟩:=q8 i j c hc
    exact ⟨u,r1,r2.keep hkeepM h5.mnew hιext⟩
  ·rw [hιj] at hl2
   exact (h2.blk i k hk (by rw [← hren.1];exact hd) l hl2).ren hι2 hren
 ·intro j k' hj hm' b cap size hi
  rcases hcase j k' hj with ⟨hjl,hjn,hk'⟩|⟨i,k,hk,hij,hren,hιj⟩
  ·rw [hold2 j hjl] at hi
   rcases h5.mold b (hH.liv j k' hk' hm' b cap size hi) with h|h
   ·exact h
   ·exact absurd h (hmodeOut j k' hjl hjn hk' hm' b cap size hi)
  ·rw [hιj] at hi
   exact h2.liv i k hk (by rw [← hren.1];exact hm') b cap size hi
 ·intro j k' hj hm' b cap size hi hb
  rcases hcase j k' hj with ⟨hjl,hjn,hk'⟩|⟨i,k,hk,hij,hren,hιj⟩
  ·rw [hold2 j hjl] at hi
   have hlt:b<w.heap.size:=by
    obtain ⟨_,_,_,_,_,cur,q6,_⟩:=hH.blk j k' hk' (by rw [hm'];intro h;cases h) _ hi
    exact D9 q6
   rcases h5.mnew b hb with h|h
   ·exact hH.fro j k' hk' hm' b cap size hi h
   ·omega
  ·rw [hιj] at hi
   exact h2.fro i k hk (by rw [← hren.1];exact hm') b cap size hi hb
 ·have cross:∀j j' k' i k,j<H.length->j ∉ σ->H[j]? =some k'->k'.mode=.live->Hs'[i]? =some k->k.mode=.live->∀b cap size cap' size',ι j=some (.blk b cap size)->ι' i=some (.blk b cap' size')->j=j':=by
   intro j j' k' i k hjl hjn hk' hm' hk hkm b cap size cap' size' hi hi'
   have hlt:b<w.heap.size:=by
    obtain ⟨_,_,_,_,_,cur,q6,_⟩:=hH.blk j k' hk' (by rw [hm'];intro h;cases h) _ hi
    exact D9 q6
   rcases h5.live b ⟨i,k,cap',size',hk,hkm,hi'⟩ with h|h
   ·exact absurd h (hmodeOut j k' hjl hjn hk' hm' b cap size hi)
   ·omega
  intro j j' k1 k2 hj hj' hm1 hm2 b cap size cap' size' hi hi'
  rcases hcase j k1 hj with ⟨hjl,hjn,hk1⟩|⟨i,k,hk,hij,hren,hιj⟩<;>rcases hcase j' k2 hj' with ⟨hjl',hjn',hk2⟩|⟨i',k0,hk0,hij',hren',hιj'⟩
  ·rw [hold2 j hjl] at hi
   rw [hold2 j' hjl'] at hi'
   exact hH.inj j j' k1 k2 hk1 hk2 hm1 hm2 _ _ _ _ _ hi hi'
  ·rw [hold2 j hjl] at hi
   rw [hιj'] at hi'
   exact cross j j' k1 i' k0 hjl hjn hk1 hm1 hk0 (by rw [← hren'.1];exact hm2) _ _ _ _ _ hi hi'
  ·rw [hιj] at hi
   rw [hold2 j' hjl'] at hi'
   exact (cross j' j k2 i k hjl' hjn' hk2 hm2 hk (by rw [← hren.1];exact hm1) _ _ _ _ _ hi' hi).symm
  ·rw [hιj] at hi
   rw [hιj'] at hi'
   have:=h2.inj i i' k k0 hk hk0 (by rw [← hren.1];exact hm1) (by rw [← hren'.1];exact hm2) _ _ _ _ _ hi hi'
   rw [← hij,←hij',this]
 ·intro j j' k1 k2 hj hj' hm1 hm2 b cap size cap' size' hi hi'
  rcases hcase j k1 hj with ⟨hjl,hjn,hk1⟩|⟨i,k,hk,hij,hren,hιj⟩
  ·rw [hold2 j hjl] at hi
   have hlt:b<w.heap.size:=by
    obtain ⟨_,_,_,_,_,cur,q6,_⟩:=hH.blk j k1 hk1 (by rw [hm1];intro h;cases h) _ hi
    exact D9 q6
   rcases hcase j' k2 hj' with ⟨hjl',hjn',hk2⟩|⟨i',k0,hk0,hij',hren',hιj'⟩
   ·rw [hold2 j' hjl'] at hi'
    exact hH.old j j' k1 k2 hk1 hk2 hm1 hm2 _ _ _ _ _ hi hi'
   ·rw [hιj'] at hi'
    rcases h5.live b ⟨i',k0,cap',size',hk0,by rw [← hren'.1];exact hm2,hi'⟩ with h|h
    ·obtain ⟨i,k,hil,hk,hkm,hka,c,s,hi2⟩:=hlive b h
     have:=(hH.old j _ k1 k hk1 hk hm1 hkm _ _ _ _ _ hi hi2).1
     rw [hka] at this;cases this
    ·omega
  ·have:k.mode=.old:=by rw [← hren.1];exact hm1
   exact absurd this (hno k (lbm hk))
 ·intro id hid
  show (if _ then _ else _)=_
  rw [if_neg (by omega)]
  exact h4 _ (by omega)
 ·refine ⟨h5.os,h5.tape,h5.output,h5.size,fun b hb hnl=>h5.keep b hb fun hl=>hnl (hliveH b hl),fun id hid=>hold2 id hid,h5.mnew,fun b hb=>?_,?_,by omega⟩
  ·rcases h5.mold b hb with h|h
   ·exact .inl h
   ·exact .inr (hliveH b h)
  ·rintro b ⟨j,k',cap,size,hj,hm',hi⟩
   rcases hcase j k' hj with ⟨hjl,hjn,hk'⟩|⟨i,k,hk,hij,hren,hιj⟩
   ·rw [hold2 j hjl] at hi
    exact .inl ⟨j,k',cap,size,hk',hm',hi⟩
   ·rw [hιj] at hi
    rcases h5.live b ⟨i,k,cap,size,hk,by rw [← hren.1];exact hm',hi⟩ with h|h
    ·exact .inl (hliveH b h)
    ·exact .inr h
theorem n8 {P:Program} {τ:Tab} (hτ:A8 P τ) {n0:Nat} {c:Code} {env:Env} {H:Hp} {Q:AX->Env->Hp->Prop} {σ:Type} (E:σ->Env × Hp) (I:σ->Prop) (μ:σ->Nat) (x0:σ) (ρ0:List (Option Nat))
 (hI:I x0) (h0:Ent n0 ρ0 env H (E x0).1 (E x0).2)
 (round:∀x,I x->a4T P τ n0 c (E x).1 (E x).2 fun a env' H'=>match a with
   |.normal=>∃ρ x',Ent n0 ρ env' H' (E x').1 (E x').2∧I x'∧μ x'<μ x
   |a=>Q a env' H'):Awp P n0 (.loop c) env H Q:=by
 refine a81 (σ:={ x:σ // I x }) (fun x=>E x.1) (fun x=>μ x.1) ⟨x0,hI⟩ ρ0 h0 ?_
 rintro ⟨x,hx⟩
 refine (z6 hτ c (round x hx)).mono ?_
 intro a env' H' h
 cases a with
 |normal=>
  obtain ⟨ρ,x',h1,h2,h3⟩:=h
  exact ⟨ρ,⟨x',h2⟩,h1,h3⟩
 |exit id=>exact h
 |ret=>exact h
theorem B5 {x y:Int} (h:x=y) (h1:-9223372036854775808<=y) (h2:y<=9223372036854775807):F8 .i64 x y:=by subst h;exact a3L h1 h2
end
section
open Go.RowKit
section
variable {α β:Type}
theorem a9V {l:List α}:∀{i:Nat} {x:α} {k:α->Prop},l[i]? =some x->k x->a3d i l k:=by
 induction l with
 |nil=>intro i x k h;simp at h
 |cons a r ih=>
  intro i x k h hk
  cases i with
  |zero=>simp at h;subst h;exact hk
  |succ i=>exact ih (by simpa using h) hk
theorem aB6 {v:α} {l:List α} {i:Nat} {k:List α->Prop} (h:k (l.set i v)):a63 i v l k:=K3.2 h
theorem a3T {r l:List α} {k:List α->Prop} (h:k (l++r)):ad1 l r k:=a37.2 h
theorem G3 {l:List α} {k:List α->Prop} (h:k l):ad1 l [] k:=a3T (by rw [List.append_nil];exact h)
theorem b1R {l:List α} {n:Nat} {k:Nat->Prop} (h:k (l.length+n)):a9x l n k:=a0Y.2 (by rw [Nat.add_comm];exact h)
theorem a5k {f:β->α} {M:List β} {N n:Nat} {k:Nat->Prop} (h:M.length=N) (hk:k (N+n)):a9x (M.map f) n k:=b1R (by simpa [h] using hk)
theorem n6 {f:β->α} {M:List β} {T:List α} {N n:Nat} {k:Nat->Prop} (h:M.length=N) (hk:a9x T n fun m=>k (N+m)):a9x (M.map f++T) n k:=by
 refine b1R ?_
 have:=(a0Y (k:=fun m=>k (N+m))).1 hk
 simpa [h,Nat.add_assoc,Nat.add_comm n] using this
theorem k7 {f:β->α} {M:List β} {T r:List α} {k:List α->Prop} (h:ad1 T r fun q=>k (M.map f++q)):ad1 (M.map f++T) r k:=by
 refine a3T ?_
 rw [lbD]
 exact (a37 (k:=fun q=>k (M.map f++q))).1 h
theorem aH6 {f:β->α} {M:List β} {i:Nat} {x:β} {k:α->Prop} (h:M[i]? =some x) (hk:k (f x)):a3d i (M.map f) k:=a9V (by rw [lba,h];rfl) hk
theorem Z7 {f:β->α} {M:List β} {T:List α} {i:Nat} {x:β} {k:α->Prop} (h:M[i]? =some x) (hk:k (f x)):a3d i (M.map f++T) k:=
 a9V (by rw [lbb (by simpa using (lbe.1 h).1),lba,h];rfl) hk
theorem g8 {f:β->α} {M:List β} {T:List α} {N t:Nat} {k:α->Prop} (h:M.length=N) (hk:a3d t T k):a3d (N+t) (M.map f++T) k:=by
 obtain ⟨x,h1,h2⟩:=O2 hk
 exact a9V (by rw [lbc (by simp [h])];simpa [h] using h1) h2
theorem D4 {f:β->α} {M:List β} {T:List α} {N:Nat} {k:α->Prop} (h:M.length=N) (hk:a3d 0 T k):a3d N (M.map f++T) k:=g8 (t:=0) h hk
theorem at6 {f:β->α} {M:List β} {T:List α} {i:Nat} {v:α} {x:β} {k:List α->Prop} (hi:i<M.length) (hv:v=f x) (h:k ((M.set i x).map f++T)):a63 i v (M.map f++T) k:=
 aB6 (by rw [List.set_append_left _ _ (by simpa using hi),hv,←List.map_set];exact h)
theorem g9 {f:β->α} {M:List β} {T:List α} {N t:Nat} {v:α} {k:List α->Prop} (h:M.length=N) (hk:a63 t v T fun q=>k (M.map f++q)):a63 (N+t) v (M.map f++T) k:=by
 refine aB6 ?_
 rw [List.set_append_right _ _ (by simp [h])]
 simpa [h] using (K3 (k:=fun q=>k (M.map f++q))).1 hk
theorem a8z {f:β->α} {M:List β} {T:List α} {N:Nat} {v:α} {k:List α->Prop} (h:M.length=N) (hk:a63 0 v T fun q=>k (M.map f++q)):a63 N v (M.map f++T) k:=g9 (t:=0) h hk
end
def idR (n:Nat):List (Option Nat):=(List.range n).map some
theorem b1a (n:Nat):(idR n).length=n:=by simp [idR]
theorem p6 {n i:Nat} (h:i<n):(idR n)[i]? =some (some i):=by simp [idR,h]
theorem b1t {n i j:Nat} (h:(idR n)[i]? =some (some j)):i=j:=by
 obtain ⟨h1,h2⟩:=lbe.1 h
 simp [idR] at h2
 exact h2
theorem a87 {n:Nat}:∀{m:Nat},m<=n->a2d (idR n) m=true
 |0,_=>rfl
 |m+1,h=>by
  unfold a2d
  rw [p6 (by omega),a87 (by omega)]
  simp
theorem aR7:∀{r:List (Option Nat)} {H:Hp} {n:Nat},(∀ j:Nat,r[j]?≠some (some n))->a50 n r H=false
 |[],H,n,_=>by cases H<;>rfl
 |x::r,[],n,_=>by cases x<;>rfl
 |x::r,k::H,n,h=>by
  unfold a50
  rw [aR7 (r:=r) (H:=H) (n:=n) (fun j=>by simpa using h (j+1)),Bool.or_false]
  split
  ·rfl
  ·rename_i m _
   have:m≠n:=by rintro rfl;exact h 0 rfl
   cases hb:Nat.beq m n with
   |false=>rfl
   |true=>exact absurd (Nat.eq_of_beq_eq_true hb) this
  ·rfl
theorem a0A:∀{r:List (Option Nat)} {H:Hp},(∀ i j n:Nat,r[i]? =some (some n)->r[j]? =some (some n)->i=j)->S3 r H=true
 |[],H,_=>by cases H<;>rfl
 |x::r,[],_=>by cases x<;>rfl
 |none::r,k::H,h=>a0A (r:=r) fun i j n h1 h2=>by have:=h (i+1) (j+1) n (by simpa using h1) (by simpa using h2);omega
 |some n::r,k::H,h=>by
  unfold S3
  rw [a0A (r:=r) (H:=H) fun i j n h1 h2=>by have:=h (i+1) (j+1) n (by simpa using h1) (by simpa using h2);omega]
  rw [aR7 (r:=r) (n:=n) (fun j hj=>by have:=h 0 (j+1) n rfl (by simpa using hj);omega)]
  cases k.mode<;>rfl
theorem aw0 {n:Nat} {H:Hp}:S3 (idR n) H=true:=a0A fun i j n h1 h2=>by rw [b1t h1,b1t h2]
theorem a5B {ρ:List (Option Nat)} {H:Hp}:∀{r:List (Option Nat)} {H':Hp},r.length=H'.length->(∀ (i:Nat) (k':Blk),H'[i]? =some k'->∃(j:Nat) (k:Blk),r[i]? =some (some j)∧H[j]? =some k∧a5q ρ H k k')->a4a ρ H r H'
 |[],[],_,_=>trivial
 |[],_::_,h,_=>by simp at h
 |_::_,[],h,_=>by simp at h
 |x::r,k'::H',hl,h=>by
  obtain ⟨j,k,h1,h2,h3⟩:=h 0 k' rfl
  simp at h1
  subst h1
  refine ⟨?_,a5B (by simpa using hl) fun i k1 hk=>by simpa using h (i+1) k1 (by simpa using hk)⟩
  simp only [h2]
  exact h3
theorem aw4 {n:Nat} {H:Hp}:∀{l:List C},(∀ c ∈ l,match c with|.t _=>True|.ptr id _ _=>id<n|.own id _ _ _=>id<n|.fn _ _=>False)->a41 (idR n) H l l
 |[],_=>trivial
 |c::r,h=>by
  refine ⟨?_,aw4 fun c hc=>h c (by simp [hc])⟩
  have h0:=h c (by simp)
  cases c with
  |t x=>exact a1x x
  |ptr id r o=>exact ⟨p6 h0,rfl,rfl⟩
  |own id lo len app=>exact ⟨p6 h0,rfl,rfl,fun h=>h⟩
  |fn f caps=>exact h0.elim
def okB (n:Nat) (k:Blk):Prop:=∀r ∈ k.rows,∀c ∈ r,match c with|.t _=>True|.ptr id _ _=>id<n|.own id _ _ _=>id<n|.fn _ _=>False
theorem F2 {n:Nat} {k:Blk} {rows:List (List T)} (h:k.rows=toC rows):okB n k:=by
 intro r hr c hc
 rw [h] at hr
 obtain ⟨r0,_,rfl⟩:=lbx.1 hr
 obtain ⟨t,_,rfl⟩:=lbx.1 hc
 trivial
theorem ar3 {n:Nat} {H:Hp}:∀{l:List (List C)},(∀ r ∈ l,∀c ∈ r,match c with|.t _=>True|.ptr id _ _=>id<n|.own id _ _ _=>id<n|.fn _ _=>False)->a4Z (idR n) H l l
 |[],_=>trivial
 |r::l,h=>⟨aw4 (h r (by simp)),ar3 fun r hr=>h r (by simp [hr])⟩
theorem av2 {n:Nat} {H:Hp} {k:Blk} (h:okB n k):a5q (idR n) H k k:=⟨by unfold a2M;cases k.mode<;>simp,rfl,rfl,.inr (ar3 h)⟩
theorem aa2 {ρ:List (Option Nat)} {H:Hp}:∀{xs ys:List (List C)},xs.length=ys.length->(∀ (i:Nat) (x y:List C),xs[i]? =some x->ys[i]? =some y->a41 ρ H x y)->a4Z ρ H xs ys
 |[],[],_,_=>trivial
 |[],_::_,h,_=>by simp at h
 |_::_,[],h,_=>by simp at h
 |x::xs,y::ys,h,hh=>⟨hh 0 x y rfl rfl,aa2 (by simpa using h) fun i a b ha hb=>hh (i+1) a b (by simpa using ha) (by simpa using hb)⟩
theorem a8K {n0 n:Nat} {env env':Env} {H H':Hp} (hn:H'.length=n) (h0:n0<=n) (hok:∀k ∈ H',okB n k) (hH:∀i,i<n->H[i]? =H'[i]?) (hE:a14 (idR n) H env env'):Ent n0 (idR n) env H env' H':=
 ⟨a87 h0,aw0,a5B (by rw [b1a,hn]) fun i k' hk=>by
   have hi:i<n:=by rw [← hn];exact (lbe.1 hk).1
   exact ⟨i,k',p6 hi,by rw [hH i hi];exact hk,av2 (hok k' (lbm hk))⟩,hE⟩
theorem b0w {n0 n:Nat} {env env':Env} {H' T:Hp} (hn:H'.length=n) (h0:n0<=n) (hok:∀k ∈ H',okB n k) (hE:a14 (idR n) (H'++T) env env'):Ent n0 (idR n) env (H'++T) env' H':=
 a8K hn h0 hok (fun i hi=>by rw [lbb (by omega)]) hE
theorem au5 {n0 n:Nat} {r s:S} {H H':Hp} (hn:H'.length=n) (h0:n0<=n) (hok:∀k ∈ H',okB n k) (hH:∀i,i<n->H[i]? =H'[i]?) (hE:a9F (idR n) H r s):Fin n0 r H s H':=
 ⟨idR n,a87 h0,aw0,a5B (by rw [b1a,hn]) fun i k' hk=>by
   have hi:i<n:=by rw [← hn];exact (lbe.1 hk).1
   exact ⟨i,k',p6 hi,by rw [hH i hi];exact hk,av2 (hok k' (lbm hk))⟩,hE⟩
theorem a3S {n i:Nat} (h:i<n):(List.range n).getD i 0=i:=by simp [h]
mutual
theorem ab6 {n:Nat}:∀c:C,okC n c=true->a01 (List.range n) c=c
 |.t x,_=>by simp [a01]
 |.ptr id r o,h=>by simp only [a01];rw [a3S (by simpa [okC] using h)]
 |.own id lo len app,h=>by simp only [a01];rw [a3S (by simpa [okC] using h)]
 |.fn f caps,h=>by simp only [a01];rw [a3P caps (by simpa [okC] using h)]
theorem a3P {n:Nat}:∀l:List C,okL n l=true->a21 (List.range n) l=l
 |[],_=>by simp [a21]
 |c::r,h=>by
  simp only [okL,lbN] at h
  simp only [a21]
  rw [ab6 c h.1,a3P r h.2]
end
theorem b0E {n:Nat} {s:S} (h:okS n s=true):a7B (List.range n) s=s:=by
 cases s with
 |junk=>rfl
 |c x=>simp only [a7B];rw [ab6 x h]
 |agg cs=>simp only [a7B];rw [a3P cs h]
 |tup ss=>simp [okS] at h
theorem b0G {n:Nat}:∀{l:List C},(∀ c ∈ l,match c with|.t _=>True|.ptr id _ _=>id<n|.own id _ _ _=>id<n|.fn _ _=>False)->okL n l=true
 |[],_=>by simp [okL]
 |c::r,h=>by
  simp only [okL,lbN]
  refine ⟨?_,b0G fun c hc=>h c (by simp [hc])⟩
  have h0:=h c (by simp)
  cases c with
  |t x=>simp [okC]
  |ptr id r o=>simp only [okC];exact Nat.blt_eq ▸ h0
  |own id lo len app=>simp only [okC];exact Nat.blt_eq ▸ h0
  |fn f caps=>exact h0.elim
theorem ad4 {n:Nat} {k:Blk} (h:okB n k):az9 (List.range n) k k:=by
 refine ⟨rfl,rfl,rfl,rfl,?_⟩
 unfold a8C
 rw [lbp (g:=id) fun r hr=>a3P r (b0G (h r hr))]
 simp
theorem aP2 {σ:List Nat} {l:List C} (h:l.all C.isT=true):a21 σ l=l:=by
 rw [M6]
 conv=>rhs;rw [← List.map_id l]
 exact lbp fun c hc=>am2 (lbv.1 h c hc)
theorem a96 {P:Program} {g:FuncId} {args:List S} {Hs Hs':Hp} {r:S} {n:Nat} (T:Hp) (h:a9 P g args Hs r Hs') (hn:Hs.length=n) (hn':Hs'.length=n) (hok:args.all (okS n)=true)
 (hin:∀k ∈ Hs,k.mode=.live∧k.app=false∧okB n k) (hout:∀k ∈ Hs',k.mode≠.old∧okB n k) (hr:aS8 r=true) (hr':r.isT=true):a9 P g args (Hs++T) r (Hs'++T):=by
 have e0:Hs'.length - Hs.length=0:=by omega
 have ex:∀m,a4w (List.range n) m (Hs'.length - Hs.length)=List.range n:=fun m=>by rw [e0];simp [a4w]
 have hargs:args=args.map (a7B (List.range n)):=by
  conv=>lhs;rw [← List.map_id args]
  exact lbp fun s hs=>(b0E (lbv.1 hok s hs)).symm
 refine O6 (List.range n) h hargs (by simpa using hok) (by simp [hn]) List.nodup_range ?_ (fun k hk=>(hout k hk).1) (by omega) hr ?_ (by simp;omega) ?_ ?_
 ·intro i k hk
  have hi:i<n:=by rw [← hn];exact (lbe.1 hk).1
  obtain ⟨h1,h2,h3⟩:=hin k (lbm hk)
  refine ⟨h1,h2,fun r hr=>by rw [List.length_range];exact b0G (h3 r hr),k,?_,ad4 h3⟩
  rw [a3S hi,lbb (by omega),hk]
 ·rw [ex]
  cases r with
  |junk=>rfl
  |c x=>simp only [a7B];rw [am2 hr']
  |agg cs=>
   simp only [a7B]
   rw [aP2 hr']
  |tup ss=>
   simp only [a7B]
   congr 1
   conv=>lhs;rw [← List.map_id ss]
   refine lbp fun s hs=>?_
   have h1:=lbv.1 hr' s hs
   cases s with
   |junk=>rfl
   |c x=>simp only [id];rw [am2 h1]
   |agg cs=>
    simp only [id]
    rw [aP2 h1]
   |tup ss=>rfl
 ·intro i k hk
  have hi:i<n:=by rw [← hn'];exact (lbe.1 hk).1
  obtain ⟨h1,h3⟩:=hout k (lbm hk)
  rw [ex]
  exact ⟨k,by rw [a3S hi,lbb (by omega),hk],ad4 h3⟩
 ·intro j hj hnj
  have:n<=j:=by
   rcases Nat.lt_or_ge j n with h|h
   ·exact absurd (lbB.2 h) hnj
   ·exact h
  rw [lbc (by omega),lbc (by omega),hn,hn']
end
section
open Go.RowKit
theorem aw1 {P : Program} {τ : Tab} (hτ : A8 P τ) {f : FuncId} {fn : Func} {c : Code} {args : List S} {H : Hp} {s : S} {H' : Hp} (hf : P.funcs[f]? = some fn) (hb : fn.body = some c) (hn : fn.name ≠ "runtime.NumGoroutine")
    (h:Awp P H.length c (args++List.replicate (fn.ntmps - args.length) .junk) H fun x env' H1=>match x with
      |.exit _=>False
      |_=>a71 τ fn env' H1 fun r=>Fin H.length r H1 s H'):a9 P f args H s H':=by
  refine ⟨⟨fn,hf,by rw [hb];rfl,hn⟩,fun w ι M vals hl hr hH hM hF=>?_⟩
  refine calls_of_wp hf hb ?_
  have hi:=Sim.init hl hr hH hM hF (fn.ntmps - args.length)
  have:=h.out w ι M H _ w rfl hM hi
  have e:vals.toArray.size=args.length:=by simpa using hl
  rw [e]
  refine wp_mono this ?_
  rintro e a' w' ⟨x,env',H1,rfl,hq,ι',M',hd,hsz,he,hH',hM',hF',hst⟩
  have key:(a71 τ fn env' H1 fun r=>Fin H.length r H1 s H')->a'.defers=[]∧∃v,(results fn a'.tmps).run P w'=.ok v w'∧∃v',Ending.returned v=.returned v'∧E5 w ι M H s H' v' w':=by
   intro hq
   refine ⟨hd,?_⟩
   obtain ⟨l,hk,vs,h1,h2,h3⟩:=a76 hτ he hH' fn.results.toList hq
   have hrun:∃v,(results fn a'.tmps).run P w'=.ok v w'∧v=(if h:vs.length=1 then vs[0] else .tuple vs.toArray):=by
    refine ⟨_,?_,rfl⟩
    unfold results
    rw [Array.mapM_eq_mapM_toList,Sem.run_bind,Sem.run_map]
    refine (congrArg (fun r=>Result.andThen (Result.andThen r _) _) h1).trans ?_
    simp
   obtain ⟨v,hv1,rfl⟩:=hrun
   refine ⟨_,hv1,_,rfl,?_⟩
   have hsr:∃r,RS w' ι' M' r (if h:vs.length=1 then vs[0] else .tuple vs.toArray)∧Fin H.length r H1 s H':=by
    match l,hk,h2,h3 with
    |[s1],hk,h2,h3=>
     refine ⟨s1,?_,hk⟩
     rw [dif_pos (by simpa using h2)]
     have:=h3 0 s1 rfl
     rw [lbl,lbf (by simp at h2;omega)] at this
     exact this
    |[],hk,h2,h3=>
     refine ⟨_,?_,hk⟩
     rw [dif_neg (by simp at h2;simp [h2])]
     exact .tup vs h2 h3
    |s1::s2::r,hk,h2,h3=>
     refine ⟨_,?_,hk⟩
     rw [dif_neg (by simp at h2;omega)]
     exact .tup vs h2 h3
   obtain ⟨r,h4,ρ,f1,f2,f3,f4⟩:=hsr
   obtain ⟨g1,g2,g3⟩:=a4a.all f1 f2 f3 rfl hM hH' hst
   exact ⟨P6 ρ ι',_,f4.rs hH' h4,g1,fun b hb=>hM' b hb.1,g2,g3⟩
  cases x with
  |normal=>exact key hq
  |ret=>exact key hq
  |exit id=>exact hq.elim
theorem R4 {P:Program} {τ:Tab} (hτ:A8 P τ) {n0:Nat} {x y:Code} {env:Env} {H:Hp} {Q:AX->Env->Hp->Prop}
 (h:a4T P τ n0 x env H fun a env' H'=>match a with
   |.normal=>Awp P n0 y env' H' Q
   |a=>Q a env' H'):Awp P n0 (.seq x y) env H Q:=by
 refine ⟨fun w0 ι0 M0 H0 a w hn hM hs=>?_⟩
 refine wp_seq (wp_mono ((z6 hτ x h).out w0 ι0 M0 H0 a w hn hM hs) ?_)
 rintro e a' w' ⟨x,env',H',rfl,hq,hs'⟩
 cases x with
 |normal=>exact hq.out w0 ι0 M0 H0 a' w' hn hM hs'
 |exit id=>exact ⟨_,env',H',rfl,hq,hs'⟩
 |ret=>exact ⟨_,env',H',rfl,hq,hs'⟩
theorem ac7 {P:Program} {n0:Nat} {x y:Code} {env:Env} {H:Hp} {Q:AX->Env->Hp->Prop}
 (h:Awp P n0 x env H fun a env' H'=>match a with
   |.normal=>Awp P n0 y env' H' Q
   |a=>Q a env' H'):Awp P n0 (.seq x y) env H Q:=by
 refine ⟨fun w0 ι0 M0 H0 a w hn hM hs=>?_⟩
 refine wp_seq (wp_mono (h.out w0 ι0 M0 H0 a w hn hM hs) ?_)
 rintro e a' w' ⟨x,env',H',rfl,hq,hs'⟩
 cases x with
 |normal=>exact hq.out w0 ι0 M0 H0 a' w' hn hM hs'
 |exit id=>exact ⟨_,env',H',rfl,hq,hs'⟩
 |ret=>exact ⟨_,env',H',rfl,hq,hs'⟩
theorem ae3 {P:Program} {n0 id:Nat} {c:Code} {env:Env} {H:Hp} {Q:AX->Env->Hp->Prop} (h:Awp P n0 c env H (bf2 id Q)):Awp P n0 (.block id c) env H Q:=by
 refine ⟨fun w0 ι0 M0 H0 a w hn hM hs=>?_⟩
 refine wp_block (wp_mono (h.out w0 ι0 M0 H0 a w hn hM hs) ?_)
 rintro e a' w' ⟨x,env',H',rfl,hq,hs'⟩
 cases x with
 |normal=>exact ⟨_,env',H',rfl,hq,hs'⟩
 |exit j=>
  have hq:cond (Nat.beq j id) (Q .normal env' H') (Q (.exit j) env' H'):=hq
  show if j=id then _ else _
  by_cases hj:j=id
  ·subst hj
   rw [if_pos rfl]
   simp only [Nat.beq_refl,cond_true] at hq
   exact ⟨_,env',H',rfl,hq,hs'⟩
  ·rw [if_neg hj]
   have:Nat.beq j id=false:=by
    cases hb:Nat.beq j id with
    |false=>rfl
    |true=>exact absurd (Nat.eq_of_beq_eq_true hb) hj
   simp only [this,cond_false] at hq
   exact ⟨_,env',H',rfl,hq,hs'⟩
 |ret=>exact ⟨_,env',H',rfl,hq,hs'⟩
theorem b6C {P:Program} {n0:Nat} {c:Code} {env env':Env} {H H':Hp} {Q:AX->Env->Hp->Prop} (ρ:List (Option Nat)) (he:Ent n0 ρ env H env' H') (h:Awp P n0 c env' H' Q):Awp P n0 c env H Q:=
 ⟨fun w0 ι0 M0 H0 a w hn hM hs=>h.out w0 ι0 M0 H0 a w hn hM (he.sim hn hM hs)⟩
theorem a2H {P:Program} {τ:Tab} (hτ:A8 P τ) {n0:Nat} {x y:Code} {env:Env} {H:Hp} {Q:AX->Env->Hp->Prop} (E2:Env) (H2:Hp)
 (h:a4T P τ n0 x env H fun a env' H'=>match a with
   |.normal=>∃ρ,Ent n0 ρ env' H' E2 H2
   |a=>Q a env' H') (h2:Awp P n0 y E2 H2 Q):Awp P n0 (.seq x y) env H Q:=by
 refine ⟨fun w0 ι0 M0 H0 a w hn hM hs=>?_⟩
 refine wp_seq (wp_mono ((z6 hτ x h).out w0 ι0 M0 H0 a w hn hM hs) ?_)
 rintro e a' w' ⟨x,env',H',rfl,hq,hs'⟩
 cases x with
 |normal=>obtain ⟨ρ,he⟩:=hq;exact h2.out w0 ι0 M0 H0 a' w' hn hM (he.sim hn hM hs')
 |exit id=>exact ⟨_,env',H',rfl,hq,hs'⟩
 |ret=>exact ⟨_,env',H',rfl,hq,hs'⟩
theorem aO4 {P:Program} {n0:Nat} {c:Code} {env:Env} {H:Hp} {Q:AX->Env->Hp->Prop} (E:Nat->Env × Hp) (n:Nat) (I:Nat->Prop) (ρ0:List (Option Nat))
 (hI:I 0) (h0:Ent n0 ρ0 env H (E 0).1 (E 0).2)
 (round:∀k,k<=n->I k->Awp P n0 c (E k).1 (E k).2 fun a env' H'=>match a with
   |.normal=>k<n∧I (k+1)∧∃ρ,Ent n0 ρ env' H' (E (k+1)).1 (E (k+1)).2
   |a=>Q a env' H'):Awp P n0 (.loop c) env H Q:=by
 refine a81 (σ:={ k:Nat // k<=n∧I k }) (fun k=>E k.1) (fun k=>n - k.1) ⟨0,Nat.zero_le _,hI⟩ ρ0 h0 ?_
 rintro ⟨k,hk,hi⟩
 refine (round k hk hi).mono ?_
 intro a env' H' h
 cases a with
 |normal=>
  obtain ⟨h1,h2,ρ,h3⟩:=h
  exact ⟨ρ,⟨k+1,h1,h2⟩,h3,by show n - (k+1)<n - k;omega⟩
 |exit id=>exact h
 |ret=>exact h
end
section
open Go.RowKit
inductive VY (H:Hp) (p:Nat->Prop):C->T->Prop
 |vc {x:C} {y:T} (h:VC H p x y):VY H p x y
 |own {id lo len:Nat} {app:Bool} {size:Nat} {k:Blk} {rows:List (List T)} (hp:p id) (hk:H[id]? =some k) (hd:¬k.mode.gone) (hs:k.size=size) (hl:rows.length=len)
   (hw:∀r ∈ rows,r.length=size) (g:Nat->Nat->C) (hc:∀i j c,at2 rows i j=some c->at2 k.rows (lo+i) j=some (g i j))
   (hx:∀i j c,at2 rows i j=some c->VY H p (g i j) c):VY H p (.own id lo len app) (.sl size .any rows)
 |ptr {id r o:Nat} {k:Blk} {row:List C} {cells:List T} (hp:p id) (hk:H[id]? =some k) (hd:¬k.mode.gone) (hr:k.rows[r]? =some row)
   (g:Nat->C) (hc:∀j c,cells[j]? =some c->row[o+j]? =some (g j)) (hx:∀j c,cells[j]? =some c->VY H p (g j) c):VY H p (.ptr id r o) (.ptr cells)
 |fn {f:Fn} {caps:List C} {caps':List T} (hl:caps.length=caps'.length) (g:Nat->C) (hc:∀j c,caps'[j]? =some c->caps[j]? =some (g j))
   (hx:∀j c,caps'[j]? =some c->VY H p (g j) c):VY H p (.fn f caps) (.fn f caps')
def VYL (H:Hp) (p:Nat->Prop):List C->List T->Prop
 |[],[]=>True
 |x::r,y::r'=>VY H p x y∧VYL H p r r'
 |_,_=>False
theorem VYL.get {H:Hp} {p:Nat->Prop}:∀{xs:List C} {ys:List T},VYL H p xs ys->xs.length=ys.length∧∀(j:Nat) (c:T),ys[j]? =some c->∃x,xs[j]? =some x∧VY H p x c
 |[],[],_=>⟨rfl,by simp⟩
 |x::xs,y::ys,h=>by
  obtain ⟨h1,h2⟩:=VYL.get h.2
  refine ⟨by simp [h1],fun j c hc=>?_⟩
  cases j with
  |zero=>simp at hc;subst hc;exact ⟨x,rfl,h.1⟩
  |succ j=>simpa using h2 j c (by simpa using hc)
 |[],_::_,h=>h.elim
 |_::_,[],h=>h.elim
theorem b2t {H:Hp} {p:Nat->Prop} {x:T}:VY H p (.t x) x:=.vc (aS2 (a1x x))
theorem b3H {H:Hp} {p:Nat->Prop}:∀ts:List T,VYL H p (ts.map C.t) ts
 |[]=>trivial
 |t::r=>⟨b2t,b3H r⟩
theorem ak2 {H:Hp} {p:Nat->Prop} {id r o:Nat} {k:Blk} {row:List C} {cells:List T} (hp:p id) (hk:H[id]? =some k) (hd:¬k.mode.gone) (hr:k.rows[r]? =some row) (h:VYL H p (row.drop o) cells):VY H p (.ptr id r o) (.ptr cells):=by
 obtain ⟨h1,h2⟩:=h.get
 refine .ptr hp hk hd hr (fun j=>(row.drop o).getD j (.t (.ptr []))) (fun j c hc=>?_) (fun j c hc=>?_)
 ·obtain ⟨x,hx,_⟩:=h2 j c hc
  rw [lbj] at hx
  rw [lbl,lbj,hx];rfl
 ·obtain ⟨x,hx,hv⟩:=h2 j c hc
  rw [lbl,hx];exact hv
theorem aT2 {H:Hp} {p:Nat->Prop} {f:Fn} {caps:List C} {caps':List T} (h:VYL H p caps caps'):VY H p (.fn f caps) (.fn f caps'):=by
 obtain ⟨h1,h2⟩:=h.get
 refine .fn h1 (fun j=>caps.getD j (.t (.ptr []))) (fun j c hc=>?_) (fun j c hc=>?_)
 ·obtain ⟨x,hx,_⟩:=h2 j c hc
  rw [lbl,hx];rfl
 ·obtain ⟨x,hx,hv⟩:=h2 j c hc
  rw [lbl,hx];exact hv
theorem b3U {H:Hp} {p:Nat->Prop} {id len size:Nat} {app:Bool} {k:Blk} {rows:List (List T)} (hp:p id) (hk:H[id]? =some k) (hd:¬k.mode.gone) (hs:k.size=size) (hl:rows.length=len)
 (hw:∀r ∈ rows,r.length=size) (h:∀(i:Nat) (r:List T),rows[i]? =some r->∃row,k.rows[i]? =some row∧VYL H p row r):VY H p (.own id 0 len app) (.sl size .any rows):=by
 have key:∀i j c,at2 rows i j=some c->∃x,at2 k.rows i j=some x∧VY H p x c:=fun i j c hc=>by
  obtain ⟨r,h1,h2⟩:=C7 hc
  obtain ⟨row,h3,h4⟩:=h i r h1
  obtain ⟨x,h5,h6⟩:=h4.get.2 j c h2
  exact ⟨x,z5 h3 h5,h6⟩
 refine .own hp hk hd hs hl hw (fun i j=>(at2 k.rows i j).getD (.t (.ptr []))) (fun i j c hc=>?_) (fun i j c hc=>?_)
 ·obtain ⟨x,hx,_⟩:=key i j c hc
  rw [Nat.zero_add,hx];rfl
 ·obtain ⟨x,hx,hv⟩:=key i j c hc
  rw [hx];exact hv
theorem VY.rt {H:Hp} {p:Nat->Prop} {w:World} {ι:Io} {M M':Ms} (hH:p5 w ι M H) (hM:∀b,M' b->M b) (hp:∀id k b cap size,p id->H[id]? =some k->¬k.mode.gone->ι id=some (.blk b cap size)->¬M' b)
 {x:C} {y:T} (h:VY H p x y):∀{v:Value},RC w ι M x v->RT w M' y v:=by
 induction h with
 |vc h=>intro v hr;exact VC.rt hH hM hp _ _ _ h hr
 |@own id lo len app size k rows hpi hk hd hs hl hw g hc hx ih=>
  intro v hr
  cases hr with
  |@own _ _ _ _ b cap sz A cap' hi q1 q2 q3 q4 q5=>
   subst hl
   have hbr:=hH.blk id k hk (fun e=>hd (by rw [e];trivial)) _ hi
   obtain ⟨r1,r2,r3,r4,r5,cur,r6,r7,r8⟩:=hbr
   have hnm:=hp id k b cap sz hpi hk hd hi
   have hse:sz=size:=by rw [← hs,r1]
   subst hse
   have hat:∀(i j:Nat) (c:T),at2 rows i j=some c->∃u,cur[(lo+i)*sz+j]? =some u∧RT w M' c u:=fun i j c hij=>by
    obtain ⟨u,t1,t2⟩:=r8 _ _ _ (hc i j c hij)
    exact ⟨u,t1,ih i j c hij t2⟩
   refine .sl (b:=b) (off:=lo*sz) (fun i j=>cur.getD ((lo+i)*sz+j) undef) hw q3 q4 (by intro h;cases h) (by intro h;cases h) (fun hne=>q2 (List.length_pos_iff.2 hne)) ?_ ?_
   ·intro i j c hc'
    obtain ⟨u,s1,s2⟩:=hat i j c hc'
    refine ⟨?_,hnm⟩
    have e:lo*sz+(i*sz+j)=(lo+i)*sz+j:=by rw [Nat.add_mul,Nat.add_assoc]
    simp only [World.cell?]
    rw [r6,e]
    simp [s1]
   ·intro i j c hc'
    obtain ⟨u,s1,s2⟩:=hat i j c hc'
    have:cur.getD ((lo+i)*sz+j) undef=u:=by simp [s1]
    rw [this];exact s2
  |nil hi=>
   have hr0:rows=[]:=lbF hl
   subst hr0
   exact .sl (b:=0) (off:=0) (fun _ _=>undef) (by simp) (by simp) (by unfold maxLen;omega) (by simp) (by simp) (by simp) (by simp [at2]) (by simp [at2])
 |@ptr id r o k row cells hpi hk hd hrow g hc hx ih=>
  intro v hr
  cases hr with
  |@ptr _ _ _ b cap size hi=>
   have hb:=(hH.blk id k hk (fun e=>hd (by rw [e];trivial)) _ hi).row hrow
   have hnm:=hp id k b cap size hpi hk hd hi
   refine .ptr (fun j=>(w.cell? ⟨b,r*size+o+j,none⟩).getD undef) (fun j c hj=>?_) (fun j c hj=>?_)
   ·obtain ⟨u,h1,h2⟩:=hb _ _ (hc j c hj)
    rw [Nat.add_assoc,h1]
    exact ⟨rfl,hnm⟩
   ·obtain ⟨u,h1,h2⟩:=hb _ _ (hc j c hj)
    rw [Nat.add_assoc,h1]
    exact ih j c hj h2
 |@fn f caps caps' hl g hc hx ih=>
  intro v hr
  cases hr with
  |fn vs hl' hr=>
   exact .fn vs (by omega) fun j c hj=>ih j c hj (hr j _ (hc j c hj))
def VYS (H:Hp) (p:Nat->Prop) (s s':S):Prop:=
 match s' with
 |.junk=>True
 |.c y=>match s,y with
  |.c x,.t y=>VY H p x y
  |_,_=>False
 |.agg ys=>match s with
  |.agg xs=>∃ts,ys=ts.map C.t∧VYL H p xs ts
  |_=>False
 |.tup _=>False
theorem VYS.rs {H:Hp} {p:Nat->Prop} {w:World} {ι ι':Io} {M M':Ms} (hH:p5 w ι M H) (hM:∀b,M' b->M b) (hp:∀id k b cap size,p id->H[id]? =some k->¬k.mode.gone->ι id=some (.blk b cap size)->¬M' b)
 {x y:S} {v:Value} (h:VYS H p x y) (hr:RS w ι M x v):RS w ι' M' y v:=by
 cases y with
 |junk=>exact .junk
 |c y=>
  cases x with
  |c x=>
   cases y with
   |t y=>
    cases hr with
    |c hr=>exact .c (.t (VY.rt hH hM hp h hr))
   |_=>exact False.elim h
  |_=>exact False.elim h
 |agg ys=>
  cases x with
  |agg xs=>
   obtain ⟨ts,rfl,h⟩:=h
   obtain ⟨h1,h2⟩:=h.get
   cases hr with
   |agg vs hl hr=>
    refine .agg vs (by simp;omega) fun j c hj=>?_
    rw [lba] at hj
    cases hj':ts[j]? with
    |none=>rw [hj'] at hj;cases hj
    |some c'=>
     rw [hj'] at hj
     injection hj with hj
     subst hj
     obtain ⟨x,hx,hv⟩:=h2 j c' hj'
     exact .t (VY.rt hH hM hp hv (hr j x hx))
  |_=>exact False.elim h
 |tup _=>exact False.elim h
def a1P (H:Hp) (p:Nat->Prop):List S->List S->Prop
 |[],[]=>True
 |s::r,s'::r'=>VYS H p s s'∧a1P H p r r'
 |_,_=>False
theorem a1P.get {H:Hp} {p:Nat->Prop}:∀{l l':List S},a1P H p l l'->l.length=l'.length∧∀(j:Nat) (s':S),l'[j]? =some s'->∃s,l[j]? =some s∧VYS H p s s'
 |[],[],_=>⟨rfl,by simp⟩
 |s::r,s'::r',h=>by
  obtain ⟨h1,h2⟩:=a1P.get h.2
  refine ⟨by simp [h1],fun j t ht=>?_⟩
  cases j with
  |zero=>simp at ht;subst ht;exact ⟨s,rfl,h.1⟩
  |succ j=>simpa using h2 j t (by simpa using ht)
 |[],_::_,h=>h.elim
 |_::_,[],h=>h.elim
theorem n7 {P:Program} {g:FuncId} {args args':List S} {H:Hp} {r:S} (h:a9 P g args' [] r []) (ha:a1P H (fun _=>True) args args') (hr:r.flat=true):Z5 P g args H r []:=by
 refine ⟨h.1,fun w ι M vals hl hv hH hM hf=>?_⟩
 obtain ⟨hlen,hget⟩:=a1P.get ha
 have:=h.2 w (fun _=>none) (fun _=>False) vals (by omega) (fun j s hj=>by
  obtain ⟨x,hx,hs⟩:=hget j s hj
  exact hs.rs hH (fun _ h=>h.elim) (fun _ _ _ _ _ _ _ _ _ h=>h) (hv j x hx))
  .none (fun _ h=>h.elim) (fun _ _=>rfl)
 refine Calls.mono this ?_
 rintro e w' ⟨v,rfl,ι',M',h1,h2,h3,h4,h5⟩
 exact ⟨v,rfl,H6.of_none (h1.flat hr) ⟨h5.os,h5.tape,h5.output,h5.size,fun b hb=>h5.keep b hb (by rintro ⟨id,k,_,_,hk,_⟩;simp at hk)⟩⟩
end
section
set_option maxRecDepth 100000
def bf4:List (Option TD):=[none,some ⟨.bas,false,1,8,[.nilFunc]⟩,some ⟨.int .i64,false,1,8,[.int .i64 0]⟩,some ⟨.int .i64,false,1,8,[.int .i64 0]⟩,some ⟨.bool,false,1,1,[.bool false]⟩,some ⟨.int .u8,false,1,1,[.int .u8 0]⟩,some ⟨.int .u8,false,1,1,[.int .u8 0]⟩,some ⟨.struct [(0,1,false),(1,1,false),(2,1,false),(3,1,false)],true,4,24,[.int .i64 0,.int .i64 0,.bool false,.int .u8 0]⟩,some ⟨.struct [(0,1,false),(1,1,false),(2,1,false),(3,1,false)],true,4,24,[.int .i64 0,.int .i64 0,.bool false,.int .u8 0]⟩,none,none,none,some ⟨.int .u64,false,1,8,[.int .u64 0]⟩,none,none,some ⟨.bas,false,1,8,[.pointer none]⟩,some ⟨.bas,false,1,8,[.pointer none]⟩,some ⟨.bas,false,1,8,[.pointer none]⟩,some ⟨.struct [(0,1,false)],true,1,8,[.pointer none]⟩,some ⟨.struct [(0,1,false)],true,1,8,[.pointer none]⟩,none,some ⟨.int .i32,false,1,4,[.int .i32 0]⟩,some ⟨.slice 77,false,1,24,[.slice none 0 0]⟩,some ⟨.slice 79,false,1,24,[.slice none 0 0]⟩,some ⟨.slice 209,false,1,24,[.slice none 0 0]⟩,some ⟨.slice 54,false,1,24,[.slice none 0 0]⟩,some ⟨.slice 216,false,1,24,[.slice none 0 0]⟩,some ⟨.struct [(0,1,false),(1,1,false),(2,1,false),(3,1,false),(4,1,false),(5,1,false),(6,1,false),(7,1,false)],true,8,144,[.int .i64 0,.int .i64 0,.int .i64 0,.slice none 0 0,.slice none 0 0,.slice none 0 0,.slice none 0 0,.slice none 0 0]⟩,some ⟨.struct [(0,1,false),(1,1,false),(2,1,false),(3,1,false),(4,1,false),(5,1,false),(6,1,false),(7,1,false)],true,8,144,[.int .i64 0,.int .i64 0,.int .i64 0,.slice none 0 0,.slice none 0 0,.slice none 0 0,.slice none 0 0,.slice none 0 0]⟩,some ⟨.slice 34,false,1,24,[.slice none 0 0]⟩,some ⟨.slice 36,false,1,24,[.slice none 0 0]⟩,some ⟨.struct [(0,8,false),(8,1,false),(9,1,false)],true,10,192,[.int .i64 0,.int .i64 0,.int .i64 0,.slice none 0 0,.slice none 0 0,.slice none 0 0,.slice none 0 0,.slice none 0 0,.slice none 0 0,.slice none 0 0]⟩,some ⟨.struct [(0,8,false),(8,1,false),(9,1,false)],true,10,192,[.int .i64 0,.int .i64 0,.int .i64 0,.slice none 0 0,.slice none 0 0,.slice none 0 0,.slice none 0 0,.slice none 0 0,.slice none 0 0,.slice none 0 0]⟩,some ⟨.struct [(0,1,false),(1,1,false),(2,1,false)],true,3,24,[.int .i64 0,.int .i64 0,.int .i64 0]⟩,some ⟨.struct [(0,1,false),(1,1,false),(2,1,false)],true,3,24,[.int .i64 0,.int .i64 0,.int .i64 0]⟩,some ⟨.struct [(0,1,false),(1,1,false)],true,2,16,[.int .i64 0,.int .i64 0]⟩,some ⟨.struct [(0,1,false),(1,1,false)],true,2,16,[.int .i64 0,.int .i64 0]⟩,some ⟨.bas,false,1,8,[.nilFunc]⟩,some ⟨.bas,false,1,8,[.nilFunc]⟩,some ⟨.int .i64,false,1,8,[.int .i64 0]⟩,some ⟨.bas,false,1,8,[.nilFunc]⟩,some ⟨.slice 46,false,1,24,[.slice none 0 0]⟩,none,some ⟨.bas,false,1,8,[.nilFunc]⟩,some ⟨.slice 83,false,1,24,[.slice none 0 0]⟩,some ⟨.struct [(0,1,false),(1,1,false),(2,1,false),(3,1,false),(4,1,false)],true,5,88,[.int .i64 0,.int .i64 0,.slice none 0 0,.slice none 0 0,.slice none 0 0]⟩,some ⟨.struct [(0,1,false),(1,1,false),(2,1,false),(3,1,false),(4,1,false)],true,5,88,[.int .i64 0,.int .i64 0,.slice none 0 0,.slice none 0 0,.slice none 0 0]⟩,some ⟨.bas,false,1,8,[.nilFunc]⟩,none,some ⟨.bas,false,1,8,[.nilFunc]⟩,some ⟨.bas,false,1,8,[.nilFunc]⟩,some ⟨.bas,false,1,8,[.nilFunc]⟩,some ⟨.bas,false,1,8,[.nilFunc]⟩,some ⟨.struct [(0,1,false),(1,1,false)],true,2,16,[.int .i64 0,.int .i64 0]⟩,some ⟨.struct [(0,1,false),(1,1,false)],true,2,16,[.int .i64 0,.int .i64 0]⟩,some ⟨.slice 3,false,1,24,[.slice none 0 0]⟩,none,some ⟨.bas,false,1,8,[.nilFunc]⟩,some ⟨.bas,false,1,8,[.nilFunc]⟩,some ⟨.bas,false,1,8,[.nilFunc]⟩,some ⟨.bas,false,1,8,[.nilFunc]⟩,none,some ⟨.bas,false,1,8,[.nilFunc]⟩,some ⟨.bas,false,1,8,[.nilFunc]⟩,some ⟨.slice 132,false,1,24,[.slice none 0 0]⟩,some ⟨.bas,false,1,8,[.nilFunc]⟩,some ⟨.bas,false,1,8,[.nilFunc]⟩,some ⟨.bas,false,1,8,[.nilFunc]⟩,some ⟨.slice 143,false,1,24,[.slice none 0 0]⟩,some ⟨.struct [(0,1,false),(1,1,false)],true,2,32,[.int .i64 0,.slice none 0 0]⟩,some ⟨.struct [(0,1,false),(1,1,false)],true,2,32,[.int .i64 0,.slice none 0 0]⟩,none,some ⟨.bas,false,1,8,[.nilFunc]⟩,some ⟨.bas,false,1,8,[.nilFunc]⟩,some ⟨.bas,false,1,8,[.nilFunc]⟩,some ⟨.bas,false,1,8,[.nilFunc]⟩,some ⟨.struct [(0,1,false),(1,1,false),(2,1,false)],true,3,24,[.int .i64 0,.int .i64 0,.int .i64 0]⟩,some ⟨.struct [(0,1,false),(1,1,false),(2,1,false)],true,3,24,[.int .i64 0,.int .i64 0,.int .i64 0]⟩,some ⟨.struct [(0,1,false),(1,1,false),(2,1,false),(3,1,false),(4,1,false),(5,1,false)],true,6,48,[.int .i64 0,.int .i64 0,.int .i64 0,.int .i64 0,.int .i64 0,.bool false]⟩,some ⟨.struct [(0,1,false),(1,1,false),(2,1,false),(3,1,false),(4,1,false),(5,1,false)],true,6,48,[.int .i64 0,.int .i64 0,.int .i64 0,.int .i64 0,.int .i64 0,.bool false]⟩,some ⟨.struct [(0,1,false),(1,1,false)],true,2,32,[.int .i64 0,.slice none 0 0]⟩,some ⟨.struct [(0,1,false),(1,1,false)],true,2,32,[.int .i64 0,.slice none 0 0]⟩,some ⟨.struct [(0,2,false),(2,2,false)],true,4,64,[.int .i64 0,.slice none 0 0,.int .i64 0,.slice none 0 0]⟩,some ⟨.struct [(0,2,false),(2,2,false)],true,4,64,[.int .i64 0,.slice none 0 0,.int .i64 0,.slice none 0 0]⟩,some ⟨.bas,false,1,8,[.nilFunc]⟩,none,some ⟨.bas,false,1,8,[.nilFunc]⟩,some ⟨.bas,false,1,8,[.nilFunc]⟩,some ⟨.bas,false,1,8,[.nilFunc]⟩,some ⟨.bas,false,1,8,[.nilFunc]⟩,some ⟨.bas,false,1,8,[.nilFunc]⟩,none,some ⟨.bas,false,1,8,[.nilFunc]⟩,some ⟨.slice 4,false,1,24,[.slice none 0 0]⟩,none,some ⟨.bas,false,1,8,[.nilFunc]⟩,some ⟨.bas,false,1,8,[.nilFunc]⟩,none,some ⟨.bas,false,1,8,[.nilFunc]⟩,some ⟨.slice 44,false,1,24,[.slice none 0 0]⟩,some ⟨.bas,false,1,8,[.nilFunc]⟩,some ⟨.bas,false,1,8,[.nilFunc]⟩,none,some ⟨.bas,false,1,8,[.nilFunc]⟩,some ⟨.bas,false,1,8,[.nilFunc]⟩,some ⟨.bas,false,1,8,[.nilFunc]⟩,some ⟨.bas,false,1,8,[.nilFunc]⟩,some ⟨.bas,false,1,8,[.nilFunc]⟩,some ⟨.bas,false,1,8,[.nilFunc]⟩,some ⟨.bas,false,1,8,[.nilFunc]⟩,none,some ⟨.bas,false,1,8,[.nilFunc]⟩,some ⟨.bas,false,1,8,[.nilFunc]⟩,some ⟨.bas,false,1,8,[.nilFunc]⟩,some ⟨.bas,false,1,8,[.nilFunc]⟩,some ⟨.bas,false,1,8,[.nilFunc]⟩,some ⟨.slice 119,false,1,24,[.slice none 0 0]⟩,some ⟨.bas,false,1,8,[.nilFunc]⟩,some ⟨.struct [(0,4,false),(4,1,false),(5,1,false),(6,1,false)],true,7,104,[.int .i64 0,.slice none 0 0,.int .i64 0,.slice none 0 0,.bool false,.slice none 0 0,.int .i64 0]⟩,some ⟨.struct [(0,4,false),(4,1,false),(5,1,false),(6,1,false)],true,7,104,[.int .i64 0,.slice none 0 0,.int .i64 0,.slice none 0 0,.bool false,.slice none 0 0,.int .i64 0]⟩,some ⟨.bas,false,1,8,[.nilFunc]⟩,some ⟨.bas,false,1,8,[.nilFunc]⟩,some ⟨.bas,false,1,8,[.nilFunc]⟩,some ⟨.slice 127,false,1,24,[.slice none 0 0]⟩,some ⟨.bas,false,1,8,[.nilFunc]⟩,some ⟨.bas,false,1,8,[.nilFunc]⟩,some ⟨.struct [(0,1,false),(1,1,false),(2,1,false)],true,3,56,[.int .i64 0,.slice none 0 0,.slice none 0 0]⟩,some ⟨.struct [(0,1,false),(1,1,false),(2,1,false)],true,3,56,[.int .i64 0,.slice none 0 0,.slice none 0 0]⟩,some ⟨.bas,false,1,8,[.nilFunc]⟩,some ⟨.bas,false,1,8,[.nilFunc]⟩,some ⟨.bas,false,1,8,[.nilFunc]⟩,some ⟨.struct [(0,1,false),(1,4,false)],true,5,72,[.int .i64 0,.int .i64 0,.slice none 0 0,.int .i64 0,.slice none 0 0]⟩,some ⟨.struct [(0,1,false),(1,4,false)],true,5,72,[.int .i64 0,.int .i64 0,.slice none 0 0,.int .i64 0,.slice none 0 0]⟩,some ⟨.bas,false,1,8,[.nilFunc]⟩,some ⟨.bas,false,1,8,[.nilFunc]⟩,some ⟨.bas,false,1,8,[.nilFunc]⟩,none,some ⟨.bas,false,1,8,[.nilFunc]⟩,some ⟨.bas,false,1,8,[.nilFunc]⟩,some ⟨.bas,false,1,8,[.nilFunc]⟩,some ⟨.bas,false,1,8,[.nilFunc]⟩,some ⟨.bas,false,1,8,[.nilFunc]⟩,some ⟨.struct [(0,1,false),(1,1,false),(2,4,false)],true,6,96,[.slice none 0 0,.int .i64 0,.int .i64 0,.slice none 0 0,.int .i64 0,.slice none 0 0]⟩,some ⟨.struct [(0,1,false),(1,1,false),(2,4,false)],true,6,96,[.slice none 0 0,.int .i64 0,.int .i64 0,.slice none 0 0,.int .i64 0,.slice none 0 0]⟩,none,some ⟨.bas,false,1,8,[.nilFunc]⟩,some ⟨.bas,false,1,8,[.nilFunc]⟩,some ⟨.bas,false,1,8,[.nilFunc]⟩,some ⟨.bas,false,1,8,[.nilFunc]⟩,some ⟨.bas,false,1,8,[.nilFunc]⟩,some ⟨.bas,false,1,8,[.nilFunc]⟩,none,some ⟨.bas,false,1,8,[.nilFunc]⟩,some ⟨.bas,false,1,8,[.nilFunc]⟩,none,some ⟨.bas,false,1,8,[.nilFunc]⟩,some ⟨.bas,false,1,8,[.nilFunc]⟩,some ⟨.bas,false,1,8,[.nilFunc]⟩,some ⟨.bas,false,1,8,[.nilFunc]⟩,some ⟨.bas,false,1,8,[.nilFunc]⟩,none,some ⟨.bas,false,1,8,[.nilFunc]⟩,some ⟨.bas,false,1,8,[.nilFunc]⟩,some ⟨.bas,false,1,8,[.nilFunc]⟩,some ⟨.bas,false,1,8,[.nilFunc]⟩,some ⟨.bas,false,1,8,[.nilFunc]⟩,some ⟨.bas,false,1,8,[.nilFunc]⟩,some ⟨.struct [(0,1,false),(1,4,false),(5,1,false),(6,1,false),(7,1,false)],true,8,144,[.int .i64 0,.int .i64 0,.slice none 0 0,.int .i64 0,.slice none 0 0,.slice none 0 0,.slice none 0 0,.slice none 0 0]⟩,some ⟨.struct [(0,1,false),(1,4,false),(5,1,false),(6,1,false),(7,1,false)],true,8,144,[.int .i64 0,.int .i64 0,.slice none 0 0,.int .i64 0,.slice none 0 0,.slice none 0 0,.slice none 0 0,.slice none 0 0]⟩,none,some ⟨.bas,false,1,8,[.nilFunc]⟩,some ⟨.bas,false,1,8,[.nilFunc]⟩,some ⟨.bas,false,1,8,[.nilFunc]⟩,some ⟨.bas,false,1,8,[.nilFunc]⟩,some ⟨.bas,false,1,8,[.nilFunc]⟩,some ⟨.bas,false,1,8,[.nilFunc]⟩,some ⟨.bas,false,1,8,[.nilFunc]⟩,some ⟨.bas,false,1,8,[.nilFunc]⟩,some ⟨.bas,false,1,8,[.nilFunc]⟩,some ⟨.bas,false,1,8,[.nilFunc]⟩,some ⟨.slice 64,false,1,24,[.slice none 0 0]⟩,some ⟨.bas,false,1,8,[.nilFunc]⟩,none,some ⟨.bas,false,1,8,[.nilFunc]⟩,some ⟨.bas,false,1,8,[.nilFunc]⟩,some ⟨.bas,false,1,8,[.nilFunc]⟩,some ⟨.bas,false,1,8,[.nilFunc]⟩,some ⟨.bas,false,1,8,[.nilFunc]⟩,some ⟨.bas,false,1,8,[.nilFunc]⟩,some ⟨.bas,false,1,8,[.nilFunc]⟩,some ⟨.bas,false,1,8,[.nilFunc]⟩,none,some ⟨.bas,false,1,8,[.nilFunc]⟩,some ⟨.bas,false,1,8,[.nilFunc]⟩,some ⟨.bas,false,1,8,[.nilFunc]⟩,some ⟨.bas,false,1,8,[.nilFunc]⟩,some ⟨.bas,false,1,8,[.nilFunc]⟩,some ⟨.bas,false,1,8,[.nilFunc]⟩,some ⟨.bas,false,1,8,[.nilFunc]⟩,some ⟨.bas,false,1,8,[.nilFunc]⟩,some ⟨.bas,false,1,8,[.nilFunc]⟩,some ⟨.bas,false,1,8,[.nilFunc]⟩,none,some ⟨.bas,false,1,8,[.nilFunc]⟩,none,some ⟨.bas,false,1,8,[.nilFunc]⟩,some ⟨.bas,false,1,8,[.nilFunc]⟩,some ⟨.bas,false,1,8,[.nilFunc]⟩,some ⟨.struct [(0,1,false),(1,1,false),(2,1,false),(3,1,false),(4,1,false),(5,1,false)],true,6,48,[.int .i64 0,.int .i64 0,.int .i64 0,.int .i64 0,.int .i64 0,.int .i64 0]⟩,some ⟨.struct [(0,1,false),(1,1,false),(2,1,false),(3,1,false),(4,1,false),(5,1,false)],true,6,48,[.int .i64 0,.int .i64 0,.int .i64 0,.int .i64 0,.int .i64 0,.int .i64 0]⟩,some ⟨.bas,false,1,8,[.nilFunc]⟩,some ⟨.bas,false,1,8,[.nilFunc]⟩,some ⟨.arr 2 3,true,2,16,[.int .i64 0,.int .i64 0]⟩,some ⟨.slice 212,false,1,24,[.slice none 0 0]⟩,some ⟨.bas,false,1,8,[.nilFunc]⟩,some ⟨.struct [(0,1,false),(1,1,false),(2,1,false),(3,1,false)],true,4,32,[.int .i64 0,.int .i64 0,.int .i64 0,.int .i64 0]⟩,some ⟨.struct [(0,1,false),(1,1,false),(2,1,false),(3,1,false)],true,4,32,[.int .i64 0,.int .i64 0,.int .i64 0,.int .i64 0]⟩,some ⟨.bas,false,1,8,[.pointer none]⟩,some ⟨.bas,false,1,8,[.nilFunc]⟩,none,some ⟨.bas,false,1,8,[.nilFunc]⟩,some ⟨.bas,false,1,8,[.nilFunc]⟩,some ⟨.bas,false,1,8,[.nilFunc]⟩,some ⟨.bas,false,1,8,[.nilFunc]⟩,some ⟨.bas,false,1,8,[.nilFunc]⟩,some ⟨.bas,false,1,8,[.nilFunc]⟩,some ⟨.bas,false,1,8,[.nilFunc]⟩,some ⟨.bas,false,1,8,[.nilFunc]⟩,some ⟨.bas,false,1,8,[.nilFunc]⟩,some ⟨.int .u64,false,1,8,[.int .u64 0]⟩,some ⟨.int .u64,false,1,8,[.int .u64 0]⟩,some ⟨.bas,false,1,8,[.nilFunc]⟩,some ⟨.bas,false,1,8,[.nilFunc]⟩,some ⟨.bas,false,1,8,[.nilFunc]⟩,some ⟨.bas,false,1,8,[.nilFunc]⟩,some ⟨.bas,false,1,8,[.nilFunc]⟩,some ⟨.bas,false,1,8,[.nilFunc]⟩,some ⟨.bas,false,1,8,[.pointer none]⟩,some ⟨.bas,false,1,8,[.nilFunc]⟩,some ⟨.bas,false,1,8,[.nilFunc]⟩,some ⟨.bas,false,1,8,[.nilFunc]⟩,some ⟨.bas,false,1,8,[.nilFunc]⟩,some ⟨.bas,false,1,8,[.nilFunc]⟩,some ⟨.bas,false,1,8,[.nilFunc]⟩,some ⟨.bas,false,1,8,[.nilFunc]⟩,some ⟨.bas,false,1,8,[.nilFunc]⟩,some ⟨.bas,false,1,8,[.nilFunc]⟩,some ⟨.bas,false,1,8,[.nilFunc]⟩,some ⟨.bas,false,1,8,[.nilFunc]⟩,some ⟨.bas,false,1,8,[.nilFunc]⟩,some ⟨.bas,false,1,8,[.nilFunc]⟩,none,some ⟨.bas,false,1,8,[.nilFunc]⟩,some ⟨.slice 259,false,1,24,[.slice none 0 0]⟩,some ⟨.slice 284,false,1,24,[.slice none 0 0]⟩,some ⟨.struct [(0,1,false),(1,1,false),(2,1,false),(3,1,false),(4,1,false),(5,1,false)],true,6,128,[.int .i64 0,.slice none 0 0,.slice none 0 0,.slice none 0 0,.slice none 0 0,.slice none 0 0]⟩,some ⟨.struct [(0,1,false),(1,1,false),(2,1,false),(3,1,false),(4,1,false),(5,1,false)],true,6,128,[.int .i64 0,.slice none 0 0,.slice none 0 0,.slice none 0 0,.slice none 0 0,.slice none 0 0]⟩,some ⟨.bas,false,1,8,[.nilFunc]⟩,some ⟨.struct [(0,4,false),(4,1,false)],true,5,88,[.int .i64 0,.slice none 0 0,.int .i64 0,.slice none 0 0,.slice none 0 0]⟩,some ⟨.struct [(0,4,false),(4,1,false)],true,5,88,[.int .i64 0,.slice none 0 0,.int .i64 0,.slice none 0 0,.slice none 0 0]⟩,some ⟨.bas,false,1,8,[.nilFunc]⟩,some ⟨.bas,false,1,8,[.nilFunc]⟩,none,some ⟨.bas,false,1,8,[.nilFunc]⟩,some ⟨.bas,false,1,8,[.nilFunc]⟩,some ⟨.bas,false,1,8,[.nilFunc]⟩,some ⟨.slice 81,false,1,24,[.slice none 0 0]⟩,some ⟨.slice 266,false,1,24,[.slice none 0 0]⟩,some ⟨.struct [(0,1,false),(1,1,false),(2,1,false),(3,2,false),(5,1,false),(6,1,false),(7,1,false),(8,1,false),(9,1,false),(10,2,false)],true,12,256,[.slice none 0 0,.slice none 0 0,.slice none 0 0,.int .i64 0,.slice none 0 0,.slice none 0 0,.slice none 0 0,.slice none 0 0,.slice none 0 0,.slice none 0 0,.int .i64 0,.slice none 0 0]⟩,some ⟨.struct [(0,1,false),(1,1,false),(2,1,false),(3,2,false),(5,1,false),(6,1,false),(7,1,false),(8,1,false),(9,1,false),(10,2,false)],true,12,256,[.slice none 0 0,.slice none 0 0,.slice none 0 0,.int .i64 0,.slice none 0 0,.slice none 0 0,.slice none 0 0,.slice none 0 0,.slice none 0 0,.slice none 0 0,.int .i64 0,.slice none 0 0]⟩,some ⟨.bas,false,1,8,[.nilFunc]⟩,some ⟨.bas,false,1,8,[.nilFunc]⟩,some ⟨.bas,false,1,8,[.nilFunc]⟩,some ⟨.bas,false,1,8,[.nilFunc]⟩,some ⟨.bas,false,1,8,[.nilFunc]⟩,some ⟨.bas,false,1,8,[.nilFunc]⟩,some ⟨.bas,false,1,8,[.nilFunc]⟩,some ⟨.bas,false,1,8,[.nilFunc]⟩,some ⟨.int .u32,false,1,4,[.int .u32 0]⟩,none,some ⟨.bas,false,1,8,[.nilFunc]⟩,none,some ⟨.bas,false,1,8,[.nilFunc]⟩,some ⟨.struct [(0,1,false),(1,1,false)],true,2,16,[.int .i64 0,.bool false]⟩,some ⟨.struct [(0,1,false),(1,1,false)],true,2,16,[.int .i64 0,.bool false]⟩,some ⟨.bas,false,1,8,[.pointer none]⟩,some ⟨.bas,false,1,8,[.nilFunc]⟩,some ⟨.bas,false,1,8,[.nilFunc]⟩,some ⟨.bas,false,1,8,[.nilFunc]⟩,some ⟨.bas,false,1,8,[.nilFunc]⟩,none,none,some ⟨.arr 0 16,true,0,0,[]⟩,some ⟨.struct [(0,0,false)],true,0,0,[]⟩,some ⟨.struct [(0,0,false)],true,0,0,[]⟩,some ⟨.int .u8,false,1,1,[.int .u8 0]⟩,some ⟨.int .u8,false,1,1,[.int .u8 0]⟩,some ⟨.bas,false,1,8,[.nilFunc]⟩,some ⟨.bas,false,1,8,[.pointer none]⟩,some ⟨.int .i32,false,1,4,[.int .i32 0]⟩,some ⟨.int .i32,false,1,4,[.int .i32 0]⟩,some ⟨.struct [(0,1,false),(1,1,false),(2,1,false),(3,1,false),(4,1,false),(5,1,false),(6,1,false),(7,1,false),(8,1,false),(9,1,false),(10,1,false)],true,11,48,[.int .u64 0,.int .u64 0,.int .u32 0,.int .u8 0,.int .u8 0,.int .u8 0,.int .u8 0,.nilFunc,.pointer none,.int .i32 0,.int .i32 0]⟩,some ⟨.struct [(0,1,false),(1,1,false),(2,1,false),(3,1,false),(4,1,false),(5,1,false),(6,1,false),(7,1,false),(8,1,false),(9,1,false),(10,1,false)],true,11,48,[.int .u64 0,.int .u64 0,.int .u32 0,.int .u8 0,.int .u8 0,.int .u8 0,.int .u8 0,.nilFunc,.pointer none,.int .i32 0,.int .i32 0]⟩,none]
def tab:Tab:=fun t=>bf4.getD t none
theorem tq {P:Program} {t:TypeId} {d:TD} (h1:b9A P t=some d.k:=by kernel_rfl) (h2:d.agg=bc8 d.k:=by rfl) (h3:(P.info? t).map (fun i=>(i.zero.map (·.cells.toList),i.size,i.bytes))=some (some d.zero,d.size,d.bytes):=by kernel_rfl) (h4:d.zero.all (·.oneCell')=true:=by rfl) (h5:d.zero.length=d.size:=by rfl):aB1 P t d:=bf9 h1 h2 h3 h4 h5
theorem c8:A8 Tryz.prog tab:=b4w (l:=bf4) (by kernel_rfl) ⟨tq,tq,tq,tq,tq,tq,tq,tq,tq,tq,tq,tq,tq,tq,tq,tq,tq,tq,tq,tq,tq,tq,tq,tq,tq,tq,tq,tq,tq,tq,tq,tq,tq,tq,tq,tq,tq,tq,tq,tq,tq,tq,tq,tq,tq,tq,tq,tq,tq,tq,tq,tq,tq,tq,tq,tq,tq,tq,tq,tq,tq,tq,tq,tq,tq,tq,tq,tq,tq,tq,tq,tq,tq,tq,tq,tq,tq,tq,tq,tq,tq,tq,tq,tq,tq,tq,tq,tq,tq,tq,tq,tq,tq,tq,tq,tq,tq,tq,tq,tq,tq,tq,tq,tq,tq,tq,tq,tq,tq,tq,tq,tq,tq,tq,tq,tq,tq,tq,tq,tq,tq,tq,tq,tq,tq,tq,tq,tq,tq,tq,tq,tq,tq,tq,tq,tq,tq,tq,tq,tq,tq,tq,tq,tq,tq,tq,tq,tq,tq,tq,tq,tq,tq,tq,tq,tq,tq,tq,tq,tq,tq,tq,tq,tq,tq,tq,tq,tq,tq,tq,tq,tq,tq,tq,tq,tq,tq,tq,tq,tq,tq,tq,tq,tq,tq,tq,tq,tq,tq,tq,tq,tq,tq,tq,tq,tq,tq,tq,tq,tq,tq,tq,tq,tq,tq,tq,tq,tq,tq,tq,tq,tq,tq,tq,tq,tq,tq,tq,tq,tq,tq,tq,tq,tq,tq,tq,tq,tq,tq,tq,tq,tq,tq,tq,tq,tq,tq,tq,tq,tq,tq,tq,tq,tq,tq,tq,tq,tq,tq,tq,tq,tq,tq,tq,tq,tq,tq,tq,tq,tq,tq,tq,tq,tq,tq,tq,tq,tq,trivial⟩
end
section
open Go.RowKit
abbrev ti (n:Int):T:=.atm (.int .i64 n)
abbrev tb (b:Bool):T:=.atm (.bool b)
def G5.row (p:G5):List T:=[ti p.kind,ti p.hh,ti p.mat]
def n9.row (m:n9):List T:=[ti m.day,ti m.src,ti m.dst,ti m.scale,ti m.reading,tb m.all]
def J2.row (c:J2):List T:=[ti c.scale,ti c.since,ti c.till,ti c.grams,ti c.permille,ti c.drift]
def C2.row (r:C2):List T:=[ti r.scale,ti r.since]
def a1f.row (p:a1f):List T:=[ti p.move,ti p.mat,ti p.least,ti p.most]
def c9 (n:Int):List T:=[ti n]
def R3 (b:Bool):List T:=[tb b]
abbrev a1p (l:List G5):T:=.sl 3 .any (l.map G5.row)
abbrev a1g (l:List n9):T:=.sl 6 .any (l.map n9.row)
abbrev X7 (l:List J2):T:=.sl 6 .any (l.map J2.row)
abbrev G2 (l:List C2):T:=.sl 2 .any (l.map C2.row)
abbrev a0F (l:List a1f):T:=.sl 4 .any (l.map a1f.row)
abbrev K4 (l:List Int):T:=.sl 1 .any (l.map c9)
abbrev b8Z (l:List Bool):T:=.sl 1 .any (l.map R3)
def evC (e:Ev):List C:=[.t (ti e.mats),.t (ti e.hhs),.t (ti e.scs),.t (a1p e.places),.t (a1g e.moves),.t (X7 e.certs),.t (G2 e.recalls),.t (a0F e.purities)]
def evT (e:Ev):List T:=[ti e.mats,ti e.hhs,ti e.scs,a1p e.places,a1g e.moves,X7 e.certs,G2 e.recalls,a0F e.purities]
abbrev evS (e:Ev):S:=.agg (evC e)
abbrev d6 (l:List Int):S:=.c (.t (K4 l))
abbrev G8 (l:List Bool):S:=.c (.t (b8Z l))
def G5.cs (p:G5):List C:=p.row.map .t
def n9.cs (m:n9):List C:=m.row.map .t
abbrev bf8 (m:n9):S:=.agg m.cs
abbrev evB (e:Ev):Blk:=y5 28 8 [evC e] true
theorem c7 {a b:Bool} {H1:Hp} (h:a=b):Fin 0 (e8 a) H1 (e8 b) []:=k9 (by subst h;exact rfl)
theorem k6 {a b:Int} {k:IntKind} {H1:Hp} (h:a=b):Fin 0 (a7 k a) H1 (a7 k b) []:=k9 (by subst h;exact rfl)
theorem g6 {x y:T} {ρ:List (Option Nat)} {H:Hp} (h:x=y):a4z ρ H (.c (.t x)) (.c (.t y)):=a9T h
theorem b8 {a b:Int} {k:IntKind} {ρ:List (Option Nat)} {H:Hp} (h:a=b):a4z ρ H (a7 k a) (a7 k b):=by subst h;exact rfl
theorem j7 (e:Ev):I9 [evC e]:=by simp [I9,evC,C.isT]
end
section
open Go.RowKit
set_option maxRecDepth 100000
abbrev k8 (l:List Int):Blk:={ mode:=.live,elem:=3,size:=1,rows:=toC (l.map c9),box:=false }
abbrev M4 (id:Nat) (l:List Int):S:=.c (.own id 0 l.length true)
abbrev ag6 (l:List Bool):Blk:={ mode:=.live,elem:=4,size:=1,rows:=toC (l.map R3),box:=false }
abbrev b8j (id:Nat) (l:List Bool):S:=.c (.own id 0 l.length true)
theorem o5 {α:Type} {xs:List α} {f:α->List T} {n:Int} {x:α} {lo:Nat} {K:List C->Prop} (hx:xs[lo+n.toNat]? =some x) (h:K ((f x).map C.t)):∃row,(toC (xs.map f))[lo+n.toNat]? =some row∧K row:=
 ⟨(f x).map C.t,by simp [toC,hx],h⟩
theorem a2B {a b:Int} {n:Nat} {K:Prop} (h0:0<=a) (h1:a<=b) (h2:b<=1000000) (hn:n<=1000) (k:K):(0<=a∧a<=b∧b*((n:Int)+1)<=140737488355328)∧K:=by
 refine ⟨⟨h0,h1,?_⟩,k⟩
 have:b*((n:Int)+1)<=1000000*1001:=Int.mul_le_mul h2 (by omega) (by omega) (by omega)
 omega
theorem ba7 {n i:Nat} {z:List C} {K:List C->Prop} (hi:i<n) (h:K z):∃row,(List.replicate n z)[i]? =some row∧K row:=⟨z,by simp [hi],h⟩
theorem aJ4 {α:Type} {xs:List α} {f:α->List T} {i n:Nat} {v:List C} {x:α} {K:List C->Prop} (hne:i≠n) (hx:xs[n]? =some x) (h:K ((f x).map C.t)):∃row,((toC (xs.map f)).set i v)[n]? =some row∧K row:=
 ⟨(f x).map C.t,by rw [List.getElem?_set_ne hne];simp [toC,hx],h⟩
theorem a2a {ρ:List (Option Nat)} {H:Hp} {id len:Nat} {app:Bool} {size:Nat} {k:Blk} {rows:List (List T)} (hp:E4 ρ id=true) (hk:H[id]? =some k) (hd:¬k.mode.gone) (hs:k.size=size) (hc:k.rows=toC rows) (hl:len=rows.length):
 a4z ρ H (.c (.own id 0 len app)) (.c (.t (.sl size .any rows))):=show VC H (fun id=>E4 ρ id=true) _ _ from u4 hp hk hd hs hc hl
theorem b1q {α:Type} {f:α->List T} {xs:List α} {x:α}:(toC (xs.map f)).take xs.length++toC [f x]=toC ((xs++[x]).map f):=by
 rw [lbn (by simp [toC])];simp [toC]
theorem ae2 {x:Int} (h1:0<=x) (h2:x<18446744073709551616):IntKind.wrap .u64 x=x:=by
 simp only [IntKind.wrap,IntKind.bits,IntKind.signed]
 simp
 omega
theorem aP1 {k:IntKind} (hk:k.bits=64) (a:Int) (j:Nat) (hj:j<=62):(BitVec.ofInt k.bits a &&& BitVec.ofInt k.bits ((2 ^ j - 1:Nat):Int)).toNat=(a % ((2 ^ j:Nat):Int)).toNat:=by
 rw [hk]
 rw [BitVec.toNat_and,BitVec.toNat_ofInt,BitVec.toNat_ofInt]
 have hp:(2:Nat) ^ j<=2 ^ 62:=Nat.pow_le_pow_right (by decide) hj
 have h0:0<(2:Nat) ^ j:=Nat.pow_pos (by decide)
 have e1:((((2 ^ j - 1:Nat):Int)) % ((2 ^ 64:Nat):Int)).toNat=2 ^ j - 1:=by
  rw [Int.emod_eq_of_lt (by omega) (by omega)];simp
 rw [e1,Nat.and_two_pow_sub_one_eq_mod]
 have hd:(2:Nat) ^ 64=2 ^ j*2 ^ (64 - j):=by rw [← Nat.pow_add];congr 1;omega
 have h2:0<=a % ((2 ^ 64:Nat):Int):=Int.emod_nonneg _ (by decide)
 have e2:((a % ((2 ^ 64:Nat):Int)).toNat % 2 ^ j:Nat)=((a % ((2 ^ 64:Nat):Int)) % ((2 ^ j:Nat):Int)).toNat:=by
  rw [Int.toNat_emod h2 (by omega)];rfl
 rw [e2]
 congr 1
 refine Int.emod_emod_of_dvd _ ?_
 exact ⟨((2 ^ (64 - j):Nat):Int),by exact_mod_cast hd⟩
theorem a7l {a:Int} (j:Nat) (hj:j<=62):IntKind.wrap .u64 (BitVec.ofInt (IntKind.bits .u64) a &&& BitVec.ofInt (IntKind.bits .u64) ((2 ^ j - 1:Nat):Int)).toNat=a % ((2 ^ j:Nat):Int):=by
 rw [aP1 rfl a j hj]
 have hp:(2:Nat) ^ j<=2 ^ 62:=Nat.pow_le_pow_right (by decide) hj
 have h0:0<(2:Nat) ^ j:=Nat.pow_pos (by decide)
 have h1:0<=a % ((2 ^ j:Nat):Int):=Int.emod_nonneg _ (by omega)
 have h2:a % ((2 ^ j:Nat):Int)<((2 ^ j:Nat):Int):=Int.emod_lt_of_pos _ (by omega)
 rw [lbZ h1,ae2 h1 (by omega)]
theorem a33 {x:Int} (h1:0<=x) (h2:x<18446744073709551616):F8 .u64 x x:=by unfold F8;exact (ae2 h1 h2).symm
theorem b19 {a m:Nat} {K:Prop} (h:a<=m) (k:K):a<=m∧K:=⟨h,k⟩
abbrev b58 (l:List Int):Blk:={ mode:=.live,elem:=3,size:=1,rows:=toC (l.map c9),box:=false,app:=true }
abbrev b8P (l:List Int):Blk:={ mode:=.old,elem:=3,size:=1,rows:=toC (l.map c9),box:=false,app:=true }
theorem al4 {l h m n:Int} {K:Prop} (h1:0<=l) (h2:l<=h) (h3:m=h) (h4:h<=n) (k:K):(0<=l∧l<=h∧m=h∧h<=n)∧K:=⟨⟨h1,h2,h3,h4⟩,k⟩
theorem b7a {xs:List Int} {i:Nat} {x:Int} {K:List C->Prop} (hx:xs[i]? =some x) (h:K [C.t (ti x)]):∃row,(toC (xs.map c9))[i]? =some row∧K row:=
 ⟨[C.t (ti x)],by simp [toC,hx,c9],h⟩
theorem b6D {len m n b:Nat} {K:Prop} (h1:len=m) (h2:(len+n)*b<=140737488355328) (k:K):(len=m∧(len+n)*b<=140737488355328)∧K:=⟨⟨h1,h2⟩,k⟩
theorem a0O {α:Type} {l:List α} {f:α->Bool} {k:Nat} {x:α} (h:l[k]? =some x):(l.take (k+1)).any f=((l.take k).any f || f x):=by
 rw [lbG,h];simp
theorem u6 {α:Type} {l:List α} {f:α->Bool} {k:Nat} {x:α} (h:l[k]? =some x):(l.take (k+1)).all f=((l.take k).all f && f x):=by
 rw [lbG,h];simp
theorem a6O {α:Type} {l:List α} {f:α->Bool} {k:Nat} {x:α} (h:l[k]? =some x) (hf:f x=true):l.any f=true:=lbw.2 ⟨x,lbm h,hf⟩
theorem x9 {α:Type} {l:List α} {f:α->Bool} {k:Nat} {x:α} (h:l[k]? =some x) (hf:f x=false):l.all f=false:=by
 rw [← lbQ,lbv];intro h';rw [h' x (lbm h)] at hf;cases hf
theorem ak7 {x y:T} {H1:Hp} (h:x=y):Fin 0 (.c (.t x)) H1 (.c (.t y)) []:=by subst h;exact k9 (show a9F [] H1 _ _ from g6 (ρ:=[]) (H:=H1) rfl)
theorem b9h {n:Nat} {k:SK} {a b:List (List T)} {H1:Hp} (h:a=b) (hk:k=.any):Fin 0 (.c (.t (.sl n k a))) H1 (.c (.t (.sl n .any b))) []:=by subst h hk;exact k9 (show a9F [] H1 _ _ from g6 (ρ:=[]) (H:=H1) rfl)
theorem av4 {P:Program} {g:FuncId} {args:List S} {H H':Hp} {r:S} (i:Nat) {n:Nat} (hi:args[i]? =some (.c (.t (.sl n .any [])))) (h1:a9 P g (args.set i (.c (.t (.sl n .nul [])))) H r H')
 (h2:a9 P g (args.set i (.c (.t (.sl n .non [])))) H r H'):a9 P g args H r H':=by
 refine ⟨h1.1,fun w ι M vals hl hr hH hM hF=>?_⟩
 have hv:=(hr i _ hi).inv_t
 have hil:=(lbe.1 hi).1
 have key:∀k:SK,RT w M (.sl n k []) (vals.getD i undef)->∀j s,(args.set i (.c (.t (.sl n k []))))[j]? =some s->RS w ι M s (vals.getD j undef):=fun k hk j s hj=>by
  by_cases hji:i=j
  ·subst hji
   rw [List.getElem?_set_self hil] at hj
   injection hj with hj
   subst hj
   exact .c (.t hk)
  ·rw [List.getElem?_set_ne hji] at hj
   exact hr j s hj
 generalize hu:vals.getD i undef=u at hv
 cases hv with
 |@sl _ _ _ b off cap A f hrow hcap hmax hk hn hA hc hr' hx=>
  cases A with
  |none=>exact h1.2 w ι M vals (by simpa using hl) (key .nul (by rw [hu];exact .sl (b:=b) (off:=off) f hrow hcap hmax (by intro h;cases h) (by intro h;cases h) (by simp) hc hr' ⟨(fun _=>⟨rfl,rfl⟩),(fun h=>nomatch h)⟩)) hH hM hF
  |some a=>exact h2.2 w ι M vals (by simpa using hl) (key .non (by rw [hu];exact .sl (b:=b) (off:=off) f hrow hcap hmax (by intro h;cases h) (by intro h;cases h) (by simp) hc hr' ⟨(fun h=>nomatch h),(fun _ h=>nomatch h)⟩)) hH hM hF
theorem ap9 {P:Program} {g:FuncId} {args:List S} {H:Hp} {n:Nat} {b:Blk} {rows:List (List T)} (h:a9 P g args [] (.c (.own 0 0 n true)) [b]) (hargs:args=args.map (a7B [])) (hok:args.all (okS 0)=true)
 (hm:b.mode=.live) (hb:b.rows=toC rows):a9 P g args H (.c (.own H.length 0 n true)) (H++[b]):=by
 refine O6 [] h hargs hok rfl List.nodup_nil (by simp) (by intro k hk;simp at hk;subst hk;rw [hm];simp) (by simp) rfl ?_ (by simp) ?_ ?_
 ·simp [a7B,a01,a4w]
 ·intro i k hk
  match i,hk with
  |0,hk=>
   simp at hk
   subst hk
   exact ⟨b,by simp [a4w],C0 hb⟩
 ·intro j hj _
  rw [lbb hj]
theorem b0J {P:Program} {g:FuncId} {args args':List S} {r:S} {H':Hp} (h:a9 P g args' [] r H') (ha:a4k [] (fun _=>False) args args'):a9 P g args [] r H':=by
 refine ⟨h.1,fun w ι M vals hl hv hH hM hf=>?_⟩
 obtain ⟨hlen,hget⟩:=a4k.get ha
 exact h.2 w ι M vals (by omega) (fun j s hj=>by
  obtain ⟨x,hx,hs⟩:=hget j s hj
  exact hs.rs hH (fun _ h=>h) (fun _ _ _ _ _ h _ _ _ _=>h.elim) (hv j x hx)) hH hM hf
end
section
open Go.RowKit
theorem St1.zd {p:Prop} [Decidable p] {k:S->Prop} (a:p->k (e8 true)) (b:¬p->k (e8 false)):ao6 p k:=ao6.mk a b
theorem St2.zd {b:Bool} {k:S->Prop} (a:b=true->k (e8 true)) (c:b=false->k (e8 false)):a2p b k:=a2p.mk a c
theorem St1.zz {x:Int} {K:Int->Prop} (k:K x) (h1:-9223372036854775808<=x:=by omega) (h2:x<=9223372036854775807:=by omega):∃n,F8 .i64 x n∧K n:=⟨_,a3L h1 h2,k⟩
theorem St2.zz {n m:Int} {K:Prop} (k:K) (h0:0<=n:=by omega) (h1:n<m:=by omega):(0<=n∧n<m)∧K:=⟨⟨h0,h1⟩,k⟩
theorem St3.zz {ops:List Oper} {K:List Oper->Prop} (k:K ops) (h:a9r ops=true:=by decide +kernel):b2U ops K:=b6f h k
theorem St4.zz {P:Program} {τ:Tab} {env:Env} {H':Hp} {ops:List Oper} {i:Nat} {K:Prop} (k:K) (h:H4 ops i=true:=by decide +kernel) (h2:Y7 ops i=[]:=by decide +kernel):H4 ops i=true∧∃L,Y7 ops i=L∧a2D P τ ops env H' K L:=b5k h h2 k
theorem St5.zz {s:S} {B:List Blk} {s':S} {K:Prop} (k:K) (h1:B=[]:=by exact rfl) (h2:s=s':=by exact rfl):(B=[]∧s=s')∧K:=b1W h1 h2 k
theorem St6.zz {α:Type} {xs:List α} {a b:Nat} {K:Prop} (k:K) (h:a=b:=by exact rfl):(xs.length=0∨a=b)∧K:=b3M h k
theorem bl0 {P:Program} {τ:Tab} {env:Env} {H':Hp} {ops:List Oper} {i:Nat} {K:Prop} (L:List Nat) (k:a2D P τ ops env H' K L) (h:H4 ops i=true:=by decide +kernel) (h2:Y7 ops i=L:=by decide +kernel):H4 ops i=true∧∃L,Y7 ops i=L∧a2D P τ ops env H' K L:=b68 L h h2 k
theorem qp {P:Program} {g:FuncId} {args:List S} {H:Hp} {r:S} {K:S->List Blk->Prop} {Q:Prop} (c:a9 P g args [] r []) (k:K r []) (h1:args.all S.isT=true:=by exact rfl) (h2:r.isT=true:=by exact rfl):(∃ r B,Z5 P g args H r B∧K r B)∨Q:=.inl ⟨_,_,z9 c h1 h2,k⟩
theorem ac {f:FuncId} {fn:Func} {c:Code} {args:List S} {H:Hp} {s:S} {H':Hp} (hf:Go.Proofs.Tryz.prog.funcs[f]? =some fn) (h:a4T Go.Proofs.Tryz.prog tab H.length c (args++List.replicate (fn.ntmps - args.length) .junk) H fun x env' H1=>match x with
 |.exit _=>False
 | _ => a71 tab fn env' H1 fun r => Fin H.length r H1 s H') (hb : fn.body = some c := by exact rfl) (hn : fn.name ≠ "runtime.NumGoroutine" := by decide) : a9 Go.Proofs.Tryz.prog f args H s H' := b49 c8 hf hb hn h
def Jn (n:Nat):Env:=List.replicate n J
theorem St1.zy {a b c:Prop} (h:a):a2n a b c:=a2n.data h
theorem St2.zy {a b:Prop} (h:b):af9 a b:=af9.own h
theorem b0x {a b:Prop} (h:a):af9 a b:=af9.data h
theorem St7.zz {k:S->Prop} (h:k (e8 true)):a2p true k:=⟨fun _=>h,fun e=>(by cases e)⟩
theorem St8.zz {k:S->Prop} (h:k (e8 false)):a2p false k:=⟨fun e=>(by cases e),fun _=>h⟩
theorem lg0 {α:Type} {l:List α} {i:Nat} (h:i<l.length):l[i]? =some l[i]:=lbf h
theorem lg1 {α:Type} {l:List α} {i:Nat} {a:α} (h:l[i]? =some a):∃h:i<l.length,l[i]=a:=lbe.1 h
theorem lg2 {α:Type} {l:List α} {i:Nat} {a:α} (h:l[i]? =some a):a ∈ l:=lbm h
theorem lg3 {α:Type} (l:List α) (i:Nat) (a:α):l.getD i a=l[i]?.getD a:=lbl
theorem lg4 {α:Type} {l:List α} {i:Nat} (h:l.length<=i):l.take i=l:=lbn h
theorem lg5 {α:Type} {a:α} {l:List α}:a ∈ a::l:=List.mem_cons_self ..
theorem St1.zx {x:Int} {K:Int->Prop} (k:K x) (h1:-9223372036854775808<=x:=by omega) (h2:x<=9223372036854775807:=by omega):∃n,F8 .i64 x n∧K n:=⟨_,a3L h1 h2,k⟩
theorem St2.zx {n m:Int} {K:Prop} (k:K) (h0:0<=n:=by omega) (h1:n<m:=by omega):(0<=n∧n<m)∧K:=⟨⟨h0,h1⟩,k⟩
theorem St3.zx {ops:List Oper} {K:List Oper->Prop} (k:K ops) (h:a9r ops=true:=by decide +kernel):b2U ops K:=b6f h k
theorem St4.zx {P:Program} {τ:Tab} {env:Env} {H':Hp} {ops:List Oper} {i:Nat} {K:Prop} (k:K) (h:H4 ops i=true:=by decide +kernel) (h2:Y7 ops i=[]:=by decide +kernel):H4 ops i=true∧∃L,Y7 ops i=L∧a2D P τ ops env H' K L:=b5k h h2 k
theorem St5.zx {s:S} {B:List Blk} {s':S} {K:Prop} (k:K) (h1:B=[]:=by exact rfl) (h2:s=s':=by exact rfl):(B=[]∧s=s')∧K:=b1W h1 h2 k
theorem St6.zx {α:Type} {xs:List α} {a b:Nat} {K:Prop} (k:K) (h:a=b:=by exact rfl):(xs.length=0∨a=b)∧K:=b3M h k
theorem St7.zx {k:S->Prop} (h:k (e8 true)):a2p true k:=⟨fun _=>h,fun e=>(by cases e)⟩
theorem St8.zx {k:S->Prop} (h:k (e8 false)):a2p false k:=⟨fun e=>(by cases e),fun _=>h⟩
theorem StA.zx {a b c:Prop} (h:a):a2n a b c:=a2n.data h
theorem StB.zx {a b:Prop} (h:b):af9 a b:=af9.own h
end
open St1 St2 St3 St4 St5 St6 St7 St8 StA StB
theorem a4f (i n:Int):a9 Tryz.prog 198 [a7 .i64 i,a7 .i64 n] [] (e8 (idx i n)) []:=by
 (refine ac Tryz.func198 ?_;(conv=>whnf);repeat (refine zy ?_;conv=>whnf))
 repeat' (first|refine zx ?_|refine zd ?_ ?_<;>intro h<;>try omega|fail)<;>conv=>whnf
 all_goals (refine c7 ?_;simp only [idx];simp;omega)
theorem a5V (n lo hi:Int):a9 Tryz.prog 134 [a7 .i64 n,a7 .i64 lo,a7 .i64 hi] [] (e8 (btw n lo hi)) []:=by
 (refine ac Tryz.func134 ?_;(conv=>whnf);repeat (refine zy ?_;conv=>whnf))
 repeat' (first|refine zx ?_|refine zd ?_ ?_<;>intro h<;>try omega|fail)<;>conv=>whnf
 all_goals (refine c7 ?_;simp only [btw];simp;omega)
def b1f (p:Int × Int):List T:=[ti p.1,ti p.2]
def as3 (e:Ev):List (Int × Int):=[(e.mats,6),(e.hhs,100),(e.scs,30),(e.places.length,100),(e.moves.length,200),(e.certs.length,100),(e.recalls.length,30),(e.purities.length,200)]
theorem ax3 (e:Ev):a1M e=(as3 e).any fun p=>decide (p.2<p.1):=by
 rw [Bool.eq_iff_iff]
 simp [a1M,as3]
 omega
set_option maxRecDepth 100000 in
theorem b9E (e:Ev) (hs:e.Sized):a9 Tryz.prog 124 [evS e] [] (e8 (a1M e)) []:=by
 (refine ac Tryz.func124 ?_;(conv=>whnf);repeat (refine zy ?_;conv=>whnf))
 have hl:(as3 e).length=8:=rfl
 refine d8 c8 (fun k=>(Jn 34++[S.c (C.t (T.sl 2 .full ((as3 e).map b1f))),a7 .i64 8,a7 .i64 k]++Jn 9,[])) 8 (fun k=>((as3 e).take k).any (fun p=>decide (p.2<p.1))=false) [] rfl
  ⟨rfl,rfl,trivial,⟨g6 (by simp [as3,b1f]),rfl,rfl,trivial⟩⟩ ?_
 intro k hk hI
 conv=>whnf
 repeat' (first|refine zx ?_|refine zd ?_ ?_<;>intro h<;>try omega|fail)<;>conv=>whnf
 ·have hlt:k<8:=by omega
  refine b9 (lbf (hl ▸ hlt)) ?_
  conv=>whnf
  repeat' (first|refine zx ?_|refine zd ?_ ?_<;>intro h<;>try omega|fail)<;>conv=>whnf
  ·refine c7 ?_
   rw [ax3,a6O (lbf (hl ▸ hlt))]
   simpa using ‹_ > _›
  ·refine ⟨hlt,?_,[],rfl,rfl,trivial,⟨rfl,rfl,rfl,trivial⟩⟩
   rw [a0O (lbf (hl ▸ hlt)),hI]
   have h:=‹¬ _ > _›
   simp;omega
 ·refine c7 ?_
  rw [ax3,←hI,lbn (by omega)]
open St1 St2 St3 St4 St5 St6 St7 St8 StA StB
set_option maxRecDepth 100000
theorem b5a (e:Ev) (hs:e.Sized):a9 Tryz.prog 125 [evS e] [] (e8 (e.places.all (T9 e))) []:=by
 have l1:=hs.s1
 have l2:(e.places.map G5.row).length=e.places.length:=by simp
 (refine ac Tryz.func125 ?_;(conv=>whnf);repeat (refine zy ?_;conv=>whnf))
 refine d8 c8 (fun k=>([J,S.c (C.ptr 0 0 0),J,J,J,J,S.c (C.t (a1p e.places)),a7 .i64 e.places.length,a7 .i64 k]++Jn 36,[evB e])) e.places.length (fun k=>(e.places.take k).all (T9 e)=true) [some 0] rfl
  ⟨rfl,rfl,⟨⟨rfl,rfl,rfl,.inl ⟨rfl,j7 e⟩⟩,trivial⟩,⟨⟨rfl,rfl,rfl⟩,g6 rfl,b8 (by simp),b8 rfl,trivial⟩⟩ ?_
 intro k hk hI
 conv=>whnf
 repeat' (first|refine zx ?_|refine zd ?_ ?_<;>intro h<;>try omega|fail)<;>conv=>whnf
 ·have hlt:k<e.places.length:=by omega
  obtain ⟨x,hx⟩:∃x,e.places[k]? =some x:=⟨_,lbf hlt⟩
  refine b9 hx ?_
  conv=>whnf
  repeat' (first|refine zx ?_|refine qp (a4f _ _) ?_|refine zd ?_ ?_<;>intro h<;>try omega|fail)<;>conv=>whnf
  all_goals first
   |(refine ⟨hlt,?_,[some 0],rfl,rfl,⟨⟨rfl,rfl,rfl,.inl ⟨rfl,j7 e⟩⟩,trivial⟩,⟨⟨rfl,rfl,rfl⟩,rfl,rfl,rfl,trivial⟩⟩;rw [u6 hx,hI];simp_all [T9];done)
   |(refine c7 ?_;rw [x9 hx];simp_all [T9];done)
 ·refine c7 ?_
  rw [← hI,lbn (by omega)]
theorem a5w {e:Ev} {i:Int} (h:idx i e.places.length=true):0<=i∧∃x,e.places[i.toNat]? =some x∧j9 e i=x.kind:=by
 have h':=aA8.1 h
 have hlt:i.toNat<e.places.length:=by omega
 refine ⟨h'.1,_,lbf hlt,?_⟩
 unfold j9
 rw [lbf hlt];rfl
theorem b9e (e:Ev) (m:n9) (hs:e.Sized):a9 Tryz.prog 126 [evS e,bf8 m] [] (e8 (D5 e m)) []:=by
 have l1:=hs.s1
 have l2:(e.places.map G5.row).length=e.places.length:=by simp
 by_cases h1:idx m.src e.places.length=true
 ·obtain ⟨hs0,x,hx,kx⟩:=a5w h1
  by_cases h2:idx m.dst e.places.length=true
  ·obtain ⟨hd0,y,hy,ky⟩:=a5w h2
   (refine ac Tryz.func126 ?_;(conv=>whnf);repeat (refine zy ?_;conv=>whnf))
   rw [← l2] at h1 h2
   repeat' (first|refine zx ?_|refine qp (a4f _ _) ?_|refine qp (a5V _ _ _) ?_|refine v6 hs0 hx ?_|refine v6 hd0 hy ?_|refine zd ?_ ?_<;>intro h<;>try omega|fail)<;>conv=>whnf
   all_goals (refine c7 ?_;simp_all [D5];done)
  ·(refine ac Tryz.func126 ?_;(conv=>whnf);repeat (refine zy ?_;conv=>whnf))
   rw [← l2] at h1 h2
   repeat' (first|refine zx ?_|refine qp (a4f _ _) ?_|refine zd ?_ ?_<;>intro h<;>try omega|fail)<;>conv=>whnf
   all_goals first|(exfalso;simp_all;done)|(refine c7 ?_;simp_all [D5];done)
 ·(refine ac Tryz.func126 ?_;(conv=>whnf);repeat (refine zy ?_;conv=>whnf))
  rw [← l2] at h1
  repeat' (first|refine zx ?_|refine qp (a4f _ _) ?_|refine zd ?_ ?_<;>intro h<;>try omega|fail)<;>conv=>whnf
  all_goals first|(exfalso;simp_all;done)|(refine c7 ?_;simp_all [D5];done)
theorem ba2 (e:Ev) (hs:e.Sized):a9 Tryz.prog 127 [evS e] [] (e8 (X6 e)) []:=by
 have l1:=hs.s3
 have l2:(e.certs.map J2.row).length=e.certs.length:=by simp
 have l3:=hs.s4
 have l4:(e.recalls.map C2.row).length=e.recalls.length:=by simp
 have l5:=hs.s5
 have l6:(e.purities.map a1f.row).length=e.purities.length:=by simp
 have l7:=hs.s2
 have l8:(e.moves.map n9.row).length=e.moves.length:=by simp
 (refine ac Tryz.func127 ?_;(conv=>whnf);repeat (refine zy ?_;conv=>whnf))
 refine d8 c8 (fun k=>([J,S.c (C.ptr 0 0 0),J,J,J,J,J,J,J,J,J,S.c (C.t (X7 e.certs)),a7 .i64 e.certs.length,a7 .i64 k]++Jn 107,[evB e])) e.certs.length (fun k=>(e.certs.take k).all (a43 e)=true) [some 0] rfl
  ⟨rfl,rfl,⟨⟨rfl,rfl,rfl,.inl ⟨rfl,j7 e⟩⟩,trivial⟩,⟨⟨rfl,rfl,rfl⟩,g6 rfl,b8 (by simp),b8 rfl,trivial⟩⟩ ?_
 intro k hk hI
 conv=>whnf
 repeat' (first|refine zx ?_|refine zd ?_ ?_<;>intro h<;>try omega|fail)<;>conv=>whnf
 ·have hlt:k<e.certs.length:=by omega
  obtain ⟨x,hx⟩:∃x,e.certs[k]? =some x:=⟨_,lbf hlt⟩
  refine b9 hx ?_
  conv=>whnf
  repeat' (first|refine zx ?_|refine qp (a4f _ _) ?_|refine qp (a5V _ _ _) ?_|refine zd ?_ ?_<;>intro h<;>try omega|fail)<;>conv=>whnf
  all_goals first
   |(refine ⟨hlt,?_,[some 0],rfl,rfl,⟨⟨rfl,rfl,rfl,.inl ⟨rfl,j7 e⟩⟩,trivial⟩,⟨⟨rfl,rfl,rfl⟩,rfl,rfl,rfl,trivial⟩⟩;rw [u6 hx,hI];simp_all [a43];done)
   |(refine c7 ?_;rw [X6,x9 hx];rfl;simp_all [a43];(try omega);done)
 ·have hc:e.certs.all (a43 e)=true:=by rw [← hI,lbn (by omega)]
  clear hI h hk
  refine d8 c8 (fun k=>([J,S.c (C.ptr 0 0 0)]++Jn 60++[S.c (C.t (G2 e.recalls)),a7 .i64 e.recalls.length,a7 .i64 k]++Jn 56,[evB e])) e.recalls.length (fun k=>(e.recalls.take k).all (a0b e)=true) [some 0] rfl
   ⟨rfl,rfl,⟨⟨rfl,rfl,rfl,.inl ⟨rfl,j7 e⟩⟩,trivial⟩,⟨⟨rfl,rfl,rfl⟩,g6 rfl,b8 (by simp),b8 rfl,trivial⟩⟩ ?_
  intro k hk hI
  conv=>whnf
  repeat' (first|refine zx ?_|refine zd ?_ ?_<;>intro h<;>try omega|fail)<;>conv=>whnf
  ·have hlt:k<e.recalls.length:=by omega
   obtain ⟨x,hx⟩:∃x,e.recalls[k]? =some x:=⟨_,lbf hlt⟩
   refine b9 hx ?_
   conv=>whnf
   repeat' (first|refine zx ?_|refine qp (a4f _ _) ?_|refine qp (a5V _ _ _) ?_|refine zd ?_ ?_<;>intro h<;>try omega|fail)<;>conv=>whnf
   all_goals first
    |(refine ⟨hlt,?_,[some 0],rfl,rfl,⟨⟨rfl,rfl,rfl,.inl ⟨rfl,j7 e⟩⟩,trivial⟩,⟨⟨rfl,rfl,rfl⟩,rfl,rfl,rfl,trivial⟩⟩;rw [u6 hx,hI];simp_all [a0b];done)
    |(refine c7 ?_;rw [X6,hc,x9 hx];rfl;simp_all [a0b];done)
  ·have hr:e.recalls.all (a0b e)=true:=by rw [← hI,lbn (by omega)]
   clear hI h hk
   refine d8 c8 (fun k=>([J,S.c (C.ptr 0 0 0)]++Jn 80++[S.c (C.t (a0F e.purities)),a7 .i64 e.purities.length,a7 .i64 k]++Jn 36,[evB e])) e.purities.length (fun k=>(e.purities.take k).all (a06 e)=true) [some 0] rfl
    ⟨rfl,rfl,⟨⟨rfl,rfl,rfl,.inl ⟨rfl,j7 e⟩⟩,trivial⟩,⟨⟨rfl,rfl,rfl⟩,g6 rfl,b8 (by simp),b8 rfl,trivial⟩⟩ ?_
   intro k hk hI
   conv=>whnf
   repeat' (first|refine zx ?_|refine zd ?_ ?_<;>intro h<;>try omega|fail)<;>conv=>whnf
   ·have hlt:k<e.purities.length:=by omega
    obtain ⟨x,hx⟩:∃x,e.purities[k]? =some x:=⟨_,lbf hlt⟩
    refine b9 hx ?_
    conv=>whnf
    repeat' (first|refine zx ?_|refine qp (a4f _ _) ?_|refine qp (a5V _ _ _) ?_|refine zd ?_ ?_<;>intro h<;>try omega|fail)<;>conv=>whnf
    all_goals first
     |(refine ⟨hlt,?_,[some 0],rfl,rfl,⟨⟨rfl,rfl,rfl,.inl ⟨rfl,j7 e⟩⟩,trivial⟩,⟨⟨rfl,rfl,rfl⟩,rfl,rfl,rfl,trivial⟩⟩;rw [u6 hx,hI];simp_all [a06];done)
     |(refine c7 ?_;rw [X6,hc,hr,x9 hx];rfl;simp_all [a06];(try omega);done)
   ·have hp:e.purities.all (a06 e)=true:=by rw [← hI,lbn (by omega)]
    refine c7 ?_
    rw [X6,hc,hr,hp];rfl
open St1 St2 St3 St4 St5 St6 St7 St8 StA StB
set_option maxRecDepth 100000
def a30 (e:Ev):Nat->Int
 |0=>0
 |k+1=>((e.moves[k]?).map (·.day)).getD 0
theorem a1Z {e:Ev} {k:Nat} {m:n9} (h:e.moves[k]? =some m):a30 e (k+1)=m.day:=by simp [a30,h]
theorem a12 {α:Type} {l:List α} {k:Nat} {x:α} (h:l[k]? =some x):l.drop k=x::l.drop (k+1):=by
 obtain ⟨h1,h2⟩:=lbe.1 h
 rw [List.drop_eq_getElem_cons h1,h2]
theorem b8b (e:Ev) (hs:e.Sized):a9 Tryz.prog 58 [evS e] [] (a7 .i64 (y8 e)) []:=by
 have l7:=hs.s2
 have l8:(e.moves.map n9.row).length=e.moves.length:=by simp
 (refine ac Tryz.func58 ?_;(conv=>whnf);repeat (refine zy ?_;conv=>whnf))
 repeat' (first|refine zx ?_|refine qp (b9E _ hs) ?_|refine qp (b5a _ hs) ?_|refine zd ?_ ?_<;>intro h<;>try omega|fail)<;>conv=>whnf
 case refine_2.refine_2.refine_2.refine_2.refine_1 hf h1 h2 h3=>
  have h4:=h
  clear h
  have hpre:¬(e.mats<1∨e.hhs<0∨e.scs<0∨e.places.all (T9 e)=false):=by
   rintro (h|h|h|h)
   ·omega
   ·omega
   ·omega
   ·rw [h4] at h;cases h
  have hck:y8 e=if w8 e 0 e.moves≠0 then w8 e 0 e.moves else if X6 e then 0 else 1:=by
   unfold y8;rw [if_neg (by simp [hf]),if_neg hpre]
  refine d8 c8 (fun k=>([J,S.c (C.ptr 0 0 0),J,a7 .i64 (a30 e k)]++Jn 25++[S.c (C.t (a1g e.moves)),a7 .i64 e.moves.length,a7 .i64 k]++Jn 22,[evB e])) e.moves.length (fun k=>w8 e 0 e.moves=w8 e (a30 e k) (e.moves.drop k)) [some 0] rfl
   ⟨rfl,rfl,⟨⟨rfl,rfl,rfl,.inl ⟨rfl,j7 e⟩⟩,trivial⟩,⟨⟨rfl,rfl,rfl⟩,b8 rfl,g6 rfl,b8 (by simp),b8 rfl,trivial⟩⟩ ?_
  intro k hk hI
  conv=>whnf
  repeat' (first|refine zx ?_|refine zd ?_ ?_<;>intro h<;>try omega|fail)<;>conv=>whnf
  ·have hlt:k<e.moves.length:=by omega
   obtain ⟨x,hx⟩:∃x,e.moves[k]? =some x:=⟨_,lbf hlt⟩
   rw [a12 hx,w8] at hI
   refine b9 hx ?_
   conv=>whnf
   repeat' (first|refine zx ?_|refine qp (b9e _ x hs) ?_|refine zd ?_ ?_<;>intro h<;>try omega|fail)<;>conv=>whnf
   all_goals first
    |(refine ⟨hlt,?_,[some 0],rfl,rfl,⟨⟨rfl,rfl,rfl,.inl ⟨rfl,j7 e⟩⟩,trivial⟩,⟨⟨rfl,rfl,rfl⟩,?_,rfl,rfl,rfl,trivial⟩⟩
      ·rw [a1Z hx,hI,if_neg (by omega),if_pos (by assumption)]
      ·rw [a1Z hx];exact rfl)
    |(have e1:w8 e 0 e.moves=17:=by rw [hI,if_pos (by omega)]
      refine k6 ?_;rw [hck,e1];rfl)
    |(have e1:w8 e 0 e.moves=1:=by rw [hI,if_neg (by omega),if_neg (by simp_all)]
      refine k6 ?_;rw [hck,e1];rfl)
  ·rw [List.drop_eq_nil_of_le (by omega),w8] at hI
   repeat' (first|refine zx ?_|refine qp (ba2 _ hs) ?_|refine zd ?_ ?_<;>intro h<;>try omega|fail)<;>conv=>whnf
   all_goals (refine k6 ?_;rw [hck,hI];simp_all)
 all_goals (refine k6 ?_;unfold y8;simp_all;try omega)
open St1 St2 St3 St4 St5 St6 St7 St8 StA StB
set_option maxRecDepth 100000
abbrev bgC (b:Bg):List C:=[.t (ti b.sg),.t (K4 b.dl)]
abbrev bgS (b:Bg):S:=.agg (bgC b)
abbrev bgB (b:Bg):Blk:={ mode:=.live,elem:=81,size:=2,rows:=[bgC b],box:=true }
theorem a4V (b:Bg):I9 [bgC b]:=by
 intro r hr c hc
 simp at hr
 subst hr
 simp [bgC] at hc
 rcases hc with rfl|rfl<;>rfl
theorem u5 {l:List Int} {i:Nat} (h:i<l.length):l[i]? =some (dat l i):=by
 unfold dat;rw [lbl,lbf h];rfl
theorem a7g {l:List Int} (h:0<l.length):l[((l.length:Int) - 1).toNat]? =some (dat l (l.length - 1)):=by
 rw [show ((l.length:Int) - 1).toNat=l.length - 1 by omega];exact u5 (by omega)
theorem a1T {l:List Int} {n:Nat} (h:0<n) (hn:n<=l.length):l[((n:Int) - 1).toNat]? =some (dat l (n - 1)):=by
 rw [show ((n:Int) - 1).toNat=n - 1 by omega];exact u5 (by omega)
theorem a39 (b:Bg) (hl:b.dl.length<=1000000):a9 Tryz.prog 135 [bgS b] [] (e8 (I3 b)) []:=by
 have l2:(b.dl.map c9).length=b.dl.length:=by simp
 (refine ac Tryz.func135 ?_;(conv=>whnf);repeat (refine zy ?_;conv=>whnf))
 repeat' (first|refine zx ?_|refine zd ?_ ?_<;>intro h<;>try omega|fail)<;>conv=>whnf
 refine d8 c8 (fun k=>([J,S.c (C.ptr 0 0 0),J,a7 .i64 b.dl.length,J,J,J,J,J,J,d6 b.dl,a7 .i64 b.dl.length,a7 .i64 k]++Jn 32,[bgB b])) b.dl.length (fun k=>(b.dl.take k).all inD=true) [some 0] rfl
  ⟨rfl,rfl,⟨⟨rfl,rfl,rfl,.inl ⟨rfl,a4V b⟩⟩,trivial⟩,⟨⟨rfl,rfl,rfl⟩,b8 (by simp),g6 rfl,b8 (by simp),b8 rfl,trivial⟩⟩ ?_
 intro k hk hI
 conv=>whnf
 repeat' (first|refine zx ?_|refine b9 (u5 (by omega)) ?_|refine v6 (by omega) (a7g (by omega)) ?_|refine zd ?_ ?_<;>intro h<;>try omega|fail)<;>conv=>whnf
 all_goals first
  |(have hlt:k<b.dl.length:=by omega
    refine ⟨hlt,?_,[some 0],rfl,rfl,⟨⟨rfl,rfl,rfl,.inl ⟨rfl,a4V b⟩⟩,trivial⟩,⟨⟨rfl,rfl,rfl⟩,rfl,rfl,rfl,rfl,trivial⟩⟩;rw [u6 (u5 hlt),hI];simp [inD];omega)
  |(have hlt:k<b.dl.length:=by omega
    refine c7 ?_;unfold I3;rw [x9 (u5 hlt) (by simp [inD];omega)];rfl)
  |(have ha:b.dl.all inD=true:=by rw [← hI,lbn (by omega)]
    refine c7 ?_;unfold I3;rw [ha];simp_all;done)
theorem a3z (l:List Int) (hl:l.length<=1000000):a9 Tryz.prog 265 [d6 l] [] (d6 (G0 l)) []:=by
 have l2:(l.map c9).length=l.length:=by simp
 (refine ac Tryz.func265 ?_;(conv=>whnf);repeat (refine zy ?_;conv=>whnf))
 repeat' (first|refine zx ?_|refine zd ?_ ?_<;>intro h<;>try omega|fail)<;>conv=>whnf
 refine n8 c8 (σ:=Nat) (fun n=>([d6 l,J,J,a7 .i64 n]++Jn 17,[])) (fun n=>n<=l.length∧∀j x,n<=j->l[j]? =some x->x=0) (fun n=>n) l.length []
  ⟨lbR _,fun j x hj hx=>by rw [lbd hj] at hx;cases hx⟩ ⟨rfl,rfl,trivial,⟨g6 rfl,b8 (by simp),trivial⟩⟩ ?_
 rintro n ⟨hn,hz⟩
 have hn:n<=l.length:=hn
 conv=>whnf
 repeat' (first|refine zx ?_|refine v6 (by omega) (a1T (by omega) hn) ?_|refine a4r (by omega) (by omega) (by omega) ?_|refine zd ?_ ?_<;>intro h<;>try omega|fail)<;>conv=>whnf
 ·have h0:dat l (n - 1)=0:=by assumption
  have h1:0<n:=by omega
  refine ⟨[],n - 1,⟨rfl,rfl,trivial,⟨rfl,b8 (by omega),trivial⟩⟩,⟨by omega,fun j x hj hxj=>?_⟩,by show n - 1<n;omega⟩
  by_cases hj2:j=n - 1
  ·subst hj2;rw [u5 (by omega)] at hxj;injection hxj with hx;rw [← hx];exact h0
  ·exact hz j x (by omega) hxj
 all_goals
  have e:l.take n=G0 l:=a3v hz (fun x h0 hx=>by
   first
    |omega
    |(rw [u5 (by omega)] at hx;injection hx with hx;rw [← hx];assumption)) hn
  refine b9h ?_ rfl
  rw [← e]
  simp [List.map_take]
open St1 St2 St3 St4 St5 St6 St7 St8 StA StB
set_option maxRecDepth 100000
theorem b7V (l:List Int) (hl:l.length<=1000000):a9 Tryz.prog 265 [M4 0 l] [k8 l] (.c (.own 0 0 (G0 l).length true)) [k8 l]:=by
 (refine ac Tryz.func265 ?_;(conv=>whnf);repeat (refine zy ?_;conv=>whnf))
 repeat' (first|refine zx ?_|refine zd ?_ ?_<;>intro h<;>try omega|fail)<;>conv=>whnf
 refine n8 c8 (σ:=Nat) (fun n=>([M4 0 l,J,J,a7 .i64 n]++Jn 17,[k8 l])) (fun n=>n<=l.length∧∀j x,n<=j->l[j]? =some x->x=0) (fun n=>n) l.length [some 0]
  ⟨lbR _,fun j x hj hx=>by rw [lbd hj] at hx;cases hx⟩ ⟨rfl,rfl,⟨a8 rfl rfl rfl rfl rfl,trivial⟩,⟨f8 rfl rfl,b8 rfl,trivial⟩⟩ ?_
 rintro n ⟨hn,hz⟩
 have hn:n<=l.length:=hn
 have hg:0<n->l[0+((n:Int) - 1).toNat]? =some (dat l (n - 1)):=fun h=>by rw [Nat.zero_add];exact a1T h hn
 conv=>whnf
 repeat' (first|refine zx ?_|refine o5 (hg (by omega)) ?_|refine a4r (by omega) (by omega) (by omega) ?_|refine zd ?_ ?_<;>intro h<;>try omega|fail)<;>conv=>whnf
 ·have h0:dat l (n - 1)=0:=by assumption
  have h1:0<n:=by omega
  refine ⟨[some 0],n - 1,⟨rfl,rfl,⟨a8 rfl rfl rfl rfl rfl,trivial⟩,⟨f8 rfl rfl,b8 (by omega),trivial⟩⟩,⟨by omega,fun j x hj hxj=>?_⟩,by show n - 1<n;omega⟩
  by_cases hj2:j=n - 1
  ·subst hj2;rw [u5 (by omega)] at hxj;injection hxj with hx;rw [← hx];exact h0
  ·exact hz j x (by omega) hxj
 all_goals
  have e:l.take n=G0 l:=a3v hz (fun x h0 hx=>by
   first
    |omega
    |(rw [u5 (by omega)] at hx;injection hx with hx;rw [← hx];assumption)) hn
  have e2:(G0 l).length=n:=by rw [← e];simp;omega
  exact ⟨⟨[some 0],rfl,rfl,⟨a8 rfl rfl rfl rfl rfl,trivial⟩,⟨rfl,rfl,by rw [e2];omega,fun h=>h⟩⟩⟩
theorem aC7 {n:Nat} {K:Prop} (h:0<n) (k:K):0<n∧K:=⟨h,k⟩
theorem a9I (l:List Int) (hl:l.length<=1000000):a9 Tryz.prog 207 [d6 l] [] (d6 l) []:=by
 have l2:(l.map c9).length=l.length:=by simp
 cases l with
 |nil=>
  refine av4 0 rfl ?_ ?_
  ·(refine ac Tryz.func207 ?_;(conv=>whnf);repeat (refine zy ?_;conv=>whnf))
   repeat' (first|refine zx ?_|refine zd ?_ ?_<;>intro h<;>try omega|fail)<;>conv=>whnf
   exact k9 (show a9F [] _ _ _ from rfl)
  ·(refine ac Tryz.func207 ?_;(conv=>whnf);repeat (refine zy ?_;conv=>whnf))
   repeat' (first|refine zx ?_|refine qp toC ?_|refine aC7 (by simp) ?_|refine al4 (by omega) (by omega) rfl (by omega) ?_|refine a79 rfl (by simp [toC]) ?_|refine zd ?_ ?_<;>intro h<;>try omega|fail)<;>conv=>whnf
   exact I6 rfl (by intro h;cases h) rfl rfl (by simp [toC])
 |cons a r=>
  (refine ac Tryz.func207 ?_;(conv=>whnf);repeat (refine zy ?_;conv=>whnf))
  repeat' (first|refine zx ?_|refine qp toC ?_|refine aC7 (by simp) ?_|refine al4 (by omega) (by omega) rfl (by omega) ?_|refine a79 rfl (by simp [toC] at *;omega) ?_|refine zd ?_ ?_<;>intro h<;>try omega|fail)<;>conv=>whnf
  exact I6 rfl (by intro h;cases h) rfl rfl (by simp [toC])
theorem b4O (l:List Int) (hl:l.length<=1000000):a9 Tryz.prog 207 [d6 l] [] (M4 0 l) [k8 l]:=by
 have l2:(l.map c9).length=l.length:=by simp
 cases l with
 |nil=>
  refine av4 0 rfl ?_ ?_
  ·(refine ac Tryz.func207 ?_;(conv=>whnf);repeat (refine zy ?_;conv=>whnf))
   repeat' (first|refine zx ?_|refine zd ?_ ?_<;>intro h<;>try omega|fail)<;>conv=>whnf
   exact ⟨⟨[none],rfl,rfl,⟨⟨rfl,rfl⟩,trivial⟩,⟨rfl,rfl,rfl⟩⟩⟩
  ·(refine ac Tryz.func207 ?_;(conv=>whnf);repeat (refine zy ?_;conv=>whnf))
   repeat' (first|refine zx ?_|refine qp toC ?_|refine aC7 (by simp) ?_|refine al4 (by omega) (by omega) rfl (by omega) ?_|refine a79 rfl (by simp [toC]) ?_|refine zd ?_ ?_<;>intro h<;>try omega|fail)<;>conv=>whnf
   exact ⟨⟨[some 0],rfl,rfl,⟨a8 rfl rfl rfl rfl rfl,trivial⟩,⟨rfl,rfl,by simp [toC],fun h=>h⟩⟩⟩
 |cons a r=>
  (refine ac Tryz.func207 ?_;(conv=>whnf);repeat (refine zy ?_;conv=>whnf))
  repeat' (first|refine zx ?_|refine qp toC ?_|refine aC7 (by simp) ?_|refine al4 (by omega) (by omega) rfl (by omega) ?_|refine a79 rfl (by simp [toC] at *;omega) ?_|refine zd ?_ ?_<;>intro h<;>try omega|fail)<;>conv=>whnf
  exact ⟨⟨[some 0],rfl,rfl,⟨a8 rfl rfl rfl rfl rfl,trivial⟩,⟨rfl,rfl,by simp [toC],fun h=>h⟩⟩⟩
theorem b7v (x:Int):a9 Tryz.prog 268 [a7 .i64 x] [] (e8 false) []:=by
 (refine ac Tryz.func268 ?_;(conv=>whnf);repeat (refine zy ?_;conv=>whnf))
 repeat' (first|refine zx ?_|refine zd ?_ ?_<;>intro h<;>try omega|fail)<;>conv=>whnf
 all_goals first
  |omega
  |exact c7 rfl
def O1 (x y:Int):Int:=if x<y then -1 else if x > y then 1 else 0
theorem a46 (x y:Int):a9 Tryz.prog 211 [a7 .i64 x,a7 .i64 y] [] (a7 .i64 (O1 x y)) []:=by
 (refine ac Tryz.func211 ?_;(conv=>whnf);repeat (refine zy ?_;conv=>whnf))
 repeat' (first|refine zx ?_|refine qp (b7v _) ?_|refine zd ?_ ?_<;>intro h<;>try omega|fail)<;>conv=>whnf
 all_goals first
  |(exfalso;simp_all;done)
  |(refine k6 ?_;unfold O1;split<;>first|omega|(split<;>omega))
theorem a4h (x y:Int):a9 Tryz.prog 214 [.c (.t (.sl 1 .full ([x,y].map c9)))] [] (a7 .i64 (if x=0 then y else x)) []:=by
 (refine ac Tryz.func214 ?_;(conv=>whnf);repeat (refine zy ?_;conv=>whnf))
 repeat' (first|refine zx ?_|refine zd ?_ ?_<;>intro h<;>try omega|fail)<;>conv=>whnf
 refine d8 c8 (fun k=>([J,J,J,a7 .i64 0,J,J,S.c (C.t (T.sl 1 .full ([x,y].map c9))),a7 .i64 2,a7 .i64 k]++Jn 9,[])) 2 (fun k=>∀v ∈ [x,y].take k,v=0) [] (by simp)
  ⟨rfl,rfl,trivial,⟨rfl,g6 rfl,b8 rfl,b8 rfl,trivial⟩⟩ ?_
 intro k hk hI
 conv=>whnf
 repeat' (first|refine zx ?_|refine zd ?_ ?_<;>intro h<;>try omega|fail)<;>conv=>whnf
 ·have hlt:k<2:=by omega
  obtain ⟨v,hv⟩:∃v,[x,y][k]? =some v:=⟨_,lbf (by simpa using hlt)⟩
  refine b9 hv ?_
  conv=>whnf
  repeat' (first|refine zx ?_|refine zd ?_ ?_<;>intro h<;>try omega|fail)<;>conv=>whnf
  ·refine k6 ?_
   match k,hlt with
   |0,_=>simp at hv;subst hv;rw [if_neg (by assumption)]
   |1,_=>simp at hv;subst hv;rw [if_pos (hI x (by simp))]
  ·refine ⟨hlt,?_,[],rfl,rfl,trivial,⟨rfl,rfl,rfl,rfl,trivial⟩⟩
   intro u hu
   rw [lbG,hv] at hu
   rcases lbz.1 hu with hu|hu
   ·exact hI u hu
   ·simp at hu;subst hu;omega
 ·have h1:=hI x (by rw [lbn (by simp;omega)];simp)
  have h2:=hI y (by rw [lbn (by simp;omega)];simp)
  refine k6 ?_
  rw [if_pos h1,h2]
def sgn (s:Int) (l:List Int):Bg:=if (G0 l).length=0 then ⟨0,[]⟩ else ⟨s,G0 l⟩
theorem aO5 (s:Int) (l:List Int) (hl:l.length<=1000000):a9 Tryz.prog 209 [a7 .i64 s,d6 l] [] (bgS (sgn s l)) []:=by
 (refine ac Tryz.func209 ?_;(conv=>whnf);repeat (refine zy ?_;conv=>whnf))
 repeat' (first|refine zx ?_|refine qp (a3z l hl) ?_|refine zd ?_ ?_<;>intro h<;>try omega|fail)<;>conv=>whnf
 ·have h0:(G0 l).length=0:=by simp at *;assumption
  unfold sgn
  rw [if_pos h0]
  exact k9 ⟨rfl,rfl,trivial⟩
 ·have h0:¬(G0 l).length=0:=by simp at *;assumption
  unfold sgn
  rw [if_neg h0]
  exact k9 ⟨rfl,rfl,trivial⟩
theorem H8 (r:Bool) (b:Bg):a9 Tryz.prog 206 [e8 r,bgS b] [] (.tup [bgS (if r then b else ⟨0,[]⟩),a7 .i64 (if r then 0 else 1)]) []:=by
 cases r<;>
 ·(refine ac Tryz.func206 ?_;(conv=>whnf);repeat (refine zy ?_;conv=>whnf))
  repeat' (first|refine zx ?_|refine zd ?_ ?_<;>intro h<;>try omega|fail)<;>conv=>whnf
  exact k9 ⟨⟨rfl,rfl,trivial⟩,rfl,trivial⟩
end Go.Proofs.YtdbogogfeffjlaaGreat
