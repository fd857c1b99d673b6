/- Part 5. -/
import Derived.Test.YtaejgdbahjjncaaGreatWj4
namespace Go.Proofs.YtaejgdbahjjncaaGreat
set_option linter.unusedVariables false
set_option linter.unusedSimpArgs false
section
open Go.RowKit
section
variable {P:Program} {ops:Array Oper} {envs:Nat->Env} {hs:Nat->Hp} {rs:Nat->S} {kd:Nat->Kd}
variable {w0:World} {ι0:Io} {M0:Ms} {H0:Hp} {listed:Array Bool} {a:Act} {w:World} {p q:Nat}
theorem a5v.full (hT:∀j,j<ops.size->aC8 P ops.toList envs hs rs kd j) (hdo:a67 ops.toList=true) (hI:a5v P ops envs hs rs kd w0 ι0 M0 H0 listed a w p q) (hall:∀j,j<q->listed.getD j false=true):
 Sim w0 ι0 M0 H0 a w (envs q) (hs q):=by
 obtain ⟨ι,M,hd,hsz,h1,h2,hH,hM,hf,hF,hst⟩:=hI.rel
 refine ⟨ι,M,hd,by rw [hsz,a7h hT hI.hpq hI.hqn],fun t s ht=>?_,hH,hM,hF,hst⟩
 have htl:t<(envs p).length:=by rw [← a7h hT hI.hpq hI.hqn];exact (lbe.1 ht).1
 by_cases hex:∃i,p<=i∧i<q∧C1 ops i=some t
 ·obtain ⟨i,h3,h4,h5⟩:=hex
  rw [aQ9 hT hdo h3 h4 hI.hqn h5 htl] at ht
  injection ht with ht
  subst ht
  exact h1 i t h3 (hall i h4) h5 htl
 ·have hno:∀i,p<=i->i<q->C1 ops i≠some t:=fun i h3 h4 h5=>hex ⟨i,h3,h4,h5⟩
  rw [a3R hT hI.hpq hI.hqn hno] at ht
  refine h2 t s (fun i h3 h4=>hno i h3 ?_) (fun i h3 h4=>?_) ht
  ·rcases K4 i q with h|h
   ·exact h
   ·rw [hI.high i h] at h4;cases h4
  ·have:=hI.hpq
   rw [hall i (by omega)] at h4;cases h4
theorem a5v.reads (hT:∀j,j<ops.size->aC8 P ops.toList envs hs rs kd j) (hb:a47 ops.toList=true) (hdo:a67 ops.toList=true) (hdep:aL6 ops.toList=true)
 (hI:a5v P ops envs hs rs kd w0 ι0 M0 H0 listed a w p q) {ι:Io} {M:Ms}
 (h1:∀i t,p<=i->listed.getD i false=true->C1 ops i=some t->t<(envs p).length->RS w ι M (rs i) (a.tmps.getD t undef))
 (h2:∀t s,(∀ i,p<=i->listed.getD i false=true->C1 ops i≠some t)->(∀ i,i<p->listed.getD i false=false->C1 ops i≠some t)->(envs p)[t]? =some s->RS w ι M s (a.tmps.getD t undef))
 {i:Nat} {o:Oper} (ho:ops[i]? =some o) (hpi:p<=i) (hiN:i<=ops.size) (hun:listed.getD i false=false) (hready:∀e ∈ o.after.toList,Region.binds .any e=true->listed.getD e.on false=true)
 {t:Nat} (ht:t ∈ Y9 ops.toList o):RS w ι M (F5 (envs i) (.tmp t)) (a.tmps.getD t undef):=by
 show RS w ι M ((envs i).getD t .junk) _
 rw [lbl]
 have ho':ops.toList[i]? =some o:=by simpa using ho
 have hS:∀i o,ops.toList[i]? =some o->(listed.getD i false=true)->∀e ∈ o.after.toList,Region.binds .any e=true->listed.getD e.on false=true:=fun i o h=>hI.closed i o (by simpa using h)
 have hlow:∀j,j<p->listed.getD j false=false->C1 ops j≠some t:=fun j hj hl hd=>by
  obtain ⟨m1,m2⟩:=a6I hdep ho ht hd (by omega)
  have:=a1g hb hS ho' hready (m1 (by omega))
  rw [hl] at this;cases this
 cases hg:(envs i)[t]? with
 |none=>exact .junk
 |some s=>
  have htl:t<(envs p).length:=by rw [← a7h hT hpi hiN];exact (lbe.1 hg).1
  show RS w ι M s _
  by_cases hex:∃j,p<=j∧j≠i∧C1 ops j=some t
  ·obtain ⟨j,hpj,hne,hj⟩:=hex
   obtain ⟨m1,m2⟩:=a6I hdep ho ht hj (Ne.symm hne)
   rcases aa1 hne with hlt|hgt
   ·have hl:=a1g hb hS ho' hready (m1 hlt)
    rw [aQ9 hT hdo hpj hlt hiN hj htl] at hg
    injection hg with hg
    subst hg
    exact h1 j t hpj hl hj htl
   ·have hjl:listed.getD j false≠true:=fun hjl=>by
     have hoj:∃oj,ops.toList[j]? =some oj:=by
      unfold C1 at hj
      cases h:ops[j]? with
      |none=>rw [h] at hj;cases hj
      |some oj=>exact ⟨oj,by simpa using h⟩
     obtain ⟨oj,hoj⟩:=hoj
     have:=ac2 hb hS j oj i hoj (m2 hgt) hjl
     rw [hun] at this;cases this
    rw [a3R hT hpi hiN (fun i' h3 h4 h5=>by have:=a2A hdo hj h5;omega)] at hg
    refine h2 t s (fun i' h3 h4 h5=>?_) hlow hg
    have:=a2A hdo hj h5
    subst this
    exact hjl h4
  ·have hno:∀i',p<=i'->i'≠i->C1 ops i'≠some t:=fun i' h3 h4 h5=>hex ⟨i',h3,h4,h5⟩
   rw [a3R hT hpi hiN (fun i' h3 h4=>hno i' h3 (by omega))] at hg
   refine h2 t s (fun i' h3 h4=>hno i' h3 ?_) hlow hg
   rintro rfl
   rw [hun] at h4;cases h4
theorem a5v.reads_late (hb:a47 ops.toList=true) (hdo:a67 ops.toList=true) (hdep:aL6 ops.toList=true)
 (hI:a5v P ops envs hs rs kd w0 ι0 M0 H0 listed a w p q) {ι:Io} {M:Ms}
 (h2:∀t s,(∀ i,p<=i->listed.getD i false=true->C1 ops i≠some t)->(∀ i,i<p->listed.getD i false=false->C1 ops i≠some t)->(envs p)[t]? =some s->RS w ι M s (a.tmps.getD t undef))
 {i r:Nat} {o:Oper} (ho:ops[i]? =some o) (hip:i<p) (hr:p=r+1) (hf:a0A ops.toList r i=true) (hun:listed.getD i false=false) (hready:∀e ∈ o.after.toList,Region.binds .any e=true->listed.getD e.on false=true)
 {t:Nat} (ht:t ∈ Y9 ops.toList o):RS w ι M (F5 (envs p) (.tmp t)) (a.tmps.getD t undef):=by
 show RS w ι M ((envs p).getD t .junk) _
 rw [lbl]
 have ho':ops.toList[i]? =some o:=by simpa using ho
 have hS:∀i o,ops.toList[i]? =some o->(listed.getD i false=true)->∀e ∈ o.after.toList,Region.binds .any e=true->listed.getD e.on false=true:=fun i o h=>hI.closed i o (by simpa using h)
 cases hg:(envs p)[t]? with
 |none=>exact .junk
 |some s=>
  refine h2 t s (fun j h3 h4 h5=>?_) (fun j h3 h4 h5=>?_) hg
  ·have hoj:∃oj,ops.toList[j]? =some oj:=by
    unfold C1 at h5
    cases h:ops[j]? with
    |none=>rw [h] at h5;cases h5
    |some oj=>exact ⟨oj,by simpa using h⟩
   obtain ⟨oj,hoj⟩:=hoj
   have:=ac2 hb hS j oj i hoj ((a6I hdep ho ht h5 (by omega)).2 (by omega)) h4
   rw [hun] at this;cases this
  ·by_cases hji:j=i
   ·subst hji
    rcases a3X (d:=0) hf ho ht h5 with h|h<;>omega
   have hlt:j<i:=by
    rcases a3X (d:=0) hf ho ht h5 with h|h
    ·exact h
    ·omega
   have:=a1g hb hS ho' hready ((a6I hdep ho ht h5 (by omega)).1 hlt)
   rw [h4] at this;cases this
theorem a2d {listed:Array Bool} {i:Nat} (h:i<listed.size):(listed.setIfInBounds i true).getD i false=true:=by simp [h]
theorem W0 {listed:Array Bool} {i j:Nat} (h:(listed.setIfInBounds i true).getD j false=true):j=i∨listed.getD j false=true:=by
 by_cases hij:i=j
 ·exact .inl hij.symm
 ·rw [getD_set_ne false hij] at h;exact .inr h
theorem a5v.step (hT:∀j,j<ops.size->aC8 P ops.toList envs hs rs kd j) (hI:a5v P ops envs hs rs kd w0 ι0 M0 H0 listed a w p q) (hd:a.defers=[]) (hsz:a.tmps.size=(envs p).length)
 {i:Nat} {o:Oper} (ho:ops[i]? =some o) (hpi:p<=i) (hiq:i<q) (hun:listed.getD i false=false) (hready:∀e ∈ o.after.toList,Region.binds .any e=true->listed.getD e.on false=true)
 (hdo:a67 ops.toList=true) {v:Value} {w':World} {ι':Io} {M':Ms}
 (h1:∀i t,p<=i->listed.getD i false=true->C1 ops i=some t->t<(envs p).length->RS w' ι' M' (rs i) (a.tmps.getD t undef))
 (h2:∀t s,(∀ i,p<=i->listed.getD i false=true->C1 ops i≠some t)->(∀ i,i<p->listed.getD i false=false->C1 ops i≠some t)->(envs p)[t]? =some s->RS w' ι' M' s (a.tmps.getD t undef))
 (hr:RS w' ι' M' (rs i) v) (hH:j4 w' ι' M' (hs q)) (hM:MB w' M')
 (hf:∀j B,p<=j->j<q->j≠i->listed.getD j false=false->kd j=.quiet B->∀k,k<B.length->ι' ((hs j).length+k)=none) (hF:a0R ι' (hs q).length) (hst:a3v w0 ι0 M0 H0 w' ι' M' (hs q)):
 a5v P ops envs hs rs kd w0 ι0 M0 H0 (listed.setIfInBounds i true) (a.put o.dst v) w' p q:=by
 have hil:i<listed.size:=by rw [hI.lsz];exact (lb4.1 ho).1
 have hdi:C1 ops i=o.dst:=by unfold C1;rw [ho];rfl
 refine ⟨hI.hpq,hI.hqn,hI.seg,hI.fin,hI.h0,by simpa using hI.lsz,fun j hj=>?_,fun j hj=>?_,?_,ι',M',by rw [a0z,hd],by rw [a3I,hsz],?_,?_,hH,hM,?_,hF,hst⟩
 ·exact (hI.low j hj).imp (fun h=>getD_set_true h) id
 ·rw [getD_set_ne false (by omega)];exact hI.high j hj
 ·intro j oj hoj hl e he hb
  rcases W0 hl with rfl|hl
  ·rw [ho] at hoj
   injection hoj with hoj
   subst hoj
   exact getD_set_true (hready e he hb)
  ·exact getD_set_true (hI.closed j oj hoj hl e he hb)
 ·intro j t hpj hl hdj htl
  by_cases hji:j=i
  ·subst hji
   rw [hdi] at hdj
   rw [hdj]
   show RS w' ι' M' (rs j) ((a.tmps.setIfInBounds t v).getD t undef)
   simpa [show t<a.tmps.size by omega] using hr
  ·have hl':=(W0 hl).resolve_left hji
   have hne:o.dst≠some t:=fun h=>by rw [← hdi] at h;exact hji (a2A hdo hdj h)
   have:=h1 j t hpj hl' hdj htl
   cases hdd:o.dst with
   |none=>exact this
   |some d=>
    have:d≠t:=fun e=>hne (by rw [hdd,e])
    show RS w' ι' M' (rs j) ((a.tmps.setIfInBounds d v).getD t undef)
    rw [R6,Array.getElem?_setIfInBounds_ne this]
    rw [R6] at *
    assumption
 ·intro t s hno hno2 hs'
  have hne:o.dst≠some t:=fun h=>hno i hpi (a2d hil) (by rw [hdi,h])
  have:=h2 t s (fun j h3 h4=>hno j h3 (getD_set_true h4)) (fun j h3 h4=>hno2 j h3 (by rw [getD_set_ne false (by omega)];exact h4)) hs'
  cases hdd:o.dst with
  |none=>exact this
  |some d=>
   have hdt:d≠t:=fun e=>hne (by rw [hdd,e])
   show RS w' ι' M' s ((a.tmps.setIfInBounds d v).getD t undef)
   rw [R6,Array.getElem?_setIfInBounds_ne hdt]
   rw [R6] at this
   exact this
 ·intro j B hpj hjq hl hk
  have hji:j≠i:=by rintro rfl;rw [a2d hil] at hl;cases hl
  rw [getD_set_ne false (Ne.symm hji)] at hl
  exact hf j B hpj hjq hji hl hk
theorem a5v.late (hI:a5v P ops envs hs rs kd w0 ι0 M0 H0 listed a w p q) (hd:a.defers=[]) (hsz:a.tmps.size=(envs p).length)
 {i:Nat} {o:Oper} {d:Nat} (ho:ops[i]? =some o) (hod:o.dst=some d) (hip:i<p) (hready:∀e ∈ o.after.toList,Region.binds .any e=true->listed.getD e.on false=true)
 (hdo:a67 ops.toList=true) {v:Value} {w':World} {ι':Io} {M':Ms}
 (h1:∀i t,p<=i->listed.getD i false=true->C1 ops i=some t->t<(envs p).length->RS w' ι' M' (rs i) (a.tmps.getD t undef))
 (h2:∀t s,(∀ i,p<=i->listed.getD i false=true->C1 ops i≠some t)->(∀ i,i<p->listed.getD i false=false->C1 ops i≠some t)->(envs p)[t]? =some s->RS w' ι' M' s (a.tmps.getD t undef))
 (hr:RS w' ι' M' (F5 (envs p) (.tmp d)) v) (hH:j4 w' ι' M' (hs q)) (hM:MB w' M')
 (hf:∀j B,p<=j->j<q->listed.getD j false=false->kd j=.quiet B->∀k,k<B.length->ι' ((hs j).length+k)=none) (hF:a0R ι' (hs q).length) (hst:a3v w0 ι0 M0 H0 w' ι' M' (hs q)):
 a5v P ops envs hs rs kd w0 ι0 M0 H0 (listed.setIfInBounds i true) (a.put o.dst v) w' p q:=by
 have hil:i<listed.size:=by rw [hI.lsz];exact (lb4.1 ho).1
 have hdi:C1 ops i=some d:=by unfold C1;rw [ho];exact hod
 have hpq:=hI.hpq
 refine ⟨hI.hpq,hI.hqn,hI.seg,hI.fin,hI.h0,by simpa using hI.lsz,fun j hj=>?_,fun j hj=>?_,?_,ι',M',by rw [a0z,hd],by rw [a3I,hsz],?_,?_,hH,hM,?_,hF,hst⟩
 ·exact (hI.low j hj).imp (fun h=>getD_set_true h) id
 ·rw [getD_set_ne false (by omega)];exact hI.high j hj
 ·intro j oj hoj hl e he hb
  rcases W0 hl with rfl|hl
  ·rw [ho] at hoj
   injection hoj with hoj
   subst hoj
   exact getD_set_true (hready e he hb)
  ·exact getD_set_true (hI.closed j oj hoj hl e he hb)
 ·intro j t hpj hl hdj htl
  have hji:j≠i:=by omega
  have hl':=(W0 hl).resolve_left hji
  have:=h1 j t hpj hl' hdj htl
  have hdt:d≠t:=fun e=>hji (a2A hdo hdj (by rw [← e];exact hdi))
  rw [hod]
  show RS w' ι' M' (rs j) ((a.tmps.setIfInBounds d v).getD t undef)
  rw [R6,Array.getElem?_setIfInBounds_ne hdt]
  rw [R6] at this
  exact this
 ·intro t s hno hno2 hs'
  rw [hod]
  show RS w' ι' M' s ((a.tmps.setIfInBounds d v).getD t undef)
  by_cases hdt:d=t
  ·subst hdt
   have htl:=(lbe.1 hs').1
   have he:F5 (envs p) (.tmp d)=s:=by
    show (envs p).getD d .junk=s
    rw [lbl,hs'];rfl
   rw [he] at hr
   simpa [show d<a.tmps.size by omega] using hr
  ·have:=h2 t s (fun j h3 h4=>hno j h3 (getD_set_true h4)) (fun j h3 h4 h5=>by
    by_cases hji:j=i
    ·subst hji;rw [hdi] at h5;injection h5 with h5;exact hdt h5
    ·exact hno2 j h3 (by rw [getD_set_ne false (Ne.symm hji)];exact h4) h5) hs'
   rw [R6,Array.getElem?_setIfInBounds_ne hdt]
   rw [R6] at this
   exact this
 ·intro j B hpj hjq hl hk
  rw [getD_set_ne false (by omega)] at hl
  exact hf j B hpj hjq hl hk
theorem aM1 (kd:Nat->Kd) (p n:Nat) (h:p<=n):∃q,p<=q∧q<=n∧(∀ j,p<=j->j<q->kd j≠.gen)∧(q=n∨kd q=.gen):=by
 obtain ⟨m,hm⟩:∃m,m=n - p:=⟨_,rfl⟩
 induction m generalizing p with
 |zero=>exact ⟨p,lbQ _,h,fun j _ _=>by omega,.inl (by omega)⟩
 |succ m ih=>
  cases hk:kd p with
  |gen=>exact ⟨p,lbQ _,h,fun j _ _=>by omega,.inr hk⟩
  |skip=>
   obtain ⟨q,h1,h2,h3,h4⟩:=ih (p+1) (by omega) (by omega)
   refine ⟨q,by omega,h2,fun j h5 h6=>?_,h4⟩
   by_cases hj:j=p
   ·subst hj;rw [hk];intro h;cases h
   ·exact h3 j (by omega) h6
  |quiet B=>
   obtain ⟨q,h1,h2,h3,h4⟩:=ih (p+1) (by omega) (by omega)
   refine ⟨q,by omega,h2,fun j h5 h6=>?_,h4⟩
   by_cases hj:j=p
   ·subst hj;rw [hk];intro h;cases h
   ·exact h3 j (by omega) h6
def unl (n:Nat) (listed:Array Bool):Nat:=((List.range n).filter fun j=>!listed.getD j false).length
theorem b5R {n:Nat} {listed:Array Bool} {i:Nat} (hi:i<n) (hs:listed.size=n) (hu:listed.getD i false=false):unl n (listed.setIfInBounds i true)<unl n listed:=by
 unfold unl
 have h1:((List.range n).filter fun j=>!(listed.setIfInBounds i true).getD j false)=((List.range n).filter fun j=>!listed.getD j false).filter fun j=>j≠i:=by
  rw [List.filter_filter]
  apply List.filter_congr
  intro j hj
  by_cases hji:j=i
  ·subst hji;simp [hs,hi]
  ·rw [getD_set_ne false (Ne.symm hji)];simp [hji]
 rw [h1]
 have hmem:i ∈ (List.range n).filter fun j=>!listed.getD j false:=by simp [hi];simpa using hu
 have:∀(l:List Nat),i ∈ l->(l.filter fun j=>j≠i).length<l.length:=by
  intro l
  induction l with
  |nil=>intro h;cases h
  |cons x l ih=>
   intro h
   by_cases hx:x=i
   ·subst hx
    simp only [List.filter_cons,ne_eq,not_true_eq_false,decide_false,a5R,if_false,lbu]
    have:=lbt (fun j=>decide ¬j=x) l
    exact Nat.lt_succ_of_le this
   ·rcases lbA.1 h with h|h
    ·exact absurd h.symm hx
    ·simp [List.filter_cons,hx]
     simpa using ih h
 exact this _ hmem
theorem a79 (hb:a47 ops.toList=true) (hsz:listed.size=ops.size) (h:Region.ready .any ops listed=[]):∀i,i<ops.size->listed.getD i false=true:=by
 intro i
 induction i using Nat.strongRecOn with
 |_ i ih=>
  intro hi
  cases hl:listed.getD i false with
  |true=>rfl
  |false=>
   have:i ∈ Region.ready .any ops listed:=by
    rw [mem_ready]
    refine ⟨by simp [hsz,hi] at hl ⊢;exact hl,ops[i],by simp,fun e he hbi=>?_⟩
    have hlt:=at3 hb (i:=i) (o:=ops[i]) (by simp) (by simpa using he) hbi
    exact ih e.on hlt (by omega)
   rw [h] at this;cases this
theorem aR8 {n:Nat} (h:unl n listed=0):∀i,i<n->listed.getD i false=true:=by
 intro i hi
 unfold unl at h
 have:=lbF h
 rw [List.filter_eq_nil_iff] at this
 have:=this i (by simpa using hi)
 simpa using this
theorem b5e (hI:a5v P ops envs hs rs kd w0 ι0 M0 H0 listed a w p q) (hall:∀i,i<ops.size->listed.getD i false=true):q=ops.size:=by
 rcases K4 q ops.size with h|h
 ·have:=hI.high q (lbQ _)
  rw [hall q h] at this;cases this
 ·have:=hI.hqn;omega
theorem b3w (hM0:MB w0 M0) (hT:∀j,j<ops.size->aC8 P ops.toList envs hs rs kd j) (hb:a47 ops.toList=true) (hdo:a67 ops.toList=true) (hdep:aL6 ops.toList=true) {Q:Exit->Act->World->Prop}
 (hK:∀a w,Sim w0 ι0 M0 H0 a w (envs ops.size) (hs ops.size)->Q .normal a w):∀(fuel:Nat) (listed:Array Bool) (a:Act) (w:World) (p q:Nat),a5v P ops envs hs rs kd w0 ι0 M0 H0 listed a w p q->unl ops.size listed<=fuel->
   wpAny P .any ops Q fuel listed a w:=by
 have hend:∀(listed:Array Bool) (a:Act) (w:World) (p q:Nat),a5v P ops envs hs rs kd w0 ι0 M0 H0 listed a w p q->(∀ i,i<ops.size->listed.getD i false=true)->Q .normal a w:=fun listed a w p q hI hall=>by
  obtain rfl:=b5e hI hall
  exact hK a w (hI.full hT hdo hall)
 intro fuel
 induction fuel with
 |zero=>
  intro listed a w p q hI hu
  have hall:=aR8 (listed:=listed) (n:=ops.size) (by omega)
  refine ⟨?_,hend listed a w p q hI hall⟩
  cases hr:Region.ready .any ops listed with
  |nil=>rfl
  |cons i l=>
   have hi:i ∈ Region.ready .any ops listed:=by rw [hr];simp
   rw [mem_ready] at hi
   obtain ⟨h1,o,ho,_⟩:=hi
   have hlt:=(lb4.1 ho).1
   have h2:=hall i hlt
   have hsz:=hI.lsz
   simp [hsz,hlt] at h1 h2
   rw [h1] at h2;cases h2
 |succ fuel ih=>
  intro listed a w p q hI hu
  refine ⟨fun hr=>hend listed a w p q hI (a79 hb hI.lsz hr),fun i hi=>?_⟩
  rw [mem_ready] at hi
  obtain ⟨hl,o,ho,hready⟩:=hi
  have hiN:=(lb4.1 ho).1
  have hsz0:=hI.lsz
  have hun:listed.getD i false=false:=by simp [hsz0,hiN] at hl ⊢;exact hl
  have hready':∀e ∈ o.after.toList,Region.binds .any e=true->listed.getD e.on false=true:=fun e he=>hready e (by simpa using he)
  have hu':unl ops.size (listed.setIfInBounds i true)<=fuel:=by
   have:=b5R hiN hsz0 hun;omega
  have hS:∀i o,ops.toList[i]? =some o->(listed.getD i false=true)->∀e ∈ o.after.toList,Region.binds .any e=true->listed.getD e.on false=true:=fun i o h=>hI.closed i o (by simpa using h)
  unfold wpOp
  rw [ho]
  simp only
  obtain ⟨ι,M,hd,hsz,h1,h2,hH,hM,hf,hF,hst⟩:=hI.rel
  by_cases hip:i<p
  · -- one that came late
    rcases hI.low i hip with h|⟨⟨r,hpr,hfine⟩,oj,d,hoj,hod,hq⟩
    ·rw [h] at hun;cases hun
    rw [ho] at hoj
    injection hoj with hoj
    subst hoj
    have hgd:=aR1 hfine ho
    have hreads:=fun t ht=>hI.reads_late hb hdo hdep h2 ho hip hpr hfine hun hready' (t:=t) ht
    rw [show Region.wanted o (yielded ops a.tmps)=true by unfold Region.wanted;rw [hgd]]
    simp only [if_true]
    refine .inl ?_
    obtain ⟨X,hX⟩:=O1 hT hI.hpq hI.hqn hI.seg
    have hHp:j4 w ι M (hs p):=by rw [hX] at hH;exact hH.pre1
    have hev:R3 w ι M (evR o (envs p)) a:=by
     intro x
     cases x with
     |tmp t=>
      show RS w ι M (cond _ _ _) _
      cases hc:(o.op.operands.toList.filterMap fun x=>match x with|.tmp t=>some t|_=>none).contains t with
      |true=>
       refine hreads t ?_
       unfold Y9
       rw [lbz]
       exact .inl (ax9.1 hc)
      |false=>exact .junk
     |const v=>exact RS.const v
     |global g=>exact .junk
     |func f=>exact .c (.t (.fn [] rfl (by simp)))
    refine hq a w ι M hev hHp hM (by simp) _ _ fun v w' hp=>?_
    obtain ⟨new,q1,q2,q3,q4,q5,q6⟩:=hp.insert hH hM (by simp) (by simp)
    have hsame:∀id,A8 ι (hs p).length ([]:List Blk).length new id=ι id:=fun id=>by unfold A8;rw [if_neg (by simp)]
    have keep:∀{s v},RS w ι M s v->RS w' (A8 ι (hs p).length ([]:List Blk).length new) (a5d M ([]:List Blk).length new) s v:=fun h=>h.keep (fun b hb _=>q2.keep b hb) q5 (fun id l hl=>by rw [hsame];exact hl)
    refine ih _ _ _ p q (hI.late hd hsz ho hod hip hready' hdo (fun j t h3 h4 h5 h6=>keep (h1 j t h3 h4 h5 h6)) (fun t s h3 h4 h5=>keep (h2 t s h3 h4 h5)) q1 q3 q4 ?_ ?_ ?_) hu'
    ·intro j B' h3 h4 h6 h7 k hk
     rw [hsame]
     exact hf j B' h3 h4 h6 h7 k hk
    ·intro id hid
     rw [hsame]
     exact hF id hid
    ·refine ⟨q2.os.trans hst.os,q2.tape.trans hst.tape,q2.output.trans hst.output,lbR hst.size q2.size,fun b hb' hl'=>(q2.keep b (a27 hb' hst.size)).trans (hst.keep b hb' hl'),?_,?_,?_,?_,hst.len⟩
     ·intro id hid
      rw [hsame]
      exact hst.same id hid
     ·intro b hb'
      rcases q5 b hb' with h|h
      ·exact hst.mnew b h
      ·exact .inr (lbR hst.size h)
     ·intro b hb'
      rcases hst.mold b hb' with h|h
      ·exact .inl (.inl h)
      ·exact .inr h
     ·intro b hb'
      rcases q6 b hb' with h|h
      ·exact hst.live b h
      ·exact .inr (lbR hst.size h)
  have hpi:p<=i:=by omega
  have hiq:i<=q:=by
   rcases K4 q i with h|h
   ·have hkq:kd q=.gen:=hI.fin.resolve_left (by omega)
    obtain ⟨oq,hoq,_,h3⟩:=hT q (by omega)
    rw [hkq] at h3
    have:=a1g hb hS (by simpa using ho) hready' (aj4 h3.2.2.1 hiN h)
    rw [hI.high q (lbQ _)] at this;cases this
   ·exact h
  obtain ⟨o',ho',henv,hk⟩:=hT i hiN
  have:o'=o:=by
   have:ops[i]? =some o':=by simpa using ho'
   rw [ho] at this;injection this with this;exact this.symm
  subst this
  have hreads:=fun t ht=>hI.reads hT hb hdo hdep h1 h2 ho hpi (Nat.le_of_lt hiN) hun hready' (t:=t) ht
  have hlenI:a.tmps.size=(envs i).length:=by rw [hsz,a7h hT hpi (by omega)]
  have hguard:∀j want oj d,o'.guard=some (j,want)->ops[j]? =some oj->oj.dst=some d->RS w ι M (F5 (envs i) (.tmp d)) (a.tmps.getD d undef):=fun j want oj d hg hoj hdj=>by
   refine hreads d ?_
   unfold Y9
   rw [lbz]
   refine .inr ?_
   have hoj':ops.toList[j]? =some oj:=by simpa using hoj
   rw [hg]
   simp [hoj',hdj]
  have hev:R3 w ι M (evR o' (envs i)) a:=by
   intro x
   cases x with
   |tmp t=>
    show RS w ι M (cond _ _ _) _
    cases hc:(o'.op.operands.toList.filterMap fun x=>match x with|.tmp t=>some t|_=>none).contains t with
    |true=>
     refine hreads t ?_
     unfold Y9
     rw [lbz]
     exact .inl (ax9.1 hc)
    |false=>exact .junk
   |const v=>exact RS.const v
   |global g=>exact .junk
   |func f=>exact .c (.t (.fn [] rfl (by simp)))
  by_cases hlt:i<q
  ·obtain ⟨X,hX⟩:=O1 hT (Nat.le_of_lt hlt) hI.hqn (fun k h3 h4=>hI.seg k (by omega) h4)
   cases hkd:kd i with
   |skip=>
    rw [hkd] at hk
    obtain ⟨hw,hr,_⟩:=hk
    rw [a3f hlenI hw hguard]
    simp only [a5R,if_false]
    refine ih _ _ _ p q (hI.step hT hd hsz ho hpi hlt hun hready' hdo h1 h2 (by rw [hr];exact .skip) hH hM (fun j B h3 h4 _ h5 h6=>hf j B h3 h4 h5 h6) hF hst) hu'
   |quiet B=>
    rw [hkd] at hk
    obtain ⟨hw,hqop,hB⟩:=hk
    rw [a3f hlenI hw hguard]
    simp only [if_true]
    refine .inl ?_
    have hfi:=hf i B hpi hlt hun hkd
    have hHi:j4 w ι M (hs i):=by rw [hX] at hH;exact hH.pre1
    refine hqop a w ι M hev hHi hM hfi _ _ fun v w' hp=>?_
    obtain ⟨X1,hX1⟩:=O1 hT (show i+1<=q by omega) hI.hqn (fun k h3 h4=>hI.seg k (by omega) h4)
    have hBq:∀k,k<B.length->(hs q)[(hs i).length+k]? =B[k]?:=fun k hk=>by
     rw [hX1,hB,lbD,lbc (by omega),lbb (by omega)]
     congr 1;omega
    obtain ⟨new,q1,q2,q3,q4,q5,q6⟩:=hp.insert hH hM hBq hfi
    have hext:∀id l,ι id=some l->A8 ι (hs i).length B.length new id=some l:=fun id l hl=>a7V hfi hl
    have keep:∀{s v},RS w ι M s v->RS w' (A8 ι (hs i).length B.length new) (a5d M B.length new) s v:=fun h=>h.keep (fun b hb _=>q2.keep b hb) q5 hext
    have hqlen:(hs i).length+B.length<=(hs q).length:=by rw [hX1,hB];simp
    have hH0:H0.length<=(hs i).length:=by
     obtain ⟨Z,hZ⟩:=O1 hT hpi (by omega) (fun k h3 h4=>hI.seg k h3 (by omega))
     have:=hI.h0
     rw [hZ];simp;omega
    refine ih _ _ _ p q (hI.step hT hd hsz ho hpi hlt hun hready' hdo (fun j t h3 h4 h5 h6=>keep (h1 j t h3 h4 h5 h6)) (fun t s h3 h4 h5=>keep (h2 t s h3 h4 h5)) q1 q3 q4 ?_ ?_ ?_) hu'
    ·intro j B' h3 h4 h5 h6 h7 k hk
     have hfj:=hf j B' h3 h4 h6 h7 k hk
     unfold A8
     rw [if_neg ?_,hfj]
     -- the new ids of two places are apart
     rintro ⟨r1,r2⟩
     rcases aa1 h5 with hji|hji
     ·obtain ⟨Y,hY⟩:=O1 hT (show j+1<=i by omega) (by omega) (fun k h3' h4'=>hI.seg k (by omega) (by omega))
      obtain ⟨oj,_,_,hkj⟩:=hT j (by omega)
      rw [h7] at hkj
      rw [hY,hkj.2.2] at r1
      simp at r1
      omega
     ·obtain ⟨Y,hY⟩:=O1 hT (show i+1<=j by omega) (by have:=hI.hqn;omega) (fun k h3' h4'=>hI.seg k (by omega) (by omega))
      rw [hY,hB] at r2
      simp at r2
      omega
    ·intro id hid
     unfold A8
     rw [if_neg (by omega)]
     exact hF id hid
    ·refine ⟨q2.os.trans hst.os,q2.tape.trans hst.tape,q2.output.trans hst.output,lbR hst.size q2.size,fun b hb' hl'=>(q2.keep b (a27 hb' hst.size)).trans (hst.keep b hb' hl'),?_,?_,?_,?_,hst.len⟩
     ·intro id hid
      unfold A8
      rw [if_neg (by omega)]
      exact hst.same id hid
     ·intro b hb'
      rcases q5 b hb' with h|h
      ·exact hst.mnew b h
      ·exact .inr (lbR hst.size h)
     ·intro b hb'
      rcases hst.mold b hb' with h|h
      ·exact .inl (.inl h)
      ·exact .inr h
     ·intro b hb'
      rcases q6 b hb' with h|h
      ·exact hst.live b h
      ·exact .inr (lbR hst.size h)
   |gen=>exact absurd hkd (hI.seg i hpi hlt)
  · -- a general operation: the segment before it is done
    obtain rfl:i=q:=by omega
    have hkq:kd i=.gen:=hI.fin.resolve_left (by omega)
    rw [hkq] at hk
    obtain ⟨hw,hg,hbar,hlate⟩:=hk
    rw [a3f hlenI hw hguard]
    simp only [if_true]
    refine .inl ?_
    refine hg a w ι M hev hH hM hF _ _ fun v w' hp=>?_
    obtain ⟨ι1,M1,g1,hH1,hM1,hF1,g5⟩:=hp
    have hkb:∀b,b<w.heap.size->¬M b->w'.heap[b]? =w.heap[b]?:=fun b hb hnm=>g5.keep b hb fun hl=>hnm (a1Z.inM hH hl)
    have hki:∀id l,ι id=some l->ι1 id=some l:=fun id l hl=>by
     have hlt:id<(hs i).length:=by
      rcases K4 id (hs i).length with h|h
      ·exact h
      ·rw [hF id h] at hl;cases hl
     rw [g5.same id hlt,hl]
    have keep:∀{s v},RS w ι M s v->RS w' ι1 M1 s v:=fun h=>h.keep hkb g5.mnew hki
    have hst1:=hst.trans hM0 g5
    have hlen1:(envs (i+1)).length=(envs i).length:=by rw [henv,a1K]
    obtain ⟨q',r1,r2,r3,r4⟩:=aM1 kd (i+1) ops.size (by omega)
    obtain ⟨X,hX⟩:=O1 hT r1 r2 r3
    have hdi:C1 ops i=o'.dst:=by unfold C1;rw [ho];rfl
    have henvne:∀t,o'.dst≠some t->(envs (i+1))[t]? =(envs i)[t]?:=fun t hne=>by
     rw [henv]
     cases hdd:o'.dst with
     |none=>rfl
     |some d=>
      have hdt:d≠t:=fun e=>hne (by rw [hdd,e])
      show ((envs i).set d (rs i))[t]? =_
      rw [List.getElem?_set_ne hdt]
    refine ih _ _ _ (i+1) q' ⟨r1,r2,r3,r4,hst1.len,by simpa using hsz0,fun j hj=>?_,fun j hj=>?_,?_,ι1,M1,by rw [a0z,hd],by rw [a3I,hlenI,hlen1],?_,?_,?_,hM1,?_,?_,?_⟩ hu'
    ·by_cases hji:j=i
     ·subst hji;exact .inl (a2d (by omega))
     ·cases hl:listed.getD j false with
      |true=>exact .inl (getD_set_true hl)
      |false=>
       by_cases hjl:j ∈ X0 ops.toList i
       ·have hfine:=az9 hbar hjl
        obtain ⟨oj,d,hoj,hod,hq⟩:=hlate j hjl
        have hoj':ops[j]? =some oj:=by simpa using hoj
        refine .inr ⟨⟨i,rfl,hfine⟩,oj,d,hoj',hod,?_⟩
        have hev1:evR oj (envs (i+1))=evR oj (envs i):=by
         funext x
         cases x with
         |tmp t=>
          show cond _ _ _=cond _ _ _
          cases hc:(oj.op.operands.toList.filterMap fun x=>match x with|.tmp t=>some t|_=>none).contains t with
          |false=>rfl
          |true=>
           have ht:t ∈ Y9 ops.toList oj:=by
            unfold Y9
            rw [lbz]
            exact .inl (ax9.1 hc)
           have hne:o'.dst≠some t:=fun he=>by
            have:=a3X (d:=0) hfine hoj' ht (hdi.trans he)
            omega
           show (envs (i+1)).getD t .junk=(envs i).getD t .junk
           rw [lbl,lbl,henvne t hne]
         |const v=>rfl
         |global g=>rfl
         |func f=>rfl
        have hne:o'.dst≠some d:=fun he=>hji (a2A hdo (show C1 ops j=some d by unfold C1;rw [hoj'];exact hod) (hdi.trans he))
        have hd1:F5 (envs (i+1)) (.tmp d)=F5 (envs i) (.tmp d):=by
         show (envs (i+1)).getD d .junk=(envs i).getD d .junk
         rw [lbl,lbl,henvne d hne]
        rw [hev1,hd1]
        exact hq
       ·have:=a1g hb hS (by simpa using ho) hready' (ag7 (by omega) hjl)
        rw [hl] at this;cases this
    ·rw [getD_set_ne false (by omega)];exact hI.high j (by omega)
    ·intro j oj hoj hl' e he' hb'
     rcases W0 hl' with rfl|hl'
     ·rw [ho] at hoj
      injection hoj with hoj
      subst hoj
      exact getD_set_true (hready' e he' hb')
     ·exact getD_set_true (hI.closed j oj hoj hl' e he' hb')
    ·intro j t hj hl' _ _
     rcases W0 hl' with rfl|hl'
     ·omega
     ·rw [hI.high j (by omega)] at hl';cases hl'
    ·intro t s _ hno2 hs'
     have htl:t<(envs i).length:=by rw [← hlen1];exact (lbe.1 hs').1
     by_cases hdt:o'.dst=some t
     ·have:(envs (i+1))[t]? =some (rs i):=by
       rw [henv,hdt]
       show ((envs i).set t (rs i))[t]? =_
       rw [List.getElem?_set_self htl]
      rw [this] at hs'
      injection hs' with hs'
      subst hs'
      rw [hdt]
      show RS w' ι1 M1 (rs i) ((a.tmps.setIfInBounds t v).getD t undef)
      simpa [show t<a.tmps.size by omega] using g1
     ·rw [henvne t hdt] at hs'
      have hold:RS w ι M s (a.tmps.getD t undef):=by
       by_cases hex:∃j,p<=j∧j<i∧C1 ops j=some t
       ·obtain ⟨j,h3,h4,h5⟩:=hex
        have htp:t<(envs p).length:=by rw [← a7h hT hpi (by omega)];exact htl
        rw [aQ9 hT hdo h3 h4 (by omega) h5 htp] at hs'
        injection hs' with hs'
        subst hs'
        refine h1 j t h3 ?_ h5 htp
        cases hl:listed.getD j false with
        |true=>rfl
        |false=>exact absurd h5 (hno2 j (by omega) (by rw [getD_set_ne false (by omega)];exact hl))
       ·rw [a3R hT hpi (by omega) (fun j h3 h4 h5=>hex ⟨j,h3,h4,h5⟩)] at hs'
        refine h2 t s (fun j h3 h4 h5=>?_) (fun j h3 h4 h5=>?_) hs'
        ·rcases K4 j i with h|h
         ·exact hex ⟨j,h3,h,h5⟩
         ·rw [hI.high j h] at h4;cases h4
        ·exact hno2 j (by omega) (by rw [getD_set_ne false (by omega)];exact h4) h5
      cases hdd:o'.dst with
      |none=>exact keep hold
      |some d=>
       have hdt':d≠t:=fun e=>hdt (by rw [hdd,e])
       show RS w' ι1 M1 s ((a.tmps.setIfInBounds d v).getD t undef)
       have:=keep hold
       rw [R6,Array.getElem?_setIfInBounds_ne hdt']
       rw [R6] at this
       exact this
    ·rw [hX];exact hH1.extend hF1
    ·intro j B h3 h4 _ _ k hk
     obtain ⟨Y,hY⟩:=O1 hT h3 (by omega) (fun k h3' h4'=>r3 k h3' (by omega))
     exact hF1 _ (by rw [hY];simp;omega)
    ·intro id hid
     exact hF1 id (by rw [hX] at hid;simp at hid;omega)
    ·refine ⟨hst1.os,hst1.tape,hst1.output,hst1.size,hst1.keep,hst1.same,hst1.mnew,hst1.mold,?_,by rw [hX];have:=hst1.len;simp;omega⟩
     rintro b ⟨id,k,cap,size,hk,hm,hi'⟩
     have hid:id<(hs (i+1)).length:=by
      rcases K4 id (hs (i+1)).length with h|h
      ·exact h
      ·rw [hF1 id h] at hi';cases hi'
     rw [hX,lbb hid] at hk
     exact hst1.live b ⟨id,k,cap,size,hk,hm,hi'⟩
end
theorem a8x {P:Program} {τ:Tab} (hτ:B2 P τ) {ops:Array Oper} {Q:Exit->Act->World->Prop} {K:Env->Hp->Prop} {w0:World} {ι0:Io} {M0:Ms} {H0:Hp} (hM0:MB w0 M0)
 (hK:∀env H a w,K env H->Sim w0 ι0 M0 H0 a w env H->Q .normal a w) {env:Env} {H:Hp} {a:Act} {w:World}
 (hr:a8z ops.toList=true) (h:a7n P τ ops.toList true 0 ops.toList env H K) (hs:Sim w0 ι0 M0 H0 a w env H):wpAny P .any ops Q ops.size (Array.replicate ops.size false) a { w with drawn:=w.drawn+1 }:=by
 simp only [a8z,lbM] at hr
 obtain ⟨⟨hb,hdo⟩,hdep⟩:=hr
 obtain ⟨envs,hps,rs,kd,h1,h2,h3,h4⟩:=a9J hτ ops.toList 0 env H rfl h
 have hT:∀j,j<ops.size->aC8 P ops.toList envs hps rs kd j:=fun j hj=>h4 j (B9 _) (by simpa using hj)
 obtain ⟨q,q1,q2,q3,q4⟩:=aM1 kd 0 ops.size (B9 _)
 obtain ⟨X,hX⟩:=O1 hT q1 q2 q3
 obtain ⟨ι,M,hd,hsz,he,hH,hM,hF,hst⟩:=hs
 have hnone:∀j,(Array.replicate ops.size false).getD j false=false:=fun j=>by
  by_cases hj:j<ops.size
  ·simp [hj]
  ·simp [hj]
 refine b3w hM0 hT hb hdo hdep (fun a w hs=>hK _ _ a w (by simpa using h3) hs) ops.size _ a _ 0 q ?_ ?_
 ·refine ⟨q1,q2,q3,q4,by rw [h2];exact hst.len,by simp,fun j hj=>by omega,fun j _=>hnone j,(fun i o _ hl=>absurd hl (by rw [hnone i];simp)),⟨ι,M,hd,by rw [h1];exact hsz,(fun i t _ hl=>absurd hl (by rw [hnone i];simp)),?_,?_,hM,?_,?_,?_⟩⟩
  ·intro t s _ _ ht
   rw [h1] at ht
   exact (he t s ht).keep (w:=w) (w':={ w with drawn:=w.drawn+1 }) (fun _ _ _=>rfl) (fun b h=>.inl h) (fun _ _ h=>h)
  ·rw [hX,h2]
   have:=j4.extend (X:=X) hH hF
   exact ⟨fun id k hk hd l hl=>by
    have hb:=this.blk id k hk hd l hl
    cases l with
    |nil=>exact hb
    |blk b cap size=>
     obtain ⟨r1,r2,r3,r4,r5,cur,r6,r7,r8⟩:=hb
     exact ⟨r1,r2,r3,r4,r5,cur,r6,r7,fun i j c hc=>by
      obtain ⟨u,s1,s2⟩:=r8 i j c hc
      exact ⟨u,s1,s2.keep (w:=w) (w':={ w with drawn:=w.drawn+1 }) (fun _ _ _=>rfl) (fun b h=>.inl h) (fun _ _ h=>h)⟩⟩,this.liv,this.fro,this.inj,this.old⟩
  ·intro i B _ hi _ hk k hkB
   obtain ⟨Y,hY⟩:=O1 hT (B9 i) (by omega) (fun k h1 h2=>q3 k h1 (by omega))
   exact hF _ (by rw [hY,h2];simp;omega)
  ·intro id hid
   exact hF id (by rw [hX,h2] at hid;simp at hid;omega)
  ·rw [hX,h2]
   refine ⟨hst.os,hst.tape,hst.output,hst.size,hst.keep,hst.same,hst.mnew,hst.mold,?_,by have:=hst.len;simp;omega⟩
   rintro b ⟨id,k,cap,size,hk,hm,hi⟩
   have hid:id<H.length:=by
    rcases K4 id H.length with h|h
    ·exact h
    ·rw [hF id h] at hi;cases hi
   rw [lbb hid] at hk
   exact hst.live b ⟨id,k,cap,size,hk,hm,hi⟩
 ·unfold unl
  have:=lbt (fun j=>!(Array.replicate ops.size false).getD j false) (List.range ops.size)
  simpa using this
end
section
open Go.RowKit
def a6V (i:Nat):List Nat->Nat
 |[]=>0
 |x::r=>cond (Nat.beq x i) 0 (a6V i r+1)
def a5w (π:List Nat) (o:Oper):Oper:={ o with after:=(o.after.toList.map fun e=>{ e with on:=a6V e.on π }).toArray,guard:=o.guard.map fun g=>(a6V g.1 π,g.2) }
def T5 (π:List Nat) (ops:List Oper):List Oper:=π.filterMap fun i=>(ops[i]?).map (a5w π)
def as6 (π:List Nat) (n:Nat):Bool:=Nat.beq π.length n && π.all (fun i=>Nat.blt i n) && (List.range n).all (fun p=>match π[p]? with|some i=>Nat.beq (a6V i π) p|none=>false) && (List.range n).all (fun i=>match π[a6V i π]? with|some j=>Nat.beq j i|none=>false)
def a6Z (o:Option (List Nat)) (ops:List Oper):List Oper:=match o with
 |none=>ops
 |some π=>T5 π ops
def b09 (o:Option (List Nat)) (n:Nat):Bool:=match o with
 |none=>true
 |some π=>as6 π n
structure b29 (ops:List Oper) (K:List Oper->Prop):Prop where
 out:∃o,b09 o ops.length=true∧a8z (a6Z o ops)=true∧K (a6Z o ops)
structure a3n (π:List Nat) (n:Nat):Prop where
 len:π.length=n
 lt:∀p i:Nat,π[p]? =some i->i<n
 pos:∀i:Nat,i<n->π[a6V i π]? =some i
 inv:∀p i:Nat,π[p]? =some i->a6V i π=p
theorem aG0 {π:List Nat} {n:Nat} (h:as6 π n=true):a3n π n:=by
 unfold as6 at h
 simp only [lbM] at h
 obtain ⟨⟨⟨h1,h2⟩,h3⟩,h4⟩:=h
 have hl:=a0H h1
 refine ⟨hl,fun p i hp=>?_,fun i hi=>?_,fun p i hp=>?_⟩
 ·have:=lbv.1 h2 i (lbm hp)
  simpa using this
 ·have:=lbv.1 h4 i (lbB.2 hi)
  split at this
  ·rename_i j hj
   rw [hj,a0H this]
  ·cases this
 ·have hlt:=(lbe.1 hp).1
  have:=lbv.1 h3 p (lbB.2 (by omega))
  rw [hp] at this
  exact a0H this
theorem aw6 {i:Nat}:∀{π:List Nat},i ∉ π->a6V i π=π.length
 |[],_=>rfl
 |x::r,h=>by
  unfold a6V
  have h1:Nat.beq x i=false:=by
   cases hb:Nat.beq x i with
   |false=>rfl
   |true=>exact absurd (by rw [a0H hb];simp) h
  rw [h1,cond_false,aw6 (fun hm=>h (by simp [hm]))];rfl
theorem a4Z {α β:Type} {f:α->Option β}:∀{l:List α},(∀ x ∈ l,(f x).isSome=true)->∀p:Nat,(l.filterMap f)[p]? =(l[p]?).bind f
 |[],_,p=>by simp
 |x::r,h,p=>by
  obtain ⟨y,hy⟩:=aB3.1 (h x (by simp))
  rw [List.filterMap_cons_some hy]
  cases p with
  |zero=>simp [hy]
  |succ p=>simpa using a4Z (fun x hx=>h x (by simp [hx])) p
theorem a5f {α β:Type} {f:α->Option β}:∀{l:List α},(∀ x ∈ l,(f x).isSome=true)->(l.filterMap f).length=l.length
 |[],_=>rfl
 |x::r,h=>by
  obtain ⟨y,hy⟩:=aB3.1 (h x (by simp))
  rw [List.filterMap_cons_some hy,lbu,lbu,a5f fun x hx=>h x (by simp [hx])]
theorem aI1 {π:List Nat} {ops:List Oper} (hP:a3n π ops.length) {p i:Nat} (hp:π[p]? =some i):(T5 π ops)[p]? =(ops[i]?).map (a5w π):=by
 unfold T5
 rw [a4Z (fun x hx=>?_),hp]
 ·rfl
 ·obtain ⟨q,hq⟩:=List.getElem?_of_mem hx
  have:=hP.lt q x hq
  rw [lbf this];rfl
theorem a6x {π:List Nat} {ops:List Oper} (hP:a3n π ops.length):(T5 π ops).length=ops.length:=by
 rw [← hP.len]
 unfold T5
 refine a5f fun x hx=>?_
 obtain ⟨q,hq⟩:=List.getElem?_of_mem hx
 have:=hP.lt q x hq
 rw [lbf this];rfl
section
variable {P:Program} {Q:Exit->Act->World->Prop} {md:Region.Mode} {π:List Nat} {ops ops':Array Oper}
structure aC7 (π:List Nat) (n:Nat) (listed listed':Array Bool):Prop where
 s:listed.size=n
 s':listed'.size=n
 eq:∀p i:Nat,π[p]? =some i->listed'.getD p false=listed.getD i false
theorem b4B {n p i:Nat} (hP:a3n π n) {listed listed':Array Bool} (h:aC7 π n listed listed') (hp:π[p]? =some i):aC7 π n (listed.setIfInBounds i true) (listed'.setIfInBounds p true):=by
 refine ⟨by simp [h.s],by simp [h.s'],fun q j hq=>?_⟩
 have h1:=hP.lt p i hp
 have h2:=hP.lt q j hq
 have h3:p<n:=by rw [← hP.len];exact (lbe.1 hp).1
 have h4:q<n:=by rw [← hP.len];exact (lbe.1 hq).1
 have he:=h.eq q j hq
 by_cases hqp:q=p
 ·subst hqp
  rw [hp] at hq
  injection hq with hq
  subst hq
  simp [h.s,h.s',h1,h3]
 ·have hji:j≠i:=fun e=>by
   subst e
   have a:=hP.inv p j hp
   have b:=hP.inv q j hq
   omega
  rw [R6] at he ⊢
  rw [R6] at he ⊢
  rw [Array.getElem?_setIfInBounds_ne (Ne.symm hqp),Array.getElem?_setIfInBounds_ne (Ne.symm hji)]
  exact he
theorem a5N (hP:a3n π ops.size) (ho:ops'.toList=T5 π ops.toList) {listed listed':Array Bool} (h:aC7 π ops.size listed listed') {p i:Nat} (hp:π[p]? =some i):
 p ∈ Region.ready md ops' listed'↔i ∈ Region.ready md ops listed:=by
 have hP':a3n π ops.toList.length:=by simpa using hP
 have hlen:ops'.size=ops.size:=by
  have:=congrArg List.length ho
  rw [a6x hP'] at this
  simpa using this
 have hi:=hP.lt p i hp
 have hpn:p<ops.size:=by rw [← hP.len];exact (lbe.1 hp).1
 have hop:ops'[p]? =(ops[i]?).map (a5w π):=by
  have:=aI1 hP' hp
  rw [← ho] at this
  simpa using this
 have hoi:ops[i]? =some ops[i]:=Array.getElem?_eq_getElem hi
 have hl:=h.eq p i hp
 have hD:∀(l:Array Bool) (j:Nat),j<l.size->l.getD j true=l.getD j false:=fun l j hj=>by simp [hj]
 unfold Region.ready
 rw [lby,lby,lbB,lbB,hop,hoi]
 simp only [V5,ad9]
 rw [hD listed i (by rw [h.s];exact hi),hD listed' p (by rw [h.s'];exact hpn),hl,hlen]
 have e:(a5w π ops[i]).after.all (fun e=>!Region.binds md e || listed'.getD e.on false)=ops[i].after.all (fun e=>!Region.binds md e || listed.getD e.on false):=by
  rw [← Array.all_toList,←Array.all_toList]
  show ((ops[i].after.toList.map fun e=>({ e with on:=a6V e.on π }:Edge)).toArray.toList).all _=_
  rw [List.all_map]
  congr 1
  funext e
  show (!Region.binds md { e with on:=a6V e.on π } || listed'.getD (a6V e.on π) false)=_
  have hb:Region.binds md { e with on:=a6V e.on π }=Region.binds md e:=rfl
  rw [hb]
  congr 1
  by_cases hn:e.on<ops.size
  ·exact h.eq _ _ (hP.pos _ hn)
  ·have hm:e.on ∉ π:=fun hm=>by
    obtain ⟨q,hq⟩:=List.getElem?_of_mem hm
    exact hn (hP.lt q _ hq)
   rw [aw6 hm,hP.len]
   simp [h.s,h.s',hn]
 rw [e]
 simp [hi,hpn]
theorem b2i (hP:a3n π ops.size) (ho:ops'.toList=T5 π ops.toList) {p i:Nat} (hp:π[p]? =some i) {K K':Act->World->Prop} (hK:∀a w,K' a w->K a w) {a:Act} {w:World} (h:wpOp P ops' Q p K' a w):wpOp P ops Q i K a w:=by
 have hP':a3n π ops.toList.length:=by simpa using hP
 have hi:=hP.lt p i hp
 have hget:∀q j,π[q]? =some j->ops'[q]? =(ops[j]?).map (a5w π):=fun q j hq=>by
  have:=aI1 hP' hq
  rw [← ho] at this
  simpa using this
 have hlen:ops'.size=ops.size:=by
  have:=congrArg List.length ho
  rw [a6x hP'] at this
  simpa using this
 have hoi:ops[i]? =some ops[i]:=Array.getElem?_eq_getElem hi
 have hy:∀j,yielded ops' a.tmps (a6V j π)=yielded ops a.tmps j:=fun j=>by
  unfold yielded
  by_cases hn:j<ops.size
  ·rw [hget _ _ (hP.pos j hn),Array.getElem?_eq_getElem hn];rfl
  ·have hm:j ∉ π:=fun hm=>by
    obtain ⟨q,hq⟩:=List.getElem?_of_mem hm
    exact hn (hP.lt q _ hq)
   rw [aw6 hm,hP.len,Array.getElem?_eq_none (by omega),Array.getElem?_eq_none (by omega)]
 have hw:Region.wanted (a5w π ops[i]) (yielded ops' a.tmps)=Region.wanted ops[i] (yielded ops a.tmps):=by
  unfold Region.wanted a5w
  cases ops[i].guard with
  |none=>rfl
  |some g=>simp only [V5];rw [hy]
 have h2:wpOp P ops Q i K' a w:=by
  unfold wpOp at h ⊢
  rw [hget p i hp,hoi] at h
  rw [hoi]
  simp only [V5] at h
  rw [hw] at h
  exact h
 exact wpOp_mono hK h2
theorem aP4 (hP:a3n π ops.size) (ho:ops'.toList=T5 π ops.toList):∀(fuel:Nat) (listed listed':Array Bool) (a:Act) (w:World),aC7 π ops.size listed listed'->wpAny P md ops' Q fuel listed' a w->wpAny P md ops Q fuel listed a w:=by
 have hP':a3n π ops.toList.length:=by simpa using hP
 have hlen:ops'.size=ops.size:=by
  have:=congrArg List.length ho
  rw [a6x hP'] at this
  simpa using this
 have hnil:∀listed listed',aC7 π ops.size listed listed'->(Region.ready md ops' listed'=[]↔Region.ready md ops listed=[]):=fun listed listed' h=>by
  constructor
  ·intro he
   cases hr:Region.ready md ops listed with
   |nil=>rfl
   |cons i r=>
    have hm:i ∈ Region.ready md ops listed:=by rw [hr];simp
    have hi:i<ops.size:=by unfold Region.ready at hm;exact lbB.1 (lby.1 hm).1
    have:=(a5N hP ho h (hP.pos i hi)).2 hm
    rw [he] at this;cases this
  ·intro he
   cases hr:Region.ready md ops' listed' with
   |nil=>rfl
   |cons p r=>
    have hm:p ∈ Region.ready md ops' listed':=by rw [hr];simp
    have hpn:p<ops'.size:=by unfold Region.ready at hm;exact lbB.1 (lby.1 hm).1
    have:=(a5N hP ho h (lbf (by rw [hP.len];omega))).1 hm
    rw [he] at this;cases this
 intro fuel
 induction fuel with
 |zero=>intro listed listed' a w h hh;exact ⟨(hnil _ _ h).1 hh.1,hh.2⟩
 |succ fuel ih=>
  intro listed listed' a w h hh
  refine ⟨fun he=>hh.1 ((hnil _ _ h).2 he),fun i hi=>?_⟩
  have hin:i<ops.size:=by unfold Region.ready at hi;exact lbB.1 (lby.1 hi).1
  have hp:=hP.pos i hin
  exact b2i hP ho hp (fun a w hk=>ih _ _ a w (b4B hP h hp) hk) (hh.2 _ ((a5N hP ho h hp).2 hi))
end
theorem aY6 {P:Program} {τ:Tab} (hτ:B2 P τ) {ops:Array Oper} {Q:Exit->Act->World->Prop} {K:Env->Hp->Prop} {w0:World} {ι0:Io} {M0:Ms} {H0:Hp} (hM0:MB w0 M0)
 (hK:∀env H a w,K env H->Sim w0 ι0 M0 H0 a w env H->Q .normal a w) {env:Env} {H:Hp} {a:Act} {w:World} {id:Nat} {o:Option (List Nat)}
 (ho:b09 o ops.toList.length=true) (hr:a8z (a6Z o ops.toList)=true) (h:a7n P τ (a6Z o ops.toList) true 0 (a6Z o ops.toList) env H K) (hs:Sim w0 ι0 M0 H0 a w env H):(Code.region id ops true).wp P Q a w:=by
 refine wp_region_any hτ.mixed ?_
 cases o with
 |none=>exact a8x hτ hM0 hK hr h hs
 |some π=>
  have hP:a3n π ops.toList.length:=aG0 ho
  have hP2:a3n π ops.size:=by simpa using hP
  have h1:=a8x (ops:=(T5 π ops.toList).toArray) hτ hM0 hK hr h hs
  have hl:(T5 π ops.toList).toArray.size=ops.size:=by simp [a6x hP]
  rw [hl] at h1
  exact aP4 hP2 rfl _ _ _ _ _ ⟨by simp,by simp,fun p i hp=>by
   have a1:=hP2.lt p i hp
   have a2:p<ops.size:=by rw [← hP2.len];exact (lbe.1 hp).1
   simp [a1,a2]⟩ h1
end
section
open Go.RowKit
inductive AX where
 |normal
 |exit (id:Nat)
 |ret
def AX.real:AX->Exit
 |.normal=>.normal
 |.exit id=>.exit id
 |.ret=>.ret
structure Awp (P:Program) (n0:Nat) (c:Code) (env:Env) (H:Hp) (Q:AX->Env->Hp->Prop):Prop where
 out:∀(w0:World) (ι0:Io) (M0:Ms) (H0:Hp) (a:Act) (w:World),H0.length=n0->MB w0 M0->Sim w0 ι0 M0 H0 a w env H->
  c.wp P (fun e a' w'=>∃x env' H',e=AX.real x∧Q x env' H'∧Sim w0 ι0 M0 H0 a' w' env' H') a w
abbrev AQ:=AX->Env->Hp->Prop
abbrev AC:=Env->Hp->AQ->Prop
def b4U:AC:=fun env H Q=>Q .normal env H
noncomputable def b3a (P:Program) (τ:Tab) (_:Nat) (ops:Array Oper) (draw:Bool):AC:=fun env H Q=>match draw with
 |true=>b29 ops.toList fun ops=>a7n P τ ops true 0 ops env H (Q .normal)
 |false=>a7n P τ ops.toList false 0 ops.toList env H (Q .normal)
def b9b (b:AC) (Q:AQ):AQ:=fun x env' H'=>match x with
    |.normal=>b env' H' Q
    |.exit j=>Q (.exit j) env' H'
    |.ret=>Q .ret env' H'
def b9A (_ _:Code) (a b:AC):AC:=fun env H Q=>a env H (b9b b Q)
def b94 (c:Operand) (_ _:Code) (t e:AC):AC:=fun env H Q=>match F5 env c with
    |.c (.t (.atm (.bool b)))=>cond b (t env H Q) (e env H Q)
    |_=>False
def b9k (id:Nat) (Q:AQ):AQ:=fun x env' H'=>match x with
    |.exit j=>cond (Nat.beq j id) (Q .normal env' H') (Q (.exit j) env' H')
    |.normal=>Q .normal env' H'
    |.ret=>Q .ret env' H'
def b6T (id:Nat) (_:Code) (b:AC):AC:=fun env H Q=>b env H (b9k id Q)
def b8c (P:Program) (n0:Nat) (c:Code) (_:AC):AC:=fun env H Q=>Awp P n0 (.loop c) env H Q
def b7X (id:Nat):AC:=fun env H Q=>Q (.exit id) env H
def b9H:AC:=fun env H Q=>Q .ret env H
def b6U:AC:=fun _ _ _=>False
noncomputable def a0w (P:Program) (τ:Tab) (n0:Nat) (c:Code):Env->Hp->(AX->Env->Hp->Prop)->Prop:=
 Code.rec (motive:=fun _=>AC) b4U (b3a P τ) b9A b94 b6T (b8c P n0) (fun _ _ _ _ _ _=>b6U) b7X (fun _ _=>b6U) (fun _=>b4U) (fun _=>b6U) b9H (fun _=>b6U) c
theorem k8 {P:Program} {τ:Tab} {n0:Nat} (hτ:B2 P τ) (c:Code):∀{env:Env} {H:Hp} {Q:AX->Env->Hp->Prop},a0w P τ n0 c env H Q->Awp P n0 c env H Q:=by
 induction c with
 |skip=>intro env H Q h;refine ⟨fun w0 ι0 M0 H0 a w hn hM hs=>?_⟩;exact wp_skip ⟨.normal,env,H,rfl,h,hs⟩
 |region id ops draw=>
  intro env H Q h
  refine ⟨fun w0 ι0 M0 H0 a w hn hM hs=>?_⟩
  cases draw with
  |false=>
   refine wp_region ?_
   have:=b4V hτ hM (Q:=fun e a' w'=>∃x env' H',e=AX.real x∧Q x env' H'∧Sim w0 ι0 M0 H0 a' w' env' H') (K:=Q .normal)
    (fun env H a w hk hs=>⟨.normal,env,H,rfl,hk,hs⟩) ops.toList 0 env H a w rfl h hs
   rw [List.range_eq_range']
   simpa using this
  |true=>
   have h:b29 ops.toList fun ops=>a7n P τ ops true 0 ops env H (Q .normal):=h
   obtain ⟨π,h1,h2,h3⟩:=h.out
   exact aY6 hτ hM (fun env H a w hk hs=>⟨.normal,env,H,rfl,hk,hs⟩) h1 h2 h3 hs
 |seq x y ihx ihy=>
  intro env H Q h
  refine ⟨fun w0 ι0 M0 H0 a w hn hM hs=>?_⟩
  refine wp_seq (wp_mono ((ihx h).out w0 ι0 M0 H0 a w hn hM hs) ?_)
  rintro e a' w' ⟨x,env',H',rfl,hq,hs'⟩
  cases x with
  |normal=>exact (ihy hq).out w0 ι0 M0 H0 a' w' hn hM hs'
  |exit id=>exact ⟨_,env',H',rfl,hq,hs'⟩
  |ret=>exact ⟨_,env',H',rfl,hq,hs'⟩
 |cond c t e iht ihe=>
  intro env H Q h
  refine ⟨fun w0 ι0 M0 H0 a w hn hM hs=>?_⟩
  have h:(match F5 env c with
   |.c (.t (.atm (.bool b)))=>cond b (a0w P τ n0 t env H Q) (a0w P τ n0 e env H Q)
   |_=>False):=h
  split at h
  ·rename_i b hb
   obtain ⟨ι,M,hd,hsz,he,hH,hMB,hF,hst⟩:=hs
   have hv:=(he.ev.to hb).inv_atm
   have hs:Sim w0 ι0 M0 H0 a w env H:=⟨ι,M,hd,hsz,he,hH,hMB,hF,hst⟩
   refine wp_cond hv ?_
   cases b with
   |true=>exact (iht h).out w0 ι0 M0 H0 a w hn hM hs
   |false=>exact (ihe h).out w0 ι0 M0 H0 a w hn hM hs
  ·exact h.elim
 |block id c ih=>
  intro env H Q h
  refine ⟨fun w0 ι0 M0 H0 a w hn hM hs=>?_⟩
  refine wp_block (wp_mono ((ih h).out w0 ι0 M0 H0 a w hn hM hs) ?_)
  rintro e a' w' ⟨x,env',H',rfl,hq,hs'⟩
  cases x with
  |normal=>exact ⟨_,env',H',rfl,hq,hs'⟩
  |exit j=>
   have hq:cond (Nat.beq j id) (Q .normal env' H') (Q (.exit j) env' H'):=hq
   show if j=id then _ else _
   by_cases hj:j=id
   ·subst hj
    rw [if_pos rfl]
    simp only [a9V,cond_true] at hq
    exact ⟨_,env',H',rfl,hq,hs'⟩
   ·rw [if_neg hj]
    have:Nat.beq j id=false:=by
     cases hb:Nat.beq j id with
     |false=>rfl
     |true=>exact absurd (a0H hb) hj
    simp only [this,cond_false] at hq
    exact ⟨_,env',H',rfl,hq,hs'⟩
  |ret=>exact ⟨_,env',H',rfl,hq,hs'⟩
 |loop c ih=>intro env H Q h;exact h
 |exit id=>intro env H Q h;refine ⟨fun w0 ι0 M0 H0 a w hn hM hs=>?_⟩;exact wp_exit ⟨.exit id,env,H,rfl,h,hs⟩
 |ret=>intro env H Q h;refine ⟨fun w0 ι0 M0 H0 a w hn hM hs=>?_⟩;exact wp_ret ⟨.ret,env,H,rfl,h,hs⟩
 |label l=>intro env H Q h;refine ⟨fun w0 ι0 M0 H0 a w hn hM hs=>?_⟩;exact wp_label ⟨.normal,env,H,rfl,h,hs⟩
 |_=>intros;rename_i h;exact False.elim h
def b21 (τ:Tab) (env:Env) (H:Hp):List ResultVar->(List S->Prop)->Prop
 |[],k=>k []
 |.tmp t::r,k=>ae5 (F5 env (.tmp t)) fun s=>b21 τ env H r fun l=>k (s::l)
 |.cell x t::r,k=>ao9 τ (F5 env) H t (.tmp x) fun s=>b21 τ env H r fun l=>k (s::l)
def a6O (τ:Tab) (fn:Func) (env:Env) (H:Hp) (k:S->Prop):Prop:=
 b21 τ env H fn.results.toList fun l=>match l with
  |[s]=>k s
  |l=>k (.tup l)
theorem Sim.init {w:World} {ι:Io} {M:Ms} {H:Hp} {vals:List Value} {args:List S} (hl:vals.length=args.length) (hr:∀j s,args[j]? =some s->RS w ι M s (vals.getD j undef))
 (hH:j4 w ι M H) (hM:MB w M) (hF:a0R ι H.length) (n:Nat):
 Sim w ι M H { tmps:=vals.toArray++Array.replicate n undef,defers:=[] } w (args++List.replicate n .junk) H:=by
 refine ⟨ι,M,rfl,by simp [hl],fun t s ht=>?_,hH,hM,hF,a3v.refl w ι M H⟩
 by_cases h:t<args.length
 ·rw [lbb h] at ht
  have:=hr t s ht
  have hlt:t<vals.length:=by omega
  rw [lbl,lbf hlt] at this
  rw [R6,Array.getElem?_append_left (by simpa using hlt)]
  simpa [hlt] using this
 ·rw [lbc (by omega),lbk] at ht
  split at ht
  ·injection ht with ht;subst ht;exact .junk
  ·cases ht
theorem a63 {P:Program} {τ:Tab} (hτ:B2 P τ) {w:World} {ι:Io} {M:Ms} {env:Env} {H:Hp} {a:Act} (he:a2X w ι M env a) (hH:j4 w ι M H):∀(rs:List ResultVar) {k:List S->Prop},b21 τ env H rs k->
 ∃l,k l∧∃vs:List Value,(rs.mapM fun|.tmp t=>pure (a.tmps.getD t undef)|.cell x t=>do loadVar t (← asAddr (a.tmps.getD x undef)):Sem (List Value)).run P w=.ok vs w∧vs.length=l.length∧
  ∀(j:Nat) (s:S),l[j]? =some s->RS w ι M s (vs.getD j undef)
 |[],k,h=>⟨[],h,[],by simp,rfl,by simp⟩
 |.tmp t::r,k,h=>by
  simp only [b21] at h
  rw [a1x] at h
  obtain ⟨l,hk,vs,h1,h2,h3⟩:=a63 hτ he hH r h
  refine ⟨_,hk,a.tmps.getD t undef::vs,?_,by simp [h2],fun j s hj=>?_⟩
  ·simp only [List.mapM_cons,Sem.run_bind,Sem.run_pure,Result.andThen_ok,h1]
  ·cases j with
   |zero=>simp at hj;subst hj;exact he.ev (.tmp t)
   |succ j=>simpa using h3 j s (by simpa using hj)
 |.cell x t::r,k,h=>by
  simp only [b21] at h
  obtain ⟨s,hs,hv⟩:=al1 hτ h
  obtain ⟨v,ad,g0,g1,g2⟩:=hv a w ι M he.ev hH
  obtain ⟨l,hk,vs,h1,h2,h3⟩:=a63 hτ he hH r hs
  have g0':a.tmps.getD x undef=.pointer (some ad):=g0
  have e:(do loadVar t (← asAddr (a.tmps.getD x undef)):Sem Value).run P w=.ok v w:=by
   rw [g0] at g1
   rw [g0']
   simpa [asAddr,Instr.loadAt,Instr.sureAddr] using g1
  refine ⟨_,hk,v::vs,?_,by simp [h2],fun j s hj=>?_⟩
  ·simp only [List.mapM_cons,Sem.run_bind,Sem.run_pure,Result.andThen_ok] at e ⊢
   rw [e]
   simp only [Result.andThen_ok,h1]
  ·cases j with
   |zero=>simp at hj;subst hj;exact g2
   |succ j=>simpa using h3 j s (by simpa using hj)
end
section
open Go.RowKit
def b83 (P:Program) (t:TypeId):Option TK:=
 match P.underlying t with
 |some .bool=>some .bool
 |some (.int k)=>some (.int k)
 |some (.slice e)=>some (.slice e)
 |some (.array n e)=>some (.arr n e)
 |some (.struct fs)=>cond (fs.toList.all fun f=>(P.info? f.type).isSome) (some (.struct (fs.toList.map fun f=>(f.offset,P.cellsOf f.type,false)))) none
 |some _=>some .bas
 |none=>none
def b9I:TK->Bool
 |.arr _ _=>true
 |.struct _=>true
 |_=>false
theorem ar4 {P:Program}:∀(fs:List Field),(fs.all fun f=>(P.info? f.type).isSome)=true->
 fs.mapM (fun f=>(P.info? f.type).map fun i=>(f.offset,i.size))=some ((fs.map fun f=>(f.offset,P.cellsOf f.type,false)).map (fun x=>(x.1,x.2.1)))
 |[],_=>rfl
 |f::fs,h=>by
  simp only [List.all_cons,lbM] at h
  obtain ⟨i,hi⟩:=aB3.1 h.1
  have ih:=ar4 fs h.2
  have hc:P.cellsOf f.type=i.size:=by simp [Program.cellsOf,hi]
  simp only [List.mapM_cons,hi,ih,a9L,hc,V5]
  rfl
theorem b9y {P:Program} {t:TypeId} {d:TD} (h1:b83 P t=some d.k) (h2:d.agg=b9I d.k)
 (h3:(P.info? t).map (fun i=>(i.zero.map (·.cells.toList),i.size,i.bytes))=some (some d.zero,d.size,d.bytes)) (h4:d.zero.all (·.oneCell')=true) (h5:d.zero.length=d.size):at6 P t d:=by
 constructor
 ·cases hi:P.info? t with
  |none=>rw [hi] at h3;cases h3
  |some i=>
   rw [hi] at h3
   simp only [V5,lb3,Prod.mk.injEq] at h3
   cases hz:i.zero with
   |none=>rw [hz] at h3;cases h3.1
   |some z=>
    rw [hz] at h3
    simp only [V5,lb3] at h3
    exact ⟨i,rfl,h3.2.1,h3.2.2,z,hz,h3.1,fun v hv=>lbv.1 h4 v hv,h5⟩
 ·unfold b83 at h1
  cases hu:P.underlying t with
  |none=>rw [hu] at h1;cases h1
  |some u=>
   rw [hu] at h1
   refine ⟨u,rfl,?_⟩
   rw [h2]
   cases u with
   |struct fs=>
    simp only at h1
    cases hb:(fs.toList.all fun f=>(P.info? f.type).isSome) with
    |false=>rw [hb] at h1;cases h1
    |true=>
     rw [hb] at h1
     simp only [cond_true,lb3] at h1
     rw [← h1]
     refine ⟨rfl,fs,rfl,?_,fun f hf=>lbv.1 hb f hf,ar4 _ hb⟩
     simp
   |_=>simp only [lb3] at h1<;>rw [← h1]<;>exact ⟨rfl,by first|trivial|rfl⟩
def b10 (P:Program):Nat->List (Option TD)->Prop
 |_,[]=>True
 |t,none::r=>b10 P (t+1) r
 |t,some d::r=>at6 P t d∧b10 P (t+1) r
theorem a8b {P:Program}:∀(l:List (Option TD)) (t0:Nat),b10 P t0 l->∀i d,l.getD i none=some d->at6 P (t0+i) d
 |[],_,_,i,d,h=>by simp at h
 |none::r,t0,hr,i,d,h=>by
  cases i with
  |zero=>simp at h
  |succ i=>have:=a8b r (t0+1) hr i d (by simpa using h);rwa [show t0+1+i=t0+(i+1) by omega] at this
 |some e::r,t0,hr,i,d,h=>by
  cases i with
  |zero=>simp at h;subst h;exact hr.1
  |succ i=>have:=a8b r (t0+1) hr.2 i d (by simpa using h);rwa [show t0+1+i=t0+(i+1) by omega] at this
theorem b5h {P:Program} {l:List (Option TD)} (hm:P.follows .mixedOrders=true) (h:b10 P 0 l):B2 P (fun t=>l.getD t none):=⟨hm,fun t d hd=>by
 have:=a8b l 0 h t d hd
 rwa [D8] at this⟩
end
section
open Go.RowKit
def a41:T->T->T
 |.sl s .any _,.sl s0 k r=>match k with
  |.nil=>.sl s .any []
  |_=>.sl s0 .any r
 |_,x=>x
theorem RT.weak {w:World} {M:Ms} {x y:T} {v:Value} (h:a41 y x=y) (hr:RT w M x v):RT w M y v:=by
 unfold a41 at h
 split at h
 ·split at h
  ·rw [← h]
   cases hr with
   |sl f hrow hcap hmax hk hn hA hc hr=>
    obtain ⟨rfl,rfl,rfl⟩:=hn rfl
    exact .sl (b:=0) (off:=0) (fun _ _=>undef) (by simp) hcap hmax (by intro h;cases h) (by intro h;cases h) (by simp) (by simp [at2]) (by simp [at2])
  ·rw [← h]
   cases hr with
   |sl f hrow hcap hmax hk hn hA hc hr=>exact .sl f hrow hcap hmax (by intro h;cases h) (by intro h;cases h) hA hc hr
 ·rw [← h];exact hr
theorem W5 (x:T):a41 x x=x:=by
 cases x with
 |sl s k r=>cases k<;>rfl
 |_=>rfl
theorem b0w {x y:T} (h:x=y):a41 y x=y:=by subst h;exact W5 x
mutual
def VC (H:Hp) (p:Nat->Prop):C->T->Prop
 |.t x,y=>a41 y x=y
 |.ptr id r o,y=>match y with
  |.ptr cells=>p id∧∃k row,H[id]? =some k∧¬k.mode.gone∧k.rows[r]? =some row∧row.drop o=cells.map C.t
  |_=>False
 |.own id lo len _,y=>match y with
  |.sl size .any rows=>p id∧∃k,H[id]? =some k∧¬k.mode.gone∧k.size=size∧lo+len<=k.rows.length∧(k.rows.drop lo).take len=toC rows
  |_=>False
 |.fn f caps,y=>match y with
  |.fn f' caps'=>f=f'∧VL H p caps caps'
  |_=>False
def VL (H:Hp) (p:Nat->Prop):List C->List T->Prop
 |[],ys=>ys=[]
 |x::r,ys=>match ys with
  |[]=>False
  |y::r'=>VC H p x y∧VL H p r r'
end
theorem b8v {rows:List (List T)} {i j:Nat} {c:T} (h:at2 rows i j=some c):at2 (toC rows) i j=some (.t c):=by
 obtain ⟨row,h1,h2⟩:=D6 h
 exact z6 (row:=row.map C.t) (by simp [toC,h1]) (by simp [h2])
mutual
theorem VC.rt {H:Hp} {p:Nat->Prop} {w:World} {ι:Io} {M M':Ms} (hH:j4 w ι M H) (hM:∀b,M' b->M b) (hp:∀id k b cap size,p id->H[id]? =some k->¬k.mode.gone->ι id=some (.blk b cap size)->¬M' b):
 ∀(x:C) (y:T) (v:Value),VC H p x y->RC w ι M x v->RT w M' y v
 |.t x,y,v,h,hr=>by
  have h:a41 y x=y:=by simpa only [VC] using h
  cases hr with
  |t hr=>exact (hr.weak h).keep (fun _ _ _=>rfl) (fun b hb=>.inl (hM b hb))
 |.ptr id r o,y,v,h,hr=>by
  cases y with
  |ptr cells=>
   simp only [VC] at h
   obtain ⟨hpi,k,row,hk,hd,hrow,hc⟩:=h
   cases hr with
   |@ptr _ _ _ b cap size hi=>
    have hb:=(hH.blk id k hk (fun e=>hd (by rw [e];trivial)) _ hi).row hrow
    have hnm:=hp id k b cap size hpi hk hd hi
    have hat:∀(j:Nat) (c:T),cells[j]? =some c->row[o+j]? =some (.t c):=fun j c hj=>by
     have:(row.drop o)[j]? =some (.t c):=by rw [hc,lba,hj];rfl
     rwa [lbj] at this
    refine .ptr (fun j=>(w.cell? ⟨b,r*size+o+j,none⟩).getD undef) (fun j c hj=>?_) (fun j c hj=>?_)
    ·obtain ⟨u,h1,h2⟩:=hb _ _ (hat j c hj)
     rw [U9,h1]
     exact ⟨rfl,hnm⟩
    ·obtain ⟨u,h1,h2⟩:=hb _ _ (hat j c hj)
     rw [U9,h1]
     cases h2 with
     |t h2=>exact h2.keep (fun _ _ _=>rfl) (fun b hb=>.inl (hM b hb))
  |_=>simp only [VC] at h
 |.own id lo len app,y,v,h,hr=>by
  cases y with
  |sl size sk rows=>
   cases sk with
   |any=>
    simp only [VC] at h
    obtain ⟨hpi,k,hk,hd,hsz,hl,hc⟩:=h
    have hlen:rows.length=len:=by
     have:=congrArg List.length hc
     simp [toC] at this
     omega
    cases hr with
    |@own _ _ _ _ b cap sz A cap' hi q1 q2 q3 q4 q5=>
     have hbr:=hH.blk id k hk (fun e=>hd (by rw [e];trivial)) _ hi
     obtain ⟨r1,r2,r3,r4,r5,cur,r6,r7,r8⟩:=hbr
     have hnm:=hp id k b cap sz hpi hk hd hi
     have hse:sz=size:=by rw [← hsz,r1]
     subst hse
     have hat:∀(i j:Nat) (c:T),at2 rows i j=some c->∃u,cur[(lo+i)*sz+j]? =some u∧RT w M' c u:=fun i j c hij=>by
      have h1:=b8v hij
      rw [← hc] at h1
      obtain ⟨row,s1,s2⟩:=D6 h1
      rw [lbi] at s1
      split at s1
      ·rw [lbj] at s1
       obtain ⟨u,t1,t2⟩:=r8 _ _ _ (z6 s1 s2)
       refine ⟨u,t1,?_⟩
       cases t2 with
       |t t2=>exact t2.keep (fun _ _ _=>rfl) (fun b hb=>.inl (hM b hb))
      ·cases s1
     subst hlen
     refine .sl (b:=b) (off:=lo*sz) (fun i j=>cur.getD ((lo+i)*sz+j) undef) ?_ q3 q4 (by intro h;cases h) (by intro h;cases h) (fun hne=>q2 (a5Q.2 hne)) ?_ ?_
     ·intro r hr'
      have:r.map C.t ∈ toC rows:=lbx.2 ⟨r,hr',rfl⟩
      rw [← hc] at this
      have:=r5 _ (aN6 (ab1 this))
      simpa using this
     ·intro i j c hij
      obtain ⟨u,t1,t2⟩:=hat i j c hij
      refine ⟨?_,hnm⟩
      rw [show lo*sz+(i*sz+j)=(lo+i)*sz+j by rw [I3];omega]
      simp [World.cell?,r6,t1]
     ·intro i j c hij
      obtain ⟨u,t1,t2⟩:=hat i j c hij
      have:cur.getD ((lo+i)*sz+j) undef=u:=by simp [t1]
      show RT w M' c (cur.getD ((lo+i)*sz+j) undef)
      rw [this];exact t2
    |nil hi=>
     have hr0:rows=[]:=lbF hlen
     subst hr0
     exact .sl (b:=0) (off:=0) (fun _ _=>undef) (by simp) (by simp) (by unfold maxLen;omega) (by simp) (by simp) (by simp) (by simp [at2]) (by simp [at2])
   |_=>simp only [VC] at h
  |_=>simp only [VC] at h
 |.fn f caps,y,v,h,hr=>by
  cases y with
  |fn f' caps'=>
   simp only [VC] at h
   obtain ⟨rfl,h⟩:=h
   cases hr with
   |fn vs hl hr=>
    obtain ⟨h1,h2⟩:=VL.rt hH hM hp caps caps' h
    exact .fn vs (by omega) fun j c hj=>by
     have hlt:=(lbe.1 hj).1
     exact h2 j _ c _ (lbf (by omega)) hj (hr j _ (lbf (by omega)))
  |_=>simp only [VC] at h
theorem VL.rt {H:Hp} {p:Nat->Prop} {w:World} {ι:Io} {M M':Ms} (hH:j4 w ι M H) (hM:∀b,M' b->M b) (hp:∀id k b cap size,p id->H[id]? =some k->¬k.mode.gone->ι id=some (.blk b cap size)->¬M' b):
 ∀(xs:List C) (ys:List T),VL H p xs ys->xs.length=ys.length∧∀(j:Nat) (x:C) (y:T) (v:Value),xs[j]? =some x->ys[j]? =some y->RC w ι M x v->RT w M' y v
 |[],ys,h=>by
  simp only [VL] at h
  subst h
  exact ⟨rfl,by simp⟩
 |x::r,ys,h=>by
  cases ys with
  |nil=>simp only [VL] at h
  |cons y r'=>
   simp only [VL] at h
   obtain ⟨h1,h2⟩:=VL.rt hH hM hp r r' h.2
   refine ⟨by simp [h1],fun j x' y' v hx hy hr=>?_⟩
   cases j with
   |zero=>simp at hx hy;subst hx hy;exact VC.rt hH hM hp x y v h.1 hr
   |succ j=>exact h2 j x' y' v (by simpa using hx) (by simpa using hy) hr
end
theorem aT4 {H:Hp} {p:Nat->Prop} {x y:T} (h:a41 y x=y):VC H p (.t x) y:=by simpa only [VC] using h
theorem b3t {H:Hp} {p:Nat->Prop} {id r o:Nat} {k:Blk} {row:List C} {cells:List T} (hp:p id) (hk:H[id]? =some k) (hd:¬k.mode.gone) (hr:k.rows[r]? =some row) (hc:row.drop o=cells.map C.t):VC H p (.ptr id r o) (.ptr cells):=by
 simp only [VC];exact ⟨hp,k,row,hk,hd,hr,hc⟩
theorem b7P {H:Hp} {p:Nat->Prop} {id lo len:Nat} {app:Bool} {size:Nat} {k:Blk} {rows:List (List T)} (hp:p id) (hk:H[id]? =some k) (hd:¬k.mode.gone) (hs:k.size=size) (hl:lo+len<=k.rows.length) (hc:(k.rows.drop lo).take len=toC rows):VC H p (.own id lo len app) (.sl size .any rows):=by
 simp only [VC];exact ⟨hp,k,hk,hd,hs,hl,hc⟩
theorem p4 {H:Hp} {p:Nat->Prop} {id len:Nat} {app:Bool} {size:Nat} {k:Blk} {rows:List (List T)} (hp:p id) (hk:H[id]? =some k) (hd:¬k.mode.gone) (hs:k.size=size) (hc:k.rows=toC rows) (hl:len=rows.length):VC H p (.own id 0 len app) (.sl size .any rows):=
 b7P hp hk hd hs (by rw [hc,hl];simp [toC]) (by rw [hc,hl,a6c,lbn (by simp [toC])])
theorem aY4 {H:Hp} {p:Nat->Prop}:VL H p [] []:=by simp only [VL]
theorem aw0 {H:Hp} {p:Nat->Prop} {x:C} {y:T} {xs:List C} {ys:List T} (h:VC H p x y) (hs:VL H p xs ys):VL H p (x::xs) (y::ys):=by simp only [VL];exact ⟨h,hs⟩
theorem b7H {H:Hp} {p:Nat->Prop} {f:Fn} {xs:List C} {ys:List T} (h:VL H p xs ys):VC H p (.fn f xs) (.fn f ys):=by simp only [VC,true_and];exact h
def VS (H:Hp) (p:Nat->Prop):S->S->Prop
 |_,.junk=>True
 |.c x,.c (.t y)=>VC H p x y
 |.agg xs,.agg ys=>∃ts,ys=ts.map C.t∧VL H p xs ts
 |_,_=>False
theorem a2a {H:Hp} {p:Nat->Prop} {x:C} {y:T} (h:VC H p x y):VS H p (.c x) (.c (.t y)):=h
theorem b8i {H:Hp} {p:Nat->Prop} {xs:List C} {ts:List T} (h:VL H p xs ts):VS H p (.agg xs) (.agg (ts.map C.t)):=⟨ts,rfl,h⟩
theorem VS.rs {H:Hp} {p:Nat->Prop} {w:World} {ι ι':Io} {M M':Ms} (hH:j4 w ι M H) (hM:∀b,M' b->M b) (hp:∀id k b cap size,p id->H[id]? =some k->¬k.mode.gone->ι id=some (.blk b cap size)->¬M' b)
 {x y:S} {v:Value} (h:VS H p x y) (hr:RS w ι M x v):RS w ι' M' y v:=by
 unfold VS at h
 split at h
 ·exact .junk
 ·cases hr with
  |c hr=>exact .c (.t (VC.rt hH hM hp _ _ _ h hr))
 ·obtain ⟨ts,rfl,h⟩:=h
  cases hr with
  |agg vs hl hr=>
   obtain ⟨h1,h2⟩:=VL.rt hH hM hp _ _ h
   refine .agg vs (by simp;omega) fun j c hj=>?_
   rw [lba] at hj
   cases hj':ts[j]? with
   |none=>rw [hj'] at hj;cases hj
   |some c'=>
    rw [hj'] at hj
    injection hj with hj
    subst hj
    have hlt:=(lbe.1 hj').1
    exact .t (h2 j _ c' _ (lbf (by omega)) hj' (hr j _ (lbf (by omega))))
 ·exact h.elim
def a3p (H:Hp) (p:Nat->Prop):List S->List S->Prop
 |[],[]=>True
 |x::r,y::r'=>VS H p x y∧a3p H p r r'
 |_,_=>False
theorem a3p.get {H:Hp} {p:Nat->Prop}:∀{xs ys:List S},a3p H p xs ys->xs.length=ys.length∧∀(j:Nat) (y:S),ys[j]? =some y->∃x,xs[j]? =some x∧VS H p x y
 |[],[],_=>⟨rfl,by simp⟩
 |x::r,y::r',h=>by
  obtain ⟨h1,h2⟩:=a3p.get h.2
  refine ⟨by simp [h1],fun j y' hj=>?_⟩
  cases j with
  |zero=>simp at hj;subst hj;exact ⟨x,rfl,h.1⟩
  |succ j=>simpa using h2 j y' (by simpa using hj)
 |[],_::_,h=>h.elim
 |_::_,[],h=>h.elim
end
section
open Go.RowKit
def C.isT:C->Bool
 |.t _=>true
 |_=>false
def S.isT:S->Bool
 |.junk=>true
 |.c x=>x.isT
 |.agg cs=>cs.all C.isT
 |.tup ss=>ss.all fun s=>match s with
  |.c x=>x.isT
  |.agg cs=>cs.all C.isT
  |.junk=>true
  |.tup _=>false
theorem RC.tree {w:World} {ι ι':Io} {M:Ms} {x:C} {v:Value} (h:x.isT=true) (hr:RC w ι M x v):RC w ι' M x v:=by
 cases hr<;>first|exact .t ‹_›|cases h
theorem RS.tree1 {w:World} {ι ι':Io} {M:Ms} {s:S} {v:Value} (h:(match s with|.c x=>x.isT|.agg cs=>cs.all C.isT|.junk=>true|.tup _=>false)=true) (hr:RS w ι M s v):RS w ι' M s v:=by
 cases hr with
 |junk=>exact .junk
 |c hr=>exact .c (hr.tree h)
 |agg vs hl hr=>exact .agg vs hl fun j c hj=>(hr j c hj).tree (lbv.1 h c (lbm hj))
 |tup vs hl hr=>cases h
theorem RS.tree {w:World} {ι ι':Io} {M:Ms} {s:S} {v:Value} (h:s.isT=true) (hr:RS w ι M s v):RS w ι' M s v:=by
 cases hr with
 |junk=>exact .junk
 |c hr=>exact .c (hr.tree h)
 |agg vs hl hr=>exact .agg vs hl fun j c hj=>(hr j c hj).tree (lbv.1 h c (lbm hj))
 |tup vs hl hr=>exact .tup vs hl fun j s hj=>(hr j s hj).tree1 (lbv.1 h s (lbm hj))
theorem D9 {P:Program} {g:FuncId} {args:List S} {H:Hp} {r:S} (h:a8 P g args [] r []) (ha:args.all S.isT=true) (hr:r.isT=true):R2 P g args H r []:=by
 refine ⟨h.1,fun w ι M vals hl hv hH hM hf=>?_⟩
 have:=h.2 w (fun _=>none) M vals hl (fun j s hj=>(hv j s hj).tree (lbv.1 ha s (lbm hj)))
  ⟨by simp,by simp,by simp,by simp,by simp⟩ hM (fun _ _=>rfl)
 refine Calls.mono this ?_
 rintro e w' ⟨v,rfl,ι',M',h1,h2,h3,h4,h5⟩
 refine ⟨v,rfl,H7.of_none ?_ ?_⟩
 ·refine RS.keep (ι:=ι) (M:=M') (fun _ _ _=>rfl) (fun b hb=>?_) (fun _ _ h=>h) (h1.tree hr)
  rcases h5.mold b hb with h|⟨id,k,_,_,hk,_⟩
  ·exact .inl h
  ·simp at hk
 ·exact ⟨h5.os,h5.tape,h5.output,h5.size,fun b hb=>h5.keep b hb (by rintro ⟨id,k,_,_,hk,_⟩;simp at hk)⟩
theorem Awp.mono {P:Program} {n0:Nat} {c:Code} {env:Env} {H:Hp} {Q Q':AX->Env->Hp->Prop} (h:Awp P n0 c env H Q) (hq:∀a env H,Q a env H->Q' a env H):Awp P n0 c env H Q':=
 ⟨fun w0 ι0 M0 H0 a w hn hM hs=>wp_mono (h.out w0 ι0 M0 H0 a w hn hM hs) (by rintro e a' w' ⟨x,env',H',h1,h2,h3⟩;exact ⟨x,env',H',h1,hq _ _ _ h2,h3⟩)⟩
theorem a3e {x:Int} (h1:-9223372036854775808<=x) (h2:x<=9223372036854775807):G0 .i64 x x:=by
 unfold G0
 exact (IntWalk.i64_in x ⟨h1,by omega⟩).symm
def E6:List (Option Nat)->Nat->Bool
 |[],_=>true
 |some m::r,n=>!(Nat.beq m n) && E6 r n
 |none::r,n=>E6 r n
def b7c (ρ:List (Option Nat)) (x y:C):Prop:=
 match y with
 |.t y=>match x with
  |.t x=>x=y
  |_=>False
 |.ptr id' r' o'=>match x with
  |.ptr id r o=>ρ[id']? =some (some id)∧r=r'∧o=o'
  |_=>False
 |_=>False
def aq8 (ρ:List (Option Nat)):List C->List C->Prop
 |[],[]=>True
 |x::r,y::r'=>b7c ρ x y∧aq8 ρ r r'
 |_,_=>False
def b4v (ρ:List (Option Nat)) (H:Hp) (x y:C):Prop:=
 match y with
 |.t y=>match x with
  |.t x=>a41 y x=y
  |x=>VC H (fun id=>E6 ρ id=true) x y
 |.own id' lo' len' app'=>match x with
  |.t (.sl _ .nil _)=>ρ[id']? =some none∧lo'=0∧len'=0
  |.t (.sl _ .full [])=>ρ[id']? =some none∧lo'=0∧len'=0
  |.own id lo len app=>ρ[id']? =some (some id)∧lo=lo'∧len=len'∧(app'=true->app=true)
  |_=>False
 |.ptr id' r' o'=>match x with
  |.ptr id r o=>ρ[id']? =some (some id)∧r=r'∧o=o'
  |_=>False
 |.fn f' caps'=>match x with
  |.fn f caps=>f=f'∧aq8 ρ caps caps'
  |_=>False
def a8R (ρ:List (Option Nat)) (H:Hp):List C->List C->Prop
 |[],[]=>True
 |x::r,y::r'=>b4v ρ H x y∧a8R ρ H r r'
 |_,_=>False
def a4X (ρ:List (Option Nat)) (H:Hp) (s:S) (s':S):Prop:=
 match s' with
 |.junk=>True
 |.c y=>match s with
  |.c x=>b4v ρ H x y
  |_=>False
 |.agg cs'=>match s with
  |.agg cs=>a8R ρ H cs cs'
  |_=>False
 |.tup _=>False
def a2x (ρ:List (Option Nat)) (H:Hp):Env->Env->Prop
 |[],[]=>True
 |s::r,s'::r'=>match s' with
  |.junk=>a2x ρ H r r'
  |s'=>a4X ρ H s s'∧a2x ρ H r r'
 |_,_=>False
def C9 (rows:List (List C)):Prop:=∀r ∈ rows,∀c ∈ r,c.isT=true
def a9F (ρ:List (Option Nat)) (H:Hp):List (List C)->List (List C)->Prop
 |[],[]=>True
 |x::r,y::r'=>a8R ρ H x y∧a9F ρ H r r'
 |_,_=>False
def a26 (k k':Blk):Bool:=match k.mode,k'.mode with
 |.live,.live=>cond k.app k'.app true
 |.live,.old=>k.app
 |.froz,.froz=>true
 |.old,.old=>true
 |.dead,.dead=>true
 |_,_=>false
theorem P3 {k k':Blk} (h:a26 k k'=true):(k'.mode≠.dead->k.mode≠.dead)∧(k'.mode=.live->k.mode=.live∧(k.app=true->k'.app=true))∧(k'.mode=.froz->k.mode=.froz)∧
 (k'.mode=.old->k.mode=.old∨(k.mode=.live∧k.app=true)):=by
 unfold a26 at h
 cases h1:k.mode<;>cases h2:k'.mode<;>rw [h1,h2] at h<;>simp at h ⊢
 ·intro ha;rw [ha] at h;simpa using h
 ·exact h
def a2f (ρ:List (Option Nat)) (H:Hp) (k k':Blk):Prop:=
 a26 k k'=true∧k.elem=k'.elem∧k.size=k'.size∧((k.rows=k'.rows∧C9 k.rows)∨a9F ρ H k.rows k'.rows)
def a2D (ρ:List (Option Nat)) (H:Hp):List (Option Nat)->Hp->Prop
 |[],[]=>True
 |x::r,k'::r'=>(match x with
  |none=>k'.rows=[]∧k'.mode=.live
  |some id=>match H[id]? with
   |some k=>a2f ρ H k k'
   |none=>False)∧a2D ρ H r r'
 |_,_=>False
def a6N:Nat->List (Option Nat)->Hp->Bool
 |n,x::r,k::H=>(match x,k.mode with
  |_,.old=>false
  |some m,_=>Nat.beq m n
  |none,_=>false) || a6N n r H
 |_,_,_=>false
def V3:List (Option Nat)->Hp->Bool
 |none::r,_::H=>V3 r H
 |some n::r,k::H=>(match k.mode with
  |.old=>true
  |_=>!(a6N n r H)) && V3 r H
 |_,_=>true
def a1p (ρ:List (Option Nat)):Nat->Bool
 |0=>true
 |n+1=>(match ρ[n]? with|some (some m)=>Nat.beq m n|_=>false) && a1p ρ n
def Ent (n0:Nat) (ρ:List (Option Nat)) (env:Env) (H:Hp) (env':Env) (H':Hp):Prop:=
 a1p ρ n0=true∧V3 ρ H'=true∧a2D ρ H ρ H'∧a2x ρ H env env'
def M7 (ρ:List (Option Nat)) (ι:Io):Io:=fun id=>match ρ[id]? with
 |some (some j)=>ι j
 |some none=>some .nil
 |none=>none
def a5c (ρ:List (Option Nat)) (H:Hp) (ι:Io) (M:Ms):Ms:=fun b=>M b∧¬∃id k cap size,E6 ρ id=true∧H[id]? =some k∧¬k.mode.gone∧ι id=some (.blk b cap size)
theorem ar7:∀{ρ:List (Option Nat)} {i n:Nat},ρ[i]? =some (some n)->E6 ρ n=true->False
 |[],i,n,h,_=>by simp at h
 |x::r,i,n,h,hn=>by
  have hr:E6 r n=true:=by cases x<;>simp [E6] at hn<;>first|exact hn|exact hn.2
  cases i with
  |zero=>
   simp at h
   subst h
   simp [E6] at hn
  |succ i=>exact ar7 (by simpa using h) hr
theorem RC.sub {w:World} {ι:Io} {M M':Ms} (hM:∀b,M' b->M b) {x:C} {v:Value} (h:RC w ι M x v):RC w ι M' x v:=h.keep (fun _ _ _=>rfl) (fun b hb=>.inl (hM b hb)) (fun _ _ h=>h)
theorem b7c.rc {w:World} {ι:Io} {M:Ms} {ρ:List (Option Nat)} {H:Hp} {x y:C} {v:Value} (h:b7c ρ x y) (hr:RC w ι M x v):RC w (M7 ρ ι) (a5c ρ H ι M) y v:=by
 cases y with
 |t y=>
  cases x with
  |t x=>
   have h:x=y:=h
   subst h
   cases hr with
   |t hr=>exact .t (hr.keep (fun _ _ _=>rfl) fun b hb=>.inl hb.1)
  |_=>exact False.elim h
 |ptr id' r' o'=>
  cases x with
  |ptr id r o=>
   obtain ⟨h1,rfl,rfl⟩:=h
   cases hr with
   |ptr hi=>exact .ptr (by unfold M7;rw [h1];exact hi)
  |_=>exact False.elim h
 |own _ _ _ _=>exact False.elim h
 |fn _ _=>exact False.elim h
theorem aq8.get {ρ:List (Option Nat)}:∀{xs ys:List C},aq8 ρ xs ys->xs.length=ys.length∧∀(j:Nat) (x y:C),xs[j]? =some x->ys[j]? =some y->b7c ρ x y
 |[],[],_=>⟨rfl,by simp⟩
 |x::xs,y::ys,h=>by
  obtain ⟨h1,h2⟩:=aq8.get h.2
  refine ⟨by simp [h1],fun j x' y' hx hy=>?_⟩
  cases j with
  |zero=>simp at hx hy;subst hx hy;exact h.1
  |succ j=>exact h2 j x' y' (by simpa using hx) (by simpa using hy)
 |[],_::_,h=>h.elim
 |_::_,[],h=>h.elim
theorem b4v.rc {w:World} {ι:Io} {M:Ms} {ρ:List (Option Nat)} {H:Hp} (hH:j4 w ι M H) {x y:C} {v:Value} (h:b4v ρ H x y) (hr:RC w ι M x v):RC w (M7 ρ ι) (a5c ρ H ι M) y v:=by
 cases y with
 |t y=>
  have h:VC H (fun id=>E6 ρ id=true) x y:=by cases x<;>first|exact h|(simp only [VC];exact h)
  refine .t (VC.rt hH (fun b hb=>hb.1) ?_ x y v h hr)
  intro id k b cap size hp hk hd hi hb
  exact hb.2 ⟨id,k,cap,size,hp,hk,hd,hi⟩
 |own id' lo' len' app'=>
  cases x with
  |t x=>
   cases x with
   |sl size k rows=>
    cases k with
    |nil=>
     obtain ⟨h1,rfl,rfl⟩:=h
     cases hr with
     |t hr=>cases hr with
      |sl f hrow hcap hmax hk hn hA hc hr=>
       obtain ⟨rfl,rfl,rfl⟩:=hn rfl
       exact .nil (by unfold M7;rw [h1])
    |full=>
     cases rows with
     |nil=>
      obtain ⟨h1,rfl,rfl⟩:=h
      cases hr with
      |t hr=>cases hr with
       |sl f hrow hcap hmax hk hn hA hc hr=>
        obtain rfl:=hk rfl
        exact .nil (by unfold M7;rw [h1])
     |cons _ _=>exact False.elim h
    |any=>exact False.elim h
    |nul=>exact False.elim h
    |non=>exact False.elim h
   |_=>exact False.elim h
  |own id lo len app=>
   obtain ⟨h1,rfl,rfl,happ⟩:=h
   cases hr with
   |own hi q1 q2 q3 q4 q5=>exact .own (by unfold M7;rw [h1];exact hi) q1 q2 q3 q4 (fun h=>q5 (happ h))
   |nil hi=>exact .nil (by unfold M7;rw [h1];exact hi)
  |_=>exact False.elim h
 |ptr id' r' o'=>
  cases x with
  |ptr id r o=>
   obtain ⟨h1,rfl,rfl⟩:=h
   cases hr with
   |ptr hi=>exact .ptr (by unfold M7;rw [h1];exact hi)
  |_=>exact False.elim h
 |fn f' caps'=>
  cases x with
  |fn f caps=>
   obtain ⟨rfl,h⟩:=h
   obtain ⟨h1,h2⟩:=aq8.get h
   cases hr with
   |fn vs hl hr=>
    refine .fn vs (by omega) fun j c hj=>?_
    have hlt:=(lbe.1 hj).1
    exact (h2 j _ c (lbf (by omega)) hj).rc (hr j _ (lbf (by omega)))
  |_=>exact False.elim h
section
variable {w:World} {ι:Io} {M:Ms} {ρ:List (Option Nat)} {H:Hp} (hH:j4 w ι M H)
include hH
theorem a8R.rc:∀{xs ys:List C},a8R ρ H xs ys->xs.length=ys.length∧∀(j:Nat) (x y:C) (v:Value),xs[j]? =some x->ys[j]? =some y->RC w ι M x v->RC w (M7 ρ ι) (a5c ρ H ι M) y v
 |[],[],_=>⟨rfl,by simp⟩
 |x::xs,y::ys,h=>by
  obtain ⟨h1,h2⟩:=a8R.rc h.2
  refine ⟨by simp [h1],fun j x' y' v hx hy hr=>?_⟩
  cases j with
  |zero=>simp at hx hy;subst hx hy;exact h.1.rc hH hr
  |succ j=>exact h2 j x' y' v (by simpa using hx) (by simpa using hy) hr
 |[],_::_,h=>h.elim
 |_::_,[],h=>h.elim
theorem a4X.rs {s s':S} {v:Value} (h:a4X ρ H s s') (hr:RS w ι M s v):RS w (M7 ρ ι) (a5c ρ H ι M) s' v:=by
 unfold a4X at h
 split at h
 ·exact .junk
 ·split at h
  ·exact .c (b4v.rc hH h hr.inv_c)
  ·exact h.elim
 ·split at h
  ·cases hr with
   |agg vs hl hr=>
    obtain ⟨h1,h2⟩:=a8R.rc hH h
    refine .agg vs (by omega) fun j c hj=>?_
    have hlt:=(lbe.1 hj).1
    exact h2 j _ c _ (lbf (by omega)) hj (hr j _ (lbf (by omega)))
  ·exact h.elim
 ·exact h.elim
omit hH in
theorem a2x.rel:∀{env env':Env},a2x ρ H env env'->env.length=env'.length∧∀(t:Nat) (s':S),env'[t]? =some s'->∃s,env[t]? =some s∧a4X ρ H s s'
 |[],[],_=>⟨rfl,by simp⟩
 |s::r,s'::r',h=>by
  have h':a4X ρ H s s'∧a2x ρ H r r':=by
   cases s' with
   |junk=>exact ⟨trivial,h⟩
   |_=>exact h
  obtain ⟨h1,h2⟩:=a2x.rel h'.2
  refine ⟨by simp [h1],fun t s'' ht=>?_⟩
  cases t with
  |zero=>simp at ht;subst ht;exact ⟨s,rfl,h'.1⟩
  |succ t=>simpa using h2 t s'' (by simpa using ht)
 |[],_::_,h=>h.elim
 |_::_,[],h=>h.elim
theorem a9F.rc:∀{xs ys:List (List C)},a9F ρ H xs ys->xs.length=ys.length∧(∀ n,(∀ r ∈ xs,r.length=n)->∀r ∈ ys,r.length=n)∧
 ∀(i j:Nat) (y:C),at2 ys i j=some y->∃x,at2 xs i j=some x∧∀v,RC w ι M x v->RC w (M7 ρ ι) (a5c ρ H ι M) y v
 |[],[],_=>⟨rfl,by simp,by simp [at2]⟩
 |x::xs,y::ys,h=>by
  obtain ⟨h1,h2,h3⟩:=a9F.rc h.2
  obtain ⟨q1,q2⟩:=a8R.rc hH h.1
  refine ⟨by simp [h1],fun n hn r hr=>?_,fun i j y' hy=>?_⟩
  ·rcases lbA.1 hr with rfl|hr
   ·rw [← q1];exact hn x (by simp)
   ·exact h2 n (fun r hr=>hn r (by simp [hr])) r hr
  ·obtain ⟨row,r1,r2⟩:=D6 hy
   cases i with
   |zero=>
    simp at r1
    subst r1
    have hlt:=(lbe.1 r2).1
    exact ⟨_,z6 rfl (lbf (by omega)),fun v hv=>q2 j _ _ v (lbf (by omega)) r2 hv⟩
   |succ i=>
    obtain ⟨x',s1,s2⟩:=h3 i j y' (z6 (by simpa using r1) r2)
    obtain ⟨row',t1,t2⟩:=D6 s1
    exact ⟨x',z6 (by simpa using t1) t2,s2⟩
 |[],_::_,h=>h.elim
 |_::_,[],h=>h.elim
end
theorem a2D.get {ρ:List (Option Nat)} {H:Hp}:∀{r:List (Option Nat)} {H':Hp},a2D ρ H r H'->r.length=H'.length∧∀(id:Nat) (k':Blk),H'[id]? =some k'->
 (r[id]? =some none∧k'.rows=[]∧k'.mode=.live)∨∃j k,r[id]? =some (some j)∧H[j]? =some k∧a2f ρ H k k'
 |[],[],_=>⟨rfl,by simp⟩
 |x::r,k::H',h=>by
  obtain ⟨h1,h2⟩:=a2D.get h.2
  refine ⟨by simp [h1],fun id k' hk=>?_⟩
  cases id with
  |zero=>
   simp at hk
   subst hk
   have hx:=h.1
   cases x with
   |none=>exact .inl ⟨rfl,hx⟩
   |some j=>
    refine .inr ⟨j,?_⟩
    simp only at hx
    split at hx
    ·rename_i k0 hk0
     exact ⟨k0,rfl,hk0,hx⟩
    ·exact hx.elim
  |succ id=>simpa using h2 id k' (by simpa using hk)
 |[],_::_,h=>h.elim
 |_::_,[],h=>h.elim
theorem as5:∀{r:List (Option Nat)} {H:Hp} {n j:Nat} {k:Blk},a6N n r H=false->r[j]? =some (some n)->H[j]? =some k->k.mode=.old
 |[],_,n,j,k,_,h,_=>by simp at h
 |x::r,[],n,j,k,_,_,h=>by simp at h
 |x::r,k0::H,n,0,k,hs,h,hk=>by
  simp at h hk
  subst h hk
  simp only [a6N,a23] at hs
  cases hm:k0.mode with
  |old=>rfl
  |_=>rw [hm] at hs;simp at hs
 |x::r,k0::H,n,j+1,k,hs,h,hk=>by
  simp only [a6N,a23] at hs
  exact as5 hs.2 (by simpa using h) (by simpa using hk)
theorem ap3:∀{l:List (Option Nat)} {H:Hp},V3 l H=true->∀(i j n:Nat) (k k':Blk),l[i]? =some (some n)->l[j]? =some (some n)->H[i]? =some k->H[j]? =some k'->k.mode≠.old->k'.mode≠.old->i=j
 |[],_,_,i,j,n,k,k',h,_,_,_,_,_=>by simp at h
 |x::r,[],_,i,j,n,k,k',_,_,h,_,_,_=>by simp at h
 |x::r,k0::H,hn,i,j,n,k,k',hi,hj,hk,hk',ho,ho'=>by
  have hr:V3 r H=true:=by
   cases x with
   |none=>exact hn
   |some m=>simp only [V3,lbM] at hn;exact hn.2
  have hx:∀(q:Nat) (kq:Blk),x=some n->k0.mode≠.old->r[q]? =some (some n)->H[q]? =some kq->kq.mode=.old:=fun q kq hxn h0 hq hkq=>by
   subst hxn
   simp only [V3,lbM] at hn
   have h1:=hn.1
   have:a6N n r H=false:=by
    cases hm:k0.mode with
    |old=>exact absurd hm h0
    |_=>simpa using h1
   exact as5 this hq hkq
  cases i with
  |zero=>cases j with
   |zero=>rfl
   |succ j=>
    simp at hi hj hk hk'
    subst hk
    exact absurd (hx j k' hi ho hj hk') ho'
  |succ i=>cases j with
   |zero=>
    simp at hi hj hk hk'
    subst hk'
    exact absurd (hx i k hj ho' hi hk) ho
   |succ j=>
    simp at hi hj hk hk'
    rw [ap3 hr i j n k k' hi hj hk hk' ho ho']
theorem a7j {ρ:List (Option Nat)}:∀{n:Nat},a1p ρ n=true->∀i,i<n->ρ[i]? =some (some i)
 |0,_,i,h=>by omega
 |n+1,hk,i,h=>by
  simp only [a1p,lbM] at hk
  by_cases hi:i=n
  ·subst hi
   have:=hk.1
   split at this
   ·rename_i m hm
    rw [hm,a0H this]
   ·cases this
  ·exact a7j hk.2 i (by omega)
theorem aN5 {w:World} {ι ι':Io} {M M':Ms} (hM:∀b,M' b->M b) {rows:List (List C)} (h:C9 rows) {i j:Nat} {c:C} (hc:at2 rows i j=some c) {u:Value} (hr:RC w ι M c u):RC w ι' M' c u:=by
 obtain ⟨row,h1,h2⟩:=D6 hc
 exact (hr.tree (h row (lbm h1) c (lbm h2))).sub hM
theorem a2D.all {n0:Nat} {ρ:List (Option Nat)} {H H':Hp} (h1:a1p ρ n0=true) (h2:V3 ρ H'=true) (h3:a2D ρ H ρ H') {w0:World} {ι0:Io} {M0:Ms} {H0:Hp} {w:World} {ι:Io} {M:Ms} (hn:H0.length=n0) (hM0:MB w0 M0)
 (hH:j4 w ι M H) (hst:a3v w0 ι0 M0 H0 w ι M H):j4 w (M7 ρ ι) (a5c ρ H ι M) H'∧a0R (M7 ρ ι) H'.length∧a3v w0 ι0 M0 H0 w (M7 ρ ι) (a5c ρ H ι M) H':=by
 obtain ⟨hl,hg0⟩:=a2D.get h3
 have hg:∀(id:Nat) (k':Blk),H'[id]? =some k'->(ρ[id]? =some none∧k'.rows=[]∧k'.mode=.live)∨∃j k,ρ[id]? =some (some j)∧H[j]? =some k∧a26 k k'=true∧k.elem=k'.elem∧k.size=k'.size∧
  ((k.rows=k'.rows∧C9 k.rows)∨a9F ρ H k.rows k'.rows):=fun id k' hk=>by
  rcases hg0 id k' hk with h|⟨j,k,q1,q2,q3,q4,q5,q6⟩
  ·exact .inl h
  ·exact .inr ⟨j,k,q1,q2,q3,q4,q5,q6⟩
 have hlen:∀{k k':Blk},((k.rows=k'.rows∧C9 k.rows)∨a9F ρ H k.rows k'.rows)->k.rows.length=k'.rows.length:=fun h=>by
  rcases h with h|h
  ·rw [h.1]
  ·exact (a9F.rc hH h).1
 have hsub:∀b,a5c ρ H ι M b->M b:=fun b hb=>hb.1
 have hren:∀id j,ρ[id]? =some (some j)->M7 ρ ι id=ι j:=fun id j hj=>by unfold M7;rw [hj]
 have hnil:∀id,ρ[id]? =some none->M7 ρ ι id=some .nil:=fun id hj=>by unfold M7;rw [hj]
 have hle:H0.length<=H'.length:=by
  rw [← hl,hn]
  rcases K4 ρ.length n0 with hlt|hge
  ·have:=a7j h1 ρ.length hlt
   simp at this
  ·exact hge
 refine ⟨⟨?_,?_,?_,?_,?_⟩,?_,⟨hst.os,hst.tape,hst.output,hst.size,hst.keep,?_,fun b hb=>hst.mnew b hb.1,?_,?_,hle⟩⟩
 ·intro id k' hk hd l hll
  rcases hg id k' hk with ⟨q1,q2,q3⟩|⟨j,k,q1,q2,q3,q4,q5,q6⟩
  ·rw [hnil id q1] at hll
   injection hll with hll
   subst hll
   exact q2
  ·rw [hren id j q1] at hll
   have hb:=hH.blk j k q2 ((P3 q3).1 hd) l hll
   cases l with
   |nil=>
    have hb':k.rows=[]:=hb
    show k'.rows=[]
    rcases q6 with ⟨q6,_⟩|q6
    ·rw [← q6,hb']
    ·rw [hb'] at q6
     cases hr:k'.rows with
     |nil=>rfl
     |cons y ys=>rw [hr] at q6;exact q6.elim
   |blk b cap size=>
    obtain ⟨r1,r2,r3,r4,r5,cur,r6,r7,r8⟩:=hb
    rcases q6 with ⟨q6,q7⟩|q6
    ·refine ⟨by rw [← q5];exact r1,r2,by rw [← q6];exact r3,r4,by rw [← q6];exact r5,cur,by rw [← q4];exact r6,r7,fun i j c hc=>?_⟩
     rw [← q6] at hc
     obtain ⟨u,s1,s2⟩:=r8 i j c hc
     exact ⟨u,s1,aN5 hsub q7 hc s2⟩
    ·obtain ⟨t1,t2,t3⟩:=a9F.rc hH q6
     refine ⟨by rw [← q5];exact r1,r2,by rw [← t1];exact r3,r4,t2 size r5,cur,by rw [← q4];exact r6,r7,fun i j c hc=>?_⟩
     obtain ⟨x,u1,u2⟩:=t3 i j c hc
     obtain ⟨u,s1,s2⟩:=r8 i j x u1
     exact ⟨u,s1,u2 u s2⟩
 ·intro id k' hk hm b cap size hi
  rcases hg id k' hk with ⟨q1,q2,q3⟩|⟨j,k,q1,q2,q3,q4,q5,q6⟩
  ·rw [hnil id q1] at hi;cases hi
  ·rw [hren id j q1] at hi
   have hkl:k.mode=.live:=((P3 q3).2.1 hm).1
   have hMb:=hH.liv j k q2 hkl b cap size hi
   refine ⟨hMb,?_⟩
   rintro ⟨id2,k2,cap2,size2,n1,n2,n3,n4⟩
   cases hm2:k2.mode with
   |live=>
    have:=hH.inj j id2 k k2 q2 n2 hkl hm2 _ _ _ _ _ hi n4
    subst this
    exact ar7 q1 n1
   |froz=>exact hH.fro id2 k2 n2 hm2 _ _ _ n4 hMb
   |old=>exact n3 (by rw [hm2];trivial)
   |dead=>exact n3 (by rw [hm2];trivial)
 ·intro id k' hk hm b cap size hi
  rcases hg id k' hk with ⟨q1,q2,q3⟩|⟨j,k,q1,q2,q3,q4,q5,q6⟩
  ·rw [hnil id q1] at hi;cases hi
  ·rw [hren id j q1] at hi
   exact fun hb=>hH.fro j k q2 ((P3 q3).2.2.1 hm) b cap size hi hb.1
 ·intro id id' k k' hk hk' hm hm' b cap size cap' size' hi hi'
  rcases hg id k hk with ⟨q1,q2,q3⟩|⟨j,k1,q1,q2,q3,q4,q5,q6⟩
  ·rw [hnil id q1] at hi;cases hi
  ·rcases hg id' k' hk' with ⟨q1',q2',q3'⟩|⟨j',k1',q1',q2',q3',q4',q5',q6'⟩
   ·rw [hnil id' q1'] at hi';cases hi'
   ·rw [hren id j q1] at hi
    rw [hren id' j' q1'] at hi'
    have:=hH.inj j j' k1 k1' q2 q2' ((P3 q3).2.1 hm).1 ((P3 q3').2.1 hm').1 _ _ _ _ _ hi hi'
    subst this
    exact ap3 h2 id id' j k k' q1 q1' hk hk' (by rw [hm];intro h;cases h) (by rw [hm'];intro h;cases h)
 ·intro id id' k k' hk hk' hm hm' b cap size cap' size' hi hi'
  rcases hg id k hk with ⟨q1,q2,q3⟩|⟨j,k1,q1,q2,q3,q4,q5,q6⟩
  ·rw [hnil id q1] at hi;cases hi
  ·rcases hg0 id' k' hk' with ⟨q1',q2',q3'⟩|⟨j',k1',q1',q2',q3',q4',q5',q6'⟩
   ·rw [hnil id' q1'] at hi';cases hi'
   ·rw [hren id j q1] at hi
    rw [hren id' j' q1'] at hi'
    obtain ⟨hl1,s2⟩:=(P3 q3').2.1 hm'
    rcases (P3 q3).2.2.2 hm with ho|⟨ho,ha⟩
    ·obtain ⟨t1,t2,t3⟩:=hH.old j j' k1 k1' q2 q2' ho hl1 _ _ _ _ _ hi hi'
     exact ⟨s2 t1,t2,by rw [← hlen q6,←hlen q6'];exact t3⟩
    ·have hjj:=hH.inj j j' k1 k1' q2 q2' ho hl1 _ _ _ _ _ hi hi'
     subst hjj
     rw [q2] at q2'
     injection q2' with q2'
     subst q2'
     rw [hi] at hi'
     injection hi' with hi'
     injection hi' with _ _ hi'
     exact ⟨s2 ha,hi',by rw [← hlen q6,←hlen q6'];exact lbQ _⟩
 ·intro id hid
  unfold M7
  rw [lbd (by omega)]
 ·intro id hid
  rw [hren id id (a7j h1 id (by omega))]
  exact hst.same id hid
 ·intro b hb
  rcases hst.mold b hb with h|h
  ·by_cases hx:∃id k cap size,E6 ρ id=true∧H[id]? =some k∧¬k.mode.gone∧ι id=some (.blk b cap size)
   ·obtain ⟨id,k,cap,size,n1,n2,n3,n4⟩:=hx
    refine .inr ?_
    have hlive:k.mode=.live:=by
     cases hm:k.mode with
     |live=>rfl
     |froz=>exact absurd h (hH.fro id k n2 hm _ _ _ n4)
     |old=>exact absurd (by rw [hm];trivial) n3
     |dead=>exact absurd (by rw [hm];trivial) n3
    rcases hst.live b ⟨id,k,cap,size,n2,hlive,n4⟩ with h'|h'
    ·exact h'
    ·have:=hM0 b hb;omega
   ·exact .inl ⟨h,hx⟩
  ·exact .inr h
 ·rintro b ⟨id,k',cap,size,hk,hm,hi⟩
  rcases hg id k' hk with ⟨q1,q2,q3⟩|⟨j,k,q1,q2,q3,q4,q5,q6⟩
  ·rw [hnil id q1] at hi;cases hi
  ·rw [hren id j q1] at hi
   exact hst.live b ⟨j,k,cap,size,q2,((P3 q3).2.1 hm).1,hi⟩
theorem Ent.sim {n0:Nat} {ρ:List (Option Nat)} {env env':Env} {H H':Hp} (h:Ent n0 ρ env H env' H') {w0:World} {ι0:Io} {M0:Ms} {H0:Hp} {a:Act} {w:World} (hn:H0.length=n0) (hM0:MB w0 M0)
 (hs:Sim w0 ι0 M0 H0 a w env H):Sim w0 ι0 M0 H0 a w env' H':=by
 obtain ⟨h1,h2,h3,h4⟩:=h
 obtain ⟨ι,M,hd,hsz,he,hH,hM,hF,hst⟩:=hs
 obtain ⟨hel,heg⟩:=a2x.rel h4
 obtain ⟨q1,q2,q3⟩:=a2D.all h1 h2 h3 hn hM0 hH hst
 refine ⟨M7 ρ ι,_,hd,by omega,fun t s' ht=>?_,q1,fun b hb=>hM b hb.1,q2,q3⟩
 obtain ⟨s,q1,q2⟩:=heg t s' ht
 exact q2.rs hH (he t s q1)
def aj7 (ρ:List (Option Nat)) (H:Hp) (s s':S):Prop:=
 match s' with
 |.tup ss'=>match s with
  |.tup ss=>a2x ρ H ss ss'
  |_=>False
 |s'=>a4X ρ H s s'
structure Fin (n0:Nat) (r:S) (H1:Hp) (s:S) (H':Hp):Prop where
 out:∃ρ,a1p ρ n0=true∧V3 ρ H'=true∧a2D ρ H1 ρ H'∧aj7 ρ H1 r s
theorem aj7.rs {w:World} {ι:Io} {M:Ms} {ρ:List (Option Nat)} {H:Hp} (hH:j4 w ι M H) {s s':S} {v:Value} (h:aj7 ρ H s s') (hr:RS w ι M s v):RS w (M7 ρ ι) (a5c ρ H ι M) s' v:=by
 cases s' with
 |tup ss'=>
  cases s with
  |tup ss=>
   cases hr with
   |tup vs hl hr=>
    obtain ⟨h1,h2⟩:=a2x.rel h
    refine .tup vs (by omega) fun j s hj=>?_
    obtain ⟨s0,q1,q2⟩:=h2 j s hj
    exact q2.rs hH (hr j s0 q1)
  |_=>exact False.elim h
 |_=>exact a4X.rs hH h hr
theorem j2 {r s:S} {H1:Hp} (h:aj7 [] H1 r s):Fin 0 r H1 s []:=⟨[],rfl,rfl,trivial,h⟩
theorem b46 {P : Program} {τ : Tab} (hτ : B2 P τ) {f : FuncId} {fn : Func} {c : Code} {args : List S} {H : Hp} {s : S} {H' : Hp} (hf : P.funcs[f]? = some fn) (hb : fn.body = some c) (hn : fn.name ≠ "runtime.NumGoroutine")
    (h:a0w P τ H.length c (args++List.replicate (fn.ntmps - args.length) .junk) H fun x env' H1=>match x with
      |.exit _=>False
      |_=>a6O τ fn env' H1 fun r=>Fin H.length r H1 s H'):a8 P f args H s H':=by
  refine ⟨⟨fn,hf,by rw [hb];rfl,hn⟩,fun w ι M vals hl hr hH hM hF=>?_⟩
  refine calls_of_wp hf hb ?_
  have hi:=Sim.init hl hr hH hM hF (fn.ntmps - args.length)
  have:=(k8 hτ c h).out w ι M H _ w rfl hM hi
  have e:vals.toArray.size=args.length:=by simpa using hl
  rw [e]
  refine wp_mono this ?_
  rintro e a' w' ⟨x,env',H1,rfl,hq,ι',M',hd,hsz,he,hH',hM',hF',hst⟩
  have key:(a6O τ fn env' H1 fun r=>Fin H.length r H1 s H')->a'.defers=[]∧∃v,(results fn a'.tmps).run P w'=.ok v w'∧∃v',Ending.returned v=.returned v'∧E1 w ι M H s H' v' w':=by
   intro hq
   refine ⟨hd,?_⟩
   obtain ⟨l,hk,vs,h1,h2,h3⟩:=a63 hτ he hH' fn.results.toList hq
   have hrun:∃v,(results fn a'.tmps).run P w'=.ok v w'∧v=(if h:vs.length=1 then vs[0] else .tuple vs.toArray):=by
    refine ⟨_,?_,rfl⟩
    unfold results
    rw [Array.mapM_eq_mapM_toList,Sem.run_bind,Sem.run_map]
    refine (congrArg (fun r=>Result.andThen (Result.andThen r _) _) h1).trans ?_
    simp
   obtain ⟨v,hv1,rfl⟩:=hrun
   refine ⟨_,hv1,_,rfl,?_⟩
   have hsr:∃r,RS w' ι' M' r (if h:vs.length=1 then vs[0] else .tuple vs.toArray)∧Fin H.length r H1 s H':=by
    match l,hk,h2,h3 with
    |[s1],hk,h2,h3=>
     refine ⟨s1,?_,hk⟩
     rw [dif_pos (by simpa using h2)]
     have:=h3 0 s1 rfl
     rw [lbl,lbf (by simp at h2;omega)] at this
     exact this
    |[],hk,h2,h3=>
     refine ⟨_,?_,hk⟩
     rw [dif_neg (by simp at h2;simp [h2])]
     exact .tup vs h2 h3
    |s1::s2::r,hk,h2,h3=>
     refine ⟨_,?_,hk⟩
     rw [dif_neg (by simp at h2;omega)]
     exact .tup vs h2 h3
   obtain ⟨r,h4,ρ,f1,f2,f3,f4⟩:=hsr
   obtain ⟨g1,g2,g3⟩:=a2D.all f1 f2 f3 rfl hM hH' hst
   exact ⟨M7 ρ ι',_,f4.rs hH' h4,g1,fun b hb=>hM' b hb.1,g2,g3⟩
  cases x with
  |normal=>exact key hq
  |ret=>exact key hq
  |exit id=>exact hq.elim
theorem a11 (p:Nat->Prop) (h:∃n,p n):∃n,p n∧∀m,p m->n<=m:=by
 obtain ⟨n,hn⟩:=h
 induction n using Nat.strongRecOn with
 |_ n ih=>
  by_cases hex:∃m,m<n∧p m
  ·obtain ⟨m,hm,hp⟩:=hex
   exact ih m hm hp
  ·exact ⟨n,hn,fun m hm=>ax7 fun hlt=>hex ⟨m,hlt,hm⟩⟩
theorem a2l {P:Program} {n0:Nat} {c:Code} {env:Env} {H:Hp} {Q:AX->Env->Hp->Prop} {σ:Type} (E:σ->Env × Hp) (μ:σ->Nat) (x0:σ) (ρ0:List (Option Nat))
 (h0:Ent n0 ρ0 env H (E x0).1 (E x0).2)
 (round:∀x,Awp P n0 c (E x).1 (E x).2 fun a env' H'=>match a with
   |.normal=>∃ρ x',Ent n0 ρ env' H' (E x').1 (E x').2∧μ x'<μ x
   |a=>Q a env' H'):Awp P n0 (.loop c) env H Q:=by
 refine ⟨fun w0 ι0 M0 H0 a w hn hM hs=>?_⟩
 have hs0:=h0.sim hn hM hs
 let I:Act->World->Prop:=fun a w=>∃x,Sim w0 ι0 M0 H0 a w (E x).1 (E x).2
 let J:Act->World->Nat->Prop:=fun a w n=>∃x,μ x=n∧Sim w0 ι0 M0 H0 a w (E x).1 (E x).2
 have hJ:∀a w,I a w->∃n,J a w n:=fun a w ⟨x,hx⟩=>⟨μ x,x,rfl,hx⟩
 classical
 let m:Act->World->Nat:=fun a w=>if h:∃n,J a w n then Classical.choose (a11 _ h) else 0
 have hmin:∀a w x,Sim w0 ι0 M0 H0 a w (E x).1 (E x).2->m a w<=μ x:=fun a w x hx=>by
  have h:∃n,J a w n:=⟨μ x,x,rfl,hx⟩
  show (if h:∃n,J a w n then Classical.choose (a11 _ h) else 0)<=μ x
  rw [dif_pos h]
  exact (ay8 (a11 _ h)).2 _ ⟨x,rfl,hx⟩
 refine wp_loop I m ⟨x0,hs0⟩ fun a w hI=>?_
 have hex:=hJ a w hI
 have hm:m a w=Classical.choose (a11 _ hex):=by
  show (if h:∃n,J a w n then Classical.choose (a11 _ h) else 0)=_
  rw [dif_pos hex]
 obtain ⟨x,hx1,hx2⟩:=(ay8 (a11 _ hex)).1
 have hr:=(round x).out w0 ι0 M0 H0 a w hn hM hx2
 refine wp_mono hr ?_
 rintro e a' w' ⟨ax,env',H',rfl,hq,hs'⟩
 cases ax with
 |normal=>
  obtain ⟨ρ,x',h1,h2⟩:=hq
  have hs2:=h1.sim hn hM hs'
  refine ⟨⟨x',hs2⟩,?_⟩
  have:=hmin a' w' x' hs2
  omega
 |exit id=>exact ⟨_,env',H',rfl,hq,hs'⟩
 |ret=>exact ⟨_,env',H',rfl,hq,hs'⟩
theorem g8 {P:Program} {τ:Tab} (hτ:B2 P τ) {n0:Nat} {c:Code} {env:Env} {H:Hp} {Q:AX->Env->Hp->Prop} (E:Nat->Env × Hp) (n:Nat) (I:Nat->Prop) (ρ0:List (Option Nat))
 (hI:I 0) (h0:Ent n0 ρ0 env H (E 0).1 (E 0).2)
 (round:∀k,k<=n->I k->a0w P τ n0 c (E k).1 (E k).2 fun a env' H'=>match a with
   |.normal=>k<n∧I (k+1)∧∃ρ,Ent n0 ρ env' H' (E (k+1)).1 (E (k+1)).2
   |a=>Q a env' H'):Awp P n0 (.loop c) env H Q:=by
 refine a2l (σ:={ k:Nat // k<=n∧I k }) (fun k=>E k.1) (fun k=>n - k.1) ⟨0,B9 _,hI⟩ ρ0 h0 ?_
 rintro ⟨k,hk,hi⟩
 refine (k8 hτ c (round k hk hi)).mono ?_
 intro a env' H' h
 cases a with
 |normal=>
  obtain ⟨h1,h2,ρ,h3⟩:=h
  exact ⟨ρ,⟨k+1,h1,h2⟩,h3,by show n - (k+1)<n - k;omega⟩
 |exit id=>exact h
 |ret=>exact h
theorem a1R {n m:Int} {K:Prop} (h0:0<=n) (h1:n<m) (k:K):(0<=n∧n<m)∧K:=⟨⟨h0,h1⟩,k⟩
theorem f9 {α:Type} {xs:List α} {f:α->List T} {k:Nat} {x:α} {K:List T->Prop} (hx:xs[k]? =some x) (h:K (f x)):∃row,0<=(k:Int)∧(xs.map f)[(k:Int).toNat]? =some row∧K row:=
 ⟨f x,by omega,by simp [hx],h⟩
theorem F6 {α:Type} {xs:List α} {f:α->List T} {n:Int} {x:α} {K:List T->Prop} (h0:0<=n) (hx:xs[n.toNat]? =some x) (h:K (f x)):∃row,0<=n∧(xs.map f)[n.toNat]? =some row∧K row:=
 ⟨f x,h0,by simp [hx],h⟩
end
end Go.Proofs.YtaejgdbahjjncaaGreat
