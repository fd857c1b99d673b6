/- Part 3. -/
import Derived.Test.YtaejgdbahjjncaaGreatUj2
namespace Go.Proofs.YtaejgdbahjjncaaGreat
set_option linter.unusedVariables false
set_option linter.unusedSimpArgs false
section
open Go.RowKit
section
variable {P:Program} {τ:Tab} {o:Oper} {ev:Operand->S} {H:Hp}
theorem ao6 {w:World} {ι:Io} {M:Ms} {a:Act} (he:S4 w ι M ev a) {args:Array Operand} {caps:List S} {vs:List Value} (hl:vs.length=caps.length)
 (hr:∀j s,caps[j]? =some s->RS w ι M s (vs.getD j undef)):
 (args.toList.map a.eval++vs).length=(args.toList.map ev++caps).length∧∀j s,(args.toList.map ev++caps)[j]? =some s->RS w ι M s ((args.toList.map a.eval++vs).getD j undef):=by
 refine ⟨by simp [hl],fun j s hj=>?_⟩
 by_cases h:j<args.toList.length
 ·rw [lbb (by simpa using h),lba,lbf h] at hj
  injection hj with hj
  subst hj
  rw [lbl,lbb (by simpa using h),lba,lbf h]
  exact he _
 ·rw [lbc (by simpa using h)] at hj
  have:=hr _ s hj
  rw [lbl] at this ⊢
  rw [lbc (by simpa using h)]
  simpa using this
theorem a99 {c:Call} (ho:o.op=.call c) {f:Operand} (hc:c.callee=.value f) {g:FuncId} {caps:List S}
 (hf:∀(a:Act) (w:World) (ι:Io) (M:Ms),S4 w ι M ev a->∃vs:List Value,a.eval f=.func (.func g) #[] vs.toArray∧vs.length=caps.length∧∀j s,caps[j]? =some s->RS w ι M s (vs.getD j undef))
 {Kq:S->List Blk->Prop} {Kg:S->Hp->Prop} (h:b5u P g (c.args.toList.map ev++caps) H Kq Kg):
 (∃ s B,Kq s B∧QOp P o ev H s B)∨(∃ s H',Kg s H'∧GOp P o ev H s H'):=by
 obtain ⟨callee,args,argTypes⟩:=c
 simp only at hc h
 subst hc
 have hex:a8p P g->∀(a:Act) (w:World) (vs:List Value),a.eval f=.func (.func g) #[] vs.toArray->(execOp a.eval o).run P w=.ok (.enter g (args.toList.map a.eval++vs).toArray) w:=by
  rintro ⟨fn,hfn,hb,hnm⟩ a w vs hv
  have hn:fn.body≠none:=by intro e;rw [e] at hb;cases hb
  have e:(args.map a.eval++vs.toArray)=(args.toList.map a.eval++vs).toArray:=by apply Array.ext';simp
  simp [execOp,ho,resolve,hv,Deferred.ofValue,invoke,callFunc,hfn,hn,hnm,e]
 rcases h with ⟨r,B,hq,hk⟩|⟨r,H',hq,hk⟩
 ·refine .inl ⟨r,B,a4U hk,fun a w ι M he hh hm hfr=>?_⟩
  obtain ⟨vs,h1,h2,h3⟩:=hf a w ι M he
  obtain ⟨q1,q2⟩:=ao6 he (args:=args) h2 h3
  exact aj2 (hex hq.1 a w vs h1) (hq.2 w ι M _ q1 q2 hh hm hfr)
 ·refine .inr ⟨r,H',a4U hk,fun a w ι M he hh hm hfr=>?_⟩
  obtain ⟨vs,h1,h2,h3⟩:=hf a w ι M he
  obtain ⟨q1,q2⟩:=ao6 he (args:=args) h2 h3
  exact aj2 (hex hq.1 a w vs h1) (hq.2 w ι M _ q1 q2 hh hm hfr)
theorem a8J (hτ:C0 P τ) {Kq:S->List Blk->Prop} {Kg:S->Hp->Prop} (h:aop P τ ev H o.op Kq Kg):(∃ s B,Kq s B∧QOp P o ev H s B)∨(∃ s H',Kg s H'∧GOp P o ev H s H'):=by
 have one:∀{K:S->Prop},(∀ s,K s->Kq s [])->(∃ s,K s∧QOp P o ev H s [])->(∃ s B,Kq s B∧QOp P o ev H s B)∨(∃ s H',Kg s H'∧GOp P o ev H s H'):=fun hK ⟨s,h1,h2⟩=>.inl ⟨s,[],hK s h1,h2⟩
 generalize hop:o.op=op at h
 unfold aop at h
 split at h
 case h_1 x=>rw [a1V] at h;exact .inl ⟨_,_,h,aJ2 x (.inl hop)⟩
 case h_2 x=>rw [a1V] at h;exact .inl ⟨_,_,h,aJ2 x (.inr hop)⟩
 case h_3 c x y=>
  split at h
  ·rename_i t hc
   rw [a1V,a1V] at h
   have:=b3s (P:=P) (H:=H) c x y t hop hc
   cases t<;>exact .inl ⟨_,_,h,this⟩
  ·exact h.elim
 case h_4 t x=>exact one (fun _ h=>a4U h) (aJ6 hτ hop h)
 case h_5 t x v=>obtain ⟨H',h1,h2⟩:=av6 hτ hop h;exact .inr ⟨_,_,h1,h2⟩
 case h_6 s x f=>exact one (fun _ h=>h) (a8e hτ hop h)
 case h_7 t x i=>exact one (fun _ h=>h) (a8a hτ hop h)
 case h_8 t x lo hi max=>exact one (fun _ h=>h) (au2 hτ hop h)
 case h_9 op t x y yt=>exact one (fun _ h=>h) (aU4 hτ hop h)
 case h_10 op t x=>exact one (fun _ h=>h) (b2a hop h)
 case h_11 src dst x=>exact one (fun _ h=>h) (aI9 hτ hop h)
 case h_12 t l c=>
  rw [a0K,Nat.zero_add] at h
  exact .inl (aE5 hτ hop h)
 case h_13 t parts=>exact one (fun _ h=>h) (aB1 hτ hop h)
 case h_14 t n parts=>
  rw [a0K,Nat.zero_add] at h
  exact .inl (a7w hτ hop h)
 case h_15 t x=>
  rw [a0K,Nat.zero_add] at h
  exact .inl (aV5 hop h)
 case h_16 t=>
  rw [a0K,Nat.zero_add] at h
  exact .inl (aB8 hτ hop h)
 case h_17 x i=>
  split at h
  ·rename_i ss hx
   obtain ⟨s,h1,h2⟩:=N1 h
   exact .inl ⟨_,_,a4U h2,ab0 hop hx h1⟩
  ·exact h.elim
 case h_18 fn first caps=>
  split at h
  ·rename_i cs hf hcs
   have hcs:=b1N hcs
   split at h
   ·rename_i ts hts
    rw [a84 hts] at hcs
    exact .inl ⟨_,_,h,a8w hop hf hcs⟩
   ·exact .inl ⟨_,_,h,a9p hop hf hcs⟩
  ·exact h.elim
 case h_19 c=>
  split at h
  ·rename_i hc
   split at h
   ·rename_i t ts x xs ht hx
    exact one (fun _ h=>h) (aU1 hτ hop hc ht hx h)
   ·exact h.elim
  ·rename_i hc
   split at h
   ·rename_i t t' s x ht hx
    cases hb:Nat.beq t t' with
    |true=>
     rw [hb,cond_true] at h
     obtain rfl:t=t':=by simpa using hb
     rw [a0K,Nat.zero_add] at h
     exact ak6 hτ hop hc ht hx h
    |false=>
     rw [hb,cond_false,a0K,Nat.zero_add] at h
     exact .inl (aI7 hτ hop hc ht hx h)
   ·exact h.elim
  ·rename_i hc
   split at h
   ·rename_i t x ht hx
    exact one (fun _ h=>h) (aQ3 hτ hop hc ht hx h)
   ·exact h.elim
  ·rename_i hc
   split at h
   ·rename_i t t' s x ht hx
    obtain ⟨hb,h'⟩:=C5 h
    obtain rfl:t=t':=by simpa using hb
    exact .inr (aJ7 hτ hop hc ht hx h')
   ·exact h.elim
  ·rename_i hc
   split at h
   ·rename_i t x ht hx
    exact .inr (au8 hτ hop hc ht hx h)
   ·exact h.elim
  ·rename_i hc
   exact one (fun _ h=>h) (ah3 false hop hc h)
  ·rename_i hc
   exact one (fun _ h=>h) (ah3 true hop hc h)
  ·rename_i f hc
   split at h
   ·rename_i g caps hf
    refine a99 hop hc (fun a w ι M he=>?_) h
    have hr:=(he.to hf).inv_t
    generalize a.eval f=v at *
    cases hr with
    |fn vs hl hr=>
     refine ⟨vs,rfl,by simpa using hl,fun j s hj=>?_⟩
     rw [lba] at hj
     cases hj':caps[j]? with
     |none=>rw [hj'] at hj;cases hj
     |some c=>
      rw [hj'] at hj
      injection hj with hj
      subst hj
      exact .c (.t (hr j c hj'))
   ·rename_i g caps hf
    refine a99 hop hc (fun a w ι M he=>?_) h
    have hr:=(he.to hf).inv_c
    generalize a.eval f=v at *
    cases hr with
    |fn vs hl hr=>
     refine ⟨vs,rfl,by simpa using hl,fun j s hj=>?_⟩
     rw [lba] at hj
     cases hj':caps[j]? with
     |none=>rw [hj'] at hj;cases hj
     |some c=>
      rw [hj'] at hj
      injection hj with hj
      subst hj
      exact .c (hr j c hj')
   ·exact h.elim
  ·exact h.elim
 case h_20 x=>exact one (fun _ h=>h) (aY4 hop h)
 case h_21=>exact h.elim
end
end
section
open Go.RowKit
def aj6 (dst:Option Tmp) (s:S) (env:Env) (k:Env->Prop):Prop:=
 match dst with
 |none=>k env
 |some d=>a5E d s env k
def aI3 (dst:Option Tmp) (s:S) (env:Env):Env:=
 match dst with
 |none=>env
 |some d=>env.set d s
theorem a2M {dst:Option Tmp} {s:S} {env:Env} {k:Env->Prop}:aj6 dst s env k↔k (aI3 dst s env):=by
 cases dst with
 |none=>rfl
 |some d=>exact L4
abbrev aN4:S:=.tup []
theorem RS.skip {w:World} {ι:Io} {M:Ms}:RS w ι M aN4 undef:=.tup [] rfl (by simp)
def aW3 (ops:List Oper) (o:Oper) (env:Env) (X Y:Prop):Prop:=
 match o.guard with
 |none=>X
 |some (j,want)=>match ops[j]? with
  |none=>False
  |some oj=>match oj.dst with
   |none=>False
   |some d=>match H4 env (.tmp d) with
    |.c (.t (.atm (.bool b)))=>match want with
     |true=>cond b X Y
     |false=>cond b Y X
    |.tup _=>Y
    |_=>False
def a3X (acc:List Nat) (o:Oper):Nat:=o.after.toList.foldl (fun s e=>cond (Region.binds .any e) (s ||| (1 <<< e.on) ||| acc.getD e.on 0) s) 0
def a2b:List Oper->List Nat->List Nat
 |[],acc=>acc
 |o::r,acc=>a2b r (acc++[a3X acc o])
def a16 (ops:List Oper):List Nat:=a2b ops []
def a03 (ops:List Oper) (o:Oper):List Nat:=
 (o.op.operands.toList.filterMap fun x=>match x with|.tmp t=>some t|_=>none)++
 (match o.guard with
  |some (j,_)=>match ops[j]? with
   |some oj=>oj.dst.toList
   |none=>[]
  |none=>[])
def Y0 (ops:List Oper) (i:Nat):List Nat:=(List.range i).filter fun j=>!((a16 ops).getD i 0).testBit j
def a0P (ops:List Oper) (i j:Nat):Bool:=match ops[j]? with
 |some o=>o.guard.isNone && o.dst.isSome && (a03 ops o).all fun t=>ops.zipIdx.all fun y=>match y.1.dst with
  |some d=>!(Nat.beq d t) || Nat.blt y.2 j || Nat.blt i y.2
  |none=>true
 |none=>false
def I7 (ops:List Oper) (i:Nat):Bool:=
 ((List.range ops.length).all fun j=>cond (Nat.blt i j) (((a16 ops).getD j 0).testBit i) true) && (Y0 ops i).all (a0P ops i)
def a29 (P:Program) (τ:Tab) (ops:List Oper) (env:Env) (H':Hp) (K:Prop):List Nat->Prop
 |[]=>K
 |j::r=>match ops[j]? with
  |some o=>match o.dst with
   |some d=>aop P τ (H4 env) H' o.op (fun s B=>(B=[]∧s=H4 env (.tmp d))∧a29 P τ ops env H' K r) (fun _ _=>False)
   |none=>False
  |none=>False
def b4K (P:Program) (τ:Tab) (ops:List Oper) (drawn:Bool) (o:Oper) (ih:Nat->Env->Hp->(Env->Hp->Prop)->Prop) (i:Nat) (env:Env) (H:Hp) (K:Env->Hp->Prop):Prop:=
 aW3 ops o env
  (aop P τ (H4 env) H o.op (fun s B=>aj6 o.dst s env fun env'=>ad7 H B fun H'=>ih (i+1) env' H' K)
    (fun s H'=>match drawn with
      |true=>I7 ops i=true∧∃L,Y0 ops i=L∧a29 P τ ops env H' (aj6 o.dst s env fun env'=>ih (i+1) env' H' K) L
      |false=>aj6 o.dst s env fun env'=>ih (i+1) env' H' K))
  (aj6 o.dst aN4 env fun env'=>ih (i+1) env' H K)
def b84 (_:Nat) (env:Env) (H:Hp) (K:Env->Hp->Prop):Prop:=K env H
noncomputable def be0 (P:Program) (τ:Tab) (ops:List Oper) (drawn:Bool) (rest:List Oper):Nat->Env->Hp->(Env->Hp->Prop)->Prop:=
 List.rec (motive:=fun _=>Nat->Env->Hp->(Env->Hp->Prop)->Prop) b84 (fun o _ ih=>b4K P τ ops drawn o ih) rest
noncomputable def a83 (P:Program) (τ:Tab) (ops:List Oper) (drawn:Bool) (i:Nat) (rest:List Oper) (env:Env) (H:Hp) (K:Env->Hp->Prop):Prop:=be0 P τ ops drawn rest i env H K
abbrev a3l (w:World) (ι:Io) (M:Ms) (env:Env) (a:Act):Prop:=∀(t:Nat) (s:S),env[t]? =some s->RS w ι M s (a.tmps.getD t undef)
def Sim (w0:World) (ι0:Io) (M0:Ms) (H0:Hp) (a:Act) (w:World) (env:Env) (H:Hp):Prop:=
 ∃(ι:Io) (M:Ms),a.defers=[]∧a.tmps.size=env.length∧a3l w ι M env a∧j8 w ι M H∧MB w M∧a0f ι H.length∧a3R w0 ι0 M0 H0 w ι M H
theorem a3l.ev {w:World} {ι:Io} {M:Ms} {env:Env} {a:Act} (h:a3l w ι M env a):S4 w ι M (H4 env) a:=by
 intro x
 cases x with
 |tmp t=>
  show RS w ι M (env.getD t .junk) (a.tmps.getD t undef)
  rw [lbl]
  cases ht:env[t]? with
  |none=>exact .junk
  |some s=>exact h t s ht
 |const v=>exact RS.const v
 |global g=>exact .junk
 |func f=>exact .c (.t (.fn [] rfl (by simp)))
theorem a3l.put {w:World} {ι:Io} {M:Ms} {env:Env} {a:Act} (h:a3l w ι M env a) (hsz:a.tmps.size=env.length) {s:S} {v:Value} (hs:RS w ι M s v) (dst:Option Tmp):a3l w ι M (aI3 dst s env) (a.put dst v):=by
 cases dst with
 |none=>exact h
 |some d=>
  intro t s' ht
  simp only [aI3] at ht
  by_cases htd:t=d
  ·subst htd
   have hlt:t<env.length:=by have:=(lbe.1 ht).1;simpa using this
   rw [List.getElem?_set_self hlt] at ht
   injection ht with ht
   subst ht
   show RS w ι M s ((a.tmps.setIfInBounds t v).getD t undef)
   simpa [show t<a.tmps.size by omega] using hs
  ·rw [List.getElem?_set_ne (Ne.symm htd)] at ht
   show RS w ι M s' ((a.tmps.setIfInBounds d v).getD t undef)
   have:=h t s' ht
   rw [Array.getD_eq_getD_getElem?] at this ⊢
   rwa [Array.getElem?_setIfInBounds_ne (Ne.symm htd)]
theorem a2c (dst:Option Tmp) (s:S) (env:Env):(aI3 dst s env).length=env.length:=by cases dst<;>simp [aI3]
theorem a4b (a:Act) (dst:Option Tmp) (v:Value):(a.put dst v).tmps.size=a.tmps.size:=by cases dst<;>simp [Act.put]
theorem a0O (a:Act) (dst:Option Tmp) (v:Value):(a.put dst v).defers=a.defers:=by cases dst<;>rfl
def a5Q (ops:List Oper) (o:Oper) (env:Env) (y:Bool):Prop:=
 match o.guard with
 |none=>y=true
 |some (j,want)=>∃oj d,ops[j]? =some oj∧oj.dst=some d∧((∃ b,H4 env (.tmp d)=f7 b∧y=(b == want))∨∃ss,H4 env (.tmp d)=.tup ss∧y=false)
theorem ae3 {ops:List Oper} {o:Oper} {env:Env} {X Y:Prop} (h:aW3 ops o env X Y):∃y,a5Q ops o env y∧cond y X Y:=by
 unfold aW3 at h
 unfold a5Q
 split at h
 ·exact ⟨true,rfl,h⟩
 ·rename_i j want _
  split at h
  ·exact h.elim
  ·rename_i oj hj
   split at h
   ·exact h.elim
   ·rename_i d hd
    split at h
    ·rename_i b hb
     refine ⟨b == want,⟨oj,d,hj,hd,.inl ⟨b,hb,rfl⟩⟩,?_⟩
     cases want<;>cases b<;>exact h
    ·rename_i ss hb
     exact ⟨false,⟨oj,d,hj,hd,.inr ⟨ss,hb,rfl⟩⟩,h⟩
    ·exact h.elim
theorem a3D {w:World} {ι:Io} {M:Ms} {env:Env} {a:Act} {ops:Array Oper} {o:Oper} {y:Bool} (hsz:a.tmps.size=env.length) (h:a5Q ops.toList o env y)
 (he:∀j want oj d,o.guard=some (j,want)->ops[j]? =some oj->oj.dst=some d->RS w ι M (H4 env (.tmp d)) (a.tmps.getD d undef)):
 Region.wanted o (yielded ops a.tmps)=y:=by
 unfold a5Q at h
 unfold Region.wanted
 cases hg:o.guard with
 |none=>rw [hg] at h;exact h.symm
 |some jw=>
  obtain ⟨j,want⟩:=jw
  rw [hg] at h
  obtain ⟨oj,d,h1,h2,h3⟩:=h
  have h1':ops[j]? =some oj:=by simpa using h1
  have hr:=he j want oj d hg h1' h2
  have hne:H4 env (.tmp d)≠.junk:=by
   rcases h3 with ⟨b,h3,-⟩|⟨ss,h3,-⟩<;>rw [h3]<;>intro h<;>cases h
  have hlt:d<a.tmps.size:=by
   rcases Nat.lt_or_ge d a.tmps.size with hlt|hge
   ·exact hlt
   ·have:H4 env (.tmp d)=.junk:=by
     show env.getD d .junk=_
     rw [lbl,lbd (by omega)];rfl
    exact absurd this hne
  have hy:yielded ops a.tmps j=match a.tmps.getD d undef with|.bool b=>some b|_=>none:=by
   unfold yielded
   rw [h1']
   simp only [Option.bind_some,h2]
   rw [Array.getD_eq_getD_getElem?,Array.getElem?_eq_getElem hlt]
   simp only [Option.getD_some]
   split<;>rename_i hv
   ·injection hv with hv;rw [hv]
   ·split<;>rename_i hv'
    ·exact absurd (congrArg some hv') (hv _)
    ·rfl
  simp only [hy]
  rcases h3 with ⟨b,h3,rfl⟩|⟨ss,h3,rfl⟩
  ·rw [h3] at hr
   rw [hr.inv_atm]
   cases b<;>cases want<;>rfl
  ·rw [h3] at hr
   generalize a.tmps.getD d undef=v at *
   cases hr with
   |tup vs hl hr=>rfl
section
variable {P:Program} {τ:Tab}
theorem Sim.post {w0:World} {ι0:Io} {M0:Ms} {H0:Hp} (hM0:MB w0 M0) {a:Act} {w w':World} {ι:Io} {M:Ms} {env:Env} {H H':Hp} {s:S} {v:Value} (hd:a.defers=[]) (hsz:a.tmps.size=env.length)
 (he:a3l w ι M env a) (hH:j8 w ι M H) (hM:MB w M) (hF:a0f ι H.length) (hst:a3R w0 ι0 M0 H0 w ι M H) (hp:F4 w ι M H s H' v w') (dst:Option Tmp):
 Sim w0 ι0 M0 H0 (a.put dst v) w' (aI3 dst s env) H':=by
 obtain ⟨ι',M',h1,h2,h3,h4,h5⟩:=hp
 have hk:∀b,b<w.heap.size->¬M b->w'.heap[b]? =w.heap[b]?:=fun b hb hnm=>h5.keep b hb fun hl=>hnm (a24.inM hH hl)
 have hi:∀id l,ι id=some l->ι' id=some l:=fun id l hl=>by
  have hlt:id<H.length:=by
   rcases Nat.lt_or_ge id H.length with h|h
   ·exact h
   ·rw [hF id h] at hl;cases hl
  rw [h5.same id hlt,hl]
 refine ⟨ι',M',by rw [a0O,hd],by rw [a4b,a2c,hsz],a3l.put (fun t s ht=>(he t s ht).keep hk h5.mnew hi) hsz h1 dst,h2,h3,h4,hst.trans hM0 h5⟩
theorem b5B (hτ:C0 P τ) {ops:Array Oper} {Q:Exit->Act->World->Prop} {K:Env->Hp->Prop} {w0:World} {ι0:Io} {M0:Ms} {H0:Hp} (hM0:MB w0 M0)
 (hK:∀env H a w,K env H->Sim w0 ι0 M0 H0 a w env H->Q .normal a w):
 ∀(rest:List Oper) (i:Nat) (env:Env) (H:Hp) (a:Act) (w:World),ops.toList.drop i=rest->a83 P τ ops.toList false i rest env H K->Sim w0 ι0 M0 H0 a w env H->
  wpOps P ops Q (List.range' i rest.length) a w:=by
 intro rest
 induction rest with
 |nil=>intro i env H a w _ h hs;exact hK env H a w h hs
 |cons o rest ih=>
  intro i env H a w hd h hs
  have hget:ops[i]? =some o:=by
   have:(ops.toList.drop i)[0]? =some o:=by rw [hd];rfl
   rw [lbj] at this
   simpa using this
  have hd':ops.toList.drop (i+1)=rest:=by
   rw [← List.drop_drop,hd];rfl
  obtain ⟨ι,M,hdf,hsz,he,hH,hM,hF,hst⟩:=hs
  obtain ⟨y,hw,h⟩:=ae3 h
  have hwr:=a3D hsz hw (fun j want oj d _ _ _=>he.ev (.tmp d))
  simp only [lbu,List.range'_succ,wpOps,hget]
  rw [hwr]
  cases y with
  |false=>
   simp only [Bool.false_eq_true,if_false]
   rw [cond_false,a2M] at h
   exact ih (i+1) _ H _ w hd' h ⟨ι,M,by rw [a0O,hdf],by rw [a4b,a2c,hsz],he.put hsz .skip o.dst,hH,hM,hF,hst⟩
  |true=>
   simp only [if_true]
   refine .inl ?_
   rw [cond_true] at h
   rcases a8J hτ h with ⟨s,B,h,hq⟩|⟨s,H',h,hg⟩
   ·rw [a2M,a38] at h
    refine hq a w ι M he.ev hH hM (fun k _=>hF _ (by omega)) _ _ fun v w' hp=>?_
    exact ih (i+1) _ _ _ w' hd' h (Sim.post hM0 hdf hsz he hH hM hF hst (hp.gpost hH hM hF) o.dst)
   ·have h':aj6 o.dst s env fun env'=>a83 P τ ops.toList false (i+1) rest env' H' K:=h
    rw [a2M] at h'
    refine hg a w ι M he.ev hH hM hF _ _ fun v w' hp=>?_
    exact ih (i+1) _ _ _ w' hd' h' (Sim.post hM0 hdf hsz he hH hM hF hst hp o.dst)
end
end
section
open Go.RowKit
def a4y (ops:List Oper):Bool:=ops.zipIdx.all fun x=>x.1.after.toList.all fun e=>!(Region.binds .any e) || Nat.blt e.on x.2
def a6Q (ops:List Oper):Bool:=ops.zipIdx.all fun x=>ops.zipIdx.all fun y=>Nat.beq x.2 y.2 || (match x.1.dst,y.1.dst with|some a,some b=>!(Nat.beq a b)|_,_=>true)
def aN1 (ops:List Oper):Bool:=
 ops.zipIdx.all fun x=>(a03 ops x.1).all fun t=>ops.zipIdx.all fun y=>match y.1.dst with
  |some d=>!(Nat.beq d t) || Nat.beq x.2 y.2 || cond (Nat.blt y.2 x.2) (((a16 ops).getD x.2 0).testBit y.2) (((a16 ops).getD y.2 0).testBit x.2)
  |none=>true
def a95 (ops:List Oper):Bool:=a4y ops && a6Q ops && aN1 ops
theorem a7A:∀(r:List Oper) (acc:List Nat),∃s,a2b r acc=acc++s∧s.length=r.length∧∀i o,r[i]? =some o->s[i]? =some (a3X ((a2b r acc).take (acc.length+i)) o)
 |[],acc=>⟨[],by simp [a2b],rfl,by simp⟩
 |o::r,acc=>by
  obtain ⟨s,h1,h2,h3⟩:=a7A r (acc++[a3X acc o])
  refine ⟨a3X acc o::s,by rw [a2b,h1];simp,by simp [h2],fun i o' hi=>?_⟩
  cases i with
  |zero=>
   simp at hi
   subst hi
   rw [a2b,h1]
   simp
  |succ i=>
   have:=h3 i o' (by simpa using hi)
   rw [a2b]
   simp only [lbq,List.length_singleton] at this
   rw [show acc.length+(i+1)=acc.length+1+i by omega]
   simpa using this
theorem al8 {ops:List Oper} {i:Nat} {o:Oper} (h:ops[i]? =some o):(a16 ops).getD i 0=a3X ((a16 ops).take i) o:=by
 obtain ⟨s,h1,h2,h3⟩:=a7A ops []
 have:=h3 i o h
 simp only [List.nil_append] at h1
 have e:a16 ops=s:=h1
 rw [lbl,e,this]
 simp only [List.length_nil,Nat.zero_add,Option.getD_some]
 rw [← h1]
theorem a2u (acc:List Nat) (j:Nat):∀(es:List Edge) (s0:Nat),
 (es.foldl (fun s e=>cond (Region.binds .any e) (s ||| (1 <<< e.on) ||| acc.getD e.on 0) s) s0).testBit j=true->s0.testBit j=true∨∃e ∈ es,Region.binds .any e=true∧(e.on=j∨(acc.getD e.on 0).testBit j=true)
 |[],s0,h=>.inl h
 |e::es,s0,h=>by
  rw [List.foldl_cons] at h
  rcases a2u acc j es _ h with h|⟨e',h1,h2⟩
  ·cases hb:Region.binds .any e with
   |false=>rw [hb] at h;exact .inl h
   |true=>
    rw [hb] at h
    simp only [cond_true,Nat.testBit_or,lbN,Nat.testBit_shiftLeft] at h
    rcases h with (h|h)|h
    ·exact .inl h
    ·refine .inr ⟨e,by simp,hb,.inl ?_⟩
     simp only [lbM,lbI] at h
     obtain ⟨h1,h2⟩:=h
     have:j - e.on=0:=by
      rcases Nat.eq_zero_or_pos (j - e.on) with h|h
      ·exact h
      ·rw [Nat.testBit_one_eq_true_iff_self_eq_zero] at h2;exact h2
     omega
    ·exact .inr ⟨e,by simp,hb,.inr h⟩
  ·exact .inr ⟨e',by simp [h1],h2⟩
theorem au7 {ops:List Oper} (hb:a4y ops=true) {i:Nat} {o:Oper} (h:ops[i]? =some o) {e:Edge} (he:e ∈ o.after.toList) (hbi:Region.binds .any e=true):e.on<i:=by
 have:=lbv.1 hb (o,i) (by rw [List.mem_zipIdx_iff_getElem?];exact h)
 have:=lbv.1 this e he
 simp only [hbi,Bool.not_true,Bool.false_or,Nat.blt_eq] at this
 exact this
theorem ae0 {ops:List Oper} (hb:a4y ops=true) {S:Nat->Prop} (hS:∀i o,ops[i]? =some o->S i->∀e ∈ o.after.toList,Region.binds .any e=true->S e.on):
 ∀(i:Nat) (o:Oper) (j:Nat),ops[i]? =some o->((a16 ops).getD i 0).testBit j=true->S i->S j:=by
 intro i
 induction i using Nat.strongRecOn with
 |_ i ih=>
  intro o j ho hj hi
  rw [al8 ho] at hj
  rcases a2u _ j _ _ hj with h|⟨e,he,hbi,h⟩
  ·simp at h
  ·have hlt:=au7 hb ho he hbi
   have hs:=hS i o ho hi e he hbi
   rcases h with rfl|h
   ·exact hs
   ·have hio:i<ops.length:=(lbe.1 ho).1
    refine ih e.on hlt ops[e.on] j (lbf (by omega)) ?_ hs
    rw [lbl,List.getElem?_take_of_lt hlt] at h
    rw [lbl]
    exact h
theorem a1E {ops:List Oper} (hb:a4y ops=true) {S:Nat->Prop} (hS:∀i o,ops[i]? =some o->S i->∀e ∈ o.after.toList,Region.binds .any e=true->S e.on)
 {i:Nat} {o:Oper} {j:Nat} (ho:ops[i]? =some o) (hr:∀e ∈ o.after.toList,Region.binds .any e=true->S e.on) (hj:((a16 ops).getD i 0).testBit j=true):S j:=by
 rw [al8 ho] at hj
 rcases a2u _ j _ _ hj with h|⟨e,he,hbi,h⟩
 ·simp at h
 ·have hlt:=au7 hb ho he hbi
  have hs:=hr e he hbi
  rcases h with rfl|h
  ·exact hs
  ·have hio:i<ops.length:=(lbe.1 ho).1
   refine ae0 hb hS e.on ops[e.on] j (lbf (by omega)) ?_ hs
   rw [lbl,List.getElem?_take_of_lt hlt] at h
   rw [lbl]
   exact h
end
section
open Go.RowKit
theorem a7D {ev ev':Operand->S} {x:Option Operand} {d:Int} {k:Int->Prop} (h:∀y,x=some y->ev y=ev' y):O3 ev x d k=O3 ev' x d k:=by
 cases x with
 |none=>rfl
 |some y=>simp only [O3,h y rfl]
theorem as4 {P:Program} {τ:Tab} {ev ev':Operand->S} {H:Hp} {op:Op} {Kq:S->List Blk->Prop} {Kg:S->Hp->Prop} (h:∀x ∈ op.operands.toList,ev x=ev' x):
 aop P τ ev H op Kq Kg=aop P τ ev' H op Kq Kg:=by
 cases op with
 |move x=>simp only [aop,h x (by simp [Op.operands])]
 |assign x=>simp only [aop,h x (by simp [Op.operands])]
 |pick c a b=>simp only [aop,h c (by simp [Op.operands]),h a (by simp [Op.operands]),h b (by simp [Op.operands])]
 |load t x=>simp only [aop,ap8,h x (by simp [Op.operands])]
 |store t x v=>simp only [aop,aA5,h x (by simp [Op.operands]),h v (by simp [Op.operands])]
 |fieldAddr s x f=>simp only [aop,a6F,h x (by simp [Op.operands])]
 |indexAddr t x i=>simp only [aop,a3q,h x (by simp [Op.operands]),h i (by simp [Op.operands])]
 |slice t x lo hi mx=>
  have e1:∀d k,O3 ev lo d k=O3 ev' lo d k:=fun d k=>a7D fun y hy=>h y (by subst hy;simp [Op.operands])
  have e2:∀d k,O3 ev hi d k=O3 ev' hi d k:=fun d k=>a7D fun y hy=>h y (by subst hy;simp [Op.operands])
  cases mx with
  |none=>simp only [aop,a4J,h x (by simp [Op.operands]),e1,e2]
  |some y=>simp only [aop,a4J,h x (by simp [Op.operands]),h y (by simp [Op.operands]),e1,e2]
 |binOp op t x y yt=>simp only [aop,h x (by simp [Op.operands]),h y (by simp [Op.operands])]
 |unOp op t x=>simp only [aop,h x (by simp [Op.operands])]
 |convert s d x=>simp only [aop,h x (by simp [Op.operands])]
 |makeSlice t l c=>simp only [aop,b0c,h l (by simp [Op.operands]),h c (by simp [Op.operands])]
 |build t parts=>
  have e:(parts.toList.map fun p=>(p.1,ev p.2))=parts.toList.map fun p=>(p.1,ev' p.2):=lbp fun p hp=>by rw [h p.2 (by simp only [Op.operands];exact lbx.2 ⟨p,hp,rfl⟩)]
  simp only [aop,ax2,e]
 |buildSlice t n parts=>
  have e:(parts.toList.map fun p=>(p.1,ev p.2))=parts.toList.map fun p=>(p.1,ev' p.2):=lbp fun p hp=>by rw [h p.2 (by simp only [Op.operands];exact lbx.2 ⟨p,hp,rfl⟩)]
  simp only [aop,a2e,e]
 |box t x=>simp only [aop,b7a,h x (by simp [Op.operands])]
 |alloc t=>rfl
 |extract x i=>simp only [aop,h x (by simp [Op.operands])]
 |nilCheck x=>simp only [aop,h x (by simp [Op.operands])]
 |makeFunc fn first caps=>
  have e:caps.toList.map ev=caps.toList.map ev':=lbp fun x hx=>h x (by simp [Op.operands];exact .inr (by simpa using hx))
  simp only [aop,e]
 |call c=>
  obtain ⟨callee,args,ats⟩:=c
  have ea:∀x ∈ args.toList,ev x=ev' x:=fun x hx=>h x (by simp [Op.operands,Call.operands];exact .inr (by simpa using hx))
  have em:args.toList.map ev=args.toList.map ev':=lbp ea
  cases callee with
  |value f=>
   have ef:=h f (by simp [Op.operands,Call.operands])
   simp only [aop,ef,em]
  |invoke r m=>rfl
  |builtin b=>
   cases b with
   |len=>
    simp only [aop]
    split
    ·rename_i t ts x xs h1 h2
     rw [ea x (by rw [h2];simp)]
    ·rfl
   |append=>
    simp only [aop]
    split
    ·rename_i t t' s x h1 h2
     simp only [a9z,b1l,ea s (by rw [h2];simp),ea x (by rw [h2];simp)]
    ·rfl
   |cap=>
    simp only [aop]
    split
    ·rename_i t x h1 h2
     rw [ea x (by rw [h2];simp)]
    ·rfl
   |copy=>
    simp only [aop]
    split
    ·rename_i t t' x s h1 h2
     simp only [b0E,ea x (by rw [h2];simp),ea s (by rw [h2];simp)]
    ·rfl
   |clear=>
    simp only [aop]
    split
    ·rename_i t x h1 h2
     simp only [aB7,ea x (by rw [h2];simp)]
    ·rfl
   |min=>simp only [aop,em]
   |max=>simp only [aop,em]
   |_=>rfl
 |_=>rfl
def evR (o:Oper) (env:Env):Operand->S:=fun x=>
 match x with
 |.tmp t=>cond ((o.op.operands.toList.filterMap fun x=>match x with|.tmp t=>some t|_=>none).contains t) (H4 env (.tmp t)) .junk
 |x=>H4 env x
theorem b3A {o:Oper} {env:Env} {x:Operand} (h:x ∈ o.op.operands.toList):H4 env x=evR o env x:=by
 cases x with
 |tmp t=>
  have:(o.op.operands.toList.filterMap fun x=>match x with|.tmp t=>some t|_=>none).contains t=true:=by
   rw [List.contains_iff_mem,List.mem_filterMap]
   exact ⟨.tmp t,h,rfl⟩
  simp only [evR,this,cond_true]
 |_=>rfl
inductive Kd where
 |skip
 |quiet (B:List Blk)
 |gen
def aD4 (P:Program) (ops:List Oper) (envs:Nat->Env) (hs:Nat->Hp) (rs:Nat->S) (kd:Nat->Kd) (i:Nat):Prop:=
 ∃o,ops[i]? =some o∧envs (i+1)=aI3 o.dst (rs i) (envs i)∧match kd i with
  |.skip=>a5Q ops o (envs i) false∧rs i=aN4∧hs (i+1)=hs i
  |.quiet B=>a5Q ops o (envs i) true∧QOp P o (evR o (envs i)) (hs i) (rs i) B∧hs (i+1)=hs i++B
  |.gen=>a5Q ops o (envs i) true∧GOp P o (evR o (envs i)) (hs i) (rs i) (hs (i+1))∧I7 ops i=true∧∀j ∈ Y0 ops i,∃oj d,ops[j]? =some oj∧oj.dst=some d∧QOp P oj (evR oj (envs i)) (hs (i+1)) (H4 (envs i) (.tmp d)) []
theorem ap4 {P:Program} {τ:Tab} (hτ:C0 P τ) {ops:List Oper} {env:Env} {H':Hp} {K:Prop}:∀{L:List Nat},a29 P τ ops env H' K L->K∧∀j ∈ L,∃oj d,ops[j]? =some oj∧oj.dst=some d∧QOp P oj (evR oj env) H' (H4 env (.tmp d)) []
 |[],h=>⟨h,by simp⟩
 |j::r,h=>by
  unfold a29 at h
  split at h
  ·rename_i o ho
   split at h
   ·rename_i d hd
    have hcong:=as4 (P:=P) (τ:=τ) (H:=H') (op:=o.op) (ev:=H4 env) (ev':=evR o env) (fun x hx=>b3A hx)
     (Kq:=fun s B=>(B=[]∧s=H4 env (.tmp d))∧a29 P τ ops env H' K r) (Kg:=fun _ _=>False)
    rw [hcong] at h
    rcases a8J hτ h with ⟨s,B,⟨⟨rfl,rfl⟩,h⟩,hq⟩|⟨s,H2,h,hg⟩
    ·obtain ⟨h1,h2⟩:=ap4 hτ h
     refine ⟨h1,fun i hi=>?_⟩
     rcases lbA.1 hi with rfl|hi
     ·exact ⟨o,d,ho,hd,hq⟩
     ·exact h2 i hi
    ·exact h.elim
   ·exact h.elim
  ·exact h.elim
theorem aa9 {P:Program} {τ:Tab} (hτ:C0 P τ) {ops:List Oper} {K:Env->Hp->Prop}:∀(rest:List Oper) (i:Nat) (env:Env) (H:Hp),ops.drop i=rest->a83 P τ ops true i rest env H K->
 ∃(envs:Nat->Env) (hs:Nat->Hp) (rs:Nat->S) (kd:Nat->Kd),envs i=env∧hs i=H∧K (envs ops.length) (hs ops.length)∧∀j,i<=j->j<ops.length->aD4 P ops envs hs rs kd j
 |[],i,env,H,hd,h=>⟨fun _=>env,fun _=>H,fun _=>.junk,fun _=>.skip,rfl,rfl,h,fun j h1 h2=>by
    have:=congrArg List.length hd
    simp at this
    omega⟩
 |o::rest,i,env,H,hd,h=>by
  have hget:ops[i]? =some o:=by
   have:(ops.drop i)[0]? =some o:=by rw [hd];rfl
   rw [lbj] at this
   simpa using this
  have hil:i<ops.length:=(lbe.1 hget).1
  have hd':ops.drop (i+1)=rest:=by rw [← List.drop_drop,hd];rfl
  have build:∀(r:S) (k:Kd) (env':Env) (H':Hp),a83 P τ ops true (i+1) rest env' H' K->env'=aI3 o.dst r env->
   (match k with
     |.skip=>a5Q ops o env false∧r=aN4∧H'=H
     |.quiet B=>a5Q ops o env true∧QOp P o (evR o env) H r B∧H'=H++B
     |.gen=>a5Q ops o env true∧GOp P o (evR o env) H r H'∧I7 ops i=true∧∀j ∈ Y0 ops i,∃oj d,ops[j]? =some oj∧oj.dst=some d∧QOp P oj (evR oj env) H' (H4 env (.tmp d)) [])->
   ∃(envs:Nat->Env) (hs:Nat->Hp) (rs:Nat->S) (kd:Nat->Kd),envs i=env∧hs i=H∧K (envs ops.length) (hs ops.length)∧∀j,i<=j->j<ops.length->aD4 P ops envs hs rs kd j:=by
   intro r k env' H' hrest henv hk
   obtain ⟨envs,hs,rs,kd,h1,h2,h3,h4⟩:=aa9 hτ rest (i+1) env' H' hd' hrest
   refine ⟨fun j=>if j=i then env else envs j,fun j=>if j=i then H else hs j,fun j=>if j=i then r else rs j,fun j=>if j=i then k else kd j,by simp,by simp,?_,fun j hj hjl=>?_⟩
   ·simp only [show ¬ops.length=i by omega,if_false];exact h3
   ·by_cases hji:j=i
    ·subst hji
     refine ⟨o,hget,?_,?_⟩
     ·simp only [show ¬j+1=j by omega,if_false,if_true,h1,henv]
     ·simp only [if_true,show ¬j+1=j by omega,if_false,h2]
      exact hk
    ·obtain ⟨o',q1,q2,q3⟩:=h4 j (by omega) hjl
     refine ⟨o',q1,?_,?_⟩
     ·simp only [hji,show ¬j+1=i by omega,if_false];exact q2
     ·simp only [hji,show ¬j+1=i by omega,if_false];exact q3
  obtain ⟨y,hw,h⟩:=ae3 h
  cases y with
  |false=>
   rw [cond_false,a2M] at h
   exact build aN4 .skip _ H h rfl ⟨hw,rfl,rfl⟩
  |true=>
   rw [cond_true] at h
   have hcong:=as4 (P:=P) (τ:=τ) (H:=H) (op:=o.op) (ev:=H4 env) (ev':=evR o env) (fun x hx=>b3A hx)
    (Kq:=fun s B=>aj6 o.dst s env fun env'=>ad7 H B fun H'=>a83 P τ ops true (i+1) rest env' H' K)
    (Kg:=fun s H'=>I7 ops i=true∧∃L,Y0 ops i=L∧a29 P τ ops env H' (aj6 o.dst s env fun env'=>a83 P τ ops true (i+1) rest env' H' K) L)
   have h0:aop P τ (H4 env) H o.op (fun s B=>aj6 o.dst s env fun env'=>ad7 H B fun H'=>a83 P τ ops true (i+1) rest env' H' K)
    (fun s H'=>I7 ops i=true∧∃L,Y0 ops i=L∧a29 P τ ops env H' (aj6 o.dst s env fun env'=>a83 P τ ops true (i+1) rest env' H' K) L):=h
   rw [hcong] at h0
   rcases a8J hτ h0 with ⟨s,B,h,hq⟩|⟨s,H',⟨hb,L,hL,h⟩,hg⟩
   ·rw [a2M,a38] at h
    exact build s (.quiet B) _ _ h rfl ⟨hw,hq,rfl⟩
   ·obtain ⟨h,hl⟩:=ap4 hτ h
    rw [a2M] at h
    exact build s .gen _ H' h rfl ⟨hw,hg,hb,by rw [hL];exact hl⟩
end
section
open Go.RowKit
theorem j8.pre1 {w:World} {ι:Io} {M:Ms} {H X:Hp} (h:j8 w ι M (H++X)):j8 w ι M H:=by
 have e:∀(id:Nat) (k:Blk),H[id]? =some k->(H++X)[id]? =some k:=fun id k hk=>by
  rw [lbb (lbe.1 hk).1];exact hk
 exact ⟨fun id k hk=>h.blk id k (e id k hk),fun id k hk=>h.liv id k (e id k hk),fun id k hk=>h.fro id k (e id k hk),fun id id' k k' hk hk'=>h.inj id id' k k' (e id k hk) (e id' k' hk'),fun id id' k k' hk hk'=>h.old id id' k k' (e id k hk) (e id' k' hk')⟩
theorem j8.extend {w:World} {ι:Io} {M:Ms} {H X:Hp} (h:j8 w ι M H) (hF:a0f ι H.length):j8 w ι M (H++X):=by
 have e:∀(id:Nat) (k:Blk),(H++X)[id]? =some k->∀l,ι id=some l->H[id]? =some k:=fun id k hk l hl=>by
  by_cases hid:id<H.length
  ·rw [lbb hid] at hk;exact hk
  ·rw [hF id (by omega)] at hl;cases hl
 exact ⟨fun id k hk hd l hl=>h.blk id k (e id k hk l hl) hd l hl,fun id k hk hm b c s hl=>h.liv id k (e id k hk _ hl) hm b c s hl,fun id k hk hm b c s hl=>h.fro id k (e id k hk _ hl) hm b c s hl,
  fun id id' k k' hk hk' hm hm' b c s c' s' hl hl'=>h.inj id id' k k' (e id k hk _ hl) (e id' k' hk' _ hl') hm hm' b c s c' s' hl hl',
  fun id id' k k' hk hk' hm hm' b c s c' s' hl hl'=>h.old id id' k k' (e id k hk _ hl) (e id' k' hk' _ hl') hm hm' b c s c' s' hl hl'⟩
theorem I0.insert {w:World} {ι:Io} {M:Ms} {H:Hp} {n:Nat} {s:S} {B:List Blk} {v:Value} {w':World} (hH:j8 w ι M H) (hM:MB w M) (hB:∀k,k<B.length->H[n+k]? =B[k]?)
 (hf:∀k,k<B.length->ι (n+k)=none) (h:I0 w ι M n s B v w'):
 ∃new:Nat->Loc,RS w' (B7 ι n B.length new) (a5T M B.length new) s v∧Ext w w'∧j8 w' (B7 ι n B.length new) (a5T M B.length new) H∧MB w' (a5T M B.length new)∧
  (∀ b,a5T M B.length new b->M b∨w.heap.size<=b)∧(∀ b,a24 (B7 ι n B.length new) H b->a24 ι H b∨w.heap.size<=b):=by
 obtain ⟨new,h1,h2,h3,h4,h5⟩:=h
 have hM':∀b,a5T M B.length new b->M b∨w.heap.size<=b:=by
  rintro b (hb|⟨k,hk,cap,size,he⟩)
  ·exact .inl hb
  ·exact .inr (h4 k b cap size hk he).1
 have hcase:∀id l,B7 ι n B.length new id=some l->(ι id=some l∧¬(n<=id∧id<n+B.length))∨∃k,k<B.length∧id=n+k∧l=new k:=by
  intro id l hl
  unfold B7 at hl
  split at hl
  ·injection hl with hl
   exact .inr ⟨id - n,by omega,by omega,hl.symm⟩
  ·rename_i hc;exact .inl ⟨hl,hc⟩
 have hext:∀id l,ι id=some l->B7 ι n B.length new id=some l:=fun id l hl=>a8r hf hl
 have hlt:∀id b cap size,ι id=some (.blk b cap size)->∀k,H[id]? =some k->k.mode≠.dead->b<w.heap.size:=fun id b cap size hi k hk hd=>by
  obtain ⟨_,_,_,_,_,cur,hc,_⟩:=hH.blk id k hk hd _ hi
  exact B8 hc
 refine ⟨new,h1,h2,⟨?_,?_,?_,?_,?_⟩,?_,hM',?_⟩
 ·intro id k hk hd l hl
  rcases hcase id l hl with ⟨hl,_⟩|⟨j,hj,rfl,rfl⟩
  ·have hb:=hH.blk id k hk hd l hl
   cases l with
   |nil=>exact hb
   |blk b cap size=>
    obtain ⟨q1,q2,q3,q4,q5,cur,q6,q7,q8⟩:=hb
    refine ⟨q1,q2,q3,q4,q5,cur,(h2.keep b (B8 q6)).trans q6,q7,fun i j c hc=>?_⟩
    obtain ⟨u,hu,hr⟩:=q8 i j c hc
    exact ⟨u,hu,hr.keep (fun b hb _=>h2.keep b hb) hM' hext⟩
  ·rw [hB j hj] at hk
   exact (h3 j k hk).2
 ·intro id k hk hm b cap size hl
  rcases hcase id _ hl with ⟨hl,_⟩|⟨j,hj,rfl,he⟩
  ·exact .inl (hH.liv id k hk hm b cap size hl)
  ·exact .inr ⟨j,hj,cap,size,he.symm⟩
 ·intro id k hk hm b cap size hl
  rcases hcase id _ hl with ⟨hl,_⟩|⟨j,hj,rfl,he⟩
  ·have hb:=hlt id b cap size hl k hk (by rw [hm];intro h;cases h)
   rintro (h|⟨k',hk',cap',size',he⟩)
   ·exact hH.fro id k hk hm b cap size hl h
   ·have:=(h4 _ _ _ _ hk' he).1;omega
  ·rw [hB j hj] at hk
   have:=(h3 j k hk).1
   rw [hm] at this;cases this
 ·intro id id' k k' hk hk' hm hm' b cap size cap' size' hl hl'
  rcases hcase id _ hl with ⟨hl,_⟩|⟨j,hj,rfl,he⟩<;>rcases hcase id' _ hl' with ⟨hl',_⟩|⟨j',hj',rfl,he'⟩
  ·exact hH.inj id id' k k' hk hk' hm hm' b cap size cap' size' hl hl'
  ·have:=hlt id b cap size hl k hk (by rw [hm];intro h;cases h)
   have:=(h4 _ _ _ _ hj' he'.symm).1
   omega
  ·have:=hlt id' b cap' size' hl' k' hk' (by rw [hm'];intro h;cases h)
   have:=(h4 _ _ _ _ hj he.symm).1
   omega
  ·have:=h5 _ _ _ _ _ _ _ hj hj' he.symm he'.symm
   omega
 ·intro id id' k k' hk hk' hm hm' b cap size cap' size' hl hl'
  rcases hcase id _ hl with ⟨hl,_⟩|⟨j,hj,rfl,he⟩
  ·rcases hcase id' _ hl' with ⟨hl',_⟩|⟨j',hj',rfl,he'⟩
   ·exact hH.old id id' k k' hk hk' hm hm' b cap size cap' size' hl hl'
   ·have:=hlt id b cap size hl k hk (by rw [hm];intro h;cases h)
    have:=(h4 _ _ _ _ hj' he'.symm).1
    omega
  ·rw [hB j hj] at hk
   have:=(h3 j k hk).1
   rw [hm] at this;cases this
 ·rintro b (hb|⟨k,hk,cap,size,he⟩)
  ·exact Nat.lt_of_lt_of_le (hM b hb) h2.size
  ·exact (h4 k b cap size hk he).2
 ·rintro b ⟨id,k,cap,size,hk,hm,hl⟩
  rcases hcase id _ hl with ⟨hl,_⟩|⟨j,hj,rfl,he⟩
  ·exact .inl ⟨id,k,cap,size,hk,hm,hl⟩
  ·exact .inr (h4 _ _ _ _ hj he.symm).1
section
variable {P:Program} {ops:Array Oper} {envs:Nat->Env} {hs:Nat->Hp} {rs:Nat->S} {kd:Nat->Kd}
def D4 (ops:Array Oper) (i:Nat):Option Nat:=(ops[i]?).bind (·.dst)
theorem a32 (hd:a6Q ops.toList=true) {i j t:Nat} (hi:D4 ops i=some t) (hj:D4 ops j=some t):i=j:=by
 unfold D4 at hi hj
 cases hoi:ops[i]? with
 |none=>rw [hoi] at hi;cases hi
 |some oi=>
  cases hoj:ops[j]? with
  |none=>rw [hoj] at hj;cases hj
  |some oj=>
   rw [hoi] at hi
   rw [hoj] at hj
   have hi:oi.dst=some t:=hi
   have hj:oj.dst=some t:=hj
   have:=lbv.1 hd (oi,i) (by rw [List.mem_zipIdx_iff_getElem?];simpa using hoi)
   have:=lbv.1 this (oj,j) (by rw [List.mem_zipIdx_iff_getElem?];simpa using hoj)
   simp only [hi,hj,Nat.beq_refl,Bool.not_true,Bool.or_false] at this
   exact Nat.eq_of_beq_eq_true this
theorem a7v (hd:aN1 ops.toList=true) {i j t:Nat} {oi:Oper} (hi:ops[i]? =some oi) (hr:t ∈ a03 ops.toList oi) (hj:D4 ops j=some t) (hne:i≠j):
 (j<i->((a16 ops.toList).getD i 0).testBit j=true)∧(i<j->((a16 ops.toList).getD j 0).testBit i=true):=by
 unfold D4 at hj
 cases hoj:ops[j]? with
 |none=>rw [hoj] at hj;cases hj
 |some oj=>
  rw [hoj] at hj
  have hj:oj.dst=some t:=hj
  have:=lbv.1 hd (oi,i) (by rw [List.mem_zipIdx_iff_getElem?];simpa using hi)
  have:=lbv.1 this t hr
  have:=lbv.1 this (oj,j) (by rw [List.mem_zipIdx_iff_getElem?];simpa using hoj)
  simp only [hj,Nat.beq_refl,Bool.not_true,Bool.false_or,lbN] at this
  have this:=this.resolve_left (fun h=>hne (Nat.eq_of_beq_eq_true h))
  refine ⟨fun hlt=>?_,fun hlt=>?_⟩
  ·rw [show Nat.blt j i=true by rw [Nat.blt_eq];exact hlt] at this
   simpa using this
  ·rw [show Nat.blt j i=false by rw [← lbP,Nat.blt_eq];omega] at this
   simpa using this
theorem ak5 {i j:Nat} (hb:I7 ops.toList i=true) (hj:j<ops.size) (hlt:i<j):((a16 ops.toList).getD j 0).testBit i=true:=by
 unfold I7 at hb
 rw [lbM] at hb
 have:=lbv.1 hb.1 j (by simpa using hj)
 rw [show Nat.blt i j=true by rw [Nat.blt_eq];exact hlt] at this
 simpa using this
theorem ai0 {i j:Nat} (hlt:j<i) (hno:j ∉ Y0 ops.toList i):((a16 ops.toList).getD i 0).testBit j=true:=by
 unfold Y0 at hno
 rw [lby] at hno
 cases h:((a16 ops.toList).getD i 0).testBit j with
 |true=>rfl
 |false=>exact absurd ⟨lbB.2 hlt,by rw [h];rfl⟩ hno
theorem aA6 {i j:Nat} (hb:I7 ops.toList i=true) (hj:j ∈ Y0 ops.toList i):a0P ops.toList i j=true:=by
 unfold I7 at hb
 rw [lbM] at hb
 exact lbv.1 hb.2 j hj
theorem a4q {i j y t d:Nat} {oj:Oper} (hf:a0P ops.toList i j=true) (hoj:ops[j]? =some oj) (ht:t ∈ a03 ops.toList oj) (hy:D4 ops y=some t):y<j∨i<y:=by
 unfold a0P at hf
 have hoj':ops.toList[j]? =some oj:=by simpa using hoj
 rw [hoj'] at hf
 simp only [lbM] at hf
 have:=lbv.1 hf.2 t ht
 unfold D4 at hy
 cases hoy:ops[y]? with
 |none=>rw [hoy] at hy;cases hy
 |some oy=>
  rw [hoy] at hy
  have hy:oy.dst=some t:=hy
  have:=lbv.1 this (oy,y) (by rw [List.mem_zipIdx_iff_getElem?];simpa using hoy)
  simp only [hy,Nat.beq_refl,Bool.not_true,Bool.false_or,lbN,Nat.blt_eq] at this
  exact this
theorem aT0 {i j:Nat} {oj:Oper} (hf:a0P ops.toList i j=true) (hoj:ops[j]? =some oj):oj.guard=none:=by
 unfold a0P at hf
 have hoj':ops.toList[j]? =some oj:=by simpa using hoj
 rw [hoj'] at hf
 simp only [lbM] at hf
 simpa using hf.1.1
variable (hT:∀j,j<ops.size->aD4 P ops.toList envs hs rs kd j)
include hT
theorem a7W {p j:Nat} (hpj:p<=j) (hj:j<=ops.size):(envs j).length=(envs p).length:=by
 induction j with
 |zero=>obtain rfl:p=0:=by omega
        rfl
 |succ j ih=>
  by_cases h:p=j+1
  ·subst h;rfl
  ·obtain ⟨o,_,h1,_⟩:=hT j (by omega)
   rw [h1,a2c,ih (by omega) (by omega)]
theorem a4k {p j t:Nat} (hpj:p<=j) (hj:j<=ops.size) (hno:∀i,p<=i->i<j->D4 ops i≠some t):(envs j)[t]? =(envs p)[t]?:=by
 induction j with
 |zero=>obtain rfl:p=0:=by omega
        rfl
 |succ j ih=>
  by_cases h:p=j+1
  ·subst h;rfl
  ·obtain ⟨o,ho,h1,_⟩:=hT j (by omega)
   have hn:=hno j (by omega) (by omega)
   have ho':ops[j]? =some o:=by simpa using ho
   unfold D4 at hn
   rw [ho'] at hn
   rw [h1,←ih (by omega) (by omega) (fun i h1 h2=>hno i h1 (by omega))]
   cases hd:o.dst with
   |none=>rfl
   |some d=>
    have:d≠t:=fun e=>hn (by show o.dst=some t;rw [hd,e])
    show ((envs j).set d (rs j))[t]? =_
    rw [List.getElem?_set_ne this]
theorem aS7 (hdo:a6Q ops.toList=true) {p i j t:Nat} (hpi:p<=i) (hij:i<j) (hj:j<=ops.size) (hd:D4 ops i=some t) (ht:t<(envs p).length):(envs j)[t]? =some (rs i):=by
 have h0:(envs j)[t]? =(envs (i+1))[t]?:=a4k hT (by omega) hj fun i' h1 h2 he=>by
  have:=a32 hdo hd he
  omega
 obtain ⟨o,ho,h1,_⟩:=hT i (by omega)
 have ho':ops[i]? =some o:=by simpa using ho
 unfold D4 at hd
 rw [ho'] at hd
 have hd:o.dst=some t:=hd
 rw [h0,h1,hd]
 show ((envs i).set t (rs i))[t]? =_
 rw [List.getElem?_set_self (by rw [a7W hT hpi (by omega)];exact ht)]
theorem P2 {i j:Nat} (hij:i<=j) (hj:j<=ops.size) (hno:∀k,i<=k->k<j->kd k≠.gen):∃X,hs j=hs i++X:=by
 induction j with
 |zero=>obtain rfl:i=0:=by omega
        exact ⟨[],by simp⟩
 |succ j ih=>
  by_cases h:i=j+1
  ·subst h;exact ⟨[],by simp⟩
  ·obtain ⟨X,hX⟩:=ih (by omega) (by omega) (fun k h1 h2=>hno k h1 (by omega))
   obtain ⟨o,_,_,h2⟩:=hT j (by omega)
   have hg:=hno j (by omega) (by omega)
   cases hk:kd j with
   |skip=>rw [hk] at h2;exact ⟨X,by rw [h2.2.2,hX]⟩
   |quiet B=>rw [hk] at h2;exact ⟨X++B,by rw [h2.2.2,hX,lbD]⟩
   |gen=>exact absurd hk hg
end
def bg6 (P:Program) (ops:Array Oper) (envs:Nat->Env) (hs:Nat->Hp) (j p:Nat):Prop:=
 (∃ q,p=q+1∧a0P ops.toList q j=true)∧∃oj d,ops[j]? =some oj∧oj.dst=some d∧QOp P oj (evR oj (envs p)) (hs p) (H4 (envs p) (.tmp d)) []
structure a6d (P:Program) (ops:Array Oper) (envs:Nat->Env) (hs:Nat->Hp) (rs:Nat->S) (kd:Nat->Kd) (w0:World) (ι0:Io) (M0:Ms) (H0:Hp) (listed:Array Bool) (a:Act) (w:World) (p q:Nat):Prop where
 hpq:p<=q
 hqn:q<=ops.size
 seg:∀j,p<=j->j<q->kd j≠.gen
 fin:q=ops.size∨kd q=.gen
 h0:H0.length<=(hs p).length
 lsz:listed.size=ops.size
 low:∀j,j<p->listed.getD j false=true∨bg6 P ops envs hs j p
 high:∀j,q<=j->listed.getD j false=false
 closed:∀i o,ops[i]? =some o->listed.getD i false=true->∀e ∈ o.after.toList,Region.binds .any e=true->listed.getD e.on false=true
 rel:∃(ι:Io) (M:Ms),a.defers=[]∧a.tmps.size=(envs p).length∧
  (∀ i t,p<=i->listed.getD i false=true->D4 ops i=some t->t<(envs p).length->RS w ι M (rs i) (a.tmps.getD t undef))∧
  (∀ t s,(∀ i,p<=i->listed.getD i false=true->D4 ops i≠some t)->(∀ i,i<p->listed.getD i false=false->D4 ops i≠some t)->(envs p)[t]? =some s->RS w ι M s (a.tmps.getD t undef))∧
  j8 w ι M (hs q)∧MB w M∧(∀ i B,p<=i->i<q->listed.getD i false=false->kd i=.quiet B->∀k,k<B.length->ι ((hs i).length+k)=none)∧
  a0f ι (hs q).length∧a3R w0 ι0 M0 H0 w ι M (hs q)
end
section
open Go.RowKit
section
variable {P:Program} {ops:Array Oper} {envs:Nat->Env} {hs:Nat->Hp} {rs:Nat->S} {kd:Nat->Kd}
variable {w0:World} {ι0:Io} {M0:Ms} {H0:Hp} {listed:Array Bool} {a:Act} {w:World} {p q:Nat}
theorem a6d.full (hT:∀j,j<ops.size->aD4 P ops.toList envs hs rs kd j) (hdo:a6Q ops.toList=true) (hI:a6d P ops envs hs rs kd w0 ι0 M0 H0 listed a w p q) (hall:∀j,j<q->listed.getD j false=true):
 Sim w0 ι0 M0 H0 a w (envs q) (hs q):=by
 obtain ⟨ι,M,hd,hsz,h1,h2,hH,hM,hf,hF,hst⟩:=hI.rel
 refine ⟨ι,M,hd,by rw [hsz,a7W hT hI.hpq hI.hqn],fun t s ht=>?_,hH,hM,hF,hst⟩
 have htl:t<(envs p).length:=by rw [← a7W hT hI.hpq hI.hqn];exact (lbe.1 ht).1
 by_cases hex:∃i,p<=i∧i<q∧D4 ops i=some t
 ·obtain ⟨i,h3,h4,h5⟩:=hex
  rw [aS7 hT hdo h3 h4 hI.hqn h5 htl] at ht
  injection ht with ht
  subst ht
  exact h1 i t h3 (hall i h4) h5 htl
 ·have hno:∀i,p<=i->i<q->D4 ops i≠some t:=fun i h3 h4 h5=>hex ⟨i,h3,h4,h5⟩
  rw [a4k hT hI.hpq hI.hqn hno] at ht
  refine h2 t s (fun i h3 h4=>hno i h3 ?_) (fun i h3 h4=>?_) ht
  ·rcases Nat.lt_or_ge i q with h|h
   ·exact h
   ·rw [hI.high i h] at h4;cases h4
  ·have:=hI.hpq
   rw [hall i (by omega)] at h4;cases h4
theorem a6d.reads (hT:∀j,j<ops.size->aD4 P ops.toList envs hs rs kd j) (hb:a4y ops.toList=true) (hdo:a6Q ops.toList=true) (hdep:aN1 ops.toList=true)
 (hI:a6d P ops envs hs rs kd w0 ι0 M0 H0 listed a w p q) {ι:Io} {M:Ms}
 (h1:∀i t,p<=i->listed.getD i false=true->D4 ops i=some t->t<(envs p).length->RS w ι M (rs i) (a.tmps.getD t undef))
 (h2:∀t s,(∀ i,p<=i->listed.getD i false=true->D4 ops i≠some t)->(∀ i,i<p->listed.getD i false=false->D4 ops i≠some t)->(envs p)[t]? =some s->RS w ι M s (a.tmps.getD t undef))
 {i:Nat} {o:Oper} (ho:ops[i]? =some o) (hpi:p<=i) (hiN:i<=ops.size) (hun:listed.getD i false=false) (hready:∀e ∈ o.after.toList,Region.binds .any e=true->listed.getD e.on false=true)
 {t:Nat} (ht:t ∈ a03 ops.toList o):RS w ι M (H4 (envs i) (.tmp t)) (a.tmps.getD t undef):=by
 show RS w ι M ((envs i).getD t .junk) _
 rw [lbl]
 have ho':ops.toList[i]? =some o:=by simpa using ho
 have hS:∀i o,ops.toList[i]? =some o->(listed.getD i false=true)->∀e ∈ o.after.toList,Region.binds .any e=true->listed.getD e.on false=true:=fun i o h=>hI.closed i o (by simpa using h)
 have hlow:∀j,j<p->listed.getD j false=false->D4 ops j≠some t:=fun j hj hl hd=>by
  obtain ⟨m1,m2⟩:=a7v hdep ho ht hd (by omega)
  have:=a1E hb hS ho' hready (m1 (by omega))
  rw [hl] at this;cases this
 cases hg:(envs i)[t]? with
 |none=>exact .junk
 |some s=>
  have htl:t<(envs p).length:=by rw [← a7W hT hpi hiN];exact (lbe.1 hg).1
  show RS w ι M s _
  by_cases hex:∃j,p<=j∧j≠i∧D4 ops j=some t
  ·obtain ⟨j,hpj,hne,hj⟩:=hex
   obtain ⟨m1,m2⟩:=a7v hdep ho ht hj (Ne.symm hne)
   rcases Nat.lt_or_gt_of_ne hne with hlt|hgt
   ·have hl:=a1E hb hS ho' hready (m1 hlt)
    rw [aS7 hT hdo hpj hlt hiN hj htl] at hg
    injection hg with hg
    subst hg
    exact h1 j t hpj hl hj htl
   ·have hjl:listed.getD j false≠true:=fun hjl=>by
     have hoj:∃oj,ops.toList[j]? =some oj:=by
      unfold D4 at hj
      cases h:ops[j]? with
      |none=>rw [h] at hj;cases hj
      |some oj=>exact ⟨oj,by simpa using h⟩
     obtain ⟨oj,hoj⟩:=hoj
     have:=ae0 hb hS j oj i hoj (m2 hgt) hjl
     rw [hun] at this;cases this
    rw [a4k hT hpi hiN (fun i' h3 h4 h5=>by have:=a32 hdo hj h5;omega)] at hg
    refine h2 t s (fun i' h3 h4 h5=>?_) hlow hg
    have:=a32 hdo hj h5
    subst this
    exact hjl h4
  ·have hno:∀i',p<=i'->i'≠i->D4 ops i'≠some t:=fun i' h3 h4 h5=>hex ⟨i',h3,h4,h5⟩
   rw [a4k hT hpi hiN (fun i' h3 h4=>hno i' h3 (by omega))] at hg
   refine h2 t s (fun i' h3 h4=>hno i' h3 ?_) hlow hg
   rintro rfl
   rw [hun] at h4;cases h4
theorem a6d.reads_late (hb:a4y ops.toList=true) (hdo:a6Q ops.toList=true) (hdep:aN1 ops.toList=true)
 (hI:a6d P ops envs hs rs kd w0 ι0 M0 H0 listed a w p q) {ι:Io} {M:Ms}
 (h2:∀t s,(∀ i,p<=i->listed.getD i false=true->D4 ops i≠some t)->(∀ i,i<p->listed.getD i false=false->D4 ops i≠some t)->(envs p)[t]? =some s->RS w ι M s (a.tmps.getD t undef))
 {i r:Nat} {o:Oper} (ho:ops[i]? =some o) (hip:i<p) (hr:p=r+1) (hf:a0P ops.toList r i=true) (hun:listed.getD i false=false) (hready:∀e ∈ o.after.toList,Region.binds .any e=true->listed.getD e.on false=true)
 {t:Nat} (ht:t ∈ a03 ops.toList o):RS w ι M (H4 (envs p) (.tmp t)) (a.tmps.getD t undef):=by
 show RS w ι M ((envs p).getD t .junk) _
 rw [lbl]
 have ho':ops.toList[i]? =some o:=by simpa using ho
 have hS:∀i o,ops.toList[i]? =some o->(listed.getD i false=true)->∀e ∈ o.after.toList,Region.binds .any e=true->listed.getD e.on false=true:=fun i o h=>hI.closed i o (by simpa using h)
 cases hg:(envs p)[t]? with
 |none=>exact .junk
 |some s=>
  refine h2 t s (fun j h3 h4 h5=>?_) (fun j h3 h4 h5=>?_) hg
  ·have hoj:∃oj,ops.toList[j]? =some oj:=by
    unfold D4 at h5
    cases h:ops[j]? with
    |none=>rw [h] at h5;cases h5
    |some oj=>exact ⟨oj,by simpa using h⟩
   obtain ⟨oj,hoj⟩:=hoj
   have:=ae0 hb hS j oj i hoj ((a7v hdep ho ht h5 (by omega)).2 (by omega)) h4
   rw [hun] at this;cases this
  ·by_cases hji:j=i
   ·subst hji
    rcases a4q (d:=0) hf ho ht h5 with h|h<;>omega
   have hlt:j<i:=by
    rcases a4q (d:=0) hf ho ht h5 with h|h
    ·exact h
    ·omega
   have:=a1E hb hS ho' hready ((a7v hdep ho ht h5 (by omega)).1 hlt)
   rw [h4] at this;cases this
theorem a2G {listed:Array Bool} {i:Nat} (h:i<listed.size):(listed.setIfInBounds i true).getD i false=true:=by simp [h]
theorem X3 {listed:Array Bool} {i j:Nat} (h:(listed.setIfInBounds i true).getD j false=true):j=i∨listed.getD j false=true:=by
 by_cases hij:i=j
 ·exact .inl hij.symm
 ·rw [getD_set_ne false hij] at h;exact .inr h
theorem a6d.step (hT:∀j,j<ops.size->aD4 P ops.toList envs hs rs kd j) (hI:a6d P ops envs hs rs kd w0 ι0 M0 H0 listed a w p q) (hd:a.defers=[]) (hsz:a.tmps.size=(envs p).length)
 {i:Nat} {o:Oper} (ho:ops[i]? =some o) (hpi:p<=i) (hiq:i<q) (hun:listed.getD i false=false) (hready:∀e ∈ o.after.toList,Region.binds .any e=true->listed.getD e.on false=true)
 (hdo:a6Q ops.toList=true) {v:Value} {w':World} {ι':Io} {M':Ms}
 (h1:∀i t,p<=i->listed.getD i false=true->D4 ops i=some t->t<(envs p).length->RS w' ι' M' (rs i) (a.tmps.getD t undef))
 (h2:∀t s,(∀ i,p<=i->listed.getD i false=true->D4 ops i≠some t)->(∀ i,i<p->listed.getD i false=false->D4 ops i≠some t)->(envs p)[t]? =some s->RS w' ι' M' s (a.tmps.getD t undef))
 (hr:RS w' ι' M' (rs i) v) (hH:j8 w' ι' M' (hs q)) (hM:MB w' M')
 (hf:∀j B,p<=j->j<q->j≠i->listed.getD j false=false->kd j=.quiet B->∀k,k<B.length->ι' ((hs j).length+k)=none) (hF:a0f ι' (hs q).length) (hst:a3R w0 ι0 M0 H0 w' ι' M' (hs q)):
 a6d P ops envs hs rs kd w0 ι0 M0 H0 (listed.setIfInBounds i true) (a.put o.dst v) w' p q:=by
 have hil:i<listed.size:=by rw [hI.lsz];exact (lb4.1 ho).1
 have hdi:D4 ops i=o.dst:=by unfold D4;rw [ho];rfl
 refine ⟨hI.hpq,hI.hqn,hI.seg,hI.fin,hI.h0,by simpa using hI.lsz,fun j hj=>?_,fun j hj=>?_,?_,ι',M',by rw [a0O,hd],by rw [a4b,hsz],?_,?_,hH,hM,?_,hF,hst⟩
 ·exact (hI.low j hj).imp (fun h=>getD_set_true h) id
 ·rw [getD_set_ne false (by omega)];exact hI.high j hj
 ·intro j oj hoj hl e he hb
  rcases X3 hl with rfl|hl
  ·rw [ho] at hoj
   injection hoj with hoj
   subst hoj
   exact getD_set_true (hready e he hb)
  ·exact getD_set_true (hI.closed j oj hoj hl e he hb)
 ·intro j t hpj hl hdj htl
  by_cases hji:j=i
  ·subst hji
   rw [hdi] at hdj
   rw [hdj]
   show RS w' ι' M' (rs j) ((a.tmps.setIfInBounds t v).getD t undef)
   simpa [show t<a.tmps.size by omega] using hr
  ·have hl':=(X3 hl).resolve_left hji
   have hne:o.dst≠some t:=fun h=>by rw [← hdi] at h;exact hji (a32 hdo hdj h)
   have:=h1 j t hpj hl' hdj htl
   cases hdd:o.dst with
   |none=>exact this
   |some d=>
    have:d≠t:=fun e=>hne (by rw [hdd,e])
    show RS w' ι' M' (rs j) ((a.tmps.setIfInBounds d v).getD t undef)
    rw [Array.getD_eq_getD_getElem?,Array.getElem?_setIfInBounds_ne this]
    rw [Array.getD_eq_getD_getElem?] at *
    assumption
 ·intro t s hno hno2 hs'
  have hne:o.dst≠some t:=fun h=>hno i hpi (a2G hil) (by rw [hdi,h])
  have:=h2 t s (fun j h3 h4=>hno j h3 (getD_set_true h4)) (fun j h3 h4=>hno2 j h3 (by rw [getD_set_ne false (by omega)];exact h4)) hs'
  cases hdd:o.dst with
  |none=>exact this
  |some d=>
   have hdt:d≠t:=fun e=>hne (by rw [hdd,e])
   show RS w' ι' M' s ((a.tmps.setIfInBounds d v).getD t undef)
   rw [Array.getD_eq_getD_getElem?,Array.getElem?_setIfInBounds_ne hdt]
   rw [Array.getD_eq_getD_getElem?] at this
   exact this
 ·intro j B hpj hjq hl hk
  have hji:j≠i:=by rintro rfl;rw [a2G hil] at hl;cases hl
  rw [getD_set_ne false (Ne.symm hji)] at hl
  exact hf j B hpj hjq hji hl hk
theorem a6d.late (hI:a6d P ops envs hs rs kd w0 ι0 M0 H0 listed a w p q) (hd:a.defers=[]) (hsz:a.tmps.size=(envs p).length)
 {i:Nat} {o:Oper} {d:Nat} (ho:ops[i]? =some o) (hod:o.dst=some d) (hip:i<p) (hready:∀e ∈ o.after.toList,Region.binds .any e=true->listed.getD e.on false=true)
 (hdo:a6Q ops.toList=true) {v:Value} {w':World} {ι':Io} {M':Ms}
 (h1:∀i t,p<=i->listed.getD i false=true->D4 ops i=some t->t<(envs p).length->RS w' ι' M' (rs i) (a.tmps.getD t undef))
 (h2:∀t s,(∀ i,p<=i->listed.getD i false=true->D4 ops i≠some t)->(∀ i,i<p->listed.getD i false=false->D4 ops i≠some t)->(envs p)[t]? =some s->RS w' ι' M' s (a.tmps.getD t undef))
 (hr:RS w' ι' M' (H4 (envs p) (.tmp d)) v) (hH:j8 w' ι' M' (hs q)) (hM:MB w' M')
 (hf:∀j B,p<=j->j<q->listed.getD j false=false->kd j=.quiet B->∀k,k<B.length->ι' ((hs j).length+k)=none) (hF:a0f ι' (hs q).length) (hst:a3R w0 ι0 M0 H0 w' ι' M' (hs q)):
 a6d P ops envs hs rs kd w0 ι0 M0 H0 (listed.setIfInBounds i true) (a.put o.dst v) w' p q:=by
 have hil:i<listed.size:=by rw [hI.lsz];exact (lb4.1 ho).1
 have hdi:D4 ops i=some d:=by unfold D4;rw [ho];exact hod
 have hpq:=hI.hpq
 refine ⟨hI.hpq,hI.hqn,hI.seg,hI.fin,hI.h0,by simpa using hI.lsz,fun j hj=>?_,fun j hj=>?_,?_,ι',M',by rw [a0O,hd],by rw [a4b,hsz],?_,?_,hH,hM,?_,hF,hst⟩
 ·exact (hI.low j hj).imp (fun h=>getD_set_true h) id
 ·rw [getD_set_ne false (by omega)];exact hI.high j hj
 ·intro j oj hoj hl e he hb
  rcases X3 hl with rfl|hl
  ·rw [ho] at hoj
   injection hoj with hoj
   subst hoj
   exact getD_set_true (hready e he hb)
  ·exact getD_set_true (hI.closed j oj hoj hl e he hb)
 ·intro j t hpj hl hdj htl
  have hji:j≠i:=by omega
  have hl':=(X3 hl).resolve_left hji
  have:=h1 j t hpj hl' hdj htl
  have hdt:d≠t:=fun e=>hji (a32 hdo hdj (by rw [← e];exact hdi))
  rw [hod]
  show RS w' ι' M' (rs j) ((a.tmps.setIfInBounds d v).getD t undef)
  rw [Array.getD_eq_getD_getElem?,Array.getElem?_setIfInBounds_ne hdt]
  rw [Array.getD_eq_getD_getElem?] at this
  exact this
 ·intro t s hno hno2 hs'
  rw [hod]
  show RS w' ι' M' s ((a.tmps.setIfInBounds d v).getD t undef)
  by_cases hdt:d=t
  ·subst hdt
   have htl:=(lbe.1 hs').1
   have he:H4 (envs p) (.tmp d)=s:=by
    show (envs p).getD d .junk=s
    rw [lbl,hs'];rfl
   rw [he] at hr
   simpa [show d<a.tmps.size by omega] using hr
  ·have:=h2 t s (fun j h3 h4=>hno j h3 (getD_set_true h4)) (fun j h3 h4 h5=>by
    by_cases hji:j=i
    ·subst hji;rw [hdi] at h5;injection h5 with h5;exact hdt h5
    ·exact hno2 j h3 (by rw [getD_set_ne false (Ne.symm hji)];exact h4) h5) hs'
   rw [Array.getD_eq_getD_getElem?,Array.getElem?_setIfInBounds_ne hdt]
   rw [Array.getD_eq_getD_getElem?] at this
   exact this
 ·intro j B hpj hjq hl hk
  rw [getD_set_ne false (by omega)] at hl
  exact hf j B hpj hjq hl hk
theorem aN6 (kd:Nat->Kd) (p n:Nat) (h:p<=n):∃q,p<=q∧q<=n∧(∀ j,p<=j->j<q->kd j≠.gen)∧(q=n∨kd q=.gen):=by
 obtain ⟨m,hm⟩:∃m,m=n - p:=⟨_,rfl⟩
 induction m generalizing p with
 |zero=>exact ⟨p,lbQ _,h,fun j _ _=>by omega,.inl (by omega)⟩
 |succ m ih=>
  cases hk:kd p with
  |gen=>exact ⟨p,lbQ _,h,fun j _ _=>by omega,.inr hk⟩
  |skip=>
   obtain ⟨q,h1,h2,h3,h4⟩:=ih (p+1) (by omega) (by omega)
   refine ⟨q,by omega,h2,fun j h5 h6=>?_,h4⟩
   by_cases hj:j=p
   ·subst hj;rw [hk];intro h;cases h
   ·exact h3 j (by omega) h6
  |quiet B=>
   obtain ⟨q,h1,h2,h3,h4⟩:=ih (p+1) (by omega) (by omega)
   refine ⟨q,by omega,h2,fun j h5 h6=>?_,h4⟩
   by_cases hj:j=p
   ·subst hj;rw [hk];intro h;cases h
   ·exact h3 j (by omega) h6
def unl (n:Nat) (listed:Array Bool):Nat:=((List.range n).filter fun j=>!listed.getD j false).length
theorem b6A {n:Nat} {listed:Array Bool} {i:Nat} (hi:i<n) (hs:listed.size=n) (hu:listed.getD i false=false):unl n (listed.setIfInBounds i true)<unl n listed:=by
 unfold unl
 have h1:((List.range n).filter fun j=>!(listed.setIfInBounds i true).getD j false)=((List.range n).filter fun j=>!listed.getD j false).filter fun j=>j≠i:=by
  rw [List.filter_filter]
  apply List.filter_congr
  intro j hj
  by_cases hji:j=i
  ·subst hji;simp [hs,hi]
  ·rw [getD_set_ne false (Ne.symm hji)];simp [hji]
 rw [h1]
 have hmem:i ∈ (List.range n).filter fun j=>!listed.getD j false:=by simp [hi];simpa using hu
 have:∀(l:List Nat),i ∈ l->(l.filter fun j=>j≠i).length<l.length:=by
  intro l
  induction l with
  |nil=>intro h;cases h
  |cons x l ih=>
   intro h
   by_cases hx:x=i
   ·subst hx
    simp only [List.filter_cons,ne_eq,not_true_eq_false,decide_false,Bool.false_eq_true,if_false,lbu]
    have:=lbt (fun j=>decide ¬j=x) l
    exact Nat.lt_succ_of_le this
   ·rcases lbA.1 h with h|h
    ·exact absurd h.symm hx
    ·simp [List.filter_cons,hx]
     simpa using ih h
 exact this _ hmem
theorem a7N (hb:a4y ops.toList=true) (hsz:listed.size=ops.size) (h:Region.ready .any ops listed=[]):∀i,i<ops.size->listed.getD i false=true:=by
 intro i
 induction i using Nat.strongRecOn with
 |_ i ih=>
  intro hi
  cases hl:listed.getD i false with
  |true=>rfl
  |false=>
   have:i ∈ Region.ready .any ops listed:=by
    rw [mem_ready]
    refine ⟨by simp [hsz,hi] at hl ⊢;exact hl,ops[i],by simp,fun e he hbi=>?_⟩
    have hlt:=au7 hb (i:=i) (o:=ops[i]) (by simp) (by simpa using he) hbi
    exact ih e.on hlt (by omega)
   rw [h] at this;cases this
theorem aT7 {n:Nat} (h:unl n listed=0):∀i,i<n->listed.getD i false=true:=by
 intro i hi
 unfold unl at h
 have:=lbF h
 rw [List.filter_eq_nil_iff] at this
 have:=this i (by simpa using hi)
 simpa using this
theorem b5X (hI:a6d P ops envs hs rs kd w0 ι0 M0 H0 listed a w p q) (hall:∀i,i<ops.size->listed.getD i false=true):q=ops.size:=by
 rcases Nat.lt_or_ge q ops.size with h|h
 ·have:=hI.high q (lbQ _)
  rw [hall q h] at this;cases this
 ·have:=hI.hqn;omega
theorem b4g (hM0:MB w0 M0) (hT:∀j,j<ops.size->aD4 P ops.toList envs hs rs kd j) (hb:a4y ops.toList=true) (hdo:a6Q ops.toList=true) (hdep:aN1 ops.toList=true) {Q:Exit->Act->World->Prop}
 (hK:∀a w,Sim w0 ι0 M0 H0 a w (envs ops.size) (hs ops.size)->Q .normal a w):∀(fuel:Nat) (listed:Array Bool) (a:Act) (w:World) (p q:Nat),a6d P ops envs hs rs kd w0 ι0 M0 H0 listed a w p q->unl ops.size listed<=fuel->
   wpAny P .any ops Q fuel listed a w:=by
 have hend:∀(listed:Array Bool) (a:Act) (w:World) (p q:Nat),a6d P ops envs hs rs kd w0 ι0 M0 H0 listed a w p q->(∀ i,i<ops.size->listed.getD i false=true)->Q .normal a w:=fun listed a w p q hI hall=>by
  obtain rfl:=b5X hI hall
  exact hK a w (hI.full hT hdo hall)
 intro fuel
 induction fuel with
 |zero=>
  intro listed a w p q hI hu
  have hall:=aT7 (listed:=listed) (n:=ops.size) (by omega)
  refine ⟨?_,hend listed a w p q hI hall⟩
  cases hr:Region.ready .any ops listed with
  |nil=>rfl
  |cons i l=>
   have hi:i ∈ Region.ready .any ops listed:=by rw [hr];simp
   rw [mem_ready] at hi
   obtain ⟨h1,o,ho,_⟩:=hi
   have hlt:=(lb4.1 ho).1
   have h2:=hall i hlt
   have hsz:=hI.lsz
   simp [hsz,hlt] at h1 h2
   rw [h1] at h2;cases h2
 |succ fuel ih=>
  intro listed a w p q hI hu
  refine ⟨fun hr=>hend listed a w p q hI (a7N hb hI.lsz hr),fun i hi=>?_⟩
  rw [mem_ready] at hi
  obtain ⟨hl,o,ho,hready⟩:=hi
  have hiN:=(lb4.1 ho).1
  have hsz0:=hI.lsz
  have hun:listed.getD i false=false:=by simp [hsz0,hiN] at hl ⊢;exact hl
  have hready':∀e ∈ o.after.toList,Region.binds .any e=true->listed.getD e.on false=true:=fun e he=>hready e (by simpa using he)
  have hu':unl ops.size (listed.setIfInBounds i true)<=fuel:=by
   have:=b6A hiN hsz0 hun;omega
  have hS:∀i o,ops.toList[i]? =some o->(listed.getD i false=true)->∀e ∈ o.after.toList,Region.binds .any e=true->listed.getD e.on false=true:=fun i o h=>hI.closed i o (by simpa using h)
  unfold wpOp
  rw [ho]
  simp only
  obtain ⟨ι,M,hd,hsz,h1,h2,hH,hM,hf,hF,hst⟩:=hI.rel
  by_cases hip:i<p
  · -- one that came late
    rcases hI.low i hip with h|⟨⟨r,hpr,hfine⟩,oj,d,hoj,hod,hq⟩
    ·rw [h] at hun;cases hun
    rw [ho] at hoj
    injection hoj with hoj
    subst hoj
    have hgd:=aT0 hfine ho
    have hreads:=fun t ht=>hI.reads_late hb hdo hdep h2 ho hip hpr hfine hun hready' (t:=t) ht
    rw [show Region.wanted o (yielded ops a.tmps)=true by unfold Region.wanted;rw [hgd]]
    simp only [if_true]
    refine .inl ?_
    obtain ⟨X,hX⟩:=P2 hT hI.hpq hI.hqn hI.seg
    have hHp:j8 w ι M (hs p):=by rw [hX] at hH;exact hH.pre1
    have hev:S4 w ι M (evR o (envs p)) a:=by
     intro x
     cases x with
     |tmp t=>
      show RS w ι M (cond _ _ _) _
      cases hc:(o.op.operands.toList.filterMap fun x=>match x with|.tmp t=>some t|_=>none).contains t with
      |true=>
       refine hreads t ?_
       unfold a03
       rw [lbz]
       exact .inl (List.contains_iff_mem.1 hc)
      |false=>exact .junk
     |const v=>exact RS.const v
     |global g=>exact .junk
     |func f=>exact .c (.t (.fn [] rfl (by simp)))
    refine hq a w ι M hev hHp hM (by simp) _ _ fun v w' hp=>?_
    obtain ⟨new,q1,q2,q3,q4,q5,q6⟩:=hp.insert hH hM (by simp) (by simp)
    have hsame:∀id,B7 ι (hs p).length ([]:List Blk).length new id=ι id:=fun id=>by unfold B7;rw [if_neg (by simp)]
    have keep:∀{s v},RS w ι M s v->RS w' (B7 ι (hs p).length ([]:List Blk).length new) (a5T M ([]:List Blk).length new) s v:=fun h=>h.keep (fun b hb _=>q2.keep b hb) q5 (fun id l hl=>by rw [hsame];exact hl)
    refine ih _ _ _ p q (hI.late hd hsz ho hod hip hready' hdo (fun j t h3 h4 h5 h6=>keep (h1 j t h3 h4 h5 h6)) (fun t s h3 h4 h5=>keep (h2 t s h3 h4 h5)) q1 q3 q4 ?_ ?_ ?_) hu'
    ·intro j B' h3 h4 h6 h7 k hk
     rw [hsame]
     exact hf j B' h3 h4 h6 h7 k hk
    ·intro id hid
     rw [hsame]
     exact hF id hid
    ·refine ⟨q2.os.trans hst.os,q2.tape.trans hst.tape,q2.output.trans hst.output,lbR hst.size q2.size,fun b hb' hl'=>(q2.keep b (Nat.lt_of_lt_of_le hb' hst.size)).trans (hst.keep b hb' hl'),?_,?_,?_,?_,hst.len⟩
     ·intro id hid
      rw [hsame]
      exact hst.same id hid
     ·intro b hb'
      rcases q5 b hb' with h|h
      ·exact hst.mnew b h
      ·exact .inr (lbR hst.size h)
     ·intro b hb'
      rcases hst.mold b hb' with h|h
      ·exact .inl (.inl h)
      ·exact .inr h
     ·intro b hb'
      rcases q6 b hb' with h|h
      ·exact hst.live b h
      ·exact .inr (lbR hst.size h)
  have hpi:p<=i:=by omega
  have hiq:i<=q:=by
   rcases Nat.lt_or_ge q i with h|h
   ·have hkq:kd q=.gen:=hI.fin.resolve_left (by omega)
    obtain ⟨oq,hoq,_,h3⟩:=hT q (by omega)
    rw [hkq] at h3
    have:=a1E hb hS (by simpa using ho) hready' (ak5 h3.2.2.1 hiN h)
    rw [hI.high q (lbQ _)] at this;cases this
   ·exact h
  obtain ⟨o',ho',henv,hk⟩:=hT i hiN
  have:o'=o:=by
   have:ops[i]? =some o':=by simpa using ho'
   rw [ho] at this;injection this with this;exact this.symm
  subst this
  have hreads:=fun t ht=>hI.reads hT hb hdo hdep h1 h2 ho hpi (Nat.le_of_lt hiN) hun hready' (t:=t) ht
  have hlenI:a.tmps.size=(envs i).length:=by rw [hsz,a7W hT hpi (by omega)]
  have hguard:∀j want oj d,o'.guard=some (j,want)->ops[j]? =some oj->oj.dst=some d->RS w ι M (H4 (envs i) (.tmp d)) (a.tmps.getD d undef):=fun j want oj d hg hoj hdj=>by
   refine hreads d ?_
   unfold a03
   rw [lbz]
   refine .inr ?_
   have hoj':ops.toList[j]? =some oj:=by simpa using hoj
   rw [hg]
   simp [hoj',hdj]
  have hev:S4 w ι M (evR o' (envs i)) a:=by
   intro x
   cases x with
   |tmp t=>
    show RS w ι M (cond _ _ _) _
    cases hc:(o'.op.operands.toList.filterMap fun x=>match x with|.tmp t=>some t|_=>none).contains t with
    |true=>
     refine hreads t ?_
     unfold a03
     rw [lbz]
     exact .inl (List.contains_iff_mem.1 hc)
    |false=>exact .junk
   |const v=>exact RS.const v
   |global g=>exact .junk
   |func f=>exact .c (.t (.fn [] rfl (by simp)))
  by_cases hlt:i<q
  ·obtain ⟨X,hX⟩:=P2 hT (Nat.le_of_lt hlt) hI.hqn (fun k h3 h4=>hI.seg k (by omega) h4)
   cases hkd:kd i with
   |skip=>
    rw [hkd] at hk
    obtain ⟨hw,hr,_⟩:=hk
    rw [a3D hlenI hw hguard]
    simp only [Bool.false_eq_true,if_false]
    refine ih _ _ _ p q (hI.step hT hd hsz ho hpi hlt hun hready' hdo h1 h2 (by rw [hr];exact .skip) hH hM (fun j B h3 h4 _ h5 h6=>hf j B h3 h4 h5 h6) hF hst) hu'
   |quiet B=>
    rw [hkd] at hk
    obtain ⟨hw,hqop,hB⟩:=hk
    rw [a3D hlenI hw hguard]
    simp only [if_true]
    refine .inl ?_
    have hfi:=hf i B hpi hlt hun hkd
    have hHi:j8 w ι M (hs i):=by rw [hX] at hH;exact hH.pre1
    refine hqop a w ι M hev hHi hM hfi _ _ fun v w' hp=>?_
    obtain ⟨X1,hX1⟩:=P2 hT (show i+1<=q by omega) hI.hqn (fun k h3 h4=>hI.seg k (by omega) h4)
    have hBq:∀k,k<B.length->(hs q)[(hs i).length+k]? =B[k]?:=fun k hk=>by
     rw [hX1,hB,lbD,lbc (by omega),lbb (by omega)]
     congr 1;omega
    obtain ⟨new,q1,q2,q3,q4,q5,q6⟩:=hp.insert hH hM hBq hfi
    have hext:∀id l,ι id=some l->B7 ι (hs i).length B.length new id=some l:=fun id l hl=>a8r hfi hl
    have keep:∀{s v},RS w ι M s v->RS w' (B7 ι (hs i).length B.length new) (a5T M B.length new) s v:=fun h=>h.keep (fun b hb _=>q2.keep b hb) q5 hext
    have hqlen:(hs i).length+B.length<=(hs q).length:=by rw [hX1,hB];simp
    have hH0:H0.length<=(hs i).length:=by
     obtain ⟨Z,hZ⟩:=P2 hT hpi (by omega) (fun k h3 h4=>hI.seg k h3 (by omega))
     have:=hI.h0
     rw [hZ];simp;omega
    refine ih _ _ _ p q (hI.step hT hd hsz ho hpi hlt hun hready' hdo (fun j t h3 h4 h5 h6=>keep (h1 j t h3 h4 h5 h6)) (fun t s h3 h4 h5=>keep (h2 t s h3 h4 h5)) q1 q3 q4 ?_ ?_ ?_) hu'
    ·intro j B' h3 h4 h5 h6 h7 k hk
     have hfj:=hf j B' h3 h4 h6 h7 k hk
     unfold B7
     rw [if_neg ?_,hfj]
     -- the new ids of two places are apart
     rintro ⟨r1,r2⟩
     rcases Nat.lt_or_gt_of_ne h5 with hji|hji
     ·obtain ⟨Y,hY⟩:=P2 hT (show j+1<=i by omega) (by omega) (fun k h3' h4'=>hI.seg k (by omega) (by omega))
      obtain ⟨oj,_,_,hkj⟩:=hT j (by omega)
      rw [h7] at hkj
      rw [hY,hkj.2.2] at r1
      simp at r1
      omega
     ·obtain ⟨Y,hY⟩:=P2 hT (show i+1<=j by omega) (by have:=hI.hqn;omega) (fun k h3' h4'=>hI.seg k (by omega) (by omega))
      rw [hY,hB] at r2
      simp at r2
      omega
    ·intro id hid
     unfold B7
     rw [if_neg (by omega)]
     exact hF id hid
    ·refine ⟨q2.os.trans hst.os,q2.tape.trans hst.tape,q2.output.trans hst.output,lbR hst.size q2.size,fun b hb' hl'=>(q2.keep b (Nat.lt_of_lt_of_le hb' hst.size)).trans (hst.keep b hb' hl'),?_,?_,?_,?_,hst.len⟩
     ·intro id hid
      unfold B7
      rw [if_neg (by omega)]
      exact hst.same id hid
     ·intro b hb'
      rcases q5 b hb' with h|h
      ·exact hst.mnew b h
      ·exact .inr (lbR hst.size h)
     ·intro b hb'
      rcases hst.mold b hb' with h|h
      ·exact .inl (.inl h)
      ·exact .inr h
     ·intro b hb'
      rcases q6 b hb' with h|h
      ·exact hst.live b h
      ·exact .inr (lbR hst.size h)
   |gen=>exact absurd hkd (hI.seg i hpi hlt)
  · -- a general operation: the segment before it is done
    obtain rfl:i=q:=by omega
    have hkq:kd i=.gen:=hI.fin.resolve_left (by omega)
    rw [hkq] at hk
    obtain ⟨hw,hg,hbar,hlate⟩:=hk
    rw [a3D hlenI hw hguard]
    simp only [if_true]
    refine .inl ?_
    refine hg a w ι M hev hH hM hF _ _ fun v w' hp=>?_
    obtain ⟨ι1,M1,g1,hH1,hM1,hF1,g5⟩:=hp
    have hkb:∀b,b<w.heap.size->¬M b->w'.heap[b]? =w.heap[b]?:=fun b hb hnm=>g5.keep b hb fun hl=>hnm (a24.inM hH hl)
    have hki:∀id l,ι id=some l->ι1 id=some l:=fun id l hl=>by
     have hlt:id<(hs i).length:=by
      rcases Nat.lt_or_ge id (hs i).length with h|h
      ·exact h
      ·rw [hF id h] at hl;cases hl
     rw [g5.same id hlt,hl]
    have keep:∀{s v},RS w ι M s v->RS w' ι1 M1 s v:=fun h=>h.keep hkb g5.mnew hki
    have hst1:=hst.trans hM0 g5
    have hlen1:(envs (i+1)).length=(envs i).length:=by rw [henv,a2c]
    obtain ⟨q',r1,r2,r3,r4⟩:=aN6 kd (i+1) ops.size (by omega)
    obtain ⟨X,hX⟩:=P2 hT r1 r2 r3
    have hdi:D4 ops i=o'.dst:=by unfold D4;rw [ho];rfl
    have henvne:∀t,o'.dst≠some t->(envs (i+1))[t]? =(envs i)[t]?:=fun t hne=>by
     rw [henv]
     cases hdd:o'.dst with
     |none=>rfl
     |some d=>
      have hdt:d≠t:=fun e=>hne (by rw [hdd,e])
      show ((envs i).set d (rs i))[t]? =_
      rw [List.getElem?_set_ne hdt]
    refine ih _ _ _ (i+1) q' ⟨r1,r2,r3,r4,hst1.len,by simpa using hsz0,fun j hj=>?_,fun j hj=>?_,?_,ι1,M1,by rw [a0O,hd],by rw [a4b,hlenI,hlen1],?_,?_,?_,hM1,?_,?_,?_⟩ hu'
    ·by_cases hji:j=i
     ·subst hji;exact .inl (a2G (by omega))
     ·cases hl:listed.getD j false with
      |true=>exact .inl (getD_set_true hl)
      |false=>
       by_cases hjl:j ∈ Y0 ops.toList i
       ·have hfine:=aA6 hbar hjl
        obtain ⟨oj,d,hoj,hod,hq⟩:=hlate j hjl
        have hoj':ops[j]? =some oj:=by simpa using hoj
        refine .inr ⟨⟨i,rfl,hfine⟩,oj,d,hoj',hod,?_⟩
        have hev1:evR oj (envs (i+1))=evR oj (envs i):=by
         funext x
         cases x with
         |tmp t=>
          show cond _ _ _=cond _ _ _
          cases hc:(oj.op.operands.toList.filterMap fun x=>match x with|.tmp t=>some t|_=>none).contains t with
          |false=>rfl
          |true=>
           have ht:t ∈ a03 ops.toList oj:=by
            unfold a03
            rw [lbz]
            exact .inl (List.contains_iff_mem.1 hc)
           have hne:o'.dst≠some t:=fun he=>by
            have:=a4q (d:=0) hfine hoj' ht (hdi.trans he)
            omega
           show (envs (i+1)).getD t .junk=(envs i).getD t .junk
           rw [lbl,lbl,henvne t hne]
         |const v=>rfl
         |global g=>rfl
         |func f=>rfl
        have hne:o'.dst≠some d:=fun he=>hji (a32 hdo (show D4 ops j=some d by unfold D4;rw [hoj'];exact hod) (hdi.trans he))
        have hd1:H4 (envs (i+1)) (.tmp d)=H4 (envs i) (.tmp d):=by
         show (envs (i+1)).getD d .junk=(envs i).getD d .junk
         rw [lbl,lbl,henvne d hne]
        rw [hev1,hd1]
        exact hq
       ·have:=a1E hb hS (by simpa using ho) hready' (ai0 (by omega) hjl)
        rw [hl] at this;cases this
    ·rw [getD_set_ne false (by omega)];exact hI.high j (by omega)
    ·intro j oj hoj hl' e he' hb'
     rcases X3 hl' with rfl|hl'
     ·rw [ho] at hoj
      injection hoj with hoj
      subst hoj
      exact getD_set_true (hready' e he' hb')
     ·exact getD_set_true (hI.closed j oj hoj hl' e he' hb')
    ·intro j t hj hl' _ _
     rcases X3 hl' with rfl|hl'
     ·omega
     ·rw [hI.high j (by omega)] at hl';cases hl'
    ·intro t s _ hno2 hs'
     have htl:t<(envs i).length:=by rw [← hlen1];exact (lbe.1 hs').1
     by_cases hdt:o'.dst=some t
     ·have:(envs (i+1))[t]? =some (rs i):=by
       rw [henv,hdt]
       show ((envs i).set t (rs i))[t]? =_
       rw [List.getElem?_set_self htl]
      rw [this] at hs'
      injection hs' with hs'
      subst hs'
      rw [hdt]
      show RS w' ι1 M1 (rs i) ((a.tmps.setIfInBounds t v).getD t undef)
      simpa [show t<a.tmps.size by omega] using g1
     ·rw [henvne t hdt] at hs'
      have hold:RS w ι M s (a.tmps.getD t undef):=by
       by_cases hex:∃j,p<=j∧j<i∧D4 ops j=some t
       ·obtain ⟨j,h3,h4,h5⟩:=hex
        have htp:t<(envs p).length:=by rw [← a7W hT hpi (by omega)];exact htl
        rw [aS7 hT hdo h3 h4 (by omega) h5 htp] at hs'
        injection hs' with hs'
        subst hs'
        refine h1 j t h3 ?_ h5 htp
        cases hl:listed.getD j false with
        |true=>rfl
        |false=>exact absurd h5 (hno2 j (by omega) (by rw [getD_set_ne false (by omega)];exact hl))
       ·rw [a4k hT hpi (by omega) (fun j h3 h4 h5=>hex ⟨j,h3,h4,h5⟩)] at hs'
        refine h2 t s (fun j h3 h4 h5=>?_) (fun j h3 h4 h5=>?_) hs'
        ·rcases Nat.lt_or_ge j i with h|h
         ·exact hex ⟨j,h3,h,h5⟩
         ·rw [hI.high j h] at h4;cases h4
        ·exact hno2 j (by omega) (by rw [getD_set_ne false (by omega)];exact h4) h5
      cases hdd:o'.dst with
      |none=>exact keep hold
      |some d=>
       have hdt':d≠t:=fun e=>hdt (by rw [hdd,e])
       show RS w' ι1 M1 s ((a.tmps.setIfInBounds d v).getD t undef)
       have:=keep hold
       rw [Array.getD_eq_getD_getElem?,Array.getElem?_setIfInBounds_ne hdt']
       rw [Array.getD_eq_getD_getElem?] at this
       exact this
    ·rw [hX];exact hH1.extend hF1
    ·intro j B h3 h4 _ _ k hk
     obtain ⟨Y,hY⟩:=P2 hT h3 (by omega) (fun k h3' h4'=>r3 k h3' (by omega))
     exact hF1 _ (by rw [hY];simp;omega)
    ·intro id hid
     exact hF1 id (by rw [hX] at hid;simp at hid;omega)
    ·refine ⟨hst1.os,hst1.tape,hst1.output,hst1.size,hst1.keep,hst1.same,hst1.mnew,hst1.mold,?_,by rw [hX];have:=hst1.len;simp;omega⟩
     rintro b ⟨id,k,cap,size,hk,hm,hi'⟩
     have hid:id<(hs (i+1)).length:=by
      rcases Nat.lt_or_ge id (hs (i+1)).length with h|h
      ·exact h
      ·rw [hF1 id h] at hi';cases hi'
     rw [hX,lbb hid] at hk
     exact hst1.live b ⟨id,k,cap,size,hk,hm,hi'⟩
end
theorem a92 {P:Program} {τ:Tab} (hτ:C0 P τ) {ops:Array Oper} {Q:Exit->Act->World->Prop} {K:Env->Hp->Prop} {w0:World} {ι0:Io} {M0:Ms} {H0:Hp} (hM0:MB w0 M0)
 (hK:∀env H a w,K env H->Sim w0 ι0 M0 H0 a w env H->Q .normal a w) {env:Env} {H:Hp} {a:Act} {w:World}
 (hr:a95 ops.toList=true) (h:a83 P τ ops.toList true 0 ops.toList env H K) (hs:Sim w0 ι0 M0 H0 a w env H):wpAny P .any ops Q ops.size (Array.replicate ops.size false) a { w with drawn:=w.drawn+1 }:=by
 simp only [a95,lbM] at hr
 obtain ⟨⟨hb,hdo⟩,hdep⟩:=hr
 obtain ⟨envs,hps,rs,kd,h1,h2,h3,h4⟩:=aa9 hτ ops.toList 0 env H rfl h
 have hT:∀j,j<ops.size->aD4 P ops.toList envs hps rs kd j:=fun j hj=>h4 j (Nat.zero_le _) (by simpa using hj)
 obtain ⟨q,q1,q2,q3,q4⟩:=aN6 kd 0 ops.size (Nat.zero_le _)
 obtain ⟨X,hX⟩:=P2 hT q1 q2 q3
 obtain ⟨ι,M,hd,hsz,he,hH,hM,hF,hst⟩:=hs
 have hnone:∀j,(Array.replicate ops.size false).getD j false=false:=fun j=>by
  by_cases hj:j<ops.size
  ·simp [hj]
  ·simp [hj]
 refine b4g hM0 hT hb hdo hdep (fun a w hs=>hK _ _ a w (by simpa using h3) hs) ops.size _ a _ 0 q ?_ ?_
 ·refine ⟨q1,q2,q3,q4,by rw [h2];exact hst.len,by simp,fun j hj=>by omega,fun j _=>hnone j,(fun i o _ hl=>absurd hl (by rw [hnone i];simp)),⟨ι,M,hd,by rw [h1];exact hsz,(fun i t _ hl=>absurd hl (by rw [hnone i];simp)),?_,?_,hM,?_,?_,?_⟩⟩
  ·intro t s _ _ ht
   rw [h1] at ht
   exact (he t s ht).keep (w:=w) (w':={ w with drawn:=w.drawn+1 }) (fun _ _ _=>rfl) (fun b h=>.inl h) (fun _ _ h=>h)
  ·rw [hX,h2]
   have:=j8.extend (X:=X) hH hF
   exact ⟨fun id k hk hd l hl=>by
    have hb:=this.blk id k hk hd l hl
    cases l with
    |nil=>exact hb
    |blk b cap size=>
     obtain ⟨r1,r2,r3,r4,r5,cur,r6,r7,r8⟩:=hb
     exact ⟨r1,r2,r3,r4,r5,cur,r6,r7,fun i j c hc=>by
      obtain ⟨u,s1,s2⟩:=r8 i j c hc
      exact ⟨u,s1,s2.keep (w:=w) (w':={ w with drawn:=w.drawn+1 }) (fun _ _ _=>rfl) (fun b h=>.inl h) (fun _ _ h=>h)⟩⟩,this.liv,this.fro,this.inj,this.old⟩
  ·intro i B _ hi _ hk k hkB
   obtain ⟨Y,hY⟩:=P2 hT (Nat.zero_le i) (by omega) (fun k h1 h2=>q3 k h1 (by omega))
   exact hF _ (by rw [hY,h2];simp;omega)
  ·intro id hid
   exact hF id (by rw [hX,h2] at hid;simp at hid;omega)
  ·rw [hX,h2]
   refine ⟨hst.os,hst.tape,hst.output,hst.size,hst.keep,hst.same,hst.mnew,hst.mold,?_,by have:=hst.len;simp;omega⟩
   rintro b ⟨id,k,cap,size,hk,hm,hi⟩
   have hid:id<H.length:=by
    rcases Nat.lt_or_ge id H.length with h|h
    ·exact h
    ·rw [hF id h] at hi;cases hi
   rw [lbb hid] at hk
   exact hst.live b ⟨id,k,cap,size,hk,hm,hi⟩
 ·unfold unl
  have:=lbt (fun j=>!(Array.replicate ops.size false).getD j false) (List.range ops.size)
  simpa using this
end
section
open Go.RowKit
def a7C (i:Nat):List Nat->Nat
 |[]=>0
 |x::r=>cond (Nat.beq x i) 0 (a7C i r+1)
def a6f (π:List Nat) (o:Oper):Oper:={ o with after:=(o.after.toList.map fun e=>{ e with on:=a7C e.on π }).toArray,guard:=o.guard.map fun g=>(a7C g.1 π,g.2) }
def U3 (π:List Nat) (ops:List Oper):List Oper:=π.filterMap fun i=>(ops[i]?).map (a6f π)
def au0 (π:List Nat) (n:Nat):Bool:=Nat.beq π.length n && π.all (fun i=>Nat.blt i n) && (List.range n).all (fun p=>match π[p]? with|some i=>Nat.beq (a7C i π) p|none=>false) && (List.range n).all (fun i=>match π[a7C i π]? with|some j=>Nat.beq j i|none=>false)
def a7G (o:Option (List Nat)) (ops:List Oper):List Oper:=match o with
 |none=>ops
 |some π=>U3 π ops
def b0s (o:Option (List Nat)) (n:Nat):Bool:=match o with
 |none=>true
 |some π=>au0 π n
structure b2E (ops:List Oper) (K:List Oper->Prop):Prop where
 out:∃o,b0s o ops.length=true∧a95 (a7G o ops)=true∧K (a7G o ops)
structure a3K (π:List Nat) (n:Nat):Prop where
 len:π.length=n
 lt:∀p i:Nat,π[p]? =some i->i<n
 pos:∀i:Nat,i<n->π[a7C i π]? =some i
 inv:∀p i:Nat,π[p]? =some i->a7C i π=p
theorem aH0 {π:List Nat} {n:Nat} (h:au0 π n=true):a3K π n:=by
 unfold au0 at h
 simp only [lbM] at h
 obtain ⟨⟨⟨h1,h2⟩,h3⟩,h4⟩:=h
 have hl:=Nat.eq_of_beq_eq_true h1
 refine ⟨hl,fun p i hp=>?_,fun i hi=>?_,fun p i hp=>?_⟩
 ·have:=lbv.1 h2 i (lbm hp)
  simpa using this
 ·have:=lbv.1 h4 i (lbB.2 hi)
  split at this
  ·rename_i j hj
   rw [hj,Nat.eq_of_beq_eq_true this]
  ·cases this
 ·have hlt:=(lbe.1 hp).1
  have:=lbv.1 h3 p (lbB.2 (by omega))
  rw [hp] at this
  exact Nat.eq_of_beq_eq_true this
theorem ax8 {i:Nat}:∀{π:List Nat},i ∉ π->a7C i π=π.length
 |[],_=>rfl
 |x::r,h=>by
  unfold a7C
  have h1:Nat.beq x i=false:=by
   cases hb:Nat.beq x i with
   |false=>rfl
   |true=>exact absurd (by rw [Nat.eq_of_beq_eq_true hb];simp) h
  rw [h1,cond_false,ax8 (fun hm=>h (by simp [hm]))];rfl
theorem a5J {α β:Type} {f:α->Option β}:∀{l:List α},(∀ x ∈ l,(f x).isSome=true)->∀p:Nat,(l.filterMap f)[p]? =(l[p]?).bind f
 |[],_,p=>by simp
 |x::r,h,p=>by
  obtain ⟨y,hy⟩:=Option.isSome_iff_exists.1 (h x (by simp))
  rw [List.filterMap_cons_some hy]
  cases p with
  |zero=>simp [hy]
  |succ p=>simpa using a5J (fun x hx=>h x (by simp [hx])) p
theorem a5V {α β:Type} {f:α->Option β}:∀{l:List α},(∀ x ∈ l,(f x).isSome=true)->(l.filterMap f).length=l.length
 |[],_=>rfl
 |x::r,h=>by
  obtain ⟨y,hy⟩:=Option.isSome_iff_exists.1 (h x (by simp))
  rw [List.filterMap_cons_some hy,lbu,lbu,a5V fun x hx=>h x (by simp [hx])]
theorem aJ1 {π:List Nat} {ops:List Oper} (hP:a3K π ops.length) {p i:Nat} (hp:π[p]? =some i):(U3 π ops)[p]? =(ops[i]?).map (a6f π):=by
 unfold U3
 rw [a5J (fun x hx=>?_),hp]
 ·rfl
 ·obtain ⟨q,hq⟩:=List.getElem?_of_mem hx
  have:=hP.lt q x hq
  rw [lbf this];rfl
theorem a7l {π:List Nat} {ops:List Oper} (hP:a3K π ops.length):(U3 π ops).length=ops.length:=by
 rw [← hP.len]
 unfold U3
 refine a5V fun x hx=>?_
 obtain ⟨q,hq⟩:=List.getElem?_of_mem hx
 have:=hP.lt q x hq
 rw [lbf this];rfl
section
variable {P:Program} {Q:Exit->Act->World->Prop} {md:Region.Mode} {π:List Nat} {ops ops':Array Oper}
structure aD3 (π:List Nat) (n:Nat) (listed listed':Array Bool):Prop where
 s:listed.size=n
 s':listed'.size=n
 eq:∀p i:Nat,π[p]? =some i->listed'.getD p false=listed.getD i false
theorem b5h {n p i:Nat} (hP:a3K π n) {listed listed':Array Bool} (h:aD3 π n listed listed') (hp:π[p]? =some i):aD3 π n (listed.setIfInBounds i true) (listed'.setIfInBounds p true):=by
 refine ⟨by simp [h.s],by simp [h.s'],fun q j hq=>?_⟩
 have h1:=hP.lt p i hp
 have h2:=hP.lt q j hq
 have h3:p<n:=by rw [← hP.len];exact (lbe.1 hp).1
 have h4:q<n:=by rw [← hP.len];exact (lbe.1 hq).1
 have he:=h.eq q j hq
 by_cases hqp:q=p
 ·subst hqp
  rw [hp] at hq
  injection hq with hq
  subst hq
  simp [h.s,h.s',h1,h3]
 ·have hji:j≠i:=fun e=>by
   subst e
   have a:=hP.inv p j hp
   have b:=hP.inv q j hq
   omega
  rw [Array.getD_eq_getD_getElem?] at he ⊢
  rw [Array.getD_eq_getD_getElem?] at he ⊢
  rw [Array.getElem?_setIfInBounds_ne (Ne.symm hqp),Array.getElem?_setIfInBounds_ne (Ne.symm hji)]
  exact he
theorem a6x (hP:a3K π ops.size) (ho:ops'.toList=U3 π ops.toList) {listed listed':Array Bool} (h:aD3 π ops.size listed listed') {p i:Nat} (hp:π[p]? =some i):
 p ∈ Region.ready md ops' listed'↔i ∈ Region.ready md ops listed:=by
 have hP':a3K π ops.toList.length:=by simpa using hP
 have hlen:ops'.size=ops.size:=by
  have:=congrArg List.length ho
  rw [a7l hP'] at this
  simpa using this
 have hi:=hP.lt p i hp
 have hpn:p<ops.size:=by rw [← hP.len];exact (lbe.1 hp).1
 have hop:ops'[p]? =(ops[i]?).map (a6f π):=by
  have:=aJ1 hP' hp
  rw [← ho] at this
  simpa using this
 have hoi:ops[i]? =some ops[i]:=Array.getElem?_eq_getElem hi
 have hl:=h.eq p i hp
 have hD:∀(l:Array Bool) (j:Nat),j<l.size->l.getD j true=l.getD j false:=fun l j hj=>by simp [hj]
 unfold Region.ready
 rw [lby,lby,lbB,lbB,hop,hoi]
 simp only [Option.map_some,Option.getD_some]
 rw [hD listed i (by rw [h.s];exact hi),hD listed' p (by rw [h.s'];exact hpn),hl,hlen]
 have e:(a6f π ops[i]).after.all (fun e=>!Region.binds md e || listed'.getD e.on false)=ops[i].after.all (fun e=>!Region.binds md e || listed.getD e.on false):=by
  rw [← Array.all_toList,←Array.all_toList]
  show ((ops[i].after.toList.map fun e=>({ e with on:=a7C e.on π }:Edge)).toArray.toList).all _=_
  rw [List.all_map]
  congr 1
  funext e
  show (!Region.binds md { e with on:=a7C e.on π } || listed'.getD (a7C e.on π) false)=_
  have hb:Region.binds md { e with on:=a7C e.on π }=Region.binds md e:=rfl
  rw [hb]
  congr 1
  by_cases hn:e.on<ops.size
  ·exact h.eq _ _ (hP.pos _ hn)
  ·have hm:e.on ∉ π:=fun hm=>by
    obtain ⟨q,hq⟩:=List.getElem?_of_mem hm
    exact hn (hP.lt q _ hq)
   rw [ax8 hm,hP.len]
   simp [h.s,h.s',hn]
 rw [e]
 simp [hi,hpn]
theorem b2P (hP:a3K π ops.size) (ho:ops'.toList=U3 π ops.toList) {p i:Nat} (hp:π[p]? =some i) {K K':Act->World->Prop} (hK:∀a w,K' a w->K a w) {a:Act} {w:World} (h:wpOp P ops' Q p K' a w):wpOp P ops Q i K a w:=by
 have hP':a3K π ops.toList.length:=by simpa using hP
 have hi:=hP.lt p i hp
 have hget:∀q j,π[q]? =some j->ops'[q]? =(ops[j]?).map (a6f π):=fun q j hq=>by
  have:=aJ1 hP' hq
  rw [← ho] at this
  simpa using this
 have hlen:ops'.size=ops.size:=by
  have:=congrArg List.length ho
  rw [a7l hP'] at this
  simpa using this
 have hoi:ops[i]? =some ops[i]:=Array.getElem?_eq_getElem hi
 have hy:∀j,yielded ops' a.tmps (a7C j π)=yielded ops a.tmps j:=fun j=>by
  unfold yielded
  by_cases hn:j<ops.size
  ·rw [hget _ _ (hP.pos j hn),Array.getElem?_eq_getElem hn];rfl
  ·have hm:j ∉ π:=fun hm=>by
    obtain ⟨q,hq⟩:=List.getElem?_of_mem hm
    exact hn (hP.lt q _ hq)
   rw [ax8 hm,hP.len,Array.getElem?_eq_none (by omega),Array.getElem?_eq_none (by omega)]
 have hw:Region.wanted (a6f π ops[i]) (yielded ops' a.tmps)=Region.wanted ops[i] (yielded ops a.tmps):=by
  unfold Region.wanted a6f
  cases ops[i].guard with
  |none=>rfl
  |some g=>simp only [Option.map_some];rw [hy]
 have h2:wpOp P ops Q i K' a w:=by
  unfold wpOp at h ⊢
  rw [hget p i hp,hoi] at h
  rw [hoi]
  simp only [Option.map_some] at h
  rw [hw] at h
  exact h
 exact wpOp_mono hK h2
theorem aR1 (hP:a3K π ops.size) (ho:ops'.toList=U3 π ops.toList):∀(fuel:Nat) (listed listed':Array Bool) (a:Act) (w:World),aD3 π ops.size listed listed'->wpAny P md ops' Q fuel listed' a w->wpAny P md ops Q fuel listed a w:=by
 have hP':a3K π ops.toList.length:=by simpa using hP
 have hlen:ops'.size=ops.size:=by
  have:=congrArg List.length ho
  rw [a7l hP'] at this
  simpa using this
 have hnil:∀listed listed',aD3 π ops.size listed listed'->(Region.ready md ops' listed'=[]↔Region.ready md ops listed=[]):=fun listed listed' h=>by
  constructor
  ·intro he
   cases hr:Region.ready md ops listed with
   |nil=>rfl
   |cons i r=>
    have hm:i ∈ Region.ready md ops listed:=by rw [hr];simp
    have hi:i<ops.size:=by unfold Region.ready at hm;exact lbB.1 (lby.1 hm).1
    have:=(a6x hP ho h (hP.pos i hi)).2 hm
    rw [he] at this;cases this
  ·intro he
   cases hr:Region.ready md ops' listed' with
   |nil=>rfl
   |cons p r=>
    have hm:p ∈ Region.ready md ops' listed':=by rw [hr];simp
    have hpn:p<ops'.size:=by unfold Region.ready at hm;exact lbB.1 (lby.1 hm).1
    have:=(a6x hP ho h (lbf (by rw [hP.len];omega))).1 hm
    rw [he] at this;cases this
 intro fuel
 induction fuel with
 |zero=>intro listed listed' a w h hh;exact ⟨(hnil _ _ h).1 hh.1,hh.2⟩
 |succ fuel ih=>
  intro listed listed' a w h hh
  refine ⟨fun he=>hh.1 ((hnil _ _ h).2 he),fun i hi=>?_⟩
  have hin:i<ops.size:=by unfold Region.ready at hi;exact lbB.1 (lby.1 hi).1
  have hp:=hP.pos i hin
  exact b2P hP ho hp (fun a w hk=>ih _ _ a w (b5h hP h hp) hk) (hh.2 _ ((a6x hP ho h hp).2 hi))
end
theorem b05 {P:Program} {τ:Tab} (hτ:C0 P τ) {ops:Array Oper} {Q:Exit->Act->World->Prop} {K:Env->Hp->Prop} {w0:World} {ι0:Io} {M0:Ms} {H0:Hp} (hM0:MB w0 M0)
 (hK:∀env H a w,K env H->Sim w0 ι0 M0 H0 a w env H->Q .normal a w) {env:Env} {H:Hp} {a:Act} {w:World} {id:Nat} {o:Option (List Nat)}
 (ho:b0s o ops.toList.length=true) (hr:a95 (a7G o ops.toList)=true) (h:a83 P τ (a7G o ops.toList) true 0 (a7G o ops.toList) env H K) (hs:Sim w0 ι0 M0 H0 a w env H):(Code.region id ops true).wp P Q a w:=by
 refine wp_region_any hτ.mixed ?_
 cases o with
 |none=>exact a92 hτ hM0 hK hr h hs
 |some π=>
  have hP:a3K π ops.toList.length:=aH0 ho
  have hP2:a3K π ops.size:=by simpa using hP
  have h1:=a92 (ops:=(U3 π ops.toList).toArray) hτ hM0 hK hr h hs
  have hl:(U3 π ops.toList).toArray.size=ops.size:=by simp [a7l hP]
  rw [hl] at h1
  exact aR1 hP2 rfl _ _ _ _ _ ⟨by simp,by simp,fun p i hp=>by
   have a1:=hP2.lt p i hp
   have a2:p<ops.size:=by rw [← hP2.len];exact (lbe.1 hp).1
   simp [a1,a2]⟩ h1
end
section
open Go.RowKit
inductive AX where
 |normal
 |exit (id:Nat)
 |ret
def AX.real:AX->Exit
 |.normal=>.normal
 |.exit id=>.exit id
 |.ret=>.ret
structure Awp (P:Program) (n0:Nat) (c:Code) (env:Env) (H:Hp) (Q:AX->Env->Hp->Prop):Prop where
 out:∀(w0:World) (ι0:Io) (M0:Ms) (H0:Hp) (a:Act) (w:World),H0.length=n0->MB w0 M0->Sim w0 ι0 M0 H0 a w env H->
  c.wp P (fun e a' w'=>∃x env' H',e=AX.real x∧Q x env' H'∧Sim w0 ι0 M0 H0 a' w' env' H') a w
abbrev AQ:=AX->Env->Hp->Prop
abbrev AC:=Env->Hp->AQ->Prop
def b5A:AC:=fun env H Q=>Q .normal env H
noncomputable def b3Q (P:Program) (τ:Tab) (_:Nat) (ops:Array Oper) (draw:Bool):AC:=fun env H Q=>match draw with
 |true=>b2E ops.toList fun ops=>a83 P τ ops true 0 ops env H (Q .normal)
 |false=>a83 P τ ops.toList false 0 ops.toList env H (Q .normal)
def b9Z (b:AC) (Q:AQ):AQ:=fun x env' H'=>match x with
    |.normal=>b env' H' Q
    |.exit j=>Q (.exit j) env' H'
    |.ret=>Q .ret env' H'
def bc6 (_ _:Code) (a b:AC):AC:=fun env H Q=>a env H (b9Z b Q)
def b9S (c:Operand) (_ _:Code) (t e:AC):AC:=fun env H Q=>match H4 env c with
    |.c (.t (.atm (.bool b)))=>cond b (t env H Q) (e env H Q)
    |_=>False
def bb1 (id:Nat) (Q:AQ):AQ:=fun x env' H'=>match x with
    |.exit j=>cond (Nat.beq j id) (Q .normal env' H') (Q (.exit j) env' H')
    |.normal=>Q .normal env' H'
    |.ret=>Q .ret env' H'
def b7F (id:Nat) (_:Code) (b:AC):AC:=fun env H Q=>b env H (bb1 id Q)
def b91 (P:Program) (n0:Nat) (c:Code) (_:AC):AC:=fun env H Q=>Awp P n0 (.loop c) env H Q
def b8L (id:Nat):AC:=fun env H Q=>Q (.exit id) env H
def bd3:AC:=fun env H Q=>Q .ret env H
def b7G:AC:=fun _ _ _=>False
noncomputable def a13 (P:Program) (τ:Tab) (n0:Nat) (c:Code):Env->Hp->(AX->Env->Hp->Prop)->Prop:=
 Code.rec (motive:=fun _=>AC) b5A (b3Q P τ) bc6 b9S b7F (b91 P n0) (fun _ _ _ _ _ _=>b7G) b8L (fun _ _=>b7G) (fun _=>b5A) (fun _=>b7G) bd3 (fun _=>b7G) c
theorem n9 {P:Program} {τ:Tab} {n0:Nat} (hτ:C0 P τ) (c:Code):∀{env:Env} {H:Hp} {Q:AX->Env->Hp->Prop},a13 P τ n0 c env H Q->Awp P n0 c env H Q:=by
 induction c with
 |skip=>intro env H Q h;refine ⟨fun w0 ι0 M0 H0 a w hn hM hs=>?_⟩;exact wp_skip ⟨.normal,env,H,rfl,h,hs⟩
 |region id ops draw=>
  intro env H Q h
  refine ⟨fun w0 ι0 M0 H0 a w hn hM hs=>?_⟩
  cases draw with
  |false=>
   refine wp_region ?_
   have:=b5B hτ hM (Q:=fun e a' w'=>∃x env' H',e=AX.real x∧Q x env' H'∧Sim w0 ι0 M0 H0 a' w' env' H') (K:=Q .normal)
    (fun env H a w hk hs=>⟨.normal,env,H,rfl,hk,hs⟩) ops.toList 0 env H a w rfl h hs
   rw [List.range_eq_range']
   simpa using this
  |true=>
   have h:b2E ops.toList fun ops=>a83 P τ ops true 0 ops env H (Q .normal):=h
   obtain ⟨π,h1,h2,h3⟩:=h.out
   exact b05 hτ hM (fun env H a w hk hs=>⟨.normal,env,H,rfl,hk,hs⟩) h1 h2 h3 hs
 |seq x y ihx ihy=>
  intro env H Q h
  refine ⟨fun w0 ι0 M0 H0 a w hn hM hs=>?_⟩
  refine wp_seq (wp_mono ((ihx h).out w0 ι0 M0 H0 a w hn hM hs) ?_)
  rintro e a' w' ⟨x,env',H',rfl,hq,hs'⟩
  cases x with
  |normal=>exact (ihy hq).out w0 ι0 M0 H0 a' w' hn hM hs'
  |exit id=>exact ⟨_,env',H',rfl,hq,hs'⟩
  |ret=>exact ⟨_,env',H',rfl,hq,hs'⟩
 |cond c t e iht ihe=>
  intro env H Q h
  refine ⟨fun w0 ι0 M0 H0 a w hn hM hs=>?_⟩
  have h:(match H4 env c with
   |.c (.t (.atm (.bool b)))=>cond b (a13 P τ n0 t env H Q) (a13 P τ n0 e env H Q)
   |_=>False):=h
  split at h
  ·rename_i b hb
   obtain ⟨ι,M,hd,hsz,he,hH,hMB,hF,hst⟩:=hs
   have hv:=(he.ev.to hb).inv_atm
   have hs:Sim w0 ι0 M0 H0 a w env H:=⟨ι,M,hd,hsz,he,hH,hMB,hF,hst⟩
   refine wp_cond hv ?_
   cases b with
   |true=>exact (iht h).out w0 ι0 M0 H0 a w hn hM hs
   |false=>exact (ihe h).out w0 ι0 M0 H0 a w hn hM hs
  ·exact h.elim
 |block id c ih=>
  intro env H Q h
  refine ⟨fun w0 ι0 M0 H0 a w hn hM hs=>?_⟩
  refine wp_block (wp_mono ((ih h).out w0 ι0 M0 H0 a w hn hM hs) ?_)
  rintro e a' w' ⟨x,env',H',rfl,hq,hs'⟩
  cases x with
  |normal=>exact ⟨_,env',H',rfl,hq,hs'⟩
  |exit j=>
   have hq:cond (Nat.beq j id) (Q .normal env' H') (Q (.exit j) env' H'):=hq
   show if j=id then _ else _
   by_cases hj:j=id
   ·subst hj
    rw [if_pos rfl]
    simp only [Nat.beq_refl,cond_true] at hq
    exact ⟨_,env',H',rfl,hq,hs'⟩
   ·rw [if_neg hj]
    have:Nat.beq j id=false:=by
     cases hb:Nat.beq j id with
     |false=>rfl
     |true=>exact absurd (Nat.eq_of_beq_eq_true hb) hj
    simp only [this,cond_false] at hq
    exact ⟨_,env',H',rfl,hq,hs'⟩
  |ret=>exact ⟨_,env',H',rfl,hq,hs'⟩
 |loop c ih=>intro env H Q h;exact h
 |exit id=>intro env H Q h;refine ⟨fun w0 ι0 M0 H0 a w hn hM hs=>?_⟩;exact wp_exit ⟨.exit id,env,H,rfl,h,hs⟩
 |ret=>intro env H Q h;refine ⟨fun w0 ι0 M0 H0 a w hn hM hs=>?_⟩;exact wp_ret ⟨.ret,env,H,rfl,h,hs⟩
 |label l=>intro env H Q h;refine ⟨fun w0 ι0 M0 H0 a w hn hM hs=>?_⟩;exact wp_label ⟨.normal,env,H,rfl,h,hs⟩
 |_=>intros;rename_i h;exact False.elim h
def b2x (τ:Tab) (env:Env) (H:Hp):List ResultVar->(List S->Prop)->Prop
 |[],k=>k []
 |.tmp t::r,k=>ag0 (H4 env (.tmp t)) fun s=>b2x τ env H r fun l=>k (s::l)
 |.cell x t::r,k=>ap8 τ (H4 env) H t (.tmp x) fun s=>b2x τ env H r fun l=>k (s::l)
def a7z (τ:Tab) (fn:Func) (env:Env) (H:Hp) (k:S->Prop):Prop:=
 b2x τ env H fn.results.toList fun l=>match l with
  |[s]=>k s
  |l=>k (.tup l)
theorem Sim.init {w:World} {ι:Io} {M:Ms} {H:Hp} {vals:List Value} {args:List S} (hl:vals.length=args.length) (hr:∀j s,args[j]? =some s->RS w ι M s (vals.getD j undef))
 (hH:j8 w ι M H) (hM:MB w M) (hF:a0f ι H.length) (n:Nat):
 Sim w ι M H { tmps:=vals.toArray++Array.replicate n undef,defers:=[] } w (args++List.replicate n .junk) H:=by
 refine ⟨ι,M,rfl,by simp [hl],fun t s ht=>?_,hH,hM,hF,a3R.refl w ι M H⟩
 by_cases h:t<args.length
 ·rw [lbb h] at ht
  have:=hr t s ht
  have hlt:t<vals.length:=by omega
  rw [lbl,lbf hlt] at this
  rw [Array.getD_eq_getD_getElem?,Array.getElem?_append_left (by simpa using hlt)]
  simpa [hlt] using this
 ·rw [lbc (by omega),lbk] at ht
  split at ht
  ·injection ht with ht;subst ht;exact .junk
  ·cases ht
theorem a6M {P:Program} {τ:Tab} (hτ:C0 P τ) {w:World} {ι:Io} {M:Ms} {env:Env} {H:Hp} {a:Act} (he:a3l w ι M env a) (hH:j8 w ι M H):∀(rs:List ResultVar) {k:List S->Prop},b2x τ env H rs k->
 ∃l,k l∧∃vs:List Value,(rs.mapM fun|.tmp t=>pure (a.tmps.getD t undef)|.cell x t=>do loadVar t (← asAddr (a.tmps.getD x undef)):Sem (List Value)).run P w=.ok vs w∧vs.length=l.length∧
  ∀(j:Nat) (s:S),l[j]? =some s->RS w ι M s (vs.getD j undef)
 |[],k,h=>⟨[],h,[],by simp,rfl,by simp⟩
 |.tmp t::r,k,h=>by
  simp only [b2x] at h
  rw [a1V] at h
  obtain ⟨l,hk,vs,h1,h2,h3⟩:=a6M hτ he hH r h
  refine ⟨_,hk,a.tmps.getD t undef::vs,?_,by simp [h2],fun j s hj=>?_⟩
  ·simp only [List.mapM_cons,Sem.run_bind,Sem.run_pure,Result.andThen_ok,h1]
  ·cases j with
   |zero=>simp at hj;subst hj;exact he.ev (.tmp t)
   |succ j=>simpa using h3 j s (by simpa using hj)
 |.cell x t::r,k,h=>by
  simp only [b2x] at h
  obtain ⟨s,hs,hv⟩:=am4 hτ h
  obtain ⟨v,ad,g0,g1,g2⟩:=hv a w ι M he.ev hH
  obtain ⟨l,hk,vs,h1,h2,h3⟩:=a6M hτ he hH r hs
  have g0':a.tmps.getD x undef=.pointer (some ad):=g0
  have e:(do loadVar t (← asAddr (a.tmps.getD x undef)):Sem Value).run P w=.ok v w:=by
   rw [g0] at g1
   rw [g0']
   simpa [asAddr,Instr.loadAt,Instr.sureAddr] using g1
  refine ⟨_,hk,v::vs,?_,by simp [h2],fun j s hj=>?_⟩
  ·simp only [List.mapM_cons,Sem.run_bind,Sem.run_pure,Result.andThen_ok] at e ⊢
   rw [e]
   simp only [Result.andThen_ok,h1]
  ·cases j with
   |zero=>simp at hj;subst hj;exact g2
   |succ j=>simpa using h3 j s (by simpa using hj)
end
section
open Go.RowKit
def b8R (P:Program) (t:TypeId):Option TK:=
 match P.underlying t with
 |some .bool=>some .bool
 |some (.int k)=>some (.int k)
 |some (.slice e)=>some (.slice e)
 |some (.array n e)=>some (.arr n e)
 |some (.struct fs)=>cond (fs.toList.all fun f=>(P.info? f.type).isSome) (some (.struct (fs.toList.map fun f=>(f.offset,P.cellsOf f.type,false)))) none
 |some _=>some .bas
 |none=>none
def bd5:TK->Bool
 |.arr _ _=>true
 |.struct _=>true
 |_=>false
theorem as5 {P:Program}:∀(fs:List Field),(fs.all fun f=>(P.info? f.type).isSome)=true->
 fs.mapM (fun f=>(P.info? f.type).map fun i=>(f.offset,i.size))=some ((fs.map fun f=>(f.offset,P.cellsOf f.type,false)).map (fun x=>(x.1,x.2.1)))
 |[],_=>rfl
 |f::fs,h=>by
  simp only [List.all_cons,lbM] at h
  obtain ⟨i,hi⟩:=Option.isSome_iff_exists.1 h.1
  have ih:=as5 fs h.2
  have hc:P.cellsOf f.type=i.size:=by simp [Program.cellsOf,hi]
  simp only [List.mapM_cons,hi,ih,List.map_cons,hc,Option.map_some]
  rfl
theorem bc4 {P:Program} {t:TypeId} {d:TD} (h1:b8R P t=some d.k) (h2:d.agg=bd5 d.k)
 (h3:(P.info? t).map (fun i=>(i.zero.map (·.cells.toList),i.size,i.bytes))=some (some d.zero,d.size,d.bytes)) (h4:d.zero.all (·.oneCell')=true) (h5:d.zero.length=d.size):av0 P t d:=by
 constructor
 ·cases hi:P.info? t with
  |none=>rw [hi] at h3;cases h3
  |some i=>
   rw [hi] at h3
   simp only [Option.map_some,lb3,Prod.mk.injEq] at h3
   cases hz:i.zero with
   |none=>rw [hz] at h3;cases h3.1
   |some z=>
    rw [hz] at h3
    simp only [Option.map_some,lb3] at h3
    exact ⟨i,rfl,h3.2.1,h3.2.2,z,hz,h3.1,fun v hv=>lbv.1 h4 v hv,h5⟩
 ·unfold b8R at h1
  cases hu:P.underlying t with
  |none=>rw [hu] at h1;cases h1
  |some u=>
   rw [hu] at h1
   refine ⟨u,rfl,?_⟩
   rw [h2]
   cases u with
   |struct fs=>
    simp only at h1
    cases hb:(fs.toList.all fun f=>(P.info? f.type).isSome) with
    |false=>rw [hb] at h1;cases h1
    |true=>
     rw [hb] at h1
     simp only [cond_true,lb3] at h1
     rw [← h1]
     refine ⟨rfl,fs,rfl,?_,fun f hf=>lbv.1 hb f hf,as5 _ hb⟩
     simp
   |_=>simp only [lb3] at h1<;>rw [← h1]<;>exact ⟨rfl,by first|trivial|rfl⟩
def b1k (P:Program):Nat->List (Option TD)->Prop
 |_,[]=>True
 |t,none::r=>b1k P (t+1) r
 |t,some d::r=>av0 P t d∧b1k P (t+1) r
theorem a8F {P:Program}:∀(l:List (Option TD)) (t0:Nat),b1k P t0 l->∀i d,l.getD i none=some d->av0 P (t0+i) d
 |[],_,_,i,d,h=>by simp at h
 |none::r,t0,hr,i,d,h=>by
  cases i with
  |zero=>simp at h
  |succ i=>have:=a8F r (t0+1) hr i d (by simpa using h);rwa [show t0+1+i=t0+(i+1) by omega] at this
 |some e::r,t0,hr,i,d,h=>by
  cases i with
  |zero=>simp at h;subst h;exact hr.1
  |succ i=>have:=a8F r (t0+1) hr.2 i d (by simpa using h);rwa [show t0+1+i=t0+(i+1) by omega] at this
theorem b60 {P:Program} {l:List (Option TD)} (hm:P.follows .mixedOrders=true) (h:b1k P 0 l):C0 P (fun t=>l.getD t none):=⟨hm,fun t d hd=>by
 have:=a8F l 0 h t d hd
 rwa [Nat.zero_add] at this⟩
end
end Go.Proofs.YtaejgdbahjjncaaGreat
