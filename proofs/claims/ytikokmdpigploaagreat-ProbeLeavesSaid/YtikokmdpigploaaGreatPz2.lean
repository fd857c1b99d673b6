/- Part 2. -/
import Derived.Test.YtikokmdpigploaaGreatChecked
import Derived.WalkLawsBesides
import Derived.Deep.AppendLies
import Derived.Test.YtikokmdpigploaaGreatPz1
namespace Go.Proofs.YtikokmdpigploaaGreat
set_option linter.unusedVariables false
set_option linter.unusedSimpArgs false
section
open Go.RowKit
def am0 (dst:Option Tmp) (s:S) (env:Env) (k:Env->Prop):Prop:=
 match dst with
 |none=>k env
 |some d=>a5O d s env k
def aL8 (dst:Option Tmp) (s:S) (env:Env):Env:=
 match dst with
 |none=>env
 |some d=>env.set d s
theorem a2Y {dst:Option Tmp} {s:S} {env:Env} {k:Env->Prop}:am0 dst s env k↔k (aL8 dst s env):=by
 cases dst with
 |none=>rfl
 |some d=>exact M5
abbrev aQ3:S:=.tup []
theorem RS.skip {w:World} {ι:Io} {M:Ms}:RS w ι M aQ3 undef:=.tup [] rfl (by simp)
def aZ4 (ops:List Oper) (o:Oper) (env:Env) (X Y:Prop):Prop:=
 match o.guard with
 |none=>X
 |some (j,want)=>match ops[j]? with
  |none=>False
  |some oj=>match oj.dst with
   |none=>False
   |some d=>match I7 env (.tmp d) with
    |.c (.t (.atm (.bool b)))=>match want with
     |true=>cond b X Y
     |false=>cond b Y X
    |.tup _=>Y
    |_=>False
def a4n (acc:List Nat) (o:Oper):Nat:=o.after.toList.foldl (fun s e=>cond (Region.binds .any e) (s ||| (1 <<< e.on) ||| acc.getD e.on 0) s) 0
def a2n:List Oper->List Nat->List Nat
 |[],acc=>acc
 |o::r,acc=>a2n r (acc++[a4n acc o])
def a0t (ops:List Oper):List Nat:=a2n ops []
def a0j (ops:List Oper) (o:Oper):List Nat:=
 (o.op.operands.toList.filterMap fun x=>match x with|.tmp t=>some t|_=>none)++
 (match o.guard with
  |some (j,_)=>match ops[j]? with
   |some oj=>oj.dst.toList
   |none=>[]
  |none=>[])
def Z2 (ops:List Oper) (i:Nat):List Nat:=(List.range i).filter fun j=>!((a0t ops).getD i 0).testBit j
def a12 (ops:List Oper) (i j:Nat):Bool:=match ops[j]? with
 |some o=>o.guard.isNone && o.dst.isSome && (a0j ops o).all fun t=>ops.zipIdx.all fun y=>match y.1.dst with
  |some d=>!(Nat.beq d t) || Nat.blt y.2 j || Nat.blt i y.2
  |none=>true
 |none=>false
def J7 (ops:List Oper) (i:Nat):Bool:=
 ((List.range ops.length).all fun j=>cond (Nat.blt i j) (((a0t ops).getD j 0).testBit i) true) && (Z2 ops i).all (a12 ops i)
def a2l (P:Program) (τ:Tab) (ops:List Oper) (env:Env) (H':Hp) (K:Prop):List Nat->Prop
 |[]=>K
 |j::r=>match ops[j]? with
  |some o=>match o.dst with
   |some d=>aop P τ (I7 env) H' o.op (fun s B=>(B=[]∧s=I7 env (.tmp d))∧a2l P τ ops env H' K r) (fun _ _=>False)
   |none=>False
  |none=>False
def b5v (P:Program) (τ:Tab) (ops:List Oper) (drawn:Bool) (o:Oper) (ih:Nat->Env->Hp->(Env->Hp->Prop)->Prop) (i:Nat) (env:Env) (H:Hp) (K:Env->Hp->Prop):Prop:=
 aZ4 ops o env
  (aop P τ (I7 env) H o.op (fun s B=>am0 o.dst s env fun env'=>ae7 H B fun H'=>ih (i+1) env' H' K)
    (fun s H'=>match drawn with
      |true=>J7 ops i=true∧∃L,Z2 ops i=L∧a2l P τ ops env H' (am0 o.dst s env fun env'=>ih (i+1) env' H' K) L
      |false=>am0 o.dst s env fun env'=>ih (i+1) env' H' K))
  (am0 o.dst aQ3 env fun env'=>ih (i+1) env' H K)
def b8J (_:Nat) (env:Env) (H:Hp) (K:Env->Hp->Prop):Prop:=K env H
noncomputable def bi6 (P:Program) (τ:Tab) (ops:List Oper) (drawn:Bool) (rest:List Oper):Nat->Env->Hp->(Env->Hp->Prop)->Prop:=
 List.rec (motive:=fun _=>Nat->Env->Hp->(Env->Hp->Prop)->Prop) b8J (fun o _ ih=>b5v P τ ops drawn o ih) rest
noncomputable def a73 (P:Program) (τ:Tab) (ops:List Oper) (drawn:Bool) (i:Nat) (rest:List Oper) (env:Env) (H:Hp) (K:Env->Hp->Prop):Prop:=bi6 P τ ops drawn rest i env H K
abbrev a2G (w:World) (ι:Io) (M:Ms) (env:Env) (a:Act):Prop:=∀(t:Nat) (s:S),env[t]? =some s->RS w ι M s (a.tmps.getD t undef)
def Sim (w0:World) (ι0:Io) (M0:Ms) (H0:Hp) (a:Act) (w:World) (env:Env) (H:Hp):Prop:=
 ∃(ι:Io) (M:Ms),a.defers=[]∧a.tmps.size=env.length∧a2G w ι M env a∧p9 w ι M H∧MB w M∧Z1 ι H.length∧a37 w0 ι0 M0 H0 w ι M H
theorem a2G.ev {w:World} {ι:Io} {M:Ms} {env:Env} {a:Act} (h:a2G w ι M env a):X2 w ι M (I7 env) a:=by
 intro x
 cases x with
 |tmp t=>
  show RS w ι M (env.getD t .junk) (a.tmps.getD t undef)
  rw [lbl]
  cases ht:env[t]? with
  |none=>exact .junk
  |some s=>exact h t s ht
 |const v=>exact RS.const v
 |global g=>exact .junk
 |func f=>exact .c (.t (.fn [] rfl (by simp)))
theorem a2G.put {w:World} {ι:Io} {M:Ms} {env:Env} {a:Act} (h:a2G w ι M env a) (hsz:a.tmps.size=env.length) {s:S} {v:Value} (hs:RS w ι M s v) (dst:Option Tmp):a2G w ι M (aL8 dst s env) (a.put dst v):=by
 cases dst with
 |none=>exact h
 |some d=>
  intro t s' ht
  simp only [aL8] at ht
  by_cases htd:t=d
  ·subst htd
   have hlt:t<env.length:=by have:=(lbe.1 ht).1;simpa using this
   rw [List.getElem?_set_self hlt] at ht
   injection ht with ht
   subst ht
   show RS w ι M s ((a.tmps.setIfInBounds t v).getD t undef)
   simpa [show t<a.tmps.size by omega] using hs
  ·rw [List.getElem?_set_ne (Ne.symm htd)] at ht
   show RS w ι M s' ((a.tmps.setIfInBounds d v).getD t undef)
   have:=h t s' ht
   rw [Array.getD_eq_getD_getElem?] at this ⊢
   rwa [Array.getElem?_setIfInBounds_ne (Ne.symm htd)]
theorem a2o (dst:Option Tmp) (s:S) (env:Env):(aL8 dst s env).length=env.length:=by cases dst<;>simp [aL8]
theorem a4x (a:Act) (dst:Option Tmp) (v:Value):(a.put dst v).tmps.size=a.tmps.size:=by cases dst<;>simp [Act.put]
theorem a11 (a:Act) (dst:Option Tmp) (v:Value):(a.put dst v).defers=a.defers:=by cases dst<;>rfl
def a62 (ops:List Oper) (o:Oper) (env:Env) (y:Bool):Prop:=
 match o.guard with
 |none=>y=true
 |some (j,want)=>∃oj d,ops[j]? =some oj∧oj.dst=some d∧((∃ b,I7 env (.tmp d)=j0 b∧y=(b == want))∨∃ss,I7 env (.tmp d)=.tup ss∧y=false)
theorem af6 {ops:List Oper} {o:Oper} {env:Env} {X Y:Prop} (h:aZ4 ops o env X Y):∃y,a62 ops o env y∧cond y X Y:=by
 unfold aZ4 at h
 unfold a62
 split at h
 ·exact ⟨true,rfl,h⟩
 ·rename_i j want _
  split at h
  ·exact h.elim
  ·rename_i oj hj
   split at h
   ·exact h.elim
   ·rename_i d hd
    split at h
    ·rename_i b hb
     refine ⟨b == want,⟨oj,d,hj,hd,.inl ⟨b,hb,rfl⟩⟩,?_⟩
     cases want<;>cases b<;>exact h
    ·rename_i ss hb
     exact ⟨false,⟨oj,d,hj,hd,.inr ⟨ss,hb,rfl⟩⟩,h⟩
    ·exact h.elim
theorem a42 {w:World} {ι:Io} {M:Ms} {env:Env} {a:Act} {ops:Array Oper} {o:Oper} {y:Bool} (hsz:a.tmps.size=env.length) (h:a62 ops.toList o env y)
 (he:∀j want oj d,o.guard=some (j,want)->ops[j]? =some oj->oj.dst=some d->RS w ι M (I7 env (.tmp d)) (a.tmps.getD d undef)):
 Region.wanted o (yielded ops a.tmps)=y:=by
 unfold a62 at h
 unfold Region.wanted
 cases hg:o.guard with
 |none=>rw [hg] at h;exact h.symm
 |some jw=>
  obtain ⟨j,want⟩:=jw
  rw [hg] at h
  obtain ⟨oj,d,h1,h2,h3⟩:=h
  have h1':ops[j]? =some oj:=by simpa using h1
  have hr:=he j want oj d hg h1' h2
  have hne:I7 env (.tmp d)≠.junk:=by
   rcases h3 with ⟨b,h3,-⟩|⟨ss,h3,-⟩<;>rw [h3]<;>intro h<;>cases h
  have hlt:d<a.tmps.size:=by
   rcases Nat.lt_or_ge d a.tmps.size with hlt|hge
   ·exact hlt
   ·have:I7 env (.tmp d)=.junk:=by
     show env.getD d .junk=_
     rw [lbl,lbd (by omega)];rfl
    exact absurd this hne
  have hy:yielded ops a.tmps j=match a.tmps.getD d undef with|.bool b=>some b|_=>none:=by
   unfold yielded
   rw [h1']
   simp only [Option.bind_some,h2]
   rw [Array.getD_eq_getD_getElem?,Array.getElem?_eq_getElem hlt]
   simp only [Option.getD_some]
   split<;>rename_i hv
   ·injection hv with hv;rw [hv]
   ·split<;>rename_i hv'
    ·exact absurd (congrArg some hv') (hv _)
    ·rfl
  simp only [hy]
  rcases h3 with ⟨b,h3,rfl⟩|⟨ss,h3,rfl⟩
  ·rw [h3] at hr
   rw [hr.inv_atm]
   cases b<;>cases want<;>rfl
  ·rw [h3] at hr
   generalize a.tmps.getD d undef=v at *
   cases hr with
   |tup vs hl hr=>rfl
section
variable {P:Program} {τ:Tab}
theorem Sim.post {w0:World} {ι0:Io} {M0:Ms} {H0:Hp} (hM0:MB w0 M0) {a:Act} {w w':World} {ι:Io} {M:Ms} {env:Env} {H H':Hp} {s:S} {v:Value} (hd:a.defers=[]) (hsz:a.tmps.size=env.length)
 (he:a2G w ι M env a) (hH:p9 w ι M H) (hM:MB w M) (hF:Z1 ι H.length) (hst:a37 w0 ι0 M0 H0 w ι M H) (hp:H3 w ι M H s H' v w') (dst:Option Tmp):
 Sim w0 ι0 M0 H0 (a.put dst v) w' (aL8 dst s env) H':=by
 obtain ⟨ι',M',h1,h2,h3,h4,h5⟩:=hp
 have hk:∀b,b<w.heap.size->¬M b->w'.heap[b]? =w.heap[b]?:=fun b hb hnm=>h5.keep b hb fun hl=>hnm (a34.inM hH hl)
 have hi:∀id l,ι id=some l->ι' id=some l:=fun id l hl=>by
  have hlt:id<H.length:=by
   rcases Nat.lt_or_ge id H.length with h|h
   ·exact h
   ·rw [hF id h] at hl;cases hl
  rw [h5.same id hlt,hl]
 refine ⟨ι',M',by rw [a11,hd],by rw [a4x,a2o,hsz],a2G.put (fun t s ht=>(he t s ht).keep hk h5.mnew hi) hsz h1 dst,h2,h3,h4,hst.trans hM0 h5⟩
theorem b6s (hτ:D3 P τ) {ops:Array Oper} {Q:Exit->Act->World->Prop} {K:Env->Hp->Prop} {w0:World} {ι0:Io} {M0:Ms} {H0:Hp} (hM0:MB w0 M0)
 (hK:∀env H a w,K env H->Sim w0 ι0 M0 H0 a w env H->Q .normal a w):
 ∀(rest:List Oper) (i:Nat) (env:Env) (H:Hp) (a:Act) (w:World),ops.toList.drop i=rest->a73 P τ ops.toList false i rest env H K->Sim w0 ι0 M0 H0 a w env H->
  wpOps P ops Q (List.range' i rest.length) a w:=by
 intro rest
 induction rest with
 |nil=>intro i env H a w _ h hs;exact hK env H a w h hs
 |cons o rest ih=>
  intro i env H a w hd h hs
  have hget:ops[i]? =some o:=by
   have:(ops.toList.drop i)[0]? =some o:=by rw [hd];rfl
   rw [lbj] at this
   simpa using this
  have hd':ops.toList.drop (i+1)=rest:=by
   rw [← List.drop_drop,hd];rfl
  obtain ⟨ι,M,hdf,hsz,he,hH,hM,hF,hst⟩:=hs
  obtain ⟨y,hw,h⟩:=af6 h
  have hwr:=a42 hsz hw (fun j want oj d _ _ _=>he.ev (.tmp d))
  simp only [lbu,List.range'_succ,wpOps,hget]
  rw [hwr]
  cases y with
  |false=>
   simp only [Bool.false_eq_true,if_false]
   rw [cond_false,a2Y] at h
   exact ih (i+1) _ H _ w hd' h ⟨ι,M,by rw [a11,hdf],by rw [a4x,a2o,hsz],he.put hsz .skip o.dst,hH,hM,hF,hst⟩
  |true=>
   simp only [if_true]
   refine .inl ?_
   rw [cond_true] at h
   rcases a8E hτ h with ⟨s,B,h,hq⟩|⟨s,H',h,hg⟩
   ·rw [a2Y,a3j] at h
    refine hq a w ι M he.ev hH hM (fun k _=>hF _ (by omega)) _ _ fun v w' hp=>?_
    exact ih (i+1) _ _ _ w' hd' h (Sim.post hM0 hdf hsz he hH hM hF hst (hp.gpost hH hM hF) o.dst)
   ·have h':am0 o.dst s env fun env'=>a73 P τ ops.toList false (i+1) rest env' H' K:=h
    rw [a2Y] at h'
    refine hg a w ι M he.ev hH hM hF _ _ fun v w' hp=>?_
    exact ih (i+1) _ _ _ w' hd' h' (Sim.post hM0 hdf hsz he hH hM hF hst hp o.dst)
end
end
section
open Go.RowKit
def a0J (ops:List Oper):Bool:=ops.zipIdx.all fun x=>x.1.after.toList.all fun e=>!(Region.binds .any e) || Nat.blt e.on x.2
def a6Y (ops:List Oper):Bool:=ops.zipIdx.all fun x=>ops.zipIdx.all fun y=>Nat.beq x.2 y.2 || (match x.1.dst,y.1.dst with|some a,some b=>!(Nat.beq a b)|_,_=>true)
def aQ1 (ops:List Oper):Bool:=
 ops.zipIdx.all fun x=>(a0j ops x.1).all fun t=>ops.zipIdx.all fun y=>match y.1.dst with
  |some d=>!(Nat.beq d t) || Nat.beq x.2 y.2 || cond (Nat.blt y.2 x.2) (((a0t ops).getD x.2 0).testBit y.2) (((a0t ops).getD y.2 0).testBit x.2)
  |none=>true
def a7o (ops:List Oper):Bool:=a0J ops && a6Y ops && aQ1 ops
theorem a7G:∀(r:List Oper) (acc:List Nat),∃s,a2n r acc=acc++s∧s.length=r.length∧∀i o,r[i]? =some o->s[i]? =some (a4n ((a2n r acc).take (acc.length+i)) o)
 |[],acc=>⟨[],by simp [a2n],rfl,by simp⟩
 |o::r,acc=>by
  obtain ⟨s,h1,h2,h3⟩:=a7G r (acc++[a4n acc o])
  refine ⟨a4n acc o::s,by rw [a2n,h1];simp,by simp [h2],fun i o' hi=>?_⟩
  cases i with
  |zero=>
   simp at hi
   subst hi
   rw [a2n,h1]
   simp
  |succ i=>
   have:=h3 i o' (by simpa using hi)
   rw [a2n]
   simp only [lbq,List.length_singleton] at this
   rw [show acc.length+(i+1)=acc.length+1+i by omega]
   simpa using this
theorem ao5 {ops:List Oper} {i:Nat} {o:Oper} (h:ops[i]? =some o):(a0t ops).getD i 0=a4n ((a0t ops).take i) o:=by
 obtain ⟨s,h1,h2,h3⟩:=a7G ops []
 have:=h3 i o h
 simp only [List.nil_append] at h1
 have e:a0t ops=s:=h1
 rw [lbl,e,this]
 simp only [List.length_nil,Nat.zero_add,Option.getD_some]
 rw [← h1]
theorem a2D (acc:List Nat) (j:Nat):∀(es:List Edge) (s0:Nat),
 (es.foldl (fun s e=>cond (Region.binds .any e) (s ||| (1 <<< e.on) ||| acc.getD e.on 0) s) s0).testBit j=true->s0.testBit j=true∨∃e ∈ es,Region.binds .any e=true∧(e.on=j∨(acc.getD e.on 0).testBit j=true)
 |[],s0,h=>.inl h
 |e::es,s0,h=>by
  rw [List.foldl_cons] at h
  rcases a2D acc j es _ h with h|⟨e',h1,h2⟩
  ·cases hb:Region.binds .any e with
   |false=>rw [hb] at h;exact .inl h
   |true=>
    rw [hb] at h
    simp only [cond_true,Nat.testBit_or,lbN,Nat.testBit_shiftLeft] at h
    rcases h with (h|h)|h
    ·exact .inl h
    ·refine .inr ⟨e,by simp,hb,.inl ?_⟩
     simp only [lbM,lbI] at h
     obtain ⟨h1,h2⟩:=h
     have:j - e.on=0:=by
      rcases Nat.eq_zero_or_pos (j - e.on) with h|h
      ·exact h
      ·rw [Nat.testBit_one_eq_true_iff_self_eq_zero] at h2;exact h2
     omega
    ·exact .inr ⟨e,by simp,hb,.inr h⟩
  ·exact .inr ⟨e',by simp [h1],h2⟩
theorem a6R {ops:List Oper} (hb:a0J ops=true) {i:Nat} {o:Oper} (h:ops[i]? =some o) {e:Edge} (he:e ∈ o.after.toList) (hbi:Region.binds .any e=true):e.on<i:=by
 have:=lbv.1 hb (o,i) (by rw [List.mem_zipIdx_iff_getElem?];exact h)
 have:=lbv.1 this e he
 simp only [hbi,Bool.not_true,Bool.false_or,Nat.blt_eq] at this
 exact this
theorem af1 {ops:List Oper} (hb:a0J ops=true) {S:Nat->Prop} (hS:∀i o,ops[i]? =some o->S i->∀e ∈ o.after.toList,Region.binds .any e=true->S e.on):
 ∀(i:Nat) (o:Oper) (j:Nat),ops[i]? =some o->((a0t ops).getD i 0).testBit j=true->S i->S j:=by
 intro i
 induction i using Nat.strongRecOn with
 |_ i ih=>
  intro o j ho hj hi
  rw [ao5 ho] at hj
  rcases a2D _ j _ _ hj with h|⟨e,he,hbi,h⟩
  ·simp at h
  ·have hlt:=a6R hb ho he hbi
   have hs:=hS i o ho hi e he hbi
   rcases h with rfl|h
   ·exact hs
   ·have hio:i<ops.length:=(lbe.1 ho).1
    refine ih e.on hlt ops[e.on] j (lbf (by omega)) ?_ hs
    rw [lbl,List.getElem?_take_of_lt hlt] at h
    rw [lbl]
    exact h
theorem Y4 {ops:List Oper} (hb:a0J ops=true) {S:Nat->Prop} (hS:∀i o,ops[i]? =some o->S i->∀e ∈ o.after.toList,Region.binds .any e=true->S e.on)
 {i:Nat} {o:Oper} {j:Nat} (ho:ops[i]? =some o) (hr:∀e ∈ o.after.toList,Region.binds .any e=true->S e.on) (hj:((a0t ops).getD i 0).testBit j=true):S j:=by
 rw [ao5 ho] at hj
 rcases a2D _ j _ _ hj with h|⟨e,he,hbi,h⟩
 ·simp at h
 ·have hlt:=a6R hb ho he hbi
  have hs:=hr e he hbi
  rcases h with rfl|h
  ·exact hs
  ·have hio:i<ops.length:=(lbe.1 ho).1
   refine af1 hb hS e.on ops[e.on] j (lbf (by omega)) ?_ hs
   rw [lbl,List.getElem?_take_of_lt hlt] at h
   rw [lbl]
   exact h
end
section
open Go.RowKit
theorem a7I {ev ev':Operand->S} {x:Option Operand} {d:Int} {k:Int->Prop} (h:∀y,x=some y->ev y=ev' y):P4 ev x d k=P4 ev' x d k:=by
 cases x with
 |none=>rfl
 |some y=>simp only [P4,h y rfl]
theorem av7 {P:Program} {τ:Tab} {ev ev':Operand->S} {H:Hp} {op:Op} {Kq:S->List Blk->Prop} {Kg:S->Hp->Prop} (h:∀x ∈ op.operands.toList,ev x=ev' x):
 aop P τ ev H op Kq Kg=aop P τ ev' H op Kq Kg:=by
 cases op with
 |move x=>simp only [aop,h x (by simp [Op.operands])]
 |assign x=>simp only [aop,h x (by simp [Op.operands])]
 |pick c a b=>simp only [aop,h c (by simp [Op.operands]),h a (by simp [Op.operands]),h b (by simp [Op.operands])]
 |load t x=>simp only [aop,as6,h x (by simp [Op.operands])]
 |store t x v=>simp only [aop,aE3,h x (by simp [Op.operands]),h v (by simp [Op.operands])]
 |fieldAddr s x f=>simp only [aop,a6N,h x (by simp [Op.operands])]
 |indexAddr t x i=>simp only [aop,a3M,h x (by simp [Op.operands]),h i (by simp [Op.operands])]
 |slice t x lo hi mx=>
  have e1:∀d k,P4 ev lo d k=P4 ev' lo d k:=fun d k=>a7I fun y hy=>h y (by subst hy;simp [Op.operands])
  have e2:∀d k,P4 ev hi d k=P4 ev' hi d k:=fun d k=>a7I fun y hy=>h y (by subst hy;simp [Op.operands])
  cases mx with
  |none=>simp only [aop,a5a,h x (by simp [Op.operands]),e1,e2]
  |some y=>simp only [aop,a5a,h x (by simp [Op.operands]),h y (by simp [Op.operands]),e1,e2]
 |binOp op t x y yt=>simp only [aop,h x (by simp [Op.operands]),h y (by simp [Op.operands])]
 |unOp op t x=>simp only [aop,h x (by simp [Op.operands])]
 |convert s d x=>simp only [aop,h x (by simp [Op.operands])]
 |makeSlice t l c=>simp only [aop,b0Q,h l (by simp [Op.operands]),h c (by simp [Op.operands])]
 |build t parts=>
  have e:(parts.toList.map fun p=>(p.1,ev p.2))=parts.toList.map fun p=>(p.1,ev' p.2):=lbp fun p hp=>by rw [h p.2 (by simp only [Op.operands];exact lbx.2 ⟨p,hp,rfl⟩)]
  simp only [aop,az9,e]
 |buildSlice t n parts=>
  have e:(parts.toList.map fun p=>(p.1,ev p.2))=parts.toList.map fun p=>(p.1,ev' p.2):=lbp fun p hp=>by rw [h p.2 (by simp only [Op.operands];exact lbx.2 ⟨p,hp,rfl⟩)]
  simp only [aop,a2p,e]
 |box t x=>simp only [aop,b7Q,h x (by simp [Op.operands])]
 |alloc t=>rfl
 |extract x i=>simp only [aop,h x (by simp [Op.operands])]
 |nilCheck x=>simp only [aop,h x (by simp [Op.operands])]
 |makeFunc fn first caps=>
  have e:caps.toList.map ev=caps.toList.map ev':=lbp fun x hx=>h x (by simp [Op.operands];exact .inr (by simpa using hx))
  simp only [aop,e]
 |call c=>
  obtain ⟨callee,args,ats⟩:=c
  have ea:∀x ∈ args.toList,ev x=ev' x:=fun x hx=>h x (by simp [Op.operands,Call.operands];exact .inr (by simpa using hx))
  have em:args.toList.map ev=args.toList.map ev':=lbp ea
  cases callee with
  |value f=>
   have ef:=h f (by simp [Op.operands,Call.operands])
   simp only [aop,ef,em]
  |invoke r m=>rfl
  |builtin b=>
   cases b with
   |len=>
    simp only [aop]
    split
    ·rename_i t ts x xs h1 h2
     rw [ea x (by rw [h2];simp)]
    ·rfl
   |append=>
    simp only [aop]
    split
    ·rename_i t t' s x h1 h2
     simp only [a9F,b2c,ea s (by rw [h2];simp),ea x (by rw [h2];simp)]
    ·rfl
   |cap=>
    simp only [aop]
    split
    ·rename_i t x h1 h2
     rw [ea x (by rw [h2];simp)]
    ·rfl
   |copy=>
    simp only [aop]
    split
    ·rename_i t t' x s h1 h2
     simp only [b1i,ea x (by rw [h2];simp),ea s (by rw [h2];simp)]
    ·rfl
   |clear=>
    simp only [aop]
    split
    ·rename_i t x h1 h2
     simp only [aG0,ea x (by rw [h2];simp)]
    ·rfl
   |min=>simp only [aop,em]
   |max=>simp only [aop,em]
   |_=>rfl
 |_=>rfl
def evR (o:Oper) (env:Env):Operand->S:=fun x=>
 match x with
 |.tmp t=>cond ((o.op.operands.toList.filterMap fun x=>match x with|.tmp t=>some t|_=>none).contains t) (I7 env (.tmp t)) .junk
 |x=>I7 env x
theorem b4k {o:Oper} {env:Env} {x:Operand} (h:x ∈ o.op.operands.toList):I7 env x=evR o env x:=by
 cases x with
 |tmp t=>
  have:(o.op.operands.toList.filterMap fun x=>match x with|.tmp t=>some t|_=>none).contains t=true:=by
   rw [List.contains_iff_mem,List.mem_filterMap]
   exact ⟨.tmp t,h,rfl⟩
  simp only [evR,this,cond_true]
 |_=>rfl
inductive Kd where
 |skip
 |quiet (B:List Blk)
 |gen
def aH5 (P:Program) (ops:List Oper) (envs:Nat->Env) (hs:Nat->Hp) (rs:Nat->S) (kd:Nat->Kd) (i:Nat):Prop:=
 ∃o,ops[i]? =some o∧envs (i+1)=aL8 o.dst (rs i) (envs i)∧match kd i with
  |.skip=>a62 ops o (envs i) false∧rs i=aQ3∧hs (i+1)=hs i
  |.quiet B=>a62 ops o (envs i) true∧QOp P o (evR o (envs i)) (hs i) (rs i) B∧hs (i+1)=hs i++B
  |.gen=>a62 ops o (envs i) true∧GOp P o (evR o (envs i)) (hs i) (rs i) (hs (i+1))∧J7 ops i=true∧∀j ∈ Z2 ops i,∃oj d,ops[j]? =some oj∧oj.dst=some d∧QOp P oj (evR oj (envs i)) (hs (i+1)) (I7 (envs i) (.tmp d)) []
theorem as5 {P:Program} {τ:Tab} (hτ:D3 P τ) {ops:List Oper} {env:Env} {H':Hp} {K:Prop}:∀{L:List Nat},a2l P τ ops env H' K L->K∧∀j ∈ L,∃oj d,ops[j]? =some oj∧oj.dst=some d∧QOp P oj (evR oj env) H' (I7 env (.tmp d)) []
 |[],h=>⟨h,by simp⟩
 |j::r,h=>by
  unfold a2l at h
  split at h
  ·rename_i o ho
   split at h
   ·rename_i d hd
    have hcong:=av7 (P:=P) (τ:=τ) (H:=H') (op:=o.op) (ev:=I7 env) (ev':=evR o env) (fun x hx=>b4k hx)
     (Kq:=fun s B=>(B=[]∧s=I7 env (.tmp d))∧a2l P τ ops env H' K r) (Kg:=fun _ _=>False)
    rw [hcong] at h
    rcases a8E hτ h with ⟨s,B,⟨⟨rfl,rfl⟩,h⟩,hq⟩|⟨s,H2,h,hg⟩
    ·obtain ⟨h1,h2⟩:=as5 hτ h
     refine ⟨h1,fun i hi=>?_⟩
     rcases lbA.1 hi with rfl|hi
     ·exact ⟨o,d,ho,hd,hq⟩
     ·exact h2 i hi
    ·exact h.elim
   ·exact h.elim
  ·exact h.elim
theorem ab3 {P:Program} {τ:Tab} (hτ:D3 P τ) {ops:List Oper} {K:Env->Hp->Prop}:∀(rest:List Oper) (i:Nat) (env:Env) (H:Hp),ops.drop i=rest->a73 P τ ops true i rest env H K->
 ∃(envs:Nat->Env) (hs:Nat->Hp) (rs:Nat->S) (kd:Nat->Kd),envs i=env∧hs i=H∧K (envs ops.length) (hs ops.length)∧∀j,i<=j->j<ops.length->aH5 P ops envs hs rs kd j
 |[],i,env,H,hd,h=>⟨fun _=>env,fun _=>H,fun _=>.junk,fun _=>.skip,rfl,rfl,h,fun j h1 h2=>by
    have:=congrArg List.length hd
    simp at this
    omega⟩
 |o::rest,i,env,H,hd,h=>by
  have hget:ops[i]? =some o:=by
   have:(ops.drop i)[0]? =some o:=by rw [hd];rfl
   rw [lbj] at this
   simpa using this
  have hil:i<ops.length:=(lbe.1 hget).1
  have hd':ops.drop (i+1)=rest:=by rw [← List.drop_drop,hd];rfl
  have build:∀(r:S) (k:Kd) (env':Env) (H':Hp),a73 P τ ops true (i+1) rest env' H' K->env'=aL8 o.dst r env->
   (match k with
     |.skip=>a62 ops o env false∧r=aQ3∧H'=H
     |.quiet B=>a62 ops o env true∧QOp P o (evR o env) H r B∧H'=H++B
     |.gen=>a62 ops o env true∧GOp P o (evR o env) H r H'∧J7 ops i=true∧∀j ∈ Z2 ops i,∃oj d,ops[j]? =some oj∧oj.dst=some d∧QOp P oj (evR oj env) H' (I7 env (.tmp d)) [])->
   ∃(envs:Nat->Env) (hs:Nat->Hp) (rs:Nat->S) (kd:Nat->Kd),envs i=env∧hs i=H∧K (envs ops.length) (hs ops.length)∧∀j,i<=j->j<ops.length->aH5 P ops envs hs rs kd j:=by
   intro r k env' H' hrest henv hk
   obtain ⟨envs,hs,rs,kd,h1,h2,h3,h4⟩:=ab3 hτ rest (i+1) env' H' hd' hrest
   refine ⟨fun j=>if j=i then env else envs j,fun j=>if j=i then H else hs j,fun j=>if j=i then r else rs j,fun j=>if j=i then k else kd j,by simp,by simp,?_,fun j hj hjl=>?_⟩
   ·simp only [show ¬ops.length=i by omega,if_false];exact h3
   ·by_cases hji:j=i
    ·subst hji
     refine ⟨o,hget,?_,?_⟩
     ·simp only [show ¬j+1=j by omega,if_false,if_true,h1,henv]
     ·simp only [if_true,show ¬j+1=j by omega,if_false,h2]
      exact hk
    ·obtain ⟨o',q1,q2,q3⟩:=h4 j (by omega) hjl
     refine ⟨o',q1,?_,?_⟩
     ·simp only [hji,show ¬j+1=i by omega,if_false];exact q2
     ·simp only [hji,show ¬j+1=i by omega,if_false];exact q3
  obtain ⟨y,hw,h⟩:=af6 h
  cases y with
  |false=>
   rw [cond_false,a2Y] at h
   exact build aQ3 .skip _ H h rfl ⟨hw,rfl,rfl⟩
  |true=>
   rw [cond_true] at h
   have hcong:=av7 (P:=P) (τ:=τ) (H:=H) (op:=o.op) (ev:=I7 env) (ev':=evR o env) (fun x hx=>b4k hx)
    (Kq:=fun s B=>am0 o.dst s env fun env'=>ae7 H B fun H'=>a73 P τ ops true (i+1) rest env' H' K)
    (Kg:=fun s H'=>J7 ops i=true∧∃L,Z2 ops i=L∧a2l P τ ops env H' (am0 o.dst s env fun env'=>a73 P τ ops true (i+1) rest env' H' K) L)
   have h0:aop P τ (I7 env) H o.op (fun s B=>am0 o.dst s env fun env'=>ae7 H B fun H'=>a73 P τ ops true (i+1) rest env' H' K)
    (fun s H'=>J7 ops i=true∧∃L,Z2 ops i=L∧a2l P τ ops env H' (am0 o.dst s env fun env'=>a73 P τ ops true (i+1) rest env' H' K) L):=h
   rw [hcong] at h0
   rcases a8E hτ h0 with ⟨s,B,h,hq⟩|⟨s,H',⟨hb,L,hL,h⟩,hg⟩
   ·rw [a2Y,a3j] at h
    exact build s (.quiet B) _ _ h rfl ⟨hw,hq,rfl⟩
   ·obtain ⟨h,hl⟩:=as5 hτ h
    rw [a2Y] at h
    exact build s .gen _ H' h rfl ⟨hw,hg,hb,by rw [hL];exact hl⟩
end
section
open Go.RowKit
theorem p9.pre1 {w:World} {ι:Io} {M:Ms} {H X:Hp} (h:p9 w ι M (H++X)):p9 w ι M H:=by
 have e:∀(id:Nat) (k:Blk),H[id]? =some k->(H++X)[id]? =some k:=fun id k hk=>by
  rw [lbb (lbe.1 hk).1];exact hk
 exact ⟨fun id k hk=>h.blk id k (e id k hk),fun id k hk=>h.liv id k (e id k hk),fun id k hk=>h.fro id k (e id k hk),fun id id' k k' hk hk'=>h.inj id id' k k' (e id k hk) (e id' k' hk'),fun id id' k k' hk hk'=>h.old id id' k k' (e id k hk) (e id' k' hk')⟩
theorem p9.extend {w:World} {ι:Io} {M:Ms} {H X:Hp} (h:p9 w ι M H) (hF:Z1 ι H.length):p9 w ι M (H++X):=by
 have e:∀(id:Nat) (k:Blk),(H++X)[id]? =some k->∀l,ι id=some l->H[id]? =some k:=fun id k hk l hl=>by
  by_cases hid:id<H.length
  ·rw [lbb hid] at hk;exact hk
  ·rw [hF id (by omega)] at hl;cases hl
 exact ⟨fun id k hk hd l hl=>h.blk id k (e id k hk l hl) hd l hl,fun id k hk hm b c s hl=>h.liv id k (e id k hk _ hl) hm b c s hl,fun id k hk hm b c s hl=>h.fro id k (e id k hk _ hl) hm b c s hl,
  fun id id' k k' hk hk' hm hm' b c s c' s' hl hl'=>h.inj id id' k k' (e id k hk _ hl) (e id' k' hk' _ hl') hm hm' b c s c' s' hl hl',
  fun id id' k k' hk hk' hm hm' b c s c' s' hl hl'=>h.old id id' k k' (e id k hk _ hl) (e id' k' hk' _ hl') hm hm' b c s c' s' hl hl'⟩
theorem K7.insert {w:World} {ι:Io} {M:Ms} {H:Hp} {n:Nat} {s:S} {B:List Blk} {v:Value} {w':World} (hH:p9 w ι M H) (hM:MB w M) (hB:∀k,k<B.length->H[n+k]? =B[k]?)
 (hf:∀k,k<B.length->ι (n+k)=none) (h:K7 w ι M n s B v w'):
 ∃new:Nat->Loc,RS w' (C3 ι n B.length new) (a53 M B.length new) s v∧Ext w w'∧p9 w' (C3 ι n B.length new) (a53 M B.length new) H∧MB w' (a53 M B.length new)∧
  (∀ b,a53 M B.length new b->M b∨w.heap.size<=b)∧(∀ b,a34 (C3 ι n B.length new) H b->a34 ι H b∨w.heap.size<=b):=by
 obtain ⟨new,h1,h2,h3,h4,h5⟩:=h
 have hM':∀b,a53 M B.length new b->M b∨w.heap.size<=b:=by
  rintro b (hb|⟨k,hk,cap,size,he⟩)
  ·exact .inl hb
  ·exact .inr (h4 k b cap size hk he).1
 have hcase:∀id l,C3 ι n B.length new id=some l->(ι id=some l∧¬(n<=id∧id<n+B.length))∨∃k,k<B.length∧id=n+k∧l=new k:=by
  intro id l hl
  unfold C3 at hl
  split at hl
  ·injection hl with hl
   exact .inr ⟨id - n,by omega,by omega,hl.symm⟩
  ·rename_i hc;exact .inl ⟨hl,hc⟩
 have hext:∀id l,ι id=some l->C3 ι n B.length new id=some l:=fun id l hl=>a8p hf hl
 have hlt:∀id b cap size,ι id=some (.blk b cap size)->∀k,H[id]? =some k->k.mode≠.dead->b<w.heap.size:=fun id b cap size hi k hk hd=>by
  obtain ⟨_,_,_,_,_,cur,hc,_⟩:=hH.blk id k hk hd _ hi
  exact v6 hc
 refine ⟨new,h1,h2,⟨?_,?_,?_,?_,?_⟩,?_,hM',?_⟩
 ·intro id k hk hd l hl
  rcases hcase id l hl with ⟨hl,_⟩|⟨j,hj,rfl,rfl⟩
  ·have hb:=hH.blk id k hk hd l hl
   cases l with
   |nil=>exact hb
   |blk b cap size=>
    obtain ⟨q1,q2,q3,q4,q5,cur,q6,q7,q8⟩:=hb
    refine ⟨q1,q2,q3,q4,q5,cur,(h2.keep b (v6 q6)).trans q6,q7,fun i j c hc=>?_⟩
    obtain ⟨u,hu,hr⟩:=q8 i j c hc
    exact ⟨u,hu,hr.keep (fun b hb _=>h2.keep b hb) hM' hext⟩
  ·rw [hB j hj] at hk
   exact (h3 j k hk).2
 ·intro id k hk hm b cap size hl
  rcases hcase id _ hl with ⟨hl,_⟩|⟨j,hj,rfl,he⟩
  ·exact .inl (hH.liv id k hk hm b cap size hl)
  ·exact .inr ⟨j,hj,cap,size,he.symm⟩
 ·intro id k hk hm b cap size hl
  rcases hcase id _ hl with ⟨hl,_⟩|⟨j,hj,rfl,he⟩
  ·have hb:=hlt id b cap size hl k hk (by rw [hm];intro h;cases h)
   rintro (h|⟨k',hk',cap',size',he⟩)
   ·exact hH.fro id k hk hm b cap size hl h
   ·have:=(h4 _ _ _ _ hk' he).1;omega
  ·rw [hB j hj] at hk
   have:=(h3 j k hk).1
   rw [hm] at this;cases this
 ·intro id id' k k' hk hk' hm hm' b cap size cap' size' hl hl'
  rcases hcase id _ hl with ⟨hl,_⟩|⟨j,hj,rfl,he⟩<;>rcases hcase id' _ hl' with ⟨hl',_⟩|⟨j',hj',rfl,he'⟩
  ·exact hH.inj id id' k k' hk hk' hm hm' b cap size cap' size' hl hl'
  ·have:=hlt id b cap size hl k hk (by rw [hm];intro h;cases h)
   have:=(h4 _ _ _ _ hj' he'.symm).1
   omega
  ·have:=hlt id' b cap' size' hl' k' hk' (by rw [hm'];intro h;cases h)
   have:=(h4 _ _ _ _ hj he.symm).1
   omega
  ·have:=h5 _ _ _ _ _ _ _ hj hj' he.symm he'.symm
   omega
 ·intro id id' k k' hk hk' hm hm' b cap size cap' size' hl hl'
  rcases hcase id _ hl with ⟨hl,_⟩|⟨j,hj,rfl,he⟩
  ·rcases hcase id' _ hl' with ⟨hl',_⟩|⟨j',hj',rfl,he'⟩
   ·exact hH.old id id' k k' hk hk' hm hm' b cap size cap' size' hl hl'
   ·have:=hlt id b cap size hl k hk (by rw [hm];intro h;cases h)
    have:=(h4 _ _ _ _ hj' he'.symm).1
    omega
  ·rw [hB j hj] at hk
   have:=(h3 j k hk).1
   rw [hm] at this;cases this
 ·rintro b (hb|⟨k,hk,cap,size,he⟩)
  ·exact Nat.lt_of_lt_of_le (hM b hb) h2.size
  ·exact (h4 k b cap size hk he).2
 ·rintro b ⟨id,k,cap,size,hk,hm,hl⟩
  rcases hcase id _ hl with ⟨hl,_⟩|⟨j,hj,rfl,he⟩
  ·exact .inl ⟨id,k,cap,size,hk,hm,hl⟩
  ·exact .inr (h4 _ _ _ _ hj he.symm).1
section
variable {P:Program} {ops:Array Oper} {envs:Nat->Env} {hs:Nat->Hp} {rs:Nat->S} {kd:Nat->Kd}
def F0 (ops:Array Oper) (i:Nat):Option Nat:=(ops[i]?).bind (·.dst)
theorem a3e (hd:a6Y ops.toList=true) {i j t:Nat} (hi:F0 ops i=some t) (hj:F0 ops j=some t):i=j:=by
 unfold F0 at hi hj
 cases hoi:ops[i]? with
 |none=>rw [hoi] at hi;cases hi
 |some oi=>
  cases hoj:ops[j]? with
  |none=>rw [hoj] at hj;cases hj
  |some oj=>
   rw [hoi] at hi
   rw [hoj] at hj
   have hi:oi.dst=some t:=hi
   have hj:oj.dst=some t:=hj
   have:=lbv.1 hd (oi,i) (by rw [List.mem_zipIdx_iff_getElem?];simpa using hoi)
   have:=lbv.1 this (oj,j) (by rw [List.mem_zipIdx_iff_getElem?];simpa using hoj)
   simp only [hi,hj,Nat.beq_refl,Bool.not_true,Bool.or_false] at this
   exact Nat.eq_of_beq_eq_true this
theorem a7A (hd:aQ1 ops.toList=true) {i j t:Nat} {oi:Oper} (hi:ops[i]? =some oi) (hr:t ∈ a0j ops.toList oi) (hj:F0 ops j=some t) (hne:i≠j):
 (j<i->((a0t ops.toList).getD i 0).testBit j=true)∧(i<j->((a0t ops.toList).getD j 0).testBit i=true):=by
 unfold F0 at hj
 cases hoj:ops[j]? with
 |none=>rw [hoj] at hj;cases hj
 |some oj=>
  rw [hoj] at hj
  have hj:oj.dst=some t:=hj
  have:=lbv.1 hd (oi,i) (by rw [List.mem_zipIdx_iff_getElem?];simpa using hi)
  have:=lbv.1 this t hr
  have:=lbv.1 this (oj,j) (by rw [List.mem_zipIdx_iff_getElem?];simpa using hoj)
  simp only [hj,Nat.beq_refl,Bool.not_true,Bool.false_or,lbN] at this
  have this:=this.resolve_left (fun h=>hne (Nat.eq_of_beq_eq_true h))
  refine ⟨fun hlt=>?_,fun hlt=>?_⟩
  ·rw [show Nat.blt j i=true by rw [Nat.blt_eq];exact hlt] at this
   simpa using this
  ·rw [show Nat.blt j i=false by rw [← lbP,Nat.blt_eq];omega] at this
   simpa using this
theorem an2 {i j:Nat} (hb:J7 ops.toList i=true) (hj:j<ops.size) (hlt:i<j):((a0t ops.toList).getD j 0).testBit i=true:=by
 unfold J7 at hb
 rw [lbM] at hb
 have:=lbv.1 hb.1 j (by simpa using hj)
 rw [show Nat.blt i j=true by rw [Nat.blt_eq];exact hlt] at this
 simpa using this
theorem ak2 {i j:Nat} (hlt:j<i) (hno:j ∉ Z2 ops.toList i):((a0t ops.toList).getD i 0).testBit j=true:=by
 unfold Z2 at hno
 rw [lby] at hno
 cases h:((a0t ops.toList).getD i 0).testBit j with
 |true=>rfl
 |false=>exact absurd ⟨lbB.2 hlt,by rw [h];rfl⟩ hno
theorem aE4 {i j:Nat} (hb:J7 ops.toList i=true) (hj:j ∈ Z2 ops.toList i):a12 ops.toList i j=true:=by
 unfold J7 at hb
 rw [lbM] at hb
 exact lbv.1 hb.2 j hj
theorem a4O {i j y t d:Nat} {oj:Oper} (hf:a12 ops.toList i j=true) (hoj:ops[j]? =some oj) (ht:t ∈ a0j ops.toList oj) (hy:F0 ops y=some t):y<j∨i<y:=by
 unfold a12 at hf
 have hoj':ops.toList[j]? =some oj:=by simpa using hoj
 rw [hoj'] at hf
 simp only [lbM] at hf
 have:=lbv.1 hf.2 t ht
 unfold F0 at hy
 cases hoy:ops[y]? with
 |none=>rw [hoy] at hy;cases hy
 |some oy=>
  rw [hoy] at hy
  have hy:oy.dst=some t:=hy
  have:=lbv.1 this (oy,y) (by rw [List.mem_zipIdx_iff_getElem?];simpa using hoy)
  simp only [hy,Nat.beq_refl,Bool.not_true,Bool.false_or,lbN,Nat.blt_eq] at this
  exact this
theorem aV1 {i j:Nat} {oj:Oper} (hf:a12 ops.toList i j=true) (hoj:ops[j]? =some oj):oj.guard=none:=by
 unfold a12 at hf
 have hoj':ops.toList[j]? =some oj:=by simpa using hoj
 rw [hoj'] at hf
 simp only [lbM] at hf
 simpa using hf.1.1
variable (hT:∀j,j<ops.size->aH5 P ops.toList envs hs rs kd j)
include hT
theorem a7Y {p j:Nat} (hpj:p<=j) (hj:j<=ops.size):(envs j).length=(envs p).length:=by
 induction j with
 |zero=>obtain rfl:p=0:=by omega
        rfl
 |succ j ih=>
  by_cases h:p=j+1
  ·subst h;rfl
  ·obtain ⟨o,_,h1,_⟩:=hT j (by omega)
   rw [h1,a2o,ih (by omega) (by omega)]
theorem a4I {p j t:Nat} (hpj:p<=j) (hj:j<=ops.size) (hno:∀i,p<=i->i<j->F0 ops i≠some t):(envs j)[t]? =(envs p)[t]?:=by
 induction j with
 |zero=>obtain rfl:p=0:=by omega
        rfl
 |succ j ih=>
  by_cases h:p=j+1
  ·subst h;rfl
  ·obtain ⟨o,ho,h1,_⟩:=hT j (by omega)
   have hn:=hno j (by omega) (by omega)
   have ho':ops[j]? =some o:=by simpa using ho
   unfold F0 at hn
   rw [ho'] at hn
   rw [h1,←ih (by omega) (by omega) (fun i h1 h2=>hno i h1 (by omega))]
   cases hd:o.dst with
   |none=>rfl
   |some d=>
    have:d≠t:=fun e=>hn (by show o.dst=some t;rw [hd,e])
    show ((envs j).set d (rs j))[t]? =_
    rw [List.getElem?_set_ne this]
theorem aU7 (hdo:a6Y ops.toList=true) {p i j t:Nat} (hpi:p<=i) (hij:i<j) (hj:j<=ops.size) (hd:F0 ops i=some t) (ht:t<(envs p).length):(envs j)[t]? =some (rs i):=by
 have h0:(envs j)[t]? =(envs (i+1))[t]?:=a4I hT (by omega) hj fun i' h1 h2 he=>by
  have:=a3e hdo hd he
  omega
 obtain ⟨o,ho,h1,_⟩:=hT i (by omega)
 have ho':ops[i]? =some o:=by simpa using ho
 unfold F0 at hd
 rw [ho'] at hd
 have hd:o.dst=some t:=hd
 rw [h0,h1,hd]
 show ((envs i).set t (rs i))[t]? =_
 rw [List.getElem?_set_self (by rw [a7Y hT hpi (by omega)];exact ht)]
theorem Q4 {i j:Nat} (hij:i<=j) (hj:j<=ops.size) (hno:∀k,i<=k->k<j->kd k≠.gen):∃X,hs j=hs i++X:=by
 induction j with
 |zero=>obtain rfl:i=0:=by omega
        exact ⟨[],by simp⟩
 |succ j ih=>
  by_cases h:i=j+1
  ·subst h;exact ⟨[],by simp⟩
  ·obtain ⟨X,hX⟩:=ih (by omega) (by omega) (fun k h1 h2=>hno k h1 (by omega))
   obtain ⟨o,_,_,h2⟩:=hT j (by omega)
   have hg:=hno j (by omega) (by omega)
   cases hk:kd j with
   |skip=>rw [hk] at h2;exact ⟨X,by rw [h2.2.2,hX]⟩
   |quiet B=>rw [hk] at h2;exact ⟨X++B,by rw [h2.2.2,hX,lbD]⟩
   |gen=>exact absurd hk hg
end
def bm2 (P:Program) (ops:Array Oper) (envs:Nat->Env) (hs:Nat->Hp) (j p:Nat):Prop:=
 (∃ q,p=q+1∧a12 ops.toList q j=true)∧∃oj d,ops[j]? =some oj∧oj.dst=some d∧QOp P oj (evR oj (envs p)) (hs p) (I7 (envs p) (.tmp d)) []
structure a6n (P:Program) (ops:Array Oper) (envs:Nat->Env) (hs:Nat->Hp) (rs:Nat->S) (kd:Nat->Kd) (w0:World) (ι0:Io) (M0:Ms) (H0:Hp) (listed:Array Bool) (a:Act) (w:World) (p q:Nat):Prop where
 hpq:p<=q
 hqn:q<=ops.size
 seg:∀j,p<=j->j<q->kd j≠.gen
 fin:q=ops.size∨kd q=.gen
 h0:H0.length<=(hs p).length
 lsz:listed.size=ops.size
 low:∀j,j<p->listed.getD j false=true∨bm2 P ops envs hs j p
 high:∀j,q<=j->listed.getD j false=false
 closed:∀i o,ops[i]? =some o->listed.getD i false=true->∀e ∈ o.after.toList,Region.binds .any e=true->listed.getD e.on false=true
 rel:∃(ι:Io) (M:Ms),a.defers=[]∧a.tmps.size=(envs p).length∧
  (∀ i t,p<=i->listed.getD i false=true->F0 ops i=some t->t<(envs p).length->RS w ι M (rs i) (a.tmps.getD t undef))∧
  (∀ t s,(∀ i,p<=i->listed.getD i false=true->F0 ops i≠some t)->(∀ i,i<p->listed.getD i false=false->F0 ops i≠some t)->(envs p)[t]? =some s->RS w ι M s (a.tmps.getD t undef))∧
  p9 w ι M (hs q)∧MB w M∧(∀ i B,p<=i->i<q->listed.getD i false=false->kd i=.quiet B->∀k,k<B.length->ι ((hs i).length+k)=none)∧
  Z1 ι (hs q).length∧a37 w0 ι0 M0 H0 w ι M (hs q)
end
section
open Go.RowKit
section
variable {P:Program} {ops:Array Oper} {envs:Nat->Env} {hs:Nat->Hp} {rs:Nat->S} {kd:Nat->Kd}
variable {w0:World} {ι0:Io} {M0:Ms} {H0:Hp} {listed:Array Bool} {a:Act} {w:World} {p q:Nat}
theorem a6n.full (hT:∀j,j<ops.size->aH5 P ops.toList envs hs rs kd j) (hdo:a6Y ops.toList=true) (hI:a6n P ops envs hs rs kd w0 ι0 M0 H0 listed a w p q) (hall:∀j,j<q->listed.getD j false=true):
 Sim w0 ι0 M0 H0 a w (envs q) (hs q):=by
 obtain ⟨ι,M,hd,hsz,h1,h2,hH,hM,hf,hF,hst⟩:=hI.rel
 refine ⟨ι,M,hd,by rw [hsz,a7Y hT hI.hpq hI.hqn],fun t s ht=>?_,hH,hM,hF,hst⟩
 have htl:t<(envs p).length:=by rw [← a7Y hT hI.hpq hI.hqn];exact (lbe.1 ht).1
 by_cases hex:∃i,p<=i∧i<q∧F0 ops i=some t
 ·obtain ⟨i,h3,h4,h5⟩:=hex
  rw [aU7 hT hdo h3 h4 hI.hqn h5 htl] at ht
  injection ht with ht
  subst ht
  exact h1 i t h3 (hall i h4) h5 htl
 ·have hno:∀i,p<=i->i<q->F0 ops i≠some t:=fun i h3 h4 h5=>hex ⟨i,h3,h4,h5⟩
  rw [a4I hT hI.hpq hI.hqn hno] at ht
  refine h2 t s (fun i h3 h4=>hno i h3 ?_) (fun i h3 h4=>?_) ht
  ·rcases Nat.lt_or_ge i q with h|h
   ·exact h
   ·rw [hI.high i h] at h4;cases h4
  ·have:=hI.hpq
   rw [hall i (by omega)] at h4;cases h4
theorem a6n.reads (hT:∀j,j<ops.size->aH5 P ops.toList envs hs rs kd j) (hb:a0J ops.toList=true) (hdo:a6Y ops.toList=true) (hdep:aQ1 ops.toList=true)
 (hI:a6n P ops envs hs rs kd w0 ι0 M0 H0 listed a w p q) {ι:Io} {M:Ms}
 (h1:∀i t,p<=i->listed.getD i false=true->F0 ops i=some t->t<(envs p).length->RS w ι M (rs i) (a.tmps.getD t undef))
 (h2:∀t s,(∀ i,p<=i->listed.getD i false=true->F0 ops i≠some t)->(∀ i,i<p->listed.getD i false=false->F0 ops i≠some t)->(envs p)[t]? =some s->RS w ι M s (a.tmps.getD t undef))
 {i:Nat} {o:Oper} (ho:ops[i]? =some o) (hpi:p<=i) (hiN:i<=ops.size) (hun:listed.getD i false=false) (hready:∀e ∈ o.after.toList,Region.binds .any e=true->listed.getD e.on false=true)
 {t:Nat} (ht:t ∈ a0j ops.toList o):RS w ι M (I7 (envs i) (.tmp t)) (a.tmps.getD t undef):=by
 show RS w ι M ((envs i).getD t .junk) _
 rw [lbl]
 have ho':ops.toList[i]? =some o:=by simpa using ho
 have hS:∀i o,ops.toList[i]? =some o->(listed.getD i false=true)->∀e ∈ o.after.toList,Region.binds .any e=true->listed.getD e.on false=true:=fun i o h=>hI.closed i o (by simpa using h)
 have hlow:∀j,j<p->listed.getD j false=false->F0 ops j≠some t:=fun j hj hl hd=>by
  obtain ⟨m1,m2⟩:=a7A hdep ho ht hd (by omega)
  have:=Y4 hb hS ho' hready (m1 (by omega))
  rw [hl] at this;cases this
 cases hg:(envs i)[t]? with
 |none=>exact .junk
 |some s=>
  have htl:t<(envs p).length:=by rw [← a7Y hT hpi hiN];exact (lbe.1 hg).1
  show RS w ι M s _
  by_cases hex:∃j,p<=j∧j≠i∧F0 ops j=some t
  ·obtain ⟨j,hpj,hne,hj⟩:=hex
   obtain ⟨m1,m2⟩:=a7A hdep ho ht hj (Ne.symm hne)
   rcases Nat.lt_or_gt_of_ne hne with hlt|hgt
   ·have hl:=Y4 hb hS ho' hready (m1 hlt)
    rw [aU7 hT hdo hpj hlt hiN hj htl] at hg
    injection hg with hg
    subst hg
    exact h1 j t hpj hl hj htl
   ·have hjl:listed.getD j false≠true:=fun hjl=>by
     have hoj:∃oj,ops.toList[j]? =some oj:=by
      unfold F0 at hj
      cases h:ops[j]? with
      |none=>rw [h] at hj;cases hj
      |some oj=>exact ⟨oj,by simpa using h⟩
     obtain ⟨oj,hoj⟩:=hoj
     have:=af1 hb hS j oj i hoj (m2 hgt) hjl
     rw [hun] at this;cases this
    rw [a4I hT hpi hiN (fun i' h3 h4 h5=>by have:=a3e hdo hj h5;omega)] at hg
    refine h2 t s (fun i' h3 h4 h5=>?_) hlow hg
    have:=a3e hdo hj h5
    subst this
    exact hjl h4
  ·have hno:∀i',p<=i'->i'≠i->F0 ops i'≠some t:=fun i' h3 h4 h5=>hex ⟨i',h3,h4,h5⟩
   rw [a4I hT hpi hiN (fun i' h3 h4=>hno i' h3 (by omega))] at hg
   refine h2 t s (fun i' h3 h4=>hno i' h3 ?_) hlow hg
   rintro rfl
   rw [hun] at h4;cases h4
theorem a6n.reads_late (hb:a0J ops.toList=true) (hdo:a6Y ops.toList=true) (hdep:aQ1 ops.toList=true)
 (hI:a6n P ops envs hs rs kd w0 ι0 M0 H0 listed a w p q) {ι:Io} {M:Ms}
 (h2:∀t s,(∀ i,p<=i->listed.getD i false=true->F0 ops i≠some t)->(∀ i,i<p->listed.getD i false=false->F0 ops i≠some t)->(envs p)[t]? =some s->RS w ι M s (a.tmps.getD t undef))
 {i r:Nat} {o:Oper} (ho:ops[i]? =some o) (hip:i<p) (hr:p=r+1) (hf:a12 ops.toList r i=true) (hun:listed.getD i false=false) (hready:∀e ∈ o.after.toList,Region.binds .any e=true->listed.getD e.on false=true)
 {t:Nat} (ht:t ∈ a0j ops.toList o):RS w ι M (I7 (envs p) (.tmp t)) (a.tmps.getD t undef):=by
 show RS w ι M ((envs p).getD t .junk) _
 rw [lbl]
 have ho':ops.toList[i]? =some o:=by simpa using ho
 have hS:∀i o,ops.toList[i]? =some o->(listed.getD i false=true)->∀e ∈ o.after.toList,Region.binds .any e=true->listed.getD e.on false=true:=fun i o h=>hI.closed i o (by simpa using h)
 cases hg:(envs p)[t]? with
 |none=>exact .junk
 |some s=>
  refine h2 t s (fun j h3 h4 h5=>?_) (fun j h3 h4 h5=>?_) hg
  ·have hoj:∃oj,ops.toList[j]? =some oj:=by
    unfold F0 at h5
    cases h:ops[j]? with
    |none=>rw [h] at h5;cases h5
    |some oj=>exact ⟨oj,by simpa using h⟩
   obtain ⟨oj,hoj⟩:=hoj
   have:=af1 hb hS j oj i hoj ((a7A hdep ho ht h5 (by omega)).2 (by omega)) h4
   rw [hun] at this;cases this
  ·by_cases hji:j=i
   ·subst hji
    rcases a4O (d:=0) hf ho ht h5 with h|h<;>omega
   have hlt:j<i:=by
    rcases a4O (d:=0) hf ho ht h5 with h|h
    ·exact h
    ·omega
   have:=Y4 hb hS ho' hready ((a7A hdep ho ht h5 (by omega)).1 hlt)
   rw [h4] at this;cases this
theorem X3 {listed:Array Bool} {i:Nat} (h:i<listed.size):(listed.setIfInBounds i true).getD i false=true:=by simp [h]
theorem S4 {listed:Array Bool} {i j:Nat} (h:(listed.setIfInBounds i true).getD j false=true):j=i∨listed.getD j false=true:=by
 by_cases hij:i=j
 ·exact .inl hij.symm
 ·rw [getD_set_ne false hij] at h;exact .inr h
theorem a6n.step (hT:∀j,j<ops.size->aH5 P ops.toList envs hs rs kd j) (hI:a6n P ops envs hs rs kd w0 ι0 M0 H0 listed a w p q) (hd:a.defers=[]) (hsz:a.tmps.size=(envs p).length)
 {i:Nat} {o:Oper} (ho:ops[i]? =some o) (hpi:p<=i) (hiq:i<q) (hun:listed.getD i false=false) (hready:∀e ∈ o.after.toList,Region.binds .any e=true->listed.getD e.on false=true)
 (hdo:a6Y ops.toList=true) {v:Value} {w':World} {ι':Io} {M':Ms}
 (h1:∀i t,p<=i->listed.getD i false=true->F0 ops i=some t->t<(envs p).length->RS w' ι' M' (rs i) (a.tmps.getD t undef))
 (h2:∀t s,(∀ i,p<=i->listed.getD i false=true->F0 ops i≠some t)->(∀ i,i<p->listed.getD i false=false->F0 ops i≠some t)->(envs p)[t]? =some s->RS w' ι' M' s (a.tmps.getD t undef))
 (hr:RS w' ι' M' (rs i) v) (hH:p9 w' ι' M' (hs q)) (hM:MB w' M')
 (hf:∀j B,p<=j->j<q->j≠i->listed.getD j false=false->kd j=.quiet B->∀k,k<B.length->ι' ((hs j).length+k)=none) (hF:Z1 ι' (hs q).length) (hst:a37 w0 ι0 M0 H0 w' ι' M' (hs q)):
 a6n P ops envs hs rs kd w0 ι0 M0 H0 (listed.setIfInBounds i true) (a.put o.dst v) w' p q:=by
 have hil:i<listed.size:=by rw [hI.lsz];exact (lb4.1 ho).1
 have hdi:F0 ops i=o.dst:=by unfold F0;rw [ho];rfl
 refine ⟨hI.hpq,hI.hqn,hI.seg,hI.fin,hI.h0,by simpa using hI.lsz,fun j hj=>?_,fun j hj=>?_,?_,ι',M',by rw [a11,hd],by rw [a4x,hsz],?_,?_,hH,hM,?_,hF,hst⟩
 ·exact (hI.low j hj).imp (fun h=>getD_set_true h) id
 ·rw [getD_set_ne false (by omega)];exact hI.high j hj
 ·intro j oj hoj hl e he hb
  rcases S4 hl with rfl|hl
  ·rw [ho] at hoj
   injection hoj with hoj
   subst hoj
   exact getD_set_true (hready e he hb)
  ·exact getD_set_true (hI.closed j oj hoj hl e he hb)
 ·intro j t hpj hl hdj htl
  by_cases hji:j=i
  ·subst hji
   rw [hdi] at hdj
   rw [hdj]
   show RS w' ι' M' (rs j) ((a.tmps.setIfInBounds t v).getD t undef)
   simpa [show t<a.tmps.size by omega] using hr
  ·have hl':=(S4 hl).resolve_left hji
   have hne:o.dst≠some t:=fun h=>by rw [← hdi] at h;exact hji (a3e hdo hdj h)
   have:=h1 j t hpj hl' hdj htl
   cases hdd:o.dst with
   |none=>exact this
   |some d=>
    have:d≠t:=fun e=>hne (by rw [hdd,e])
    show RS w' ι' M' (rs j) ((a.tmps.setIfInBounds d v).getD t undef)
    rw [Array.getD_eq_getD_getElem?,Array.getElem?_setIfInBounds_ne this]
    rw [Array.getD_eq_getD_getElem?] at *
    assumption
 ·intro t s hno hno2 hs'
  have hne:o.dst≠some t:=fun h=>hno i hpi (X3 hil) (by rw [hdi,h])
  have:=h2 t s (fun j h3 h4=>hno j h3 (getD_set_true h4)) (fun j h3 h4=>hno2 j h3 (by rw [getD_set_ne false (by omega)];exact h4)) hs'
  cases hdd:o.dst with
  |none=>exact this
  |some d=>
   have hdt:d≠t:=fun e=>hne (by rw [hdd,e])
   show RS w' ι' M' s ((a.tmps.setIfInBounds d v).getD t undef)
   rw [Array.getD_eq_getD_getElem?,Array.getElem?_setIfInBounds_ne hdt]
   rw [Array.getD_eq_getD_getElem?] at this
   exact this
 ·intro j B hpj hjq hl hk
  have hji:j≠i:=by rintro rfl;rw [X3 hil] at hl;cases hl
  rw [getD_set_ne false (Ne.symm hji)] at hl
  exact hf j B hpj hjq hji hl hk
theorem a6n.late (hI:a6n P ops envs hs rs kd w0 ι0 M0 H0 listed a w p q) (hd:a.defers=[]) (hsz:a.tmps.size=(envs p).length)
 {i:Nat} {o:Oper} {d:Nat} (ho:ops[i]? =some o) (hod:o.dst=some d) (hip:i<p) (hready:∀e ∈ o.after.toList,Region.binds .any e=true->listed.getD e.on false=true)
 (hdo:a6Y ops.toList=true) {v:Value} {w':World} {ι':Io} {M':Ms}
 (h1:∀i t,p<=i->listed.getD i false=true->F0 ops i=some t->t<(envs p).length->RS w' ι' M' (rs i) (a.tmps.getD t undef))
 (h2:∀t s,(∀ i,p<=i->listed.getD i false=true->F0 ops i≠some t)->(∀ i,i<p->listed.getD i false=false->F0 ops i≠some t)->(envs p)[t]? =some s->RS w' ι' M' s (a.tmps.getD t undef))
 (hr:RS w' ι' M' (I7 (envs p) (.tmp d)) v) (hH:p9 w' ι' M' (hs q)) (hM:MB w' M')
 (hf:∀j B,p<=j->j<q->listed.getD j false=false->kd j=.quiet B->∀k,k<B.length->ι' ((hs j).length+k)=none) (hF:Z1 ι' (hs q).length) (hst:a37 w0 ι0 M0 H0 w' ι' M' (hs q)):
 a6n P ops envs hs rs kd w0 ι0 M0 H0 (listed.setIfInBounds i true) (a.put o.dst v) w' p q:=by
 have hil:i<listed.size:=by rw [hI.lsz];exact (lb4.1 ho).1
 have hdi:F0 ops i=some d:=by unfold F0;rw [ho];exact hod
 have hpq:=hI.hpq
 refine ⟨hI.hpq,hI.hqn,hI.seg,hI.fin,hI.h0,by simpa using hI.lsz,fun j hj=>?_,fun j hj=>?_,?_,ι',M',by rw [a11,hd],by rw [a4x,hsz],?_,?_,hH,hM,?_,hF,hst⟩
 ·exact (hI.low j hj).imp (fun h=>getD_set_true h) id
 ·rw [getD_set_ne false (by omega)];exact hI.high j hj
 ·intro j oj hoj hl e he hb
  rcases S4 hl with rfl|hl
  ·rw [ho] at hoj
   injection hoj with hoj
   subst hoj
   exact getD_set_true (hready e he hb)
  ·exact getD_set_true (hI.closed j oj hoj hl e he hb)
 ·intro j t hpj hl hdj htl
  have hji:j≠i:=by omega
  have hl':=(S4 hl).resolve_left hji
  have:=h1 j t hpj hl' hdj htl
  have hdt:d≠t:=fun e=>hji (a3e hdo hdj (by rw [← e];exact hdi))
  rw [hod]
  show RS w' ι' M' (rs j) ((a.tmps.setIfInBounds d v).getD t undef)
  rw [Array.getD_eq_getD_getElem?,Array.getElem?_setIfInBounds_ne hdt]
  rw [Array.getD_eq_getD_getElem?] at this
  exact this
 ·intro t s hno hno2 hs'
  rw [hod]
  show RS w' ι' M' s ((a.tmps.setIfInBounds d v).getD t undef)
  by_cases hdt:d=t
  ·subst hdt
   have htl:=(lbe.1 hs').1
   have he:I7 (envs p) (.tmp d)=s:=by
    show (envs p).getD d .junk=s
    rw [lbl,hs'];rfl
   rw [he] at hr
   simpa [show d<a.tmps.size by omega] using hr
  ·have:=h2 t s (fun j h3 h4=>hno j h3 (getD_set_true h4)) (fun j h3 h4 h5=>by
    by_cases hji:j=i
    ·subst hji;rw [hdi] at h5;injection h5 with h5;exact hdt h5
    ·exact hno2 j h3 (by rw [getD_set_ne false (Ne.symm hji)];exact h4) h5) hs'
   rw [Array.getD_eq_getD_getElem?,Array.getElem?_setIfInBounds_ne hdt]
   rw [Array.getD_eq_getD_getElem?] at this
   exact this
 ·intro j B hpj hjq hl hk
  rw [getD_set_ne false (by omega)] at hl
  exact hf j B hpj hjq hl hk
theorem aQ7 (kd:Nat->Kd) (p n:Nat) (h:p<=n):∃q,p<=q∧q<=n∧(∀ j,p<=j->j<q->kd j≠.gen)∧(q=n∨kd q=.gen):=by
 obtain ⟨m,hm⟩:∃m,m=n - p:=⟨_,rfl⟩
 induction m generalizing p with
 |zero=>exact ⟨p,lbQ _,h,fun j _ _=>by omega,.inl (by omega)⟩
 |succ m ih=>
  cases hk:kd p with
  |gen=>exact ⟨p,lbQ _,h,fun j _ _=>by omega,.inr hk⟩
  |skip=>
   obtain ⟨q,h1,h2,h3,h4⟩:=ih (p+1) (by omega) (by omega)
   refine ⟨q,by omega,h2,fun j h5 h6=>?_,h4⟩
   by_cases hj:j=p
   ·subst hj;rw [hk];intro h;cases h
   ·exact h3 j (by omega) h6
  |quiet B=>
   obtain ⟨q,h1,h2,h3,h4⟩:=ih (p+1) (by omega) (by omega)
   refine ⟨q,by omega,h2,fun j h5 h6=>?_,h4⟩
   by_cases hj:j=p
   ·subst hj;rw [hk];intro h;cases h
   ·exact h3 j (by omega) h6
def unl (n:Nat) (listed:Array Bool):Nat:=((List.range n).filter fun j=>!listed.getD j false).length
theorem b7h {n:Nat} {listed:Array Bool} {i:Nat} (hi:i<n) (hs:listed.size=n) (hu:listed.getD i false=false):unl n (listed.setIfInBounds i true)<unl n listed:=by
 unfold unl
 have h1:((List.range n).filter fun j=>!(listed.setIfInBounds i true).getD j false)=((List.range n).filter fun j=>!listed.getD j false).filter fun j=>j≠i:=by
  rw [List.filter_filter]
  apply List.filter_congr
  intro j hj
  by_cases hji:j=i
  ·subst hji;simp [hs,hi]
  ·rw [getD_set_ne false (Ne.symm hji)];simp [hji]
 rw [h1]
 have hmem:i ∈ (List.range n).filter fun j=>!listed.getD j false:=by simp [hi];simpa using hu
 have:∀(l:List Nat),i ∈ l->(l.filter fun j=>j≠i).length<l.length:=by
  intro l
  induction l with
  |nil=>intro h;cases h
  |cons x l ih=>
   intro h
   by_cases hx:x=i
   ·subst hx
    simp only [List.filter_cons,ne_eq,not_true_eq_false,decide_false,Bool.false_eq_true,if_false,lbu]
    have:=lbt (fun j=>decide ¬j=x) l
    exact Nat.lt_succ_of_le this
   ·rcases lbA.1 h with h|h
    ·exact absurd h.symm hx
    ·simp [List.filter_cons,hx]
     simpa using ih h
 exact this _ hmem
theorem U0 (hb:a0J ops.toList=true) (hsz:listed.size=ops.size) (h:Region.ready .any ops listed=[]):∀i,i<ops.size->listed.getD i false=true:=by
 intro i
 induction i using Nat.strongRecOn with
 |_ i ih=>
  intro hi
  cases hl:listed.getD i false with
  |true=>rfl
  |false=>
   have:i ∈ Region.ready .any ops listed:=by
    rw [mem_ready]
    refine ⟨by simp [hsz,hi] at hl ⊢;exact hl,ops[i],by simp,fun e he hbi=>?_⟩
    have hlt:=a6R hb (i:=i) (o:=ops[i]) (by simp) (by simpa using he) hbi
    exact ih e.on hlt (by omega)
   rw [h] at this;cases this
theorem aV9 {n:Nat} (h:unl n listed=0):∀i,i<n->listed.getD i false=true:=by
 intro i hi
 unfold unl at h
 have:=lbF h
 rw [List.filter_eq_nil_iff] at this
 have:=this i (by simpa using hi)
 simpa using this
theorem b6L (hI:a6n P ops envs hs rs kd w0 ι0 M0 H0 listed a w p q) (hall:∀i,i<ops.size->listed.getD i false=true):q=ops.size:=by
 rcases Nat.lt_or_ge q ops.size with h|h
 ·have:=hI.high q (lbQ _)
  rw [hall q h] at this;cases this
 ·have:=hI.hqn;omega
theorem b56 (hM0:MB w0 M0) (hT:∀j,j<ops.size->aH5 P ops.toList envs hs rs kd j) (hb:a0J ops.toList=true) (hdo:a6Y ops.toList=true) (hdep:aQ1 ops.toList=true) {Q:Exit->Act->World->Prop}
 (hK:∀a w,Sim w0 ι0 M0 H0 a w (envs ops.size) (hs ops.size)->Q .normal a w):∀(fuel:Nat) (listed:Array Bool) (a:Act) (w:World) (p q:Nat),a6n P ops envs hs rs kd w0 ι0 M0 H0 listed a w p q->unl ops.size listed<=fuel->
   wpAny P .any ops Q fuel listed a w:=by
 have hend:∀(listed:Array Bool) (a:Act) (w:World) (p q:Nat),a6n P ops envs hs rs kd w0 ι0 M0 H0 listed a w p q->(∀ i,i<ops.size->listed.getD i false=true)->Q .normal a w:=fun listed a w p q hI hall=>by
  obtain rfl:=b6L hI hall
  exact hK a w (hI.full hT hdo hall)
 intro fuel
 induction fuel with
 |zero=>
  intro listed a w p q hI hu
  have hall:=aV9 (listed:=listed) (n:=ops.size) (by omega)
  refine ⟨?_,hend listed a w p q hI hall⟩
  cases hr:Region.ready .any ops listed with
  |nil=>rfl
  |cons i l=>
   have hi:i ∈ Region.ready .any ops listed:=by rw [hr];simp
   rw [mem_ready] at hi
   obtain ⟨h1,o,ho,_⟩:=hi
   have hlt:=(lb4.1 ho).1
   have h2:=hall i hlt
   have hsz:=hI.lsz
   simp [hsz,hlt] at h1 h2
   rw [h1] at h2;cases h2
 |succ fuel ih=>
  intro listed a w p q hI hu
  refine ⟨fun hr=>hend listed a w p q hI (U0 hb hI.lsz hr),fun i hi=>?_⟩
  rw [mem_ready] at hi
  obtain ⟨hl,o,ho,hready⟩:=hi
  have hiN:=(lb4.1 ho).1
  have hsz0:=hI.lsz
  have hun:listed.getD i false=false:=by simp [hsz0,hiN] at hl ⊢;exact hl
  have hready':∀e ∈ o.after.toList,Region.binds .any e=true->listed.getD e.on false=true:=fun e he=>hready e (by simpa using he)
  have hu':unl ops.size (listed.setIfInBounds i true)<=fuel:=by
   have:=b7h hiN hsz0 hun;omega
  have hS:∀i o,ops.toList[i]? =some o->(listed.getD i false=true)->∀e ∈ o.after.toList,Region.binds .any e=true->listed.getD e.on false=true:=fun i o h=>hI.closed i o (by simpa using h)
  unfold wpOp
  rw [ho]
  simp only
  obtain ⟨ι,M,hd,hsz,h1,h2,hH,hM,hf,hF,hst⟩:=hI.rel
  by_cases hip:i<p
  · -- one that came late
    rcases hI.low i hip with h|⟨⟨r,hpr,hfine⟩,oj,d,hoj,hod,hq⟩
    ·rw [h] at hun;cases hun
    rw [ho] at hoj
    injection hoj with hoj
    subst hoj
    have hgd:=aV1 hfine ho
    have hreads:=fun t ht=>hI.reads_late hb hdo hdep h2 ho hip hpr hfine hun hready' (t:=t) ht
    rw [show Region.wanted o (yielded ops a.tmps)=true by unfold Region.wanted;rw [hgd]]
    simp only [if_true]
    refine .inl ?_
    obtain ⟨X,hX⟩:=Q4 hT hI.hpq hI.hqn hI.seg
    have hHp:p9 w ι M (hs p):=by rw [hX] at hH;exact hH.pre1
    have hev:X2 w ι M (evR o (envs p)) a:=by
     intro x
     cases x with
     |tmp t=>
      show RS w ι M (cond _ _ _) _
      cases hc:(o.op.operands.toList.filterMap fun x=>match x with|.tmp t=>some t|_=>none).contains t with
      |true=>
       refine hreads t ?_
       unfold a0j
       rw [lbz]
       exact .inl (List.contains_iff_mem.1 hc)
      |false=>exact .junk
     |const v=>exact RS.const v
     |global g=>exact .junk
     |func f=>exact .c (.t (.fn [] rfl (by simp)))
    refine hq a w ι M hev hHp hM (by simp) _ _ fun v w' hp=>?_
    obtain ⟨new,q1,q2,q3,q4,q5,q6⟩:=hp.insert hH hM (by simp) (by simp)
    have hsame:∀id,C3 ι (hs p).length ([]:List Blk).length new id=ι id:=fun id=>by unfold C3;rw [if_neg (by simp)]
    have keep:∀{s v},RS w ι M s v->RS w' (C3 ι (hs p).length ([]:List Blk).length new) (a53 M ([]:List Blk).length new) s v:=fun h=>h.keep (fun b hb _=>q2.keep b hb) q5 (fun id l hl=>by rw [hsame];exact hl)
    refine ih _ _ _ p q (hI.late hd hsz ho hod hip hready' hdo (fun j t h3 h4 h5 h6=>keep (h1 j t h3 h4 h5 h6)) (fun t s h3 h4 h5=>keep (h2 t s h3 h4 h5)) q1 q3 q4 ?_ ?_ ?_) hu'
    ·intro j B' h3 h4 h6 h7 k hk
     rw [hsame]
     exact hf j B' h3 h4 h6 h7 k hk
    ·intro id hid
     rw [hsame]
     exact hF id hid
    ·refine ⟨q2.os.trans hst.os,q2.tape.trans hst.tape,q2.output.trans hst.output,lbR hst.size q2.size,fun b hb' hl'=>(q2.keep b (Nat.lt_of_lt_of_le hb' hst.size)).trans (hst.keep b hb' hl'),?_,?_,?_,?_,hst.len⟩
     ·intro id hid
      rw [hsame]
      exact hst.same id hid
     ·intro b hb'
      rcases q5 b hb' with h|h
      ·exact hst.mnew b h
      ·exact .inr (lbR hst.size h)
     ·intro b hb'
      rcases hst.mold b hb' with h|h
      ·exact .inl (.inl h)
      ·exact .inr h
     ·intro b hb'
      rcases q6 b hb' with h|h
      ·exact hst.live b h
      ·exact .inr (lbR hst.size h)
  have hpi:p<=i:=by omega
  have hiq:i<=q:=by
   rcases Nat.lt_or_ge q i with h|h
   ·have hkq:kd q=.gen:=hI.fin.resolve_left (by omega)
    obtain ⟨oq,hoq,_,h3⟩:=hT q (by omega)
    rw [hkq] at h3
    have:=Y4 hb hS (by simpa using ho) hready' (an2 h3.2.2.1 hiN h)
    rw [hI.high q (lbQ _)] at this;cases this
   ·exact h
  obtain ⟨o',ho',henv,hk⟩:=hT i hiN
  have:o'=o:=by
   have:ops[i]? =some o':=by simpa using ho'
   rw [ho] at this;injection this with this;exact this.symm
  subst this
  have hreads:=fun t ht=>hI.reads hT hb hdo hdep h1 h2 ho hpi (Nat.le_of_lt hiN) hun hready' (t:=t) ht
  have hlenI:a.tmps.size=(envs i).length:=by rw [hsz,a7Y hT hpi (by omega)]
  have hguard:∀j want oj d,o'.guard=some (j,want)->ops[j]? =some oj->oj.dst=some d->RS w ι M (I7 (envs i) (.tmp d)) (a.tmps.getD d undef):=fun j want oj d hg hoj hdj=>by
   refine hreads d ?_
   unfold a0j
   rw [lbz]
   refine .inr ?_
   have hoj':ops.toList[j]? =some oj:=by simpa using hoj
   rw [hg]
   simp [hoj',hdj]
  have hev:X2 w ι M (evR o' (envs i)) a:=by
   intro x
   cases x with
   |tmp t=>
    show RS w ι M (cond _ _ _) _
    cases hc:(o'.op.operands.toList.filterMap fun x=>match x with|.tmp t=>some t|_=>none).contains t with
    |true=>
     refine hreads t ?_
     unfold a0j
     rw [lbz]
     exact .inl (List.contains_iff_mem.1 hc)
    |false=>exact .junk
   |const v=>exact RS.const v
   |global g=>exact .junk
   |func f=>exact .c (.t (.fn [] rfl (by simp)))
  by_cases hlt:i<q
  ·obtain ⟨X,hX⟩:=Q4 hT (Nat.le_of_lt hlt) hI.hqn (fun k h3 h4=>hI.seg k (by omega) h4)
   cases hkd:kd i with
   |skip=>
    rw [hkd] at hk
    obtain ⟨hw,hr,_⟩:=hk
    rw [a42 hlenI hw hguard]
    simp only [Bool.false_eq_true,if_false]
    refine ih _ _ _ p q (hI.step hT hd hsz ho hpi hlt hun hready' hdo h1 h2 (by rw [hr];exact .skip) hH hM (fun j B h3 h4 _ h5 h6=>hf j B h3 h4 h5 h6) hF hst) hu'
   |quiet B=>
    rw [hkd] at hk
    obtain ⟨hw,hqop,hB⟩:=hk
    rw [a42 hlenI hw hguard]
    simp only [if_true]
    refine .inl ?_
    have hfi:=hf i B hpi hlt hun hkd
    have hHi:p9 w ι M (hs i):=by rw [hX] at hH;exact hH.pre1
    refine hqop a w ι M hev hHi hM hfi _ _ fun v w' hp=>?_
    obtain ⟨X1,hX1⟩:=Q4 hT (show i+1<=q by omega) hI.hqn (fun k h3 h4=>hI.seg k (by omega) h4)
    have hBq:∀k,k<B.length->(hs q)[(hs i).length+k]? =B[k]?:=fun k hk=>by
     rw [hX1,hB,lbD,lbc (by omega),lbb (by omega)]
     congr 1;omega
    obtain ⟨new,q1,q2,q3,q4,q5,q6⟩:=hp.insert hH hM hBq hfi
    have hext:∀id l,ι id=some l->C3 ι (hs i).length B.length new id=some l:=fun id l hl=>a8p hfi hl
    have keep:∀{s v},RS w ι M s v->RS w' (C3 ι (hs i).length B.length new) (a53 M B.length new) s v:=fun h=>h.keep (fun b hb _=>q2.keep b hb) q5 hext
    have hqlen:(hs i).length+B.length<=(hs q).length:=by rw [hX1,hB];simp
    have hH0:H0.length<=(hs i).length:=by
     obtain ⟨Z,hZ⟩:=Q4 hT hpi (by omega) (fun k h3 h4=>hI.seg k h3 (by omega))
     have:=hI.h0
     rw [hZ];simp;omega
    refine ih _ _ _ p q (hI.step hT hd hsz ho hpi hlt hun hready' hdo (fun j t h3 h4 h5 h6=>keep (h1 j t h3 h4 h5 h6)) (fun t s h3 h4 h5=>keep (h2 t s h3 h4 h5)) q1 q3 q4 ?_ ?_ ?_) hu'
    ·intro j B' h3 h4 h5 h6 h7 k hk
     have hfj:=hf j B' h3 h4 h6 h7 k hk
     unfold C3
     rw [if_neg ?_,hfj]
     -- the new ids of two places are apart
     rintro ⟨r1,r2⟩
     rcases Nat.lt_or_gt_of_ne h5 with hji|hji
     ·obtain ⟨Y,hY⟩:=Q4 hT (show j+1<=i by omega) (by omega) (fun k h3' h4'=>hI.seg k (by omega) (by omega))
      obtain ⟨oj,_,_,hkj⟩:=hT j (by omega)
      rw [h7] at hkj
      rw [hY,hkj.2.2] at r1
      simp at r1
      omega
     ·obtain ⟨Y,hY⟩:=Q4 hT (show i+1<=j by omega) (by have:=hI.hqn;omega) (fun k h3' h4'=>hI.seg k (by omega) (by omega))
      rw [hY,hB] at r2
      simp at r2
      omega
    ·intro id hid
     unfold C3
     rw [if_neg (by omega)]
     exact hF id hid
    ·refine ⟨q2.os.trans hst.os,q2.tape.trans hst.tape,q2.output.trans hst.output,lbR hst.size q2.size,fun b hb' hl'=>(q2.keep b (Nat.lt_of_lt_of_le hb' hst.size)).trans (hst.keep b hb' hl'),?_,?_,?_,?_,hst.len⟩
     ·intro id hid
      unfold C3
      rw [if_neg (by omega)]
      exact hst.same id hid
     ·intro b hb'
      rcases q5 b hb' with h|h
      ·exact hst.mnew b h
      ·exact .inr (lbR hst.size h)
     ·intro b hb'
      rcases hst.mold b hb' with h|h
      ·exact .inl (.inl h)
      ·exact .inr h
     ·intro b hb'
      rcases q6 b hb' with h|h
      ·exact hst.live b h
      ·exact .inr (lbR hst.size h)
   |gen=>exact absurd hkd (hI.seg i hpi hlt)
  · -- a general operation: the segment before it is done
    obtain rfl:i=q:=by omega
    have hkq:kd i=.gen:=hI.fin.resolve_left (by omega)
    rw [hkq] at hk
    obtain ⟨hw,hg,hbar,hlate⟩:=hk
    rw [a42 hlenI hw hguard]
    simp only [if_true]
    refine .inl ?_
    refine hg a w ι M hev hH hM hF _ _ fun v w' hp=>?_
    obtain ⟨ι1,M1,g1,hH1,hM1,hF1,g5⟩:=hp
    have hkb:∀b,b<w.heap.size->¬M b->w'.heap[b]? =w.heap[b]?:=fun b hb hnm=>g5.keep b hb fun hl=>hnm (a34.inM hH hl)
    have hki:∀id l,ι id=some l->ι1 id=some l:=fun id l hl=>by
     have hlt:id<(hs i).length:=by
      rcases Nat.lt_or_ge id (hs i).length with h|h
      ·exact h
      ·rw [hF id h] at hl;cases hl
     rw [g5.same id hlt,hl]
    have keep:∀{s v},RS w ι M s v->RS w' ι1 M1 s v:=fun h=>h.keep hkb g5.mnew hki
    have hst1:=hst.trans hM0 g5
    have hlen1:(envs (i+1)).length=(envs i).length:=by rw [henv,a2o]
    obtain ⟨q',r1,r2,r3,r4⟩:=aQ7 kd (i+1) ops.size (by omega)
    obtain ⟨X,hX⟩:=Q4 hT r1 r2 r3
    have hdi:F0 ops i=o'.dst:=by unfold F0;rw [ho];rfl
    have henvne:∀t,o'.dst≠some t->(envs (i+1))[t]? =(envs i)[t]?:=fun t hne=>by
     rw [henv]
     cases hdd:o'.dst with
     |none=>rfl
     |some d=>
      have hdt:d≠t:=fun e=>hne (by rw [hdd,e])
      show ((envs i).set d (rs i))[t]? =_
      rw [List.getElem?_set_ne hdt]
    refine ih _ _ _ (i+1) q' ⟨r1,r2,r3,r4,hst1.len,by simpa using hsz0,fun j hj=>?_,fun j hj=>?_,?_,ι1,M1,by rw [a11,hd],by rw [a4x,hlenI,hlen1],?_,?_,?_,hM1,?_,?_,?_⟩ hu'
    ·by_cases hji:j=i
     ·subst hji;exact .inl (X3 (by omega))
     ·cases hl:listed.getD j false with
      |true=>exact .inl (getD_set_true hl)
      |false=>
       by_cases hjl:j ∈ Z2 ops.toList i
       ·have hfine:=aE4 hbar hjl
        obtain ⟨oj,d,hoj,hod,hq⟩:=hlate j hjl
        have hoj':ops[j]? =some oj:=by simpa using hoj
        refine .inr ⟨⟨i,rfl,hfine⟩,oj,d,hoj',hod,?_⟩
        have hev1:evR oj (envs (i+1))=evR oj (envs i):=by
         funext x
         cases x with
         |tmp t=>
          show cond _ _ _=cond _ _ _
          cases hc:(oj.op.operands.toList.filterMap fun x=>match x with|.tmp t=>some t|_=>none).contains t with
          |false=>rfl
          |true=>
           have ht:t ∈ a0j ops.toList oj:=by
            unfold a0j
            rw [lbz]
            exact .inl (List.contains_iff_mem.1 hc)
           have hne:o'.dst≠some t:=fun he=>by
            have:=a4O (d:=0) hfine hoj' ht (hdi.trans he)
            omega
           show (envs (i+1)).getD t .junk=(envs i).getD t .junk
           rw [lbl,lbl,henvne t hne]
         |const v=>rfl
         |global g=>rfl
         |func f=>rfl
        have hne:o'.dst≠some d:=fun he=>hji (a3e hdo (show F0 ops j=some d by unfold F0;rw [hoj'];exact hod) (hdi.trans he))
        have hd1:I7 (envs (i+1)) (.tmp d)=I7 (envs i) (.tmp d):=by
         show (envs (i+1)).getD d .junk=(envs i).getD d .junk
         rw [lbl,lbl,henvne d hne]
        rw [hev1,hd1]
        exact hq
       ·have:=Y4 hb hS (by simpa using ho) hready' (ak2 (by omega) hjl)
        rw [hl] at this;cases this
    ·rw [getD_set_ne false (by omega)];exact hI.high j (by omega)
    ·intro j oj hoj hl' e he' hb'
     rcases S4 hl' with rfl|hl'
     ·rw [ho] at hoj
      injection hoj with hoj
      subst hoj
      exact getD_set_true (hready' e he' hb')
     ·exact getD_set_true (hI.closed j oj hoj hl' e he' hb')
    ·intro j t hj hl' _ _
     rcases S4 hl' with rfl|hl'
     ·omega
     ·rw [hI.high j (by omega)] at hl';cases hl'
    ·intro t s _ hno2 hs'
     have htl:t<(envs i).length:=by rw [← hlen1];exact (lbe.1 hs').1
     by_cases hdt:o'.dst=some t
     ·have:(envs (i+1))[t]? =some (rs i):=by
       rw [henv,hdt]
       show ((envs i).set t (rs i))[t]? =_
       rw [List.getElem?_set_self htl]
      rw [this] at hs'
      injection hs' with hs'
      subst hs'
      rw [hdt]
      show RS w' ι1 M1 (rs i) ((a.tmps.setIfInBounds t v).getD t undef)
      simpa [show t<a.tmps.size by omega] using g1
     ·rw [henvne t hdt] at hs'
      have hold:RS w ι M s (a.tmps.getD t undef):=by
       by_cases hex:∃j,p<=j∧j<i∧F0 ops j=some t
       ·obtain ⟨j,h3,h4,h5⟩:=hex
        have htp:t<(envs p).length:=by rw [← a7Y hT hpi (by omega)];exact htl
        rw [aU7 hT hdo h3 h4 (by omega) h5 htp] at hs'
        injection hs' with hs'
        subst hs'
        refine h1 j t h3 ?_ h5 htp
        cases hl:listed.getD j false with
        |true=>rfl
        |false=>exact absurd h5 (hno2 j (by omega) (by rw [getD_set_ne false (by omega)];exact hl))
       ·rw [a4I hT hpi (by omega) (fun j h3 h4 h5=>hex ⟨j,h3,h4,h5⟩)] at hs'
        refine h2 t s (fun j h3 h4 h5=>?_) (fun j h3 h4 h5=>?_) hs'
        ·rcases Nat.lt_or_ge j i with h|h
         ·exact hex ⟨j,h3,h,h5⟩
         ·rw [hI.high j h] at h4;cases h4
        ·exact hno2 j (by omega) (by rw [getD_set_ne false (by omega)];exact h4) h5
      cases hdd:o'.dst with
      |none=>exact keep hold
      |some d=>
       have hdt':d≠t:=fun e=>hdt (by rw [hdd,e])
       show RS w' ι1 M1 s ((a.tmps.setIfInBounds d v).getD t undef)
       have:=keep hold
       rw [Array.getD_eq_getD_getElem?,Array.getElem?_setIfInBounds_ne hdt']
       rw [Array.getD_eq_getD_getElem?] at this
       exact this
    ·rw [hX];exact hH1.extend hF1
    ·intro j B h3 h4 _ _ k hk
     obtain ⟨Y,hY⟩:=Q4 hT h3 (by omega) (fun k h3' h4'=>r3 k h3' (by omega))
     exact hF1 _ (by rw [hY];simp;omega)
    ·intro id hid
     exact hF1 id (by rw [hX] at hid;simp at hid;omega)
    ·refine ⟨hst1.os,hst1.tape,hst1.output,hst1.size,hst1.keep,hst1.same,hst1.mnew,hst1.mold,?_,by rw [hX];have:=hst1.len;simp;omega⟩
     rintro b ⟨id,k,cap,size,hk,hm,hi'⟩
     have hid:id<(hs (i+1)).length:=by
      rcases Nat.lt_or_ge id (hs (i+1)).length with h|h
      ·exact h
      ·rw [hF1 id h] at hi';cases hi'
     rw [hX,lbb hid] at hk
     exact hst1.live b ⟨id,k,cap,size,hk,hm,hi'⟩
end
theorem a4K {P:Program} {τ:Tab} (hτ:D3 P τ) {ops:Array Oper} {Q:Exit->Act->World->Prop} {K:Env->Hp->Prop} {w0:World} {ι0:Io} {M0:Ms} {H0:Hp} (hM0:MB w0 M0)
 (hK:∀env H a w,K env H->Sim w0 ι0 M0 H0 a w env H->Q .normal a w) {env:Env} {H:Hp} {a:Act} {w:World}
 (hr:a7o ops.toList=true) (h:a73 P τ ops.toList true 0 ops.toList env H K) (hs:Sim w0 ι0 M0 H0 a w env H):wpAny P .any ops Q ops.size (Array.replicate ops.size false) a { w with drawn:=w.drawn+1 }:=by
 simp only [a7o,lbM] at hr
 obtain ⟨⟨hb,hdo⟩,hdep⟩:=hr
 obtain ⟨envs,hps,rs,kd,h1,h2,h3,h4⟩:=ab3 hτ ops.toList 0 env H rfl h
 have hT:∀j,j<ops.size->aH5 P ops.toList envs hps rs kd j:=fun j hj=>h4 j (Nat.zero_le _) (by simpa using hj)
 obtain ⟨q,q1,q2,q3,q4⟩:=aQ7 kd 0 ops.size (Nat.zero_le _)
 obtain ⟨X,hX⟩:=Q4 hT q1 q2 q3
 obtain ⟨ι,M,hd,hsz,he,hH,hM,hF,hst⟩:=hs
 have hnone:∀j,(Array.replicate ops.size false).getD j false=false:=fun j=>by
  by_cases hj:j<ops.size
  ·simp [hj]
  ·simp [hj]
 refine b56 hM0 hT hb hdo hdep (fun a w hs=>hK _ _ a w (by simpa using h3) hs) ops.size _ a _ 0 q ?_ ?_
 ·refine ⟨q1,q2,q3,q4,by rw [h2];exact hst.len,by simp,fun j hj=>by omega,fun j _=>hnone j,(fun i o _ hl=>absurd hl (by rw [hnone i];simp)),⟨ι,M,hd,by rw [h1];exact hsz,(fun i t _ hl=>absurd hl (by rw [hnone i];simp)),?_,?_,hM,?_,?_,?_⟩⟩
  ·intro t s _ _ ht
   rw [h1] at ht
   exact (he t s ht).keep (w:=w) (w':={ w with drawn:=w.drawn+1 }) (fun _ _ _=>rfl) (fun b h=>.inl h) (fun _ _ h=>h)
  ·rw [hX,h2]
   have:=p9.extend (X:=X) hH hF
   exact ⟨fun id k hk hd l hl=>by
    have hb:=this.blk id k hk hd l hl
    cases l with
    |nil=>exact hb
    |blk b cap size=>
     obtain ⟨r1,r2,r3,r4,r5,cur,r6,r7,r8⟩:=hb
     exact ⟨r1,r2,r3,r4,r5,cur,r6,r7,fun i j c hc=>by
      obtain ⟨u,s1,s2⟩:=r8 i j c hc
      exact ⟨u,s1,s2.keep (w:=w) (w':={ w with drawn:=w.drawn+1 }) (fun _ _ _=>rfl) (fun b h=>.inl h) (fun _ _ h=>h)⟩⟩,this.liv,this.fro,this.inj,this.old⟩
  ·intro i B _ hi _ hk k hkB
   obtain ⟨Y,hY⟩:=Q4 hT (Nat.zero_le i) (by omega) (fun k h1 h2=>q3 k h1 (by omega))
   exact hF _ (by rw [hY,h2];simp;omega)
  ·intro id hid
   exact hF id (by rw [hX,h2] at hid;simp at hid;omega)
  ·rw [hX,h2]
   refine ⟨hst.os,hst.tape,hst.output,hst.size,hst.keep,hst.same,hst.mnew,hst.mold,?_,by have:=hst.len;simp;omega⟩
   rintro b ⟨id,k,cap,size,hk,hm,hi⟩
   have hid:id<H.length:=by
    rcases Nat.lt_or_ge id H.length with h|h
    ·exact h
    ·rw [hF id h] at hi;cases hi
   rw [lbb hid] at hk
   exact hst.live b ⟨id,k,cap,size,hk,hm,hi⟩
 ·unfold unl
  have:=lbt (fun j=>!(Array.replicate ops.size false).getD j false) (List.range ops.size)
  simpa using this
end
section
open Go.RowKit
def a7H (i:Nat):List Nat->Nat
 |[]=>0
 |x::r=>cond (Nat.beq x i) 0 (a7H i r+1)
def a6o (π:List Nat) (o:Oper):Oper:={ o with after:=(o.after.toList.map fun e=>{ e with on:=a7H e.on π }).toArray,guard:=o.guard.map fun g=>(a7H g.1 π,g.2) }
def X6 (π:List Nat) (ops:List Oper):List Oper:=π.filterMap fun i=>(ops[i]?).map (a6o π)
def ax4 (π:List Nat) (n:Nat):Bool:=Nat.beq π.length n && π.all (fun i=>Nat.blt i n) && (List.range n).all (fun p=>match π[p]? with|some i=>Nat.beq (a7H i π) p|none=>false) && (List.range n).all (fun i=>match π[a7H i π]? with|some j=>Nat.beq j i|none=>false)
def a7K (o:Option (List Nat)) (ops:List Oper):List Oper:=match o with
 |none=>ops
 |some π=>X6 π ops
def b13 (o:Option (List Nat)) (n:Nat):Bool:=match o with
 |none=>true
 |some π=>ax4 π n
structure b3F (ops:List Oper) (K:List Oper->Prop):Prop where
 out:∃o,b13 o ops.length=true∧a7o (a7K o ops)=true∧K (a7K o ops)
structure a4d (π:List Nat) (n:Nat):Prop where
 len:π.length=n
 lt:∀p i:Nat,π[p]? =some i->i<n
 pos:∀i:Nat,i<n->π[a7H i π]? =some i
 inv:∀p i:Nat,π[p]? =some i->a7H i π=p
theorem aK0 {π:List Nat} {n:Nat} (h:ax4 π n=true):a4d π n:=by
 unfold ax4 at h
 simp only [lbM] at h
 obtain ⟨⟨⟨h1,h2⟩,h3⟩,h4⟩:=h
 have hl:=Nat.eq_of_beq_eq_true h1
 refine ⟨hl,fun p i hp=>?_,fun i hi=>?_,fun p i hp=>?_⟩
 ·have:=lbv.1 h2 i (lbm hp)
  simpa using this
 ·have:=lbv.1 h4 i (lbB.2 hi)
  split at this
  ·rename_i j hj
   rw [hj,Nat.eq_of_beq_eq_true this]
  ·cases this
 ·have hlt:=(lbe.1 hp).1
  have:=lbv.1 h3 p (lbB.2 (by omega))
  rw [hp] at this
  exact Nat.eq_of_beq_eq_true this
theorem aA8 {i:Nat}:∀{π:List Nat},i ∉ π->a7H i π=π.length
 |[],_=>rfl
 |x::r,h=>by
  unfold a7H
  have h1:Nat.beq x i=false:=by
   cases hb:Nat.beq x i with
   |false=>rfl
   |true=>exact absurd (by rw [Nat.eq_of_beq_eq_true hb];simp) h
  rw [h1,cond_false,aA8 (fun hm=>h (by simp [hm]))];rfl
theorem a5W {α β:Type} {f:α->Option β}:∀{l:List α},(∀ x ∈ l,(f x).isSome=true)->∀p:Nat,(l.filterMap f)[p]? =(l[p]?).bind f
 |[],_,p=>by simp
 |x::r,h,p=>by
  obtain ⟨y,hy⟩:=Option.isSome_iff_exists.1 (h x (by simp))
  rw [List.filterMap_cons_some hy]
  cases p with
  |zero=>simp [hy]
  |succ p=>simpa using a5W (fun x hx=>h x (by simp [hx])) p
theorem a64 {α β:Type} {f:α->Option β}:∀{l:List α},(∀ x ∈ l,(f x).isSome=true)->(l.filterMap f).length=l.length
 |[],_=>rfl
 |x::r,h=>by
  obtain ⟨y,hy⟩:=Option.isSome_iff_exists.1 (h x (by simp))
  rw [List.filterMap_cons_some hy,lbu,lbu,a64 fun x hx=>h x (by simp [hx])]
theorem aM8 {π:List Nat} {ops:List Oper} (hP:a4d π ops.length) {p i:Nat} (hp:π[p]? =some i):(X6 π ops)[p]? =(ops[i]?).map (a6o π):=by
 unfold X6
 rw [a5W (fun x hx=>?_),hp]
 ·rfl
 ·obtain ⟨q,hq⟩:=List.getElem?_of_mem hx
  have:=hP.lt q x hq
  rw [lbf this];rfl
theorem a7s {π:List Nat} {ops:List Oper} (hP:a4d π ops.length):(X6 π ops).length=ops.length:=by
 rw [← hP.len]
 unfold X6
 refine a64 fun x hx=>?_
 obtain ⟨q,hq⟩:=List.getElem?_of_mem hx
 have:=hP.lt q x hq
 rw [lbf this];rfl
section
variable {P:Program} {Q:Exit->Act->World->Prop} {md:Region.Mode} {π:List Nat} {ops ops':Array Oper}
structure aH3 (π:List Nat) (n:Nat) (listed listed':Array Bool):Prop where
 s:listed.size=n
 s':listed'.size=n
 eq:∀p i:Nat,π[p]? =some i->listed'.getD p false=listed.getD i false
theorem b6c {n p i:Nat} (hP:a4d π n) {listed listed':Array Bool} (h:aH3 π n listed listed') (hp:π[p]? =some i):aH3 π n (listed.setIfInBounds i true) (listed'.setIfInBounds p true):=by
 refine ⟨by simp [h.s],by simp [h.s'],fun q j hq=>?_⟩
 have h1:=hP.lt p i hp
 have h2:=hP.lt q j hq
 have h3:p<n:=by rw [← hP.len];exact (lbe.1 hp).1
 have h4:q<n:=by rw [← hP.len];exact (lbe.1 hq).1
 have he:=h.eq q j hq
 by_cases hqp:q=p
 ·subst hqp
  rw [hp] at hq
  injection hq with hq
  subst hq
  simp [h.s,h.s',h1,h3]
 ·have hji:j≠i:=fun e=>by
   subst e
   have a:=hP.inv p j hp
   have b:=hP.inv q j hq
   omega
  rw [Array.getD_eq_getD_getElem?] at he ⊢
  rw [Array.getD_eq_getD_getElem?] at he ⊢
  rw [Array.getElem?_setIfInBounds_ne (Ne.symm hqp),Array.getElem?_setIfInBounds_ne (Ne.symm hji)]
  exact he
theorem a6D (hP:a4d π ops.size) (ho:ops'.toList=X6 π ops.toList) {listed listed':Array Bool} (h:aH3 π ops.size listed listed') {p i:Nat} (hp:π[p]? =some i):
 p ∈ Region.ready md ops' listed'↔i ∈ Region.ready md ops listed:=by
 have hP':a4d π ops.toList.length:=by simpa using hP
 have hlen:ops'.size=ops.size:=by
  have:=congrArg List.length ho
  rw [a7s hP'] at this
  simpa using this
 have hi:=hP.lt p i hp
 have hpn:p<ops.size:=by rw [← hP.len];exact (lbe.1 hp).1
 have hop:ops'[p]? =(ops[i]?).map (a6o π):=by
  have:=aM8 hP' hp
  rw [← ho] at this
  simpa using this
 have hoi:ops[i]? =some ops[i]:=Array.getElem?_eq_getElem hi
 have hl:=h.eq p i hp
 have hD:∀(l:Array Bool) (j:Nat),j<l.size->l.getD j true=l.getD j false:=fun l j hj=>by simp [hj]
 unfold Region.ready
 rw [lby,lby,lbB,lbB,hop,hoi]
 simp only [Option.map_some,Option.getD_some]
 rw [hD listed i (by rw [h.s];exact hi),hD listed' p (by rw [h.s'];exact hpn),hl,hlen]
 have e:(a6o π ops[i]).after.all (fun e=>!Region.binds md e || listed'.getD e.on false)=ops[i].after.all (fun e=>!Region.binds md e || listed.getD e.on false):=by
  rw [← Array.all_toList,←Array.all_toList]
  show ((ops[i].after.toList.map fun e=>({ e with on:=a7H e.on π }:Edge)).toArray.toList).all _=_
  rw [List.all_map]
  congr 1
  funext e
  show (!Region.binds md { e with on:=a7H e.on π } || listed'.getD (a7H e.on π) false)=_
  have hb:Region.binds md { e with on:=a7H e.on π }=Region.binds md e:=rfl
  rw [hb]
  congr 1
  by_cases hn:e.on<ops.size
  ·exact h.eq _ _ (hP.pos _ hn)
  ·have hm:e.on ∉ π:=fun hm=>by
    obtain ⟨q,hq⟩:=List.getElem?_of_mem hm
    exact hn (hP.lt q _ hq)
   rw [aA8 hm,hP.len]
   simp [h.s,h.s',hn]
 rw [e]
 simp [hi,hpn]
theorem b3I (hP:a4d π ops.size) (ho:ops'.toList=X6 π ops.toList) {p i:Nat} (hp:π[p]? =some i) {K K':Act->World->Prop} (hK:∀a w,K' a w->K a w) {a:Act} {w:World} (h:wpOp P ops' Q p K' a w):wpOp P ops Q i K a w:=by
 have hP':a4d π ops.toList.length:=by simpa using hP
 have hi:=hP.lt p i hp
 have hget:∀q j,π[q]? =some j->ops'[q]? =(ops[j]?).map (a6o π):=fun q j hq=>by
  have:=aM8 hP' hq
  rw [← ho] at this
  simpa using this
 have hlen:ops'.size=ops.size:=by
  have:=congrArg List.length ho
  rw [a7s hP'] at this
  simpa using this
 have hoi:ops[i]? =some ops[i]:=Array.getElem?_eq_getElem hi
 have hy:∀j,yielded ops' a.tmps (a7H j π)=yielded ops a.tmps j:=fun j=>by
  unfold yielded
  by_cases hn:j<ops.size
  ·rw [hget _ _ (hP.pos j hn),Array.getElem?_eq_getElem hn];rfl
  ·have hm:j ∉ π:=fun hm=>by
    obtain ⟨q,hq⟩:=List.getElem?_of_mem hm
    exact hn (hP.lt q _ hq)
   rw [aA8 hm,hP.len,Array.getElem?_eq_none (by omega),Array.getElem?_eq_none (by omega)]
 have hw:Region.wanted (a6o π ops[i]) (yielded ops' a.tmps)=Region.wanted ops[i] (yielded ops a.tmps):=by
  unfold Region.wanted a6o
  cases ops[i].guard with
  |none=>rfl
  |some g=>simp only [Option.map_some];rw [hy]
 have h2:wpOp P ops Q i K' a w:=by
  unfold wpOp at h ⊢
  rw [hget p i hp,hoi] at h
  rw [hoi]
  simp only [Option.map_some] at h
  rw [hw] at h
  exact h
 exact wpOp_mono hK h2
theorem aT8 (hP:a4d π ops.size) (ho:ops'.toList=X6 π ops.toList):∀(fuel:Nat) (listed listed':Array Bool) (a:Act) (w:World),aH3 π ops.size listed listed'->wpAny P md ops' Q fuel listed' a w->wpAny P md ops Q fuel listed a w:=by
 have hP':a4d π ops.toList.length:=by simpa using hP
 have hlen:ops'.size=ops.size:=by
  have:=congrArg List.length ho
  rw [a7s hP'] at this
  simpa using this
 have hnil:∀listed listed',aH3 π ops.size listed listed'->(Region.ready md ops' listed'=[]↔Region.ready md ops listed=[]):=fun listed listed' h=>by
  constructor
  ·intro he
   cases hr:Region.ready md ops listed with
   |nil=>rfl
   |cons i r=>
    have hm:i ∈ Region.ready md ops listed:=by rw [hr];simp
    have hi:i<ops.size:=by unfold Region.ready at hm;exact lbB.1 (lby.1 hm).1
    have:=(a6D hP ho h (hP.pos i hi)).2 hm
    rw [he] at this;cases this
  ·intro he
   cases hr:Region.ready md ops' listed' with
   |nil=>rfl
   |cons p r=>
    have hm:p ∈ Region.ready md ops' listed':=by rw [hr];simp
    have hpn:p<ops'.size:=by unfold Region.ready at hm;exact lbB.1 (lby.1 hm).1
    have:=(a6D hP ho h (lbf (by rw [hP.len];omega))).1 hm
    rw [he] at this;cases this
 intro fuel
 induction fuel with
 |zero=>intro listed listed' a w h hh;exact ⟨(hnil _ _ h).1 hh.1,hh.2⟩
 |succ fuel ih=>
  intro listed listed' a w h hh
  refine ⟨fun he=>hh.1 ((hnil _ _ h).2 he),fun i hi=>?_⟩
  have hin:i<ops.size:=by unfold Region.ready at hi;exact lbB.1 (lby.1 hi).1
  have hp:=hP.pos i hin
  exact b3I hP ho hp (fun a w hk=>ih _ _ a w (b6c hP h hp) hk) (hh.2 _ ((a6D hP ho h hp).2 hi))
end
theorem b0K {P:Program} {τ:Tab} (hτ:D3 P τ) {ops:Array Oper} {Q:Exit->Act->World->Prop} {K:Env->Hp->Prop} {w0:World} {ι0:Io} {M0:Ms} {H0:Hp} (hM0:MB w0 M0)
 (hK:∀env H a w,K env H->Sim w0 ι0 M0 H0 a w env H->Q .normal a w) {env:Env} {H:Hp} {a:Act} {w:World} {id:Nat} {o:Option (List Nat)}
 (ho:b13 o ops.toList.length=true) (hr:a7o (a7K o ops.toList)=true) (h:a73 P τ (a7K o ops.toList) true 0 (a7K o ops.toList) env H K) (hs:Sim w0 ι0 M0 H0 a w env H):(Code.region id ops true).wp P Q a w:=by
 refine wp_region_any hτ.mixed ?_
 cases o with
 |none=>exact a4K hτ hM0 hK hr h hs
 |some π=>
  have hP:a4d π ops.toList.length:=aK0 ho
  have hP2:a4d π ops.size:=by simpa using hP
  have h1:=a4K (ops:=(X6 π ops.toList).toArray) hτ hM0 hK hr h hs
  have hl:(X6 π ops.toList).toArray.size=ops.size:=by simp [a7s hP]
  rw [hl] at h1
  exact aT8 hP2 rfl _ _ _ _ _ ⟨by simp,by simp,fun p i hp=>by
   have a1:=hP2.lt p i hp
   have a2:p<ops.size:=by rw [← hP2.len];exact (lbe.1 hp).1
   simp [a1,a2]⟩ h1
end
section
open Go.RowKit
inductive AX where
 |normal
 |exit (id:Nat)
 |ret
def AX.real:AX->Exit
 |.normal=>.normal
 |.exit id=>.exit id
 |.ret=>.ret
structure Awp (P:Program) (n0:Nat) (c:Code) (env:Env) (H:Hp) (Q:AX->Env->Hp->Prop):Prop where
 out:∀(w0:World) (ι0:Io) (M0:Ms) (H0:Hp) (a:Act) (w:World),H0.length=n0->MB w0 M0->Sim w0 ι0 M0 H0 a w env H->
  c.wp P (fun e a' w'=>∃x env' H',e=AX.real x∧Q x env' H'∧Sim w0 ι0 M0 H0 a' w' env' H') a w
abbrev AQ:=AX->Env->Hp->Prop
abbrev AC:=Env->Hp->AQ->Prop
def b6r:AC:=fun env H Q=>Q .normal env H
noncomputable def b4C (P:Program) (τ:Tab) (_:Nat) (ops:Array Oper) (draw:Bool):AC:=fun env H Q=>match draw with
 |true=>b3F ops.toList fun ops=>a73 P τ ops true 0 ops env H (Q .normal)
 |false=>a73 P τ ops.toList false 0 ops.toList env H (Q .normal)
def be3 (b:AC) (Q:AQ):AQ:=fun x env' H'=>match x with
    |.normal=>b env' H' Q
    |.exit j=>Q (.exit j) env' H'
    |.ret=>Q .ret env' H'
def bg8 (_ _:Code) (a b:AC):AC:=fun env H Q=>a env H (be3 b Q)
def bd3 (c:Operand) (_ _:Code) (t e:AC):AC:=fun env H Q=>match I7 env c with
    |.c (.t (.atm (.bool b)))=>cond b (t env H Q) (e env H Q)
    |_=>False
def bf1 (id:Nat) (Q:AQ):AQ:=fun x env' H'=>match x with
    |.exit j=>cond (Nat.beq j id) (Q .normal env' H') (Q (.exit j) env' H')
    |.normal=>Q .normal env' H'
    |.ret=>Q .ret env' H'
def b8n (id:Nat) (_:Code) (b:AC):AC:=fun env H Q=>b env H (bf1 id Q)
def b9O (P:Program) (n0:Nat) (c:Code) (_:AC):AC:=fun env H Q=>Awp P n0 (.loop c) env H Q
def b9u (id:Nat):AC:=fun env H Q=>Q (.exit id) env H
def bh5:AC:=fun env H Q=>Q .ret env H
def b8o:AC:=fun _ _ _=>False
noncomputable def a4P (P:Program) (τ:Tab) (n0:Nat) (c:Code):Env->Hp->(AX->Env->Hp->Prop)->Prop:=
 Code.rec (motive:=fun _=>AC) b6r (b4C P τ) bg8 bd3 b8n (b9O P n0) (fun _ _ _ _ _ _=>b8o) b9u (fun _ _=>b8o) (fun _=>b6r) (fun _=>b8o) bh5 (fun _=>b8o) c
theorem y3 {P:Program} {τ:Tab} {n0:Nat} (hτ:D3 P τ) (c:Code):∀{env:Env} {H:Hp} {Q:AX->Env->Hp->Prop},a4P P τ n0 c env H Q->Awp P n0 c env H Q:=by
 induction c with
 |skip=>intro env H Q h;refine ⟨fun w0 ι0 M0 H0 a w hn hM hs=>?_⟩;exact wp_skip ⟨.normal,env,H,rfl,h,hs⟩
 |region id ops draw=>
  intro env H Q h
  refine ⟨fun w0 ι0 M0 H0 a w hn hM hs=>?_⟩
  cases draw with
  |false=>
   refine wp_region ?_
   have:=b6s hτ hM (Q:=fun e a' w'=>∃x env' H',e=AX.real x∧Q x env' H'∧Sim w0 ι0 M0 H0 a' w' env' H') (K:=Q .normal)
    (fun env H a w hk hs=>⟨.normal,env,H,rfl,hk,hs⟩) ops.toList 0 env H a w rfl h hs
   rw [List.range_eq_range']
   simpa using this
  |true=>
   have h:b3F ops.toList fun ops=>a73 P τ ops true 0 ops env H (Q .normal):=h
   obtain ⟨π,h1,h2,h3⟩:=h.out
   exact b0K hτ hM (fun env H a w hk hs=>⟨.normal,env,H,rfl,hk,hs⟩) h1 h2 h3 hs
 |seq x y ihx ihy=>
  intro env H Q h
  refine ⟨fun w0 ι0 M0 H0 a w hn hM hs=>?_⟩
  refine wp_seq (wp_mono ((ihx h).out w0 ι0 M0 H0 a w hn hM hs) ?_)
  rintro e a' w' ⟨x,env',H',rfl,hq,hs'⟩
  cases x with
  |normal=>exact (ihy hq).out w0 ι0 M0 H0 a' w' hn hM hs'
  |exit id=>exact ⟨_,env',H',rfl,hq,hs'⟩
  |ret=>exact ⟨_,env',H',rfl,hq,hs'⟩
 |cond c t e iht ihe=>
  intro env H Q h
  refine ⟨fun w0 ι0 M0 H0 a w hn hM hs=>?_⟩
  have h:(match I7 env c with
   |.c (.t (.atm (.bool b)))=>cond b (a4P P τ n0 t env H Q) (a4P P τ n0 e env H Q)
   |_=>False):=h
  split at h
  ·rename_i b hb
   obtain ⟨ι,M,hd,hsz,he,hH,hMB,hF,hst⟩:=hs
   have hv:=(he.ev.to hb).inv_atm
   have hs:Sim w0 ι0 M0 H0 a w env H:=⟨ι,M,hd,hsz,he,hH,hMB,hF,hst⟩
   refine wp_cond hv ?_
   cases b with
   |true=>exact (iht h).out w0 ι0 M0 H0 a w hn hM hs
   |false=>exact (ihe h).out w0 ι0 M0 H0 a w hn hM hs
  ·exact h.elim
 |block id c ih=>
  intro env H Q h
  refine ⟨fun w0 ι0 M0 H0 a w hn hM hs=>?_⟩
  refine wp_block (wp_mono ((ih h).out w0 ι0 M0 H0 a w hn hM hs) ?_)
  rintro e a' w' ⟨x,env',H',rfl,hq,hs'⟩
  cases x with
  |normal=>exact ⟨_,env',H',rfl,hq,hs'⟩
  |exit j=>
   have hq:cond (Nat.beq j id) (Q .normal env' H') (Q (.exit j) env' H'):=hq
   show if j=id then _ else _
   by_cases hj:j=id
   ·subst hj
    rw [if_pos rfl]
    simp only [Nat.beq_refl,cond_true] at hq
    exact ⟨_,env',H',rfl,hq,hs'⟩
   ·rw [if_neg hj]
    have:Nat.beq j id=false:=by
     cases hb:Nat.beq j id with
     |false=>rfl
     |true=>exact absurd (Nat.eq_of_beq_eq_true hb) hj
    simp only [this,cond_false] at hq
    exact ⟨_,env',H',rfl,hq,hs'⟩
  |ret=>exact ⟨_,env',H',rfl,hq,hs'⟩
 |loop c ih=>intro env H Q h;exact h
 |exit id=>intro env H Q h;refine ⟨fun w0 ι0 M0 H0 a w hn hM hs=>?_⟩;exact wp_exit ⟨.exit id,env,H,rfl,h,hs⟩
 |ret=>intro env H Q h;refine ⟨fun w0 ι0 M0 H0 a w hn hM hs=>?_⟩;exact wp_ret ⟨.ret,env,H,rfl,h,hs⟩
 |label l=>intro env H Q h;refine ⟨fun w0 ι0 M0 H0 a w hn hM hs=>?_⟩;exact wp_label ⟨.normal,env,H,rfl,h,hs⟩
 |_=>intros;rename_i h;exact False.elim h
def b3x (τ:Tab) (env:Env) (H:Hp):List ResultVar->(List S->Prop)->Prop
 |[],k=>k []
 |.tmp t::r,k=>ah2 (I7 env (.tmp t)) fun s=>b3x τ env H r fun l=>k (s::l)
 |.cell x t::r,k=>as6 τ (I7 env) H t (.tmp x) fun s=>b3x τ env H r fun l=>k (s::l)
def a7D (τ:Tab) (fn:Func) (env:Env) (H:Hp) (k:S->Prop):Prop:=
 b3x τ env H fn.results.toList fun l=>match l with
  |[s]=>k s
  |l=>k (.tup l)
theorem Sim.init {w:World} {ι:Io} {M:Ms} {H:Hp} {vals:List Value} {args:List S} (hl:vals.length=args.length) (hr:∀j s,args[j]? =some s->RS w ι M s (vals.getD j undef))
 (hH:p9 w ι M H) (hM:MB w M) (hF:Z1 ι H.length) (n:Nat):
 Sim w ι M H { tmps:=vals.toArray++Array.replicate n undef,defers:=[] } w (args++List.replicate n .junk) H:=by
 refine ⟨ι,M,rfl,by simp [hl],fun t s ht=>?_,hH,hM,hF,a37.refl w ι M H⟩
 by_cases h:t<args.length
 ·rw [lbb h] at ht
  have:=hr t s ht
  have hlt:t<vals.length:=by omega
  rw [lbl,lbf hlt] at this
  rw [Array.getD_eq_getD_getElem?,Array.getElem?_append_left (by simpa using hlt)]
  simpa [hlt] using this
 ·rw [lbc (by omega),lbk] at ht
  split at ht
  ·injection ht with ht;subst ht;exact .junk
  ·cases ht
theorem a6T {P:Program} {τ:Tab} (hτ:D3 P τ) {w:World} {ι:Io} {M:Ms} {env:Env} {H:Hp} {a:Act} (he:a2G w ι M env a) (hH:p9 w ι M H):∀(rs:List ResultVar) {k:List S->Prop},b3x τ env H rs k->
 ∃l,k l∧∃vs:List Value,(rs.mapM fun|.tmp t=>pure (a.tmps.getD t undef)|.cell x t=>do loadVar t (← asAddr (a.tmps.getD x undef)):Sem (List Value)).run P w=.ok vs w∧vs.length=l.length∧
  ∀(j:Nat) (s:S),l[j]? =some s->RS w ι M s (vs.getD j undef)
 |[],k,h=>⟨[],h,[],by simp,rfl,by simp⟩
 |.tmp t::r,k,h=>by
  simp only [b3x] at h
  rw [a25] at h
  obtain ⟨l,hk,vs,h1,h2,h3⟩:=a6T hτ he hH r h
  refine ⟨_,hk,a.tmps.getD t undef::vs,?_,by simp [h2],fun j s hj=>?_⟩
  ·simp only [List.mapM_cons,Sem.run_bind,Sem.run_pure,Result.andThen_ok,h1]
  ·cases j with
   |zero=>simp at hj;subst hj;exact he.ev (.tmp t)
   |succ j=>simpa using h3 j s (by simpa using hj)
 |.cell x t::r,k,h=>by
  simp only [b3x] at h
  obtain ⟨s,hs,hv⟩:=ap0 hτ h
  obtain ⟨v,ad,g0,g1,g2⟩:=hv a w ι M he.ev hH
  obtain ⟨l,hk,vs,h1,h2,h3⟩:=a6T hτ he hH r hs
  have g0':a.tmps.getD x undef=.pointer (some ad):=g0
  have e:(do loadVar t (← asAddr (a.tmps.getD x undef)):Sem Value).run P w=.ok v w:=by
   rw [g0] at g1
   rw [g0']
   simpa [asAddr,Instr.loadAt,Instr.sureAddr] using g1
  refine ⟨_,hk,v::vs,?_,by simp [h2],fun j s hj=>?_⟩
  ·simp only [List.mapM_cons,Sem.run_bind,Sem.run_pure,Result.andThen_ok] at e ⊢
   rw [e]
   simp only [Result.andThen_ok,h1]
  ·cases j with
   |zero=>simp at hj;subst hj;exact g2
   |succ j=>simpa using h3 j s (by simpa using hj)
end
section
open Go.RowKit
def b9B (P:Program) (t:TypeId):Option TK:=
 match P.underlying t with
 |some .bool=>some .bool
 |some (.int k)=>some (.int k)
 |some (.slice e)=>some (.slice e)
 |some (.array n e)=>some (.arr n e)
 |some (.struct fs)=>cond (fs.toList.all fun f=>(P.info? f.type).isSome) (some (.struct (fs.toList.map fun f=>(f.offset,P.cellsOf f.type,false)))) none
 |some _=>some .bas
 |none=>none
def bh8:TK->Bool
 |.arr _ _=>true
 |.struct _=>true
 |_=>false
theorem aw0 {P:Program}:∀(fs:List Field),(fs.all fun f=>(P.info? f.type).isSome)=true->
 fs.mapM (fun f=>(P.info? f.type).map fun i=>(f.offset,i.size))=some ((fs.map fun f=>(f.offset,P.cellsOf f.type,false)).map (fun x=>(x.1,x.2.1)))
 |[],_=>rfl
 |f::fs,h=>by
  simp only [List.all_cons,lbM] at h
  obtain ⟨i,hi⟩:=Option.isSome_iff_exists.1 h.1
  have ih:=aw0 fs h.2
  have hc:P.cellsOf f.type=i.size:=by simp [Program.cellsOf,hi]
  simp only [List.mapM_cons,hi,ih,List.map_cons,hc,Option.map_some]
  rfl
theorem bg4 {P:Program} {t:TypeId} {d:TD} (h1:b9B P t=some d.k) (h2:d.agg=bh8 d.k)
 (h3:(P.info? t).map (fun i=>(i.zero.map (·.cells.toList),i.size,i.bytes))=some (some d.zero,d.size,d.bytes)) (h4:d.zero.all (·.oneCell')=true) (h5:d.zero.length=d.size):ay3 P t d:=by
 constructor
 ·cases hi:P.info? t with
  |none=>rw [hi] at h3;cases h3
  |some i=>
   rw [hi] at h3
   simp only [Option.map_some,lb3,Prod.mk.injEq] at h3
   cases hz:i.zero with
   |none=>rw [hz] at h3;cases h3.1
   |some z=>
    rw [hz] at h3
    simp only [Option.map_some,lb3] at h3
    exact ⟨i,rfl,h3.2.1,h3.2.2,z,hz,h3.1,fun v hv=>lbv.1 h4 v hv,h5⟩
 ·unfold b9B at h1
  cases hu:P.underlying t with
  |none=>rw [hu] at h1;cases h1
  |some u=>
   rw [hu] at h1
   refine ⟨u,rfl,?_⟩
   rw [h2]
   cases u with
   |struct fs=>
    simp only at h1
    cases hb:(fs.toList.all fun f=>(P.info? f.type).isSome) with
    |false=>rw [hb] at h1;cases h1
    |true=>
     rw [hb] at h1
     simp only [cond_true,lb3] at h1
     rw [← h1]
     refine ⟨rfl,fs,rfl,?_,fun f hf=>lbv.1 hb f hf,aw0 _ hb⟩
     simp
   |_=>simp only [lb3] at h1<;>rw [← h1]<;>exact ⟨rfl,by first|trivial|rfl⟩
def b2a (P:Program):Nat->List (Option TD)->Prop
 |_,[]=>True
 |t,none::r=>b2a P (t+1) r
 |t,some d::r=>ay3 P t d∧b2a P (t+1) r
theorem a8B {P:Program}:∀(l:List (Option TD)) (t0:Nat),b2a P t0 l->∀i d,l.getD i none=some d->ay3 P (t0+i) d
 |[],_,_,i,d,h=>by simp at h
 |none::r,t0,hr,i,d,h=>by
  cases i with
  |zero=>simp at h
  |succ i=>have:=a8B r (t0+1) hr i d (by simpa using h);rwa [show t0+1+i=t0+(i+1) by omega] at this
 |some e::r,t0,hr,i,d,h=>by
  cases i with
  |zero=>simp at h;subst h;exact hr.1
  |succ i=>have:=a8B r (t0+1) hr.2 i d (by simpa using h);rwa [show t0+1+i=t0+(i+1) by omega] at this
theorem b6Q {P:Program} {l:List (Option TD)} (hm:P.follows .mixedOrders=true) (h:b2a P 0 l):D3 P (fun t=>l.getD t none):=⟨hm,fun t d hd=>by
 have:=a8B l 0 h t d hd
 rwa [Nat.zero_add] at this⟩
end
section
open Go.RowKit
def a4R:T->T->T
 |.sl s .any _,.sl s0 k r=>match k with
  |.nil=>.sl s .any []
  |_=>.sl s0 .any r
 |_,x=>x
theorem RT.weak {w:World} {M:Ms} {x y:T} {v:Value} (h:a4R y x=y) (hr:RT w M x v):RT w M y v:=by
 unfold a4R at h
 split at h
 ·split at h
  ·rw [← h]
   cases hr with
   |sl f hrow hcap hmax hk hn hA hc hr=>
    obtain ⟨rfl,rfl,rfl⟩:=hn rfl
    exact .sl (b:=0) (off:=0) (fun _ _=>undef) (by simp) hcap hmax (by intro h;cases h) (by intro h;cases h) (by simp) (by simp [at2]) (by simp [at2])
  ·rw [← h]
   cases hr with
   |sl f hrow hcap hmax hk hn hA hc hr=>exact .sl f hrow hcap hmax (by intro h;cases h) (by intro h;cases h) hA hc hr
 ·rw [← h];exact hr
theorem a0F (x:T):a4R x x=x:=by
 cases x with
 |sl s k r=>cases k<;>rfl
 |_=>rfl
theorem aC2 {x y:T} (h:x=y):a4R y x=y:=by subst h;exact a0F x
mutual
def VC (H:Hp) (p:Nat->Prop):C->T->Prop
 |.t x,y=>a4R y x=y
 |.ptr id r o,y=>match y with
  |.ptr cells=>p id∧∃k row,H[id]? =some k∧¬k.mode.gone∧k.rows[r]? =some row∧row.drop o=cells.map C.t
  |_=>False
 |.own id lo len _,y=>match y with
  |.sl size .any rows=>p id∧∃k,H[id]? =some k∧¬k.mode.gone∧k.size=size∧lo+len<=k.rows.length∧(k.rows.drop lo).take len=toC rows
  |_=>False
 |.fn f caps,y=>match y with
  |.fn f' caps'=>f=f'∧VL H p caps caps'
  |_=>False
def VL (H:Hp) (p:Nat->Prop):List C->List T->Prop
 |[],ys=>ys=[]
 |x::r,ys=>match ys with
  |[]=>False
  |y::r'=>VC H p x y∧VL H p r r'
end
theorem ba5 {rows:List (List T)} {i j:Nat} {c:T} (h:at2 rows i j=some c):at2 (toC rows) i j=some (.t c):=by
 obtain ⟨row,h1,h2⟩:=F4 h
 exact C7 (row:=row.map C.t) (by simp [toC,h1]) (by simp [h2])
mutual
theorem VC.rt {H:Hp} {p:Nat->Prop} {w:World} {ι:Io} {M M':Ms} (hH:p9 w ι M H) (hM:∀b,M' b->M b) (hp:∀id k b cap size,p id->H[id]? =some k->¬k.mode.gone->ι id=some (.blk b cap size)->¬M' b):
 ∀(x:C) (y:T) (v:Value),VC H p x y->RC w ι M x v->RT w M' y v
 |.t x,y,v,h,hr=>by
  have h:a4R y x=y:=by simpa only [VC] using h
  cases hr with
  |t hr=>exact (hr.weak h).keep (fun _ _ _=>rfl) (fun b hb=>.inl (hM b hb))
 |.ptr id r o,y,v,h,hr=>by
  cases y with
  |ptr cells=>
   simp only [VC] at h
   obtain ⟨hpi,k,row,hk,hd,hrow,hc⟩:=h
   cases hr with
   |@ptr _ _ _ b cap size hi=>
    have hb:=(hH.blk id k hk (fun e=>hd (by rw [e];trivial)) _ hi).row hrow
    have hnm:=hp id k b cap size hpi hk hd hi
    have hat:∀(j:Nat) (c:T),cells[j]? =some c->row[o+j]? =some (.t c):=fun j c hj=>by
     have:(row.drop o)[j]? =some (.t c):=by rw [hc,lba,hj];rfl
     rwa [lbj] at this
    refine .ptr (fun j=>(w.cell? ⟨b,r*size+o+j,none⟩).getD undef) (fun j c hj=>?_) (fun j c hj=>?_)
    ·obtain ⟨u,h1,h2⟩:=hb _ _ (hat j c hj)
     rw [Nat.add_assoc,h1]
     exact ⟨rfl,hnm⟩
    ·obtain ⟨u,h1,h2⟩:=hb _ _ (hat j c hj)
     rw [Nat.add_assoc,h1]
     cases h2 with
     |t h2=>exact h2.keep (fun _ _ _=>rfl) (fun b hb=>.inl (hM b hb))
  |_=>simp only [VC] at h
 |.own id lo len app,y,v,h,hr=>by
  cases y with
  |sl size sk rows=>
   cases sk with
   |any=>
    simp only [VC] at h
    obtain ⟨hpi,k,hk,hd,hsz,hl,hc⟩:=h
    have hlen:rows.length=len:=by
     have:=congrArg List.length hc
     simp [toC] at this
     omega
    cases hr with
    |@own _ _ _ _ b cap sz A cap' hi q1 q2 q3 q4 q5=>
     have hbr:=hH.blk id k hk (fun e=>hd (by rw [e];trivial)) _ hi
     obtain ⟨r1,r2,r3,r4,r5,cur,r6,r7,r8⟩:=hbr
     have hnm:=hp id k b cap sz hpi hk hd hi
     have hse:sz=size:=by rw [← hsz,r1]
     subst hse
     have hat:∀(i j:Nat) (c:T),at2 rows i j=some c->∃u,cur[(lo+i)*sz+j]? =some u∧RT w M' c u:=fun i j c hij=>by
      have h1:=ba5 hij
      rw [← hc] at h1
      obtain ⟨row,s1,s2⟩:=F4 h1
      rw [lbi] at s1
      split at s1
      ·rw [lbj] at s1
       obtain ⟨u,t1,t2⟩:=r8 _ _ _ (C7 s1 s2)
       refine ⟨u,t1,?_⟩
       cases t2 with
       |t t2=>exact t2.keep (fun _ _ _=>rfl) (fun b hb=>.inl (hM b hb))
      ·cases s1
     subst hlen
     refine .sl (b:=b) (off:=lo*sz) (fun i j=>cur.getD ((lo+i)*sz+j) undef) ?_ q3 q4 (by intro h;cases h) (by intro h;cases h) (fun hne=>q2 (List.length_pos_iff.2 hne)) ?_ ?_
     ·intro r hr'
      have:r.map C.t ∈ toC rows:=lbx.2 ⟨r,hr',rfl⟩
      rw [← hc] at this
      have:=r5 _ (List.mem_of_mem_drop (List.mem_of_mem_take this))
      simpa using this
     ·intro i j c hij
      obtain ⟨u,t1,t2⟩:=hat i j c hij
      refine ⟨?_,hnm⟩
      rw [show lo*sz+(i*sz+j)=(lo+i)*sz+j by rw [Nat.add_mul];omega]
      simp [World.cell?,r6,t1]
     ·intro i j c hij
      obtain ⟨u,t1,t2⟩:=hat i j c hij
      have:cur.getD ((lo+i)*sz+j) undef=u:=by simp [t1]
      show RT w M' c (cur.getD ((lo+i)*sz+j) undef)
      rw [this];exact t2
    |nil hi=>
     have hr0:rows=[]:=lbF hlen
     subst hr0
     exact .sl (b:=0) (off:=0) (fun _ _=>undef) (by simp) (by simp) (by unfold maxLen;omega) (by simp) (by simp) (by simp) (by simp [at2]) (by simp [at2])
   |_=>simp only [VC] at h
  |_=>simp only [VC] at h
 |.fn f caps,y,v,h,hr=>by
  cases y with
  |fn f' caps'=>
   simp only [VC] at h
   obtain ⟨rfl,h⟩:=h
   cases hr with
   |fn vs hl hr=>
    obtain ⟨h1,h2⟩:=VL.rt hH hM hp caps caps' h
    exact .fn vs (by omega) fun j c hj=>by
     have hlt:=(lbe.1 hj).1
     exact h2 j _ c _ (lbf (by omega)) hj (hr j _ (lbf (by omega)))
  |_=>simp only [VC] at h
theorem VL.rt {H:Hp} {p:Nat->Prop} {w:World} {ι:Io} {M M':Ms} (hH:p9 w ι M H) (hM:∀b,M' b->M b) (hp:∀id k b cap size,p id->H[id]? =some k->¬k.mode.gone->ι id=some (.blk b cap size)->¬M' b):
 ∀(xs:List C) (ys:List T),VL H p xs ys->xs.length=ys.length∧∀(j:Nat) (x:C) (y:T) (v:Value),xs[j]? =some x->ys[j]? =some y->RC w ι M x v->RT w M' y v
 |[],ys,h=>by
  simp only [VL] at h
  subst h
  exact ⟨rfl,by simp⟩
 |x::r,ys,h=>by
  cases ys with
  |nil=>simp only [VL] at h
  |cons y r'=>
   simp only [VL] at h
   obtain ⟨h1,h2⟩:=VL.rt hH hM hp r r' h.2
   refine ⟨by simp [h1],fun j x' y' v hx hy hr=>?_⟩
   cases j with
   |zero=>simp at hx hy;subst hx hy;exact VC.rt hH hM hp x y v h.1 hr
   |succ j=>exact h2 j x' y' v (by simpa using hx) (by simpa using hy) hr
end
theorem ae6 {H:Hp} {p:Nat->Prop} {x y:T} (h:a4R y x=y):VC H p (.t x) y:=by simpa only [VC] using h
theorem ac7 {H:Hp} {p:Nat->Prop} {id r o:Nat} {k:Blk} {row:List C} {cells:List T} (hp:p id) (hk:H[id]? =some k) (hd:¬k.mode.gone) (hr:k.rows[r]? =some row) (hc:row.drop o=cells.map C.t):VC H p (.ptr id r o) (.ptr cells):=by
 simp only [VC];exact ⟨hp,k,row,hk,hd,hr,hc⟩
theorem b9m {H:Hp} {p:Nat->Prop} {id lo len:Nat} {app:Bool} {size:Nat} {k:Blk} {rows:List (List T)} (hp:p id) (hk:H[id]? =some k) (hd:¬k.mode.gone) (hs:k.size=size) (hl:lo+len<=k.rows.length) (hc:(k.rows.drop lo).take len=toC rows):VC H p (.own id lo len app) (.sl size .any rows):=by
 simp only [VC];exact ⟨hp,k,hk,hd,hs,hl,hc⟩
theorem B7 {H:Hp} {p:Nat->Prop} {id len:Nat} {app:Bool} {size:Nat} {k:Blk} {rows:List (List T)} (hp:p id) (hk:H[id]? =some k) (hd:¬k.mode.gone) (hs:k.size=size) (hc:k.rows=toC rows) (hl:len=rows.length):VC H p (.own id 0 len app) (.sl size .any rows):=
 b9m hp hk hd hs (by rw [hc,hl];simp [toC]) (by rw [hc,hl,List.drop_zero,lbn (by simp [toC])])
theorem b6X {H:Hp} {p:Nat->Prop}:VL H p [] []:=by simp only [VL]
theorem a5o {H:Hp} {p:Nat->Prop} {x:C} {y:T} {xs:List C} {ys:List T} (h:VC H p x y) (hs:VL H p xs ys):VL H p (x::xs) (y::ys):=by simp only [VL];exact ⟨h,hs⟩
theorem bk0 {H:Hp} {p:Nat->Prop} {f:Fn} {xs:List C} {ys:List T} (h:VL H p xs ys):VC H p (.fn f xs) (.fn f ys):=by simp only [VC,true_and];exact h
def VS (H:Hp) (p:Nat->Prop):S->S->Prop
 |_,.junk=>True
 |.c x,.c (.t y)=>VC H p x y
 |.agg xs,.agg ys=>∃ts,ys=ts.map C.t∧VL H p xs ts
 |_,_=>False
theorem a2N {H:Hp} {p:Nat->Prop} {x:C} {y:T} (h:VC H p x y):VS H p (.c x) (.c (.t y)):=h
theorem b9Q {H:Hp} {p:Nat->Prop} {xs:List C} {ts:List T} (h:VL H p xs ts):VS H p (.agg xs) (.agg (ts.map C.t)):=⟨ts,rfl,h⟩
theorem VS.rs {H:Hp} {p:Nat->Prop} {w:World} {ι ι':Io} {M M':Ms} (hH:p9 w ι M H) (hM:∀b,M' b->M b) (hp:∀id k b cap size,p id->H[id]? =some k->¬k.mode.gone->ι id=some (.blk b cap size)->¬M' b)
 {x y:S} {v:Value} (h:VS H p x y) (hr:RS w ι M x v):RS w ι' M' y v:=by
 unfold VS at h
 split at h
 ·exact .junk
 ·cases hr with
  |c hr=>exact .c (.t (VC.rt hH hM hp _ _ _ h hr))
 ·obtain ⟨ts,rfl,h⟩:=h
  cases hr with
  |agg vs hl hr=>
   obtain ⟨h1,h2⟩:=VL.rt hH hM hp _ _ h
   refine .agg vs (by simp;omega) fun j c hj=>?_
   rw [lba] at hj
   cases hj':ts[j]? with
   |none=>rw [hj'] at hj;cases hj
   |some c'=>
    rw [hj'] at hj
    injection hj with hj
    subst hj
    have hlt:=(lbe.1 hj').1
    exact .t (h2 j _ c' _ (lbf (by omega)) hj' (hr j _ (lbf (by omega))))
 ·exact h.elim
def a63 (H:Hp) (p:Nat->Prop):List S->List S->Prop
 |[],[]=>True
 |x::r,y::r'=>VS H p x y∧a63 H p r r'
 |_,_=>False
theorem a63.get {H:Hp} {p:Nat->Prop}:∀{xs ys:List S},a63 H p xs ys->xs.length=ys.length∧∀(j:Nat) (y:S),ys[j]? =some y->∃x,xs[j]? =some x∧VS H p x y
 |[],[],_=>⟨rfl,by simp⟩
 |x::r,y::r',h=>by
  obtain ⟨h1,h2⟩:=a63.get h.2
  refine ⟨by simp [h1],fun j y' hj=>?_⟩
  cases j with
  |zero=>simp at hj;subst hj;exact ⟨x,rfl,h.1⟩
  |succ j=>simpa using h2 j y' (by simpa using hj)
 |[],_::_,h=>h.elim
 |_::_,[],h=>h.elim
end
section
open Go.RowKit
def C.isT:C->Bool
 |.t _=>true
 |_=>false
def S.isT:S->Bool
 |.junk=>true
 |.c x=>x.isT
 |.agg cs=>cs.all C.isT
 |.tup ss=>ss.all fun s=>match s with
  |.c x=>x.isT
  |.agg cs=>cs.all C.isT
  |.junk=>true
  |.tup _=>false
theorem RC.tree {w:World} {ι ι':Io} {M:Ms} {x:C} {v:Value} (h:x.isT=true) (hr:RC w ι M x v):RC w ι' M x v:=by
 cases hr<;>first|exact .t ‹_›|cases h
theorem RS.tree1 {w:World} {ι ι':Io} {M:Ms} {s:S} {v:Value} (h:(match s with|.c x=>x.isT|.agg cs=>cs.all C.isT|.junk=>true|.tup _=>false)=true) (hr:RS w ι M s v):RS w ι' M s v:=by
 cases hr with
 |junk=>exact .junk
 |c hr=>exact .c (hr.tree h)
 |agg vs hl hr=>exact .agg vs hl fun j c hj=>(hr j c hj).tree (lbv.1 h c (lbm hj))
 |tup vs hl hr=>cases h
theorem RS.tree {w:World} {ι ι':Io} {M:Ms} {s:S} {v:Value} (h:s.isT=true) (hr:RS w ι M s v):RS w ι' M s v:=by
 cases hr with
 |junk=>exact .junk
 |c hr=>exact .c (hr.tree h)
 |agg vs hl hr=>exact .agg vs hl fun j c hj=>(hr j c hj).tree (lbv.1 h c (lbm hj))
 |tup vs hl hr=>exact .tup vs hl fun j s hj=>(hr j s hj).tree1 (lbv.1 h s (lbm hj))
theorem E9 {P:Program} {g:FuncId} {args:List S} {H:Hp} {r:S} (h:b9 P g args [] r []) (ha:args.all S.isT=true) (hr:r.isT=true):Y9 P g args H r []:=by
 refine ⟨h.1,fun w ι M vals hl hv hH hM hf=>?_⟩
 have:=h.2 w (fun _=>none) M vals hl (fun j s hj=>(hv j s hj).tree (lbv.1 ha s (lbm hj)))
  ⟨by simp,by simp,by simp,by simp,by simp⟩ hM (fun _ _=>rfl)
 refine Calls.mono this ?_
 rintro e w' ⟨v,rfl,ι',M',h1,h2,h3,h4,h5⟩
 refine ⟨v,rfl,K7.of_none ?_ ?_⟩
 ·refine RS.keep (ι:=ι) (M:=M') (fun _ _ _=>rfl) (fun b hb=>?_) (fun _ _ h=>h) (h1.tree hr)
  rcases h5.mold b hb with h|⟨id,k,_,_,hk,_⟩
  ·exact .inl h
  ·simp at hk
 ·exact ⟨h5.os,h5.tape,h5.output,h5.size,fun b hb=>h5.keep b hb (by rintro ⟨id,k,_,_,hk,_⟩;simp at hk)⟩
theorem Awp.mono {P:Program} {n0:Nat} {c:Code} {env:Env} {H:Hp} {Q Q':AX->Env->Hp->Prop} (h:Awp P n0 c env H Q) (hq:∀a env H,Q a env H->Q' a env H):Awp P n0 c env H Q':=
 ⟨fun w0 ι0 M0 H0 a w hn hM hs=>wp_mono (h.out w0 ι0 M0 H0 a w hn hM hs) (by rintro e a' w' ⟨x,env',H',h1,h2,h3⟩;exact ⟨x,env',H',h1,hq _ _ _ h2,h3⟩)⟩
theorem a41 {x:Int} (h1:-9223372036854775808<=x) (h2:x<=9223372036854775807):J0 .i64 x x:=by
 unfold J0
 exact (IntWalk.i64_in x ⟨h1,by omega⟩).symm
def O3:List (Option Nat)->Nat->Bool
 |[],_=>true
 |some m::r,n=>!(Nat.beq m n) && O3 r n
 |none::r,n=>O3 r n
def b8F (ρ:List (Option Nat)) (x y:C):Prop:=
 match y with
 |.t y=>match x with
  |.t x=>x=y
  |_=>False
 |.ptr id' r' o'=>match x with
  |.ptr id r o=>ρ[id']? =some (some id)∧r=r'∧o=o'
  |_=>False
 |_=>False
def av3 (ρ:List (Option Nat)):List C->List C->Prop
 |[],[]=>True
 |x::r,y::r'=>b8F ρ x y∧av3 ρ r r'
 |_,_=>False
def b64 (ρ:List (Option Nat)) (H:Hp) (x y:C):Prop:=
 match y with
 |.t y=>match x with
  |.t x=>a4R y x=y
  |x=>VC H (fun id=>O3 ρ id=true) x y
 |.own id' lo' len' app'=>match x with
  |.t (.sl _ .nil _)=>ρ[id']? =some none∧lo'=0∧len'=0
  |.t (.sl _ .full [])=>ρ[id']? =some none∧lo'=0∧len'=0
  |.own id lo len app=>ρ[id']? =some (some id)∧lo=lo'∧len=len'∧(app'=true->app=true)
  |_=>False
 |.ptr id' r' o'=>match x with
  |.ptr id r o=>ρ[id']? =some (some id)∧r=r'∧o=o'
  |_=>False
 |.fn f' caps'=>match x with
  |.fn f caps=>f=f'∧av3 ρ caps caps'
  |_=>False
def a3I (ρ:List (Option Nat)) (H:Hp):List C->List C->Prop
 |[],[]=>True
 |x::r,y::r'=>b64 ρ H x y∧a3I ρ H r r'
 |_,_=>False
def a5T (ρ:List (Option Nat)) (H:Hp) (s:S) (s':S):Prop:=
 match s' with
 |.junk=>True
 |.c y=>match s with
  |.c x=>b64 ρ H x y
  |_=>False
 |.agg cs'=>match s with
  |.agg cs=>a3I ρ H cs cs'
  |_=>False
 |.tup _=>False
def a19 (ρ:List (Option Nat)) (H:Hp):Env->Env->Prop
 |[],[]=>True
 |s::r,s'::r'=>match s' with
  |.junk=>a19 ρ H r r'
  |s'=>a5T ρ H s s'∧a19 ρ H r r'
 |_,_=>False
def L8 (rows:List (List C)):Prop:=∀r ∈ rows,∀c ∈ r,c.isT=true
def a4s (ρ:List (Option Nat)) (H:Hp):List (List C)->List (List C)->Prop
 |[],[]=>True
 |x::r,y::r'=>a3I ρ H x y∧a4s ρ H r r'
 |_,_=>False
def a2K (k k':Blk):Bool:=match k.mode,k'.mode with
 |.live,.live=>cond k.app k'.app true
 |.live,.old=>k.app
 |.froz,.froz=>true
 |.old,.old=>true
 |.dead,.dead=>true
 |_,_=>false
theorem R8 {k k':Blk} (h:a2K k k'=true):(k'.mode≠.dead->k.mode≠.dead)∧(k'.mode=.live->k.mode=.live∧(k.app=true->k'.app=true))∧(k'.mode=.froz->k.mode=.froz)∧
 (k'.mode=.old->k.mode=.old∨(k.mode=.live∧k.app=true)):=by
 unfold a2K at h
 cases h1:k.mode<;>cases h2:k'.mode<;>rw [h1,h2] at h<;>simp at h ⊢
 ·intro ha;rw [ha] at h;simpa using h
 ·exact h
def a6G (ρ:List (Option Nat)) (H:Hp) (k k':Blk):Prop:=
 a2K k k'=true∧k.elem=k'.elem∧k.size=k'.size∧((k.rows=k'.rows∧L8 k.rows)∨a4s ρ H k.rows k'.rows)
def a3i (ρ:List (Option Nat)) (H:Hp):List (Option Nat)->Hp->Prop
 |[],[]=>True
 |x::r,k'::r'=>(match x with
  |none=>k'.rows=[]∧k'.mode=.live
  |some id=>match H[id]? with
   |some k=>a6G ρ H k k'
   |none=>False)∧a3i ρ H r r'
 |_,_=>False
def a54:Nat->List (Option Nat)->Hp->Bool
 |n,x::r,k::H=>(match x,k.mode with
  |_,.old=>false
  |some m,_=>Nat.beq m n
  |none,_=>false) || a54 n r H
 |_,_,_=>false
def S7:List (Option Nat)->Hp->Bool
 |none::r,_::H=>S7 r H
 |some n::r,k::H=>(match k.mode with
  |.old=>true
  |_=>!(a54 n r H)) && S7 r H
 |_,_=>true
def a1X (ρ:List (Option Nat)):Nat->Bool
 |0=>true
 |n+1=>(match ρ[n]? with|some (some m)=>Nat.beq m n|_=>false) && a1X ρ n
def Ent (n0:Nat) (ρ:List (Option Nat)) (env:Env) (H:Hp) (env':Env) (H':Hp):Prop:=
 a1X ρ n0=true∧S7 ρ H'=true∧a3i ρ H ρ H'∧a19 ρ H env env'
def O8 (ρ:List (Option Nat)) (ι:Io):Io:=fun id=>match ρ[id]? with
 |some (some j)=>ι j
 |some none=>some .nil
 |none=>none
def a7z (ρ:List (Option Nat)) (H:Hp) (ι:Io) (M:Ms):Ms:=fun b=>M b∧¬∃id k cap size,O3 ρ id=true∧H[id]? =some k∧¬k.mode.gone∧ι id=some (.blk b cap size)
theorem aw3:∀{ρ:List (Option Nat)} {i n:Nat},ρ[i]? =some (some n)->O3 ρ n=true->False
 |[],i,n,h,_=>by simp at h
 |x::r,i,n,h,hn=>by
  have hr:O3 r n=true:=by cases x<;>simp [O3] at hn<;>first|exact hn|exact hn.2
  cases i with
  |zero=>
   simp at h
   subst h
   simp [O3] at hn
  |succ i=>exact aw3 (by simpa using h) hr
theorem RC.sub {w:World} {ι:Io} {M M':Ms} (hM:∀b,M' b->M b) {x:C} {v:Value} (h:RC w ι M x v):RC w ι M' x v:=h.keep (fun _ _ _=>rfl) (fun b hb=>.inl (hM b hb)) (fun _ _ h=>h)
theorem b8F.rc {w:World} {ι:Io} {M:Ms} {ρ:List (Option Nat)} {H:Hp} {x y:C} {v:Value} (h:b8F ρ x y) (hr:RC w ι M x v):RC w (O8 ρ ι) (a7z ρ H ι M) y v:=by
 cases y with
 |t y=>
  cases x with
  |t x=>
   have h:x=y:=h
   subst h
   cases hr with
   |t hr=>exact .t (hr.keep (fun _ _ _=>rfl) fun b hb=>.inl hb.1)
  |_=>exact False.elim h
 |ptr id' r' o'=>
  cases x with
  |ptr id r o=>
   obtain ⟨h1,rfl,rfl⟩:=h
   cases hr with
   |ptr hi=>exact .ptr (by unfold O8;rw [h1];exact hi)
  |_=>exact False.elim h
 |own _ _ _ _=>exact False.elim h
 |fn _ _=>exact False.elim h
theorem av3.get {ρ:List (Option Nat)}:∀{xs ys:List C},av3 ρ xs ys->xs.length=ys.length∧∀(j:Nat) (x y:C),xs[j]? =some x->ys[j]? =some y->b8F ρ x y
 |[],[],_=>⟨rfl,by simp⟩
 |x::xs,y::ys,h=>by
  obtain ⟨h1,h2⟩:=av3.get h.2
  refine ⟨by simp [h1],fun j x' y' hx hy=>?_⟩
  cases j with
  |zero=>simp at hx hy;subst hx hy;exact h.1
  |succ j=>exact h2 j x' y' (by simpa using hx) (by simpa using hy)
 |[],_::_,h=>h.elim
 |_::_,[],h=>h.elim
theorem b64.rc {w:World} {ι:Io} {M:Ms} {ρ:List (Option Nat)} {H:Hp} (hH:p9 w ι M H) {x y:C} {v:Value} (h:b64 ρ H x y) (hr:RC w ι M x v):RC w (O8 ρ ι) (a7z ρ H ι M) y v:=by
 cases y with
 |t y=>
  have h:VC H (fun id=>O3 ρ id=true) x y:=by cases x<;>first|exact h|(simp only [VC];exact h)
  refine .t (VC.rt hH (fun b hb=>hb.1) ?_ x y v h hr)
  intro id k b cap size hp hk hd hi hb
  exact hb.2 ⟨id,k,cap,size,hp,hk,hd,hi⟩
 |own id' lo' len' app'=>
  cases x with
  |t x=>
   cases x with
   |sl size k rows=>
    cases k with
    |nil=>
     obtain ⟨h1,rfl,rfl⟩:=h
     cases hr with
     |t hr=>cases hr with
      |sl f hrow hcap hmax hk hn hA hc hr=>
       obtain ⟨rfl,rfl,rfl⟩:=hn rfl
       exact .nil (by unfold O8;rw [h1])
    |full=>
     cases rows with
     |nil=>
      obtain ⟨h1,rfl,rfl⟩:=h
      cases hr with
      |t hr=>cases hr with
       |sl f hrow hcap hmax hk hn hA hc hr=>
        obtain rfl:=hk rfl
        exact .nil (by unfold O8;rw [h1])
     |cons _ _=>exact False.elim h
    |any=>exact False.elim h
    |nul=>exact False.elim h
    |non=>exact False.elim h
   |_=>exact False.elim h
  |own id lo len app=>
   obtain ⟨h1,rfl,rfl,happ⟩:=h
   cases hr with
   |own hi q1 q2 q3 q4 q5=>exact .own (by unfold O8;rw [h1];exact hi) q1 q2 q3 q4 (fun h=>q5 (happ h))
   |nil hi=>exact .nil (by unfold O8;rw [h1];exact hi)
  |_=>exact False.elim h
 |ptr id' r' o'=>
  cases x with
  |ptr id r o=>
   obtain ⟨h1,rfl,rfl⟩:=h
   cases hr with
   |ptr hi=>exact .ptr (by unfold O8;rw [h1];exact hi)
  |_=>exact False.elim h
 |fn f' caps'=>
  cases x with
  |fn f caps=>
   obtain ⟨rfl,h⟩:=h
   obtain ⟨h1,h2⟩:=av3.get h
   cases hr with
   |fn vs hl hr=>
    refine .fn vs (by omega) fun j c hj=>?_
    have hlt:=(lbe.1 hj).1
    exact (h2 j _ c (lbf (by omega)) hj).rc (hr j _ (lbf (by omega)))
  |_=>exact False.elim h
section
variable {w:World} {ι:Io} {M:Ms} {ρ:List (Option Nat)} {H:Hp} (hH:p9 w ι M H)
include hH
theorem a3I.rc:∀{xs ys:List C},a3I ρ H xs ys->xs.length=ys.length∧∀(j:Nat) (x y:C) (v:Value),xs[j]? =some x->ys[j]? =some y->RC w ι M x v->RC w (O8 ρ ι) (a7z ρ H ι M) y v
 |[],[],_=>⟨rfl,by simp⟩
 |x::xs,y::ys,h=>by
  obtain ⟨h1,h2⟩:=a3I.rc h.2
  refine ⟨by simp [h1],fun j x' y' v hx hy hr=>?_⟩
  cases j with
  |zero=>simp at hx hy;subst hx hy;exact h.1.rc hH hr
  |succ j=>exact h2 j x' y' v (by simpa using hx) (by simpa using hy) hr
 |[],_::_,h=>h.elim
 |_::_,[],h=>h.elim
theorem a5T.rs {s s':S} {v:Value} (h:a5T ρ H s s') (hr:RS w ι M s v):RS w (O8 ρ ι) (a7z ρ H ι M) s' v:=by
 unfold a5T at h
 split at h
 ·exact .junk
 ·split at h
  ·exact .c (b64.rc hH h hr.inv_c)
  ·exact h.elim
 ·split at h
  ·cases hr with
   |agg vs hl hr=>
    obtain ⟨h1,h2⟩:=a3I.rc hH h
    refine .agg vs (by omega) fun j c hj=>?_
    have hlt:=(lbe.1 hj).1
    exact h2 j _ c _ (lbf (by omega)) hj (hr j _ (lbf (by omega)))
  ·exact h.elim
 ·exact h.elim
omit hH in
theorem a19.rel:∀{env env':Env},a19 ρ H env env'->env.length=env'.length∧∀(t:Nat) (s':S),env'[t]? =some s'->∃s,env[t]? =some s∧a5T ρ H s s'
 |[],[],_=>⟨rfl,by simp⟩
 |s::r,s'::r',h=>by
  have h':a5T ρ H s s'∧a19 ρ H r r':=by
   cases s' with
   |junk=>exact ⟨trivial,h⟩
   |_=>exact h
  obtain ⟨h1,h2⟩:=a19.rel h'.2
  refine ⟨by simp [h1],fun t s'' ht=>?_⟩
  cases t with
  |zero=>simp at ht;subst ht;exact ⟨s,rfl,h'.1⟩
  |succ t=>simpa using h2 t s'' (by simpa using ht)
 |[],_::_,h=>h.elim
 |_::_,[],h=>h.elim
theorem a4s.rc:∀{xs ys:List (List C)},a4s ρ H xs ys->xs.length=ys.length∧(∀ n,(∀ r ∈ xs,r.length=n)->∀r ∈ ys,r.length=n)∧
 ∀(i j:Nat) (y:C),at2 ys i j=some y->∃x,at2 xs i j=some x∧∀v,RC w ι M x v->RC w (O8 ρ ι) (a7z ρ H ι M) y v
 |[],[],_=>⟨rfl,by simp,by simp [at2]⟩
 |x::xs,y::ys,h=>by
  obtain ⟨h1,h2,h3⟩:=a4s.rc h.2
  obtain ⟨q1,q2⟩:=a3I.rc hH h.1
  refine ⟨by simp [h1],fun n hn r hr=>?_,fun i j y' hy=>?_⟩
  ·rcases lbA.1 hr with rfl|hr
   ·rw [← q1];exact hn x (by simp)
   ·exact h2 n (fun r hr=>hn r (by simp [hr])) r hr
  ·obtain ⟨row,r1,r2⟩:=F4 hy
   cases i with
   |zero=>
    simp at r1
    subst r1
    have hlt:=(lbe.1 r2).1
    exact ⟨_,C7 rfl (lbf (by omega)),fun v hv=>q2 j _ _ v (lbf (by omega)) r2 hv⟩
   |succ i=>
    obtain ⟨x',s1,s2⟩:=h3 i j y' (C7 (by simpa using r1) r2)
    obtain ⟨row',t1,t2⟩:=F4 s1
    exact ⟨x',C7 (by simpa using t1) t2,s2⟩
 |[],_::_,h=>h.elim
 |_::_,[],h=>h.elim
end
theorem a3i.get {ρ:List (Option Nat)} {H:Hp}:∀{r:List (Option Nat)} {H':Hp},a3i ρ H r H'->r.length=H'.length∧∀(id:Nat) (k':Blk),H'[id]? =some k'->
 (r[id]? =some none∧k'.rows=[]∧k'.mode=.live)∨∃j k,r[id]? =some (some j)∧H[j]? =some k∧a6G ρ H k k'
 |[],[],_=>⟨rfl,by simp⟩
 |x::r,k::H',h=>by
  obtain ⟨h1,h2⟩:=a3i.get h.2
  refine ⟨by simp [h1],fun id k' hk=>?_⟩
  cases id with
  |zero=>
   simp at hk
   subst hk
   have hx:=h.1
   cases x with
   |none=>exact .inl ⟨rfl,hx⟩
   |some j=>
    refine .inr ⟨j,?_⟩
    simp only at hx
    split at hx
    ·rename_i k0 hk0
     exact ⟨k0,rfl,hk0,hx⟩
    ·exact hx.elim
  |succ id=>simpa using h2 id k' (by simpa using hk)
 |[],_::_,h=>h.elim
 |_::_,[],h=>h.elim
theorem ax2:∀{r:List (Option Nat)} {H:Hp} {n j:Nat} {k:Blk},a54 n r H=false->r[j]? =some (some n)->H[j]? =some k->k.mode=.old
 |[],_,n,j,k,_,h,_=>by simp at h
 |x::r,[],n,j,k,_,_,h=>by simp at h
 |x::r,k0::H,n,0,k,hs,h,hk=>by
  simp at h hk
  subst h hk
  simp only [a54,Bool.or_eq_false_iff] at hs
  cases hm:k0.mode with
  |old=>rfl
  |_=>rw [hm] at hs;simp at hs
 |x::r,k0::H,n,j+1,k,hs,h,hk=>by
  simp only [a54,Bool.or_eq_false_iff] at hs
  exact ax2 hs.2 (by simpa using h) (by simpa using hk)
theorem at3:∀{l:List (Option Nat)} {H:Hp},S7 l H=true->∀(i j n:Nat) (k k':Blk),l[i]? =some (some n)->l[j]? =some (some n)->H[i]? =some k->H[j]? =some k'->k.mode≠.old->k'.mode≠.old->i=j
 |[],_,_,i,j,n,k,k',h,_,_,_,_,_=>by simp at h
 |x::r,[],_,i,j,n,k,k',_,_,h,_,_,_=>by simp at h
 |x::r,k0::H,hn,i,j,n,k,k',hi,hj,hk,hk',ho,ho'=>by
  have hr:S7 r H=true:=by
   cases x with
   |none=>exact hn
   |some m=>simp only [S7,lbM] at hn;exact hn.2
  have hx:∀(q:Nat) (kq:Blk),x=some n->k0.mode≠.old->r[q]? =some (some n)->H[q]? =some kq->kq.mode=.old:=fun q kq hxn h0 hq hkq=>by
   subst hxn
   simp only [S7,lbM] at hn
   have h1:=hn.1
   have:a54 n r H=false:=by
    cases hm:k0.mode with
    |old=>exact absurd hm h0
    |_=>simpa using h1
   exact ax2 this hq hkq
  cases i with
  |zero=>cases j with
   |zero=>rfl
   |succ j=>
    simp at hi hj hk hk'
    subst hk
    exact absurd (hx j k' hi ho hj hk') ho'
  |succ i=>cases j with
   |zero=>
    simp at hi hj hk hk'
    subst hk'
    exact absurd (hx i k hj ho' hi hk) ho
   |succ j=>
    simp at hi hj hk hk'
    rw [at3 hr i j n k k' hi hj hk hk' ho ho']
theorem a84 {ρ:List (Option Nat)}:∀{n:Nat},a1X ρ n=true->∀i,i<n->ρ[i]? =some (some i)
 |0,_,i,h=>by omega
 |n+1,hk,i,h=>by
  simp only [a1X,lbM] at hk
  by_cases hi:i=n
  ·subst hi
   have:=hk.1
   split at this
   ·rename_i m hm
    rw [hm,Nat.eq_of_beq_eq_true this]
   ·cases this
  ·exact a84 hk.2 i (by omega)
theorem al0 {w:World} {ι ι':Io} {M M':Ms} (hM:∀b,M' b->M b) {rows:List (List C)} (h:L8 rows) {i j:Nat} {c:C} (hc:at2 rows i j=some c) {u:Value} (hr:RC w ι M c u):RC w ι' M' c u:=by
 obtain ⟨row,h1,h2⟩:=F4 hc
 exact (hr.tree (h row (lbm h1) c (lbm h2))).sub hM
theorem a3i.all {n0:Nat} {ρ:List (Option Nat)} {H H':Hp} (h1:a1X ρ n0=true) (h2:S7 ρ H'=true) (h3:a3i ρ H ρ H') {w0:World} {ι0:Io} {M0:Ms} {H0:Hp} {w:World} {ι:Io} {M:Ms} (hn:H0.length=n0) (hM0:MB w0 M0)
 (hH:p9 w ι M H) (hst:a37 w0 ι0 M0 H0 w ι M H):p9 w (O8 ρ ι) (a7z ρ H ι M) H'∧Z1 (O8 ρ ι) H'.length∧a37 w0 ι0 M0 H0 w (O8 ρ ι) (a7z ρ H ι M) H':=by
 obtain ⟨hl,hg0⟩:=a3i.get h3
 have hg:∀(id:Nat) (k':Blk),H'[id]? =some k'->(ρ[id]? =some none∧k'.rows=[]∧k'.mode=.live)∨∃j k,ρ[id]? =some (some j)∧H[j]? =some k∧a2K k k'=true∧k.elem=k'.elem∧k.size=k'.size∧
  ((k.rows=k'.rows∧L8 k.rows)∨a4s ρ H k.rows k'.rows):=fun id k' hk=>by
  rcases hg0 id k' hk with h|⟨j,k,q1,q2,q3,q4,q5,q6⟩
  ·exact .inl h
  ·exact .inr ⟨j,k,q1,q2,q3,q4,q5,q6⟩
 have hlen:∀{k k':Blk},((k.rows=k'.rows∧L8 k.rows)∨a4s ρ H k.rows k'.rows)->k.rows.length=k'.rows.length:=fun h=>by
  rcases h with h|h
  ·rw [h.1]
  ·exact (a4s.rc hH h).1
 have hsub:∀b,a7z ρ H ι M b->M b:=fun b hb=>hb.1
 have hren:∀id j,ρ[id]? =some (some j)->O8 ρ ι id=ι j:=fun id j hj=>by unfold O8;rw [hj]
 have hnil:∀id,ρ[id]? =some none->O8 ρ ι id=some .nil:=fun id hj=>by unfold O8;rw [hj]
 have hle:H0.length<=H'.length:=by
  rw [← hl,hn]
  rcases Nat.lt_or_ge ρ.length n0 with hlt|hge
  ·have:=a84 h1 ρ.length hlt
   simp at this
  ·exact hge
 refine ⟨⟨?_,?_,?_,?_,?_⟩,?_,⟨hst.os,hst.tape,hst.output,hst.size,hst.keep,?_,fun b hb=>hst.mnew b hb.1,?_,?_,hle⟩⟩
 ·intro id k' hk hd l hll
  rcases hg id k' hk with ⟨q1,q2,q3⟩|⟨j,k,q1,q2,q3,q4,q5,q6⟩
  ·rw [hnil id q1] at hll
   injection hll with hll
   subst hll
   exact q2
  ·rw [hren id j q1] at hll
   have hb:=hH.blk j k q2 ((R8 q3).1 hd) l hll
   cases l with
   |nil=>
    have hb':k.rows=[]:=hb
    show k'.rows=[]
    rcases q6 with ⟨q6,_⟩|q6
    ·rw [← q6,hb']
    ·rw [hb'] at q6
     cases hr:k'.rows with
     |nil=>rfl
     |cons y ys=>rw [hr] at q6;exact q6.elim
   |blk b cap size=>
    obtain ⟨r1,r2,r3,r4,r5,cur,r6,r7,r8⟩:=hb
    rcases q6 with ⟨q6,q7⟩|q6
    ·refine ⟨by rw [← q5];exact r1,r2,by rw [← q6];exact r3,r4,by rw [← q6];exact r5,cur,by rw [← q4];exact r6,r7,fun i j c hc=>?_⟩
     rw [← q6] at hc
     obtain ⟨u,s1,s2⟩:=r8 i j c hc
     exact ⟨u,s1,al0 hsub q7 hc s2⟩
    ·obtain ⟨t1,t2,t3⟩:=a4s.rc hH q6
     refine ⟨by rw [← q5];exact r1,r2,by rw [← t1];exact r3,r4,t2 size r5,cur,by rw [← q4];exact r6,r7,fun i j c hc=>?_⟩
     obtain ⟨x,u1,u2⟩:=t3 i j c hc
     obtain ⟨u,s1,s2⟩:=r8 i j x u1
     exact ⟨u,s1,u2 u s2⟩
 ·intro id k' hk hm b cap size hi
  rcases hg id k' hk with ⟨q1,q2,q3⟩|⟨j,k,q1,q2,q3,q4,q5,q6⟩
  ·rw [hnil id q1] at hi;cases hi
  ·rw [hren id j q1] at hi
   have hkl:k.mode=.live:=((R8 q3).2.1 hm).1
   have hMb:=hH.liv j k q2 hkl b cap size hi
   refine ⟨hMb,?_⟩
   rintro ⟨id2,k2,cap2,size2,n1,n2,n3,n4⟩
   cases hm2:k2.mode with
   |live=>
    have:=hH.inj j id2 k k2 q2 n2 hkl hm2 _ _ _ _ _ hi n4
    subst this
    exact aw3 q1 n1
   |froz=>exact hH.fro id2 k2 n2 hm2 _ _ _ n4 hMb
   |old=>exact n3 (by rw [hm2];trivial)
   |dead=>exact n3 (by rw [hm2];trivial)
 ·intro id k' hk hm b cap size hi
  rcases hg id k' hk with ⟨q1,q2,q3⟩|⟨j,k,q1,q2,q3,q4,q5,q6⟩
  ·rw [hnil id q1] at hi;cases hi
  ·rw [hren id j q1] at hi
   exact fun hb=>hH.fro j k q2 ((R8 q3).2.2.1 hm) b cap size hi hb.1
 ·intro id id' k k' hk hk' hm hm' b cap size cap' size' hi hi'
  rcases hg id k hk with ⟨q1,q2,q3⟩|⟨j,k1,q1,q2,q3,q4,q5,q6⟩
  ·rw [hnil id q1] at hi;cases hi
  ·rcases hg id' k' hk' with ⟨q1',q2',q3'⟩|⟨j',k1',q1',q2',q3',q4',q5',q6'⟩
   ·rw [hnil id' q1'] at hi';cases hi'
   ·rw [hren id j q1] at hi
    rw [hren id' j' q1'] at hi'
    have:=hH.inj j j' k1 k1' q2 q2' ((R8 q3).2.1 hm).1 ((R8 q3').2.1 hm').1 _ _ _ _ _ hi hi'
    subst this
    exact at3 h2 id id' j k k' q1 q1' hk hk' (by rw [hm];intro h;cases h) (by rw [hm'];intro h;cases h)
 ·intro id id' k k' hk hk' hm hm' b cap size cap' size' hi hi'
  rcases hg id k hk with ⟨q1,q2,q3⟩|⟨j,k1,q1,q2,q3,q4,q5,q6⟩
  ·rw [hnil id q1] at hi;cases hi
  ·rcases hg0 id' k' hk' with ⟨q1',q2',q3'⟩|⟨j',k1',q1',q2',q3',q4',q5',q6'⟩
   ·rw [hnil id' q1'] at hi';cases hi'
   ·rw [hren id j q1] at hi
    rw [hren id' j' q1'] at hi'
    obtain ⟨hl1,s2⟩:=(R8 q3').2.1 hm'
    rcases (R8 q3).2.2.2 hm with ho|⟨ho,ha⟩
    ·obtain ⟨t1,t2,t3⟩:=hH.old j j' k1 k1' q2 q2' ho hl1 _ _ _ _ _ hi hi'
     exact ⟨s2 t1,t2,by rw [← hlen q6,←hlen q6'];exact t3⟩
    ·have hjj:=hH.inj j j' k1 k1' q2 q2' ho hl1 _ _ _ _ _ hi hi'
     subst hjj
     rw [q2] at q2'
     injection q2' with q2'
     subst q2'
     rw [hi] at hi'
     injection hi' with hi'
     injection hi' with _ _ hi'
     exact ⟨s2 ha,hi',by rw [← hlen q6,←hlen q6'];exact lbQ _⟩
 ·intro id hid
  unfold O8
  rw [lbd (by omega)]
 ·intro id hid
  rw [hren id id (a84 h1 id (by omega))]
  exact hst.same id hid
 ·intro b hb
  rcases hst.mold b hb with h|h
  ·by_cases hx:∃id k cap size,O3 ρ id=true∧H[id]? =some k∧¬k.mode.gone∧ι id=some (.blk b cap size)
   ·obtain ⟨id,k,cap,size,n1,n2,n3,n4⟩:=hx
    refine .inr ?_
    have hlive:k.mode=.live:=by
     cases hm:k.mode with
     |live=>rfl
     |froz=>exact absurd h (hH.fro id k n2 hm _ _ _ n4)
     |old=>exact absurd (by rw [hm];trivial) n3
     |dead=>exact absurd (by rw [hm];trivial) n3
    rcases hst.live b ⟨id,k,cap,size,n2,hlive,n4⟩ with h'|h'
    ·exact h'
    ·have:=hM0 b hb;omega
   ·exact .inl ⟨h,hx⟩
  ·exact .inr h
 ·rintro b ⟨id,k',cap,size,hk,hm,hi⟩
  rcases hg id k' hk with ⟨q1,q2,q3⟩|⟨j,k,q1,q2,q3,q4,q5,q6⟩
  ·rw [hnil id q1] at hi;cases hi
  ·rw [hren id j q1] at hi
   exact hst.live b ⟨j,k,cap,size,q2,((R8 q3).2.1 hm).1,hi⟩
theorem Ent.sim {n0:Nat} {ρ:List (Option Nat)} {env env':Env} {H H':Hp} (h:Ent n0 ρ env H env' H') {w0:World} {ι0:Io} {M0:Ms} {H0:Hp} {a:Act} {w:World} (hn:H0.length=n0) (hM0:MB w0 M0)
 (hs:Sim w0 ι0 M0 H0 a w env H):Sim w0 ι0 M0 H0 a w env' H':=by
 obtain ⟨h1,h2,h3,h4⟩:=h
 obtain ⟨ι,M,hd,hsz,he,hH,hM,hF,hst⟩:=hs
 obtain ⟨hel,heg⟩:=a19.rel h4
 obtain ⟨q1,q2,q3⟩:=a3i.all h1 h2 h3 hn hM0 hH hst
 refine ⟨O8 ρ ι,_,hd,by omega,fun t s' ht=>?_,q1,fun b hb=>hM b hb.1,q2,q3⟩
 obtain ⟨s,q1,q2⟩:=heg t s' ht
 exact q2.rs hH (he t s q1)
def a9p (ρ:List (Option Nat)) (H:Hp) (s s':S):Prop:=
 match s' with
 |.tup ss'=>match s with
  |.tup ss=>a19 ρ H ss ss'
  |_=>False
 |s'=>a5T ρ H s s'
structure Fin (n0:Nat) (r:S) (H1:Hp) (s:S) (H':Hp):Prop where
 out:∃ρ,a1X ρ n0=true∧S7 ρ H'=true∧a3i ρ H1 ρ H'∧a9p ρ H1 r s
theorem a9p.rs {w:World} {ι:Io} {M:Ms} {ρ:List (Option Nat)} {H:Hp} (hH:p9 w ι M H) {s s':S} {v:Value} (h:a9p ρ H s s') (hr:RS w ι M s v):RS w (O8 ρ ι) (a7z ρ H ι M) s' v:=by
 cases s' with
 |tup ss'=>
  cases s with
  |tup ss=>
   cases hr with
   |tup vs hl hr=>
    obtain ⟨h1,h2⟩:=a19.rel h
    refine .tup vs (by omega) fun j s hj=>?_
    obtain ⟨s0,q1,q2⟩:=h2 j s hj
    exact q2.rs hH (hr j s0 q1)
  |_=>exact False.elim h
 |_=>exact a5T.rs hH h hr
theorem s7 {r s:S} {H1:Hp} (h:a9p [] H1 r s):Fin 0 r H1 s []:=⟨[],rfl,rfl,trivial,h⟩
theorem b5z {P : Program} {τ : Tab} (hτ : D3 P τ) {f : FuncId} {fn : Func} {c : Code} {args : List S} {H : Hp} {s : S} {H' : Hp} (hf : P.funcs[f]? = some fn) (hb : fn.body = some c) (hn : fn.name ≠ "runtime.NumGoroutine")
    (h:a4P P τ H.length c (args++List.replicate (fn.ntmps - args.length) .junk) H fun x env' H1=>match x with
      |.exit _=>False
      |_=>a7D τ fn env' H1 fun r=>Fin H.length r H1 s H'):b9 P f args H s H':=by
  refine ⟨⟨fn,hf,by rw [hb];rfl,hn⟩,fun w ι M vals hl hr hH hM hF=>?_⟩
  refine calls_of_wp hf hb ?_
  have hi:=Sim.init hl hr hH hM hF (fn.ntmps - args.length)
  have:=(y3 hτ c h).out w ι M H _ w rfl hM hi
  have e:vals.toArray.size=args.length:=by simpa using hl
  rw [e]
  refine wp_mono this ?_
  rintro e a' w' ⟨x,env',H1,rfl,hq,ι',M',hd,hsz,he,hH',hM',hF',hst⟩
  have key:(a7D τ fn env' H1 fun r=>Fin H.length r H1 s H')->a'.defers=[]∧∃v,(results fn a'.tmps).run P w'=.ok v w'∧∃v',Ending.returned v=.returned v'∧H3 w ι M H s H' v' w':=by
   intro hq
   refine ⟨hd,?_⟩
   obtain ⟨l,hk,vs,h1,h2,h3⟩:=a6T hτ he hH' fn.results.toList hq
   have hrun:∃v,(results fn a'.tmps).run P w'=.ok v w'∧v=(if h:vs.length=1 then vs[0] else .tuple vs.toArray):=by
    refine ⟨_,?_,rfl⟩
    unfold results
    rw [Array.mapM_eq_mapM_toList,Sem.run_bind,Sem.run_map]
    refine (congrArg (fun r=>Result.andThen (Result.andThen r _) _) h1).trans ?_
    simp
   obtain ⟨v,hv1,rfl⟩:=hrun
   refine ⟨_,hv1,_,rfl,?_⟩
   have hsr:∃r,RS w' ι' M' r (if h:vs.length=1 then vs[0] else .tuple vs.toArray)∧Fin H.length r H1 s H':=by
    match l,hk,h2,h3 with
    |[s1],hk,h2,h3=>
     refine ⟨s1,?_,hk⟩
     rw [dif_pos (by simpa using h2)]
     have:=h3 0 s1 rfl
     rw [lbl,lbf (by simp at h2;omega)] at this
     exact this
    |[],hk,h2,h3=>
     refine ⟨_,?_,hk⟩
     rw [dif_neg (by simp at h2;simp [h2])]
     exact .tup vs h2 h3
    |s1::s2::r,hk,h2,h3=>
     refine ⟨_,?_,hk⟩
     rw [dif_neg (by simp at h2;omega)]
     exact .tup vs h2 h3
   obtain ⟨r,h4,ρ,f1,f2,f3,f4⟩:=hsr
   obtain ⟨g1,g2,g3⟩:=a3i.all f1 f2 f3 rfl hM hH' hst
   exact ⟨O8 ρ ι',_,f4.rs hH' h4,g1,fun b hb=>hM' b hb.1,g2,g3⟩
  cases x with
  |normal=>exact key hq
  |ret=>exact key hq
  |exit id=>exact hq.elim
theorem a1z (p:Nat->Prop) (h:∃n,p n):∃n,p n∧∀m,p m->n<=m:=by
 obtain ⟨n,hn⟩:=h
 induction n using Nat.strongRecOn with
 |_ n ih=>
  by_cases hex:∃m,m<n∧p m
  ·obtain ⟨m,hm,hp⟩:=hex
   exact ih m hm hp
  ·exact ⟨n,hn,fun m hm=>Nat.le_of_not_lt fun hlt=>hex ⟨m,hlt,hm⟩⟩
theorem a7R {P:Program} {n0:Nat} {c:Code} {env:Env} {H:Hp} {Q:AX->Env->Hp->Prop} {σ:Type} (E:σ->Env × Hp) (μ:σ->Nat) (x0:σ) (ρ0:List (Option Nat))
 (h0:Ent n0 ρ0 env H (E x0).1 (E x0).2)
 (round:∀x,Awp P n0 c (E x).1 (E x).2 fun a env' H'=>match a with
   |.normal=>∃ρ x',Ent n0 ρ env' H' (E x').1 (E x').2∧μ x'<μ x
   |a=>Q a env' H'):Awp P n0 (.loop c) env H Q:=by
 refine ⟨fun w0 ι0 M0 H0 a w hn hM hs=>?_⟩
 have hs0:=h0.sim hn hM hs
 let I:Act->World->Prop:=fun a w=>∃x,Sim w0 ι0 M0 H0 a w (E x).1 (E x).2
 let J:Act->World->Nat->Prop:=fun a w n=>∃x,μ x=n∧Sim w0 ι0 M0 H0 a w (E x).1 (E x).2
 have hJ:∀a w,I a w->∃n,J a w n:=fun a w ⟨x,hx⟩=>⟨μ x,x,rfl,hx⟩
 classical
 let m:Act->World->Nat:=fun a w=>if h:∃n,J a w n then Classical.choose (a1z _ h) else 0
 have hmin:∀a w x,Sim w0 ι0 M0 H0 a w (E x).1 (E x).2->m a w<=μ x:=fun a w x hx=>by
  have h:∃n,J a w n:=⟨μ x,x,rfl,hx⟩
  show (if h:∃n,J a w n then Classical.choose (a1z _ h) else 0)<=μ x
  rw [dif_pos h]
  exact (Classical.choose_spec (a1z _ h)).2 _ ⟨x,rfl,hx⟩
 refine wp_loop I m ⟨x0,hs0⟩ fun a w hI=>?_
 have hex:=hJ a w hI
 have hm:m a w=Classical.choose (a1z _ hex):=by
  show (if h:∃n,J a w n then Classical.choose (a1z _ h) else 0)=_
  rw [dif_pos hex]
 obtain ⟨x,hx1,hx2⟩:=(Classical.choose_spec (a1z _ hex)).1
 have hr:=(round x).out w0 ι0 M0 H0 a w hn hM hx2
 refine wp_mono hr ?_
 rintro e a' w' ⟨ax,env',H',rfl,hq,hs'⟩
 cases ax with
 |normal=>
  obtain ⟨ρ,x',h1,h2⟩:=hq
  have hs2:=h1.sim hn hM hs'
  refine ⟨⟨x',hs2⟩,?_⟩
  have:=hmin a' w' x' hs2
  omega
 |exit id=>exact ⟨_,env',H',rfl,hq,hs'⟩
 |ret=>exact ⟨_,env',H',rfl,hq,hs'⟩
theorem j7 {P:Program} {τ:Tab} (hτ:D3 P τ) {n0:Nat} {c:Code} {env:Env} {H:Hp} {Q:AX->Env->Hp->Prop} (E:Nat->Env × Hp) (n:Nat) (I:Nat->Prop) (ρ0:List (Option Nat))
 (hI:I 0) (h0:Ent n0 ρ0 env H (E 0).1 (E 0).2)
 (round:∀k,k<=n->I k->a4P P τ n0 c (E k).1 (E k).2 fun a env' H'=>match a with
   |.normal=>k<n∧I (k+1)∧∃ρ,Ent n0 ρ env' H' (E (k+1)).1 (E (k+1)).2
   |a=>Q a env' H'):Awp P n0 (.loop c) env H Q:=by
 refine a7R (σ:={ k:Nat // k<=n∧I k }) (fun k=>E k.1) (fun k=>n - k.1) ⟨0,Nat.zero_le _,hI⟩ ρ0 h0 ?_
 rintro ⟨k,hk,hi⟩
 refine (y3 hτ c (round k hk hi)).mono ?_
 intro a env' H' h
 cases a with
 |normal=>
  obtain ⟨h1,h2,ρ,h3⟩:=h
  exact ⟨ρ,⟨k+1,h1,h2⟩,h3,by show n - (k+1)<n - k;omega⟩
 |exit id=>exact h
 |ret=>exact h
theorem a08 {n m:Int} {K:Prop} (h0:0<=n) (h1:n<m) (k:K):(0<=n∧n<m)∧K:=⟨⟨h0,h1⟩,k⟩
theorem i3 {α:Type} {xs:List α} {f:α->List T} {k:Nat} {x:α} {K:List T->Prop} (hx:xs[k]? =some x) (h:K (f x)):∃row,0<=(k:Int)∧(xs.map f)[(k:Int).toNat]? =some row∧K row:=
 ⟨f x,by omega,by simp [hx],h⟩
theorem M8 {α:Type} {xs:List α} {f:α->List T} {n:Int} {x:α} {K:List T->Prop} (h0:0<=n) (hx:xs[n.toNat]? =some x) (h:K (f x)):∃row,0<=n∧(xs.map f)[n.toNat]? =some row∧K row:=
 ⟨f x,h0,by simp [hx],h⟩
end
section
open Go.RowKit
def T.flat:T->Bool
 |.atm _=>true
 |_=>false
def C.flat:C->Bool
 |.t x=>x.flat
 |_=>false
def S.flat:S->Bool
 |.junk=>true
 |.c x=>x.flat
 |.agg cs=>cs.all C.flat
 |.tup ss=>ss.all fun s=>match s with
  |.c x=>x.flat
  |.agg cs=>cs.all C.flat
  |.junk=>true
  |.tup _=>false
theorem RC.flat {w:World} {ι ι':Io} {M M':Ms} {x:C} {v:Value} (h:x.flat=true) (hr:RC w ι M x v):RC w ι' M' x v:=by
 cases hr with
 |t hr=>cases hr with
  |atm hv=>exact .t (.atm hv)
  |_=>cases h
 |_=>cases h
theorem RS.flat1 {w:World} {ι ι':Io} {M M':Ms} {s:S} {v:Value} (h:(match s with|.c x=>x.flat|.agg cs=>cs.all C.flat|.junk=>true|.tup _=>false)=true) (hr:RS w ι M s v):RS w ι' M' s v:=by
 cases hr with
 |junk=>exact .junk
 |c hr=>exact .c (hr.flat h)
 |agg vs hl hr=>exact .agg vs hl fun j c hj=>(hr j c hj).flat (lbv.1 h c (lbm hj))
 |tup vs hl hr=>cases h
theorem RS.flat {w:World} {ι ι':Io} {M M':Ms} {s:S} {v:Value} (h:s.flat=true) (hr:RS w ι M s v):RS w ι' M' s v:=by
 cases hr with
 |junk=>exact .junk
 |c hr=>exact .c (hr.flat h)
 |agg vs hl hr=>exact .agg vs hl fun j c hj=>(hr j c hj).flat (lbv.1 h c (lbm hj))
 |tup vs hl hr=>exact .tup vs hl fun j s hj=>(hr j s hj).flat1 (lbv.1 h s (lbm hj))
theorem p9.none {w:World} {M:Ms}:p9 w (fun _=>Option.none) M []:=⟨by simp,by simp,by simp,by simp,by simp⟩
theorem a3Z {P:Program} {g:FuncId} {args args':List S} {H:Hp} {r:S} (h:b9 P g args' [] r []) (ha:a63 H (fun _=>False) args args') (hr:r.isT=true):Y9 P g args H r []:=by
 refine ⟨h.1,fun w ι M vals hl hv hH hM hf=>?_⟩
 obtain ⟨hlen,hget⟩:=a63.get ha
 have:=h.2 w (fun _=>none) M vals (by omega) (fun j s hj=>by
  obtain ⟨x,hx,hs⟩:=hget j s hj
  exact hs.rs hH (fun _ h=>h) (fun _ _ _ _ _ h _ _ _ _=>h.elim) (hv j x hx))
  .none hM (fun _ _=>rfl)
 refine Calls.mono this ?_
 rintro e w' ⟨v,rfl,ι',M',h1,h2,h3,h4,h5⟩
 refine ⟨v,rfl,K7.of_none ?_ ?_⟩
 ·refine RS.keep (ι:=ι) (M:=M') (fun _ _ _=>rfl) (fun b hb=>?_) (fun _ _ h=>h) (h1.tree hr)
  rcases h5.mold b hb with h|⟨id,k,_,_,hk,_⟩
  ·exact .inl h
  ·simp at hk
 ·exact ⟨h5.os,h5.tape,h5.output,h5.size,fun b hb=>h5.keep b hb (by rintro ⟨id,k,_,_,hk,_⟩;simp at hk)⟩
def aC4 (fr:List Nat) (n:Nat) (k:Blk):Blk:=match fr.any (Nat.beq n),k.mode with
 |true,.live=>{ k with mode:=.froz }
 |_,_=>k
def a2m (fr:List Nat):Nat->Hp->Hp
 |_,[]=>[]
 |n,k::r=>aC4 fr n k::a2m fr (n+1) r
abbrev b70 (fr:List Nat) (H:Hp):Hp:=a2m fr 0 H
theorem a8W (fr:List Nat):∀(H:Hp) (n i:Nat),(a2m fr n H)[i]? =(H[i]?).map (aC4 fr (n+i))
 |[],n,i=>by simp [a2m]
 |k::r,n,0=>by simp [a2m]
 |k::r,n,i+1=>by simp [a2m,a8W fr r (n+1) i,show n+1+i=n+(i+1) by omega]
theorem a1L (fr:List Nat):∀(H:Hp) (n:Nat),(a2m fr n H).length=H.length
 |[],n=>rfl
 |k::r,n=>by simp [a2m,a1L fr r (n+1)]
theorem T0 {fr:List Nat} {H:Hp} {id:Nat} {k':Blk} (h:(b70 fr H)[id]? =some k'):∃k,H[id]? =some k∧k'.elem=k.elem∧k'.size=k.size∧k'.rows=k.rows∧
 ((k'=k∧(id ∉ fr∨k.mode≠.live))∨(id ∈ fr∧k.mode=.live∧k'.mode=.froz)):=by
 rw [a8W,Nat.zero_add] at h
 cases hk:H[id]? with
 |none=>rw [hk] at h;cases h
 |some k=>
  rw [hk] at h
  injection h with h
  refine ⟨k,rfl,?_⟩
  subst h
  unfold aC4
  split
  ·rename_i h1 h2
   obtain ⟨x,hx,hb⟩:=lbw.1 h1
   have:=Nat.eq_of_beq_eq_true hb
   subst this
   exact ⟨rfl,rfl,rfl,.inr ⟨hx,h2,rfl⟩⟩
  ·rename_i h1
   refine ⟨rfl,rfl,rfl,.inl ⟨rfl,?_⟩⟩
   by_cases hm:k.mode=.live
   ·refine .inl fun hi=>h1 ?_ hm
    exact lbw.2 ⟨id,hi,by simp⟩
   ·exact .inr hm
theorem E7 {P:Program} {g:FuncId} {args args':List S} {H:Hp} {r:S} (fr:List Nat) (h:b9 P g args' [] r []) (ha:a63 H (· ∈ fr) args args') (hr:r.isT=true):b9 P g args H r (b70 fr H):=by
 refine ⟨h.1,fun w ι M vals hl hv hH hM hf=>?_⟩
 obtain ⟨hlen,hget⟩:=a63.get ha
 let M0:Ms:=fun b=>M b∧¬∃id k cap size,id ∈ fr∧H[id]? =some k∧k.mode=.live∧ι id=some (.blk b cap size)
 have hM0:∀b,M0 b->M b:=fun b hb=>hb.1
 have:=h.2 w (fun _=>none) M0 vals (by omega) (fun j s hj=>by
  obtain ⟨x,hx,hs⟩:=hget j s hj
  refine hs.rs hH hM0 ?_ (hv j x hx)
  intro id k b cap size hp hk hd hi hb
  cases hm:k.mode with
  |live=>exact hb.2 ⟨id,k,cap,size,hp,hk,hm,hi⟩
  |froz=>exact hH.fro id k hk hm b cap size hi hb.1
  |old=>exact hd (by rw [hm];trivial)
  |dead=>exact hd (by rw [hm];trivial))
  .none (fun b hb=>hM b hb.1) (fun _ _=>rfl)
 refine Calls.mono this ?_
 rintro e w' ⟨v,rfl,ι',M',h1,h2,h3,h4,h5⟩
 have hkeep:∀b,b<w.heap.size->w'.heap[b]? =w.heap[b]?:=fun b hb=>h5.keep b hb (by rintro ⟨id,k,_,_,hk,_⟩;simp at hk)
 have hold:∀b,M0 b->M' b:=fun b hb=>by
  rcases h5.mold b hb with h|⟨id,k,_,_,hk,_⟩
  ·exact h
  ·simp at hk
 refine ⟨v,rfl,ι,M',?_,⟨?_,?_,?_,?_,?_⟩,h3,?_,?_⟩
 ·exact h1.tree hr
 ·intro id k' hk' hd l hll
  obtain ⟨k,hk,e1,e2,e3,hc⟩:=T0 hk'
  have hd':k.mode≠.dead:=by
   rcases hc with ⟨rfl,_⟩|⟨_,h,_⟩
   ·exact hd
   ·rw [h];intro h;cases h
  have hb:=hH.blk id k hk hd' l hll
  cases l with
  |nil=>show k'.rows=[];rw [e3];exact hb
  |blk b cap size=>
   obtain ⟨q1,q2,q3,q4,q5,cur,q6,q7,q8⟩:=hb
   refine ⟨by rw [e2];exact q1,q2,by rw [e3];exact q3,q4,by rw [e3];exact q5,cur,by rw [e1];exact (hkeep b (v6 q6)).trans q6,q7,fun i j c hc=>?_⟩
   rw [e3] at hc
   obtain ⟨u,hu,hr⟩:=q8 i j c hc
   refine ⟨u,hu,hr.keep (fun b hb _=>hkeep b hb) (fun b hb=>?_) (fun _ _ h=>h)⟩
   rcases h5.mnew b hb with h|h
   ·exact .inl h.1
   ·exact .inr h
 ·intro id k' hk' hl' b cap size hi
  obtain ⟨k,hk,e1,e2,e3,hc⟩:=T0 hk'
  rcases hc with ⟨rfl,hc⟩|⟨_,_,h⟩
  ·refine hold b ⟨hH.liv id k' hk hl' b cap size hi,?_⟩
   rintro ⟨id2,k2,cap2,size2,n1,n2,n3,n4⟩
   have:=hH.inj id id2 k' k2 hk n2 hl' n3 _ _ _ _ _ hi n4
   subst this
   rcases hc with hc|hc
   ·exact hc n1
   ·exact hc hl'
  ·rw [h] at hl';cases hl'
 ·intro id k' hk' hl' b cap size hi hb
  obtain ⟨k,hk,e1,e2,e3,hc⟩:=T0 hk'
  have hlt:b<w.heap.size:=by
   have hd:k.mode≠.dead:=by
    rcases hc with ⟨rfl,_⟩|⟨_,h,_⟩
    ·rw [hl'];intro h;cases h
    ·rw [h];intro h;cases h
   obtain ⟨_,_,_,_,_,cur,q6,_⟩:=hH.blk id k hk hd _ hi
   exact v6 q6
  rcases h5.mnew b hb with h|h
  ·rcases hc with ⟨rfl,_⟩|⟨n1,n2,_⟩
   ·exact hH.fro id k' hk hl' b cap size hi h.1
   ·exact h.2 ⟨id,k,cap,size,n1,hk,n2,hi⟩
  ·omega
 ·intro id id' k1 k2 hk1 hk2 hm1 hm2
  obtain ⟨k,hk,e1,e2,e3,hc⟩:=T0 hk1
  obtain ⟨k',hk',e1',e2',e3',hc'⟩:=T0 hk2
  rcases hc with ⟨rfl,_⟩|⟨_,_,h⟩
  ·rcases hc' with ⟨rfl,_⟩|⟨_,_,h⟩
   ·exact hH.inj id id' _ _ hk hk' hm1 hm2
   ·rw [h] at hm2;cases hm2
  ·rw [h] at hm1;cases hm1
 ·intro id id' k1 k2 hk1 hk2 hm1 hm2
  obtain ⟨k,hk,e1,e2,e3,hc⟩:=T0 hk1
  obtain ⟨k',hk',e1',e2',e3',hc'⟩:=T0 hk2
  rcases hc with ⟨rfl,_⟩|⟨_,_,h⟩
  ·rcases hc' with ⟨rfl,_⟩|⟨_,_,h⟩
   ·exact hH.old id id' _ _ hk hk' hm1 hm2
   ·rw [h] at hm2;cases hm2
  ·rw [h] at hm1;cases hm1
 ·rw [a1L];exact hf
 ·refine ⟨h5.os,h5.tape,h5.output,h5.size,fun b hb _=>hkeep b hb,fun _ _=>rfl,?_,?_,?_,by rw [a1L];exact lbQ _⟩
  ·intro b hb
   rcases h5.mnew b hb with h|h
   ·exact .inl h.1
   ·exact .inr h
  ·intro b hb
   by_cases hx:∃id k cap size,id ∈ fr∧H[id]? =some k∧k.mode=.live∧ι id=some (.blk b cap size)
   ·obtain ⟨id,k,cap,size,n1,n2,n3,n4⟩:=hx
    exact .inr ⟨id,k,cap,size,n2,n3,n4⟩
   ·exact .inl (hold b ⟨hb,hx⟩)
  ·rintro b ⟨id,k',cap,size,hk',hl',hi⟩
   obtain ⟨k,hk,e1,e2,e3,hc⟩:=T0 hk'
   rcases hc with ⟨rfl,_⟩|⟨_,_,h⟩
   ·exact .inl ⟨id,k',cap,size,hk,hl',hi⟩
   ·rw [h] at hl';cases hl'
theorem D5 {len m n b:Nat} {K:Prop} (h1:len<=m) (h2:(len+n)*b<=140737488355328) (k:K):(len<=m∧(len+n)*b<=140737488355328)∧K:=⟨⟨h1,h2⟩,k⟩
theorem b5C {α:Type} {xs:List α} {a b:Nat} {K:Prop} (h:a=b) (k:K):(xs.length=0∨a=b)∧K:=⟨.inr h,k⟩
theorem a7t {rows:List (List T)} {r:List T}:(toC rows).take rows.length++toC [r]=toC (rows++[r]):=by
 rw [lbn (by simp [toC])];simp [toC]
theorem b5f {ops:List Oper} {K:List Oper->Prop} (h:a7o ops=true) (k:K ops):b3F ops K:=⟨⟨none,rfl,h,k⟩⟩
theorem ag6 {ops:List Oper} {K:List Oper->Prop} (π:List Nat) (h:a7o (X6 π ops)=true) (h2:ax4 π ops.length=true) (k:K (X6 π ops)):b3F ops K:=⟨⟨some π,h2,h,k⟩⟩
theorem b6Y {P:Program} {τ:Tab} {env:Env} {H':Hp} {ops:List Oper} {i:Nat} {K:Prop} (h:J7 ops i=true) (h2:Z2 ops i=[]) (k:K):J7 ops i=true∧∃L,Z2 ops i=L∧a2l P τ ops env H' K L:=⟨h,[],h2,k⟩
theorem b4e {P:Program} {τ:Tab} {env:Env} {H':Hp} {ops:List Oper} {i:Nat} {K:Prop} (L:List Nat) (h:J7 ops i=true) (h2:Z2 ops i=L) (k:a2l P τ ops env H' K L):J7 ops i=true∧∃L,Z2 ops i=L∧a2l P τ ops env H' K L:=⟨h,L,h2,k⟩
theorem b0R {s:S} {B:List Blk} {s':S} {K:Prop} (h1:B=[]) (h2:s=s') (k:K):(B=[]∧s=s')∧K:=⟨⟨h1,h2⟩,k⟩
theorem b4n {rl xl sz ds b:Nat} {K:Prop} (h1:0<xl) (h2:sz=ds) (h3:(rl+xl)*b<=140737488355328) (k:K):((rl=0∨(0<xl∧sz=ds))∧(rl+xl)*b<=140737488355328)∧K:=⟨⟨.inr ⟨h1,h2⟩,h3⟩,k⟩
theorem P6 {rl xl sz ds b:Nat} {K:Prop} (h1:rl=0) (h3:(rl+xl)*b<=140737488355328) (k:K):((rl=0∨(0<xl∧sz=ds))∧(rl+xl)*b<=140737488355328)∧K:=⟨⟨.inl h1,h3⟩,k⟩
theorem a7c {α:Type} {xs:List α} {f:α->List T} {n:Int} {k:Nat} {x:α} {K:List T->Prop} (e:n=k) (hx:xs[k]? =some x) (h:K (f x)):∃row,0<=n∧(xs.map f)[n.toNat]? =some row∧K row:=by
 subst e;exact i3 hx h
theorem b90 {a b:Int} {K:Prop} (h:a≠b) (k:K):a≠b∧K:=⟨h,k⟩
theorem aM4 {l h m:Int} {K:Prop} (h1:0<=l) (h2:l<=h) (h3:h<=m) (k:K):(0<=l∧l<=h∧h<=m)∧K:=⟨⟨h1,h2,h3⟩,k⟩
theorem R3 {id len:Nat} {app:Bool} {H1:Hp} {rows:List (List T)} {size:Nat} {k:Blk} (hk:H1[id]? =some k) (hd:¬k.mode.gone) (hs:k.size=size) (hc:k.rows=toC rows) (hl:len=rows.length):
 Fin 0 (.c (.own id 0 len app)) H1 (.c (.t (.sl size .any rows))) []:=s7 (show VC H1 _ _ _ from B7 rfl hk hd hs hc hl)
theorem m8 {ρ:List (Option Nat)} {H:Hp} {id id' len len':Nat} (h:ρ[id']? =some (some id)) (hl:len=len'):a5T ρ H (.c (.own id 0 len true)) (.c (.own id' 0 len' true)):=⟨h,rfl,hl,fun h=>h⟩
theorem i8 (rows:List (List T)):L8 (toC rows):=by
 intro r hr c hc
 obtain ⟨r',_,rfl⟩:=lbx.1 hr
 obtain ⟨c',_,rfl⟩:=lbx.1 hc
 rfl
theorem b8 {ρ:List (Option Nat)} {H:Hp} {k k':Blk} {rows:List (List T)} (h1:a2K k k'=true) (h2:k.elem=k'.elem) (h3:k.size=k'.size) (h4:k.rows=toC rows) (h5:k'.rows=toC rows):a6G ρ H k k':=
 ⟨h1,h2,h3,.inl ⟨h4.trans h5.symm,h4 ▸ i8 rows⟩⟩
theorem b59 {H:Hp} {p:Nat->Prop}:∀ts:List T,VL H p (ts.map C.t) ts
 |[]=>b6X
 |t::r=>a5o (ae6 (a0F t)) (b59 r)
theorem b1y {H:Hp} {p:Nat->Prop} (ts:List T):VS H p (.agg (ts.map C.t)) (.agg (ts.map C.t)):=b9Q (b59 ts)
theorem b3T {H:Hp} {p:Nat->Prop} {x:T}:VS H p (.c (.t x)) (.c (.t x)):=a2N (ae6 (a0F x))
end
section
open Go.RowKit
mutual
def Z8 (σ:List Nat):C->C
 |.t x=>.t x
 |.ptr id r o=>.ptr (σ.getD id 0) r o
 |.own id lo len app=>.own (σ.getD id 0) lo len app
 |.fn f caps=>.fn f (a2b σ caps)
def a2b (σ:List Nat):List C->List C
 |[]=>[]
 |x::r=>Z8 σ x::a2b σ r
end
def a5U (σ:List Nat):S->S
 |.junk=>.junk
 |.c x=>.c (Z8 σ x)
 |.agg cs=>.agg (a2b σ cs)
 |.tup ss=>.tup (ss.map fun s=>match s with
  |.c x=>.c (Z8 σ x)
  |.agg cs=>.agg (a2b σ cs)
  |s=>s)
mutual
def okC (n:Nat):C->Bool
 |.t _=>true
 |.ptr id _ _=>Nat.blt id n
 |.own id _ _ _=>Nat.blt id n
 |.fn _ caps=>okL n caps
def okL (n:Nat):List C->Bool
 |[]=>true
 |x::r=>okC n x && okL n r
end
def okS (n:Nat):S->Bool
 |.junk=>true
 |.c x=>okC n x
 |.agg cs=>okL n cs
 |.tup _=>false
theorem N5 (σ:List Nat):∀l,a2b σ l=l.map (Z8 σ)
 |[]=>by simp [a2b]
 |x::r=>by simp [a2b,N5 σ r]
theorem b1H {n:Nat}:∀{l:List C},okL n l=true->∀c ∈ l,okC n c=true
 |[],_,c,h=>by cases h
 |x::r,h,c,hc=>by
  simp only [okL,lbM] at h
  rcases lbA.1 hc with rfl|hc
  ·exact h.1
  ·exact b1H h.2 c hc
theorem af4 {σ:List Nat} {x:C} (h:x.isT=true):Z8 σ x=x:=by
 cases x<;>first|rfl|cases h
def a09 (σ:List Nat) (ι:Io):Io:=fun id=>(σ[id]?).bind ι
mutual
theorem az2 {w:World} {ι:Io} {M:Ms} {σ:List Nat}:∀(x:C) (v:Value),okC σ.length x=true->RC w ι M (Z8 σ x) v->RC w (a09 σ ι) M x v
 |.t x,v,_,h=>by
  simp only [Z8] at h
  cases h with
  |t h=>exact .t h
 |.ptr id r o,v,hk,h=>by
  simp only [Z8] at h
  have hlt:id<σ.length:=by simpa [okC,Nat.blt_eq] using hk
  have e:a09 σ ι id=ι (σ.getD id 0):=by simp [a09,lbf hlt,lbl]
  cases h with
  |ptr h=>exact .ptr (e.trans h)
 |.own id lo len app,v,hk,h=>by
  simp only [Z8] at h
  have hlt:id<σ.length:=by simpa [okC,Nat.blt_eq] using hk
  have e:a09 σ ι id=ι (σ.getD id 0):=by simp [a09,lbf hlt,lbl]
  cases h with
  |own h h1 h2 h3 h4 h5=>exact .own (e.trans h) h1 h2 h3 h4 h5
  |nil h=>exact .nil (e.trans h)
 |.fn f caps,v,hk,h=>by
  simp only [Z8] at h
  cases h with
  |fn vs hl hr=>
   rw [N5,lbr] at hl
   refine .fn vs hl fun j c hj=>?_
   exact aE1 caps (by simpa [okC] using hk) c (lbm hj) _ (hr j _ (by rw [N5,lba,hj];rfl))
theorem aE1 {w:World} {ι:Io} {M:Ms} {σ:List Nat}:∀(l:List C),okL σ.length l=true->∀c ∈ l,∀v,RC w ι M (Z8 σ c) v->RC w (a09 σ ι) M c v
 |[],_,c,h,_,_=>by cases h
 |x::r,hk,c,hc,v,h=>by
  simp only [okL,lbM] at hk
  rcases lbA.1 hc with hcx|hc
  ·rw [hcx] at h ⊢
   exact az2 x v hk.1 h
  ·exact aE1 r hk.2 c hc v h
end
theorem b7O {w:World} {ι:Io} {M:Ms} {σ:List Nat} {s:S} {v:Value} (hk:okS σ.length s=true) (h:RS w ι M (a5U σ s) v):RS w (a09 σ ι) M s v:=by
 cases s with
 |junk=>exact .junk
 |c x=>cases h with
  |c h=>exact .c (az2 x v hk h)
 |agg cs=>
  have h:RS w ι M (.agg (a2b σ cs)) v:=h
  cases h with
  |agg vs hl hr=>
   rw [N5,lbr] at hl
   refine .agg vs hl fun j c hj=>?_
   exact aE1 cs hk c (lbm hj) _ (hr j _ (by rw [N5,lba,hj];rfl))
 |tup ss=>cases hk
theorem RC.ren {w:World} {ι ι':Io} {M:Ms} {σ:List Nat} (hι:∀id l,ι id=some l->ι' (σ.getD id 0)=some l) {x:C} {v:Value} (h:RC w ι M x v):RC w ι' M (Z8 σ x) v:=by
 induction h with
 |t h=>simp only [Z8];exact .t h
 |ptr h=>simp only [Z8];exact .ptr (hι _ _ h)
 |own h h1 h2 h3 h4 h5=>simp only [Z8];exact .own (hι _ _ h) h1 h2 h3 h4 h5
 |nil h=>simp only [Z8];exact .nil (hι _ _ h)
 |fn vs hl hr ih=>
  simp only [Z8]
  refine .fn vs (by rw [N5,lbr];exact hl) fun j c hj=>?_
  rw [N5,lba] at hj
  obtain ⟨c0,hc0,rfl⟩:=Option.map_eq_some_iff.1 hj
  exact ih j c0 hc0
theorem RS.ren1 {w:World} {ι ι':Io} {M:Ms} {σ:List Nat} (hι:∀id l,ι id=some l->ι' (σ.getD id 0)=some l) {x:List C} {v:Value} (h:RS w ι M (.agg x) v):RS w ι' M (.agg (a2b σ x)) v:=by
 cases h with
 |agg vs hl hr=>
  refine .agg vs (by rw [N5,lbr];exact hl) fun j c hj=>?_
  rw [N5,lba] at hj
  obtain ⟨c0,hc0,rfl⟩:=Option.map_eq_some_iff.1 hj
  exact (hr j c0 hc0).ren hι
def bf3:S->Bool
 |.tup _=>false
 |_=>true
def av2:S->Bool
 |.tup ss=>ss.all bf3
 |_=>true
theorem RS.ren {w:World} {ι ι':Io} {M:Ms} {σ:List Nat} (hι:∀id l,ι id=some l->ι' (σ.getD id 0)=some l) {s:S} {v:Value} (hs:av2 s=true) (h:RS w ι M s v):RS w ι' M (a5U σ s) v:=by
 cases s with
 |junk=>exact .junk
 |c x=>cases h with
  |c h=>exact .c (h.ren hι)
 |agg cs=>exact RS.ren1 hι h
 |tup ss=>
  cases h with
  |tup vs hl hr=>
   refine .tup vs (by simpa using hl) fun j s hj=>?_
   rw [lba] at hj
   obtain ⟨s0,hs0,rfl⟩:=Option.map_eq_some_iff.1 hj
   have h0:=hr j s0 hs0
   have hno:=lbv.1 hs s0 (lbm hs0)
   cases s0 with
   |junk=>exact .junk
   |c x=>cases h0 with
    |c h=>exact .c (h.ren hι)
   |agg cs=>exact RS.ren1 hι h0
   |tup _=>cases hno
def a8k (σ:List Nat) (rows:List (List C)):List (List C):=rows.map (a2b σ)
theorem b4z {σ:List Nat} (rows:List (List T)):a8k σ (toC rows)=toC rows:=by
 unfold a8k toC
 rw [List.map_map]
 apply lbp
 intro r _
 show a2b σ (r.map C.t)=r.map C.t
 rw [N5,List.map_map]
 apply lbp
 intro c _
 simp [Z8]
theorem b26 {σ:List Nat} {rows:List (List C)} {i j:Nat}:at2 (a8k σ rows) i j=(at2 rows i j).map (Z8 σ):=by
 unfold at2 a8k
 rw [lba]
 cases rows[i]? with
 |none=>rfl
 |some r=>simp [N5]
def az5 (σ:List Nat) (k k':Blk):Prop:=k'.mode=k.mode∧k'.elem=k.elem∧k'.size=k.size∧k'.app=k.app∧k'.rows=a8k σ k.rows
theorem E4 {σ:List Nat} {k:Blk} {rows:List (List T)} (h:k.rows=toC rows):az5 σ k k:=⟨rfl,rfl,rfl,rfl,by rw [h,b4z]⟩
theorem b6w {n:Nat}:∀l:List T,okL n (l.map C.t)=true
 |[]=>by simp [okL]
 |x::r=>by simp [okL,okC,b6w r]
theorem a2a {n:Nat} (rows:List (List T)):∀r ∈ toC rows,okL n r=true:=by
 intro r hr
 obtain ⟨r',_,rfl⟩:=lbx.1 hr
 exact b6w r'
theorem N1.ren {w:World} {ι ι':Io} {M:Ms} {σ:List Nat} (hι:∀id l,ι id=some l->ι' (σ.getD id 0)=some l) {k k':Blk} (hk:az5 σ k k') {l:Loc} (h:N1 w ι M k l):N1 w ι' M k' l:=by
 obtain ⟨e1,e2,e3,e4,e5⟩:=hk
 cases l with
 |nil=>
  have h:k.rows=[]:=h
  show k'.rows=[]
  rw [e5,h];rfl
 |blk b cap size=>
  obtain ⟨q1,q2,q3,q4,q5,cur,q6,q7,q8⟩:=h
  refine ⟨by rw [e3];exact q1,q2,by rw [e5];simpa [a8k] using q3,q4,?_,cur,by rw [e2];exact q6,q7,fun i j c hc=>?_⟩
  ·intro r hr
   rw [e5] at hr
   obtain ⟨r0,h0,rfl⟩:=lbx.1 hr
   rw [N5,lbr]
   exact q5 r0 h0
  ·rw [e5,b26] at hc
   obtain ⟨c0,hc0,rfl⟩:=Option.map_eq_some_iff.1 hc
   obtain ⟨u,h1,h2⟩:=q8 i j c0 hc0
   exact ⟨u,h1,h2.ren hι⟩
theorem N1.ren_in {w:World} {ι:Io} {M:Ms} {σ:List Nat} {k k':Blk} (hk:az5 σ k k') (hok:∀r ∈ k.rows,okL σ.length r=true) {l:Loc} (h:N1 w ι M k' l):N1 w (a09 σ ι) M k l:=by
 obtain ⟨e1,e2,e3,e4,e5⟩:=hk
 cases l with
 |nil=>
  have h:k'.rows=[]:=h
  show k.rows=[]
  rw [e5] at h
  simpa [a8k] using h
 |blk b cap size=>
  obtain ⟨q1,q2,q3,q4,q5,cur,q6,q7,q8⟩:=h
  refine ⟨by rw [← e3];exact q1,q2,by rw [e5] at q3;simpa [a8k] using q3,q4,?_,cur,by rw [← e2];exact q6,q7,fun i j c hc=>?_⟩
  ·intro r hr
   have:=q5 (a2b σ r) (by rw [e5];exact lbx.2 ⟨r,hr,rfl⟩)
   rw [N5,lbr] at this
   exact this
  ·obtain ⟨u,h1,h2⟩:=q8 i j (Z8 σ c) (by rw [e5,b26,hc];rfl)
   obtain ⟨row,r1,r2⟩:=F4 hc
   exact ⟨u,h1,az2 c u (b1H (hok row (lbm r1)) c (lbm r2)) h2⟩
def a3S (σ:List Nat) (n m:Nat):List Nat:=σ++(List.range m).map (n+·)
theorem L6 {P:Program} {g:FuncId} {args args':List S} {H H' Hs Hs':Hp} {r r':S} (σ:List Nat) (h:b9 P g args Hs r Hs')
 (hargs:args'=args.map (a5U σ)) (hok:args.all (okS σ.length)=true) (hσl:σ.length=Hs.length) (hσn:σ.Nodup)
 (hin:∀i k,Hs[i]? =some k->k.mode=.live∧k.app=false∧(∀ r ∈ k.rows,okL σ.length r=true)∧∃k',H[σ.getD i 0]? =some k'∧az5 σ k k')
 (hno:∀k ∈ Hs',k.mode≠.old) (hlen:Hs.length<=Hs'.length)
 (hr:av2 r=true) (hr':r'=a5U (a3S σ H.length (Hs'.length - Hs.length)) r)
 (hl':H'.length=H.length+(Hs'.length - Hs.length)) (hout:∀i k,Hs'[i]? =some k->∃k',H'[(a3S σ H.length (Hs'.length - Hs.length)).getD i 0]? =some k'∧az5 (a3S σ H.length (Hs'.length - Hs.length)) k k')
 (hrest:∀j,j<H.length->j ∉ σ->H'[j]? =H[j]?):b9 P g args' H r' H':=by
 refine ⟨h.1,fun w ι M vals hl hv hH hM hF=>?_⟩
 subst hargs
 have hσlt:∀i,i<σ.length->σ.getD i 0<H.length:=fun i hi=>by
  obtain ⟨_,_,_,k',hk',_⟩:=hin i Hs[i] (lbf (by omega))
  exact (lbe.1 hk').1
 have hsub:∀i,i<σ.length->a09 σ ι i=ι (σ.getD i 0):=fun i hi=>by simp [a09,lbf hi,lbl]
 have hsubn:∀i,σ.length<=i->a09 σ ι i=none:=fun i hi=>by simp [a09,lbd hi]
 have hget:∀i k,Hs[i]? =some k->i<σ.length:=fun i k hk=>by rw [hσl];exact (lbe.1 hk).1
 have hHs:p9 w (a09 σ ι) M Hs:=by
  refine ⟨?_,?_,?_,?_,?_⟩
  ·intro id k hk hd l hl
   obtain ⟨h1,h2,h3,k',hk',hren⟩:=hin id k hk
   rw [hsub id (hget id k hk)] at hl
   exact (hH.blk _ k' hk' (by rw [hren.1];exact hd) l hl).ren_in hren h3
  ·intro id k hk hm b cap size hl
   obtain ⟨h1,h2,h3,k',hk',hren⟩:=hin id k hk
   rw [hsub id (hget id k hk)] at hl
   exact hH.liv _ k' hk' (by rw [hren.1];exact hm) b cap size hl
  ·intro id k hk hm
   obtain ⟨h1,h2,h3,k',hk',hren⟩:=hin id k hk
   rw [h1] at hm;cases hm
  ·intro id id' k k2 hk hk2 hm hm2 b cap size cap' size' hl hl2
   obtain ⟨h1,h2,h3,k',hk',hren⟩:=hin id k hk
   obtain ⟨h1',h2',h3',k2',hk2',hren2⟩:=hin id' k2 hk2
   rw [hsub id (hget id k hk)] at hl
   rw [hsub id' (hget id' k2 hk2)] at hl2
   have:=hH.inj _ _ k' k2' hk' hk2' (by rw [hren.1];exact hm) (by rw [hren2.1];exact hm2) _ _ _ _ _ hl hl2
   have hi:=hget id k hk
   have hi':=hget id' k2 hk2
   rw [lbl,lbl,lbf hi,lbf hi'] at this
   simp only [Option.getD_some] at this
   have hp:=List.pairwise_iff_getElem.1 hσn
   rcases Nat.lt_trichotomy id id' with hlt|heq|hgt
   ·exact absurd this (hp id id' hi hi' hlt)
   ·exact heq
   ·exact absurd this.symm (hp id' id hi' hi hgt)
  ·intro id id' k k2 hk hk2 hm
   obtain ⟨h1,_⟩:=hin id k hk
   rw [h1] at hm;cases hm
 have hlive:∀b,a34 (a09 σ ι) Hs b->∃i k,i<σ.length∧H[σ.getD i 0]? =some k∧k.mode=.live∧k.app=false∧∃cap size,ι (σ.getD i 0)=some (.blk b cap size):=by
  rintro b ⟨i,k,cap,size,hk,hm,hi⟩
  obtain ⟨h1,h2,h3,k',hk',hren⟩:=hin i k hk
  rw [hsub i (hget i k hk)] at hi
  exact ⟨i,k',hget i k hk,hk',by rw [hren.1];exact h1,by rw [hren.2.2.2.1];exact h2,cap,size,hi⟩
 have hliveH:∀b,a34 (a09 σ ι) Hs b->a34 ι H b:=fun b hb=>by
  obtain ⟨i,k,_,hk,hm,_,cap,size,hi⟩:=hlive b hb
  exact ⟨_,k,cap,size,hk,hm,hi⟩
 have hvals:∀j s,args[j]? =some s->RS w (a09 σ ι) M s (vals.getD j undef):=fun j s hj=>
  b7O (lbv.1 hok s (lbm hj)) (hv j _ (by rw [lba,hj];rfl))
 have hcall:=h.2 w (a09 σ ι) M vals (by simpa using hl) hvals hHs hM (fun id hid=>hsubn id (by omega))
 refine Calls.mono hcall ?_
 rintro e w' ⟨v,rfl,ι',M',h1,h2,h3,h4,h5⟩
 refine ⟨v,rfl,?_⟩
 generalize hm:Hs'.length - Hs.length=m at *
 let σ':=a3S σ H.length m
 let ι2:Io:=fun j=>if j<H.length then ι j else ι' (Hs.length+(j - H.length))
 have hσ'l:σ'.length=Hs'.length:=by simp [σ',a3S];omega
 have hσ'1:∀i,i<σ.length->σ'.getD i 0=σ.getD i 0:=fun i hi=>by
  simp only [σ',a3S,lbl,lbb hi]
 have hσ'2:∀i,σ.length<=i->i<Hs'.length->σ'.getD i 0=H.length+(i - σ.length):=fun i hi hi'=>by
  simp only [σ',a3S,lbl]
  rw [lbc hi,lba,lbh (by omega)]
  rfl
 have hι2:∀id l,ι' id=some l->ι2 (σ'.getD id 0)=some l:=fun id l hid=>by
  have hidl:id<Hs'.length:=by
   rcases Nat.lt_or_ge id Hs'.length with h|h
   ·exact h
   ·rw [h4 id h] at hid;cases hid
  show (if _ then _ else _)=_
  by_cases hlt:id<σ.length
  ·rw [hσ'1 id hlt,if_pos (hσlt id hlt),←hsub id hlt,←h5.same id (by omega)]
   exact hid
  ·rw [hσ'2 id (by omega) hidl,if_neg (by omega),show Hs.length+(H.length+(id - σ.length) - H.length)=id by omega]
   exact hid
 have hkeepM:∀b,b<w.heap.size->¬M b->w'.heap[b]? =w.heap[b]?:=fun b hb hnm=>h5.keep b hb fun hl=>hnm (a34.inM hHs hl)
 have hιext:∀id l,ι id=some l->ι2 id=some l:=fun id l hid=>by
  show (if _ then _ else _)=_
  rw [if_pos]
  ·exact hid
  ·rcases Nat.lt_or_ge id H.length with h|h
   ·exact h
   ·rw [hF id h] at hid;cases hid
 -- what lies at a place
 have hcase:∀j k',H'[j]? =some k'->(j<H.length∧j ∉ σ∧H[j]? =some k')∨∃i k,Hs'[i]? =some k∧σ'.getD i 0=j∧az5 σ' k k'∧ι2 j=ι' i:=fun j k' hj=>by
  have hjl:=(lbe.1 hj).1
  have fromI:∀i,i<Hs'.length->σ'.getD i 0=j->∃i k,Hs'[i]? =some k∧σ'.getD i 0=j∧az5 σ' k k'∧ι2 j=ι' i:=fun i hi hij=>by
   obtain ⟨k2,hk2,hren⟩:=hout i Hs'[i] (lbf hi)
   have hk2':H'[j]? =some k2:=by rw [← hij];exact hk2
   rw [hj] at hk2'
   injection hk2' with hk2'
   subst hk2'
   refine ⟨i,_,lbf hi,hij,hren,?_⟩
   show (if _ then _ else _)=_
   by_cases hlt:i<σ.length
   ·rw [← hij,hσ'1 i hlt,if_pos (hσlt i hlt),←hsub i hlt,←h5.same i (by omega)]
   ·rw [← hij,hσ'2 i (by omega) hi,if_neg (by omega),show Hs.length+(H.length+(i - σ.length) - H.length)=i by omega]
  by_cases hlt:j<H.length
  ·by_cases hmem:j ∈ σ
   ·obtain ⟨i,hi⟩:=List.mem_iff_getElem?.1 hmem
    have hil:=(lbe.1 hi).1
    refine .inr (fromI i (by omega) ?_)
    rw [hσ'1 i hil,lbl,hi];rfl
   ·rw [hrest j hlt hmem] at hj
    exact .inl ⟨hlt,hmem,hj⟩
  ·refine .inr (fromI (σ.length+(j - H.length)) (by omega) ?_)
   rw [hσ'2 _ (by omega) (by omega)];omega
 have hold2:∀j,j<H.length->ι2 j=ι j:=fun j hj=>by show (if _ then _ else _)=_;rw [if_pos hj]
 have hmodeOut:∀j k',j<H.length->j ∉ σ->H[j]? =some k'->k'.mode=.live->∀b cap size,ι j=some (.blk b cap size)->¬a34 (a09 σ ι) Hs b:=fun j k' hjl hjn hk' hm' b cap size hi hb=>by
  obtain ⟨i,k,hil,hk,hkm,_,c,s,hi2⟩:=hlive b hb
  have:=hH.inj j _ k' k hk' hk hm' hkm _ _ _ _ _ hi hi2
  apply hjn
  rw [this,lbl,lbf hil]
  exact lbE hil
 refine ⟨ι2,M',?_,⟨?_,?_,?_,?_,?_⟩,h3,?_,?_⟩
 ·rw [hr']
  exact h1.ren hι2 hr
 ·intro j k' hj hd l hl2
  rcases hcase j k' hj with ⟨hjl,hjn,hk'⟩|⟨i,k,hk,hij,hren,hιj⟩
  ·rw [hold2 j hjl] at hl2
   have hb:=hH.blk j k' hk' hd l hl2
   cases l with
   |nil=>exact hb
   |blk b cap size=>
    obtain ⟨q1,q2,q3,q4,q5,cur,q6,q7,q8⟩:=hb
    have hnl:¬a34 (a09 σ ι) Hs b:=by
     intro hb
     cases hm':k'.mode with
     |live=>exact hmodeOut j k' hjl hjn hk' hm' b cap size hl2 hb
     |froz=>exact hH.fro j k' hk' hm' _ _ _ hl2 (a34.inM hHs hb)
     |old=>
      obtain ⟨i,k,hil,hk,hkm,hka,c,s,hi2⟩:=hlive b hb
      have:=(hH.old j _ k' k hk' hk hm' hkm _ _ _ _ _ hl2 hi2).1
      rw [hka] at this;cases this
     |dead=>exact hd hm'
    refine ⟨q1,q2,q3,q4,q5,cur,(h5.keep b (v6 q6) hnl).trans q6,q7,fun i j c hc=>?_⟩
    obtain ⟨u,r1,r2⟩:=q8 i j c hc
    exact ⟨u,r1,r2.keep hkeepM h5.mnew hιext⟩
  ·rw [hιj] at hl2
   exact (h2.blk i k hk (by rw [← hren.1];exact hd) l hl2).ren hι2 hren
 ·intro j k' hj hm' b cap size hi
  rcases hcase j k' hj with ⟨hjl,hjn,hk'⟩|⟨i,k,hk,hij,hren,hιj⟩
  ·rw [hold2 j hjl] at hi
   rcases h5.mold b (hH.liv j k' hk' hm' b cap size hi) with h|h
   ·exact h
   ·exact absurd h (hmodeOut j k' hjl hjn hk' hm' b cap size hi)
  ·rw [hιj] at hi
   exact h2.liv i k hk (by rw [← hren.1];exact hm') b cap size hi
 ·intro j k' hj hm' b cap size hi hb
  rcases hcase j k' hj with ⟨hjl,hjn,hk'⟩|⟨i,k,hk,hij,hren,hιj⟩
  ·rw [hold2 j hjl] at hi
   have hlt:b<w.heap.size:=by
    obtain ⟨_,_,_,_,_,cur,q6,_⟩:=hH.blk j k' hk' (by rw [hm'];intro h;cases h) _ hi
    exact v6 q6
   rcases h5.mnew b hb with h|h
   ·exact hH.fro j k' hk' hm' b cap size hi h
   ·omega
  ·rw [hιj] at hi
   exact h2.fro i k hk (by rw [← hren.1];exact hm') b cap size hi hb
 ·have cross:∀j j' k' i k,j<H.length->j ∉ σ->H[j]? =some k'->k'.mode=.live->Hs'[i]? =some k->k.mode=.live->∀b cap size cap' size',ι j=some (.blk b cap size)->ι' i=some (.blk b cap' size')->j=j':=by
   intro j j' k' i k hjl hjn hk' hm' hk hkm b cap size cap' size' hi hi'
   have hlt:b<w.heap.size:=by
    obtain ⟨_,_,_,_,_,cur,q6,_⟩:=hH.blk j k' hk' (by rw [hm'];intro h;cases h) _ hi
    exact v6 q6
   rcases h5.live b ⟨i,k,cap',size',hk,hkm,hi'⟩ with h|h
   ·exact absurd h (hmodeOut j k' hjl hjn hk' hm' b cap size hi)
   ·omega
  intro j j' k1 k2 hj hj' hm1 hm2 b cap size cap' size' hi hi'
  rcases hcase j k1 hj with ⟨hjl,hjn,hk1⟩|⟨i,k,hk,hij,hren,hιj⟩<;>rcases hcase j' k2 hj' with ⟨hjl',hjn',hk2⟩|⟨i',k0,hk0,hij',hren',hιj'⟩
  ·rw [hold2 j hjl] at hi
   rw [hold2 j' hjl'] at hi'
   exact hH.inj j j' k1 k2 hk1 hk2 hm1 hm2 _ _ _ _ _ hi hi'
  ·rw [hold2 j hjl] at hi
   rw [hιj'] at hi'
   exact cross j j' k1 i' k0 hjl hjn hk1 hm1 hk0 (by rw [← hren'.1];exact hm2) _ _ _ _ _ hi hi'
  ·rw [hιj] at hi
   rw [hold2 j' hjl'] at hi'
   exact (cross j' j k2 i k hjl' hjn' hk2 hm2 hk (by rw [← hren.1];exact hm1) _ _ _ _ _ hi' hi).symm
  ·rw [hιj] at hi
   rw [hιj'] at hi'
   have:=h2.inj i i' k k0 hk hk0 (by rw [← hren.1];exact hm1) (by rw [← hren'.1];exact hm2) _ _ _ _ _ hi hi'
   rw [← hij,←hij',this]
 ·intro j j' k1 k2 hj hj' hm1 hm2 b cap size cap' size' hi hi'
  rcases hcase j k1 hj with ⟨hjl,hjn,hk1⟩|⟨i,k,hk,hij,hren,hιj⟩
  ·rw [hold2 j hjl] at hi
   have hlt:b<w.heap.size:=by
    obtain ⟨_,_,_,_,_,cur,q6,_⟩:=hH.blk j k1 hk1 (by rw [hm1];intro h;cases h) _ hi
    exact v6 q6
   rcases hcase j' k2 hj' with ⟨hjl',hjn',hk2⟩|⟨i',k0,hk0,hij',hren',hιj'⟩
   ·rw [hold2 j' hjl'] at hi'
    exact hH.old j j' k1 k2 hk1 hk2 hm1 hm2 _ _ _ _ _ hi hi'
   ·rw [hιj'] at hi'
    rcases h5.live b ⟨i',k0,cap',size',hk0,by rw [← hren'.1];exact hm2,hi'⟩ with h|h
    ·obtain ⟨i,k,hil,hk,hkm,hka,c,s,hi2⟩:=hlive b h
     have:=(hH.old j _ k1 k hk1 hk hm1 hkm _ _ _ _ _ hi hi2).1
     rw [hka] at this;cases this
    ·omega
  ·have:k.mode=.old:=by rw [← hren.1];exact hm1
   exact absurd this (hno k (lbm hk))
 ·intro id hid
  show (if _ then _ else _)=_
  rw [if_neg (by omega)]
  exact h4 _ (by omega)
 ·refine ⟨h5.os,h5.tape,h5.output,h5.size,fun b hb hnl=>h5.keep b hb fun hl=>hnl (hliveH b hl),fun id hid=>hold2 id hid,h5.mnew,fun b hb=>?_,?_,by omega⟩
  ·rcases h5.mold b hb with h|h
   ·exact .inl h
   ·exact .inr (hliveH b h)
  ·rintro b ⟨j,k',cap,size,hj,hm',hi⟩
   rcases hcase j k' hj with ⟨hjl,hjn,hk'⟩|⟨i,k,hk,hij,hren,hιj⟩
   ·rw [hold2 j hjl] at hi
    exact .inl ⟨j,k',cap,size,hk',hm',hi⟩
   ·rw [hιj] at hi
    rcases h5.live b ⟨i,k,cap,size,hk,by rw [← hren.1];exact hm',hi⟩ with h|h
    ·exact .inl (hliveH b h)
    ·exact .inr h
theorem w5 {P:Program} {τ:Tab} (hτ:D3 P τ) {n0:Nat} {c:Code} {env:Env} {H:Hp} {Q:AX->Env->Hp->Prop} {σ:Type} (E:σ->Env × Hp) (I:σ->Prop) (μ:σ->Nat) (x0:σ) (ρ0:List (Option Nat))
 (hI:I x0) (h0:Ent n0 ρ0 env H (E x0).1 (E x0).2)
 (round:∀x,I x->a4P P τ n0 c (E x).1 (E x).2 fun a env' H'=>match a with
   |.normal=>∃ρ x',Ent n0 ρ env' H' (E x').1 (E x').2∧I x'∧μ x'<μ x
   |a=>Q a env' H'):Awp P n0 (.loop c) env H Q:=by
 refine a7R (σ:={ x:σ // I x }) (fun x=>E x.1) (fun x=>μ x.1) ⟨x0,hI⟩ ρ0 h0 ?_
 rintro ⟨x,hx⟩
 refine (y3 hτ c (round x hx)).mono ?_
 intro a env' H' h
 cases a with
 |normal=>
  obtain ⟨ρ,x',h1,h2,h3⟩:=h
  exact ⟨ρ,⟨x',h2⟩,h1,h3⟩
 |exit id=>exact h
 |ret=>exact h
theorem L0 {x y:Int} (h:x=y) (h1:-9223372036854775808<=y) (h2:y<=9223372036854775807):J0 .i64 x y:=by subst h;exact a41 h1 h2
end
section
open Go.RowKit
section
variable {α β:Type}
theorem a9A {l:List α}:∀{i:Nat} {x:α} {k:α->Prop},l[i]? =some x->k x->a3q i l k:=by
 induction l with
 |nil=>intro i x k h;simp at h
 |cons a r ih=>
  intro i x k h hk
  cases i with
  |zero=>simp at h;subst h;exact hk
  |succ i=>exact ih (by simpa using h) hk
theorem aC5 {v:α} {l:List α} {i:Nat} {k:List α->Prop} (h:k (l.set i v)):a5O i v l k:=M5.2 h
theorem a3B {r l:List α} {k:List α->Prop} (h:k (l++r)):ae7 l r k:=a3j.2 h
theorem I2 {l:List α} {k:List α->Prop} (h:k l):ae7 l [] k:=a3B (by rw [List.append_nil];exact h)
theorem b0O {l:List α} {n:Nat} {k:Nat->Prop} (h:k (l.length+n)):a9t l n k:=a0Z.2 (by rw [Nat.add_comm];exact h)
theorem a52 {f:β->α} {M:List β} {N n:Nat} {k:Nat->Prop} (h:M.length=N) (hk:k (N+n)):a9t (M.map f) n k:=b0O (by simpa [h] using hk)
theorem p6 {f:β->α} {M:List β} {T:List α} {N n:Nat} {k:Nat->Prop} (h:M.length=N) (hk:a9t T n fun m=>k (N+m)):a9t (M.map f++T) n k:=by
 refine b0O ?_
 have:=(a0Z (k:=fun m=>k (N+m))).1 hk
 simpa [h,Nat.add_assoc,Nat.add_comm n] using this
theorem m9 {f:β->α} {M:List β} {T r:List α} {k:List α->Prop} (h:ae7 T r fun q=>k (M.map f++q)):ae7 (M.map f++T) r k:=by
 refine a3B ?_
 rw [lbD]
 exact (a3j (k:=fun q=>k (M.map f++q))).1 h
theorem aK6 {f:β->α} {M:List β} {i:Nat} {x:β} {k:α->Prop} (h:M[i]? =some x) (hk:k (f x)):a3q i (M.map f) k:=a9A (by rw [lba,h];rfl) hk
theorem Y7 {f:β->α} {M:List β} {T:List α} {i:Nat} {x:β} {k:α->Prop} (h:M[i]? =some x) (hk:k (f x)):a3q i (M.map f++T) k:=
 a9A (by rw [lbb (by simpa using (lbe.1 h).1),lba,h];rfl) hk
theorem j6 {f:β->α} {M:List β} {T:List α} {N t:Nat} {k:α->Prop} (h:M.length=N) (hk:a3q t T k):a3q (N+t) (M.map f++T) k:=by
 obtain ⟨x,h1,h2⟩:=O1 hk
 exact a9A (by rw [lbc (by simp [h])];simpa [h] using h1) h2
theorem G2 {f:β->α} {M:List β} {T:List α} {N:Nat} {k:α->Prop} (h:M.length=N) (hk:a3q 0 T k):a3q N (M.map f++T) k:=j6 (t:=0) h hk
theorem ar2 {f:β->α} {M:List β} {T:List α} {i:Nat} {v:α} {x:β} {k:List α->Prop} (hi:i<M.length) (hv:v=f x) (h:k ((M.set i x).map f++T)):a5O i v (M.map f++T) k:=
 aC5 (by rw [List.set_append_left _ _ (by simpa using hi),hv,←List.map_set];exact h)
theorem k5 {f:β->α} {M:List β} {T:List α} {N t:Nat} {v:α} {k:List α->Prop} (h:M.length=N) (hk:a5O t v T fun q=>k (M.map f++q)):a5O (N+t) v (M.map f++T) k:=by
 refine aC5 ?_
 rw [List.set_append_right _ _ (by simp [h])]
 simpa [h] using (M5 (k:=fun q=>k (M.map f++q))).1 hk
theorem a7Z {f:β->α} {M:List β} {T:List α} {N:Nat} {v:α} {k:List α->Prop} (h:M.length=N) (hk:a5O 0 v T fun q=>k (M.map f++q)):a5O N v (M.map f++T) k:=k5 (t:=0) h hk
end
def idR (n:Nat):List (Option Nat):=(List.range n).map some
theorem b2s (n:Nat):(idR n).length=n:=by simp [idR]
theorem s8 {n i:Nat} (h:i<n):(idR n)[i]? =some (some i):=by simp [idR,h]
theorem b2m {n i j:Nat} (h:(idR n)[i]? =some (some j)):i=j:=by
 obtain ⟨h1,h2⟩:=lbe.1 h
 simp [idR] at h2
 exact h2
theorem a8H {n:Nat}:∀{m:Nat},m<=n->a1X (idR n) m=true
 |0,_=>rfl
 |m+1,h=>by
  unfold a1X
  rw [s8 (by omega),a8H (by omega)]
  simp
theorem aH9:∀{r:List (Option Nat)} {H:Hp} {n:Nat},(∀ j:Nat,r[j]?≠some (some n))->a54 n r H=false
 |[],H,n,_=>by cases H<;>rfl
 |x::r,[],n,_=>by cases x<;>rfl
 |x::r,k::H,n,h=>by
  unfold a54
  rw [aH9 (r:=r) (H:=H) (n:=n) (fun j=>by simpa using h (j+1)),Bool.or_false]
  split
  ·rfl
  ·rename_i m _
   have:m≠n:=by rintro rfl;exact h 0 rfl
   cases hb:Nat.beq m n with
   |false=>rfl
   |true=>exact absurd (Nat.eq_of_beq_eq_true hb) this
  ·rfl
theorem a1y:∀{r:List (Option Nat)} {H:Hp},(∀ i j n:Nat,r[i]? =some (some n)->r[j]? =some (some n)->i=j)->S7 r H=true
 |[],H,_=>by cases H<;>rfl
 |x::r,[],_=>by cases x<;>rfl
 |none::r,k::H,h=>a1y (r:=r) fun i j n h1 h2=>by have:=h (i+1) (j+1) n (by simpa using h1) (by simpa using h2);omega
 |some n::r,k::H,h=>by
  unfold S7
  rw [a1y (r:=r) (H:=H) fun i j n h1 h2=>by have:=h (i+1) (j+1) n (by simpa using h1) (by simpa using h2);omega]
  rw [aH9 (r:=r) (n:=n) (fun j hj=>by have:=h 0 (j+1) n rfl (by simpa using hj);omega)]
  cases k.mode<;>rfl
theorem ao8 {n:Nat} {H:Hp}:S7 (idR n) H=true:=a1y fun i j n h1 h2=>by rw [b2m h1,b2m h2]
theorem a5I {ρ:List (Option Nat)} {H:Hp}:∀{r:List (Option Nat)} {H':Hp},r.length=H'.length->(∀ (i:Nat) (k':Blk),H'[i]? =some k'->∃(j:Nat) (k:Blk),r[i]? =some (some j)∧H[j]? =some k∧a6G ρ H k k')->a3i ρ H r H'
 |[],[],_,_=>trivial
 |[],_::_,h,_=>by simp at h
 |_::_,[],h,_=>by simp at h
 |x::r,k'::H',hl,h=>by
  obtain ⟨j,k,h1,h2,h3⟩:=h 0 k' rfl
  simp at h1
  subst h1
  refine ⟨?_,a5I (by simpa using hl) fun i k1 hk=>by simpa using h (i+1) k1 (by simpa using hk)⟩
  simp only [h2]
  exact h3
theorem aq0 {n:Nat} {H:Hp}:∀{l:List C},(∀ c ∈ l,match c with|.t _=>True|.ptr id _ _=>id<n|.own id _ _ _=>id<n|.fn _ _=>False)->a3I (idR n) H l l
 |[],_=>trivial
 |c::r,h=>by
  refine ⟨?_,aq0 fun c hc=>h c (by simp [hc])⟩
  have h0:=h c (by simp)
  cases c with
  |t x=>exact a0F x
  |ptr id r o=>exact ⟨s8 h0,rfl,rfl⟩
  |own id lo len app=>exact ⟨s8 h0,rfl,rfl,fun h=>h⟩
  |fn f caps=>exact h0.elim
def okB (n:Nat) (k:Blk):Prop:=∀r ∈ k.rows,∀c ∈ r,match c with|.t _=>True|.ptr id _ _=>id<n|.own id _ _ _=>id<n|.fn _ _=>False
theorem I6 {n:Nat} {k:Blk} {rows:List (List T)} (h:k.rows=toC rows):okB n k:=by
 intro r hr c hc
 rw [h] at hr
 obtain ⟨r0,_,rfl⟩:=lbx.1 hr
 obtain ⟨t,_,rfl⟩:=lbx.1 hc
 trivial
theorem au9 {n:Nat} {H:Hp}:∀{l:List (List C)},(∀ r ∈ l,∀c ∈ r,match c with|.t _=>True|.ptr id _ _=>id<n|.own id _ _ _=>id<n|.fn _ _=>False)->a4s (idR n) H l l
 |[],_=>trivial
 |r::l,h=>⟨aq0 (h r (by simp)),au9 fun r hr=>h r (by simp [hr])⟩
theorem ap4 {n:Nat} {H:Hp} {k:Blk} (h:okB n k):a6G (idR n) H k k:=⟨by unfold a2K;cases k.mode<;>simp,rfl,rfl,.inr (au9 h)⟩
theorem aj3 {ρ:List (Option Nat)} {H:Hp}:∀{xs ys:List (List C)},xs.length=ys.length->(∀ (i:Nat) (x y:List C),xs[i]? =some x->ys[i]? =some y->a3I ρ H x y)->a4s ρ H xs ys
 |[],[],_,_=>trivial
 |[],_::_,h,_=>by simp at h
 |_::_,[],h,_=>by simp at h
 |x::xs,y::ys,h,hh=>⟨hh 0 x y rfl rfl,aj3 (by simpa using h) fun i a b ha hb=>hh (i+1) a b (by simpa using ha) (by simpa using hb)⟩
theorem a8g {n0 n:Nat} {env env':Env} {H H':Hp} (hn:H'.length=n) (h0:n0<=n) (hok:∀k ∈ H',okB n k) (hH:∀i,i<n->H[i]? =H'[i]?) (hE:a19 (idR n) H env env'):Ent n0 (idR n) env H env' H':=
 ⟨a8H h0,ao8,a5I (by rw [b2s,hn]) fun i k' hk=>by
   have hi:i<n:=by rw [← hn];exact (lbe.1 hk).1
   exact ⟨i,k',s8 hi,by rw [hH i hi];exact hk,ap4 (hok k' (lbm hk))⟩,hE⟩
theorem aW9 {n0 n:Nat} {env env':Env} {H' T:Hp} (hn:H'.length=n) (h0:n0<=n) (hok:∀k ∈ H',okB n k) (hE:a19 (idR n) (H'++T) env env'):Ent n0 (idR n) env (H'++T) env' H':=
 a8g hn h0 hok (fun i hi=>by rw [lbb (by omega)]) hE
theorem aw5 {n0 n:Nat} {r s:S} {H H':Hp} (hn:H'.length=n) (h0:n0<=n) (hok:∀k ∈ H',okB n k) (hH:∀i,i<n->H[i]? =H'[i]?) (hE:a9p (idR n) H r s):Fin n0 r H s H':=
 ⟨idR n,a8H h0,ao8,a5I (by rw [b2s,hn]) fun i k' hk=>by
   have hi:i<n:=by rw [← hn];exact (lbe.1 hk).1
   exact ⟨i,k',s8 hi,by rw [hH i hi];exact hk,ap4 (hok k' (lbm hk))⟩,hE⟩
theorem a3X {n i:Nat} (h:i<n):(List.range n).getD i 0=i:=by simp [h]
mutual
theorem a9T {n:Nat}:∀c:C,okC n c=true->Z8 (List.range n) c=c
 |.t x,_=>by simp [Z8]
 |.ptr id r o,h=>by simp only [Z8];rw [a3X (by simpa [okC] using h)]
 |.own id lo len app,h=>by simp only [Z8];rw [a3X (by simpa [okC] using h)]
 |.fn f caps,h=>by simp only [Z8];rw [a3t caps (by simpa [okC] using h)]
theorem a3t {n:Nat}:∀l:List C,okL n l=true->a2b (List.range n) l=l
 |[],_=>by simp [a2b]
 |c::r,h=>by
  simp only [okL,lbM] at h
  simp only [a2b]
  rw [a9T c h.1,a3t r h.2]
end
theorem b0i {n:Nat} {s:S} (h:okS n s=true):a5U (List.range n) s=s:=by
 cases s with
 |junk=>rfl
 |c x=>simp only [a5U];rw [a9T x h]
 |agg cs=>simp only [a5U];rw [a3t cs h]
 |tup ss=>simp [okS] at h
theorem aV6 {n:Nat}:∀{l:List C},(∀ c ∈ l,match c with|.t _=>True|.ptr id _ _=>id<n|.own id _ _ _=>id<n|.fn _ _=>False)->okL n l=true
 |[],_=>by simp [okL]
 |c::r,h=>by
  simp only [okL,lbM]
  refine ⟨?_,aV6 fun c hc=>h c (by simp [hc])⟩
  have h0:=h c (by simp)
  cases c with
  |t x=>simp [okC]
  |ptr id r o=>simp only [okC];exact Nat.blt_eq ▸ h0
  |own id lo len app=>simp only [okC];exact Nat.blt_eq ▸ h0
  |fn f caps=>exact h0.elim
theorem a9U {n:Nat} {k:Blk} (h:okB n k):az5 (List.range n) k k:=by
 refine ⟨rfl,rfl,rfl,rfl,?_⟩
 unfold a8k
 rw [lbp (g:=id) fun r hr=>a3t r (aV6 (h r hr))]
 simp
theorem aG6 {σ:List Nat} {l:List C} (h:l.all C.isT=true):a2b σ l=l:=by
 rw [N5]
 conv=>rhs;rw [← List.map_id l]
 exact lbp fun c hc=>af4 (lbv.1 h c hc)
theorem a97 {P:Program} {g:FuncId} {args:List S} {Hs Hs':Hp} {r:S} {n:Nat} (T:Hp) (h:b9 P g args Hs r Hs') (hn:Hs.length=n) (hn':Hs'.length=n) (hok:args.all (okS n)=true)
 (hin:∀k ∈ Hs,k.mode=.live∧k.app=false∧okB n k) (hout:∀k ∈ Hs',k.mode≠.old∧okB n k) (hr:av2 r=true) (hr':r.isT=true):b9 P g args (Hs++T) r (Hs'++T):=by
 have e0:Hs'.length - Hs.length=0:=by omega
 have ex:∀m,a3S (List.range n) m (Hs'.length - Hs.length)=List.range n:=fun m=>by rw [e0];simp [a3S]
 have hargs:args=args.map (a5U (List.range n)):=by
  conv=>lhs;rw [← List.map_id args]
  exact lbp fun s hs=>(b0i (lbv.1 hok s hs)).symm
 refine L6 (List.range n) h hargs (by simpa using hok) (by simp [hn]) List.nodup_range ?_ (fun k hk=>(hout k hk).1) (by omega) hr ?_ (by simp;omega) ?_ ?_
 ·intro i k hk
  have hi:i<n:=by rw [← hn];exact (lbe.1 hk).1
  obtain ⟨h1,h2,h3⟩:=hin k (lbm hk)
  refine ⟨h1,h2,fun r hr=>by rw [List.length_range];exact aV6 (h3 r hr),k,?_,a9U h3⟩
  rw [a3X hi,lbb (by omega),hk]
 ·rw [ex]
  cases r with
  |junk=>rfl
  |c x=>simp only [a5U];rw [af4 hr']
  |agg cs=>
   simp only [a5U]
   rw [aG6 hr']
  |tup ss=>
   simp only [a5U]
   congr 1
   conv=>lhs;rw [← List.map_id ss]
   refine lbp fun s hs=>?_
   have h1:=lbv.1 hr' s hs
   cases s with
   |junk=>rfl
   |c x=>simp only [id];rw [af4 h1]
   |agg cs=>
    simp only [id]
    rw [aG6 h1]
   |tup ss=>rfl
 ·intro i k hk
  have hi:i<n:=by rw [← hn'];exact (lbe.1 hk).1
  obtain ⟨h1,h3⟩:=hout k (lbm hk)
  rw [ex]
  exact ⟨k,by rw [a3X hi,lbb (by omega),hk],a9U h3⟩
 ·intro j hj hnj
  have:n<=j:=by
   rcases Nat.lt_or_ge j n with h|h
   ·exact absurd (lbB.2 h) hnj
   ·exact h
  rw [lbc (by omega),lbc (by omega),hn,hn']
end
section
open Go.RowKit
theorem a1I {P : Program} {τ : Tab} (hτ : D3 P τ) {f : FuncId} {fn : Func} {c : Code} {args : List S} {H : Hp} {s : S} {H' : Hp} (hf : P.funcs[f]? = some fn) (hb : fn.body = some c) (hn : fn.name ≠ "runtime.NumGoroutine")
    (h:Awp P H.length c (args++List.replicate (fn.ntmps - args.length) .junk) H fun x env' H1=>match x with
      |.exit _=>False
      |_=>a7D τ fn env' H1 fun r=>Fin H.length r H1 s H'):b9 P f args H s H':=by
  refine ⟨⟨fn,hf,by rw [hb];rfl,hn⟩,fun w ι M vals hl hr hH hM hF=>?_⟩
  refine calls_of_wp hf hb ?_
  have hi:=Sim.init hl hr hH hM hF (fn.ntmps - args.length)
  have:=h.out w ι M H _ w rfl hM hi
  have e:vals.toArray.size=args.length:=by simpa using hl
  rw [e]
  refine wp_mono this ?_
  rintro e a' w' ⟨x,env',H1,rfl,hq,ι',M',hd,hsz,he,hH',hM',hF',hst⟩
  have key:(a7D τ fn env' H1 fun r=>Fin H.length r H1 s H')->a'.defers=[]∧∃v,(results fn a'.tmps).run P w'=.ok v w'∧∃v',Ending.returned v=.returned v'∧H3 w ι M H s H' v' w':=by
   intro hq
   refine ⟨hd,?_⟩
   obtain ⟨l,hk,vs,h1,h2,h3⟩:=a6T hτ he hH' fn.results.toList hq
   have hrun:∃v,(results fn a'.tmps).run P w'=.ok v w'∧v=(if h:vs.length=1 then vs[0] else .tuple vs.toArray):=by
    refine ⟨_,?_,rfl⟩
    unfold results
    rw [Array.mapM_eq_mapM_toList,Sem.run_bind,Sem.run_map]
    refine (congrArg (fun r=>Result.andThen (Result.andThen r _) _) h1).trans ?_
    simp
   obtain ⟨v,hv1,rfl⟩:=hrun
   refine ⟨_,hv1,_,rfl,?_⟩
   have hsr:∃r,RS w' ι' M' r (if h:vs.length=1 then vs[0] else .tuple vs.toArray)∧Fin H.length r H1 s H':=by
    match l,hk,h2,h3 with
    |[s1],hk,h2,h3=>
     refine ⟨s1,?_,hk⟩
     rw [dif_pos (by simpa using h2)]
     have:=h3 0 s1 rfl
     rw [lbl,lbf (by simp at h2;omega)] at this
     exact this
    |[],hk,h2,h3=>
     refine ⟨_,?_,hk⟩
     rw [dif_neg (by simp at h2;simp [h2])]
     exact .tup vs h2 h3
    |s1::s2::r,hk,h2,h3=>
     refine ⟨_,?_,hk⟩
     rw [dif_neg (by simp at h2;omega)]
     exact .tup vs h2 h3
   obtain ⟨r,h4,ρ,f1,f2,f3,f4⟩:=hsr
   obtain ⟨g1,g2,g3⟩:=a3i.all f1 f2 f3 rfl hM hH' hst
   exact ⟨O8 ρ ι',_,f4.rs hH' h4,g1,fun b hb=>hM' b hb.1,g2,g3⟩
  cases x with
  |normal=>exact key hq
  |ret=>exact key hq
  |exit id=>exact hq.elim
theorem C5 {P:Program} {τ:Tab} (hτ:D3 P τ) {n0:Nat} {x y:Code} {env:Env} {H:Hp} {Q:AX->Env->Hp->Prop}
 (h:a4P P τ n0 x env H fun a env' H'=>match a with
   |.normal=>Awp P n0 y env' H' Q
   |a=>Q a env' H'):Awp P n0 (.seq x y) env H Q:=by
 refine ⟨fun w0 ι0 M0 H0 a w hn hM hs=>?_⟩
 refine wp_seq (wp_mono ((y3 hτ x h).out w0 ι0 M0 H0 a w hn hM hs) ?_)
 rintro e a' w' ⟨x,env',H',rfl,hq,hs'⟩
 cases x with
 |normal=>exact hq.out w0 ι0 M0 H0 a' w' hn hM hs'
 |exit id=>exact ⟨_,env',H',rfl,hq,hs'⟩
 |ret=>exact ⟨_,env',H',rfl,hq,hs'⟩
theorem aN3 {P:Program} {n0:Nat} {x y:Code} {env:Env} {H:Hp} {Q:AX->Env->Hp->Prop}
 (h:Awp P n0 x env H fun a env' H'=>match a with
   |.normal=>Awp P n0 y env' H' Q
   |a=>Q a env' H'):Awp P n0 (.seq x y) env H Q:=by
 refine ⟨fun w0 ι0 M0 H0 a w hn hM hs=>?_⟩
 refine wp_seq (wp_mono (h.out w0 ι0 M0 H0 a w hn hM hs) ?_)
 rintro e a' w' ⟨x,env',H',rfl,hq,hs'⟩
 cases x with
 |normal=>exact hq.out w0 ι0 M0 H0 a' w' hn hM hs'
 |exit id=>exact ⟨_,env',H',rfl,hq,hs'⟩
 |ret=>exact ⟨_,env',H',rfl,hq,hs'⟩
theorem b0r {P:Program} {n0 id:Nat} {c:Code} {env:Env} {H:Hp} {Q:AX->Env->Hp->Prop} (h:Awp P n0 c env H (bf1 id Q)):Awp P n0 (.block id c) env H Q:=by
 refine ⟨fun w0 ι0 M0 H0 a w hn hM hs=>?_⟩
 refine wp_block (wp_mono (h.out w0 ι0 M0 H0 a w hn hM hs) ?_)
 rintro e a' w' ⟨x,env',H',rfl,hq,hs'⟩
 cases x with
 |normal=>exact ⟨_,env',H',rfl,hq,hs'⟩
 |exit j=>
  have hq:cond (Nat.beq j id) (Q .normal env' H') (Q (.exit j) env' H'):=hq
  show if j=id then _ else _
  by_cases hj:j=id
  ·subst hj
   rw [if_pos rfl]
   simp only [Nat.beq_refl,cond_true] at hq
   exact ⟨_,env',H',rfl,hq,hs'⟩
  ·rw [if_neg hj]
   have:Nat.beq j id=false:=by
    cases hb:Nat.beq j id with
    |false=>rfl
    |true=>exact absurd (Nat.eq_of_beq_eq_true hb) hj
   simp only [this,cond_false] at hq
   exact ⟨_,env',H',rfl,hq,hs'⟩
 |ret=>exact ⟨_,env',H',rfl,hq,hs'⟩
theorem b7f {P:Program} {n0:Nat} {c:Code} {env env':Env} {H H':Hp} {Q:AX->Env->Hp->Prop} (ρ:List (Option Nat)) (he:Ent n0 ρ env H env' H') (h:Awp P n0 c env' H' Q):Awp P n0 c env H Q:=
 ⟨fun w0 ι0 M0 H0 a w hn hM hs=>h.out w0 ι0 M0 H0 a w hn hM (he.sim hn hM hs)⟩
theorem a2r {P:Program} {τ:Tab} (hτ:D3 P τ) {n0:Nat} {x y:Code} {env:Env} {H:Hp} {Q:AX->Env->Hp->Prop} (E2:Env) (H2:Hp)
 (h:a4P P τ n0 x env H fun a env' H'=>match a with
   |.normal=>∃ρ,Ent n0 ρ env' H' E2 H2
   |a=>Q a env' H') (h2:Awp P n0 y E2 H2 Q):Awp P n0 (.seq x y) env H Q:=by
 refine ⟨fun w0 ι0 M0 H0 a w hn hM hs=>?_⟩
 refine wp_seq (wp_mono ((y3 hτ x h).out w0 ι0 M0 H0 a w hn hM hs) ?_)
 rintro e a' w' ⟨x,env',H',rfl,hq,hs'⟩
 cases x with
 |normal=>obtain ⟨ρ,he⟩:=hq;exact h2.out w0 ι0 M0 H0 a' w' hn hM (he.sim hn hM hs')
 |exit id=>exact ⟨_,env',H',rfl,hq,hs'⟩
 |ret=>exact ⟨_,env',H',rfl,hq,hs'⟩
theorem b58 {P:Program} {n0:Nat} {c:Code} {env:Env} {H:Hp} {Q:AX->Env->Hp->Prop} (E:Nat->Env × Hp) (n:Nat) (I:Nat->Prop) (ρ0:List (Option Nat))
 (hI:I 0) (h0:Ent n0 ρ0 env H (E 0).1 (E 0).2)
 (round:∀k,k<=n->I k->Awp P n0 c (E k).1 (E k).2 fun a env' H'=>match a with
   |.normal=>k<n∧I (k+1)∧∃ρ,Ent n0 ρ env' H' (E (k+1)).1 (E (k+1)).2
   |a=>Q a env' H'):Awp P n0 (.loop c) env H Q:=by
 refine a7R (σ:={ k:Nat // k<=n∧I k }) (fun k=>E k.1) (fun k=>n - k.1) ⟨0,Nat.zero_le _,hI⟩ ρ0 h0 ?_
 rintro ⟨k,hk,hi⟩
 refine (round k hk hi).mono ?_
 intro a env' H' h
 cases a with
 |normal=>
  obtain ⟨h1,h2,ρ,h3⟩:=h
  exact ⟨ρ,⟨k+1,h1,h2⟩,h3,by show n - (k+1)<n - k;omega⟩
 |exit id=>exact h
 |ret=>exact h
end
section
open Go.RowKit
inductive VY (H:Hp) (p:Nat->Prop):C->T->Prop
 |vc {x:C} {y:T} (h:VC H p x y):VY H p x y
 |own {id lo len:Nat} {app:Bool} {size:Nat} {k:Blk} {rows:List (List T)} (hp:p id) (hk:H[id]? =some k) (hd:¬k.mode.gone) (hs:k.size=size) (hl:rows.length=len)
   (hw:∀r ∈ rows,r.length=size) (g:Nat->Nat->C) (hc:∀i j c,at2 rows i j=some c->at2 k.rows (lo+i) j=some (g i j))
   (hx:∀i j c,at2 rows i j=some c->VY H p (g i j) c):VY H p (.own id lo len app) (.sl size .any rows)
 |ptr {id r o:Nat} {k:Blk} {row:List C} {cells:List T} (hp:p id) (hk:H[id]? =some k) (hd:¬k.mode.gone) (hr:k.rows[r]? =some row)
   (g:Nat->C) (hc:∀j c,cells[j]? =some c->row[o+j]? =some (g j)) (hx:∀j c,cells[j]? =some c->VY H p (g j) c):VY H p (.ptr id r o) (.ptr cells)
 |fn {f:Fn} {caps:List C} {caps':List T} (hl:caps.length=caps'.length) (g:Nat->C) (hc:∀j c,caps'[j]? =some c->caps[j]? =some (g j))
   (hx:∀j c,caps'[j]? =some c->VY H p (g j) c):VY H p (.fn f caps) (.fn f caps')
def VYL (H:Hp) (p:Nat->Prop):List C->List T->Prop
 |[],[]=>True
 |x::r,y::r'=>VY H p x y∧VYL H p r r'
 |_,_=>False
theorem VYL.get {H:Hp} {p:Nat->Prop}:∀{xs:List C} {ys:List T},VYL H p xs ys->xs.length=ys.length∧∀(j:Nat) (c:T),ys[j]? =some c->∃x,xs[j]? =some x∧VY H p x c
 |[],[],_=>⟨rfl,by simp⟩
 |x::xs,y::ys,h=>by
  obtain ⟨h1,h2⟩:=VYL.get h.2
  refine ⟨by simp [h1],fun j c hc=>?_⟩
  cases j with
  |zero=>simp at hc;subst hc;exact ⟨x,rfl,h.1⟩
  |succ j=>simpa using h2 j c (by simpa using hc)
 |[],_::_,h=>h.elim
 |_::_,[],h=>h.elim
theorem a2h {H:Hp} {p:Nat->Prop} {x:T}:VY H p (.t x) x:=.vc (ae6 (a0F x))
theorem a6F {H:Hp} {p:Nat->Prop} {id r o:Nat} {k:Blk} {row:List C} {cells:List T} (hp:p id) (hk:H[id]? =some k) (hd:¬k.mode.gone) (hr:k.rows[r]? =some row) (h:VYL H p (row.drop o) cells):VY H p (.ptr id r o) (.ptr cells):=by
 obtain ⟨h1,h2⟩:=h.get
 refine .ptr hp hk hd hr (fun j=>(row.drop o).getD j (.t (.ptr []))) (fun j c hc=>?_) (fun j c hc=>?_)
 ·obtain ⟨x,hx,_⟩:=h2 j c hc
  rw [lbj] at hx
  rw [lbl,lbj,hx];rfl
 ·obtain ⟨x,hx,hv⟩:=h2 j c hc
  rw [lbl,hx];exact hv
theorem b1F {H:Hp} {p:Nat->Prop} {f:Fn} {caps:List C} {caps':List T} (h:VYL H p caps caps'):VY H p (.fn f caps) (.fn f caps'):=by
 obtain ⟨h1,h2⟩:=h.get
 refine .fn h1 (fun j=>caps.getD j (.t (.ptr []))) (fun j c hc=>?_) (fun j c hc=>?_)
 ·obtain ⟨x,hx,_⟩:=h2 j c hc
  rw [lbl,hx];rfl
 ·obtain ⟨x,hx,hv⟩:=h2 j c hc
  rw [lbl,hx];exact hv
theorem b5w {H:Hp} {p:Nat->Prop} {id len size:Nat} {app:Bool} {k:Blk} {rows:List (List T)} (hp:p id) (hk:H[id]? =some k) (hd:¬k.mode.gone) (hs:k.size=size) (hl:rows.length=len)
 (hw:∀r ∈ rows,r.length=size) (h:∀(i:Nat) (r:List T),rows[i]? =some r->∃row,k.rows[i]? =some row∧VYL H p row r):VY H p (.own id 0 len app) (.sl size .any rows):=by
 have key:∀i j c,at2 rows i j=some c->∃x,at2 k.rows i j=some x∧VY H p x c:=fun i j c hc=>by
  obtain ⟨r,h1,h2⟩:=F4 hc
  obtain ⟨row,h3,h4⟩:=h i r h1
  obtain ⟨x,h5,h6⟩:=h4.get.2 j c h2
  exact ⟨x,C7 h3 h5,h6⟩
 refine .own hp hk hd hs hl hw (fun i j=>(at2 k.rows i j).getD (.t (.ptr []))) (fun i j c hc=>?_) (fun i j c hc=>?_)
 ·obtain ⟨x,hx,_⟩:=key i j c hc
  rw [Nat.zero_add,hx];rfl
 ·obtain ⟨x,hx,hv⟩:=key i j c hc
  rw [hx];exact hv
theorem VY.rt {H:Hp} {p:Nat->Prop} {w:World} {ι:Io} {M M':Ms} (hH:p9 w ι M H) (hM:∀b,M' b->M b) (hp:∀id k b cap size,p id->H[id]? =some k->¬k.mode.gone->ι id=some (.blk b cap size)->¬M' b)
 {x:C} {y:T} (h:VY H p x y):∀{v:Value},RC w ι M x v->RT w M' y v:=by
 induction h with
 |vc h=>intro v hr;exact VC.rt hH hM hp _ _ _ h hr
 |@own id lo len app size k rows hpi hk hd hs hl hw g hc hx ih=>
  intro v hr
  cases hr with
  |@own _ _ _ _ b cap sz A cap' hi q1 q2 q3 q4 q5=>
   subst hl
   have hbr:=hH.blk id k hk (fun e=>hd (by rw [e];trivial)) _ hi
   obtain ⟨r1,r2,r3,r4,r5,cur,r6,r7,r8⟩:=hbr
   have hnm:=hp id k b cap sz hpi hk hd hi
   have hse:sz=size:=by rw [← hs,r1]
   subst hse
   have hat:∀(i j:Nat) (c:T),at2 rows i j=some c->∃u,cur[(lo+i)*sz+j]? =some u∧RT w M' c u:=fun i j c hij=>by
    obtain ⟨u,t1,t2⟩:=r8 _ _ _ (hc i j c hij)
    exact ⟨u,t1,ih i j c hij t2⟩
   refine .sl (b:=b) (off:=lo*sz) (fun i j=>cur.getD ((lo+i)*sz+j) undef) hw q3 q4 (by intro h;cases h) (by intro h;cases h) (fun hne=>q2 (List.length_pos_iff.2 hne)) ?_ ?_
   ·intro i j c hc'
    obtain ⟨u,s1,s2⟩:=hat i j c hc'
    refine ⟨?_,hnm⟩
    have e:lo*sz+(i*sz+j)=(lo+i)*sz+j:=by rw [Nat.add_mul,Nat.add_assoc]
    simp only [World.cell?]
    rw [r6,e]
    simp [s1]
   ·intro i j c hc'
    obtain ⟨u,s1,s2⟩:=hat i j c hc'
    have:cur.getD ((lo+i)*sz+j) undef=u:=by simp [s1]
    rw [this];exact s2
  |nil hi=>
   have hr0:rows=[]:=lbF hl
   subst hr0
   exact .sl (b:=0) (off:=0) (fun _ _=>undef) (by simp) (by simp) (by unfold maxLen;omega) (by simp) (by simp) (by simp) (by simp [at2]) (by simp [at2])
 |@ptr id r o k row cells hpi hk hd hrow g hc hx ih=>
  intro v hr
  cases hr with
  |@ptr _ _ _ b cap size hi=>
   have hb:=(hH.blk id k hk (fun e=>hd (by rw [e];trivial)) _ hi).row hrow
   have hnm:=hp id k b cap size hpi hk hd hi
   refine .ptr (fun j=>(w.cell? ⟨b,r*size+o+j,none⟩).getD undef) (fun j c hj=>?_) (fun j c hj=>?_)
   ·obtain ⟨u,h1,h2⟩:=hb _ _ (hc j c hj)
    rw [Nat.add_assoc,h1]
    exact ⟨rfl,hnm⟩
   ·obtain ⟨u,h1,h2⟩:=hb _ _ (hc j c hj)
    rw [Nat.add_assoc,h1]
    exact ih j c hj h2
 |@fn f caps caps' hl g hc hx ih=>
  intro v hr
  cases hr with
  |fn vs hl' hr=>
   exact .fn vs (by omega) fun j c hj=>ih j c hj (hr j _ (hc j c hj))
def VYS (H:Hp) (p:Nat->Prop) (s s':S):Prop:=
 match s' with
 |.junk=>True
 |.c y=>match s,y with
  |.c x,.t y=>VY H p x y
  |_,_=>False
 |.agg ys=>match s with
  |.agg xs=>∃ts,ys=ts.map C.t∧VYL H p xs ts
  |_=>False
 |.tup _=>False
theorem VYS.rs {H:Hp} {p:Nat->Prop} {w:World} {ι ι':Io} {M M':Ms} (hH:p9 w ι M H) (hM:∀b,M' b->M b) (hp:∀id k b cap size,p id->H[id]? =some k->¬k.mode.gone->ι id=some (.blk b cap size)->¬M' b)
 {x y:S} {v:Value} (h:VYS H p x y) (hr:RS w ι M x v):RS w ι' M' y v:=by
 cases y with
 |junk=>exact .junk
 |c y=>
  cases x with
  |c x=>
   cases y with
   |t y=>
    cases hr with
    |c hr=>exact .c (.t (VY.rt hH hM hp h hr))
   |_=>exact False.elim h
  |_=>exact False.elim h
 |agg ys=>
  cases x with
  |agg xs=>
   obtain ⟨ts,rfl,h⟩:=h
   obtain ⟨h1,h2⟩:=h.get
   cases hr with
   |agg vs hl hr=>
    refine .agg vs (by simp;omega) fun j c hj=>?_
    rw [lba] at hj
    cases hj':ts[j]? with
    |none=>rw [hj'] at hj;cases hj
    |some c'=>
     rw [hj'] at hj
     injection hj with hj
     subst hj
     obtain ⟨x,hx,hv⟩:=h2 j c' hj'
     exact .t (VY.rt hH hM hp hv (hr j x hx))
  |_=>exact False.elim h
 |tup _=>exact False.elim h
def a0O (H:Hp) (p:Nat->Prop):List S->List S->Prop
 |[],[]=>True
 |s::r,s'::r'=>VYS H p s s'∧a0O H p r r'
 |_,_=>False
theorem a0O.get {H:Hp} {p:Nat->Prop}:∀{l l':List S},a0O H p l l'->l.length=l'.length∧∀(j:Nat) (s':S),l'[j]? =some s'->∃s,l[j]? =some s∧VYS H p s s'
 |[],[],_=>⟨rfl,by simp⟩
 |s::r,s'::r',h=>by
  obtain ⟨h1,h2⟩:=a0O.get h.2
  refine ⟨by simp [h1],fun j t ht=>?_⟩
  cases j with
  |zero=>simp at ht;subst ht;exact ⟨s,rfl,h.1⟩
  |succ j=>simpa using h2 j t (by simpa using ht)
 |[],_::_,h=>h.elim
 |_::_,[],h=>h.elim
theorem s6 {P:Program} {g:FuncId} {args args':List S} {H:Hp} {r:S} (h:b9 P g args' [] r []) (ha:a0O H (fun _=>True) args args') (hr:r.flat=true):Y9 P g args H r []:=by
 refine ⟨h.1,fun w ι M vals hl hv hH hM hf=>?_⟩
 obtain ⟨hlen,hget⟩:=a0O.get ha
 have:=h.2 w (fun _=>none) (fun _=>False) vals (by omega) (fun j s hj=>by
  obtain ⟨x,hx,hs⟩:=hget j s hj
  exact hs.rs hH (fun _ h=>h.elim) (fun _ _ _ _ _ _ _ _ _ h=>h) (hv j x hx))
  .none (fun _ h=>h.elim) (fun _ _=>rfl)
 refine Calls.mono this ?_
 rintro e w' ⟨v,rfl,ι',M',h1,h2,h3,h4,h5⟩
 exact ⟨v,rfl,K7.of_none (h1.flat hr) ⟨h5.os,h5.tape,h5.output,h5.size,fun b hb=>h5.keep b hb (by rintro ⟨id,k,_,_,hk,_⟩;simp at hk)⟩⟩
theorem aU1 {w0:World} {ι0:Io} {M0:Ms} {a:Act} {w:World} {env env':Env} {H:Hp} (hM0:MB w0 M0) (h:a0O H (fun _=>True) env env') (hs:Sim w0 ι0 M0 [] a w env H):Sim w0 ι0 M0 [] a w env' []:=by
 obtain ⟨ι,M,hd,hsz,he,hH,hM,hF,hst⟩:=hs
 obtain ⟨hel,heg⟩:=h.get
 obtain ⟨q1,q2,q3⟩:=a3i.all (ρ:=[]) (H:=H) (H':=[]) (n0:=0) rfl rfl trivial rfl hM0 hH hst
 refine ⟨O8 [] ι,_,hd,by omega,fun t s' ht=>?_,q1,fun b hb=>hM b hb.1,q2,q3⟩
 obtain ⟨s,r1,r2⟩:=heg t s' ht
 refine r2.rs hH (fun b hb=>hb.1) ?_ (he t s r1)
 intro id k b cap size _ hk hd hi hb
 exact hb.2 ⟨id,k,cap,size,rfl,hk,hd,hi⟩
theorem b4T {P:Program} {τ:Tab} (hτ:D3 P τ) {x y:Code} {env:Env} {H:Hp} {Q:AX->Env->Hp->Prop} (E2:Env)
 (h:a4P P τ 0 x env H fun a env' H'=>match a with
   |.normal=>a0O H' (fun _=>True) env' E2
   |a=>Q a env' H') (h2:Awp P 0 y E2 [] Q):Awp P 0 (.seq x y) env H Q:=by
 refine ⟨fun w0 ι0 M0 H0 a w hn hM hs=>?_⟩
 obtain rfl:H0=[]:=lbF hn
 refine wp_seq (wp_mono ((y3 hτ x h).out w0 ι0 M0 [] a w hn hM hs) ?_)
 rintro e a' w' ⟨x,env',H',rfl,hq,hs'⟩
 cases x with
 |normal=>exact h2.out w0 ι0 M0 [] a' w' hn hM (aU1 hM hq hs')
 |exit id=>exact ⟨_,env',H',rfl,hq,hs'⟩
 |ret=>exact ⟨_,env',H',rfl,hq,hs'⟩
end
end Go.Proofs.YtikokmdpigploaaGreat
