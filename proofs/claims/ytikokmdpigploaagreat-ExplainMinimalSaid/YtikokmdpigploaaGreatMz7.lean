/- Part 7. -/
import Derived.ProofKit
import Derived.OpenShut
import Derived.Deep.Slices
import Derived.Deep.Fields
import Derived.Test.YtikokmdpigploaaGreatRows
import Derived.Deep.DeepMust
import Derived.BigQuiet
import Derived.Deep.Light
import Derived.Test.YtikokmdpigploaaGreatMz6
namespace Go.Proofs.YtikokmdpigploaaGreat
set_option linter.unusedVariables false
set_option linter.unusedSimpArgs false
set_option maxRecDepth 100000
set_option maxHeartbeats 8000000
open Go.RowKit
open St1 St2 St3 St4 St5 St6 St7 St8 StA StB
def aI3 (ops:List Oper) (k:Nat):Bool:=a0x ops && ((List.range ops.length).all fun i=>Nat.blt i k || (List.range k).all fun j=>((a0j ops).getD i 0).testBit j) && ((ops.take k).all fun o=>o.guard.isNone) && Nat.ble k ops.length
theorem b1Q {n:Nat} {P:Program} {row:String} {args:Array Value} {w:World} {R:Value->World->Prop} (h:Rows P row args w R):RowsIn Fence.wide n P row args w R:=fun c cs _=>by
 obtain ⟨v,w',h1,h2⟩:=h c cs
 exact ⟨v,w',h1,stepsIn_wide.2 h2⟩
theorem b2n {n:Nat} {P:Program} {o:Oper} {a:Act} {w:World} {K K':Act->World->Prop} {Q Q':Exit->Act->World->Prop} (hK:∀a' w',K a' w'->(∀ t,o.dst≠some t->a'.tmps.getD t undef=a.tmps.getD t undef)->K' a' w') (hQ:∀e a w,e≠.normal->¬Q e a w)
 (h:o.wp P a w K Q):o.wpIn Fence.wide n P a w K' Q':=by
 have hput:∀(b:Act) (v:Value),b.tmps=a.tmps->∀t,o.dst≠some t->(b.put o.dst v).tmps.getD t undef=a.tmps.getD t undef:=fun b v hb t ht=>by
  cases hd:o.dst with
  |none=>show b.tmps.getD t undef=_;rw [hb]
  |some d=>
   have hdt:d≠t:=fun e=>ht (by rw [hd,e])
   show (b.tmps.setIfInBounds d v).getD t undef=_
   rw [hb,Array.getD_eq_getD_getElem?,Array.getElem?_setIfInBounds_ne hdt,←Array.getD_eq_getD_getElem?]
 unfold Oper.wp at h
 unfold Oper.wpIn
 refine ⟨fun _ _=>trivial,?_⟩
 show o.uponIn Fence.wide n P a K' Q' ((execOp a.eval o).run P w)
 generalize (execOp a.eval o).run P w=r at h
 have hout:¬LetsOut Q:=fun ⟨a,w,h⟩=>hQ _ a w (by intro h;cases h) h
 cases r with
 |ok x w'=>
  cases x<;>simp only [Oper.upon,Oper.uponIn] at h ⊢<;>
   first
    |exact hK _ _ h (hput _ _ rfl)
    |exact ⟨fun h=>by simp [Fence.wide] at h,callsIn_wide.2 (Calls.mono h fun e w'' he=>by
      cases e with
      |returned v=>exact hK _ _ he (hput _ _ rfl)
      |panicked c=>exact absurd he (hQ _ _ _ (by intro h;cases h))
      |outgrown=>exact absurd he hout)⟩
    |exact ⟨fun h=>by simp [Fence.wide] at h,b1Q (Rows.mono h fun _ _ he=>hK _ _ he (hput _ _ rfl))⟩
    |exact h.elim
 |halt x w'=>
  cases x<;>simp only [Oper.upon,Oper.uponIn] at h ⊢<;>
   first
    |exact absurd h (hQ _ _ _ (by intro h;cases h))
    |exact h
theorem a78 {F:Fence} {n:Nat} {P:Program} {md:Region.Mode} {ops:Array Oper} {Q:Exit->Act->World->Prop}:∀(f:Nat) (listed:Array Bool) (a:Act) (w:World),wpAnyIn F n P md ops Q f listed a w->wpAnyIn F n P md ops Q (f+1) listed a w
 |0,listed,a,w,h=>⟨fun _=>h.2,fun i hi=>by rw [h.1] at hi;cases hi⟩
 |f+1,listed,a,w,h=>⟨h.1,fun i hi=>wpOpIn_mono (fun a w h=>a78 f _ a w h) (h.2 i hi)⟩
theorem a6T {F:Fence} {n:Nat} {P:Program} {md:Region.Mode} {ops:Array Oper} {Q:Exit->Act->World->Prop} {f:Nat} {listed:Array Bool} {a:Act} {w:World} (h:wpAnyIn F n P md ops Q f listed a w):∀m,wpAnyIn F n P md ops Q (f+m) listed a w
 |0=>h
 |m+1=>a78 _ _ _ _ (a6T h m)
def O3 (k n:Nat):Array Bool:=((List.range n).map fun i=>Nat.blt i k).toArray
theorem a28 (k n:Nat):(O3 k n).size=n:=by simp [O3]
theorem a1Z {k n i:Nat} (h:i<n):(O3 k n)[i]? =some (Nat.blt i k):=by simp [O3,h]
theorem aQ0 {l:Array Bool} {i:Nat} (h:i<l.size):l[i]? =some (l.getD i false):=by simp [h]
theorem b66 {P:Program} {n k m:Nat} {ops:Array Oper} {Q:Exit->Act->World->Prop} {K:Act->World->Prop} (hc:aI3 ops.toList k=true) {a0:Act}
 (hK:∀a w,K a w->(∀ t,(∀ o ∈ ops.toList.take k,o.dst≠some t)->a.tmps.getD t undef=a0.tmps.getD t undef)->wpAnyIn Fence.wide n P .any ops Q m (O3 k ops.size) a w):
 ∀(fuel:Nat) (listed l':Array Bool) (a:Act) (w:World),listed.size=ops.size->l'.size=k->(∀ i,i<k->l'.getD i false=listed.getD i false)->(∀ i,k<=i->listed.getD i false=false)->
  (∀ i o,ops.toList[i]? =some o->listed.getD i false=true->∀e ∈ o.after.toList,Region.binds .any e=true->listed.getD e.on false=true)->
  (∀ t,(∀ o ∈ ops.toList.take k,o.dst≠some t)->a.tmps.getD t undef=a0.tmps.getD t undef)->
  wpAny P .any (ops.toList.take k).toArray (fun e a w=>e=.normal∧K a w) fuel l' a w->wpAnyIn Fence.wide n P .any ops Q (fuel+m) listed a w:=by
 unfold aI3 at hc
 simp only [lbN] at hc
 obtain ⟨⟨⟨hb,hm⟩,hg⟩,hkn⟩:=hc
 have hkn:k<=ops.size:=by simpa using Nat.le_of_ble_eq_true hkn
 have hsz:((ops.toList.take k).toArray).size=k:=by simp;omega
 have hget:∀i,i<k->((ops.toList.take k).toArray)[i]? =ops[i]?:=fun i hi=>by simp [lbi,hi]
 have hb':a0x ((ops.toList.take k).toArray).toList=true:=by
  unfold a0x at hb ⊢
  rw [lbw] at hb ⊢
  rintro ⟨o,i⟩ hx
  rw [List.mem_zipIdx_iff_getElem?] at hx
  simp only [lbi] at hx
  split at hx
  ·exact hb (o,i) (by rw [List.mem_zipIdx_iff_getElem?];exact hx)
  ·cases hx
 intro fuel
 induction fuel with
 |zero=>
  rintro listed l' a w hls hl's hag hhi hcl hfr ⟨hr,_,hKk⟩
  have hall:=T5 hb' (by rw [hl's,hsz]) hr
  have e:listed=O3 k ops.size:=by
   refine Array.ext (by rw [hls,a28]) fun i h1 h2=>?_
   have h3:=a1Z (k:=k) (n:=ops.size) (i:=i) (by omega)
   rw [Array.getElem?_eq_getElem h2] at h3
   injection h3 with h3
   rw [h3]
   have h4:=aQ0 h1
   rw [Array.getElem?_eq_getElem h1] at h4
   injection h4 with h4
   rw [h4]
   by_cases hik:i<k
   ·rw [← hag i hik,hall i (by rw [hsz];exact hik)];symm;simpa using hik
   ·rw [hhi i (by omega)];symm;rw [← lbQ];simpa using hik
  rw [e,Nat.zero_add]
  exact hK a w hKk hfr
 |succ fuel ih=>
  rintro listed l' a w hls hl's hag hhi hcl hfr ⟨hnil,hstep⟩
  by_cases hall:∀i,i<k->listed.getD i false=true
  ·have e:listed=O3 k ops.size:=by
    refine Array.ext (by rw [hls,a28]) fun i h1 h2=>?_
    have h3:=a1Z (k:=k) (n:=ops.size) (i:=i) (by omega)
    rw [Array.getElem?_eq_getElem h2] at h3
    injection h3 with h3
    rw [h3]
    have h4:=aQ0 h1
    rw [Array.getElem?_eq_getElem h1] at h4
    injection h4 with h4
    rw [h4]
    by_cases hik:i<k
    ·rw [hall i hik];symm;simpa using hik
    ·rw [hhi i (by omega)];symm;rw [← lbQ];simpa using hik
   have hr:Region.ready .any (ops.toList.take k).toArray l'=[]:=by
    cases hr:Region.ready .any (ops.toList.take k).toArray l' with
    |nil=>rfl
    |cons i r=>
     have hi:i ∈ Region.ready .any (ops.toList.take k).toArray l':=by rw [hr];simp
     rw [mem_ready] at hi
     obtain ⟨h1,o,ho,_⟩:=hi
     have hlt:=(lb5.1 ho).1
     rw [hsz] at hlt
     have h2:=hall i hlt
     rw [← hag i hlt] at h2
     simp [hl's,hlt] at h1 h2
     rw [h1] at h2;cases h2
   rw [e,show fuel+1+m=m+(fuel+1) by omega]
   exact a6T (hK a w (hnil hr).2 hfr) _
  ·rw [show fuel+1+m=(fuel+m)+1 by omega]
   refine ⟨fun hr=>absurd (fun i hi=>T5 hb hls hr i (by omega)) hall,fun i hi=>?_⟩
   have hi0:=hi
   rw [mem_ready] at hi
   obtain ⟨hl,o,ho,hready⟩:=hi
   have hlt:=(lb5.1 ho).1
   have ho':ops.toList[i]? =some o:=by simpa using ho
   have hready':∀e ∈ o.after.toList,Region.binds .any e=true->listed.getD e.on false=true:=fun e he=>hready e (by simpa using he)
   have hun:listed.getD i false=false:=by simp [hls,hlt] at hl ⊢;exact hl
   have hik:i<k:=by
    apply a0k
    intro hge
    refine hall fun j hj=>?_
    have h1:=lbw.1 hm i (lbC.2 (by simpa using hlt))
    have h2:Nat.blt i k=false:=by rw [← lbQ];simpa using hge
    rw [h2,Bool.false_or] at h1
    have h3:=lbw.1 h1 j (lbC.2 hj)
    exact Y4 hb (S:=fun j=>listed.getD j false=true) hcl ho' hready' h3
   have hmem:i ∈ Region.ready .any (ops.toList.take k).toArray l':=by
    rw [mem_ready]
    refine ⟨?_,o,(hget i hik).trans ho,fun e he hbi=>?_⟩
    ·have:=hag i hik
     rw [hun] at this
     simp [hl's,hik] at this ⊢;exact this
    ·have h1:=hready' e (by simpa using he) hbi
     have h2:=a6q hb ho' (e:=e) (by simpa using he) hbi
     rw [← hag e.on (by omega)] at h1
     exact h1
   have h:=hstep i hmem
   unfold wpOp at h
   unfold wpOpIn
   rw [hget i hik,ho] at h
   rw [ho]
   simp only at h ⊢
   have hog:o.guard=none:=by
    have:=lbw.1 hg o (lbm (i:=i) (by rw [lbi,if_pos hik];exact ho'))
    cases hq:o.guard with
    |none=>rfl
    |some x=>rw [hq] at this;cases this
   have hw:∀y,Region.wanted o y=true:=fun y=>by unfold Region.wanted;rw [hog]
   rw [hw] at h ⊢
   simp only [if_true] at h ⊢
   rcases h with h|⟨_,a',w',h,_⟩
   ·refine b2n (fun a w h hfa=>ih (listed.setIfInBounds i true) (l'.setIfInBounds i true) a w (by simpa using hls) (by simpa using hl's) (fun j hj=>?_) (fun j hj=>?_) (fun j oj hoj hl e he hbi=>?_) (fun t ht=>(hfa t (ht o (lbm (i:=i) (by rw [lbi,if_pos hik];exact ho')))).trans (hfr t ht)) h) (fun e a w he hq=>he hq.1) h
    ·by_cases hji:i=j
     ·subst hji
      rw [W8 (by omega),W8 (by omega)]
     ·rw [getD_set_ne false hji,getD_set_ne false hji];exact hag j hj
    ·rw [getD_set_ne false (by omega)];exact hhi j hj
    ·rcases S2 hl with rfl|hl
     ·rw [ho'] at hoj
      injection hoj with hoj
      subst hoj
      exact getD_set_true (hready' e he hbi)
     ·exact getD_set_true (hcl j oj hoj hl e he hbi)
   ·cases h
theorem a6V (n i:Nat):(Array.replicate n false).getD i false=false:=by
 rw [Array.getD_eq_getD_getElem?,Array.getElem?_replicate]
 split<;>rfl
def b7z (ops:List Oper) (k:Nat):Bool:=(List.range ops.length).all fun i=>Nat.blt i k || ((List.range i).all fun j=>((a0j ops).getD i 0).testBit j) && (match ops[i]? with|some o=>o.guard.isNone|none=>true)
theorem b6N {P:Program} {n k:Nat} {ops:Array Oper} {Q:Exit->Act->World->Prop} (hb:a0x ops.toList=true) (hs:b7z ops.toList k=true):∀(m j:Nat) (a:Act) (w:World),j+m=ops.size->k<=j->
 wpListIn Fence.wide n P ops Q (ops.toList.drop j) a w->wpAnyIn Fence.wide n P .any ops Q m (O3 j ops.size) a w:=by
 have hget:∀j i,i<ops.size->(O3 j ops.size).getD i false=Nat.blt i j:=fun j i hi=>by
  rw [Array.getD_eq_getD_getElem?,a1Z hi];rfl
 have hnr:∀j i,j<=ops.size->k<=j->i ∈ Region.ready .any ops (O3 j ops.size)->i=j:=fun j i hj hk hi=>by
  rw [mem_ready] at hi
  obtain ⟨hl,o,ho,hready⟩:=hi
  have hlt:=(lb5.1 ho).1
  have ho':ops.toList[i]? =some o:=by simpa using ho
  have h1:(O3 j ops.size).getD i false=false:=by
   have:=a28 j ops.size
   simp [this,hlt] at hl ⊢;exact hl
  rw [hget j i hlt] at h1
  have hge:j<=i:=by
   apply a0k
   intro h
   have:Nat.blt i j=true:=by simp;omega
   rw [this] at h1;cases h1
  apply a0k
  intro hne
  have h2:=lbw.1 hs i (lbC.2 (by simpa using hlt))
  have h3:Nat.blt i k=false:=by rw [← lbQ];simp;omega
  rw [h3,Bool.false_or,lbN] at h2
  have h4:=lbw.1 h2.1 j (lbC.2 (by omega))
  have h5:=Y4 hb (S:=fun i=>(O3 j ops.size).getD i false=true) (fun i2 o2 ho2 hi2 e he hbi=>by
   have hl2:=(lbe.1 ho2).1
   have hl3:i2<ops.size:=by simpa using hl2
   rw [hget j i2 hl3] at hi2
   have h6:=a6q hb ho2 he hbi
   rw [hget j e.on (by omega)]
   simp at hi2 ⊢;omega) ho' (fun e he=>hready e (by simpa using he)) h4
  rw [hget j j (by omega)] at h5
  simp at h5
 intro m
 induction m with
 |zero=>
  intro j a w hj hk h
  have hd:ops.toList.drop j=[]:=by rw [List.drop_eq_nil_iff];simp;omega
  rw [hd] at h
  refine ⟨?_,h⟩
  cases hr:Region.ready .any ops (O3 j ops.size) with
  |nil=>rfl
  |cons i r=>
   have hi:=hnr j i (by omega) hk (by rw [hr];simp)
   have hm:i ∈ Region.ready .any ops (O3 j ops.size):=by rw [hr];simp
   rw [mem_ready] at hm
   obtain ⟨_,o,ho,_⟩:=hm
   have:=(lb5.1 ho).1
   omega
 |succ m ih=>
  intro j a w hj hk h
  have hjl:j<ops.size:=by omega
  have hd:ops.toList.drop j=ops[j]::ops.toList.drop (j+1):=by rw [List.drop_eq_getElem_cons (by simpa using hjl)];simp
  rw [hd] at h
  have h2:=lbw.1 hs j (lbC.2 (by simpa using hjl))
  have h3:Nat.blt j k=false:=by rw [← lbQ];simp;omega
  have hoj:ops.toList[j]? =some ops[j]:=by simp [hjl]
  rw [h3,Bool.false_or,lbN,hoj] at h2
  have hgn:ops[j].guard=none:=by
   have:=h2.2
   simp only at this
   cases hq:ops[j].guard with
   |none=>rfl
   |some x=>rw [hq] at this;cases this
  have hw:∀y,Region.wanted ops[j] y=true:=fun y=>by unfold Region.wanted;rw [hgn]
  refine ⟨fun hr=>?_,fun i hi=>?_⟩
  ·have:=T5 hb (a28 _ _) hr j hjl
   rw [hget j j hjl] at this
   simp at this
  ·obtain rfl:=hnr j i (by omega) hk hi
   unfold wpOpIn
   rw [Array.getElem?_eq_getElem hjl]
   simp only [hw,if_true]
   unfold wpListIn at h
   simp only [hw,if_true] at h
   have e:(O3 i ops.size).setIfInBounds i true=O3 (i+1) ops.size:=by
    refine Array.ext (by simp [O3]) fun x h1 h2=>?_
    have hx:x<ops.size:=by simpa [O3] using h1
    have a1:=a1Z (k:=i+1) (n:=ops.size) hx
    rw [Array.getElem?_eq_getElem h2] at a1
    injection a1 with a1
    rw [a1]
    by_cases hix:i=x
    ·subst hix;simp
    ·rw [Array.getElem_setIfInBounds_ne (by simpa [O3] using hx) hix]
     have a2:=a1Z (k:=i) (n:=ops.size) hx
     rw [Array.getElem?_eq_getElem (by simpa [O3] using hx)] at a2
     injection a2 with a2
     rw [a2]
     rw [Bool.eq_iff_iff];simp;omega
   rw [e]
   exact Oper.wpIn_mono (fun a w h=>ih (i+1) a w (by omega) (by omega) h) h
theorem aO6 {P:Program} {τ:Tab} (hτ:D9 P τ) {n k id:Nat} {opl:List Oper} {Q:Exit->Act->World->Prop} {K:Env->Hp->Prop} {env:Env} {a0:Act} {w0:World} (hmx:P.follows .mixedOrders=true)
 (hr:a6Y (opl.take k)=true) (hc:aI3 opl k=true) (hsq:b7z opl k=true) (h:a6B P τ (opl.take k) true 0 (opl.take k) env [] K) (hs:Sim w0 (fun _=>none) (fun _=>False) [] a0 w0 env [])
 (hK:∀env' H' a' w',K env' H'->Sim w0 (fun _=>none) (fun _=>False) [] a' w' env' H'->(∀ t,(∀ o ∈ opl.take k,o.dst≠some t)->a'.tmps.getD t undef=a0.tmps.getD t undef)->wpListIn Fence.wide n P opl.toArray Q (opl.drop k) a' w'):
 (Code.region id opl.toArray true).wpIn Fence.wide n P Q a0 w0:=by
 refine wpIn_region_any hmx ?_
 have hb:a0x opl=true:=by
  unfold aI3 at hc
  simp only [lbN] at hc
  exact hc.1.1.1
 have hkn:k<=opl.length:=by
  unfold aI3 at hc
  simp only [lbN] at hc
  exact Nat.le_of_ble_eq_true hc.2
 have e:opl.toArray.size=k+(opl.length - k):=by simp;omega
 have hd:=a4m (H0:=[]) (ι0:=fun _=>none) hτ (ops:=(opl.take k).toArray) (Q:=fun e a w=>e=.normal∧∃env' H',K env' H'∧Sim w0 (fun _=>none) (fun _=>False) [] a w env' H') (w0:=w0) (M0:=fun _=>False) (fun b hb=>hb.elim) (fun env H a w h1 h2=>⟨rfl,env,H,h1,h2⟩) hr h hs
 have hsz:((opl.take k).toArray).size=k:=by simp;omega
 rw [hsz] at hd
 have key:=b66 (k:=k) (m:=opl.length - k) (n:=n) (Q:=Q) (ops:=opl.toArray) (a0:=a0) (K:=fun a' w'=>∃env' H',K env' H'∧Sim w0 (fun _=>none) (fun _=>False) [] a' w' env' H') (by simpa using hc)
  (fun a w ⟨env',H',h1,h2⟩ hfr=>b6N (ops:=opl.toArray) (by simpa using hb) (by simpa using hsq) (opl.length - k) k a w (by simp;omega) (lbR _) (by simpa using hK env' H' a w h1 h2 (by simpa using hfr))) k (Array.replicate (k+(opl.length - k)) false) (Array.replicate k false) a0 _ (by simp;omega) (by simp) (fun i hi=>by rw [a6V,a6V]) (fun i hi=>a6V _ _) (fun i o _ hl=>by rw [a6V] at hl;cases hl) (fun _ _=>rfl) (by simpa using hd)
 rw [e]
 exact key
section
open Go.RowKit Go.Shelf
attribute [local go_sem] Oper.semAt_some
theorem b8f (l:List Int):e7 Tryz.prog 202 [i6 l] [] (.c (.t (.sl 1 .full (l.map i5)))) []:=by
 have m1:(l.map i5).length=l.length:=by simp
 (refine ac Tryz.func202 ?_;(conv=>whnf);repeat (refine zy ?_;conv=>whnf))
 repeat' (first|refine zx ?_|refine ⟨⟨by omega,by omega,by omega,by omega⟩,?_⟩|refine zd ?_ ?_<;>intro h<;>try omega|fail)<;>conv=>whnf
 all_goals first
  |exact v8 (show a90 [] _ _ _ from by rw [lbY,lbn (lbR _)];rfl)
theorem am3 {w:World} {a:Act} {env:Env} (hd:a.defers=[]) (hs:a.tmps.size=env.length) (he:∀t s,env[t]? =some s->RS w (fun _=>none) (fun _=>False) s (a.tmps.getD t undef)):
 Sim w (fun _=>none) (fun _=>False) [] a w env []:=
 ⟨_,_,hd,hs,he,⟨fun id k h=>by simp at h,fun id k h=>by simp at h,fun id k h=>by simp at h,fun id id' k k' h=>by simp at h,fun id id' k k' h=>by simp at h⟩,fun b h=>h.elim,fun _ _=>rfl,a2L.refl _ _ _ _⟩
theorem aY1 {w w':World} {ι':Io} {M':Ms} {H':Hp} (h:a2L w (fun _=>none) (fun _=>False) [] w' ι' M' H'):w.grownBy w' none:=
 ⟨h.os,h.tape,h.output,h.size,fun b hb _=>h.keep b hb (by rintro ⟨id,k,c,s,hk,_⟩;simp at hk)⟩
theorem b0X {w w':World} {a:Act} {env:Env} {H:Hp} (h:Sim w (fun _=>none) (fun _=>False) [] a w' env H):a.defers=[]∧a.tmps.size=env.length∧w.grownBy w' none∧
 ∃ι M,a2k w' ι M env a∧p7 w' ι M H∧∀id k b cap size,H[id]? =some k->k.mode=.live->ι id=some (.blk b cap size)->w.heap.size<=b:=by
 obtain ⟨ι,M,h1,h2,h3,h4,h5,h6,h7⟩:=h
 refine ⟨h1,h2,aY1 h7,ι,M,h3,h4,fun id k b cap size hk hm hi=>?_⟩
 rcases h7.live b ⟨id,k,cap,size,hk,hm,hi⟩ with ⟨id',k',c,s,hk',_⟩|h
 ·simp at hk'
 ·exact h
theorem ah0 {w:World} {ι:Io} {M:Ms} {v u:Value} (h:RS w ι M (.c (.t (.atm v))) u):u=v:=by
 cases h with|c h=>cases h with|t h=>cases h with|atm=>rfl
theorem b8h (l:List Value) (h:l.length=38):l=(List.range 38).map fun i=>l.getD i undef:=by
 refine List.ext_getElem? fun i=>?_
 by_cases hi:i<38
 ·have hl:i<l.length:=by omega
  simp [hi,lbl,hl]
 ·rw [lbd (by omega),lbd (by simp;omega)]
def S.isJunk:S->Bool
 |.junk=>true
 |_=>false
theorem b0V {l:List S} (ks:List Nat) (h:(l.zipIdx.all fun p=>ks.any (Nat.beq p.2) || p.1.isJunk)=true) {t:Nat} {x:S} (hx:l[t]? =some x):t ∈ ks∨x=J:=by
 have h1:=lbw.1 h (x,t) (by rw [List.mem_zipIdx_iff_getElem?];exact hx)
 rw [lbO] at h1
 rcases h1 with h1|h1
 ·obtain ⟨k,hk,he⟩:=lbx.1 h1
  have:t=k:=Nat.eq_of_beq_eq_true he
  subst this;exact .inl hk
 ·right
  cases x with
  |junk=>rfl
  |_=>cases h1
theorem b7R (a:Act) (h:a.tmps.size=38) (hd:a.defers=[]):a=⟨((List.range 38).map fun i=>a.tmps.getD i undef).toArray,[]⟩:=by
 obtain ⟨tm,ds⟩:=a
 have hd:ds=[]:=hd
 subst hd
 congr 1
 have:=b8h tm.toList (by simpa using h)
 obtain ⟨l⟩:=tm
 simpa using congrArg List.toArray this
section
variable {X ns Bn By Bl Bd lp n:Nat} {l:List Int} {A:Option Addr} {cap:Nat}
abbrev b3S (Bn By Bl Bd:Nat):List Value:=[.pointer (some ⟨Bn,0,none⟩),.pointer (some ⟨By,0,none⟩),.pointer (some ⟨Bl,0,none⟩),.pointer (some ⟨Bd,0,none⟩)]
abbrev dnF (Bn By Bl Bd:Nat):Value:=.func (.func 200) #[] #[.pointer (some ⟨Bn,0,none⟩),.pointer (some ⟨By,0,none⟩),.pointer (some ⟨Bl,0,none⟩),.pointer (some ⟨Bd,0,none⟩)]
abbrev XE:=List Int × Value
def GX (n0:Nat) (x:XE) (W:World):Prop:=a19 n0 W x.1 x.2∧x.1.length<=1000
theorem a3d {n0:Nat} {W:World} {s:List Int} {v:Value} (h:a19 n0 W s v):∃A cap,v=.slice A s.length cap:=by
 rcases h with ⟨rfl,A,rfl⟩|⟨g,cap,cur,rfl,_⟩
 ·exact ⟨A,0,rfl⟩
 ·exact ⟨_,cap,rfl⟩
theorem b03 {W:World} {b:Nat} {t:TypeId} {v:Value} {x:T} (h:Boxed W b t v) (hx:RT W (fun _=>False) x v):RT W (fun _=>False) (.ptr [x]) (.pointer (some ⟨b,0,none⟩)):=by
 refine .ptr (b:=b) (off:=0) (fun _=>v) (fun j c hj=>?_) (fun j c hj=>?_)
 ·cases j with
  |zero=>exact ⟨h.cell,fun h=>h⟩
  |succ j=>simp at hj
 ·cases j with
  |zero=>injection hj with hj;subst hj;exact hx
  |succ j=>simp at hj
theorem b2i (hCl:∀l:List Int,l.length<=100000->e7 Tryz.prog 201 [i6 l] [] (.c (.own 0 0 l.length true)) [C0 l])
 (JJ:List XE->World->Prop) (hJk:∀pre A B,JJ pre A->A.grownBy B none->JJ pre B) (n0 N:Nat)
 (hY:∀m pre x W,JJ pre W->GX n0 x W->pre.length<N->YieldAt Fence.wide m Tryz.prog lp #[x.2] W fun e W'=>e=.returned (.bool true)∧JJ (pre++[x]) W'∧KpX X ns W W')
 (m:Nat) (s:List Int) (sv:Value) (i:Int) (pre:List XE) (W:World) (hs:s.length=n) (h1000:s.length<=1000) (hD:DnC X ns Bn By Bl Bd lp n l A cap W) (hsv:a19 ns W s sv) (hJ:JJ pre W) (hN:pre.length<N) (hW:n0<=W.heap.size):
 CallsIn Fence.wide m Tryz.prog 200 (#[.int .i64 i,sv]++(b3S Bn By Bl Bd).toArray) W fun e W'=>e=.returned (.bool true)∧∃v,JJ (pre++[(s,v)]) W'∧KpX X ns W W':=by
 obtain ⟨As,cs,hsv2⟩:=a3d hsv
 have hrt:RT W (fun _=>False) (E5 s) sv:=hsv.rt fun b h=>h.elim
 subst hsv2
 have c1:=hD.bn.cell
 have hcl:=fun H:Hp=>a2K (H:=H) (hCl s (by omega)) rfl rfl (j6 _)
 have hmx:Tryz.prog.follows .mixedOrders=true:=by kernel_rfl
 refine callsIn_of_wp Tryz.func200 rfl trivial ?_ rfl
 simp only [Tryz.ntmps200,List.size_toArray,lbu,List.length_nil,Nat.reduceAdd,Nat.reduceSub,Array.replicate_succ,Array.replicate_zero,List.push_toArray,List.append_toArray,List.nil_append,List.cons_append]
 gi_wp2
 all_goals try omega
 refine ao6 ?_
 refine aO6 (k:=3) (env:=[J,i6 s,J,S.c (C.t (T.ptr [T.atm (.func (.yield lp) #[] #[])]))]++Jn 34) e8 hmx (by decide +kernel) (by decide +kernel) (by decide +kernel) (K:=fun env' H'=>env'[14]? =some (.c (.t (.atm (.func (.yield lp) #[] #[]))))∧env'[16]? =some (.c (.own 0 0 s.length true))∧H'=[C0 s]∧env'.length=38) ?h ?s ?k
 case h=>
  conv=>whnf
  repeat' (first|refine zx ?_|refine .inl ⟨_,_,hcl _,?_⟩|refine zd ?_ ?_<;>intro h<;>try omega|fail)<;>conv=>whnf
  all_goals first
   |exact ⟨rfl,rfl,rfl,rfl⟩
 case s=>
  refine am3 rfl rfl fun t x hx=>?_
  rcases b0V [1,3] rfl hx with ht|rfl
  ·have ht:t=1∨t=3:=by simpa using ht
   rcases ht with rfl|rfl
   ·injection hx with hx;subst hx;exact .c (.t hrt)
   ·injection hx with hx;subst hx;exact .c (.t (b03 hD.yd (.atm rfl)))
  ·exact .junk
 case k=>
  rintro env' H' a' w' ⟨k1,k2,rfl,k4⟩ hS hfr
  clear hfr
  obtain ⟨e1,e2,e3,ι,M,e4,e5,e6⟩:=b0X hS
  have e14:=ah0 (e4 14 _ k1)
  have e16:=aP1 (n0:=n0) e5 rfl (e4 16 _ k2) (fun b c z hb=>by have:=e6 0 _ b c z rfl rfl hb;omega)
  rw [b7R a' (by omega) e1]
  simp only [List.range,List.range.loop,List.map]
  rw [e14]
  generalize a'.tmps.getD 16 undef=v at e16
  generalize a'.tmps.getD 0 undef=x0
  generalize a'.tmps.getD 1 undef=x1
  generalize a'.tmps.getD 2 undef=x2
  generalize a'.tmps.getD 3 undef=x3
  generalize a'.tmps.getD 4 undef=x4
  generalize a'.tmps.getD 5 undef=x5
  generalize a'.tmps.getD 6 undef=x6
  generalize a'.tmps.getD 7 undef=x7
  generalize a'.tmps.getD 8 undef=x8
  generalize a'.tmps.getD 9 undef=x9
  generalize a'.tmps.getD 10 undef=x10
  generalize a'.tmps.getD 11 undef=x11
  generalize a'.tmps.getD 12 undef=x12
  generalize a'.tmps.getD 13 undef=x13
  generalize a'.tmps.getD 15 undef=x15
  generalize a'.tmps.getD 17 undef=x17
  generalize a'.tmps.getD 18 undef=x18
  generalize a'.tmps.getD 19 undef=x19
  generalize a'.tmps.getD 20 undef=x20
  generalize a'.tmps.getD 21 undef=x21
  generalize a'.tmps.getD 22 undef=x22
  generalize a'.tmps.getD 23 undef=x23
  generalize a'.tmps.getD 24 undef=x24
  generalize a'.tmps.getD 25 undef=x25
  generalize a'.tmps.getD 26 undef=x26
  generalize a'.tmps.getD 27 undef=x27
  generalize a'.tmps.getD 28 undef=x28
  generalize a'.tmps.getD 29 undef=x29
  generalize a'.tmps.getD 30 undef=x30
  generalize a'.tmps.getD 31 undef=x31
  generalize a'.tmps.getD 32 undef=x32
  generalize a'.tmps.getD 33 undef=x33
  generalize a'.tmps.getD 34 undef=x34
  generalize a'.tmps.getD 35 undef=x35
  generalize a'.tmps.getD 36 undef=x36
  generalize a'.tmps.getD 37 undef=x37
  obtain ⟨fn,tmps,assign,body,hy,hR⟩:=hY (m - 1) pre (s,v) w' (hJk _ _ _ hJ e3) ⟨e16,h1000⟩ hN
  gi_wp2
  refine ⟨fun h=>by simp [Fence.wide] at h,?_⟩
  refine hR.mono ?_
  rintro e W3 ⟨rfl,hJ3,hk3⟩
  gi_wp2
  go_ret
  exact ⟨rfl,v,hJ3,(KpX.grown e3).trans hk3⟩
theorem ac8 {l:List Int} {j k:Nat} {x:Int} (h:l[j]? =some x):E8 (l.drop j) (k+1)=(E8 (l.drop (j+1)) k).map (x::·)++E8 (l.drop (j+1)) (k+1):=by
 have hlt:=(lbe.1 h).1
 rw [lbf hlt] at h
 injection h with h
 rw [List.drop_eq_getElem_cons hlt,E8,h]
theorem b6O (hCl:∀l:List Int,l.length<=100000->e7 Tryz.prog 201 [i6 l] [] (.c (.own 0 0 l.length true)) [C0 l])
 (JJ:List XE->World->Prop) (hJk:∀pre A B,JJ pre A->A.grownBy B none->JJ pre B) (n0 N:Nat) (hl:l.length<=1000) (h1000:n<=1000)
 (hY:∀m pre x W,JJ pre W->GX n0 x W->pre.length<N->YieldAt Fence.wide m Tryz.prog lp #[x.2] W fun e W'=>e=.returned (.bool true)∧JJ (pre++[x]) W'∧KpX X ns W W') (hn0:n0<=ns):
 ∀(k m:Nat) (s:List Int) (sv:Value) (i:Nat) (pre:List XE) (W:World),s.length+k=n->i<=l.length->DnC X ns Bn By Bl Bd lp n l A cap W->a19 ns W s sv->JJ pre W->pre.length+(E8 (l.drop i) k).length<=N->ns<=W.heap.size->
 CallsIn Fence.wide m Tryz.prog 200 (#[.int .i64 (i:Int),sv]++(b3S Bn By Bl Bd).toArray) W fun e W'=>e=.returned (.bool true)∧∃xs:List XE,xs.map Prod.fst=(E8 (l.drop i) k).map (s++·)∧JJ (pre++xs) W'∧KpX X ns W W':=by
 intro k
 induction k with
 |zero=>
  intro m s sv i pre W hs hi hD hsv hJ hN hW
  refine (b2i hCl JJ hJk n0 N hY m s sv i pre W (by omega) (by omega) hD hsv hJ (by simp [E8] at hN;omega) (by omega)).mono ?_
  rintro e W' ⟨rfl,v,h1,h2⟩
  exact ⟨rfl,[(s,v)],by simp [E8],h1,h2⟩
 |succ k ih=>
  intro m s sv i pre W hs hi hD hsv hJ hN hW
  obtain ⟨As,cs,hsv2⟩:=a3d hsv
  subst hsv2
  have c1:=hD.bn.cell
  have hmx:Tryz.prog.follows .mixedOrders=true:=by kernel_rfl
  have hsn:¬(s.length:Int)=(n:Int):=by omega
  refine callsIn_of_wp Tryz.func200 rfl trivial ?_ rfl
  simp only [Tryz.ntmps200,List.size_toArray,lbu,List.length_nil,Nat.reduceAdd,Nat.reduceSub,Array.replicate_succ,Array.replicate_zero,List.push_toArray,List.append_toArray,List.nil_append,List.cons_append]
  gi_wp2
  all_goals try omega
  gi_loopw [9] (fun iv wr=>∃j:Nat,i<=j∧j<=l.length∧iv=.int .i64 (j:Int)∧∃xs:List XE,xs.map Prod.fst++(E8 (l.drop j) (k+1)).map (s++·)=(E8 (l.drop i) (k+1)).map (s++·)∧JJ (pre++xs) wr∧KpX X ns W wr) (fun iv _=>l.length - (intOf iv).toNat)
  case atStart=>exact ⟨i,lbR _,hi,rfl,[],by simp,by simpa using hJ,KpX.refl _ _ _⟩
  case round=>
   obtain ⟨j,hij,hjl,rfl,xs,hxs,hJj,hkj⟩:=hrel
   have hDr:=hD.keep hkj
   have hXn:=hD.nX.2.2.2.2.2
   have hsr:=hkj.irow hXn hsv
   have d2:=hDr.bl.cell
   by_cases hlt:j<l.length
   ·obtain ⟨x,hx⟩:∃x,l[j]? =some x:=⟨_,lbf hlt⟩
    have hrt:RT wr (fun _=>False) (E5 s) (.slice As s.length cs):=hsr.rt fun b h=>h.elim
    have hrl:=hDr.rt
    have hcp:=b8f s
    gi_wp2
    all_goals try omega
    refine ao6 ?_
    refine aO6 (k:=11) (env:=[J,i6 s,J,J,S.c (C.t (T.ptr [E5 l])),S.c (C.t (T.ptr [T.atm (dnF Bn By Bl Bd)])),J,J,J,b7 .i64 j]++Jn 28) e8 hmx (by decide +kernel) (by decide +kernel) (by decide +kernel) (K:=fun env' H'=>env'[25]? =some (.c (.t (.atm (dnF Bn By Bl Bd))))∧env'[27]? =some (b7 .i64 ((j+1:Nat):Int))∧env'[35]? =some (.c (.own 0 0 (s++[x]).length true))∧H'=[C0 (s++[x])]∧env'.length=38) ?h ?s ?k
    case h=>
     conv=>whnf
     repeat' (first|refine zx ?_|refine qp hcp ?_|refine qp toC ?_|refine qp toC ?_|refine g6 hx ?_|refine b3x (by simp [toC]) rfl (by simp [toC];omega) ?_|refine zd ?_ ?_<;>intro h<;>try omega|fail)<;>conv=>whnf
     all_goals first
      |omega
      |skip
     refine ⟨rfl,?_,?_,?_,rfl⟩
     ·show some (b7 .i64 ((j:Int)+1))=_
      rw [show ((j+1:Nat):Int)=(j:Int)+1 by omega]
     ·show some (S.c (C.own 0 0 ((s.map i5).length+(toC [[T.atm (Value.int .i64 x)]]).length) true))=_
      rw [show (s.map i5).length+(toC [[T.atm (Value.int .i64 x)]]).length=(s++[x]).length by simp [toC]]
     ·show [B6 _ _ _ _]=[C0 _]
      unfold B6
      congr 2
      simp [toC,i5]
    case s=>
     refine am3 rfl rfl fun t x hx=>?_
     rcases b0V [1,4,5,9] rfl hx with ht|rfl
     ·have ht:t=1∨t=4∨t=5∨t=9:=by simpa using ht
      rcases ht with rfl|rfl|rfl|rfl
      ·injection hx with hx;subst hx;exact .c (.t hrt)
      ·injection hx with hx;subst hx;exact .c (.t (b03 hDr.bl hrl))
      ·injection hx with hx;subst hx;exact .c (.t (b03 hDr.bd (.atm rfl)))
      ·injection hx with hx;subst hx;exact .c (.t (.atm rfl))
     ·exact .junk
    case k=>
     rintro env' H' a' w' ⟨k1,k2,k3,rfl,k4⟩ hS hfr
     have f0:=hfr 0 (by decide +kernel)
     have f1:=hfr 1 (by decide +kernel)
     have f2:=hfr 2 (by decide +kernel)
     have f3:=hfr 3 (by decide +kernel)
     have f4:=hfr 4 (by decide +kernel)
     have f5:=hfr 5 (by decide +kernel)
     have f6:=hfr 6 (by decide +kernel)
     have f7:=hfr 7 (by decide +kernel)
     have f8:=hfr 8 (by decide +kernel)
     have f9:=hfr 9 (by decide +kernel)
     have f10:=hfr 10 (by decide +kernel)
     have f11:=hfr 11 (by decide +kernel)
     have f12:=hfr 12 (by decide +kernel)
     have f13:=hfr 13 (by decide +kernel)
     have f14:=hfr 14 (by decide +kernel)
     have f15:=hfr 15 (by decide +kernel)
     have f16:=hfr 16 (by decide +kernel)
     have f17:=hfr 17 (by decide +kernel)
     have f18:=hfr 18 (by decide +kernel)
     have f19:=hfr 19 (by decide +kernel)
     have f20:=hfr 20 (by decide +kernel)
     have f21:=hfr 21 (by decide +kernel)
     have f22:=hfr 22 (by decide +kernel)
     have f23:=hfr 23 (by decide +kernel)
     have f24:=hfr 24 (by decide +kernel)
     have f36:=hfr 36 (by decide +kernel)
     have f37:=hfr 37 (by decide +kernel)
     clear hfr
     simp only [Array.getD_eq_getD_getElem?,List.getElem?_toArray,List.getElem?_cons_zero,List.getElem?_cons_succ,Option.getD_some] at f0 f1 f2 f3 f4 f5 f6 f7 f8 f9 f10 f11 f12 f13 f14 f15 f16 f17 f18 f19 f20 f21 f22 f23 f24 f36 f37
     obtain ⟨e1,e2,e3,ι,M,e4,e5,e6⟩:=b0X hS
     have e25:=ah0 (e4 25 _ k1)
     have e27:=ah0 (e4 27 _ k2)
     have e35:=aP1 (n0:=ns) e5 rfl (e4 35 _ k3) (fun b c z hb=>by have:=e6 0 _ b c z rfl rfl hb;have:=hkj.size;omega)
     rw [b7R a' (by omega) e1]
     simp only [List.range,List.range.loop,List.map]
     generalize a'.tmps.getD 35 undef=v35 at e35 ⊢
     generalize a'.tmps.getD 26 undef=x26
     generalize a'.tmps.getD 28 undef=x28
     generalize a'.tmps.getD 29 undef=x29
     generalize a'.tmps.getD 30 undef=x30
     generalize a'.tmps.getD 31 undef=x31
     generalize a'.tmps.getD 32 undef=x32
     generalize a'.tmps.getD 33 undef=x33
     generalize a'.tmps.getD 34 undef=x34
     simp only [Array.getD_eq_getD_getElem?] at e25 e27 ⊢
     rw [e25,e27,f0,f1,f2,f3,f4,f5,f6,f7,f8,f9,f10,f11,f12,f13,f14,f15,f16,f17,f18,f19,f20,f21,f22,f23,f24,f36,f37]
     have hdd:∀k:Nat,(Fence.wide.depth.isSome=true->1<=k):=fun k h=>by simp [Fence.wide] at h
     have hJ':=hJk _ _ _ hJj e3
     have hN':(pre++xs).length+(E8 (l.drop (j+1)) k).length<=N:=by
      have q:=congrArg List.length hxs
      rw [ac8 hx] at q
      simp only [lbq,lbr] at q ⊢
      omega
     have hk':=hkj.trans (KpX.grown e3)
     have hD':=hD.keep hk'
     gi_wp2_with (refine ⟨trivial,hdd _,?_⟩;refine (ih (m - 1) (s++[x]) _ (j+1) (pre++xs) w' (by simp;omega) (by omega) hD' e35 hJ' hN' (by have:=hk'.size;omega)).mono ?_;rintro e W3 ⟨rfl,ys,hys,hJ3,hk3⟩)
     have hbq:((s.length:Int) == (n:Int))=false:=by simpa using hsn
     simp only [hbq]
     refine ⟨⟨_,_,_,_,_,_,_,_,_,_,_,_,_,_,_,_,_,_,_,_,_,⟨j+1,by omega,by omega,?_,xs++ys,?_,by rw [← lbE];exact hJ3,hk'.trans hk3⟩,rfl⟩,?_⟩
     ·rw [show ((j+1:Nat):Int)=(j:Int)+1 by omega]
     ·rw [← hxs,ac8 hx,lbD,lbD,lbE,hys,List.map_map]
      congr 2
      refine lbp fun q _=>?_
      simp
     ·simp [intOf];omega
   ·have hje:j=l.length:=by omega
    subst hje
    gi_wp2
    all_goals try omega
    go_ret
    refine ⟨rfl,xs,?_,hJj,hkj⟩
    rw [List.drop_length] at hxs
    simpa [E8] using hxs
end
end
section
open Go.RowKit Go.Shelf
attribute [local go_sem] Oper.semAt_some
theorem ay6 {P:Program} {w:World} {a:Addr} {m:Mode} (fn:Fn) (first captured:Array Value):(store a (.func fn first captured) m).run P w=stored P w a (.func fn first captured) m:=run_store P w a _ m rfl
attribute [local go_sem] ay6
section
variable {X ns Bn Bl n:Nat} {l:List Int} {A:Option Addr} {cap:Nat}
theorem b43 (hCl:∀l:List Int,l.length<=100000->e7 Tryz.prog 201 [i6 l] [] (.c (.own 0 0 l.length true)) [C0 l])
 (JJ:List XE->World->Prop) (hJk:∀pre A B,JJ pre A->A.grownBy B none->JJ pre B) (lp m N:Nat) (hN:(E8 l n).length<=N) (hl:l.length<=1000) (h1000:n<=1000)
 (hY:∀m pre x W,JJ pre W->GX ns x W->pre.length<N->YieldAt Fence.wide m Tryz.prog lp #[x.2] W fun e W'=>e=.returned (.bool true)∧JJ (pre++[x]) W'∧KpX X ns W W')
 (W:World) (hW:ns<=W.heap.size) (hbn:Boxed W Bn tI (.int .i64 (n:Int))) (hbl:Boxed W Bl tIs (.slice A l.length cap)) (row:∀i x,l[i]? =some x->∃b off,A=some ⟨b,off,none⟩∧W.cell? ⟨b,off+i,none⟩=some (.int .i64 x)∧b<ns∧b≠X)
 (nX:Bn≠X∧Bl≠X∧Bl<ns∧X<ns) (lc:l.length<=cap∧cap<=maxLen) (hJ:JJ [] W):
 CallsIn Fence.wide m Tryz.prog 199 (#[.func (.yield lp) #[] #[]]++#[.pointer (some ⟨Bn,0,none⟩),.pointer (some ⟨Bl,0,none⟩)]) W fun e W'=>(∃ v,e=.returned v)∧∃xs:List XE,xs.map Prod.fst=E8 l n∧JJ xs W':=by
 have g1:W.grownBy (W.alloc (.cells #[.func (.yield lp) #[] #[]] 166)) none:=World.grownBy_alloc W _ none
 have bD0:=Boxed.new (W.alloc (.cells #[.func (.yield lp) #[] #[]] 166)) 219 .nilFunc
 rw [World.size_alloc] at bD0
 have cD:=bD0.cell
 have fD:=bD0.frozen
 have bD:=Boxed.new (W.alloc (.cells #[.func (.yield lp) #[] #[]] 166)) 219 (dnF Bn W.heap.size Bl (W.heap.size+1))
 have bY:=(Boxed.new W 166 (.func (.yield lp) #[] #[])).alloc (.cells #[dnF Bn W.heap.size Bl (W.heap.size+1)] 219)
 rw [World.size_alloc] at bD
 have g2:W.grownBy ((W.alloc (.cells #[.func (.yield lp) #[] #[]] 166)).alloc (.cells #[dnF Bn W.heap.size Bl (W.heap.size+1)] 219)) none:=by
  refine ⟨rfl,rfl,rfl,by simp;omega,fun k hk _=>?_⟩
  exact (Below.heap_alloc _ _ _ (by simp;omega)).trans (Below.heap_alloc _ _ _ hk)
 have hJ2:=hJk _ _ _ hJ g2
 have k2:=KpX.grown (X:=X) (ns:=ns) g2
 have s2:ns<=((W.alloc (.cells #[.func (.yield lp) #[] #[]] 166)).alloc (.cells #[dnF Bn W.heap.size Bl (W.heap.size+1)] 219)).heap.size:=by have:=k2.size;omega
 obtain ⟨n1,n2,n3,n4⟩:=nX
 have hD:DnC X ns Bn W.heap.size Bl (W.heap.size+1) lp n l A cap ((W.alloc (.cells #[.func (.yield lp) #[] #[]] 166)).alloc (.cells #[dnF Bn W.heap.size Bl (W.heap.size+1)] 219)):=
  ⟨k2.boxed hbn n1 (.inr (by decide)),bY,k2.boxed hbl n2 (.inl n3),bD,fun i x hx=>by
    obtain ⟨b,off,h1,h2,h3,h4⟩:=row i x hx
    exact ⟨b,off,h1,k2.cell h2 h4 h3,h3,h4⟩,⟨n1,by omega,n2,by omega,n3,n4⟩,lc⟩
 have hdd:∀k:Nat,(Fence.wide.depth.isSome=true->1<=k):=fun k h=>by simp [Fence.wide] at h
 refine callsIn_of_wp Tryz.func199 rfl trivial ?_ rfl
 simp only [Tryz.ntmps199,List.size_toArray,lbu,List.length_nil,Nat.reduceAdd,Nat.reduceSub,Array.replicate_succ,Array.replicate_zero,List.push_toArray,List.append_toArray,List.nil_append,List.cons_append]
 gi_wp2_with (refine ⟨trivial,hdd _,?_⟩;refine (b6O hCl JJ hJk ns N hl h1000 hY (lbR _) n (m - 1) [] (.slice none 0 0) 0 [] _ (by simp) (Nat.zero_le _) hD (.inl ⟨rfl,none,rfl⟩) hJ2 (by simpa using hN) s2).mono ?_;rintro e W3 ⟨rfl,ys,hys,hJ3,hk3⟩)
 go_end0
 exact ⟨⟨_,rfl⟩,ys,by simpa using hys,by simpa using hJ3⟩
theorem b4B (hCl:∀l:List Int,l.length<=100000->e7 Tryz.prog 201 [i6 l] [] (.c (.own 0 0 l.length true)) [C0 l]) (m:Nat) (hl:l.length<=1000) (h1000:n<=1000)
 (w:World) (hw:ns<=w.heap.size) (hbn:Boxed w Bn tI (.int .i64 (n:Int))) (hbl:Boxed w Bl tIs (.slice A l.length cap)) (row:∀i x,l[i]? =some x->∃b off,A=some ⟨b,off,none⟩∧w.cell? ⟨b,off+i,none⟩=some (.int .i64 x)∧b<ns∧b≠X)
 (nX:Bn≠X∧Bl≠X∧Bn<ns∧Bl<ns∧X<ns) (lc:l.length<=cap∧cap<=maxLen):
 b9r Fence.wide m Tryz.prog 199 #[.pointer (some ⟨Bn,0,none⟩),.pointer (some ⟨Bl,0,none⟩)] (fun x:XE=>#[x.2]) (GX ns) (KpX X ns) (fun xs=>xs.map Prod.fst=E8 l n) (E8 l n).length w:=by
 intro lp JJ W hW hJ hY h0
 obtain ⟨n1,n2,n3,n4,n5⟩:=nX
 refine b43 hCl JJ (fun pre A B h hg=>hJ pre A B none h hg (fun r e=>by cases e)) lp m _ (lbR _) hl h1000 (fun m' pre x W1 h1 h2 h3=>YieldAt.anyDepth rfl m' (hY pre x W1 h1 h2 h3)) W (by have:=hW.size;omega)
  ((hW.block Bn (by omega)).trans hbn) ((hW.block Bl (by omega)).trans hbl) (fun i x hx=>?_) ⟨n1,n2,n4,n5⟩ lc h0
 obtain ⟨b,off,h1,h2,h3,h4⟩:=row i x hx
 exact ⟨b,off,h1,(hW.cell (p:=⟨b,off+i,none⟩) (by show b<_;omega)).trans h2,h3,h4⟩
theorem b2H (m:Nat) (A:Option Addr) (len cap:Nat) (n:Int) (w:World):
 CallsIn Fence.wide m Tryz.prog 128 #[.slice A len cap,.int .i64 n] w fun e w'=>e=.returned (.func (.func 199) #[] #[.pointer (some ⟨w.heap.size+1,0,none⟩),.pointer (some ⟨w.heap.size,0,none⟩)])∧
  w'=(w.alloc (.cells #[.slice A len cap] tIs)).alloc (.cells #[.int .i64 n] tI):=by
 refine callsIn_of_wp Tryz.func128 rfl trivial ?_ rfl
 simp only [Tryz.ntmps128,List.size_toArray,lbu,List.length_nil,Nat.reduceAdd,Nat.reduceSub,Array.replicate_succ,Array.replicate_zero,List.push_toArray,List.append_toArray,List.nil_append,List.cons_append]
 gi_wp2
 go_ret
 exact ⟨rfl,rfl⟩
end
end
def P5 (n:Int):Int->List Int->Bool
 |_,[]=>true
 |a,h::r=>decide (a<h) && decide (h<n) && P5 n h r
def a0n (n:Int) (l:List Int):Bool:=P5 n (-1) l
theorem a8y {n x:Int}:∀{a:Int} {l:List Int},P5 n a (l++[x])=(P5 n a l && decide (l.getLastD a<x) && decide (x<n))
 |a,[]=>by simp [P5]
 |a,h::r=>by
  rw [List.cons_append,P5,P5,a8y (a:=h) (l:=r)]
  have:(h::r).getLastD a=r.getLastD h:=by cases r<;>rfl
  rw [this]
  simp only [Bool.and_assoc]
theorem a9z {n:Int}:∀{a:Int} {l r:List Int},P5 n a (l++r)=true->P5 n a l=true
 |a,[],r,_=>rfl
 |a,h::l,r,hs=>by
  rw [List.cons_append,P5,lbN] at hs
  rw [P5,hs.1,a9z hs.2];rfl
theorem a9p {n:Int}:∀{a:Int} {l:List Int},P5 n a l=true↔l.Pairwise (·<·)∧∀x ∈ l,a<x∧x<n
 |a,[]=>by simp [P5]
 |a,h::r=>by
  rw [P5,lbN,lbN,lbJ,lbJ,a9p (a:=h) (l:=r),List.pairwise_cons]
  constructor
  ·rintro ⟨⟨h1,h2⟩,h3,h4⟩
   exact ⟨⟨fun x hx=>(h4 x hx).1,h3⟩,fun x hx=>by
    rcases lbB.1 hx with rfl|hx
    ·exact ⟨h1,h2⟩
    ·have:=h4 x hx;omega⟩
  ·rintro ⟨⟨h1,h2⟩,h3⟩
   have h0:=h3 h (by simp)
   exact ⟨⟨h0.1,h0.2⟩,h2,fun x hx=>⟨h1 x hx,(h3 x (by simp [hx])).2⟩⟩
theorem a5Q {n:Int} {l:List Int}:a0n n l=true↔l.Pairwise (·<·)∧∀x ∈ l,0<=x∧x<n:=by
 unfold a0n
 rw [a9p]
 constructor
 ·rintro ⟨h1,h2⟩;exact ⟨h1,fun x hx=>by have:=h2 x hx;omega⟩
 ·rintro ⟨h1,h2⟩;exact ⟨h1,fun x hx=>by have:=h2 x hx;omega⟩
def G9 (l:List Int):List H6:=l.map fun i=>⟨[(i,((1:Int):Rat))],2,((0:Int):Rat)⟩
def Y5 (t:g7) (h:Int):List Int:=L2 t.ev h (-1) 0 100000
def C7 (set:List Int) (h:Int):Bool:=set.any fun x=>decide (x=h)
theorem a0D {set:List Int} {h:Int}:C7 set h=true↔h ∈ set:=by
 unfold C7
 rw [lbx]
 constructor
 ·rintro ⟨x,hx,e⟩;rw [← lbM e];exact hx
 ·intro hx;exact ⟨h,hx,lbI rfl⟩
def E0 (t:g7) (set:List Int):Nat->List H6
 |0=>[]
 |h+1=>if C7 set (h:Int)=true then E0 t set h else E0 t set h++G9 (Y5 t (h:Int))
theorem a0S {t:g7} {set:List Int} {w:H6}:∀{n:Nat},w ∈ E0 t set n↔∃h:Nat,h<n∧(h:Int) ∉ set∧∃i ∈ Y5 t (h:Int),w=⟨[(i,((1:Int):Rat))],2,((0:Int):Rat)⟩
 |0=>by simp [E0]
 |n+1=>by
  have ih:=a0S (t:=t) (set:=set) (w:=w) (n:=n)
  unfold E0
  by_cases hs:C7 set (n:Int)=true
  ·rw [if_pos hs,ih]
   constructor
   ·rintro ⟨h,h1,h2⟩;exact ⟨h,by omega,h2⟩
   ·rintro ⟨h,h1,h2,h3⟩
    refine ⟨h,?_,h2,h3⟩
    by_cases e:h=n
    ·subst e;exact absurd (a0D.1 hs) h2
    ·omega
  ·rw [if_neg hs,lbA,ih]
   have hns:(n:Int) ∉ set:=fun h=>hs (a0D.2 h)
   constructor
   ·rintro (⟨h,h1,h2⟩|h)
    ·exact ⟨h,by omega,h2⟩
    ·obtain ⟨i,hi,rfl⟩:=lby.1 h
     exact ⟨n,by omega,hns,i,hi,rfl⟩
   ·rintro ⟨h,h1,h2,i,hi,rfl⟩
    by_cases e:h=n
    ·subst e;exact .inr (lby.2 ⟨i,hi,rfl⟩)
    ·exact .inl ⟨h,by omega,h2,i,hi,rfl⟩
theorem a4j {t:g7} {set:List Int}:∀n,(E0 t set n).length<=n*t.ev.moves.length
 |0=>by simp [E0]
 |n+1=>by
  have ih:=a4j (t:=t) (set:=set) n
  have hl:(Y5 t (n:Int)).length<=t.ev.moves.length:=a3H
  unfold E0
  rw [lbV]
  split
  ·omega
  ·rw [lbq]
   have:(G9 (Y5 t (n:Int))).length=(Y5 t (n:Int)).length:=by simp [G9]
   omega
def a5x (t:g7) (kind:Int) (n:Nat) (set:List Int):List H6:=(m7 t kind).rows++E0 t set n
def a2P (t:g7) (kind:Int) (n:Nat) (set:List Int):k7:=⟨t.ev.moves.length,a5x t kind n set⟩
structure XT (t:g7) (kind:Int) (n:Nat):Prop where
 s:t.Sized
 e:s6 t=0
 k0:0<=kind
 k1:kind<8
 m:t.ev.moves.length<=8
 h:t.ev.hhs=(n:Nat)
 h4:n<=6
 f:t.finds.length<=20
theorem XT.c {t:g7} {kind:Int} {n:Nat} (h:XT t kind n):t.cleans.length<=50:=(B4 h.e).2.2.1
theorem XT.len {t:g7} {kind:Int} {n:Nat} (h:XT t kind n) (set:List Int):(a5x t kind n set).length<=700:=by
 have h1:=S7 (t:=t) (kind:=kind) t.ev.moves.length
 have h2:=a4j (t:=t) (set:=set) n
 have h3:t.ev.moves.length*(2+t.finds.length+t.cleans.length)<=8*72:=lbT h.m (by have:=h.f;have:=h.c;omega)
 have h4:n*t.ev.moves.length<=6*8:=lbT h.h4 h.m
 have h5:(m7 t kind).rows.length<=8*72:=lbS h1 h3
 show ((m7 t kind).rows++E0 t set n).length<=_
 rw [lbq]
 omega
theorem XT.right {t:g7} {kind:Int} {n:Nat} (h:XT t kind n) (set:List Int):m8 (a2P t kind n set)=true:=by
 have hs:=a1k (t:=t) (kind:=kind) (by have:=h.m;omega) h.f h.c
 have hl:=h.len set
 unfold m8 at hs ⊢
 simp only [lbN,lbJ] at hs ⊢
 obtain ⟨⟨⟨h1,h2⟩,h3⟩,h4⟩:=hs
 refine ⟨⟨⟨h1,h2⟩,?_⟩,?_⟩
 ·show (a5x t kind n set).length<=6000
  omega
 ·show ((m7 t kind).rows++E0 t set n).all (B5 (t.ev.moves.length:Nat))=true
  rw [List.all_append]
  have h5:(m7 t kind).rows.all (B5 (t.ev.moves.length:Nat))=true:=h4
  rw [h5,Bool.true_and,lbw]
  intro w hw
  obtain ⟨hh,_,_,i,hi,rfl⟩:=a0S.1 hw
  have hi:=a7n hi
  unfold B5
  simp only [lbN,lbJ]
  exact ⟨⟨a3t (by omega) (by omega) a3K,by decide⟩,by decide⟩
theorem a8L {i:Int} (h:0<=i) {z:List Rat}:U5 ⟨[(i,((1:Int):Rat))],2,((0:Int):Rat)⟩ z=true↔z.getD i.toNat 0=0:=by
 have:=a2B (i:=i.toNat) (v:=((0:Int):Rat)) (z:=z)
 unfold A0 at this
 rw [lbZ h] at this
 exact this
theorem XT.holds {t:g7} {kind:Int} {n:Nat} (h:XT t kind n) (set:List Int) {z:List Rat}:i7 (a2P t kind n set) z=true↔i7 (m7 t kind) z=true∧∀i:Nat,i<n->(i:Int) ∉ set->m6 (E9 t i) z=0:=by
 have hr1:=h.right set
 have hr2:=a1k (t:=t) (kind:=kind) (by have:=h.m;omega) h.f h.c
 have e:i7 (a2P t kind n set) z=(i7 (m7 t kind) z && (E0 t set n).all fun w=>U5 w z):=by
  unfold i7
  rw [hr1,hr2]
  show (true && decide ((z.length:Int)=(t.ev.moves.length:Nat)) && _ && ((m7 t kind).rows++E0 t set n).all _)=_
  rw [List.all_append]
  simp only [Bool.true_and,Bool.and_assoc]
  rfl
 rw [e,lbN]
 refine and_congr_right fun hz=>?_
 have hp:=a1u hz
 rw [lbw]
 have key:∀i:Nat,m6 (E9 t (i:Int)) z=0↔∀j ∈ Y5 t (i:Int),z.getD j.toNat 0=0:=fun i=>by
  have h0:∀j,0<=z.getD j 0:=fun j=>by
   by_cases hj:j<z.length
   ·exact hp _ (lbm (getD_some hj))
   ·rw [lbl,lbd (by omega)];exact lb2
  have h1:0<=m6 (E9 t (i:Int)) z:=a6L hp _ (a7E t _)
  have h2:=a7r hp (Y5 t (i:Int))
  have h2:0<m6 (E9 t (i:Int)) z↔_:=h2
  constructor
  ·intro h3 j hj
   have h4:=h0 j.toNat
   apply a0k
   intro hne
   have:0<m6 (E9 t (i:Int)) z:=h2.2 ⟨j,hj,by grind⟩
   grind
  ·intro h3
   have:¬0<m6 (E9 t (i:Int)) z:=fun h4=>by
    obtain ⟨j,hj,h5⟩:=h2.1 h4
    rw [h3 j hj] at h5
    exact absurd h5 (by decide +kernel)
   grind
 constructor
 ·intro hw i hi hn
  refine (key i).2 fun j hj=>?_
  exact (a8L (a7n hj).1).1 (hw _ (a0S.2 ⟨i,hi,hn,j,hj,rfl⟩))
 ·intro hg w hw
  obtain ⟨i,hi,hn,j,hj,rfl⟩:=a0S.1 hw
  exact (a8L (a7n hj).1).2 ((key i).1 (hg i hi hn) j hj)
theorem XT.expl {t:g7} {kind:Int} {n:Nat} (h:XT t kind n) (set:List Int):pX t kind n set=true↔∃z,i7 (a2P t kind n set) z=true:=by
 rw [a2g]
 constructor
 ·rintro ⟨z,h1,h2⟩;exact ⟨z,(h.holds set).2 ⟨h1,h2⟩⟩
 ·rintro ⟨z,hz⟩;exact ⟨z,(h.holds set).1 hz⟩
theorem XT.small {t:g7} {kind:Int} {n:Nat} (h:XT t kind n) (set:List Int):a5F (a2P t kind n set):=by
 refine ⟨h.right set,fun w hw=>?_,by have:=h.m;show ((t.ev.moves.length:Nat):Int)<=9;omega,by have:=h.len set;show (a5x t kind n set).length<=999;omega⟩
 rcases lbA.1 hw with hw|hw
 ·exact b9y h.e w hw
 ·obtain ⟨hh,_,_,i,hi,rfl⟩:=a0S.1 hw
  exact ⟨N7 (by decide) (by decide),a6g⟩
theorem XT.best {t:g7} {kind:Int} {n:Nat} (h:XT t kind n) (set:List Int):(pX t kind n set=true∧J9 (a2P t kind n set) []=.best)∨(pX t kind n set=false∧∃r,J9 (a2P t kind n set) []=.row r):=by
 have hr:=h.right set
 rcases av6 hr with ho|⟨r,ho⟩
 ·exact .inl ⟨(h.expl set).2 ⟨_,(a00 hr rfl ho).1⟩,ho⟩
 ·refine .inr ⟨?_,r,ho⟩
  rw [← lbQ]
  intro hp
  obtain ⟨z,hz⟩:=(h.expl set).1 hp
  rw [a3j ho z] at hz
  cases hz
theorem ao0 {n:Int} {l:List Int} {k:Nat} (h:P5 n (-1) (l.take k)=false):a0n n l=false:=by
 unfold a0n
 cases hb:P5 n (-1) l with
 |false=>rfl
 |true=>
  have e:l=l.take k++l.drop k:=(lb8 k l).symm
  rw [e] at hb
  rw [a9z hb] at h;cases h
theorem b6R (e:Ev) (set:List Int) (hl:set.length<=1000000):e7 Tryz.prog 65 [evS e,i6 set] [] (i8 (a0n e.hhs set)) []:=by
 have m1:(set.map i5).length=set.length:=by simp
 (refine ac Tryz.func65 ?_;(conv=>whnf);repeat ((first|refine b0x ?_|refine zy ?_);conv=>whnf))
 repeat' (first|refine zx ?_|refine zd ?_ ?_<;>intro h<;>try omega|fail)<;>conv=>whnf
 refine j5 e8 (fun k=>([J,J,S.c (C.t (T.ptr (evT e))),J,J,b7 .i64 ((set.take k).getLastD (-1)),J,J,i6 set,b7 .i64 set.length,b7 .i64 k]++Jn 14,[])) set.length (fun k=>P5 e.hhs (-1) (set.take k)=true) [] (by simp [P5])
  ⟨rfl,rfl,trivial,⟨rfl,g9 (by simp),rfl,g9 (by simp),rfl,trivial⟩⟩ ?_
 intro k hk hI
 by_cases hlt:k<set.length
 ·obtain ⟨x,hx⟩:∃x,set[k]? =some x:=⟨_,lbf hlt⟩
  have hs:=a3g hx
  have hn:P5 e.hhs (-1) (set.take (k+1))=(decide ((set.take k).getLastD (-1)<x) && decide (x<e.hhs)):=by rw [hs,a8y,hI,Bool.true_and]
  have hg:(set.take (k+1)).getLastD (-1)=x:=by rw [hs];simp
  rw [hg]
  generalize (set.take k).getLastD (-1)=a at hn
  by_cases h1:a<x
  ·by_cases h2:x<e.hhs
   ·rw [lbI h1,lbI h2] at hn
    conv=>whnf
    repeat' (first|refine zx ?_|refine g6 hx ?_|refine zd ?_ ?_<;>intro h<;>try omega|fail)<;>conv=>whnf
    all_goals first
     |omega
     |exact ⟨hlt,hn,[],rfl,rfl,trivial,⟨rfl,rfl,rfl,rfl,g9 (by omega),trivial⟩⟩
   ·rw [lbK h2,Bool.and_false] at hn
    rw [ao0 hn]
    conv=>whnf
    repeat' (first|refine zx ?_|refine g6 hx ?_|refine zd ?_ ?_<;>intro h<;>try omega|fail)<;>conv=>whnf
    all_goals first
     |omega
     |exact i3 rfl
  ·rw [lbK h1,Bool.false_and] at hn
   rw [ao0 hn]
   conv=>whnf
   repeat' (first|refine zx ?_|refine g6 hx ?_|refine zd ?_ ?_<;>intro h<;>try omega|fail)<;>conv=>whnf
   all_goals first
    |omega
    |exact i3 rfl
 ·rw [lbn (by omega)] at hI
  have:a0n e.hhs set=true:=hI
  rw [this]
  conv=>whnf
  repeat' (first|refine zx ?_|refine zd ?_ ?_<;>intro h<;>try omega|fail)<;>conv=>whnf
  all_goals first
   |omega
   |exact i3 rfl
theorem aV9 {t:g7} {set:List Int} {h:Nat} (hs:C7 set (h:Int)=true):E0 t set (h+1)=E0 t set h:=by rw [E0,if_pos hs]
theorem aK8 {t:g7} {set:List Int} {h:Nat} (hs:C7 set (h:Int)=false):E0 t set (h+1)=E0 t set h++G9 (Y5 t (h:Int)):=by rw [E0,if_neg (by rw [hs];decide)]
theorem aj1 {l:List Int} {k:Nat} {i:Int} (h:l[k]? =some i):G9 (l.take (k+1))=G9 (l.take k)++[⟨[(i,((1:Int):Rat))],2,((0:Int):Rat)⟩]:=by
 rw [a3g h];simp [G9]
theorem ae0 (t:g7) (kind:Int) (n:Nat) (hx:XT t kind n) (set:List Int) (hl:set.length<=1000000):
 e7 Tryz.prog 66 [trS t,a1b (m7 t kind),i6 set] [] (i8 (pX t kind n set)) []:=by
 have hs:=hx.s
 have hh:=hx.h
 have hn4:=hx.h4
 have hm:=hx.m
 have hlen:=hx.len set
 have i0:=J4 0 (by decide) (by decide)
 have i1:=J4 1 (by decide) (by decide)
 have rl0:(m7 t kind).rows.length<=700:=by
  have:(m7 t kind).rows.length<=(a5x t kind n set).length:=by unfold a5x;rw [lbq];omega
  omega
 have cl:=fun H:Hp=>a2K (H:=H) (b5h (m7 t kind).rows (by omega)) rfl rfl (j6 _)
 have e9:(m7 t kind).rows++E0 t set n=a5x t kind n set:=rfl
 have e0:(m7 t kind).rows++E0 t set 0=(m7 t kind).rows:=by simp [E0]
 refine a1t e8 Tryz.func66 rfl (by decide) ?_
 refine D3 e8 ?_
 conv=>whnf
 refine b0x ?_
 conv=>whnf
 refine zy ?_
 conv=>whnf
 (refine D3 e8 ?_;conv=>whnf)
 repeat' (first|refine zx ?_|refine qp (0,1) ?_|refine .inl ⟨_,_,cl _,?_⟩|refine bl0 [0,1] ?_|refine zd ?_ ?_<;>intro h<;>try omega|fail)<;>conv=>whnf
 refine b3X e8 ([J,J,J,J,S.c (C.t (T.ptr [ti t.ev.moves.length,a06 (a5x t kind n set)]))]++Jn 55) ?_ ?_
 ·conv=>whnf
  repeat' (first|refine zx ?_|refine zd ?_ ?_<;>intro h<;>try omega|fail)<;>conv=>whnf
  refine j5 e8 (fun q=>([J,J,i6 set,S.c (C.t (T.ptr (trT t))),S.c (C.ptr 0 0 0)]++Jn 14++[b7 .i64 n,b7 .i64 q]++Jn 39,[a3y t.ev.moves.length 1 ((m7 t kind).rows++E0 t set q).length,U6 ((m7 t kind).rows++E0 t set q)])) n (fun _=>True) [some 0,some 1] trivial
   ⟨rfl,rfl,⟨⟨rfl,rfl,rfl,.inr ⟨⟨rfl,⟨rfl,rfl,by rw [e0],fun h=>h⟩,trivial⟩,trivial⟩⟩,b8 (rows:=((m7 t kind).rows++E0 t set 0).map E1) rfl rfl rfl (by rw [e0]) rfl,trivial⟩,⟨rfl,rfl,⟨rfl,rfl,rfl⟩,g9 hh,rfl,trivial⟩⟩ ?_
  intro q hk _
  by_cases hlt:q<n
  ·have sc:=a8C set (q:Int) hl
   have li:=au5 t.ev hs.ev (q:Int) (-1) 0 100000
   cases hin:C7 set (q:Int) with
   |true=>
    have hin':=hin
    unfold C7 at hin'
    rw [hin'] at sc
    rw [aV9 hin]
    conv=>whnf
    repeat' (first|refine zx ?_|refine qp sc ?_|refine zd ?_ ?_<;>intro h<;>try omega|fail)<;>conv=>whnf
    all_goals first
     |omega
     |exact ⟨hlt,trivial,[some 0,some 1],rfl,rfl,⟨⟨rfl,rfl,rfl,.inr ⟨⟨rfl,⟨rfl,rfl,rfl,fun h=>h⟩,trivial⟩,trivial⟩⟩,k9 (j6 _),trivial⟩,⟨rfl,rfl,⟨rfl,rfl,rfl⟩,rfl,g9 (by omega),trivial⟩⟩
   |false=>
    have hin':=hin
    unfold C7 at hin'
    rw [hin'] at sc
    rw [aK8 hin,←lbE]
    have hll:(Y5 t (q:Int)).length<=t.ev.moves.length:=a3H
    have hrl:((m7 t kind).rows++E0 t set q).length<=700:=by
     have h1:=a4j (t:=t) (set:=set) q
     have h2:=S7 (t:=t) (kind:=kind) t.ev.moves.length
     have h3:t.ev.moves.length*(2+t.finds.length+t.cleans.length)<=8*72:=lbT hx.m (by have:=hx.f;have:=hx.c;omega)
     have h4:q*t.ev.moves.length<=6*8:=lbT (by omega) hx.m
     have h5:(m7 t kind).rows.length<=8*72:=lbS h2 h3
     rw [lbq];omega
    have li:e7 Tryz.prog 78 [evS t.ev,b7 .i64 (q:Int),b7 .i64 (-1),b7 .i64 0,b7 .i64 100000] [] (i6 (Y5 t (q:Int))) []:=li
    generalize Y5 t (q:Int)=l at li hll
    have m2:(l.map i5).length=l.length:=by simp
    generalize hR:(m7 t kind).rows++E0 t set q=R at hrl
    conv=>whnf
    repeat' (first|refine zx ?_|refine qp sc ?_|refine qp li ?_|refine zd ?_ ?_<;>intro h<;>try omega|fail)<;>conv=>whnf
    all_goals try omega
    refine j5 e8 (fun i=>([J,J,i6 set,S.c (C.t (T.ptr (trT t))),S.c (C.ptr 0 0 0)]++Jn 14++[b7 .i64 n,b7 .i64 q,J,J,J,J,J,J,J,J,i6 l,b7 .i64 l.length,b7 .i64 i]++Jn 28,[a3y t.ev.moves.length 1 (R++G9 (l.take i)).length,U6 (R++G9 (l.take i))])) l.length (fun _=>True) [some 0,some 1] trivial
     ⟨rfl,rfl,⟨⟨rfl,rfl,rfl,.inr ⟨⟨rfl,⟨rfl,rfl,by simp [G9],fun h=>h⟩,trivial⟩,trivial⟩⟩,b8 (rows:=(R++G9 (l.take 0)).map E1) rfl rfl rfl (by simp [G9]) rfl,trivial⟩,⟨rfl,rfl,⟨rfl,rfl,rfl⟩,rfl,rfl,rfl,g9 (by rw [m2]),rfl,trivial⟩⟩ ?_
    intro i hik _
    have hzl:(G9 (l.take i)).length<=l.length:=by simp [G9];omega
    by_cases hil:i<l.length
    ·obtain ⟨x,hxi⟩:∃x,l[i]? =some x:=⟨_,lbf hil⟩
     rw [aj1 hxi,←lbE]
     have lA:(R++G9 (l.take i)).length<=(U6 (R++G9 (l.take i))).rows.length:=by show _<=(toC _).length;simp [toC]
     have lB:(R++G9 (l.take i)).length<=800:=by rw [lbq];omega
     generalize R++G9 (l.take i)=R2 at lA lB
     conv=>whnf
     repeat' (first|refine zz ?_|refine qp i0 ?_|refine qp i1 ?_|refine qp toC ?_|refine qp (0,1) ?_|refine a6l.weak ?_|refine g6 hxi ?_|refine E4 lA (by simp [toC];omega) ?_|refine bl0 [0,1] ?_|refine zd ?_ ?_<;>intro h<;>try omega|refine zy ?_|fail)<;>conv=>whnf
     all_goals first
      |omega
      |skip
     all_goals
      (refine ⟨hil,trivial,[some 0,some 2],rfl,rfl,⟨⟨rfl,rfl,rfl,.inr ⟨⟨rfl,⟨rfl,rfl,?_,fun h=>h⟩,trivial⟩,trivial⟩⟩,b8 (rows:=(R2++[(⟨[(x,((1:Int):Rat))],2,((0:Int):Rat)⟩:H6)]).map E1) rfl rfl rfl ?_ rfl,trivial⟩,⟨rfl,rfl,⟨rfl,rfl,rfl⟩,rfl,rfl,rfl,rfl,g9 (by omega),trivial⟩⟩
       ·simp [toC]
       ·exact a2D (f:=E1) (x:=(⟨[(x,((1:Int):Rat))],2,((0:Int):Rat)⟩:H6)) rfl)
    ·have hie:i=l.length:=by omega
     subst hie
     rw [lbn (lbR _)]
     conv=>whnf
     repeat' (first|refine zx ?_|refine zd ?_ ?_<;>intro h<;>try omega|fail)<;>conv=>whnf
     all_goals first
      |omega
      |exact ⟨hlt,trivial,[some 0,some 1],rfl,rfl,⟨⟨rfl,rfl,rfl,.inr ⟨⟨rfl,⟨rfl,rfl,rfl,fun h=>h⟩,trivial⟩,trivial⟩⟩,k9 (j6 _),trivial⟩,⟨rfl,rfl,⟨rfl,rfl,rfl⟩,rfl,g9 (by omega),trivial⟩⟩
  ·have hqe:q=n:=by omega
   subst hqe
   rw [e9]
   generalize a5x t kind q set=R
   conv=>whnf
   repeat' (first|refine zx ?_|refine zd ?_ ?_<;>intro h<;>try omega|fail)<;>conv=>whnf
   all_goals first
    |omega
    |(refine ⟨trivial,trivial,trivial,trivial,?_,?_⟩
      ·exact ag6 (k:=a3y t.ev.moves.length 1 R.length) trivial rfl (fun h=>h) rfl ⟨b5M,.vc (D6 (k:=U6 R) trivial rfl (fun h=>h) rfl rfl (by simp)),trivial⟩
      ·simp only [a0C,VYS];repeat (first|exact trivial|refine ⟨trivial,?_⟩))
 ·have ss:=hx.small set
  have lz:=aE6 ss (g:=[]) rfl (fun t ht=>by cases ht)
  have nT:(a2P t kind n set).n=t.ev.moves.length:=rfl
  have rT:(a2P t kind n set).rows=a5x t kind n set:=rfl
  rcases hx.best set with ⟨hp,ho⟩|⟨hp,r,ho⟩
  ·rw [hp]
   have hb15:=bd1 ss (g:=[]) rfl (fun t ht=>by cases ht)
   have so:=a3Z _ _ _ lz ho (fun v hv=>by have:=hb15 v hv;omega)
   have sl:=(a00 (hx.right set) rfl ho).1
   have hd:=b3K _ (aY3 ss) (hx.right set) (n7 (a2P t kind n set) []) (b2R (B:=15) ss (by decide) (by rw [a64 lz];have:(a2P t kind n set).n.toNat=t.ev.moves.length:=rfl;omega) hb15)
   rw [sl] at hd
   refine A8 e8 _ ?_
   conv=>whnf
   repeat' (first|refine zx ?_|refine qp so ?_|refine qp hd ?_|refine qp (4,6) ?_|refine qp 4 ?_|refine bl0 [4,6] ?_|refine bl0 [4] ?_|refine zd ?_ ?_<;>intro h<;>try omega|fail)<;>conv=>whnf
   all_goals first
    |exact i3 rfl
  ·rw [hp]
   have so:=a5D _ _ _ r lz ho
   refine A8 e8 _ ?_
   conv=>whnf
   repeat' (first|refine zx ?_|refine qp so ?_|refine zd ?_ ?_<;>intro h<;>try omega|fail)<;>conv=>whnf
   all_goals first
    |exact i3 rfl
theorem L6 {t:g7} {kind:Int}:a16 t kind=0↔s6 t=0∧0<=kind∧kind<8:=by
 unfold a16
 split<;>omega
theorem aX1 (t:g7) (kind:Int) (n:Nat) (hx:XT t kind n) (set:List Int) (hl:set.length<=1000000):
 e7 Tryz.prog 20 [trS t,b7 .i64 kind,i6 set] [] (i8 (a0n n set && pX t kind n set)) []:=by
 have sy:=a2O t kind hx.s
 have e1:a16 t kind=0:=L6.2 ⟨hx.e,hx.k0,hx.k1⟩
 have hc:¬(s6 t≠0∨kind<0∨8<=kind):=by have:=L6.1 e1;omega
 have e2:aB0 t kind=m7 t kind:=if_neg hc
 rw [e1,e2] at sy
 have is:=b6R t.ev set hl
 rw [hx.h] at is
 have ex:=ae0 t kind n hx set hl
 cases hi:a0n n set<;>rw [hi] at is
 ·rw [Bool.false_and]
  (refine ac Tryz.func20 ?_;(conv=>whnf);repeat ((first|refine b0x ?_|refine zy ?_);conv=>whnf))
  repeat' (first|refine zz ?_|refine qp sy ?_|refine qp is ?_|refine qp 5 ?_|refine bl0 [5] ?_|refine b0x ?_|refine zd ?_ ?_<;>intro h<;>try omega|refine zy ?_|fail)<;>conv=>whnf
  all_goals first
   |omega
   |exact i3 rfl
 ·rw [Bool.true_and]
  generalize pX t kind n set=b at ex
  cases b<;>
  (refine ac Tryz.func20 ?_;(conv=>whnf);repeat ((first|refine b0x ?_|refine zy ?_);conv=>whnf))<;>
  repeat' (first|refine zz ?_|refine qp sy ?_|refine qp is ?_|refine qp ex ?_|refine qp 5 ?_|refine bl0 [5] ?_|refine b0x ?_|refine zd ?_ ?_<;>intro h<;>try omega|refine zy ?_|fail)<;>conv=>whnf
  all_goals first
   |omega
   |(exfalso;contradiction)
   |exact i3 rfl
theorem ak5 (t:g7) (kind:Int) (hs:t.Sized) (h:a16 t kind≠0) (set:List Int):
 e7 Tryz.prog 20 [trS t,b7 .i64 kind,i6 set] [] (i8 false) []:=by
 have sy:=a2O t kind hs
 (refine ac Tryz.func20 ?_;(conv=>whnf);repeat ((first|refine b0x ?_|refine zy ?_);conv=>whnf))
 repeat' (first|refine zz ?_|refine qp sy ?_|refine qp 5 ?_|refine bl0 [5] ?_|refine b0x ?_|refine zd ?_ ?_<;>intro h<;>try omega|refine zy ?_|fail)<;>conv=>whnf
 all_goals first
  |omega
  |exact i3 rfl
def U7 (s:List Int):List T:=[E5 s]
abbrev aR6 (l:List (List Int)):T:=.sl 1 .any (l.map U7)
abbrev a0X (l:List (List Int)):S:=.c (.t (aR6 l))
theorem al2 (xs:List Int) (hl:xs.length<=1000000) (fg:FuncId) (caps:List T) (q:Int->Bool) (hg:∀x ∈ xs,e7 Tryz.prog fg (b7 .i64 x::caps.map fun x=>.c (.t x)) [] (i8 (q x)) []):
 e7 Tryz.prog 204 [i6 xs,.c (.t (.fn (.func fg) caps))] [] (i8 (xs.any q)) []:=by
 have ix:=aU0 xs hl fg caps q hg
 (refine ac Tryz.func204 ?_;(conv=>whnf);repeat (refine zy ?_;conv=>whnf))
 repeat' (first|refine zx ?_|refine qp ix ?_|refine zd ?_ ?_<;>intro h<;>try omega|fail)<;>conv=>whnf
 all_goals (refine i3 ?_;rw [← a1T q xs 0];simp;omega)
theorem b64 (b:List Int) (hl:b.length<=1000000) (x:Int):e7 Tryz.prog 205 (b7 .i64 x::[T.ptr [E5 b]].map fun x=>.c (.t x)) [] (i8 (!(C7 b x))) []:=by
 have sc:=a8C b x hl
 unfold C7
 cases hq:b.any fun y=>decide (y=x)<;>rw [hq] at sc<;>
 ·(refine ac Tryz.func205 ?_;(conv=>whnf);repeat (refine zy ?_;conv=>whnf))
  repeat' (first|refine zx ?_|refine qp sc ?_|refine zd ?_ ?_<;>intro h<;>try omega|fail)<;>conv=>whnf
  all_goals first
   |exact i3 rfl
theorem b25 (a b:List Int):C5 a b=!(a.any fun x=>!(C7 b x)):=by
 unfold C5 C7
 rw [List.not_any_eq_all_not]
 simp
theorem b9c (a b:List Int) (ha:a.length<=1000000) (hb:b.length<=1000000):e7 Tryz.prog 131 [i6 a,i6 b] [] (i8 (C5 a b)) []:=by
 have ct:=al2 a ha 205 [T.ptr [E5 b]] _ (fun x _=>b64 b hb x)
 rw [b25]
 cases hq:a.any fun x=>!(C7 b x)<;>rw [hq] at ct<;>
 ·(refine ac Tryz.func131 ?_;(conv=>whnf);repeat ((first|refine b0x ?_|refine zy ?_);conv=>whnf))
  repeat' (first|refine zx ?_|refine qp ct ?_|refine zd ?_ ?_<;>intro h<;>try omega|fail)<;>conv=>whnf
  all_goals first
   |exact i3 rfl
theorem aR0 (rs:List (List Int)) (hl:rs.length<=1000000) (g:FuncId) (caps:List T) (q:List Int->Bool) (hg:∀r ∈ rs,e7 Tryz.prog g (i6 r::caps.map fun x=>.c (.t x)) [] (i8 (q r)) []):
 e7 Tryz.prog 203 [a0X rs,.c (.t (.fn (.func g) caps))] [] (b7 .i64 (K3 q rs 0)) []:=by
 have l1:(rs.map U7).length=rs.length:=by simp
 (refine ac Tryz.func203 ?_;(conv=>whnf);repeat (refine zy ?_;conv=>whnf))
 repeat' (first|refine zx ?_|refine zd ?_ ?_<;>intro h<;>try omega|fail)<;>conv=>whnf
 refine j5 e8 (fun k=>([a0X rs,S.c (C.t (T.fn (.func g) caps)),J,J,J,J,J,b7 .i64 rs.length,b7 .i64 k]++Jn 10,[])) rs.length (fun k=>K3 q (rs.drop k) k=K3 q rs 0) [] rfl
  ⟨rfl,rfl,trivial,⟨k8 rfl,k8 rfl,g9 (by simp),rfl,trivial⟩⟩ ?_
 intro k hk hI
 by_cases hlt:k<rs.length
 ·obtain ⟨r,hr⟩:∃r,rs[k]? =some r:=⟨_,lbf hlt⟩
  have hd:rs.drop k=r::rs.drop (k+1):=by
   rw [List.drop_eq_getElem_cons hlt]
   rw [lbf hlt] at hr
   injection hr with hr
   rw [hr]
  have hgr:=hg r (lbm hr)
  have ha:(i6 r::caps.map fun x=>S.c (C.t x)).all S.isT=true:=by simp [S.isT,C.isT]
  rw [hd] at hI
  have hI:(if q r then (k:Int) else K3 q (rs.drop (k+1)) (k+1))=K3 q rs 0:=hI
  cases hq:q r with
  |true=>
   rw [hq] at hgr hI
   conv=>whnf
   repeat' (first|refine zx ?_|refine .inl ⟨_,_,F5 hgr ha rfl,?_⟩|refine g6 hr ?_|refine zd ?_ ?_<;>intro h<;>try omega|fail)<;>conv=>whnf
   all_goals first
    |omega
    |exact s9 hI
  |false=>
   rw [hq] at hgr hI
   conv=>whnf
   repeat' (first|refine zx ?_|refine .inl ⟨_,_,F5 hgr ha rfl,?_⟩|refine g6 hr ?_|refine zd ?_ ?_<;>intro h<;>try omega|fail)<;>conv=>whnf
   all_goals first
    |omega
    |exact ⟨hlt,by simpa using hI,[],rfl,rfl,trivial,⟨rfl,rfl,rfl,rfl,trivial⟩⟩
 ·have hke:k=rs.length:=by omega
  subst hke
  rw [lbo (lbR _)] at hI
  conv=>whnf
  repeat' (first|refine zx ?_|refine zd ?_ ?_<;>intro h<;>try omega|fail)<;>conv=>whnf
  all_goals first
   |omega
   |exact s9 hI
theorem aj9 (rs:List (List Int)) (hl:rs.length<=1000000) (g:FuncId) (caps:List T) (q:List Int->Bool) (hg:∀r ∈ rs,e7 Tryz.prog g (i6 r::caps.map fun x=>.c (.t x)) [] (i8 (q r)) []):
 e7 Tryz.prog 129 [a0X rs,.c (.t (.fn (.func g) caps))] [] (i8 (rs.any q)) []:=by
 have ix:=aR0 rs hl g caps q hg
 (refine ac Tryz.func129 ?_;(conv=>whnf);repeat (refine zy ?_;conv=>whnf))
 repeat' (first|refine zx ?_|refine qp ix ?_|refine zd ?_ ?_<;>intro h<;>try omega|fail)<;>conv=>whnf
 all_goals (refine i3 ?_;rw [← a1T q rs 0];simp;omega)
theorem b67 (set a:List Int) (hs:set.length<=1000000) (ha:a.length<=1000000):e7 Tryz.prog 130 (i6 a::[T.ptr [E5 set]].map fun x=>.c (.t x)) [] (i8 (C5 a set)) []:=by
 have p:=b9c a set ha hs
 (refine ac Tryz.func130 ?_;(conv=>whnf);repeat (refine zy ?_;conv=>whnf))
 repeat' (first|refine zx ?_|refine qp p ?_|refine zd ?_ ?_<;>intro h<;>try omega|fail)<;>conv=>whnf
 all_goals first
  |exact i3 (Eq.symm (by assumption))
theorem b2m (out:List (List Int)) (hl:out.length<=1000000) (h2:∀a ∈ out,a.length<=1000000) (set:List Int) (hs:set.length<=1000000):
 e7 Tryz.prog 129 [a0X out,.c (.t (.fn (.func 130) [T.ptr [E5 set]]))] [] (i8 (out.any fun a=>C5 a set)) []:=
 aj9 out hl _ _ _ fun a ha=>b67 set a hs (h2 a ha)
theorem b2f:e7 Tryz.prog 201 [.c (.t (.sl 1 .any []))] [] (.c (.own 0 0 0 true)) [C0 []]:=by
 refine a8p ?_ ?_
 ·(refine ac Tryz.func201 ?_;(conv=>whnf);repeat (refine zy ?_;conv=>whnf))
  repeat' (first|refine zx ?_|refine zd ?_ ?_<;>intro h<;>try omega|fail)<;>conv=>whnf
  all_goals first
   |exact ⟨[none],rfl,rfl,⟨⟨rfl,rfl⟩,trivial⟩,⟨rfl,rfl,rfl⟩⟩
 ·(refine ac Tryz.func201 ?_;(conv=>whnf);repeat (refine zy ?_;conv=>whnf))
  repeat' (first|refine zx ?_|refine Y0 rfl (by decide) ?_|refine zd ?_ ?_<;>intro h<;>try omega|fail)<;>conv=>whnf
  all_goals first
   |exact ⟨[some 0],rfl,rfl,⟨b8 (rows:=([]:List Int).map i5) rfl rfl rfl rfl rfl,trivial⟩,⟨rfl,rfl,rfl,fun h=>h⟩⟩
theorem b27 (l:List Int) (h1:l.length<=100000):e7 Tryz.prog 201 [i6 l] [] (.c (.own 0 0 l.length true)) [C0 l]:=by
 have m1:(l.map i5).length=l.length:=by simp
 by_cases h0:l.length=0
 ·have:l=[]:=List.length_eq_zero_iff.1 h0
  subst this
  exact b2f
 have hl:0<(l.map i5).length:=by omega
 (refine ac Tryz.func201 ?_;(conv=>whnf);repeat (refine zy ?_;conv=>whnf))
 repeat' (first|refine zx ?_|refine qp (toC,lbr,List.length_nil) ?_|refine qp (toC,lbr) ?_|refine ⟨hl,?_⟩|refine zz ?_|refine Y0 rfl (by simp only [toC,lbr,List.length_nil];omega) ?_|refine E4 (Nat.zero_le _) (by simp only [toC,lbr];omega) ?_|refine zd ?_ ?_<;>intro h<;>try omega|fail)<;>conv=>whnf
 all_goals first
  |omega
  |exact ⟨[some 0],rfl,rfl,⟨b8 (rows:=l.map i5) rfl rfl rfl rfl rfl,trivial⟩,⟨rfl,rfl,by simp [toC],fun h=>h⟩⟩
theorem b29 (t:g7) (kind:Int) (k:Nat):D8 t kind (k+1)=if I3 t kind k≠0 then D8 t kind k++[(k:Int)] else D8 t kind k:=by
 unfold D8
 rw [List.range_succ,lb9,lbD]
 by_cases h:I3 t kind k≠0
 ·rw [if_pos h];simp [h]
 ·rw [if_neg h]
  have:I3 t kind k=0:=Classical.not_not.1 h
  simp [this]
theorem aj8 (t:g7) (kind:Int) (n:Nat) (h:ExP t kind n) (hn:n<=8):e7 Tryz.prog 127 [trS t,b7 .i64 kind] [] (.tup [i6 (D8 t kind n),b7 .i64 0]) []:=by
 have ve:=a5A t kind h.s h.e h.k0 h.k1 h.m n h.h (by omega) h.z
 have vl:=a1N t kind n
 have m1:((O9 t kind n).map a3k.row).length=n:=by simp [vl]
 have sl:=a4I t kind n
 have m2:((D8 t kind n).map i5).length=(D8 t kind n).length:=by simp
 (refine ac Tryz.func127 ?_;conv=>whnf)
 refine b0x ?_
 conv=>whnf
 repeat' (first|refine zx ?_|refine qp ve ?_|refine zd ?_ ?_<;>intro h<;>try omega|fail)<;>conv=>whnf
 all_goals try omega
 refine j5 e8 (fun k=>(Jn 8++[S.c (C.own 0 0 (D8 t kind k).length true)]++Jn 11++[ao5 (O9 t kind n),b7 .i64 n,b7 .i64 k]++Jn 16,[C0 (D8 t kind k)])) n (fun _=>True) [none] trivial
  ⟨rfl,rfl,⟨⟨rfl,rfl⟩,trivial⟩,⟨⟨rfl,rfl,rfl⟩,rfl,g9 (by omega),rfl,trivial⟩⟩ ?_
 intro k hk _
 have slk:=a4I t kind k
 have lA:(D8 t kind k).length<=(C0 (D8 t kind k)).rows.length:=by show _<=(toC _).length;simp [toC]
 by_cases hlt:k<n
 ·have hv:(O9 t kind n)[k]? =some (W7 (m7 t kind) (E9 t (k:Int)) (k:Int)):=by unfold O9;simp [hlt]
  have kh:(W7 (m7 t kind) (E9 t (k:Int)) (k:Int)).hh=k:=b6T _
  have e1:=b29 t kind k
  unfold I3 at e1
  rw [e1]
  generalize W7 (m7 t kind) (E9 t (k:Int)) (k:Int)=v at hv kh e1
  by_cases hst:v.state≠0
  ·rw [if_pos hst]
   conv=>whnf
   repeat' (first|refine zz ?_|refine qp toC ?_|refine g6 hv ?_|refine b0x ?_|refine E4 lA (by simp [toC];omega) ?_|refine zd ?_ ?_<;>intro h<;>try omega|refine zy ?_|fail)<;>conv=>whnf
   all_goals first
    |omega
    |(refine ⟨hlt,trivial,[some 2],rfl,rfl,⟨b8 (rows:=(D8 t kind k++[(k:Int)]).map i5) rfl rfl rfl ?_ rfl,trivial⟩,⟨⟨rfl,rfl,?_,fun h=>h⟩,rfl,rfl,g9 (by omega),trivial⟩⟩
      ·rw [kh];exact a2D (f:=i5) (x:=(k:Int)) rfl
      ·simp [toC])
  ·rw [if_neg hst]
   conv=>whnf
   repeat' (first|refine zz ?_|refine g6 hv ?_|refine b0x ?_|refine zd ?_ ?_<;>intro h<;>try omega|refine zy ?_|fail)<;>conv=>whnf
   all_goals first
    |omega
    |exact ⟨hlt,trivial,[some 0],rfl,rfl,⟨b8 (rows:=(D8 t kind k).map i5) rfl rfl rfl rfl rfl,trivial⟩,⟨⟨rfl,rfl,rfl,fun h=>h⟩,rfl,rfl,g9 (by omega),trivial⟩⟩
 ·have hke:k=n:=by omega
  subst hke
  conv=>whnf
  repeat' (first|refine zx ?_|refine zd ?_ ?_<;>intro h<;>try omega|fail)<;>conv=>whnf
  all_goals first
   |omega
   |exact v8 ⟨show VC _ (fun id=>Q2 [] id=true) (C.own 0 0 _ true) _ from D6 (k:=C0 (D8 t kind k)) rfl rfl (fun h=>h) rfl rfl (by simp),rfl,trivial⟩
theorem aJ6 {F:Fence} {n:Nat} {P:Program} {α:Type} {g:Operand} {ps:Array Tmp} {assign body:Code} {Q:Exit->Act->World->Prop} {a:Act} {w:World}
 (hro:F.round=none) (h1:1<=n) {gf:Nat} {lb:Array Value} (hg:a.eval g=.func (.func gf) #[] lb) (hFg:F.fn gf) (eg:∀args w,(callFunc gf args).run P w=.ok (.enter gf args) w)
 {encs:α->Array Value} {G:α->World->Prop} {Kp:World->World->Prop} {S:List α->Prop} {N:Nat} {w0:World} (hseq:b9r F (n - 1) P gf lb encs G Kp S N w0)
 (hKt:∀{A B C:World},Kp A B->Kp B C->Kp A C) (hKb:∀(W:World) (l:Nat) (o o':Obj),w.heap.size<=l->W.heap[l]? =some o->o.isCells=false->o.isWalk=false->Kp W (W.putObj l o'))
 (hb0:Below w0.heap.size w0 w) (hps:∀x,(encs x).size=ps.size)
 (I:List α->World->Prop) (hI:OwnFrom w.heap.size I) (h0:I [] w) (A:List α->α->Act->World->Prop)
 (hAb:∀(pre:List α) (x:α) (a1:Act) (W:World) (l:Nat) (o o':Obj),w.heap.size<=l->W.heap[l]? =some o->o.isCells=false->A pre x a1 W->A pre x a1 (W.putObj l o'))
 (hassign:∀(l:Nat) (pre:List α) (x:α) (W:World) (K:Act->World->Prop),I pre W->G x W->pre.length<N->(∀ a1 W1,A pre x a1 W1->KeepsFrom w.heap.size W W1->Kp W W1->K a1 W1)->
   assign.wpIn (F.inRound l) (n - 1 - 1) P (Exit.then K (fun _ _ _=>False)) { tmps:=(ps.zip (encs x)).foldl (fun t (p,v)=>t.setIfInBounds p v) a.tmps,defers:=[] } W)
 (hbody:∀(l:Nat) (pre:List α) (x:α) (a1:Act) (W:World),A pre x a1 W->body.wpIn (F.inRound l) (n - 1 - 1) P (Exit.then (fun _ W'=>KeepsFrom w.heap.size W W'∧Kp W W'∧I (pre++[x]) W') (fun _ _ _=>False)) a1 W)
 (hdone:∀(D:Nat) (xs:List α) (W:World),w.heap.size<=D->S xs->I xs W->W.heap[D]? =some (.deferred (some []))->Q .normal { a with defers:={ target:=.collected D,args:=#[] }::a.defers } W):
 (Code.rangeFunc g ps assign body).wpIn F n P Q a w:=by
 refine wpIn_rangeFunc fun fn hfn=>?_
 rw [hro]
 let rec0:LoopState->Loop:=fun st=>{ state:=st,pending:=none,fn,tmps:=a.tmps,params:=ps,assign,body,defers:=w.heap.size }
 let W1:=(w.alloc (.deferred (some []))).alloc (.loop (rec0 .ready))
 have s1:W1.heap.size=w.heap.size+1+1:=by simp [W1]
 have hL:W1.heap[w.heap.size+1]? =some (.loop (rec0 .ready)):=by
  have:=World.alloc_heap_new (w.alloc (.deferred (some []))) (.loop (rec0 .ready))
  rwa [World.size_alloc] at this
 have hD:W1.heap[w.heap.size]? =some (.deferred (some [])):=(Below.heap_alloc _ _ _ (by simp)).trans (World.alloc_heap_new w _)
 have hI1:I [] W1:=hI.alloc _ (hI.alloc _ h0)
 have hb1:Below w0.heap.size w0 W1:=hb0.trans ((((Below.refl _ w).alloc (lbR _) _).alloc (by simp) _).mono hb0.size)
 refine ⟨w.heap.size+1,[{ target:=.collected w.heap.size,args:=#[] }],W1,{ target:=.fn (.func gf) lb,args:=#[.func (.yield (w.heap.size+1)) #[] #[]] },W1,gf,
  #[.func (.yield (w.heap.size+1)) #[] #[]]++lb,W1,run_enterLoop_outer _ _ _ _ _,?_,?_,?_,fun _=>h1,?_⟩
 ·simp only [resolve,hg]
  simp [go_sem]
 ·intro f' hf'
  simp [Target.leads] at hf'
  subst hf';exact hFg
 ·simp [invoke,go_sem,eg]
 ·have walk:∀{A:World} {row:Option Nat},(∀ r,row=some r->W1.heap.size<=r∧∃o:Obj,A.heap[r]? =some o∧o.isWalk=true)->∀r,row=some r->w.heap.size<=r∧∃o:Obj,A.heap[r]? =some o∧o.isCells=false:=by
   intro A row hr r e
   obtain ⟨hB,o,ho,hw⟩:=hr r e
   exact ⟨by omega,o,ho,Obj.not_cells_of_walk hw⟩
  refine (hseq (w.heap.size+1) (fun pre W=>I pre W∧W.heap[w.heap.size+1]? =some (.loop (rec0 .ready))∧W.heap[w.heap.size]? =some (.deferred (some []))) W1 hb1
   (fun s A B row hs hgr hr=>⟨hI s A B row hs.1 hgr (walk hr),(grownBy_keeps hgr (fun r e=>(hr r e).2) hs.2.1 rfl).trans hs.2.1,(grownBy_keeps hgr (fun r e=>(hr r e).2) hs.2.2 rfl).trans hs.2.2⟩)
   ?_ ⟨hI1,hL,hD⟩).mono ?_
  ·rintro pre x W ⟨hi,hl,hk⟩ hx hN
   have hy:=run_yield (P:=P) (args:=encs x) hl (hps x)
   refine ⟨fn,_,assign,body,hy,roundIn_of_wpIn hfn (hassign _ pre x W _ hi hx hN fun a1 W2 hA hk1 hkp1=>?_)⟩
   have hl1:=hk1.same _ _ (by omega) hl rfl
   have hD1:=hk1.same _ _ (lbR _) hk rfl
   have hlt:w.heap.size+1<W2.heap.size:=(lb5.1 hl1).1
   refine ⟨_,run_beginRound hl1 rfl,?_⟩
   have hl2:(W2.putObj (w.heap.size+1) (.loop { rec0 .ready with state:=.busy })).heap[w.heap.size+1]? =some (.loop { rec0 .ready with state:=.busy }):=World.putObj_heap_same hlt
   have hk2:(W2.putObj (w.heap.size+1) (.loop { rec0 .ready with state:=.busy })).heap[w.heap.size]? =some (.deferred (some [])):=(World.putObj_heap_other (by omega)).trans hD1
   refine wpIn_mono (hbody _ pre x a1 _ (hAb pre x a1 W2 _ _ _ (by omega) hl1 rfl hA)) ?_
   rintro e a3 W3 hp
   cases e with
   |normal=>
    obtain ⟨hk3,hkp3,hi3⟩:=hp
    have hl3:=hk3.same _ _ (by omega) hl2 rfl
    have hk4:=hk3.same _ _ (lbR _) hk2 rfl
    refine ⟨_,_,run_endRound (P:=P) none hl3,rfl,⟨hI.putObj _ hi3 (by omega) hl3 rfl,World.putObj_heap_same (lb5.1 hl3).1,(World.putObj_heap_other (by omega)).trans hk4⟩,?_⟩
    exact hKt hkp1 (hKt (hKt (hKb _ _ _ _ (by omega) hl1 rfl rfl) hkp3) (hKb _ _ _ _ (by omega) hl3 rfl rfl))
   |ret=>exact hp.elim
   |exit id=>exact hp.elim
   |goto t=>exact hp.elim
   |panic ch=>exact hp.elim
   |outgrown=>exact hp.elim
  ·rintro e W2 ⟨⟨v,rfl⟩,xs,hS,hi,hl,hk⟩
   exact ⟨none,_,run_endLoop (P:=P) hl (by simp [rec0]),hdone _ xs _ (lbR _) hS (hI.putObj _ hi (by omega) hl rfl) ((World.putObj_heap_other (by omega)).trans hk)⟩
open Go.RowKit Go.Shelf
structure a1z (B n:Nat) (w w':World):Prop where
 os:w'.os=w.os
 tape:w'.tape=w.tape
 output:w'.output=w.output
 size:w.heap.size<=w'.heap.size
 block:∀k,k<n->k≠B->w'.heap[k]? =w.heap[k]?
theorem a1z.trans {B n:Nat} {a b c:World} (h:a1z B n a b) (k:a1z B n b c):a1z B n a c:=
 ⟨k.os.trans h.os,k.tape.trans h.tape,k.output.trans h.output,lbS h.size k.size,fun i hi hB=>(k.block i hi hB).trans (h.block i hi hB)⟩
theorem a1z.of {B n:Nat} {a b:World} (h:Below n a b):a1z B n a b:=⟨h.os,h.tape,h.output,h.size,fun k hk _=>h.block k hk⟩
theorem a1z.low {B n:Nat} {w w':World} (h:a1z B n w w') {m:Nat} (hm:m<=n) (hB:m<=B):Below m w w':=⟨h.os,h.tape,h.output,h.size,fun k hk=>h.block k (by omega) (by omega)⟩
theorem b1z {W:World} {base:Nat} {e:TypeId} {size:Nat} {v:Value} {k:Nat} {xs:List Value} (h:W.ownsRow base e size v k xs):W.ownsRow 0 e size v k xs:=
 ⟨h.1,h.2.imp id fun ⟨g,cap,cur,h1,_,h2⟩=>⟨g,cap,cur,h1,Nat.zero_le _,h2⟩⟩
theorem b3v {A B:World} (hb:Below A.heap.size A B) {base:Nat} {e:TypeId} {size:Nat} {v:Value} {k:Nat} {xs:List Value} (h:A.ownsRow base e size v k xs):B.ownsRow base e size v k xs:=
 ⟨h.1,h.2.imp id fun ⟨g,cap,cur,h1,h3,h4,h2⟩=>⟨g,cap,cur,h1,h3,(hb.block g (t9 h4)).trans h4,h2⟩⟩
theorem a9N {A B:World} (hb:Below A.heap.size A B) {b:Nat} {t:TypeId} {v:Value} (h:Boxed A b t v):Boxed B b t v:=(hb.block b h.lt).trans h
theorem b1W {W w1:World} {n₀ B:Nat} {v v':Value} {k m:Nat} {xs ys:List Value} {tmp:Obj}
 (hv:Boxed W B a2n v) (hrow:W.ownsRow n₀ tIs 1 v k xs) (hn₀:n₀<=W.heap.size)
 (hown':w1.ownsRow n₀ tIs 1 v' m ys) (hgrow:(W.alloc tmp).grownBy w1 v.ownBlock):
 Boxed w1 B a2n v∧Boxed (w1.setCell ⟨B,0,none⟩ v') B a2n v'∧(w1.setCell ⟨B,0,none⟩ v').ownsRow n₀ tIs 1 v' m ys∧KeepsOthers W (w1.setCell ⟨B,0,none⟩ v')∧a1z B n₀ W (w1.setCell ⟨B,0,none⟩ v')∧KpX B n₀ W (w1.setCell ⟨B,0,none⟩ v'):=by
 obtain ⟨h1,h2,_,h4,_⟩:=hv.appended (n₀:=0) (by decide) (b1z hrow) (Nat.zero_le _) (Nat.zero_le _) (b1z hown') hgrow
 have hrb:∀j,v.ownBlock=some j->n₀<=j∧∃cur,W.heap[j]? =some (.cells cur tIs (0,0)):=by
  intro j ej
  rcases hrow.2 with ⟨rfl,_⟩|⟨g,cap,cur,rfl,hb,hc,_⟩
  ·simp [Value.ownBlock] at ej
  ·obtain rfl:g=j:=by simpa [Value.ownBlock] using ej
   exact ⟨hb,cur,hc⟩
 have hsz:W.heap.size<=(w1.setCell ⟨B,0,none⟩ v').heap.size:=h4.size
 refine ⟨h1,h2,hown'.kept (grownBy_setCell' w1 B v') (.inr (h1.not_row (by decide) hown').symm),h4,?_,hsz,?_⟩
 ·exact (a1z.of (((Below.refl n₀ W).alloc hn₀ tmp).grown hgrow (by simp;omega) fun j ej=>(hrb j ej).1)).trans ⟨rfl,rfl,rfl,by simp [World.setCell],fun k _ hk=>Below.heap_setCell _ _ _ _ hk⟩
 ·intro b vs t fl hb hX ht
  have hlt:=t9 hb
  have e1:(W.alloc tmp).heap[b]? =W.heap[b]?:=Below.heap_alloc _ _ _ hlt
  have hne:some b≠v.ownBlock:=fun e=>by
   obtain ⟨q1,cur,q2⟩:=hrb b e.symm
   rw [hb] at q2
   injection q2 with q2
   injection q2 with _ q2 _
   rcases ht with ht|ht
   ·omega
   ·exact ht q2
  have e2:=hgrow.block b (by simp;omega) hne
  exact (Below.heap_setCell _ _ _ _ hX).trans (e2.trans (e1.trans hb))
theorem b5b {W:World} {base:Nat} {e:TypeId} {size:Nat} {v:Value} {k:Nat} {xs:List Value} (h:W.ownsRow base e size v k xs):∃A c,v=.slice A k c:=by
 rcases h.2 with ⟨rfl,rfl⟩|⟨g,cap,cur,rfl,_⟩
 ·exact ⟨none,0,rfl⟩
 ·exact ⟨_,cap,rfl⟩
theorem b2a {W w1:World} {n₀ B:Nat} {v v':Value} {k m:Nat} {xs ys:List Value}
 (hv:Boxed W B a2n v) (hrow:W.ownsRow n₀ tIs 1 v k xs)
 (hn₀:n₀<=W.heap.size) (hown':w1.ownsRow n₀ tIs 1 v' m ys) (hgrow:W.grownBy w1 v.ownBlock):
 Boxed w1 B a2n v∧Boxed (w1.setCell ⟨B,0,none⟩ v') B a2n v'∧(w1.setCell ⟨B,0,none⟩ v').ownsRow n₀ tIs 1 v' m ys∧KeepsOthers W (w1.setCell ⟨B,0,none⟩ v')∧a1z B n₀ W (w1.setCell ⟨B,0,none⟩ v')∧KpX B n₀ W (w1.setCell ⟨B,0,none⟩ v'):=by
 have hrb:∀j,v.ownBlock=some j->n₀<=j∧∃cur,W.heap[j]? =some (.cells cur tIs (0,0)):=by
  intro j ej
  rcases hrow.2 with ⟨rfl,_⟩|⟨g,cap,cur,rfl,hb,hc,_⟩
  ·simp [Value.ownBlock] at ej
  ·obtain rfl:g=j:=by simpa [Value.ownBlock] using ej
   exact ⟨hb,cur,hc⟩
 have hB1:Boxed w1 B a2n v:=by
  refine (hgrow.block B hv.lt fun e=>?_).trans hv
  obtain ⟨_,cur,hc⟩:=hrb B e.symm
  have hv:W.heap[B]? =some (.cells #[v] a2n (0,0)):=hv
  rw [hc] at hv
  injection hv with hv
  injection hv with _ hv
  cases hv
 have hs:w1.heap.size=(w1.setCell ⟨B,0,none⟩ v').heap.size:=by simp [World.setCell]
 have hsz:W.heap.size<=(w1.setCell ⟨B,0,none⟩ v').heap.size:=by have:=hgrow.size;omega
 refine ⟨hB1,hB1.set v',hown'.kept (grownBy_setCell' w1 B v') (.inr (hB1.not_row (by decide) hown').symm),⟨hsz,fun j o hj ho=>?_⟩,⟨hgrow.os,hgrow.tape,hgrow.output,hsz,fun j hj hX=>?_⟩,hsz,?_⟩
 ·have h1:w1.heap[j]? =some o:=(hgrow.block j (t9 hj) fun e=>by
   obtain ⟨_,cur,hc⟩:=hrb j e.symm
   rw [hj] at hc
   injection hc with hc
   subst hc
   simp [Obj.isCells] at ho).trans hj
  refine (Below.heap_setCell _ _ _ _ fun e=>?_).trans h1
  have e:j=B:=e
  rw [e] at h1
  have hB1:w1.heap[B]? =some (.cells #[v] a2n (0,0)):=hB1
  rw [hB1] at h1
  injection h1 with h1
  subst h1
  simp [Obj.isCells] at ho
 ·refine (Below.heap_setCell _ _ _ _ hX).trans ?_
  exact hgrow.block j (by omega) fun e=>by have:=(hrb j e.symm).1;omega
 ·intro b vs t fl hb hX ht
  refine (Below.heap_setCell _ _ _ _ hX).trans ((hgrow.block b (t9 hb) fun e=>?_).trans hb)
  obtain ⟨q1,cur,q2⟩:=hrb b e.symm
  rw [hb] at q2
  injection q2 with q2
  injection q2 with _ q2 _
  rcases ht with ht|ht
  ·omega
  ·exact ht q2
theorem RT.keepC {w w':World} {M M':Ms} (hk:∀b vs t fl,w.heap[b]? =some (.cells vs t fl)->¬M b->w'.heap[b]? =some (.cells vs t fl)) (hm:∀b,M' b->M b∨¬∃vs t fl,w.heap[b]? =some (.cells vs t fl))
 {x:T} {v:Value} (h:RT w M x v):RT w' M' x v:=by
 have key:∀(a:Addr) (u:Value),w.cell? a=some u->¬M a.block->w'.cell? a=some u∧¬M' a.block:=fun a u hc hM=>by
  obtain ⟨vs,t,fl,ho⟩:=aL9 hc
  refine ⟨(World.cell?_of_block ((hk _ _ _ _ ho hM).trans ho.symm)).trans hc,fun h2=>?_⟩
  rcases hm _ h2 with h3|h3
  ·exact hM h3
  ·exact h3 ⟨vs,t,fl,ho⟩
 induction h with
 |atm h=>exact .atm h
 |sl f hrow hcap hmax hk1 hn hA hc hr hx ih=>exact .sl f hrow hcap hmax hk1 hn hA (fun i j c hc'=>key _ _ (hc i j c hc').1 (hc i j c hc').2) ih hx
 |ptr f hc hr ih=>exact .ptr f (fun j c hc'=>key _ _ (hc j c hc').1 (hc j c hc').2) ih
 |fn vs hl hr ih=>exact .fn vs hl ih
theorem b5x {W:World} {M:Ms} {n0:Nat} {l:List XE} {v:Value} (hrow:W.ownsRow n0 tIs 1 v l.length (l.map Prod.snd)) (hM:∀b,M b->b<n0) (hx:∀x ∈ l,RT W M (E5 x.1) x.2):RT W M (aR6 (l.map Prod.fst)) v:=by
 have hl:((l.map Prod.fst).map U7).length=l.length:=by simp
 have at1:∀i j t,at2 ((l.map Prod.fst).map U7) i j=some t->∃x,l[i]? =some x∧j=0∧t=E5 x.1:=by
  intro i j t h
  unfold at2 at h
  rw [lba,lba] at h
  cases hx:l[i]? with
  |none=>rw [hx] at h;cases h
  |some x=>
   rw [hx] at h
   cases j with
   |zero=>refine ⟨x,rfl,rfl,?_⟩;simp [U7] at h;exact h.symm
   |succ j=>simp [U7] at h
 have sz:∀r ∈ (l.map Prod.fst).map U7,r.length=1:=fun r hr=>by
  obtain ⟨x,_,rfl⟩:=lby.1 hr;rfl
 rcases hrow.2 with ⟨rfl,h0⟩|⟨g,cap,cur,rfl,hg,hcur,hcap,hcm,hcs,htake⟩
 ·have:l=[]:=lbG h0
  subst this
  exact .sl (size:=1) (k:=.any) (rows:=[]) (b:=0) (off:=0) (cap:=0) (fun _ _=>undef) (fun r hr=>by cases hr) (Nat.zero_le _) (Nat.zero_le _) (fun h=>nomatch h) (fun h=>nomatch h) (fun h=>absurd rfl h) (fun i j c h=>by simp [at2] at h) (fun i j c h=>by simp [at2] at h)
 ·have hcell:∀i x,l[i]? =some x->W.cell? ⟨g,0+(i*1+0),none⟩=some x.2:=fun i x hxi=>by
   have hlt:=(lbe.1 hxi).1
   have e:(cur.toList.take (l.length*1))[i]? =some x.2:=by rw [htake,lba,hxi];rfl
   rw [lbi,if_pos (by omega)] at e
   have e2:cur[i]? =some x.2:=by simpa using e
   simp [World.cell?,hcur,e2]
  rw [← hl]
  refine .sl (size:=1) (k:=.any) (b:=g) (off:=0) (fun i _=>(l[i]?.map Prod.snd).getD undef) sz (by omega) hcm (fun h=>nomatch h) (fun h=>nomatch h) (fun _=>rfl) (fun i j t h=>?_) (fun i j t h=>?_)
  ·obtain ⟨x,hxi,rfl,rfl⟩:=at1 i j t h
   rw [hxi]
   exact ⟨hcell i x hxi,fun hm=>by have:=hM _ hm;omega⟩
  ·obtain ⟨x,hxi,rfl,rfl⟩:=at1 i j t h
   rw [hxi]
   exact hx x (lbm hxi)
def b59 (D:Nat):Deferred:={ target:=.collected D,args:=#[] }
theorem a6O {n:Nat} {P:Program} {fn:Func} {tmps:Array Value} {R:Ending->World->Prop}:∀(Ds:List Nat) (W:World),Ds.Nodup->(∀ D ∈ Ds,W.heap[D]? =some (.deferred (some [])))->
 (∀ W',W'.os=W.os->W'.tape=W.tape->W'.output=W.output->W.heap.size<=W'.heap.size->(∀ b,b ∉ Ds->W'.heap[b]? =W.heap[b]?)->LeavesIn Fence.wide n P fn tmps R [] .returning W')->
 LeavesInM Fence.wide n P fn tmps R (Ds.map b59) .returning W
 |[],W,_,_,h=>h W rfl rfl rfl (lbR _) fun _ _=>rfl
 |D::Ds,W,hn,hD,h=>by
  obtain ⟨hn1,hn2⟩:=List.nodup_cons.1 hn
  have h1:=hD D (by simp)
  refine ⟨by simp,.inl ⟨D,_,rfl,run_takeDeferred h1,a6O Ds _ hn2 (fun D2 h2=>?_) fun W' a1 a2 a3 a4 a5=>?_⟩⟩
  ·exact (World.putObj_heap_other (by rintro rfl;exact hn1 h2)).trans (hD D2 (by simp [h2]))
  ·refine h W' a1 a2 a3 (by have e:(W.putObj D (.deferred none)).heap.size=W.heap.size:=(by simp [World.putObj]);omega) fun b hb=>?_
   have hb:b≠D∧b ∉ Ds:=by simpa using hb
   exact (a5 b hb.2).trans (World.putObj_heap_other hb.1)
structure FI (X1:Nat) (W4:World) (outs:List XE) (outv:Value) (Ds:List Nat) (W:World):Prop where
 bel:Below X1 W4 W
 bx:Boxed W X1 a2n outv
 row:W.ownsRow (X1+1) tIs 1 outv outs.length (outs.map Prod.snd)
 ir:∀x ∈ outs,a19 (X1+1) W x.1 x.2
 nd:Ds.Nodup
 dm:∀D ∈ Ds,X1<D∧W.heap[D]? =some (.deferred (some []))
theorem FI.below {X1:Nat} {W4:World} {outs:List XE} {outv:Value} {Ds:List Nat} {W W':World} (h:FI X1 W4 outs outv Ds W) (hb:Below W.heap.size W W'):FI X1 W4 outs outv Ds W':=
 ⟨h.bel.trans (hb.mono (Nat.le_of_lt h.bx.lt)),a9N hb h.bx,b3v hb h.row,fun x hx=>(h.ir x hx).below hb,h.nd,fun D hD=>⟨(h.dm D hD).1,(hb.block D (t9 (h.dm D hD).2)).trans (h.dm D hD).2⟩⟩
structure FP (X ns:Nat) (Wh:World) (q:List Int->Bool) (pre:List XE) (W:World):Prop where
 bel:Below X Wh W
 sz:ns<=W.heap.size
 pr:∃fv,Boxed W X a2n fv∧W.ownsRow ns tIs 1 fv (pre.filter fun x=>q x.1).length ((pre.filter fun x=>q x.1).map Prod.snd)
 ir:∀x ∈ pre.filter (fun x=>q x.1),a19 ns W x.1 x.2
theorem FP.kept {X ns:Nat} {Wh:World} {q:List Int->Bool} {pre:List XE} {W W':World} (h:FP X ns Wh q pre W) (hb:Below X W W') (hk:∀(b:Nat) (vs:Array Value) (t:TypeId) (fl:Nat × Nat),W.heap[b]? =some (Obj.cells vs t fl)->W'.heap[b]? =some (Obj.cells vs t fl)):FP X ns Wh q pre W':=by
 obtain ⟨fv,h1,h2⟩:=h.pr
 refine ⟨h.bel.trans hb,lbS h.sz hb.size,⟨fv,hk _ _ _ _ h1,h2.1,h2.2.imp id fun ⟨g,cap,cur,a1,a2,a3,a4⟩=>⟨g,cap,cur,a1,a2,hk _ _ _ _ a3,a4⟩⟩,fun x hx=>?_⟩
 rcases h.ir x hx with hr|⟨g,cap,cur,a1,a2,a3,a4⟩
 ·exact .inl hr
 ·exact .inr ⟨g,cap,cur,a1,a2,hk _ _ _ _ a3,a4⟩
theorem au3 {o:Obj} {vs:Array Value} {t:TypeId} {fl:Nat × Nat} (h:o=Obj.cells vs t fl):o.isCells≠false:=by subst h;simp [Obj.isCells]
theorem FP.own {X ns:Nat} {Wh:World} {q:List Int->Bool} (hX:X<=ns):OwnFrom ns (FP X ns Wh q):=by
 intro s A B row hs hg hr
 refine hs.kept ⟨hg.os,hg.tape,hg.output,hg.size,fun k hk=>hg.block k (by have:=hs.sz;omega) fun e=>by have:=(hr k e.symm).1;omega⟩ fun b vs t fl hb=>?_
 refine (hg.block b (t9 hb) fun e=>?_).trans hb
 obtain ⟨_,o,ho,hc⟩:=hr b e.symm
 rw [hb] at ho
 injection ho with ho
 exact au3 ho.symm hc
section
open Go.RowKit Go.Shelf
theorem a4Y {P:Program} {g:FuncId} {args:List S} {r:S} (h:e7 P g args [] r []) (m:Nat) {W:World} {ι:Io} {M:Ms} {vals:List Value} (hl:vals.length=args.length)
 (hv:∀j s,args[j]? =some s->RS W ι M s (vals.getD j undef)) (hMB:MB W M) (hF:Y9 ι 0):
 CallsIn Fence.wide m P g vals.toArray W fun e W'=>∃v,e=.returned v∧(∃ ι',RS W' ι' M r v)∧Below W.heap.size W W':=by
 refine callsIn_wide.2 ((ay2 h hl hv hMB hF).mono ?_)
 rintro e W' ⟨v,rfl,⟨ι',M',h1,h2⟩,h3⟩
 exact ⟨v,rfl,⟨ι',h1.keep (fun _ _ _=>rfl) (fun b hb=>.inl (h2 b hb)) (fun _ _ h=>h)⟩,h3⟩
theorem b1m {w:World} {ι:Io} {M:Ms} {a b:S} {v:Value} (h:RS w ι M (.tup [a,b]) v):∃x y,v=.tuple #[x,y]∧RS w ι M a x∧RS w ι M b y:=by
 cases h with
 |tup vs hl hr=>
  match vs,hl,hr with
  |[x,y],_,hr=>exact ⟨x,y,rfl,hr 0 _ rfl,hr 1 _ rfl⟩
theorem aS1 {w:World} {ι:Io} {M:Ms} {n:Int} {v:Value} (h:RS w ι M (b7 .i64 n) v):v=.int .i64 n:=ah0 h
theorem az5 {w:World} {ι:Io} {M:Ms} {b:Bool} {v:Value} (h:RS w ι M (i8 b) v):v=.bool b:=ah0 h
theorem b0N {w:World} {ι:Io} {M:Ms} {l:List Int} {v:Value} (h:RS w ι M (i6 l) v):RT w M (E5 l) v:=by
 cases h with|c h=>cases h with|t h=>exact h
theorem b0m {w:World} {M:Ms} {l:List Int} {v:Value} (h:RT w M (E5 l) v):∃A cap,v=.slice A l.length cap∧l.length<=cap∧cap<=maxLen∧∀i x,l[i]? =some x->∃b off,A=some ⟨b,off,none⟩∧w.cell? ⟨b,off+i,none⟩=some (.int .i64 x):=by
 have ml:(l.map i5).length=l.length:=by simp
 generalize hrows:l.map i5=rows at h
 cases h with
 |@sl _ _ _ b off cap A f hrow hcap hmax hk hn hA hc hr hx=>
  subst hrows
  refine ⟨A,cap,by rw [ml],by omega,hmax,fun i x hi=>?_⟩
  have hne:l.map i5≠[]:=by intro h;rw [List.map_eq_nil_iff] at h;subst h;simp at hi
  have h2:at2 (l.map i5) i 0=some (ti x):=by simp [at2,hi,i5]
  have h3:=(hc i 0 _ h2).1
  have h4:=hr i 0 _ h2
  have h5:f i 0=.int .i64 x:=by
   generalize f i 0=u at h4
   cases h4 with|atm=>rfl
  refine ⟨b,off,hA hne,?_⟩
  rw [show off+i=off+(i*1+0) by omega,h3,h5]
theorem b5z {W:World} {ι:Io} {M:Ms} {a b:S} {x y:Value} (h1:RS W ι M a x) (h2:RS W ι M b y):∀j s,[a,b][j]? =some s->RS W ι M s ([x,y].getD j undef):=fun j s hj=>by
 match j,hj with
 |0,hj=>injection hj with hj;subst hj;exact h1
 |1,hj=>injection hj with hj;subst hj;exact h2
 |j+2,hj=>simp at hj
theorem ba0 {W:World} {ι:Io} {M:Ms} {a b c:S} {x y z:Value} (h1:RS W ι M a x) (h2:RS W ι M b y) (h3:RS W ι M c z):∀j s,[a,b,c][j]? =some s->RS W ι M s ([x,y,z].getD j undef):=fun j s hj=>by
 match j,hj with
 |0,hj=>injection hj with hj;subst hj;exact h1
 |1,hj=>injection hj with hj;subst hj;exact h2
 |2,hj=>injection hj with hj;subst hj;exact h3
 |j+3,hj=>simp at hj
theorem ab0 {w W:World} {M:Ms} (h:MB w M) (hb:Below w.heap.size w W):MB W M:=fun b hm=>Nat.lt_of_lt_of_le (h b hm) hb.size
section
variable {w:World} {ι:Io} {M:Ms} {t:g7} {kind:Int} {n:Nat} {v0:Value}
theorem b4F (hMB:MB w M) (hF:Y9 ι 0) (hE:ExP t kind n) (hn:n<=8) (h0:RS w ι M (trS t) v0) (m:Nat) {W:World} (hW:Below w.heap.size w W):
 CallsIn Fence.wide m Tryz.prog 127 #[v0,.int .i64 kind] W fun e W'=>∃lv,e=.returned (.tuple #[lv,.int .i64 0])∧RT W' M (E5 (D8 t kind n)) lv∧Below W.heap.size W W':=by
 refine (a4Y (aj8 t kind n hE hn) m (vals:=[v0,.int .i64 kind]) rfl (b5z (a30 hW h0) (.c (.t (.atm rfl)))) (ab0 hMB hW) hF).mono ?_
 rintro e W' ⟨v,rfl,⟨ι',hr⟩,hb⟩
 obtain ⟨x,y,rfl,h1,h2⟩:=b1m hr
 rw [aS1 h2]
 exact ⟨x,rfl,b0N h1,hb⟩
theorem b4P (hMB:MB w M) (hF:Y9 ι 0) (hE:ExP t kind n) (h0:RS w ι M (trS t) v0) (m:Nat) {W:World} (hW:Below w.heap.size w W):
 CallsIn Fence.wide m Tryz.prog 64 #[v0,.int .i64 kind] W fun e W'=>∃(A:Option Addr) (len cap:Nat),e=.returned (.tuple #[.agg #[.int .i64 (t.ev.moves.length:Int),.slice A len cap],.int .i64 0])∧RS W' (fun _=>none) M (a1b (m7 t kind)) (.agg #[.int .i64 (t.ev.moves.length:Int),.slice A len cap])∧Below W.heap.size W W':=by
 have sy:=a2O t kind hE.s
 have e1:a16 t kind=0:=L6.2 ⟨hE.e,hE.k0,hE.k1⟩
 have hc:¬(s6 t≠0∨kind<0∨8<=kind):=by have:=L6.1 e1;omega
 have e2:aB0 t kind=m7 t kind:=if_neg hc
 rw [e1,e2] at sy
 refine (a4Y sy m (vals:=[v0,.int .i64 kind]) rfl (b5z (a30 hW h0) (.c (.t (.atm rfl)))) (ab0 hMB hW) hF).mono ?_
 rintro e W' ⟨v,rfl,⟨ι',hr⟩,hb⟩
 obtain ⟨x,y,rfl,h1,h2⟩:=b1m hr
 rw [aS1 h2]
 cases h1 with
 |agg vs hl hq=>
  match vs,hl,hq with
  |[a,b],_,hq=>
   have g0:=hq 0 _ rfl
   have g1:=hq 1 _ rfl
   simp only [lb6,lb7] at g0 g1
   cases g0 with|t g0=>cases g1 with|t g1=>
   cases g0 with|atm=>
   obtain ⟨A,len,cap,rfl⟩:∃(A:Option Addr) (len cap:Nat),b=.slice A len cap:=by
    cases g1 with|sl=>exact ⟨_,_,_,rfl⟩
   refine ⟨A,len,cap,rfl,?_,hb⟩
   refine .agg [_,_] rfl fun j c hj=>?_
   match j,hj with
   |0,hj=>injection hj with hj;subst hj;exact .t (.atm rfl)
   |1,hj=>injection hj with hj;subst hj;exact .t g1
   |j+2,hj=>simp at hj
theorem b3b (hMB:MB w M) (hx:XT t kind n) (h0:RS w (fun _=>none) M (trS t) v0) (m:Nat) {W2 W:World} (hw2:Below w.heap.size w W2) {sv:Value} (hs:RS W2 (fun _=>none) M (a1b (m7 t kind)) sv) (hW:Below W2.heap.size W2 W) {set:List Int} (hl:set.length<=1000) {v:Value} (hv:RT W M (E5 set) v):
 CallsIn Fence.wide m Tryz.prog 66 #[v0,sv,v] W fun e W'=>e=.returned (.bool (pX t kind n set))∧Below W.heap.size W W':=by
 have hwW:Below w.heap.size w W:=hw2.trans (hW.mono hw2.size)
 refine (a4Y (ae0 t kind n hx set (by omega)) m (vals:=[v0,sv,v]) rfl (ba0 (a30 hwW h0) (a30 hW hs) (.c (.t hv))) (ab0 hMB hwW) (fun _ _=>rfl)).mono ?_
 rintro e W' ⟨u,rfl,⟨ι',hr⟩,hb⟩
 rw [az5 hr]
 exact ⟨rfl,hb⟩
theorem b3G (m:Nat) {W:World} (hMB:MB W M) {outs:List XE} {outv:Value} (ho:RT W M (aR6 (outs.map Prod.fst)) outv) (h1:outs.length<=1000000) (h2:∀a ∈ outs,a.1.length<=1000000) {set:List Int} (hs:set.length<=1000000) {v:Value} (hv:RT W M (E5 set) v) {b:Nat} (hb:Boxed W b tIs v) (hbM:¬M b):
 CallsIn Fence.wide m Tryz.prog 129 #[outv,.func (.func 130) #[] #[.pointer (some ⟨b,0,none⟩)]] W fun e W'=>e=.returned (.bool (outs.any fun a=>C5 a.1 set))∧Below W.heap.size W W':=by
 have hc:=b2m (outs.map Prod.fst) (by simpa using h1) (fun a ha=>by obtain ⟨x,hx,rfl⟩:=lby.1 ha;exact h2 x hx) set hs
 rw [List.any_map] at hc
 refine (a4Y hc m (ι:=fun _=>none) (M:=M) (vals:=[outv,.func (.func 130) #[] #[.pointer (some ⟨b,0,none⟩)]]) rfl (b5z (.c (.t ho)) (.c (.t (.fn [_] rfl fun j c hj=>?_)))) hMB (fun _ _=>rfl)).mono ?_
 ·match j,hj with
  |0,hj=>
   injection hj with hj;subst hj
   refine .ptr (b:=b) (off:=0) (fun _=>v) (fun j c hj=>?_) (fun j c hj=>?_)
   ·match j,hj with
    |0,hj=>exact ⟨hb.cell,hbM⟩
    |j+1,hj=>simp at hj
   ·match j,hj with
    |0,hj=>injection hj with hj;subst hj;exact hv
    |j+1,hj=>simp at hj
  |j+1,hj=>simp at hj
 ·rintro e W' ⟨u,rfl,⟨ι',hr⟩,hb⟩
  rw [az5 hr]
  exact ⟨rfl,hb⟩
end
theorem bc4 {w:World} {ι:Io} {M:Ms} {t:g7} {v:Value} (h:RS w ι M (trS t) v):∃a0 a1 a2 a3 a4 a5 a6 a7 a8 a9,v=.agg #[a0,a1,a2,a3,a4,a5,a6,a7,a8,a9]∧
 a0.oneCell'=true∧a1.oneCell'=true∧a2.oneCell'=true∧a3.oneCell'=true∧a4.oneCell'=true∧a5.oneCell'=true∧a6.oneCell'=true∧a7.oneCell'=true∧a8.oneCell'=true∧a9.oneCell'=true:=by
 cases h with
 |agg vs hl hr=>
  match vs,hl,hr with
  |[u0,u1,u2,u3,u4,u5,u6,u7,u8,u9],_,hr=>
   have h0:=hr 0 _ rfl
   have h1:=hr 1 _ rfl
   have h2:=hr 2 _ rfl
   have h3:=hr 3 _ rfl
   have h4:=hr 4 _ rfl
   have h5:=hr 5 _ rfl
   have h6:=hr 6 _ rfl
   have h7:=hr 7 _ rfl
   have h8:=hr 8 _ rfl
   have h9:=hr 9 _ rfl
   simp only [lb6,lb7] at h0 h1 h2 h3 h4 h5 h6 h7 h8 h9
   exact ⟨u0,u1,u2,u3,u4,u5,u6,u7,u8,u9,rfl,h0.one,h1.one,h2.one,h3.one,h4.one,h5.one,h6.one,h7.one,h8.one,h9.one⟩
theorem b8d (l:List Value) (h:l.length=68):l=(List.range 68).map fun i=>l.getD i undef:=by
 refine List.ext_getElem? fun i=>?_
 by_cases hi:i<68
 ·have hl:i<l.length:=by omega
  simp [hi,lbl,hl]
 ·rw [lbd (by omega),lbd (by simp;omega)]
theorem b9z (a:Act) (h:a.tmps.size=68) (hd:a.defers=[]):a=⟨((List.range 68).map fun i=>a.tmps.getD i undef).toArray,[]⟩:=by
 obtain ⟨tm,ds⟩:=a
 have hd:ds=[]:=hd
 subst hd
 congr 1
 have:=b8d tm.toList (by simpa using h)
 obtain ⟨l⟩:=tm
 simpa using congrArg List.toArray this
theorem aV1 {W:World} {b l:Nat} {vs:Array Value} {t:TypeId} {fl:Nat × Nat} {o:Obj} (hb:W.heap[b]? =some (Obj.cells vs t fl)) (hl:W.heap[l]? =some o) (ho:o.isCells=false):b≠l:=by
 rintro rfl
 rw [hb] at hl
 injection hl with hl
 exact au3 hl.symm ho
theorem KpX.putObj {X ns:Nat} {W:World} {l:Nat} {o o':Obj} (hl:W.heap[l]? =some o) (ho:o.isCells=false):KpX X ns W (W.putObj l o'):=
 ⟨by simp [World.putObj],fun b vs t fl hb _ _=>(World.putObj_heap_other (aV1 hb hl ho)).trans hb⟩
theorem b9e {W:World} {l b:Nat} {t:TypeId} {v:Value} {o o':Obj} (hb:Boxed W b t v) (hl:W.heap[l]? =some o) (ho:o.isCells=false):Boxed (W.putObj l o') b t v:=(World.putObj_heap_other (aV1 hb hl ho)).trans hb
theorem a19.put {n0:Nat} {W:World} {s:List Int} {v:Value} {l:Nat} {o o':Obj} (h:a19 n0 W s v) (hl:W.heap[l]? =some o) (ho:o.isCells=false):a19 n0 (W.putObj l o') s v:=by
 rcases h with hr|⟨g,cap,cur,a1,a2,a3,a4⟩
 ·exact .inl hr
 ·exact .inr ⟨g,cap,cur,a1,a2,(World.putObj_heap_other (aV1 a3 hl ho)).trans a3,a4⟩
end
section
open Go.RowKit Go.Shelf
attribute [local go_sem] Oper.semAt_some
theorem al8 {p:List Int->Bool} {l:List Int}:∀(m k:Nat),I8 p l true k≠[]->I8 p l true (k+m)=I8 p l true k
 |0,k,_=>rfl
 |m+1,k,h=>by
  have ih:=al8 m k h
  rw [show k+(m+1)=(k+m)+1 by omega,I8,if_pos ⟨rfl,by rw [ih];exact h⟩,ih]
theorem b5s {P:Program} {w:World} {base:Nat} {t ty e:TypeId} {i:TypeInfo} {size:Nat} (ht:P.underlying t=some (.slice e)) (hi:P.info? e=some i) {v:Value} {n:Nat} {xs:List Value} (hown:w.ownsRow base e size v n xs) (c:Nat):
 (Builtin.append_ #[t,t] ty #[v,.slice none 0 c]).run P w=.ok v w:=by
 rcases hown.2 with ⟨rfl,rfl⟩|⟨g,cap,cur,rfl,_,_,hnc,_⟩
 ·simp [Builtin.append_,run_underlying ht,sizeOf,typeInfo,hi,Builtin.lenOf,Builtin.firstCells]
 ·simp [Builtin.append_,run_underlying ht,sizeOf,typeInfo,hi,Builtin.lenOf,Builtin.firstCells,hnc,storeCells]
theorem a5q {F:Fence} {n:Nat} {P:Program} {w:World} {ops:Array Oper} {rest:List Oper} {o:Oper} {a:Act} {Q:Exit->Act->World->Prop} (hg:o.guard=none) (s x:Operand) (t:TypeId) (hop:o.op=Op.call { callee:=Callee.builtin Builtin.append,args:=#[s,x],argTypes:=#[t,t] })
 {v:Value} {c:Nat} (hs:a.eval s=v) (hx:a.eval x=.slice none 0 c) (hrun:(Builtin.append_ #[t,t] o.type #[v,.slice none 0 c]).run P w=.ok v w) (hK:wpListIn F n P ops Q rest (a.put o.dst v) w):wpListIn F n P ops Q (o::rest) a w:=by
 refine wpListIn_plain hg fun K hK'=>?_
 unfold Oper.wpIn
 refine ⟨?_,?_⟩
 ·simp [Oper.about,hop,resolve,Target.leads,Sem.run_pure]
 ·rw [Oper.semAt_plain F _ _ (by rw [hop];intro c hc';cases hc')]
  simp [execOp,hop,resolve,invoke,builtin,hs,hx,hrun,Result.andThen]
  exact hK' _ _ hK
theorem b1y:(Tryz.prog.info? 33).map (fun i=>(i.zero,i.size,i.bytes))=some (some (.slice none 0 0),1,24):=by kernel_rfl
theorem a1f {F:Fence} {n:Nat} {P:Program} {f:FuncId} {args:Array Value} {w:World} {R:Ending->World->Prop} (l:Nat) (h:CallsIn F n P f args w R):CallsIn (F.inRound l) n P f args w R:=h
theorem a6u:∀(l:List Int) (n:Nat),(E8 l n).length<=2 ^ l.length
 |l,0=>by simp [E8];exact Nat.one_le_two_pow
 |[],n+1=>by simp [E8]
 |x::r,n+1=>by
  have h1:=a6u r n
  have h2:=a6u r (n+1)
  rw [E8,lbq,lbr,lbu,Nat.pow_succ]
  omega
theorem b0c (W:World) (o:Obj):Below W.heap.size W (W.alloc o):=(Below.refl _ W).alloc (lbR _) o
theorem am0 {W:World} {b:Nat} {x y:Value} {t:TypeId} (h:W.heap[b]? =some (.cells #[x,y] t (0,0))):W.cell? ⟨b,0,none⟩=some x∧W.cell? ⟨b,1,none⟩=some y∧W.frozen? ⟨b,0,none⟩=false∧W.frozen? ⟨b,1,none⟩=false:=by
 refine ⟨?_,?_,?_,?_⟩<;>simp [World.cell?,World.frozen?,h]
theorem b36 {w:World} {M:Ms} (hMB:MB w M) {t:g7} {kind:Int} {n:Nat} (hE:ExP t kind n) (hx:XT t kind n) (short:Bool) {v0:Value} (h0:RS w (fun _=>none) M (trS t) v0):
 Calls Tryz.prog 61 #[v0,.int .i64 kind,.bool short] w fun e w'=>∃v,e=.returned (.tuple #[v,.int .i64 0])∧RT w' M (aR6 (J0 t kind n short)) v∧Below w.heap.size w w':=by
 have hsus:=fun m W hW=>b4F (m:=m) (W:=W) hMB (fun _ _=>rfl) hE (by have:=hx.h4;omega) h0 hW
 have hsys:=fun m W hW=>b4P (m:=m) (W:=W) hMB (fun _ _=>rfl) hE h0 hW
 have hexp:=fun m W2 W hw2 sv hs hW set hl v hv=>b3b (m:=m) (W2:=W2) (W:=W) (sv:=sv) (set:=set) (v:=v) hMB hx h0 hw2 hs hW hl hv
 obtain ⟨a0,a1,a2,a3,a4,a5,a6,a7,a8,a9,rfl,o0,o1,o2,o3,o4,o5,o6,o7,o8,o9⟩:=bc4 h0
 have hsl:=a4I t kind n
 have hn6:=hx.h4
 have hdd:∀k:Nat,(Fence.wide.depth.isSome=true->1<=k):=fun k h=>by simp [Fence.wide] at h
 refine (callsIn_wide (n:=9)).1 ?_
 refine callsIn_of_wp_marks Tryz.func61 rfl trivial ?_ rfl
 simp only [Tryz.ntmps61,List.size_toArray,lbu,List.length_nil,Nat.reduceAdd,Nat.reduceSub,Array.replicate_succ,Array.replicate_zero,List.push_toArray,List.append_toArray,List.nil_append,List.cons_append]
 obtain ⟨W0,hW0⟩:∃W0,w.alloc (.cells #[a0,a1,a2,a3,a4,a5,a6,a7,a8,a9] 32)=W0:=⟨_,rfl⟩
 have b0:W0.heap[w.heap.size]? =some (.cells #[a0,a1,a2,a3,a4,a5,a6,a7,a8,a9] 32 (0,0)):=by rw [← hW0];exact World.alloc_heap_new w _
 have hB0:Below w.heap.size w W0:=by rw [← hW0];exact (Below.refl _ w).alloc (lbR _) _
 have s0:W0.heap.size=w.heap.size+1:=by rw [← hW0];simp
 have ten:∀W:World,Below W0.heap.size W0 W->W.heap[w.heap.size]? =some (.cells #[a0,a1,a2,a3,a4,a5,a6,a7,a8,a9] 32 (0,0)):=fun W hW=>(hW.block _ (by omega)).trans b0
 have cells10:∀W:World,W.heap[w.heap.size]? =some (.cells #[a0,a1,a2,a3,a4,a5,a6,a7,a8,a9] 32 (0,0))->W.cell? ⟨w.heap.size,0,none⟩=some a0∧W.cell? ⟨w.heap.size,1,none⟩=some a1∧W.cell? ⟨w.heap.size,2,none⟩=some a2∧W.cell? ⟨w.heap.size,3,none⟩=some a3∧W.cell? ⟨w.heap.size,4,none⟩=some a4∧W.cell? ⟨w.heap.size,5,none⟩=some a5∧W.cell? ⟨w.heap.size,6,none⟩=some a6∧W.cell? ⟨w.heap.size,7,none⟩=some a7∧W.cell? ⟨w.heap.size,8,none⟩=some a8∧W.cell? ⟨w.heap.size,9,none⟩=some a9:=fun W hb=>by
  refine ⟨?_,?_,?_,?_,?_,?_,?_,?_,?_,?_⟩<;>simp [World.cell?,hb]
 obtain ⟨c0,c1,c2,c3,c4,c5,c6,c7,c8,c9⟩:=cells10 W0 b0
 gi_wp2_with (first
  |(refine ⟨trivial,?_⟩;gi_at_call 127;(try rw [hW0]);refine (hsus _ _ hB0).mono ?_;rintro e W1 ⟨lv,rfl,hlv,hB1⟩;obtain ⟨d0,d1,d2,d3,d4,d5,d6,d7,d8,d9⟩:=cells10 W1 (ten W1 hB1);have hB1w:=hB0.trans (hB1.mono (by omega)))
  |(refine ⟨trivial,?_⟩;gi_at_call 64;refine (hsys _ _ hB1w).mono ?_;rintro e W2 ⟨A2,len2,cap2,rfl,hsv,hB2⟩;have g2:=am0 (World.alloc_heap_new W2 (.cells #[.int .i64 0,.slice none 0 0] 70));obtain ⟨g20,g21,g22,g23⟩:=g2))
 obtain ⟨Al,capl,rfl,lc1,lc2,lrow⟩:=b0m hlv
 have hB2w:Below w.heap.size w W2:=hB1w.trans (hB2.mono hB1w.size)
 obtain ⟨W3,hW3⟩:∃W3,W2.alloc (.cells #[.int .i64 (t.ev.moves.length:Int),.slice A2 len2 cap2] 70)=W3:=⟨_,rfl⟩
 have bS3:W3.heap[W2.heap.size]? =some (.cells #[.int .i64 (t.ev.moves.length:Int),.slice A2 len2 cap2] 70 (0,0)):=by rw [← hW3];exact World.alloc_heap_new W2 _
 have hB3:Below W2.heap.size W2 W3:=by rw [← hW3];exact (Below.refl _ _).alloc (lbR _) _
 have s3:W3.heap.size=W2.heap.size+1:=by rw [← hW3];simp
 rw [hW3]
 have bO:=Boxed.new W3 a2n (.slice none 0 0)
 obtain ⟨W4,hW4⟩:∃W4,W3.alloc (.cells #[.slice none 0 0] a2n)=W4:=⟨_,rfl⟩
 have hB4:Below W3.heap.size W3 W4:=by rw [← hW4];exact (Below.refl _ _).alloc (lbR _) _
 have s4:W4.heap.size=W3.heap.size+1:=by rw [← hW4];simp
 rw [hW4] at bO
 rw [hW4]
 have hB34:Below W2.heap.size W2 W4:=hB3.trans (hB4.mono (by omega))
 have hB4w:Below w.heap.size w W4:=hB2w.trans (hB34.mono hB2w.size)
 have hs01:w.heap.size<W2.heap.size:=by have:=hB1.size;have:=hB2.size;omega
 have ten4:W4.heap[w.heap.size]? =some (.cells #[a0,a1,a2,a3,a4,a5,a6,a7,a8,a9] 32 (0,0)):=(hB34.block _ hs01).trans (ten W2 (hB1.trans (hB2.mono hB1.size)))
 have bS4:W4.heap[W2.heap.size]? =some (.cells #[.int .i64 (t.ev.moves.length:Int),.slice A2 len2 cap2] 70 (0,0)):=(hB4.block _ (by omega)).trans bS3
 clear hW0 hW3 hW4
 obtain ⟨X1,hX1⟩:∃X1,W2.heap.size+1=X1:=⟨_,rfl⟩
 rw [hX1]
 rw [hX1] at s3
 rw [s3] at bO s4 hB4
 obtain ⟨b10,hb10⟩:∃b,W2.heap.size=b:=⟨_,rfl⟩
 obtain ⟨b3,hb3⟩:∃b,w.heap.size=b:=⟨_,rfl⟩
 rw [hb10] at bS4 ⊢
 rw [hb3] at ten4 ⊢
 rw [hb10,hb3] at hs01
 rw [hb3] at cells10
 clear bS3 s0 b0 hB0 c0 c1 c2 c3 c4 c5 c6 c7 c8 c9
 refine wpIn_loop (fun a W=>∃(k:Nat) (outs:List XE) (outv:Value) (Ds:List Nat) (x13 x14 x30 x31 x32 x33 x34 x35 x36 x37 x38 x39 x40 x41 x42 x43 x44 x45 x46 x47 x48 x49 x50 x51 x52 x53 x54 x55 x56 x57 x58 x59 x60 x61 x62 x63 x64 x65 x66 x67:Value),a=⟨(Value.agg #[a0,a1,a2,a3,a4,a5,a6,a7,a8,a9]::Value.int .i64 kind::Value.bool short::Value.pointer (some ⟨b3,0,none⟩)::undef::undef::Value.slice none 0 0::Value.int .i64 0::Value.slice Al (D8 t kind n).length capl::Value.int .i64 0::Value.pointer (some ⟨b10,0,none⟩)::Value.pointer (some ⟨X1,0,none⟩)::Value.int .i64 (k:Int)::x13::x14::Value.tuple #[.slice Al (D8 t kind n).length capl,.int .i64 0]::Value.agg #[a0,a1,a2,a3,a4,a5,a6,a7,a8,a9]::Value.int .i64 kind::Value.tuple #[.slice Al (D8 t kind n).length capl,.int .i64 0]::Value.slice Al (D8 t kind n).length capl::Value.int .i64 0::Value.int .i64 0::Value.bool false::undef::Value.tuple #[.agg #[.int .i64 (t.ev.moves.length:Int),.slice A2 len2 cap2],.int .i64 0]::Value.agg #[a0,a1,a2,a3,a4,a5,a6,a7,a8,a9]::Value.int .i64 kind::Value.tuple #[.agg #[.int .i64 (t.ev.moves.length:Int),.slice A2 len2 cap2],.int .i64 0]::Value.agg #[.int .i64 (t.ev.moves.length:Int),.slice A2 len2 cap2]::Value.int .i64 0::x30::x31::x32::x33::x34::x35::x36::x37::x38::x39::x40::x41::x42::x43::x44::x45::x46::x47::x48::x49::x50::x51::x52::x53::x54::x55::x56::x57::x58::x59::x60::x61::x62::x63::x64::x65::x66::x67::[]).toArray,Ds.map b59⟩∧k<=(D8 t kind n).length+1∧outs.map Prod.fst=I8 (pX t kind n) (D8 t kind n) short k∧outs.length<=k*64∧(∀ a ∈ outs,a.1.length<=1000)∧FI X1 W4 outs outv Ds W) (fun a W=>(D8 t kind n).length+2 - (intOf (a.tmps.getD 12 undef)).toNat) ?start ?round
 case start=>
  refine ⟨0,[],.slice none 0 0,[],undef,undef,undef,undef,undef,undef,undef,undef,undef,undef,undef,undef,undef,undef,undef,undef,undef,undef,undef,undef,undef,undef,undef,undef,undef,undef,undef,undef,undef,undef,undef,undef,undef,undef,undef,undef,undef,undef,undef,undef,rfl,Nat.zero_le _,rfl,Nat.zero_le _,fun a ha=>(by cases ha),?_⟩
  exact ⟨Below.refl _ _,bO,World.ownsRow_nil _ _ _ _,fun x hx=>(by cases hx),List.nodup_nil,fun D hD=>(by cases hD)⟩
 case round=>
  rintro a W ⟨k,outs,outv,Ds,x13,x14,x30,x31,x32,x33,x34,x35,x36,x37,x38,x39,x40,x41,x42,x43,x44,x45,x46,x47,x48,x49,x50,x51,x52,x53,x54,x55,x56,x57,x58,x59,x60,x61,x62,x63,x64,x65,x66,x67,rfl,hk,ho,ho2,ho3,hFI⟩
  obtain ⟨Ao,capo,rfl⟩:∃Ao capo,outv=.slice Ao outs.length capo:=by
   rcases hFI.row.2 with ⟨rfl,h⟩|⟨g,cap,cur,rfl,_⟩
   ·exact ⟨none,0,by rw [h]⟩
   ·exact ⟨_,_,rfl⟩
  have cO:=hFI.bx.cell
  have hk64:k*64<=7*64:=lbU _ (by omega)
  have hpow:∀q,(E8 (D8 t kind n) q).length<=64:=fun q=>lbS (a6u _ q) (lbS (Nat.pow_le_pow_right (by decide) (show (D8 t kind n).length<=6 by omega)) (by decide))
  by_cases hstop:k<=(D8 t kind n).length∧(short=true->outs=[])
  ·have hcase:short=false∨(short=true∧(outs.length:Int)=0):=by
    cases short with
    |false=>exact .inl rfl
    |true=>exact .inr ⟨rfl,by rw [hstop.2 rfl];rfl⟩
   have hkI:(k:Int)<=((D8 t kind n).length:Int):=by have:=hstop.1;omega
   have hnext:I8 (pX t kind n) (D8 t kind n) short (k+1)=I8 (pX t kind n) (D8 t kind n) short k++(E8 (D8 t kind n) k).filter fun s=>!((I8 (pX t kind n) (D8 t kind n) short k).any fun a=>C5 a s) && pX t kind n s:=by
    rw [I8,if_neg]
    rintro ⟨h1,h2⟩
    rw [← ho,hstop.2 h1] at h2
    exact h2 rfl
   rw [← ho] at hnext
   rcases hcase with rfl|⟨rfl,hl0⟩
   all_goals
    gi_wp2_with (refine ⟨trivial,?_⟩;gi_at_call 128;refine (b2H 8 _ _ _ _ _).mono ?_;rintro e Wb ⟨rfl,hWb⟩)
    all_goals try omega
    try clear hl0
    clear hstop
    obtain ⟨X,hX⟩:∃X,W.heap.size=X:=⟨_,rfl⟩
    have hX1X:X1<X:=by have:=hFI.bx.lt;omega
    have bX:Boxed Wb X a2n (.slice none 0 0):=by
     rw [hWb,←hX]
     exact ((Boxed.new W a2n (.slice none 0 0)).alloc _).alloc _
    have bL:Boxed Wb (X+1) tIs (.slice Al (D8 t kind n).length capl):=by
     have:=Boxed.new (W.alloc (.cells #[.slice none 0 0] a2n)) tIs (.slice Al (D8 t kind n).length capl)
     rw [World.size_alloc] at this
     rw [hWb,←hX]
     exact this.alloc _
    have bN:Boxed Wb (X+2) tI (.int .i64 (k:Int)):=by
     have:=Boxed.new ((W.alloc (.cells #[.slice none 0 0] a2n)).alloc (.cells #[.slice Al (D8 t kind n).length capl] tIs)) tI (.int .i64 (k:Int))
     rw [World.size_alloc,World.size_alloc] at this
     rw [hWb,←hX]
     exact this
    have sb:Wb.heap.size=X+3:=by rw [hWb,←hX];simp
    have hBb:Below X W Wb:=by
     rw [hWb,←hX]
     exact (((Below.refl _ W).alloc (lbR _) _).alloc (by simp) _).alloc (by simp;omega) _
    rw [← hWb,hX]
    clear hWb
    have q1:∀i x,(D8 t kind n)[i]? =some x->∃b off,Al=some ⟨b,off,none⟩∧Wb.cell? ⟨b,off+i,none⟩=some (.int .i64 x)∧b<X+3∧b≠X:=fun i x hx=>by
     obtain ⟨b,off,h1,h2⟩:=lrow i x hx
     have hb:b<W1.heap.size:=aE0 h2
     have z2:=hB2.size
     have c1:Below W1.heap.size W1 Wb:=hB2.trans ((hB34.mono z2).trans ((hFI.bel.mono (by omega)).trans (hBb.mono (by omega))))
     exact ⟨b,off,h1,(c1.cell (p:=⟨b,off+i,none⟩) hb).trans h2,by omega,by omega⟩
    refine aJ6 (n:=9) rfl (by omega) (gf:=199) (lb:=#[.pointer (some ⟨X+2,0,none⟩),.pointer (some ⟨X+1,0,none⟩)]) rfl trivial (enters_of Tryz.func199 (by kernel_rfl) rfl)
     (b4B (X:=X) (ns:=X+3) b27 8 (by omega) (by omega) Wb (by omega) bN bL q1 ⟨by omega,by omega,by omega,by omega,by omega⟩ ⟨lc1,lc2⟩) KpX.trans (fun W l o o' _ h1 h2 _=>KpX.putObj h1 h2) (Below.refl _ _) (fun _=>rfl)
     (FP X (X+3) W (fun s=>!(outs.any fun a=>C5 a.1 s) && pX t kind n s)) (by rw [sb];exact FP.own (by omega))
     ⟨hBb,by omega,⟨_,bX,World.ownsRow_nil _ _ _ _⟩,fun x hx=>(by cases hx)⟩
     (fun pre x a1 W1=>a1.defers=[]∧a1.tmps.size=68∧a1.tmps.getD 3 undef=.pointer (some ⟨b3,0,none⟩)∧a1.tmps.getD 10 undef=.pointer (some ⟨b10,0,none⟩)∧a1.tmps.getD 11 undef=.pointer (some ⟨X1,0,none⟩)∧a1.tmps.getD 13 undef=.pointer (some ⟨X,0,none⟩)∧pre.length<(E8 (D8 t kind n) k).length∧
       ∃b14,a1.tmps.getD 14 undef=.pointer (some ⟨b14,0,none⟩)∧FP X (X+3) W (fun s=>!(outs.any fun a=>C5 a.1 s) && pX t kind n s) pre W1∧a19 (X+3) W1 x.1 x.2∧Boxed W1 b14 tIs x.2∧X+3<=b14∧x.1.length<=1000) ?Ab ?assign ?body ?done
    case Ab=>
     rintro pre x ac W1 l o o' hle hl hc ⟨d1,d2,d3,d10,d11,d13,hlt,b14,d14,hFP,hI,hb14,hge,hsl3⟩
     exact ⟨d1,d2,d3,d10,d11,d13,hlt,b14,d14,(FP.own (by omega)).putObj _ hFP (by omega) hl hc,hI.put hl hc,b9e hb14 hl hc,hge,hsl3⟩
    case assign=>
     rintro l pre ⟨s,v⟩ W1 K hFP ⟨hI,hsl3⟩ hlt hK
     obtain ⟨Av,cv,hv⟩:=a3d hI
     simp only at hv hI
     subst hv
     have bn0:=Boxed.new W1 tIs (.slice none 0 0)
     have bn1:=bn0.cell
     have bn2:=bn0.frozen
     gi_wp2
     have hBa:=b0c W1 (.cells #[.slice Av s.length cv] tIs)
     exact hK _ _ ⟨rfl,rfl,rfl,rfl,rfl,rfl,hlt,W1.heap.size,rfl,hFP.kept (hBa.mono (by have:=hFP.sz;omega)) (fun b vs ty fl hb=>(hBa.block b (t9 hb)).trans hb),hI.below hBa,Boxed.new _ _ _,hFP.sz,hsl3⟩ ((KeepsOthers.alloc _ _).from _) (KpX.alloc _ _ _ _)
    case body=>
     rintro l pre ⟨s,v⟩ ac Wc ⟨d1,d2,d3,d10,d11,d13,hlt,b14,d14,hFP,hI,hb14,hge,hsl3⟩
     rw [b9z ac d2 d1]
     simp only [List.range,List.range.loop,List.map]
     rw [d3,d10,d11,d13,d14]
     clear d1 d2 d3 d10 d11 d13 d14
     generalize ac.tmps.getD 0 undef=y0
     generalize ac.tmps.getD 1 undef=y1
     generalize ac.tmps.getD 2 undef=y2
     generalize ac.tmps.getD 4 undef=y4
     generalize ac.tmps.getD 5 undef=y5
     generalize ac.tmps.getD 6 undef=y6
     generalize ac.tmps.getD 7 undef=y7
     generalize ac.tmps.getD 8 undef=y8
     generalize ac.tmps.getD 9 undef=y9
     generalize ac.tmps.getD 12 undef=y12
     generalize ac.tmps.getD 15 undef=y15
     generalize ac.tmps.getD 16 undef=y16
     generalize ac.tmps.getD 17 undef=y17
     generalize ac.tmps.getD 18 undef=y18
     generalize ac.tmps.getD 19 undef=y19
     generalize ac.tmps.getD 20 undef=y20
     generalize ac.tmps.getD 21 undef=y21
     generalize ac.tmps.getD 22 undef=y22
     generalize ac.tmps.getD 23 undef=y23
     generalize ac.tmps.getD 24 undef=y24
     generalize ac.tmps.getD 25 undef=y25
     generalize ac.tmps.getD 26 undef=y26
     generalize ac.tmps.getD 27 undef=y27
     generalize ac.tmps.getD 28 undef=y28
     generalize ac.tmps.getD 29 undef=y29
     generalize ac.tmps.getD 30 undef=y30
     generalize ac.tmps.getD 31 undef=y31
     generalize ac.tmps.getD 32 undef=y32
     generalize ac.tmps.getD 33 undef=y33
     generalize ac.tmps.getD 34 undef=y34
     generalize ac.tmps.getD 35 undef=y35
     generalize ac.tmps.getD 36 undef=y36
     generalize ac.tmps.getD 37 undef=y37
     generalize ac.tmps.getD 38 undef=y38
     generalize ac.tmps.getD 39 undef=y39
     generalize ac.tmps.getD 40 undef=y40
     generalize ac.tmps.getD 41 undef=y41
     generalize ac.tmps.getD 42 undef=y42
     generalize ac.tmps.getD 43 undef=y43
     generalize ac.tmps.getD 44 undef=y44
     generalize ac.tmps.getD 45 undef=y45
     generalize ac.tmps.getD 46 undef=y46
     generalize ac.tmps.getD 47 undef=y47
     generalize ac.tmps.getD 48 undef=y48
     generalize ac.tmps.getD 49 undef=y49
     generalize ac.tmps.getD 50 undef=y50
     generalize ac.tmps.getD 51 undef=y51
     generalize ac.tmps.getD 52 undef=y52
     generalize ac.tmps.getD 53 undef=y53
     generalize ac.tmps.getD 54 undef=y54
     generalize ac.tmps.getD 55 undef=y55
     generalize ac.tmps.getD 56 undef=y56
     generalize ac.tmps.getD 57 undef=y57
     generalize ac.tmps.getD 58 undef=y58
     generalize ac.tmps.getD 59 undef=y59
     generalize ac.tmps.getD 60 undef=y60
     generalize ac.tmps.getD 61 undef=y61
     generalize ac.tmps.getD 62 undef=y62
     generalize ac.tmps.getD 63 undef=y63
     generalize ac.tmps.getD 64 undef=y64
     generalize ac.tmps.getD 65 undef=y65
     generalize ac.tmps.getD 66 undef=y66
     generalize ac.tmps.getD 67 undef=y67
     obtain ⟨Av,cv,hv⟩:=a3d hI
     simp only at hv hI hb14 hsl3
     subst hv
     obtain ⟨i0,hi,hz0,hz1,hz2⟩:=info_parts b1y
     have hFPb:=hFP.bel
     rw [← hX] at hFPb
     have hFIc:=hFI.below hFPb
     rw [hX] at hFPb
     obtain ⟨fv,hfb,hfrow⟩:=hFP.pr
     have hMc:∀b,M b->b<b3:=fun b hb=>by have:=hMB b hb;omega
     have hwc:Below b3 w Wc:=by rw [← hb3];exact hB4w.trans (hFIc.bel.mono (by omega))
     have hMBc:MB Wc M:=fun b hb=>Nat.lt_of_lt_of_le (hMB b hb) hwc.size
     have hrtO:RT Wc M (aR6 (outs.map Prod.fst)) (.slice Ao outs.length capo):=b5x hFIc.row (fun b hb=>by have:=hMc b hb;omega) fun x hx=>(hFIc.ir x hx).rt fun b hb=>by have:=hMc b hb;omega
     have hsl2:∀a ∈ outs,a.1.length<=1000000:=fun a ha=>lbS (ho3 a ha) (by decide)
     have hrtS:RT Wc M (E5 s) (.slice Av s.length cv):=hI.rt fun b hb=>by have:=hMc b hb;omega
     have hcon:=b3G 6 hMBc hrtO (by omega) hsl2 (set:=s) (by omega) hrtS hb14 (fun hb=>by have:=hMc b14 hb;omega)
     have e11:=hFIc.bx.cell
     have e14:=hb14.cell
     have hBdAll:∀Wd:World,Below Wc.heap.size Wc Wd->Below b3 w Wd∧Below W2.heap.size W2 Wd∧Wd.heap[b3]? =some (.cells #[a0,a1,a2,a3,a4,a5,a6,a7,a8,a9] 32 (0,0))∧Wd.heap[b10]? =some (.cells #[.int .i64 (t.ev.moves.length:Int),.slice A2 len2 cap2] 70 (0,0)):=fun Wd hBd=>by
      have h1:Below X1 W4 Wd:=(hFIc.below hBd).bel
      refine ⟨hwc.trans (hBd.mono (by have:=hwc.size;omega)),?_,(h1.block b3 (by omega)).trans ten4,(h1.block b10 (by omega)).trans bS4⟩
      rw [hb10]
      rw [hb10] at hB34
      exact hB34.trans (h1.mono (by omega))
     have stepFP:∀Wd:World,Below Wc.heap.size Wc Wd->FP X (X+3) W (fun s=>!(outs.any fun a=>C5 a.1 s) && pX t kind n s) pre Wd:=fun Wd hBd=>hFP.kept (hBd.mono (by have:=hFP.sz;omega)) fun b vs ty fl hb=>(hBd.block b (t9 hb)).trans hb
     have keepO:∀Wd:World,Below Wc.heap.size Wc Wd->KeepsFrom Wb.heap.size Wc Wd:=fun Wd hBd=>⟨hBd.size,fun k o _ hk _=>(hBd.block k (t9 hk)).trans hk⟩
     cases hq1:(outs.any fun a=>C5 a.1 s) with
     |true=>
      rw [hq1] at hcon
      have hqf:(!(outs.any fun a=>C5 a.1 s) && pX t kind n s)=false:=by rw [hq1];rfl
      gi_wp2
      refine ⟨trivial,?_⟩
      refine (a1f l hcon).mono ?_
      rintro e Wd ⟨rfl,hBd⟩
      gi_wp2
      refine ⟨trivial,?_⟩
      gi_wp2
      have hf:=stepFP Wd hBd
      obtain ⟨fv2,f1,f2⟩:=hf.pr
      refine ⟨keepO Wd hBd,KpX.below hBd,hf.bel,hf.sz,⟨fv2,f1,?_⟩,?_⟩
      ·rw [lb9];simpa [hqf] using f2
      ·rw [lb9];simpa [hqf] using hf.ir
     |false=>
      rw [hq1] at hcon
      gi_wp2
      refine ⟨trivial,?_⟩
      refine (a1f l hcon).mono ?_
      rintro e Wd ⟨rfl,hBd⟩
      obtain ⟨g1,g2,g3,g4⟩:=hBdAll Wd hBd
      obtain ⟨d0,d1,d2,d3,d4,d5,d6,d7,d8,d9⟩:=cells10 Wd g3
      obtain ⟨m0,m1,m2,m3⟩:=am0 g4
      have e14d:=(a9N hBd hb14).cell
      have hxp:=hexp 6 W2 Wd hB2w _ hsv g2 s hsl3 _ (b0N (a30 hBd (RS.c (RC.t hrtS)):RS Wd (fun _=>none) M (i6 s) _))
      cases hq2:pX t kind n s with
      |true=>
       rw [hq2] at hxp
       gi_wp2
       refine ⟨trivial,?_⟩
       refine (a1f l hxp).mono ?_
       rintro e We ⟨rfl,hBe⟩
       have hBce:=hBd.trans (hBe.mono hBd.size)
       have hqt:(!(outs.any fun a=>C5 a.1 s) && pX t kind n s)=true:=by rw [hq1,hq2];rfl
       have hf:=stepFP We hBce
       obtain ⟨fv2,f1,f2⟩:=hf.pr
       have fc:=f1.cell
       have e14e:=(a9N hBce hb14).cell
       have hcnt:(pre.filter fun x=>!(outs.any fun a=>C5 a.1 x.1) && pX t kind n x.1).length+1<=64:=by
        have h1:=lbt (fun x:XE=>!(outs.any fun a=>C5 a.1 x.1) && pX t kind n x.1) pre
        have h2:=hpow k
        omega
       have hml:(64:Nat)<=maxLen:=by decide
       have hsz:=hf.sz
       gi_wp2_with (gi_at_builtin;refine wpListIn_append_own _ rfl _ _ a2n rfl (X+3) tIs i0 (.slice none 0 0) 1 24 Tryz.underlying36 hi hz0 hz1 hz2 rfl (by decide) _ _ _ rfl (f2.alloc _) ⟨We.heap.size,0,none⟩ 1 1 [.slice Av s.length cv] rfl rfl (cell_one_new _ _ _) (by simp [Value.oneCell']) (by omega) (by omega) (by simp;omega) ?_;intro v' w1 hown' hgrow _;obtain ⟨g',cap',rfl⟩:=ownsRow_succ hown';obtain ⟨hv1,hv2,hr2,hk2,hbx2,hkp2⟩:=b1W f1 f2 hsz hown' hgrow;have hc1:=hv1.cell;have hf1:=hv1.frozen)
       refine ⟨(keepO We hBce).trans (hk2.from _),(KpX.below hBce).trans hkp2,hf.bel.trans (hbx2.low (by omega) (lbR _)),lbS hsz hk2.size,⟨_,hv2,?_⟩,?_⟩
       ·rw [lb9];simpa [hqt] using hr2
       ·rw [lb9]
        intro x hx
        rcases lbA.1 hx with hx|hx
        ·exact hkp2.irow (by omega) (hf.ir x hx)
        ·have hx:x=(s,.slice Av s.length cv):=by simpa [hqt] using hx
         subst hx
         exact hkp2.irow (by omega) (hI.below hBce)
      |false=>
       rw [hq2] at hxp
       have hqf:(!(outs.any fun a=>C5 a.1 s) && pX t kind n s)=false:=by rw [hq1,hq2];rfl
       gi_wp2
       refine ⟨trivial,?_⟩
       refine (a1f l hxp).mono ?_
       rintro e We ⟨rfl,hBe⟩
       have hBce:=hBd.trans (hBe.mono hBd.size)
       gi_wp2
       have hf:=stepFP We hBce
       obtain ⟨fv2,f1,f2⟩:=hf.pr
       refine ⟨keepO We hBce,KpX.below hBce,hf.bel,hf.sz,⟨fv2,f1,?_⟩,?_⟩
       ·rw [lb9];simpa [hqf] using f2
       ·rw [lb9];simpa [hqf] using hf.ir
    case done=>
     rintro D xs Wr hD hxs hFP hdef
     have hFPb:=hFP.bel
     rw [← hX] at hFPb
     have hFIr:=hFI.below hFPb
     obtain ⟨i0,hi,hz0,hz1,hz2⟩:=info_parts b1y
     obtain ⟨fv,hfb,hfrow⟩:=hFP.pr
     have e11:=hFIr.bx.cell
     have f11:=hFIr.bx.frozen
     have eX:=hfb.cell
     have hlen:(xs.filter fun x=>!(outs.any fun a=>C5 a.1 x.1) && pX t kind n x.1).length<=64:=by
      have h1:=lbt (fun x:XE=>!(outs.any fun a=>C5 a.1 x.1) && pX t kind n x.1) xs
      have h2:=hpow k
      have h3:=congrArg List.length hxs
      rw [lbr] at h3
      omega
     have hout:(outs++xs.filter fun x=>!(outs.any fun a=>C5 a.1 x.1) && pX t kind n x.1).map Prod.fst=outs.map Prod.fst++(E8 (D8 t kind n) k).filter fun s=>!((outs.map Prod.fst).any fun a=>C5 a s) && pX t kind n s:=by
      rw [lbD,←hxs,List.filter_map]
      congr 2
      refine List.filter_congr fun x _=>?_
      show _=(!((outs.map Prod.fst).any fun a=>C5 a x.1) && pX t kind n x.1)
      rw [List.any_map]
      rfl
     have hlen3:∀a ∈ outs++xs.filter (fun x=>!(outs.any fun a=>C5 a.1 x.1) && pX t kind n x.1),a.1.length<=1000:=fun a ha=>by
      rcases lbA.1 ha with ha|ha
      ·exact ho3 a ha
      ·have h1:a.1 ∈ xs.map Prod.fst:=lby.2 ⟨a,(lbz.1 ha).1,rfl⟩
       rw [hxs] at h1
       have:=(H8.1 h1).2
       omega
     have hX1r:X1+1<=Wr.heap.size:=hFIr.bx.lt
     have hDs:D ∉ Ds:=fun hm=>by
      have h1:=t9 (hFI.dm D hm).2
      omega
     generalize hvals:(xs.filter fun x=>!(outs.any fun a=>C5 a.1 x.1) && pX t kind n x.1)=sel at hlen hout hlen3 hfrow
     have hirs:∀x ∈ sel,a19 (X+3) Wr x.1 x.2:=by rw [← hvals];exact hFP.ir
     have hml:(100000:Nat)<=maxLen:=by decide
     have fin:∀(w1:World) (v':Value) (ac:Act),w1.ownsRow (X1+1) tIs 1 v' (outs.length+sel.length) (outs.map Prod.snd++sel.map Prod.snd)->Wr.grownBy w1 (Value.slice Ao outs.length capo).ownBlock->
      Boxed w1 X1 a2n (.slice Ao outs.length capo)∧FI X1 W4 (outs++sel) v' (D::Ds) (w1.setCell ⟨X1,0,none⟩ v'):=fun w1 v' ac hown' hgrow=>by
      obtain ⟨hv1,hv2,hr2,hk2,hbx2,hkp2⟩:=b2a hFIr.bx hFIr.row hX1r hown' hgrow
      refine ⟨hv1,hFIr.bel.trans (hbx2.low (by omega) (lbR _)),hv2,by rw [lbq,lbD];exact hr2,fun x hx=>?_,List.nodup_cons.2 ⟨hDs,hFIr.nd⟩,fun D2 h2=>?_⟩
      ·rcases lbA.1 hx with hx|hx
       ·exact hkp2.irow (by omega) (hFIr.ir x hx)
       ·exact hkp2.irow (by omega) ((hirs x hx).mono (by omega))
      ·rcases lbB.1 h2 with rfl|h2
       ·exact ⟨by omega,hk2.same _ _ hdef rfl⟩
       ·exact ⟨(hFIr.dm D2 h2).1,hk2.same _ _ (hFIr.dm D2 h2).2 rfl⟩
     rcases hfrow.2 with ⟨rfl,hsel0⟩|⟨g,capf,cur,rfl,hg1,hg2,hg3,hg4,hg5,hg6⟩
     ·have hsel:sel=[]:=lbG hsel0
      subst hsel
      gi_wp2_with (gi_at_builtin;refine a5q rfl _ _ a2n rfl rfl rfl (b5s Tryz.underlying36 hi hFIr.row _) ?_)
      have hk1:(k:Int)+1=((k+1:Nat):Int):=by omega
      simp only [hk1]
      refine ⟨⟨k+1,outs++[],.slice Ao outs.length capo,D::Ds,_,_,_,_,_,_,_,_,_,_,_,_,_,_,_,_,_,_,_,_,_,_,_,_,_,_,_,_,_,_,_,_,_,_,_,_,_,_,_,_,rfl,by omega,?_,?_,hlen3,?_⟩,?_⟩
      ·rw [hout,hnext]
      ·rw [lbq,lbV];simp only [List.length_nil];omega
      ·exact (fin Wr _ ⟨#[],[]⟩ (by simpa using hFIr.row) (World.grownBy.refl Wr _)).2
      ·simp [intOf];omega
     ·have hgc:∀(j:Nat) (u:Value),(sel.map Prod.snd)[j]? =some u->Wr.cell? ((⟨g,0,none⟩:Addr).add j)=some u:=fun j u hj=>by
       have hlt:=(lbe.1 hj).1
       rw [← hg6,lbi,if_pos (by simp at hlt;omega)] at hj
       have e2:cur[j]? =some u:=by simpa using hj
       have hadd:(⟨g,0,none⟩:Addr).add j=⟨g,0+j,none⟩:=by unfold Addr.add;split<;>simp_all
       rw [hadd]
       simp [World.cell?,hg2,e2]
      have hone:∀u ∈ sel.map Prod.snd,u.oneCell'=true:=fun u hu=>by
       obtain ⟨x,hx,rfl⟩:=lby.1 hu
       exact (hirs x hx).one
      gi_wp2_with (gi_at_builtin;refine wpListIn_append_own _ rfl _ _ a2n rfl (X1+1) tIs i0 (.slice none 0 0) 1 24 Tryz.underlying36 hi hz0 hz1 hz2 rfl (by decide) _ _ _ rfl hFIr.row ⟨g,0,none⟩ sel.length capf (sel.map Prod.snd) rfl (by simp) hgc hone (by omega) (by omega) hX1r ?_;intro v' w1 hown' hgrow _;obtain ⟨A',c',rfl⟩:=b5b hown';obtain ⟨hv1,hFIn⟩:=fin w1 _ ⟨#[],[]⟩ hown' hgrow;have hc1:=hv1.cell;have hf1:=hv1.frozen)
      have hk1:(k:Int)+1=((k+1:Nat):Int):=by omega
      simp only [hk1]
      refine ⟨⟨k+1,outs++sel,.slice A' (outs.length+sel.length) c',D::Ds,_,_,_,_,_,_,_,_,_,_,_,_,_,_,_,_,_,_,_,_,_,_,_,_,_,_,_,_,_,_,_,_,_,_,_,_,_,_,_,_,rfl,by omega,?_,?_,hlen3,?_⟩,?_⟩
      ·rw [hout,hnext]
      ·rw [lbq,lbV];omega
      ·exact hFIn
      ·simp [intOf];omega
  ·have hfin:outs.map Prod.fst=J0 t kind n short:=by
    rw [ho]
    unfold J0 aw3
    by_cases hkL:k<=(D8 t kind n).length
    ·have hsh:short=true∧outs≠[]:=by
      apply a0k
      intro hh
      exact hstop ⟨hkL,fun h1=>a0k fun h2=>hh ⟨h1,h2⟩⟩
     obtain ⟨rfl,hne⟩:=hsh
     rw [show (D8 t kind n).length+1=k+((D8 t kind n).length+1 - k) by omega]
     exact (al8 _ k (by rw [← ho];simpa using hne)).symm
    ·rw [show k=(D8 t kind n).length+1 by omega]
   have hgo:∀tm:Array Value,tm.getD 6 undef=.slice Ao outs.length capo->tm.getD 7 undef=.int .i64 0->LeavesInM Fence.wide 9 Tryz.prog Tryz.f61 tm (fun e w'=>∃v,e=.returned (.tuple #[v,.int .i64 0])∧RT w' M (aR6 (J0 t kind n short)) v∧Below b3 w w') (Ds.map b59) .returning W:=fun tm h6 h7=>by
    have hrt:RT W M (aR6 (outs.map Prod.fst)) (.slice Ao outs.length capo):=b5x hFI.row (fun b hb=>by have:=hMB b hb;omega) fun x hx=>(hFI.ir x hx).rt fun b hb=>by have:=hMB b hb;omega
    refine a6O Ds W hFI.nd (fun D hD=>(hFI.dm D hD).2) fun W' z1 z2 z3 z4 z5=>?_
    refine ⟨_,results_tmp2 rfl _ _ _,_,by rw [h6,h7],?_,?_⟩
    ·rw [← hfin]
     refine hrt.keepC (fun b vs ty fl hb _=>?_) (fun b hb=>.inl hb)
     refine (z5 b fun hD=>?_).trans hb
     rw [(hFI.dm b hD).2] at hb
     cases hb
    ·have hBw:Below b3 w W:=by rw [← hb3];exact hB4w.trans (hFI.bel.mono (by have:=hB4w.size;omega))
     exact hBw.trans ⟨z1,z2,z3,z4,fun b hb=>z5 b fun hD=>by have:=(hFI.dm b hD).1;omega⟩
   by_cases hkL:k<=(D8 t kind n).length
   ·have hsh:short=true∧¬(outs.length:Int)=0:=by
     refine ⟨a0k fun h1=>hstop ⟨hkL,fun h2=>absurd h2 h1⟩,fun h0=>hstop ⟨hkL,fun _=>lbG (by omega)⟩⟩
    obtain ⟨rfl,hne⟩:=hsh
    have hkI:(k:Int)<=((D8 t kind n).length:Int):=by omega
    gi_wp2
    all_goals try omega
    exact hgo _ rfl rfl
   ·have hkI:¬(k:Int)<=((D8 t kind n).length:Int):=by omega
    gi_wp2
    all_goals try omega
    all_goals first
     |exact hgo _ rfl rfl
     |(have hu:∃b,some undef=some (Value.bool b):=⟨_,by assumption⟩
       obtain ⟨b,hu⟩:=hu
       simp [undef] at hu)
theorem b84 {ι:Io} (h:Y9 ι 0):ι=fun _=>none:=funext fun id=>h id (Nat.zero_le _)
theorem b8u (t:g7) (kind:Int) (n:Nat) (hE:ExP t kind n) (hx:XT t kind n) (short:Bool):e7 Tryz.prog 61 [trS t,b7 .i64 kind,i8 short] [] (.tup [a0X (J0 t kind n short),b7 .i64 0]) []:=by
 refine ⟨⟨_,Tryz.func61,rfl,by decide⟩,fun w ι M vals hl hv hH hM hF=>?_⟩
 match vals,hl,hv with
 |[v0,v1,v2],_,hv=>
  have h0:=hv 0 _ rfl
  have h1:=aS1 (hv 1 _ rfl)
  have h2:=az5 (hv 2 _ rfl)
  simp only [lb6,lb7] at h0 h1 h2
  subst h1 h2
  have hi:=b84 hF
  subst hi
  refine Calls.mono (b36 hM hE hx short h0) ?_
  rintro e w' ⟨v,rfl,h3,h4⟩
  refine ⟨_,rfl,aH7 (.tup [v,.int .i64 0] rfl fun j s hj=>?_) h4 hM hF⟩
  match j,hj with
  |0,hj=>injection hj with hj;subst hj;exact .c (.t h3)
  |1,hj=>injection hj with hj;subst hj;exact .c (.t (.atm rfl))
  |j+2,hj=>simp at hj
end
theorem ag4 (t:g7) (kind:Int) (hs:t.Sized) (h:a16 t kind≠0):e7 Tryz.prog 127 [trS t,b7 .i64 kind] [] (.tup [i6 [],b7 .i64 1]) []:=by
 have ve:=a9R t kind hs h
 (refine ac Tryz.func127 ?_;(conv=>whnf);repeat ((first|refine b0x ?_|refine zy ?_);conv=>whnf))
 repeat' (first|refine zx ?_|refine qp ve ?_|refine zd ?_ ?_<;>intro h<;>try omega|fail)<;>conv=>whnf
 all_goals first
  |omega
  |exact v8 ⟨rfl,rfl,trivial⟩
theorem a8d (t:g7) (kind:Int) (hs:t.Sized) (ht:s6 t=0) (k0:0<=kind) (k1:kind<8) (hm:t.ev.moves.length<=8) (r:Nat) (hz:J9 (m7 t kind) []=.row r):e7 Tryz.prog 127 [trS t,b7 .i64 kind] [] (.tup [i6 [],b7 .i64 15]) []:=by
 have ve:=a7D t kind hs ht k0 k1 hm r hz
 (refine ac Tryz.func127 ?_;(conv=>whnf);repeat ((first|refine b0x ?_|refine zy ?_);conv=>whnf))
 repeat' (first|refine zx ?_|refine qp ve ?_|refine zd ?_ ?_<;>intro h<;>try omega|fail)<;>conv=>whnf
 all_goals first
  |omega
  |exact v8 ⟨rfl,rfl,trivial⟩
theorem a9K (t:g7) (kind e:Int) (he:e≠0) (hsu:e7 Tryz.prog 127 [trS t,b7 .i64 kind] [] (.tup [i6 [],b7 .i64 e]) []) (short:Bool):e7 Tryz.prog 61 [trS t,b7 .i64 kind,i8 short] [] (.tup [a0X [],b7 .i64 e]) []:=by
 (refine ac Tryz.func61 ?_;(conv=>whnf);repeat ((first|refine b0x ?_|refine zy ?_);conv=>whnf))
 repeat' (first|refine zx ?_|refine qp hsu ?_|refine zd ?_ ?_<;>intro h<;>try omega|fail)<;>conv=>whnf
 all_goals first
  |omega
  |exact v8 ⟨rfl,rfl,trivial⟩
inductive XK (t:g7) (kind:Int):Prop
 |arg (h:a16 t kind≠0)
 |unsat (h:a16 t kind=0) (r:Nat) (hr:J9 (m7 t kind) []=.row r)
 |ok (n:Nat) (hE:ExP t kind n) (hx:XT t kind n)
theorem aN7 {t:g7} {kind:Int} (hs:t.Sized) (hm:t.ev.moves.length<=8) (hh:t.ev.hhs<=6) (hf:t.finds.length<=20):XK t kind:=by
 by_cases h:a16 t kind=0
 ·obtain ⟨k1,k2,k3⟩:=L6.1 h
  have hhs:=(a0u (B4 k1).1).2.2.1
  have p:=O4 (kind:=kind) k1 hm (g:=[]) rfl (fun t ht=>by cases ht)
  rcases av6 p.o.r with ho|⟨r,hr⟩
  ·exact .ok t.ev.hhs.toNat ⟨hs,k1,k2,k3,hm,by omega,ho⟩ ⟨hs,k1,k2,k3,hm,by omega,by omega,hf⟩
  ·exact .unsat h r hr
 ·exact .arg h
noncomputable def a3m (t:g7) (kind:Int):Int:=open Classical in if a16 t kind≠0 then 1 else if ∃z,i7 (m7 t kind) z=true then 0 else 15
noncomputable def a1O (t:g7) (kind:Int) (short:Bool):List (List Int):=open Classical in if a3m t kind=0 then J0 t kind t.ev.hhs.toNat short else []
theorem a2X {t:g7} {kind:Int} (h:a16 t kind≠0):a3m t kind=1:=by unfold a3m;rw [if_pos h]
theorem a0p {t:g7} {kind:Int} (h:a16 t kind=0) {r:Nat} (hr:J9 (m7 t kind) []=.row r):a3m t kind=15:=by
 unfold a3m
 rw [if_neg (by omega),if_neg]
 rintro ⟨z,hz⟩
 rw [a3j hr z] at hz;cases hz
theorem a3e {t:g7} {kind:Int} {n:Nat} (h:ExP t kind n):a3m t kind=0:=by
 unfold a3m
 rw [if_neg (by rw [L6.2 ⟨h.e,h.k0,h.k1⟩];omega),if_pos ⟨_,(h.vd 0).has⟩]
theorem a0T {t:g7} {kind:Int} {n:Nat} (h:ExP t kind n) (short:Bool):a1O t kind short=J0 t kind n short:=by
 unfold a1O
 rw [if_pos (a3e h)]
 congr 1
 have:=h.h
 omega
theorem a1q {t:g7} {kind:Int} (h:a3m t kind≠0) (short:Bool):a1O t kind short=[]:=by unfold a1O;rw [if_neg h]
theorem ai6 (t:g7) (kind:Int) (hs:t.Sized) (hm:t.ev.moves.length<=8) (hh:t.ev.hhs<=6) (hf:t.finds.length<=20) (short:Bool):e7 Tryz.prog 61 [trS t,b7 .i64 kind,i8 short] [] (.tup [a0X (a1O t kind short),b7 .i64 (a3m t kind)]) []:=by
 rcases aN7 (kind:=kind) hs hm hh hf with h|⟨h,r,hr⟩|⟨n,hE,hx⟩
 ·rw [a1q (by rw [a2X h];decide),a2X h]
  exact a9K t kind 1 (by decide) (ag4 t kind hs h) short
 ·rw [a1q (by rw [a0p h hr];decide),a0p h hr]
  obtain ⟨k1,k2,k3⟩:=L6.1 h
  exact a9K t kind 15 (by decide) (a8d t kind hs k1 k2 k3 hm r hr) short
 ·rw [a0T hE,a3e hE]
  exact b8u t kind n hE hx short
theorem a6E (t:g7) (kind:Int) (hs:t.Sized) (hm:t.ev.moves.length<=8) (hh:t.ev.hhs<=6) (hf:t.finds.length<=20):e7 Tryz.prog 15 [trS t,b7 .i64 kind] [] (.tup [a0X (a1O t kind true),b7 .i64 (a3m t kind)]) []:=by
 have fi:=ai6 t kind hs hm hh hf true
 generalize a1O t kind true=L at fi
 generalize a3m t kind=E at fi
 (refine ac Tryz.func15 ?_;(conv=>whnf);repeat ((first|refine b0x ?_|refine zy ?_);conv=>whnf))
 repeat' (first|refine zx ?_|refine qp fi ?_|refine qp 4 ?_|refine qp 5 ?_|refine bl0 [4] ?_|refine bl0 [5] ?_|refine zd ?_ ?_<;>intro h<;>try omega|fail)<;>conv=>whnf
 all_goals first
  |exact v8 ⟨rfl,rfl,trivial⟩
theorem a33 (t:g7) (kind:Int) (hs:t.Sized) (hm:t.ev.moves.length<=8) (hh:t.ev.hhs<=6) (hf:t.finds.length<=20):e7 Tryz.prog 17 [trS t,b7 .i64 kind] [] (.tup [a0X (a1O t kind false),b7 .i64 (a3m t kind)]) []:=by
 have fi:=ai6 t kind hs hm hh hf false
 generalize a1O t kind false=L at fi
 generalize a3m t kind=E at fi
 (refine ac Tryz.func17 ?_;(conv=>whnf);repeat ((first|refine b0x ?_|refine zy ?_);conv=>whnf))
 repeat' (first|refine zx ?_|refine qp fi ?_|refine qp 4 ?_|refine qp 5 ?_|refine bl0 [4] ?_|refine bl0 [5] ?_|refine zd ?_ ?_<;>intro h<;>try omega|fail)<;>conv=>whnf
 all_goals first
  |exact v8 ⟨rfl,rfl,trivial⟩
noncomputable def V8 (t:g7) (kind:Int) (set:List Int):Bool:=decide (a16 t kind=0) && a0n t.ev.hhs set && pX t kind t.ev.hhs.toNat set
theorem M9 (t:g7) (kind:Int) (hs:t.Sized) (hm:t.ev.moves.length<=8) (hh:t.ev.hhs<=6) (hf:t.finds.length<=20) (set:List Int) (hl:set.length<=1000000):e7 Tryz.prog 20 [trS t,b7 .i64 kind,i6 set] [] (i8 (V8 t kind set)) []:=by
 unfold V8
 by_cases h:a16 t kind=0
 ·obtain ⟨k1,k2,k3⟩:=L6.1 h
  have hhs:=(a0u (B4 k1).1).2.2.1
  have e:((t.ev.hhs.toNat:Nat):Int)=t.ev.hhs:=by omega
  have:=aX1 t kind t.ev.hhs.toNat ⟨hs,k1,k2,k3,hm,e.symm,by omega,hf⟩ set hl
  rw [e] at this
  rw [lbI h,Bool.true_and]
  exact this
 ·rw [lbK h,Bool.false_and,Bool.false_and]
  exact ak5 t kind hs h set
theorem ac3 {p q:List Int->Bool} {l:List Int} {short:Bool} (h:∀s,s.Sublist l->p s=q s):∀n,I8 p l short n=I8 q l short n
 |0=>rfl
 |n+1=>by
  rw [I8,I8,ac3 h n]
  have:(E8 l n).filter (fun s=>!((I8 q l short n).any fun a=>C5 a s) && p s)=(E8 l n).filter (fun s=>!((I8 q l short n).any fun a=>C5 a s) && q s):=by
   refine List.filter_congr fun s hs=>?_
   rw [h s (H8.1 hs).1]
  rw [this]
def exq (gs:List (List Int)) (s:List Int):Bool:=gs.any fun g=>C5 g s
def b9B (l:List Int) (gs bs:List (List Int)):Bool:=(List.range (l.length+1)).all fun k=>(E8 l k).all fun s=>exq gs s || bs.any fun b=>C5 s b
theorem aT3 {t:g7} {kind:Int} {n:Nat} {l:List Int} {gs bs:List (List Int)} {short:Bool} {out:List (List Int)} (hl:D8 t kind n=l)
 (hg:∀g ∈ gs,pX t kind n g=true) (hb:∀b ∈ bs,pX t kind n b=false) (hc:b9B l gs bs=true) (ho:aw3 (exq gs) l short=out):J0 t kind n short=out:=by
 rw [← ho]
 unfold J0 aw3
 rw [hl]
 refine ac3 (fun s hs=>?_) _
 have h1:=lbw.1 hc s.length (lbC.2 (by have:=hs.length_le;omega))
 have h2:=lbw.1 h1 s (H8.2 ⟨hs,rfl⟩)
 cases hq:exq gs s with
 |true=>
  obtain ⟨g,hgm,hp⟩:=lbx.1 hq
  exact a7g (a1m.1 hp) (hg g hgm)
 |false=>
  rw [hq,Bool.false_or] at h2
  obtain ⟨b,hbm,hp⟩:=lbx.1 h2
  rw [← lbQ]
  intro hps
  have:=a7g (a1m.1 hp) hps
  rw [hb b hbm] at this;cases this
theorem aC5 {t:g7} {kind:Int} {n:Nat} (h:XT t kind n) {set:List Int} (z:List Rat) (hz:i7 (a2P t kind n set) z=true):pX t kind n set=true:=(h.expl set).2 ⟨z,hz⟩
theorem b7F {t:g7} {kind:Int} {n:Nat} (h:XT t kind n) {set:List Int} (Y:List Rat) (hY:b8I (a2P t kind n set) Y=true):pX t kind n set=false:=by
 rw [← lbQ]
 intro hp
 obtain ⟨z,hz⟩:=(h.expl set).1 hp
 rw [b4p (h.right set) hY z] at hz;cases hz
theorem az4 {t:g7} {kind:Int} {n:Nat} (h:ExP t kind n) (out:List Bool) (zs Ys:Nat->List Rat)
 (hc:∀i,i<n->if out.getD i false=true then i7 (m7 t kind) (zs i)=true∧0<m6 (E9 t (i:Int)) (zs i) else b4d (m7 t kind) (G1 (E9 t (i:Int))) (Ys i)=true∧b35 (m7 t kind) (yN (Ys i))=0):
 D8 t kind n=((List.range n).filter fun i=>out.getD i false).map fun i=>((i:Nat):Int):=by
 unfold D8
 congr 1
 refine List.filter_congr fun i hi=>?_
 have hi:=lbC.1 hi
 have hh:=hc i hi
 have hv:=h.vd (i:Int)
 cases ho:out.getD i false with
 |true=>
  rw [if_pos ho] at hh
  refine lbI fun h0=>?_
  rw [af7 h h0 hh.1] at hh
  exact absurd hh.2 (by decide +kernel)
 |false=>
  rw [if_neg (by rw [ho];decide)] at hh
  refine lbK fun h0=>h0 ?_
  refine b51 h i fun z hz=>?_
  have h1:=b2D hv.r hv.g hh.1 hh.2 hz
  have h2:=hv.pos hz
  grind
def exX (a b c:Int) (f:List L1) (cl:List F2):g7:=⟨⟨1,3,0,[⟨0,0,0⟩,⟨0,1,0⟩,⟨0,2,0⟩,⟨1,-1,-1⟩,⟨5,-1,-1⟩],[⟨a,0,3,-1,0,false⟩,⟨a,1,3,-1,0,false⟩,⟨b,3,4,-1,0,true⟩,⟨c,2,3,-1,0,false⟩],[],[],[]⟩,f,cl⟩
def P8 (f:List L1) (cl:List F2):g7:=exX 1 2 3 f cl
theorem a54 (a b c:Int) (f:List L1) (cl:List F2) (h1:f.length<=20) (h2:cl.length<=20):(exX a b c f cl).Sized:=⟨⟨by simp [exX],by simp [exX],by simp [exX],by simp [exX],by simp [exX]⟩,by simp [exX];omega,by simp [exX];omega⟩
theorem b48 {a b c:Int} {f:List L1} {cl:List F2} {kind:Int} (h1:f.length<=20) (h2:cl.length<=20) (he:s6 (exX a b c f cl)=0) (k0:0<=kind) (k1:kind<8):XT (exX a b c f cl) kind 3:=
 ⟨a54 a b c f cl h1 h2,he,k0,k1,by simp [exX],by simp [exX],by decide,h1⟩
theorem b5u {a b c:Int} {f:List L1} {cl:List F2} {kind:Int} (h1:f.length<=20) (h2:cl.length<=20) (he:s6 (exX a b c f cl)=0) (k0:0<=kind) (k1:kind<8) {z:List Rat} (hz:i7 (m7 (exX a b c f cl) kind) z=true):ExP (exX a b c f cl) kind 3:=
 ⟨a54 a b c f cl h1 h2,he,k0,k1,by simp [exX],by simp [exX],b0Q he (by simp [exX]) hz⟩
def fX:L1:=⟨2,0,5⟩
def zXR (l:List Int):List Rat:=l.map fun x=>((x:Int):Rat)
theorem aY6:s6 (P8 [fX] [])=0:=by decide +kernel
theorem aR1:XT (P8 [fX] []) 0 3:=b48 (by decide) (by decide) aY6 (by decide) (by decide)
theorem aU5:ExP (P8 [fX] []) 0 3:=b5u (by decide) (by decide) aY6 (by decide) (by decide) (z:=zXR [5,0,5,0]) (by decide +kernel)
theorem b8w:D8 (P8 [fX] []) 0 3=[0,1,2]:=by
 rw [az4 aU5 [true,true,true] (fun i=>if i=0 then zXR [5,0,5,0] else if i=1 then zXR [0,5,5,0] else if i=2 then zXR [5,0,5,1] else []) (fun i=>[]) (by decide +kernel)]
 rfl
theorem b1t:pX (P8 [fX] []) 0 3 [0]=true:=aC5 aR1 (zXR [5,0,5,0]) (by decide +kernel)
theorem b75:pX (P8 [fX] []) 0 3 [1]=true:=aC5 aR1 (zXR [0,5,5,0]) (by decide +kernel)
theorem aw8:pX (P8 [fX] []) 0 3 [2]=false:=b7F aR1 (zXR [1,1,-1,-1]) (by decide +kernel)
theorem b7Z (short:Bool):J0 (P8 [fX] []) 0 3 short=[[0],[1]]:=by
 refine aT3 b8w (gs:=[[0],[1]]) (bs:=[[2]]) (fun g hg=>?_) (fun b hb=>?_) (by decide +kernel) (by cases short<;>decide +kernel)
 ·have hg:g=[0]∨g=[1]:=by simpa using hg
  rcases hg with rfl|rfl
  ·exact b1t
  ·exact b75
 ·have hb:b=[2]:=by simpa using hb
  rcases hb with rfl
  ·exact aw8
theorem b5C:s6 (P8 [fX] [⟨0,0⟩])=0:=by decide +kernel
theorem b5l:XT (P8 [fX] [⟨0,0⟩]) 0 3:=b48 (by decide) (by decide) b5C (by decide) (by decide)
theorem aV4:ExP (P8 [fX] [⟨0,0⟩]) 0 3:=b5u (by decide) (by decide) b5C (by decide) (by decide) (z:=zXR [0,5,5,0]) (by decide +kernel)
theorem b8y:D8 (P8 [fX] [⟨0,0⟩]) 0 3=[1,2]:=by
 rw [az4 aV4 [false,true,true] (fun i=>if i=1 then zXR [0,5,5,0] else if i=2 then zXR [0,5,5,1] else []) (fun i=>if i=0 then zXR [-1,0,0] else []) (by decide +kernel)]
 rfl
theorem b5V:pX (P8 [fX] [⟨0,0⟩]) 0 3 [1]=true:=aC5 b5l (zXR [0,5,5,0]) (by decide +kernel)
theorem b6C:pX (P8 [fX] [⟨0,0⟩]) 0 3 [2]=false:=b7F b5l (zXR [-1,1,1,0,-1]) (by decide +kernel)
theorem b8U (short:Bool):J0 (P8 [fX] [⟨0,0⟩]) 0 3 short=[[1]]:=by
 refine aT3 b8y (gs:=[[1]]) (bs:=[[2]]) (fun g hg=>?_) (fun b hb=>?_) (by decide +kernel) (by cases short<;>decide +kernel)
 ·have hg:g=[1]:=by simpa using hg
  rcases hg with rfl
  ·exact b5V
 ·have hb:b=[2]:=by simpa using hb
  rcases hb with rfl
  ·exact b6C
theorem b4e:s6 (P8 [fX] [])=0:=by decide +kernel
theorem b8N:XT (P8 [fX] []) 1 3:=b48 (by decide) (by decide) b4e (by decide) (by decide)
theorem aU6:ExP (P8 [fX] []) 1 3:=b5u (by decide) (by decide) b4e (by decide) (by decide) (z:=zXR [1,0,1,0]) (by decide +kernel)
theorem b9l:D8 (P8 [fX] []) 1 3=[0,1,2]:=by
 rw [az4 aU6 [true,true,true] (fun i=>if i=0 then zXR [1,0,1,0] else if i=1 then zXR [0,1,1,0] else if i=2 then zXR [0,0,0,1] else []) (fun i=>[]) (by decide +kernel)]
 rfl
theorem b7f:pX (P8 [fX] []) 1 3 []=true:=aC5 b8N (zXR [0,0,0,0]) (by decide +kernel)
theorem b8l (short:Bool):J0 (P8 [fX] []) 1 3 short=[[]]:=by
 refine aT3 b9l (gs:=[[]]) (bs:=[]) (fun g hg=>?_) (fun b hb=>?_) (by decide +kernel) (by cases short<;>decide +kernel)
 ·have hg:g=[]:=by simpa using hg
  rcases hg with rfl
  ·exact b7f
 ·simp at hb
theorem b08 (l:List Int) (n:Int) (hl:l.length<=1000000):e7 Tryz.prog 22 [i6 l,b7 .i64 n] [] (i8 (C7 l n)) []:=by
 have m1:(l.map i5).length=l.length:=by simp
 unfold C7
 (refine ac Tryz.func22 ?_;(conv=>whnf);repeat (refine zy ?_;conv=>whnf))
 repeat' (first|refine zx ?_|refine zd ?_ ?_<;>intro h<;>try omega|fail)<;>conv=>whnf
 refine j5 e8 (fun k=>([i6 l,b7 .i64 n,J,J,J,b7 .i64 k]++Jn 12,[])) l.length (fun k=>(l.take k).any (fun x=>decide (x=n))=false) [] (by simp)
  ⟨rfl,rfl,trivial,⟨rfl,rfl,rfl,trivial⟩⟩ ?_
 intro k hk hI
 by_cases hlt:k<l.length
 ·obtain ⟨x,hx⟩:∃x,l[k]? =some x:=⟨_,lbf hlt⟩
  by_cases hxn:x=n
  ·have e:l.any (fun x=>decide (x=n))=true:=lbx.2 ⟨x,lbm hx,lbI hxn⟩
   rw [e]
   conv=>whnf
   repeat' (first|refine zx ?_|refine g6 hx ?_|refine zd ?_ ?_<;>intro h<;>try omega|fail)<;>conv=>whnf
   all_goals first
    |omega
    |exact i3 rfl
  ·conv=>whnf
   repeat' (first|refine zx ?_|refine g6 hx ?_|refine zd ?_ ?_<;>intro h<;>try omega|fail)<;>conv=>whnf
   all_goals first
    |omega
    |exact ⟨hlt,by rw [H7 hx,List.any_append,hI];simp [hxn],[],rfl,rfl,trivial,⟨rfl,rfl,rfl,trivial⟩⟩
 ·have hke:k=l.length:=by omega
  subst hke
  rw [lbn (lbR _)] at hI
  rw [hI]
  conv=>whnf
  repeat' (first|refine zx ?_|refine zd ?_ ?_<;>intro h<;>try omega|fail)<;>conv=>whnf
  all_goals first
   |omega
   |exact i3 rfl
theorem b11 (a b:List Int) (ha:a.length<=1000000) (hb:b.length<=1000000):e7 Tryz.prog 52 [i6 a,i6 b] [] (i8 (C5 a b)) []:=by
 have m1:(a.map i5).length=a.length:=by simp
 (refine ac Tryz.func52 ?_;(conv=>whnf);repeat (refine zy ?_;conv=>whnf))
 repeat' (first|refine zx ?_|refine zd ?_ ?_<;>intro h<;>try omega|fail)<;>conv=>whnf
 refine j5 e8 (fun k=>([i6 a,i6 b,J,J,J,b7 .i64 k]++Jn 13,[])) a.length (fun k=>(a.take k).all (fun x=>C7 b x)=true) [] (by simp)
  ⟨rfl,rfl,trivial,⟨rfl,rfl,rfl,trivial⟩⟩ ?_
 intro k hk hI
 by_cases hlt:k<a.length
 ·obtain ⟨x,hx⟩:∃x,a[k]? =some x:=⟨_,lbf hlt⟩
  have hs:=b08 b x hb
  cases hq:C7 b x with
  |false=>
   have e:C5 a b=false:=by
    rw [← lbQ]
    intro h
    unfold C5 at h
    have:=lbw.1 h x (lbm hx)
    unfold C7 at hq
    rw [hq] at this;cases this
   rw [e]
   rw [hq] at hs
   conv=>whnf
   repeat' (first|refine zx ?_|refine qp hs ?_|refine g6 hx ?_|refine zd ?_ ?_<;>intro h<;>try omega|fail)<;>conv=>whnf
   all_goals first
    |omega
    |exact i3 rfl
  |true=>
   rw [hq] at hs
   conv=>whnf
   repeat' (first|refine zx ?_|refine qp hs ?_|refine g6 hx ?_|refine zd ?_ ?_<;>intro h<;>try omega|fail)<;>conv=>whnf
   all_goals first
    |omega
    |exact ⟨hlt,by rw [H7 hx,List.all_append,hI];simp [hq],[],rfl,rfl,trivial,⟨rfl,rfl,rfl,trivial⟩⟩
 ·have hke:k=a.length:=by omega
  subst hke
  rw [lbn (lbR _)] at hI
  have e:C5 a b=true:=hI
  rw [e]
  conv=>whnf
  repeat' (first|refine zx ?_|refine zd ?_ ?_<;>intro h<;>try omega|fail)<;>conv=>whnf
  all_goals first
   |omega
   |exact i3 rfl
theorem b15 (a b:List (List Int)) (ha:a.length<=1000000) (hb:b.length<=1000000) (ha2:∀s ∈ a,s.length<=1000000) (hb2:∀s ∈ b,s.length<=1000000):e7 Tryz.prog 19 [a0X a,a0X b] [] (i8 (decide (a=b))) []:=by
 have l1:(a.map U7).length=a.length:=by simp
 have l2:(b.map U7).length=b.length:=by simp
 (refine ac Tryz.func19 ?_;(conv=>whnf);repeat (refine zy ?_;conv=>whnf))
 repeat' (first|refine zx ?_|refine zd ?_ ?_<;>intro h<;>try omega|fail)<;>conv=>whnf
 ·refine i3 (lbK ?_).symm
  intro hab;subst hab;exact h rfl
 have hab:a.length=b.length:=by omega
 refine j5 e8 (fun k=>([a0X a,a0X b,J,J,J,b7 .i64 k]++Jn 21,[])) a.length (fun k=>a.take k=b.take k) [] rfl
  ⟨rfl,rfl,trivial,⟨k8 rfl,k8 rfl,g9 rfl,trivial⟩⟩ ?_
 intro k hk hI
 by_cases hlt:k<a.length
 ·obtain ⟨x,hx⟩:∃x,a[k]? =some x:=⟨_,lbf hlt⟩
  obtain ⟨y,hy⟩:∃y,b[k]? =some y:=⟨_,lbf (by omega)⟩
  have sm:=ae9 x y (ha2 x (lbm hx)) (hb2 y (lbm hy))
  by_cases hxy:x=y
  ·rw [lbI hxy] at sm
   conv=>whnf
   repeat' (first|refine zx ?_|refine qp sm ?_|refine g6 hx ?_|refine g6 hy ?_|refine zd ?_ ?_<;>intro h<;>try omega|fail)<;>conv=>whnf
   all_goals first
    |omega
    |exact ⟨hlt,by rw [H7 hx,H7 hy,hI,hxy],[],rfl,rfl,trivial,⟨k8 rfl,k8 rfl,rfl,trivial⟩⟩
  ·rw [lbK hxy] at sm
   conv=>whnf
   repeat' (first|refine zx ?_|refine qp sm ?_|refine g6 hx ?_|refine g6 hy ?_|refine zd ?_ ?_<;>intro h<;>try omega|fail)<;>conv=>whnf
   all_goals first
    |omega
    |exact i3 (lbK (by rintro rfl;rw [hx] at hy;injection hy with hy;exact hxy hy)).symm
 ·rw [lbn (by omega),lbn (by omega)] at hI
  conv=>whnf
  repeat' (first|refine zx ?_|refine zd ?_ ?_<;>intro h<;>try omega|fail)<;>conv=>whnf
  all_goals first
   |omega
   |exact i3 (lbI hI).symm
def a3x (t:g7) (m:Int):Bool:=a3J t m && decide (t.ev.hhs<=3)
theorem af5 (t:g7) (m:Int):e7 Tryz.prog 14 [trS t,b7 .i64 m] [] (i8 (a3x t m)) []:=by
 have r:=b53 t m
 unfold a3x
 cases hq:a3J t m<;>rw [hq] at r<;>
 ·(refine ac Tryz.func14 ?_;(conv=>whnf);repeat ((first|refine b0x ?_|refine zy ?_);conv=>whnf))
  repeat' (first|refine zx ?_|refine qp r ?_|refine zd ?_ ?_<;>intro h<;>try omega|fail)<;>conv=>whnf
  all_goals
   refine i3 ?_
   first
    |rfl
    |(symm;simp only [Bool.true_and,lbJ];omega)
    |(symm;rw [← lbQ];simp only [Bool.true_and,lbJ];omega)
theorem a2l {t:g7} {m:Int} (hm:m<=8) (h:a3x t m=true):t.Sized∧t.ev.moves.length<=8∧t.ev.hhs<=3∧t.finds.length<=6∧t.cleans.length<=6:=by
 unfold a3x at h
 rw [lbN] at h
 obtain ⟨h,h3⟩:=h
 have h3:=lbM h3
 obtain ⟨s1,s2,s3⟩:=al1 (by omega) h
 unfold a3J at h
 simp only [lbN,lbJ] at h
 exact ⟨s1,by omega,h3,h.1.2,h.2⟩
theorem b44 (a b:List Int) (ha:a.length<=1000000) (hb:b.length<=1000000):e7 Tryz.prog 23 [i6 a,i6 b] [] (i8 (a1e a b)) []:=by
 have l1:(a.map i5).length=a.length:=by simp
 have l2:(b.map i5).length=b.length:=by simp
 unfold a1e
 by_cases hne:a.length≠b.length
 ·rw [if_pos hne]
  (refine ac Tryz.func23 ?_;(conv=>whnf);repeat (refine zy ?_;conv=>whnf))
  repeat' (first|refine zx ?_|refine zd ?_ ?_<;>intro h<;>try omega|fail)<;>conv=>whnf
  all_goals first
   |omega
   |(refine i3 ?_;first|exact (lbI (by omega)).symm|exact (lbK (by omega)).symm)
 rw [if_neg hne]
 have hab:a.length=b.length:=by omega
 (refine ac Tryz.func23 ?_;(conv=>whnf);repeat (refine zy ?_;conv=>whnf))
 repeat' (first|refine zx ?_|refine zd ?_ ?_<;>intro h<;>try omega|fail)<;>conv=>whnf
 all_goals try omega
 refine j5 e8 (fun k=>([i6 a,i6 b,J,J,J,b7 .i64 k]++Jn 34,[])) a.length (fun k=>aj3 (a.drop k) (b.drop k)=aj3 a b) [] rfl
  ⟨rfl,rfl,trivial,⟨k8 rfl,k8 rfl,g9 rfl,trivial⟩⟩ ?_
 intro k hk hI
 by_cases hlt:k<a.length
 ·obtain ⟨x,hx⟩:∃x,a[k]? =some x:=⟨_,lbf hlt⟩
  obtain ⟨y,hy⟩:∃y,b[k]? =some y:=⟨_,lbf (by omega)⟩
  have da:a.drop k=x::a.drop (k+1):=by
   rw [List.drop_eq_getElem_cons hlt];rw [lbf hlt] at hx;injection hx with hx;rw [hx]
  have db:b.drop k=y::b.drop (k+1):=by
   rw [List.drop_eq_getElem_cons (by omega)];rw [lbf (by omega)] at hy;injection hy with hy;rw [hy]
  rw [da,db,aj3] at hI
  rw [← hI]
  by_cases hxy:x=y
  ·conv=>whnf
   repeat' (first|refine zx ?_|refine g6 hx ?_|refine g6 hy ?_|refine zd ?_ ?_<;>intro h<;>try omega|fail)<;>conv=>whnf
   all_goals first
    |omega
    |exact ⟨hlt,by simp [hxy],[],rfl,rfl,trivial,⟨k8 rfl,k8 rfl,rfl,trivial⟩⟩
  ·conv=>whnf
   repeat' (first|refine zx ?_|refine g6 hx ?_|refine g6 hy ?_|refine zd ?_ ?_<;>intro h<;>try omega|fail)<;>conv=>whnf
   all_goals first
    |omega
    |(refine i3 ?_;simp [hxy];omega)
 ·rw [lbo (by omega),lbo (by omega)] at hI
  rw [← hI]
  conv=>whnf
  repeat' (first|refine zx ?_|refine zd ?_ ?_<;>intro h<;>try omega|fail)<;>conv=>whnf
  all_goals first
   |omega
   |exact i3 rfl
theorem b7T:e7 Tryz.prog 60 [] [] (trS (P8 [fX] [])) []:=by
 (refine ac Tryz.func60 ?_;(conv=>whnf);repeat (refine zy ?_;conv=>whnf))
 repeat' (first|refine zz ?_|refine a6l.weak ?_|refine zd ?_ ?_<;>intro h<;>try omega|refine zy ?_|fail)<;>conv=>whnf
 exact v8 ⟨rfl,rfl,rfl,rfl,rfl,rfl,rfl,rfl,rfl,rfl,trivial⟩
theorem b04 (s:List Int) (h:a0n 3 s=true):V8 (P8 [fX] []) 0 s=pX (P8 [fX] []) 0 3 s:=by
 unfold V8
 rw [lbI (L6.2 ⟨aY6,by decide,by decide⟩)]
 show (true && a0n 3 s && pX (P8 [fX] []) 0 3 s)=_
 rw [h];rfl
theorem a85:e7 Tryz.prog 13 [] [] (i8 true) []:=by
 have e1:=b7T
 have zA:(P8 [fX] []).Sized:=a54 _ _ _ _ _ (by decide) (by decide)
 have zB:(P8 [fX] [⟨0,0⟩]).Sized:=a54 _ _ _ _ _ (by decide) (by decide)
 have f1:=a6E (P8 [fX] []) 0 zA (by decide) (by decide) (by decide)
 have m1:=a33 (P8 [fX] []) 0 zA (by decide) (by decide) (by decide)
 have m2:=a33 (P8 [fX] [⟨0,0⟩]) 0 zB (by decide) (by decide) (by decide)
 have m3:=a33 (P8 [fX] []) 1 zA (by decide) (by decide) (by decide)
 rw [a0T aU5,a3e aU5,b7Z] at f1 m1
 rw [a0T aV4,a3e aV4,b8U] at m2
 rw [a0T aU6,a3e aU6,b8l] at m3
 have x1:=M9 (P8 [fX] []) 0 zA (by decide) (by decide) (by decide) [0,2] (by decide)
 have x2:=M9 (P8 [fX] []) 0 zA (by decide) (by decide) (by decide) [2] (by decide)
 have x3:=M9 (P8 [fX] []) 0 zA (by decide) (by decide) (by decide) [] (by decide)
 rw [b04 _ (by decide),a7g (show [0] ⊆ [(0:Int),2] by decide) b1t] at x1
 rw [b04 _ (by decide),aw8] at x2
 have hn:pX (P8 [fX] []) 0 3 []=false:=by
  rw [← lbQ]
  intro h
  have:=a7g (show [] ⊆ [(2:Int)] by decide) h
  rw [aw8] at this;cases this
 rw [b04 _ (by decide),hn] at x3
 have s1:=b15 [[0],[1]] [[0],[1]] (by decide) (by decide) (by decide) (by decide)
 have s2:=b15 [[1]] [[1]] (by decide) (by decide) (by decide) (by decide)
 rw [show decide ([[(0:Int)],[1]]=[[0],[1]])=true from rfl] at s1
 rw [show decide ([[(1:Int)]]=[[1]])=true from rfl] at s2
 (refine ac Tryz.func13 ?_;(conv=>whnf);repeat ((first|refine b0x ?_|refine zy ?_);conv=>whnf))
 have r0:([[]]:List (List Int))[0]? =some []:=rfl
 repeat' (first|refine zz ?_|refine qp e1 ?_|refine qp f1 ?_|refine qp m1 ?_|refine qp m2 ?_|refine qp m3 ?_|refine qp x1 ?_|refine qp x2 ?_|refine qp x3 ?_|refine qp s1 ?_|refine qp s2 ?_|refine qp fX ?_|refine qp ?_|refine qp fX ?_|refine qp ?_|refine qp fX ?_|refine qp ?_|refine a6l.weak ?_|refine g6 r0 ?_|refine .inl ⟨_,_,a0y x1 ⟨ap1 (trT (P8 [fX] [])),a10 (a5X rfl),a10 (a5X rfl),trivial⟩ rfl,?_⟩|refine .inl ⟨_,_,a0y x2 ⟨ap1 (trT (P8 [fX] [])),a10 (a5X rfl),a10 (a5X rfl),trivial⟩ rfl,?_⟩|refine .inl ⟨_,_,a0y x3 ⟨ap1 (trT (P8 [fX] [])),a10 (a5X rfl),a10 (a5X rfl),trivial⟩ rfl,?_⟩|refine zd ?_ ?_<;>intro h<;>try omega|refine zy ?_|fail)<;>conv=>whnf
 all_goals first
  |omega
  |(exfalso;contradiction)
  |exact i3 rfl
theorem aE4 {p:List Int->Bool} {l:List Int} {short:Bool}:∀n,(I8 p l short n).length<=n*2 ^ l.length
 |0=>by simp [I8]
 |n+1=>by
  have ih:=aE4 (p:=p) (l:=l) (short:=short) n
  have h2:(n+1)*2 ^ l.length=n*2 ^ l.length+2 ^ l.length:=lbV _ _
  rw [h2]
  generalize n*2 ^ l.length=q at *
  unfold I8
  split
  ·exact lbS ih (Nat.le_add_right _ _)
  ·rw [lbq]
   have:=lbt (fun s=>!((I8 p l short n).any fun a=>C5 a s) && p s) (E8 l n)
   have:=a6u l n
   omega
theorem a6D {t:g7} {kind:Int} {n:Nat} {short:Bool} (h3:n<=3):(J0 t kind n short).length<=32:=by
 have h:=aE4 (p:=pX t kind n) (l:=D8 t kind n) (short:=short) ((D8 t kind n).length+1)
 have hs:=a4I t kind n
 have:(J0 t kind n short).length<=((D8 t kind n).length+1)*2 ^ (D8 t kind n).length:=h
 generalize (D8 t kind n).length=m at this hs
 match m,hs with
 |0,_=>omega
 |1,_=>omega
 |2,_=>omega
 |3,_=>omega
 |m+4,h=>omega
theorem a7w {t:g7} {kind:Int} {n:Nat} {s:List Int} (h:s ∈ J0 t kind n false):s.length<=n:=
 lbS (a08.1 h).1.length_le (a4I t kind n)
structure bc6 (A L:List (List Int)) (fo:Bool):Prop where
 h0:∃a0,A[0]? =some a0∧L[0]? =some a0∧(a0.length=0↔fo=false)∧(a0.length=0->L.length=1)
 le:A.length<=L.length
 l32:L.length<=32
 each:∀s ∈ L,s.length<=3
 ord:∀k x y,L[k]? =some x->L[k+1]? =some y->a1e x y=true
 fst:∀k x,k<A.length->L[k]? =some x->A[k]? =some x
 len:∀k x a0,L[k]? =some x->L[0]? =some a0->(x.length=a0.length↔k<A.length)
theorem bc7 {t:g7} {kind:Int} {n:Nat} (h:ExP t kind n) (h3:n<=3):bc6 (J0 t kind n true) (J0 t kind n false) (a4M t kind):=by
 obtain ⟨rest,w1,w2,w3,w4⟩:=b3E h
 have w5:=aP6 (t:=t) (kind:=kind) (n:=n)
 have w6:=aW9 h
 have w8:=a6D (t:=t) (kind:=kind) (n:=n) (short:=false) h3
 have w9:∀s ∈ J0 t kind n false,s.length<=n:=fun s=>a7w
 have w7:∀s,s ∈ J0 t kind n false↔s.Sublist (D8 t kind n)∧pX t kind n s=true∧∀a,a.Sublist s->a≠s->pX t kind n a=false:=fun s=>a08
 generalize J0 t kind n true=A at *
 generalize J0 t kind n false=L at *
 match A,w2,w1,w3,w4 with
 |[],w2,_,_,_=>exact absurd rfl w2
 |a0::A',_,w1,w3,w4=>
 have hL0:L[0]? =some a0:=by rw [w1];rfl
 have hm:a0 ∈ L:=lbm hL0
 have hlen:(a0::A').length<=L.length:=by rw [w1];simp
 refine ⟨⟨a0,rfl,hL0,⟨fun h0=>?_,fun hf=>?_⟩,fun h0=>?_⟩,hlen,w8,fun s hs=>lbS (w9 s hs) h3,?_,?_,?_⟩
 ·have:a0=[]:=List.length_eq_zero_iff.1 h0
  subst this
  have:=((w7 []).1 hm).2.1
  rw [w6] at this
  cases hs:a4M t kind with
  |true=>rw [hs] at this;cases this
  |false=>rfl
 ·have hp:pX t kind n []=true:=by rw [w6,hf];rfl
  apply a0k
  intro hne
  have:=((w7 a0).1 hm).2.2 [] (List.nil_sublist _) (by rintro rfl;exact hne rfl)
  rw [hp] at this;cases this
 ·have:a0=[]:=List.length_eq_zero_iff.1 h0
  subst this
  have hp:=((w7 []).1 hm).2.1
  match hLL:L,hL0 with
  |[x],_=>rfl
  |x::y::r,hL0=>
   have hx:x=[]:=by simpa using hL0
   subst hx
   have h2:=(List.pairwise_cons.1 w5).1 y (by simp)
   have hy:y≠[]:=by rintro rfl;rw [a67] at h2;cases h2
   have:=((w7 y).1 (by simp)).2.2 [] (List.nil_sublist _) (Ne.symm hy)
   rw [hp] at this;cases this
 ·intro k x y hx hy
  obtain ⟨i1,e1⟩:=lbe.1 hx
  obtain ⟨i2,e2⟩:=lbe.1 hy
  have:=List.pairwise_iff_getElem.1 w5 k (k+1) i1 i2 (by omega)
  rw [e1,e2] at this
  exact this
 ·intro k x hk hx
  rw [w1,lbb hk] at hx
  exact hx
 ·intro k x b hx hb
  rw [hL0] at hb
  injection hb with hb
  subst hb
  constructor
  ·intro he
   apply a0k
   intro hk
   rw [w1,lbc (by omega)] at hx
   have:=w4 a0 (by simp) x (lbm hx)
   omega
  ·intro hk
   rw [w1,lbb hk] at hx
   exact (w3 a0 (by simp) x (lbm hx)).symm
theorem aN2 {α:Type} {xs:List α} {f:α->List T} {a:Int} {k:Nat} {x:α} {K:List T->Prop} (ha:a=k) (hx:xs[k]? =some x) (h:K (f x)):∃row,0<=(if (0:Int) > a then 0 else a)∧(xs.map f)[(if (0:Int) > a then 0 else a).toNat]? =some row∧K row:=
 ax7 (by rw [if_neg (by omega)];exact ha) hx h
theorem aE7 {α:Type} {xs:List α} {f:α->List T} {a b:Int} {k:Nat} {x:α} {K:List T->Prop} (hb:¬b<a) (ha:a=k) (hx:xs[k]? =some x) (h:K (f x)):∃row,0<=(if b<a then b else a)∧(xs.map f)[(if b<a then b else a).toNat]? =some row∧K row:=
 ax7 (by rw [if_neg hb];exact ha) hx h
theorem a8Y (t:g7) (kind:Int):e7 Tryz.prog 5 [trS t,b7 .i64 kind] [] (i8 true) []:=by
 have sa:=a85
 have sm:=af5 t 6
 cases hsm:a3x t 6 with
 |false=>
  rw [hsm] at sm
  (refine ac Tryz.func5 ?_;(conv=>whnf);repeat ((first|refine b0x ?_|refine zy ?_);conv=>whnf))
  repeat' (first|refine zx ?_|refine qp sa ?_|refine qp sm ?_|refine zd ?_ ?_<;>intro h<;>try omega|fail)<;>conv=>whnf
  all_goals first
   |omega
   |(exfalso;contradiction)
   |exact i3 rfl
 |true=>
 rw [hsm] at sm
 obtain ⟨s1,s2,s3,s4,s5⟩:=a2l (by decide) hsm
 have fe:=a6E t kind s1 s2 (by omega) (by omega)
 have mi:=a33 t kind s1 s2 (by omega) (by omega)
 by_cases he:a3m t kind≠0
 ·rw [a1q he] at fe mi
  (refine ac Tryz.func5 ?_;(conv=>whnf);repeat ((first|refine b0x ?_|refine zy ?_);conv=>whnf))
  repeat' (first|refine zx ?_|refine qp sa ?_|refine qp sm ?_|refine qp fe ?_|refine qp mi ?_|refine zd ?_ ?_<;>intro h<;>try omega|fail)<;>conv=>whnf
  all_goals first
   |omega
   |(exfalso;contradiction)
   |exact i3 rfl
 have he:a3m t kind=0:=by omega
 rw [he] at fe mi
 rcases aN7 (kind:=kind) s1 s2 (by omega) (by omega) with h|⟨h,r,hr⟩|⟨n,hE,hx⟩
 ·rw [a2X h] at he;cases he
 ·rw [a0p h hr] at he;cases he
 rw [a0T hE] at fe mi
 have hen:=hE.h
 obtain ⟨⟨a0,p1,p2,p3,p4⟩,hAL,hL,hEa,q1,q2,q3⟩:=bc7 hE (by omega)
 have fo:a4M t kind=t.finds.any fun f=>decide (f.kind=kind):=rfl
 generalize J0 t kind n true=A at *
 generalize J0 t kind n false=L at *
 have lA:(A.map U7).length=A.length:=by simp
 have lL:(L.map U7).length=L.length:=by simp
 have lF:(t.finds.map L1.row).length=t.finds.length:=by simp
 have l0:(a0.map i5).length=a0.length:=by simp
 have hA0:0<A.length:=by obtain ⟨i1,_⟩:=lbe.1 p1;exact i1
 (refine ac Tryz.func5 ?_;(conv=>whnf);repeat ((first|refine b0x ?_|refine zy ?_);conv=>whnf))
 repeat' (first|refine zx ?_|refine qp sa ?_|refine qp sm ?_|refine qp fe ?_|refine qp mi ?_|refine zd ?_ ?_<;>intro h<;>try omega|fail)<;>conv=>whnf
 refine j5 e8 (fun k=>([J,b7 .i64 kind,S.c (C.t (T.ptr (trT t))),J,J,i8 true,a0X A,J,a0X L,J,i8 ((t.finds.take k).any fun f=>decide (f.kind=kind)),b7 .i64 k]++Jn 149,[])) t.finds.length (fun _=>True) [] trivial
  ⟨rfl,rfl,trivial,⟨rfl,rfl,rfl,rfl,rfl,rfl,rfl,trivial⟩⟩ ?_
 intro k hk _
 by_cases hlt:k<t.finds.length
 ·obtain ⟨f,hf⟩:∃f,t.finds[k]? =some f:=⟨_,lbf hlt⟩
  have sk:((t.finds.take (k+1)).any fun f=>decide (f.kind=kind))=(((t.finds.take k).any fun f=>decide (f.kind=kind)) || decide (f.kind=kind)):=by rw [lbH,hf,List.any_append];simp
  cases hk8:(t.finds.take k).any fun f=>decide (f.kind=kind) with
  |true=>
   rw [hk8,Bool.true_or] at sk
   conv=>whnf
   repeat' (first|refine zx ?_|refine g6 hf ?_|refine zd ?_ ?_<;>intro h<;>try omega|fail)<;>conv=>whnf
   all_goals first
    |omega
    |exact ⟨hlt,trivial,[],rfl,rfl,trivial,⟨rfl,rfl,rfl,rfl,rfl,by rw [sk];rfl,rfl,trivial⟩⟩
  |false=>
   rw [hk8,Bool.false_or] at sk
   conv=>whnf
   repeat' (first|refine zx ?_|refine g6 hf ?_|refine zd ?_ ?_<;>intro h<;>try omega|fail)<;>conv=>whnf
   all_goals first
    |omega
    |(have hd:f.kind=kind:=by omega
      exact ⟨hlt,trivial,[],rfl,rfl,trivial,⟨rfl,rfl,rfl,rfl,rfl,by rw [sk,lbI hd];rfl,rfl,trivial⟩⟩)
    |(have hd:¬f.kind=kind:=by omega
      exact ⟨hlt,trivial,[],rfl,rfl,trivial,⟨rfl,rfl,rfl,rfl,rfl,by rw [sk,lbK hd];rfl,rfl,trivial⟩⟩)
 have hke:k=t.finds.length:=by omega
 subst hke
 rw [lbn (lbR _),←fo]
 have hso:(a4M t kind=true∧¬a0.length=0)∨(a4M t kind=false∧a0.length=0∧L.length=1):=by
  cases hso:a4M t kind with
  |true=>exact .inl ⟨rfl,fun h=>by have:=p3.1 h;rw [hso] at this;cases this⟩
  |false=>exact .inr ⟨rfl,p3.2 hso,p4 (p3.2 hso)⟩
 rcases hso with ⟨hso,p3⟩|⟨hso,p3,p4⟩<;>rw [hso]<;>
 ·conv=>whnf
  repeat' (first|refine zx ?_|refine g6 p1 ?_|refine zd ?_ ?_<;>intro h<;>try omega|fail)<;>conv=>whnf
  all_goals try omega
  refine j5 e8 (fun k=>([J,J,J,J,J,i8 true,a0X A,J,a0X L,J,J,J,b7 .i64 k]++Jn 148,[])) L.length (fun _=>True) [] trivial
   ⟨rfl,rfl,trivial,⟨rfl,rfl,rfl,rfl,trivial⟩⟩ ?_
  intro k hk _
  by_cases hlt:k<L.length
  ·obtain ⟨x,hx⟩:∃x,L[k]? =some x:=⟨_,lbf hlt⟩
   have hx3:=hEa x (lbm hx)
   have hq3:=q3 k x a0 hx p2
   have lx:(x.map i5).length=x.length:=by simp
   have sA:k<A.length->e7 Tryz.prog 24 [i6 x,i6 x] [] (i8 true) []:=fun hkA=>by
    have:=ae9 x x (by omega) (by omega)
    rw [lbI rfl] at this
    exact this
   match k,hlt,hk,hx,hq3,sA with
   |0,hlt,hk,hx,hq3,sA=>
    have sA:=sA hA0
    have hxA:=q2 0 x hA0 hx
    have mn:¬((A.map U7).length:Int) - 1<((0:Nat):Int):=by omega
    conv=>whnf
    repeat' (first|refine zx ?_|refine qp sA ?_|refine g6 hx ?_|refine g6 hxA ?_|refine aE7 mn rfl hxA ?_|refine g6 p2 ?_|refine zd ?_ ?_<;>intro h<;>try omega|fail)<;>conv=>whnf
    all_goals first
     |omega
     |(exfalso;contradiction)
     |exact ⟨hlt,trivial,[],rfl,rfl,trivial,⟨rfl,rfl,rfl,rfl,trivial⟩⟩
   |j+1,hlt,hk,hx,hq3,sA=>
    obtain ⟨y,hy⟩:∃y,L[j]? =some y:=⟨_,lbf (by omega)⟩
    have hy3:=hEa y (lbm hy)
    have be:=b44 y x (by omega) (by omega)
    rw [q1 j y x hy hx] at be
    have mx:((j+1:Nat):Int) - 1=((j:Nat):Int):=by omega
    by_cases hkA:j+1<A.length
    ·have sA:=sA hkA
     have hxA:=q2 (j+1) x hkA hx
     have mn:¬((A.map U7).length:Int) - 1<((j+1:Nat):Int):=by omega
     conv=>whnf
     repeat' (first|refine zx ?_|refine qp sA ?_|refine qp be ?_|refine g6 hx ?_|refine g6 hxA ?_|refine aE7 mn rfl hxA ?_|refine g6 p2 ?_|refine g6 hy ?_|refine aN2 mx hy ?_|refine zd ?_ ?_<;>intro h<;>try omega|fail)<;>conv=>whnf
     all_goals first
      |omega
      |(exfalso;contradiction)
      |exact ⟨hlt,trivial,[],rfl,rfl,trivial,⟨rfl,rfl,rfl,rfl,trivial⟩⟩
    ·conv=>whnf
     repeat' (first|refine zx ?_|refine qp be ?_|refine g6 hx ?_|refine g6 p2 ?_|refine g6 hy ?_|refine aN2 mx hy ?_|refine zd ?_ ?_<;>intro h<;>try omega|fail)<;>conv=>whnf
     all_goals first
      |omega
      |(exfalso;contradiction)
      |exact ⟨hlt,trivial,[],rfl,rfl,trivial,⟨rfl,rfl,rfl,rfl,trivial⟩⟩
  ·conv=>whnf
   repeat' (first|refine zx ?_|refine zd ?_ ?_<;>intro h<;>try omega|fail)<;>conv=>whnf
   all_goals first
    |omega
    |exact i3 rfl
section
open Go.RowKit Go.ChangeShapes Go.WideShapes Go.Deep
section
variable {H:Type} {enc:TypeId × Value->H} {P:Program}
theorem al0 (hl:laidOutB P=true) {W W':World} {sp:Nat->Bool}:∀{ts:List TypeId} {vs:List Value} {ds:List (DataW H)} {ps:List MemPlace},(∀ t ∈ ts,P.readableRec t=true∧t<P.types.size)->
 DataW.TrodAll enc P W 0 (fun _=>true) true ts vs ds ps->(∀ p ∈ ps,W.sameAt W' p)->(∀ p ∈ ps,sp p.block=true)->DataW.TrodAll enc P W' 0 sp true ts vs ds ps:=by
 intro ts
 induction ts with
 |nil=>
  intro vs ds ps _ h _ _
  obtain ⟨rfl,rfl,rfl⟩:=trodAll_nil h
  exact trodAll_mk0
 |cons t ts ih=>
  intro vs ds ps hr h hsame hs
  obtain ⟨v,vs',d,ds',p,q,rfl,rfl,rfl,h1,h2⟩:=trodAll_cons h
  obtain ⟨ht,hlt⟩:=hr t (by simp)
  exact trodAll_cons_mk (WideElems.Trod_stays hl ht hlt h1 (fun x hx=>hsame x (by simp [hx])) (fun x hx=>hs x (by simp [hx]))) (ih (fun t ht=>hr t (by simp [ht])) h2 (fun x hx=>hsame x (by simp [hx])) (fun x hx=>hs x (by simp [hx])))
theorem af6 {f:Func} {s:ChangeSpec} {fresh handsOn:Bool} {W W':World} {args:Array Value} {ds gs:List (DataW H)} {before:List MemPlace} {tb:TypeId}
 (hW:DataW.Whole enc P f.params.toList s.vars false W args.toList ds gs before) (hl:laidOutB P=true) (hr:∀t ∈ f.params.toList,P.readableRec t=true∧t<P.types.size) (hv:s.vars=[])
 (hfn:s.fn H (ds++gs)={ results:=[.lit (.bool true)],args:=ds }) (hres:f.resultTypes=#[tb]) (hbool:P.underlying tb=some .bool) (hb:Below W.heap.size W W'):
 s.post enc P f false fresh handsOn false W args (.bool true) W':=by
 have hW':=hW
 obtain ⟨p,q,hA,hV,rfl,hfz,hnd⟩:=hW
 rw [hv] at hV
 obtain ⟨rfl,rfl⟩:=trodVars_none hV
 have hlt:∀x ∈ p,x.block<W.heap.size:=fun x hx=>by have:=hW'.lt x (by simpa using hx);simpa using this
 refine ⟨ds,[],p++[],[],p,[],hW',?_,?_,?_,hb.frame _,fun h=>by cases h⟩
 ·rw [hfn,hres]
  exact trodAll_mk1 (shut_bool hbool true)
 ·rw [hfn]
  exact al0 hl hr hA (fun x hx=>hb.same (hlt x hx)) (fun x hx=>by simpa using hlt x hx)
 ·rw [hv,hfn]
  exact rfl
theorem Rd.of_each {α:Type} {k:Nat} {f:α->List Value} {w:World} {b off:Nat}:∀(n:Nat),(∀ i,i<n->∃x:α,∀j u,(f x)[j]? =some u->w.cell? ⟨b,off+(i*k+j),none⟩=some u)->∃xs,Rd k f w (some ⟨b,off,none⟩) n xs:=by
 intro n
 induction n with
 |zero=>intro _;exact ⟨[],Rd.nil _⟩
 |succ n ih=>
  intro h
  obtain ⟨xs,hx⟩:=ih (fun i hi=>h i (by omega))
  obtain ⟨x,hxn⟩:=h n (by omega)
  have hl:=hx.len
  refine ⟨xs++[x],by simp [← hl],fun _=>⟨b,off,rfl,fun i y hy j u hu=>?_⟩⟩
  by_cases hi:i<xs.length
  ·rw [lbb hi] at hy
   obtain ⟨b',off',e,hc⟩:=hx.2 (by omega)
   injection e with e
   injection e with e1 e2
   subst e1 e2
   exact hc i y hy j u hu
  ·have hi2:i=n:=by
    have:=(lbe.1 hy).1
    simp at this
    omega
   subst hi2
   have hy2:x=y:=by
    rw [lbc (by omega),←hl] at hy
    simpa using hy
   subst hy2
   exact hxn j u hu
variable {w:World} {base:Nat} {spare:Nat->Bool} {held:Bool}
theorem b33 {α:Type} (f:α->Value) {t e:TypeId} {fuel:Nat} {v:Value} {x:DataW H × List MemPlace} (ht:P.underlying t=some (.slice e)) (hC:P.cellsOf e=1)
 (hdec:∀(u:Value) y n,DataW.trod enc P w base spare held n e [u]=some y->∃x:α,u=f x)
 (h:DataW.trod enc P w base spare held fuel t [v]=some x):∃A n c xs,v=.slice A n c∧Rd 1 (fun x=>[f x]) w A n xs∧n<=c∧c<=maxLen:=by
 rcases open_slice ht h with ⟨h0,_⟩|⟨a,len,cap,m,n,D,Pl,hcs,hb,hl,hm,hmm,hx,hi⟩
 ·injection h0 with h0
  exact ⟨none,0,0,[],h0,Rd.nil _,lbR _,by unfold maxLen;omega⟩
 ·injection hcs with hv
  by_cases hz:len=0
  ·subst hz
   exact ⟨some a,0,cap,[],hv,Rd.nil _,hl,hm⟩
  have hlm:len<=m:=by rw [hmm];split<;>omega
  have key:∀i,i<m->∃x:α,w.cell? (a.add i)=some (f x):=by
   intro i him
   obtain ⟨cs',hc,ht'⟩:=hi i him
   rw [hC,Nat.mul_one] at hc
   obtain ⟨_,hcl,hat⟩:=World.cells?_some hc
   match cs',hcl with
   |[u],_=>
    obtain ⟨x,rfl⟩:=hdec u _ _ ht'
    exact ⟨x,by have:=hat 0 (by omega);rw [Go.Deep.add_add,Nat.add_zero] at this;simpa using this⟩
  obtain ⟨x0,hu0⟩:=key 0 (by omega)
  have hspot:a.spot=none:=by
   have:=World.cell?_spot hu0
   simpa [Addr.add] using this
  obtain ⟨b,off,sp⟩:=a
  simp only at hspot
  subst hspot
  have hadd:∀k,(⟨b,off,none⟩:Addr).add k=⟨b,off+k,none⟩:=by
   intro k
   unfold Addr.add
   split
   ·subst_vars;rfl
   ·rfl
  obtain ⟨xs,hxs⟩:=Rd.of_each (k:=1) (f:=fun x=>[f x]) (w:=w) (b:=b) (off:=off) len (fun i hil=>by
   obtain ⟨x,hx⟩:=key i (by omega)
   rw [hadd] at hx
   refine ⟨x,fun j u hu=>?_⟩
   match j,hu with
   |0,hu=>simp at hu;subst hu;simpa using hx)
  exact ⟨_,len,cap,xs,hv,hxs,hl,hm⟩
end
end
section
open Go.RowKit Go.ChangeShapes Go.WideShapes Go.Deep
section
variable {H:Type} {enc:TypeId × Value->H} {w:World} {base:Nat} {spare:Nat->Bool} {held:Bool}
theorem b6J {k:TypeId} (hk:Tryz.prog.underlying k=some (.int .i64)) {u:Value} (h:∃y n,DataW.trod enc Tryz.prog w base spare held n k [u]=some y):∃a:Int,u=.int .i64 a:=by
 obtain ⟨y,n,h⟩:=h
 obtain ⟨a,e,_,_⟩:=DataW.trod_int hk h
 injection e with e
 exact ⟨a,e⟩
end
theorem aB4:ownKnob Tryz.prog.godebug=none:=by kernel_rfl
theorem a9G:laidOutB Tryz.prog=true:=by kernel_rfl
end
theorem b3L {α:Type} {k:Nat} {f:α->List Value} {row:α->List T} (hrow:∀x,row x=(f x).map T.atm) (hone:∀x,∀v ∈ f x,v.oneCell'=true) (hk:∀x,(f x).length=k)
 {w:World} {A:Option Addr} {n c:Nat} {xs:List α} (h:Rd k f w A n xs) (h1:n<=c) (h2:c<=maxLen):RT w (fun _=>False) (.sl k .any (xs.map row)) (.slice A n c):=by
 obtain ⟨hn,hc⟩:=h
 have hlen:(xs.map row).length=n:=by simp [hn]
 rw [← hlen]
 have hat:∀i j t,at2 (xs.map row) i j=some t->∃x v,xs[i]? =some x∧(f x)[j]? =some v∧t=.atm v:=fun i j t ht=>by
  obtain ⟨r,q1,q2⟩:=G0 ht
  rw [lba] at q1
  cases hx:xs[i]? with
  |none=>rw [hx] at q1;cases q1
  |some x=>
   rw [hx] at q1
   injection q1 with q1
   subst q1
   rw [hrow,lba] at q2
   cases hv:(f x)[j]? with
   |none=>rw [hv] at q2;cases q2
   |some v=>rw [hv] at q2;injection q2 with q2;exact ⟨x,v,rfl,hv,q2.symm⟩
 rcases Nat.eq_zero_or_pos n with h0|h0
 ·have hx:xs=[]:=lbG (by omega)
  subst hx
  exact .sl (b:=0) (off:=0) (fun _ _=>undef) (by simp) (by simp) h2 (by intro h;cases h) (by intro h;cases h) (by simp) (by simp [at2]) (by simp [at2])
 ·obtain ⟨b,off,hA,hcell⟩:=hc h0
  refine .sl (b:=b) (off:=off) (fun i j=>((xs[i]?).bind fun x=>(f x)[j]?).getD undef) ?_ (by omega) h2 (by intro h;cases h) (by intro h;cases h) (fun _=>hA) ?_ ?_
  ·intro r hr
   obtain ⟨x,_,rfl⟩:=lby.1 hr
   rw [hrow,lbr,hk]
  ·intro i j t ht
   obtain ⟨x,v,hx,hv,rfl⟩:=hat i j t ht
   exact ⟨by rw [hcell i x hx j v hv];simp [hx,hv],fun h=>h⟩
  ·intro i j t ht
   obtain ⟨x,v,hx,hv,rfl⟩:=hat i j t ht
   have:((xs[i]?).bind fun x=>(f x)[j]?).getD undef=v:=by simp [hx,hv]
   rw [this]
   exact .atm (hone x v (lbm hv))
theorem b7i {w:World} {b:Bool}:RS w (fun _=>none) (fun _=>False) (i8 b) (.bool b):=RS.bool
theorem av9 {w:World} {n:Int}:RS w (fun _=>none) (fun _=>False) (b7 .i64 n) (.int .i64 n):=RS.int
inductive al3 (w:World):List S->List Value->Prop
 |nil:al3 w [] []
 |cons {s:S} {v:Value} {ss:List S} {vs:List Value} (h:RS w (fun _=>none) (fun _=>False) s v) (hs:al3 w ss vs):al3 w (s::ss) (v::vs)
theorem al3.get {w:World} {ss:List S} {vs:List Value} (h:al3 w ss vs):vs.length=ss.length∧∀(j:Nat) (s:S),ss[j]? =some s->RS w (fun _=>none) (fun _=>False) s (vs.getD j undef):=by
 induction h with
 |nil=>exact ⟨rfl,by simp⟩
 |cons h hs ih=>
  refine ⟨by simp [ih.1],fun j s hj=>?_⟩
  cases j with
  |zero=>simp at hj;subst hj;exact h
  |succ j=>simpa using ih.2 j s (by simpa using hj)
theorem a3o {P:Program} {g:FuncId} {ss:List S} {b:Bool} (h:e7 P g ss [] (i8 b) []) {w:World} {vs:List Value} (ha:al3 w ss vs):
 Calls P g vs.toArray w fun e w'=>e=.returned (.bool b)∧Below w.heap.size w w':=by
 obtain ⟨h1,h2⟩:=ha.get
 refine Calls.mono (h.2 w (fun _=>none) (fun _=>False) vs h1 h2 ⟨by simp,by simp,by simp,by simp,by simp⟩ (fun _ h=>h.elim) (fun _ _=>rfl)) ?_
 rintro e w' ⟨v,rfl,ι',M',q1,q2,q3,q4,q5⟩
 rw [q1.inv_atm]
 exact ⟨rfl,q5.os,q5.tape,q5.output,q5.size,fun k hk=>q5.keep k hk (by rintro ⟨id,k,_,_,hk,_⟩;simp at hk)⟩
open Go.RowKit Go.ChangeShapes Go.WideShapes Go.ChangeAt
theorem a8n {P:Program} {f:FuncId} {fn:Func} {s:ChangeSpec} {c:OpenClaim}
 (h1:c.wf (OpenSpec.ofChange s)=true) (h2:laidOutB P=true) (h3:mapsRowed P=true) (h4:fn.params.all (P.readableRec ·)=true) (h5:namedTie P c.named s.vars=true)
 (h6:(c.stops == [])=true) (h7:(P.stops == [])=true) (h8:(c.knobs == [])=true) (h9:(P.stopKnobs == [])=true)
 (h10:(c.inPlace == P.inPlace f)=true) (h11:(c.unfollowed == P.unfollowed f)=true) (h12:(c.recurses == P.recurses f)=true) (h13:(c.named == P.varsNamed f)=true)
 (h14:(c.maps == (fn.params.toList++s.plain.varTypes P).any (P.mapsRec ·))=true) (h15:(c.ifaces == (fn.params.toList++s.plain.varTypes P).any (P.ifacesRec ·))=true) (h16:(c.mapsOut == P.mapsAmong fn.resultTypes.toList)=true)
 (h17:(c.loops == (fn.params.toList++s.plain.varTypes P).any (P.loopsFrom ·))=true) (h18:(c.wideKeys == (fn.params.toList++s.plain.varTypes P++fn.resultTypes.toList).any (P.wideKeysFrom ·))=true)
 (h19:s.vars.all (P.varReadable ·)=true) (h20:fn.resultTypes.all (fun t=>P.readableRec t && decide (t<P.types.size))=true) (h21:(c.ifacesOut == fn.resultTypes.toList.any (P.ifacesRec ·))=true) (h22:(c.loopsOut == fn.resultTypes.toList.any (P.loopsFrom ·))=true)
 (h23:(c.plainKeys == P.plainKeys)=true) (h24:c.shortTexts.isNone=true) (h25:P.stopsHeard=true) (h26:P.mayEnter=true) (h27:(c.lifted == P.liftsFinal)=true) (h28:(P.make == some c.make)=true)
 (h29:c.domain.isEmpty=true) (h29b:(c.kinds == [])=true) (h30:(c.pinned == c.pinnedBy)=true)
 (h31:(c.veiled == (fn.params.toList++s.plain.varTypes P++fn.resultTypes.toList).any (P.veiledRec ·))=true) (h32:c.veiledFits P fn.params.toList (fn.params.toList++s.plain.varTypes P++fn.resultTypes.toList)=true):
 joinedFacts P f fn s c=true:=by
 unfold joinedFacts
 rw [h1,h2,h3,h4,h5,h6,h7,h8,h9,h10,h11,h12,h13,h14,h15,h16,h17,h18,h19,h20,h21,h22,h23,h24,h25,h26,h27,h28,if_pos h29,h29b,h30,h31,h32]
 rfl
theorem aC9:laidOutB Tryz.pinned.checked.prog=true:=by kernel_rfl
theorem au7:mapsRowed Tryz.pinned.checked.prog=true:=by kernel_rfl
theorem aD0:Tryz.pinned.checked.prog.plainKeys=true:=by kernel_rfl
theorem ab7:Tryz.pinned.checked.prog.stopsHeard=true:=by kernel_rfl
theorem ad7:Tryz.pinned.checked.prog.mayEnter=true:=by kernel_rfl
theorem az3:(Rows.explainFewestRow.lifted == Tryz.pinned.checked.prog.liftsFinal)=true:=by kernel_rfl
theorem ax4:(Tryz.pinned.checked.prog.make == some Rows.explainFewestRow.make)=true:=by kernel_rfl
section
open Go.RowKit Go.ChangeShapes Go.WideShapes Go.Deep
inductive Sh where
 |int (k:IntKind)
 |bool
 |sl (row:List Sh)
inductive Fit:Sh->T->Prop
 |int {k:IntKind} {n:Int} (h:(Lit.int k n).wf=true):Fit (.int k) (.atm (.int k n))
 |bool {b:Bool}:Fit .bool (.atm (.bool b))
 |sl {row:List Sh} {rows:List (List T)} (hl:∀r ∈ rows,r.length=row.length) (h:∀r ∈ rows,∀(j:Nat) (s:Sh) (t:T),row[j]? =some s->r[j]? =some t->Fit s t):Fit (.sl row) (.sl row.length .any rows)
inductive H3 (P:Program):TypeId->List Sh->Prop
 |int {t:TypeId} {k:IntKind} (h:P.underlying t=some (.int k)):H3 P t [.int k]
 |bool {t:TypeId} (h:P.underlying t=some .bool):H3 P t [.bool]
 |sl {t e:TypeId} {row:List Sh} (h:P.underlying t=some (.slice e)) (hc:P.cellsOf e=row.length) (hp:0<row.length) (he:H3 P e row):H3 P t [.sl row]
 |struct {t:TypeId} {fs:Array Field} (parts:List (List Sh)) (h:P.underlying t=some (.struct fs)) (hl:parts.length=fs.size)
   (ho:∀(i:Nat) (f:Field) (p:List Sh),fs[i]? =some f->parts[i]? =some p->f.offset=(parts.take i).flatten.length∧P.cellsOf f.type=p.length)
   (hc:P.cellsOf t=parts.flatten.length)
   (he:∀(i:Nat) (f:Field) (p:List Sh),fs[i]? =some f->parts[i]? =some p->H3 P f.type p):H3 P t parts.flatten
section
variable {H:Type} {enc:TypeId × Value->H} {P:Program} {w:World} {base:Nat} {spare:Nat->Bool} {held:Bool}
def aA9 (w:World) (shs:List Sh) (cs:List Value):Prop:=
 cs.length=shs.length∧∃ts:List T,ts.length=shs.length∧∀(j:Nat) (s:Sh),shs[j]? =some s->∃u t,cs[j]? =some u∧ts[j]? =some t∧RT w (fun _=>False) t u∧Fit s t
theorem ah2 {α:Type}:∀(parts:List (List α)) (j:Nat) (x:α),parts.flatten[j]? =some x->∃i p k,parts[i]? =some p∧p[k]? =some x∧j=(parts.take i).flatten.length+k
 |[],j,x,h=>by simp at h
 |p::r,j,x,h=>by
  rw [List.flatten_cons] at h
  by_cases hj:j<p.length
  ·rw [lbb hj] at h
   exact ⟨0,p,j,rfl,h,by simp⟩
  ·rw [lbc (by omega)] at h
   obtain ⟨i,q,k,h1,h2,h3⟩:=ah2 r _ x h
   exact ⟨i+1,q,k,by simpa using h1,h2,by rw [List.take_succ_cons,List.flatten_cons,lbq];omega⟩
theorem a1h {α:Type} {p:Nat->α->Prop}:∀(n:Nat),(∀ i,i<n->∃x,p i x)->∃xs:List α,xs.length=n∧∀i x,xs[i]? =some x->p i x
 |0,_=>⟨[],rfl,by simp⟩
 |n+1,h=>by
  obtain ⟨xs,h1,h2⟩:=a1h n fun i hi=>h i (by omega)
  obtain ⟨x,hx⟩:=h n (by omega)
  refine ⟨xs++[x],by simp [h1],fun i y hy=>?_⟩
  by_cases hi:i<xs.length
  ·rw [lbb hi] at hy;exact h2 i y hy
  ·rw [lbc (by omega)] at hy
   have:i=n:=by
    have:=(lbe.1 hy).1
    simp at this;omega
   subst this
   rw [h1] at hy
   simp at hy
   subst hy
   exact hx
theorem a9e {t:TypeId} {shs:List Sh} (h:H3 P t shs):∀(n:Nat) (cs:List Value) (x:DataW H × List MemPlace),DataW.trod enc P w base spare held n t cs=some x->aA9 w shs cs:=by
 induction h with
 |int h=>
  intro n cs x hx
  obtain ⟨a,rfl,_,hw⟩:=DataW.trod_int h hx
  exact ⟨rfl,[.atm (.int _ a)],rfl,fun j s hj=>by
   match j,hj with
   |0,hj=>simp at hj;subst hj;exact ⟨_,_,rfl,rfl,.atm rfl,.int hw⟩⟩
 |bool h=>
  intro n cs x hx
  obtain ⟨a,rfl,_⟩:=DataW.trod_bool h hx
  exact ⟨rfl,[.atm (.bool a)],rfl,fun j s hj=>by
   match j,hj with
   |0,hj=>simp at hj;subst hj;exact ⟨_,_,rfl,rfl,.atm rfl,.bool⟩⟩
 |@sl t e row h hc hp he ih=>
  intro n cs x hx
  have key:∀(rows:List (List T)) (u:Value),cs=[u]->RT w (fun _=>False) (.sl row.length .any rows) u->(∀ r ∈ rows,r.length=row.length)->(∀ r ∈ rows,∀(j:Nat) (s:Sh) (t:T),row[j]? =some s->r[j]? =some t->Fit s t)->aA9 w [.sl row] cs:=by
   rintro rows u rfl hu h1 h2
   exact ⟨rfl,[.sl row.length .any rows],rfl,fun j s hj=>by
    match j,hj with
    |0,hj=>simp at hj;subst hj;exact ⟨_,_,rfl,rfl,hu,.sl h1 h2⟩⟩
  rcases open_slice h hx with ⟨h0,_⟩|⟨a,len,cap,m,n,D,Pl,hcs,hb,hl,hm,hmm,hx,hi⟩
  ·exact key [] _ h0 (.sl (b:=0) (off:=0) (fun _ _=>undef) (by simp) (by simp) (by unfold maxLen;omega) (by intro h;cases h) (by intro h;cases h) (by simp) (by simp [at2]) (by simp [at2])) (by simp) (by simp)
  ·by_cases hz:len=0
   ·subst hz
    exact key [] _ hcs (.sl (b:=0) (off:=0) (fun _ _=>undef) (by simp) (by simp) hm (by intro h;cases h) (by intro h;cases h) (by simp) (by simp [at2]) (by simp [at2])) (by simp) (by simp)
   have hlm:len<=m:=by rw [hmm];split<;>omega
   have each:∀i,i<len->∃cs':List Value,(∀ j,j<row.length->w.cell? (a.add (i*row.length+j))=cs'[j]?)∧aA9 w row cs':=by
    intro i hil
    obtain ⟨cs',hc',ht'⟩:=hi i (by omega)
    rw [hc] at hc'
    obtain ⟨_,hcl,hat⟩:=World.cells?_some hc'
    exact ⟨cs',fun j hj=>by rw [← Go.Deep.add_add];exact hat j hj,ih n cs' _ ht'⟩
   obtain ⟨css,hcl,hcs2⟩:=a1h len each
   obtain ⟨rows,hrl,hrows⟩:=a1h (α:=List T) (p:=fun i ts=>ts.length=row.length∧∀(j:Nat) (s:Sh),row[j]? =some s->∃u t,(css.getD i [])[j]? =some u∧ts[j]? =some t∧RT w (fun _=>False) t u∧Fit s t) len (fun i hi=>by
    have hg:css[i]? =some (css[i]'(by omega)):=lbf (by omega)
    obtain ⟨_,_,ts,h1,h2⟩:=hcs2 i _ hg
    refine ⟨ts,h1,?_⟩
    rw [lbl,hg]
    exact h2)
   have hcell:∀i j,i<len->j<row.length->w.cell? (a.add (i*row.length+j))=some ((css.getD i []).getD j undef):=by
    intro i j hi hj
    have hg:css[i]? =some (css[i]'(by omega)):=lbf (by omega)
    obtain ⟨h1,h2,_⟩:=hcs2 i _ hg
    rw [h1 j hj]
    have hgd:css.getD i []=css[i]'(by omega):=by rw [lbl,hg];rfl
    rw [hgd,lbl,lbf (by omega)];rfl
   have hspot:a.spot=none:=by
    have:=World.cell?_spot (hcell 0 0 (by omega) hp)
    simpa [Addr.add] using this
   obtain ⟨b,off,sp⟩:=a
   simp only at hspot
   subst hspot
   have hadd:∀k,(⟨b,off,none⟩:Addr).add k=⟨b,off+k,none⟩:=by
    intro k
    unfold Addr.add
    split
    ·subst_vars;rfl
    ·rfl
   have hat:∀i j c,at2 rows i j=some c->i<len∧j<row.length∧∃r s,rows[i]? =some r∧r[j]? =some c∧row[j]? =some s:=by
    intro i j c hc
    obtain ⟨r,q1,q2⟩:=G0 hc
    have hil:i<len:=by rw [← hrl];exact (lbe.1 q1).1
    have hjl:j<row.length:=by rw [← (hrows i r q1).1];exact (lbe.1 q2).1
    exact ⟨hil,hjl,r,_,q1,q2,lbf hjl⟩
   refine key rows (.slice (some ⟨b,off,none⟩) len cap) hcs ?_ ?_ ?_
   ·rw [← hrl]
    refine .sl (b:=b) (off:=off) (fun i j=>(css.getD i []).getD j undef) ?_ (by omega) hm (by intro h;cases h) (by intro h;cases h) (fun _=>rfl) ?_ ?_
    ·intro r hr
     obtain ⟨i,hi⟩:=List.mem_iff_getElem?.1 hr
     exact (hrows i r hi).1
    ·intro i j c hc
     obtain ⟨hil,hjl,_⟩:=hat i j c hc
     have:=hcell i j hil hjl
     rw [hadd] at this
     exact ⟨this,fun h=>h⟩
    ·intro i j c hc
     obtain ⟨hil,hjl,r,s,q1,q2,q3⟩:=hat i j c hc
     obtain ⟨u,t,h1,h2,h3,h4⟩:=(hrows i r q1).2 j s q3
     rw [q2] at h2
     injection h2 with h2
     subst h2
     rw [lbl (l:=css.getD i []),h1]
     exact h3
   ·intro r hr
    obtain ⟨i,hi⟩:=List.mem_iff_getElem?.1 hr
    exact (hrows i r hi).1
   ·intro r hr j s t hs ht
    obtain ⟨i,hi⟩:=List.mem_iff_getElem?.1 hr
    obtain ⟨u,t',h1,h2,h3,h4⟩:=(hrows i r hi).2 j s hs
    rw [ht] at h2
    injection h2 with h2
    subst h2
    exact h4
 |@struct t fs parts h hl ho hc he ih=>
  intro n cs x hx
  obtain ⟨xs,n',hn',hy,hlen,hyl,hf⟩:=DataW.trod_struct h hx
  have hlen':cs.length=parts.flatten.length:=by rw [hlen,hc]
  have each:∀j,j<parts.flatten.length->∃t,∀s,parts.flatten[j]? =some s->∃u,cs[j]? =some u∧RT w (fun _=>False) t u∧Fit s t:=by
   intro j hj
   obtain ⟨i,p,k,q1,q2,q3⟩:=ah2 parts j _ (lbf hj)
   have hi:i<fs.size:=by rw [← hl];exact (lbe.1 q1).1
   have hfi:fs[i]? =some fs[i]:=Array.getElem?_eq_getElem hi
   obtain ⟨o1,o2⟩:=ho i _ p hfi q1
   have h1:=hf i _ hfi
   have hxi:xs[i]? =some (xs[i]'(by omega)):=lbf (by omega)
   obtain ⟨r1,ts,r2,r3⟩:=ih i _ p hfi q1 n' _ _ (h1.trans hxi)
   obtain ⟨u,t,e1,e2,e3,e4⟩:=r3 k _ q2
   refine ⟨t,fun s hs=>⟨u,?_,e3,?_⟩⟩
   ·have hk:k<p.length:=(lbe.1 q2).1
    rw [lbi,o2,if_pos hk,lbj,o1,←q3] at e1
    exact e1
   ·rw [lbf hj] at hs
    injection hs with hs
    rw [← hs];exact e4
  obtain ⟨ts,t1,t2⟩:=a1h parts.flatten.length each
  refine ⟨hlen',ts,t1,fun j s hj=>?_⟩
  have hjl:=(lbe.1 hj).1
  have htj:ts[j]? =some (ts[j]'(by omega)):=lbf (by omega)
  obtain ⟨u,h1,h2,h3⟩:=t2 j _ htj s hj
  exact ⟨u,_,h1,htj,h2,h3⟩
end
theorem Fit.int_inv {k:IntKind} {t:T} (h:Fit (.int k) t):∃n,t=.atm (.int k n)∧(Lit.int k n).wf=true:=by cases h with|int h=>exact ⟨_,rfl,h⟩
theorem Fit.bool_inv {t:T} (h:Fit .bool t):∃b,t=.atm (.bool b):=by cases h with|bool=>exact ⟨_,rfl⟩
theorem aI0 {α:Type} {f:α->List T} {p:α->Prop}:∀{rows:List (List T)},(∀ r ∈ rows,∃x,r=f x∧p x)->∃xs:List α,rows=xs.map f∧∀x ∈ xs,p x
 |[],_=>⟨[],rfl,by simp⟩
 |r::rs,h=>by
  obtain ⟨x,rfl,hx⟩:=h r (by simp)
  obtain ⟨xs,rfl,hxs⟩:=aI0 (rows:=rs) (f:=f) (p:=p) fun r hr=>h r (List.mem_cons_of_mem _ hr)
  exact ⟨x::xs,rfl,fun y hy=>by rcases lbB.1 hy with rfl|hy;exact hx;exact hxs y hy⟩
theorem Fit.sl_inv {α:Type} (f:α->List T) (p:α->Prop) {row:List Sh} {t:T} (h:Fit (.sl row) t)
 (hrow:∀r:List T,r.length=row.length->(∀ (j:Nat) (s:Sh) (t:T),row[j]? =some s->r[j]? =some t->Fit s t)->∃x,r=f x∧p x):
 ∃xs:List α,t=.sl row.length .any (xs.map f)∧∀x ∈ xs,p x:=by
 cases h with
 |sl hl h=>
  obtain ⟨xs,rfl,hx⟩:=aI0 (f:=f) (p:=p) (fun r hr=>hrow r (hl r hr) (h r hr))
  exact ⟨xs,rfl,hx⟩
end
section
open Go.RowKit Go.ChangeShapes Go.WideShapes Go.Deep
abbrev i4:Sh:=.int .i64
abbrev b56:List Sh:=[i4,.sl [i4]]
abbrev ax1:List Sh:=[i4,.sl [i4],i4,.sl [i4]]
theorem C2:H3 Tryz.prog 3 [i4]:=.int Tryz.underlying3
theorem b4h:H3 Tryz.prog 33 [.sl [i4]]:=.sl Tryz.underlying33 (by kernel_rfl) (by decide) C2
theorem a4e {P:Program} {t:TypeId} {fs:Array Field} {p0 p1:List Sh} (h:P.underlying t=some (.struct fs)) (hl:fs.size=2)
 (h0:∃f,fs[0]? =some f∧f.offset=0∧P.cellsOf f.type=p0.length∧H3 P f.type p0) (h1:∃f,fs[1]? =some f∧f.offset=p0.length∧P.cellsOf f.type=p1.length∧H3 P f.type p1)
 (hc:P.cellsOf t=p0.length+p1.length):H3 P t (p0++p1):=by
 obtain ⟨f0,a1,a2,a3,a4⟩:=h0
 obtain ⟨f1,b1,b2,b3,b4⟩:=h1
 have:=H3.struct (P:=P) (t:=t) (fs:=fs) [p0,p1] h (by simp [hl]) (fun i f p hf hp=>by
  match i,hp with
  |0,hp=>simp at hp;subst hp;rw [a1] at hf;injection hf with hf;subst hf;exact ⟨by simp [a2],a3⟩
  |1,hp=>simp at hp;subst hp;rw [b1] at hf;injection hf with hf;subst hf;exact ⟨by simp [b2],b3⟩
  |n+2,hp=>simp at hp) (by simp [hc]) (fun i f p hf hp=>by
  match i,hp with
  |0,hp=>simp at hp;subst hp;rw [a1] at hf;injection hf with hf;subst hf;exact a4
  |1,hp=>simp at hp;subst hp;rw [b1] at hf;injection hf with hf;subst hf;exact b4
  |n+2,hp=>simp at hp)
 simpa using this
theorem b12:H3 Tryz.prog 84 b56:=
 a4e (p0:=[i4]) (p1:=[.sl [i4]]) Tryz.underlying84 (by kernel_rfl) ⟨_,rfl,rfl,by kernel_rfl,C2⟩ ⟨_,rfl,rfl,by kernel_rfl,b4h⟩ (by kernel_rfl)
theorem b4o:H3 Tryz.prog 86 ax1:=
 a4e (p0:=b56) (p1:=b56) Tryz.underlying86 (by kernel_rfl) ⟨_,rfl,rfl,by kernel_rfl,b12⟩ ⟨_,rfl,rfl,by kernel_rfl,b12⟩ (by kernel_rfl)
theorem b2v:H3 Tryz.prog 49 [.sl ax1]:=.sl Tryz.underlying49 (by kernel_rfl) (by decide) b4o
theorem aU7:H3 Tryz.prog 264 [i4,i4]:=
 a4e (p0:=[i4]) (p1:=[i4]) Tryz.underlying264 (by kernel_rfl) ⟨_,rfl,rfl,by kernel_rfl,C2⟩ ⟨_,rfl,rfl,by kernel_rfl,C2⟩ (by kernel_rfl)
theorem aF3 {t:T} (h:Fit (.sl [i4]) t):∃l:List Int,t=E5 l:=by
 obtain ⟨xs,rfl,_⟩:=h.sl_inv i5 (fun _=>True) (fun r hl hr=>by
  match r,hl with
  |[u],_=>
   obtain ⟨n,rfl,_⟩:=(hr 0 _ _ rfl rfl).int_inv
   exact ⟨n,rfl,trivial⟩)
 exact ⟨xs,rfl⟩
theorem aF2 {r:List T} (hl:r.length=4) (hr:∀(j:Nat) (s:Sh) (t:T),ax1[j]? =some s->r[j]? =some t->Fit s t):∃f:Fr,r=q9 f:=by
 match r,hl with
 |[a,b,c,d],_=>
  obtain ⟨n,rfl,_⟩:=(hr 0 _ _ rfl rfl).int_inv
  obtain ⟨l,rfl⟩:=aF3 (hr 1 _ _ rfl rfl)
  obtain ⟨m,rfl,_⟩:=(hr 2 _ _ rfl rfl).int_inv
  obtain ⟨k,rfl⟩:=aF3 (hr 3 _ _ rfl rfl)
  exact ⟨⟨⟨n,l⟩,⟨m,k⟩⟩,rfl⟩
theorem b2e {t:T} (h:Fit (.sl ax1) t):∃l:List Fr,t=Q8 l:=by
 obtain ⟨xs,rfl,_⟩:=h.sl_inv q9 (fun _=>True) (fun r hl hr=>by
  obtain ⟨f,rfl⟩:=aF2 hl hr
  exact ⟨f,rfl,trivial⟩)
 exact ⟨xs,rfl⟩
section
variable {H:Type} {enc:TypeId × Value->H} {w:World} {base:Nat} {spare:Nat->Bool} {held:Bool}
theorem a9y {shs:List Sh} {l:List Value} (h:aA9 w shs l):∃ts:List T,ts.length=shs.length∧(∀ (j:Nat) (s:Sh) (t:T),shs[j]? =some s->ts[j]? =some t->Fit s t)∧RS w (fun _=>none) (fun _=>False) (.agg (ts.map C.t)) (.agg ⟨l⟩):=by
 obtain ⟨h0,ts,h1,h2⟩:=h
 refine ⟨ts,h1,fun j s t hs ht=>?_,?_⟩
 ·obtain ⟨u,t',e1,e2,e3,e4⟩:=h2 j s hs
  rw [ht] at e2;injection e2 with e2;subst e2;exact e4
 ·refine .agg l (by simp [h0,h1]) fun j c hc=>?_
  rw [lba] at hc
  obtain ⟨t,ht,rfl⟩:=Option.map_eq_some_iff.1 hc
  have hj:j<shs.length:=by rw [← h1];exact (lbe.1 ht).1
  obtain ⟨u,t',e1,e2,e3,e4⟩:=h2 j _ (lbf hj)
  rw [ht] at e2;injection e2 with e2;subst e2
  rw [lbl,e1]
  exact .t e3
end
end
section
open Go.RowKit Go.ChangeShapes Go.WideShapes Go.Deep
def aJ3 (P:Program):List Field->List (List Sh)->Nat->Prop
 |[],[],_=>True
 |f::fs,p::ps,o=>(f.offset=o∧P.cellsOf f.type=p.length∧H3 P f.type p)∧aJ3 P fs ps (o+p.length)
 |_,_,_=>False
theorem aJ3.get {P:Program}:∀{fs:List Field} {ps:List (List Sh)} {o:Nat},aJ3 P fs ps o->ps.length=fs.length∧∀(i:Nat) (f:Field) (p:List Sh),fs[i]? =some f->ps[i]? =some p->f.offset=o+(ps.take i).flatten.length∧P.cellsOf f.type=p.length∧H3 P f.type p
 |[],[],o,_=>⟨rfl,by simp⟩
 |f::fs,p::ps,o,h=>by
  obtain ⟨⟨h1,h2,h3⟩,h4⟩:=h
  obtain ⟨l,g⟩:=aJ3.get h4
  refine ⟨by simp [l],fun i f' p' hf hp=>?_⟩
  cases i with
  |zero=>simp at hf hp;subst hf hp;exact ⟨by simp [h1],h2,h3⟩
  |succ i=>
   obtain ⟨g1,g2,g3⟩:=g i f' p' (by simpa using hf) (by simpa using hp)
   exact ⟨by rw [g1];simp;omega,g2,g3⟩
 |[],_::_,_,h=>h.elim
 |_::_,[],_,h=>h.elim
theorem S3 {P:Program} {t:TypeId} {fs:Array Field} (parts:List (List Sh)) (h:P.underlying t=some (.struct fs)) (hf:aJ3 P fs.toList parts 0) (hc:P.cellsOf t=parts.flatten.length):H3 P t parts.flatten:=by
 obtain ⟨l,g⟩:=hf.get
 refine H3.struct parts h (by simpa using l) (fun i f p hi hp=>?_) hc (fun i f p hi hp=>?_)
 ·obtain ⟨g1,g2,g3⟩:=g i f p (by simpa using hi) hp
  exact ⟨by rw [g1];simp,g2⟩
 ·exact (g i f p (by simpa using hi) hp).2.2
theorem b4W:H3 Tryz.prog 4 [.bool]:=.bool Tryz.underlying4
theorem b21:H3 Tryz.prog 160 [i4,i4,i4]:=
 S3 [[i4],[i4],[i4]] Tryz.underlying160 ⟨⟨by kernel_rfl,by kernel_rfl,C2⟩,⟨by kernel_rfl,by kernel_rfl,C2⟩,⟨by kernel_rfl,by kernel_rfl,C2⟩,trivial⟩ (by kernel_rfl)
theorem b3s:H3 Tryz.prog 149 [i4,i4,i4,i4,i4,.bool]:=
 S3 [[i4],[i4],[i4],[i4],[i4],[.bool]] Tryz.underlying149 ⟨⟨by kernel_rfl,by kernel_rfl,C2⟩,⟨by kernel_rfl,by kernel_rfl,C2⟩,⟨by kernel_rfl,by kernel_rfl,C2⟩,⟨by kernel_rfl,by kernel_rfl,C2⟩,⟨by kernel_rfl,by kernel_rfl,C2⟩,⟨by kernel_rfl,by kernel_rfl,b4W⟩,trivial⟩ (by kernel_rfl)
theorem b58:H3 Tryz.prog 255 [i4,i4,i4,i4,i4,i4]:=
 S3 [[i4],[i4],[i4],[i4],[i4],[i4]] Tryz.underlying255 ⟨⟨by kernel_rfl,by kernel_rfl,C2⟩,⟨by kernel_rfl,by kernel_rfl,C2⟩,⟨by kernel_rfl,by kernel_rfl,C2⟩,⟨by kernel_rfl,by kernel_rfl,C2⟩,⟨by kernel_rfl,by kernel_rfl,C2⟩,⟨by kernel_rfl,by kernel_rfl,C2⟩,trivial⟩ (by kernel_rfl)
theorem aS3:H3 Tryz.prog 266 [i4,i4,i4,i4]:=
 S3 [[i4],[i4],[i4],[i4]] Tryz.underlying266 ⟨⟨by kernel_rfl,by kernel_rfl,C2⟩,⟨by kernel_rfl,by kernel_rfl,C2⟩,⟨by kernel_rfl,by kernel_rfl,C2⟩,⟨by kernel_rfl,by kernel_rfl,C2⟩,trivial⟩ (by kernel_rfl)
theorem aH1:H3 Tryz.prog 43 [i4,i4,i4]:=
 S3 [[i4],[i4],[i4]] Tryz.underlying43 ⟨⟨by kernel_rfl,by kernel_rfl,C2⟩,⟨by kernel_rfl,by kernel_rfl,C2⟩,⟨by kernel_rfl,by kernel_rfl,C2⟩,trivial⟩ (by kernel_rfl)
theorem an8:H3 Tryz.prog 45 [i4,i4]:=
 S3 [[i4],[i4]] Tryz.underlying45 ⟨⟨by kernel_rfl,by kernel_rfl,C2⟩,⟨by kernel_rfl,by kernel_rfl,C2⟩,trivial⟩ (by kernel_rfl)
theorem aZ4:H3 Tryz.prog 22 [.sl [i4,i4,i4]]:=.sl Tryz.underlying22 (by kernel_rfl) (by decide) b21
theorem b2S:H3 Tryz.prog 23 [.sl [i4,i4,i4,i4,i4,.bool]]:=.sl Tryz.underlying23 (by kernel_rfl) (by decide) b3s
theorem b2J:H3 Tryz.prog 24 [.sl [i4,i4,i4,i4,i4,i4]]:=.sl Tryz.underlying24 (by kernel_rfl) (by decide) b58
theorem aF4:H3 Tryz.prog 25 [.sl [i4,i4]]:=.sl Tryz.underlying25 (by kernel_rfl) (by decide) aU7
theorem au9:H3 Tryz.prog 26 [.sl [i4,i4,i4,i4]]:=.sl Tryz.underlying26 (by kernel_rfl) (by decide) aS3
theorem b39:H3 Tryz.prog 29 [.sl [i4,i4,i4]]:=.sl Tryz.underlying29 (by kernel_rfl) (by decide) aH1
theorem aS9:H3 Tryz.prog 30 [.sl [i4,i4]]:=.sl Tryz.underlying30 (by kernel_rfl) (by decide) an8
abbrev b9m:List Sh:=[i4,i4,i4,.sl [i4,i4,i4],.sl [i4,i4,i4,i4,i4,.bool],.sl [i4,i4,i4,i4,i4,i4],.sl [i4,i4],.sl [i4,i4,i4,i4]]
theorem b96:H3 Tryz.prog 28 b9m:=
 S3 [[i4],[i4],[i4],[.sl [i4,i4,i4]],[.sl [i4,i4,i4,i4,i4,.bool]],[.sl [i4,i4,i4,i4,i4,i4]],[.sl [i4,i4]],[.sl [i4,i4,i4,i4]]] Tryz.underlying28
  ⟨⟨by kernel_rfl,by kernel_rfl,C2⟩,⟨by kernel_rfl,by kernel_rfl,C2⟩,⟨by kernel_rfl,by kernel_rfl,C2⟩,⟨by kernel_rfl,by kernel_rfl,aZ4⟩,⟨by kernel_rfl,by kernel_rfl,b2S⟩,⟨by kernel_rfl,by kernel_rfl,b2J⟩,⟨by kernel_rfl,by kernel_rfl,aF4⟩,⟨by kernel_rfl,by kernel_rfl,au9⟩,trivial⟩ (by kernel_rfl)
abbrev bb9:List Sh:=b9m++[.sl [i4,i4,i4],.sl [i4,i4]]
theorem b89:H3 Tryz.prog 32 bb9:=
 S3 [b9m,[.sl [i4,i4,i4]],[.sl [i4,i4]]] Tryz.underlying32
  ⟨⟨by kernel_rfl,by kernel_rfl,b96⟩,⟨by kernel_rfl,by kernel_rfl,b39⟩,⟨by kernel_rfl,by kernel_rfl,aS9⟩,trivial⟩ (by kernel_rfl)
theorem E3 {t:T} (h:Fit i4 t):∃n,t=ti n:=by obtain ⟨n,h,_⟩:=h.int_inv;exact ⟨n,h⟩
section
variable {α:Type} {t:T}
theorem aS5 (h:Fit (.sl [i4,i4,i4]) t):∃l:List a0i,t=a5m l:=by
 obtain ⟨xs,rfl,_⟩:=h.sl_inv a0i.row (fun _=>True) (fun r hl hr=>by
  match r,hl with
  |[a,b,c],_=>
   obtain ⟨a,rfl⟩:=E3 (hr 0 _ _ rfl rfl)
   obtain ⟨b,rfl⟩:=E3 (hr 1 _ _ rfl rfl)
   obtain ⟨c,rfl⟩:=E3 (hr 2 _ _ rfl rfl)
   exact ⟨⟨a,b,c⟩,rfl,trivial⟩)
 exact ⟨xs,rfl⟩
theorem b2P (h:Fit (.sl [i4,i4,i4]) t):∃l:List L1,t=ad5 l:=by
 obtain ⟨xs,rfl,_⟩:=h.sl_inv L1.row (fun _=>True) (fun r hl hr=>by
  match r,hl with
  |[a,b,c],_=>
   obtain ⟨a,rfl⟩:=E3 (hr 0 _ _ rfl rfl)
   obtain ⟨b,rfl⟩:=E3 (hr 1 _ _ rfl rfl)
   obtain ⟨c,rfl⟩:=E3 (hr 2 _ _ rfl rfl)
   exact ⟨⟨a,b,c⟩,rfl,trivial⟩)
 exact ⟨xs,rfl⟩
theorem aR7 (h:Fit (.sl [i4,i4]) t):∃l:List F2,t=a7d l:=by
 obtain ⟨xs,rfl,_⟩:=h.sl_inv F2.row (fun _=>True) (fun r hl hr=>by
  match r,hl with
  |[a,b],_=>
   obtain ⟨a,rfl⟩:=E3 (hr 0 _ _ rfl rfl)
   obtain ⟨b,rfl⟩:=E3 (hr 1 _ _ rfl rfl)
   exact ⟨⟨a,b⟩,rfl,trivial⟩)
 exact ⟨xs,rfl⟩
theorem aL7 (h:Fit (.sl [i4,i4]) t):∃l:List J3,t=T3 l:=by
 obtain ⟨xs,rfl,_⟩:=h.sl_inv J3.row (fun _=>True) (fun r hl hr=>by
  match r,hl with
  |[a,b],_=>
   obtain ⟨a,rfl⟩:=E3 (hr 0 _ _ rfl rfl)
   obtain ⟨b,rfl⟩:=E3 (hr 1 _ _ rfl rfl)
   exact ⟨⟨a,b⟩,rfl,trivial⟩)
 exact ⟨xs,rfl⟩
theorem aC2 (h:Fit (.sl [i4,i4,i4,i4]) t):∃l:List a2x,t=a1s l:=by
 obtain ⟨xs,rfl,_⟩:=h.sl_inv a2x.row (fun _=>True) (fun r hl hr=>by
  match r,hl with
  |[a,b,c,d],_=>
   obtain ⟨a,rfl⟩:=E3 (hr 0 _ _ rfl rfl)
   obtain ⟨b,rfl⟩:=E3 (hr 1 _ _ rfl rfl)
   obtain ⟨c,rfl⟩:=E3 (hr 2 _ _ rfl rfl)
   obtain ⟨d,rfl⟩:=E3 (hr 3 _ _ rfl rfl)
   exact ⟨⟨a,b,c,d⟩,rfl,trivial⟩)
 exact ⟨xs,rfl⟩
theorem b2I (h:Fit (.sl [i4,i4,i4,i4,i4,i4]) t):∃l:List P2,t=a2m l:=by
 obtain ⟨xs,rfl,_⟩:=h.sl_inv P2.row (fun _=>True) (fun r hl hr=>by
  match r,hl with
  |[a,b,c,d,e,f],_=>
   obtain ⟨a,rfl⟩:=E3 (hr 0 _ _ rfl rfl)
   obtain ⟨b,rfl⟩:=E3 (hr 1 _ _ rfl rfl)
   obtain ⟨c,rfl⟩:=E3 (hr 2 _ _ rfl rfl)
   obtain ⟨d,rfl⟩:=E3 (hr 3 _ _ rfl rfl)
   obtain ⟨e,rfl⟩:=E3 (hr 4 _ _ rfl rfl)
   obtain ⟨f,rfl⟩:=E3 (hr 5 _ _ rfl rfl)
   exact ⟨⟨a,b,c,d,e,f⟩,rfl,trivial⟩)
 exact ⟨xs,rfl⟩
theorem b2F (h:Fit (.sl [i4,i4,i4,i4,i4,.bool]) t):∃l:List v7,t=a3q l:=by
 obtain ⟨xs,rfl,_⟩:=h.sl_inv v7.row (fun _=>True) (fun r hl hr=>by
  match r,hl with
  |[a,b,c,d,e,f],_=>
   obtain ⟨a,rfl⟩:=E3 (hr 0 _ _ rfl rfl)
   obtain ⟨b,rfl⟩:=E3 (hr 1 _ _ rfl rfl)
   obtain ⟨c,rfl⟩:=E3 (hr 2 _ _ rfl rfl)
   obtain ⟨d,rfl⟩:=E3 (hr 3 _ _ rfl rfl)
   obtain ⟨e,rfl⟩:=E3 (hr 4 _ _ rfl rfl)
   obtain ⟨f,rfl⟩:=(hr 5 _ _ rfl rfl).bool_inv
   exact ⟨⟨a,b,c,d,e,f⟩,rfl,trivial⟩)
 exact ⟨xs,rfl⟩
end
section
variable {H:Type} {enc:TypeId × Value->H} {w:World} {base:Nat} {spare:Nat->Bool} {held:Bool}
theorem open_fracs {v:Value} {d:DataW H} {p:List MemPlace} {r:Reach} {b0:Nat} (hv:Value.okWide Tryz.prog w r b0 49 v) (h:DataW.Trod enc Tryz.prog w base spare held 49 v d p):∃l,RS w (fun _=>none) (fun _=>False) (F3 l) v:=by
 obtain ⟨a,len,cap,rfl⟩:=okWide_slice Tryz.underlying49 hv
 obtain ⟨fuel,hf⟩:=h
 obtain ⟨_,ts,h1,h2⟩:=a9e b2v fuel _ _ hf
 obtain ⟨u,t,e1,e2,e3,e4⟩:=h2 0 _ rfl
 obtain ⟨hh,rfl⟩:=b2e e4
 injection e1 with e1
 subst e1
 exact ⟨hh,.c (.t e3)⟩
theorem open_find {v:Value} {d:DataW H} {p:List MemPlace} {r:Reach} {b0:Nat} (hv:Value.okWide Tryz.prog w r b0 43 v) (h:DataW.Trod enc Tryz.prog w base spare held 43 v d p):∃x:L1,RS w (fun _=>none) (fun _=>False) (.agg (x.row.map .t)) v:=by
 obtain ⟨⟨l⟩,rfl,_⟩:=okWide_struct Tryz.underlying43 hv
 obtain ⟨fuel,hf⟩:=h
 obtain ⟨ts,h1,h2,h3⟩:=a9y (a9e aH1 fuel _ _ hf)
 match ts,h1 with
 |[a,b,c],_=>
  obtain ⟨a,rfl⟩:=E3 (h2 0 _ _ rfl rfl)
  obtain ⟨b,rfl⟩:=E3 (h2 1 _ _ rfl rfl)
  obtain ⟨c,rfl⟩:=E3 (h2 2 _ _ rfl rfl)
  exact ⟨⟨a,b,c⟩,h3⟩
theorem open_clean {v:Value} {d:DataW H} {p:List MemPlace} {r:Reach} {b0:Nat} (hv:Value.okWide Tryz.prog w r b0 45 v) (h:DataW.Trod enc Tryz.prog w base spare held 45 v d p):∃x:F2,RS w (fun _=>none) (fun _=>False) (.agg (x.row.map .t)) v:=by
 obtain ⟨⟨l⟩,rfl,_⟩:=okWide_struct Tryz.underlying45 hv
 obtain ⟨fuel,hf⟩:=h
 obtain ⟨ts,h1,h2,h3⟩:=a9y (a9e an8 fuel _ _ hf)
 match ts,h1 with
 |[a,b],_=>
  obtain ⟨a,rfl⟩:=E3 (h2 0 _ _ rfl rfl)
  obtain ⟨b,rfl⟩:=E3 (h2 1 _ _ rfl rfl)
  exact ⟨⟨a,b⟩,h3⟩
theorem open_trace {v:Value} {d:DataW H} {p:List MemPlace} {r:Reach} {b0:Nat} (hv:Value.okWide Tryz.prog w r b0 32 v) (h:DataW.Trod enc Tryz.prog w base spare held 32 v d p):∃t:g7,RS w (fun _=>none) (fun _=>False) (trS t) v:=by
 obtain ⟨⟨l⟩,rfl,_⟩:=okWide_struct Tryz.underlying32 hv
 obtain ⟨fuel,hf⟩:=h
 obtain ⟨ts,h1,h2,h3⟩:=a9y (a9e b89 fuel _ _ hf)
 match ts,h1 with
 |[a,b,c,d,e,f,g,h,i,j],_=>
  obtain ⟨a,rfl⟩:=E3 (h2 0 _ _ rfl rfl)
  obtain ⟨b,rfl⟩:=E3 (h2 1 _ _ rfl rfl)
  obtain ⟨c,rfl⟩:=E3 (h2 2 _ _ rfl rfl)
  obtain ⟨d,rfl⟩:=aS5 (h2 3 _ _ rfl rfl)
  obtain ⟨e,rfl⟩:=b2F (h2 4 _ _ rfl rfl)
  obtain ⟨f,rfl⟩:=b2I (h2 5 _ _ rfl rfl)
  obtain ⟨g,rfl⟩:=aL7 (h2 6 _ _ rfl rfl)
  obtain ⟨h,rfl⟩:=aC2 (h2 7 _ _ rfl rfl)
  obtain ⟨i,rfl⟩:=b2P (h2 8 _ _ rfl rfl)
  obtain ⟨j,rfl⟩:=aR7 (h2 9 _ _ rfl rfl)
  exact ⟨⟨⟨a,b,c,d,e,f,g,h⟩,i,j⟩,h3⟩
end
end
open Go.RowKit Go.ChangeShapes Go.WideShapes Go.ChangeAt
set_option maxRecDepth 100000 in
theorem a4c (os:Os) (started:os.Started) (H:Type) (enc:TypeId × Value->H):
 ReturnsInHanded {} Tryz.checked os 5 .any (Rows.explainFewestSpec.pre6 enc Tryz.prog Tryz.f5 Rows.explainFewestRow.domain false) (Rows.explainFewestSpec.post enc Tryz.prog Tryz.f5 false true false false):=by
 refine returnsInHanded_of_change (C:=Tryz.checked) aB4 started (by kernel_rfl) Tryz.func5
  (ChangeSpec.witness6 (enc:=enc) (C:=Tryz.checked) false ⟨#[],#[.agg #[.int .i64 0,.int .i64 0,.int .i64 0,.slice none 0 0,.slice none 0 0,.slice none 0 0,.slice none 0 0,.slice none 0 0,.slice none 0 0,.slice none 0 0],.int .i64 0],[]⟩ 12 (by kernel_rfl) (by kernel_rfl) (by kernel_rfl) (by kernel_rfl)) ?_
 intro W base args ds gs before hval0 hW hcnd _
 have hval:∀(j:Nat) t v,Tryz.f5.params[j]? =some t->args[j]? =some v->Value.okWide Tryz.prog W .any base t v:=hval0
 have hW':=hW
 obtain ⟨p,q,hA0,hV,rfl,hfz,hnd⟩:=hW
 have hA:DataW.TrodAll enc Tryz.prog W 0 (fun _=>true) true Tryz.f5.params.toList args.toList ds p:=hA0
 rw [Tryz.params5] at hA hval
 obtain ⟨v0,vs0,d0,ds0,p0,q0,hargs,rfl,rfl,h0,r0⟩:=trodAll_cons hA
 obtain ⟨v1,vs1,d1,ds1,p1,q1,rfl,rfl,rfl,h1,r1⟩:=trodAll_cons r0
 obtain ⟨rfl,rfl,rfl⟩:=trodAll_nil r1
 obtain rfl:args=#[v0,v1]:=by cases args;simp_all
 obtain ⟨rfl,rfl⟩:=trodVars_none hV
 obtain ⟨a0,t0⟩:=Go.Proofs.YtikokmdpigploaaGreat.open_trace (hval 0 32 v0 rfl rfl) h0
 obtain ⟨a1,rfl,rfl,rfl,w1⟩:=open_int Tryz.underlying3 (hval 1 3 v1 rfl rfl) h1
 refine (a3o (a8Y a0 a1) (.cons (t0) (.cons (av9) (.nil)))).mono fun ee W' ⟨he,hg⟩=>?_
 subst he
 exact ⟨_,rfl,af6 hW' a9G (by rw [Tryz.params5];intro t ht;simp at ht;first|(rcases ht with rfl|rfl<;>exact ⟨by kernel_rfl,lbM (by kernel_rfl)⟩)|(rcases ht with rfl|rfl<;>exact ⟨by kernel_rfl,lbM (by kernel_rfl)⟩)) rfl rfl (by kernel_rfl) Tryz.underlying4 hg⟩
theorem a5t:(Rows.explainFewestRow.inPlace == Tryz.pinned.checked.prog.inPlace 5)=true:=by kernel_rfl
theorem a7v:(Rows.explainFewestRow.unfollowed == Tryz.pinned.checked.prog.unfollowed 5)=true:=by kernel_rfl
theorem a7c:(Rows.explainFewestRow.recurses == Tryz.pinned.checked.prog.recurses 5)=true:=by kernel_rfl
theorem a5p:(Rows.explainFewestRow.named == Tryz.pinned.checked.prog.varsNamed 5)=true:=by kernel_rfl
theorem a5o:(Rows.explainFewestRow.loops == (Tryz.f5.params.toList++Rows.explainFewestSpec.plain.varTypes Tryz.pinned.checked.prog).any (Tryz.pinned.checked.prog.loopsFrom ·))=true:=by kernel_rfl
set_option maxRecDepth 100000 in
theorem a4g:joinedFacts Tryz.pinned.checked.prog 5 Tryz.f5 (Rows.explainFewestSpec) Rows.explainFewestRow=true:=a8n (by kernel_rfl) aC9 au7 (by kernel_rfl) (by kernel_rfl) (by kernel_rfl) (by kernel_rfl) (by kernel_rfl) (by kernel_rfl) a5t a7v a7c a5p (by kernel_rfl) (by kernel_rfl) (by kernel_rfl) a5o (by kernel_rfl) (by kernel_rfl) (by kernel_rfl) (by kernel_rfl) (by kernel_rfl) aD0 (by kernel_rfl) ab7 ad7 az3 ax4 (by kernel_rfl) (by kernel_rfl) (by kernel_rfl) (by kernel_rfl) (by kernel_rfl)
theorem explainFewest_holds:Rows.ExplainFewestSaid:=
 OpenClaim.holds_of_wide 5 Tryz.f5 rfl rfl rfl rfl rfl rfl rfl ⟨rfl,rfl,rfl,rfl,rfl⟩ rfl rfl rfl rfl rfl (by kernel_rfl) Tryz.func5 a4g
  (lbM (by kernel_rfl)) (by unfold Func.isWrapper;first|(rw [if_pos (by decide +kernel)];kernel_rfl)|(rw [if_neg (by decide +kernel)];exact ⟨rfl,rfl⟩))
  (fun os started H enc _=>a4c os started H enc)
end Go.Proofs.YtikokmdpigploaaGreat
