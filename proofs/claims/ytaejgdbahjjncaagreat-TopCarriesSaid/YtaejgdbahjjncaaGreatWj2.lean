/- Part 2. -/
import Derived.Test.YtaejgdbahjjncaaGreatWj1
namespace Go.Proofs.YtaejgdbahjjncaaGreat
set_option linter.unusedVariables false
set_option linter.unusedSimpArgs false
section
structure j6 where
 terms:List (Int × Rat)
 kind:Int
 value:Rat
structure f7 where
 n:Int
 rows:List j6
def j0 (l:List (Int × Rat)) (z:List Rat):Rat:=l.foldl (fun a t=>a+t.2*z.getD t.1.toNat 0) ((0:Int):Rat)
theorem L8 (l:List (Int × Rat)) (t:Int × Rat) (z:List Rat):j0 (l++[t]) z=j0 l z+t.2*z.getD t.1.toNat 0:=by unfold j0;rw [List.foldl_append];rfl
def d6:Int->Int->List (Int × Rat)->Bool
 |_,_,[]=>true
 |last,n,t::r=>decide (last<t.1) && decide (t.1<n) && decide (t.2≠0) && d6 t.1 n r
def p5 (n:Int) (w:j6):Bool:=d6 (-1) n w.terms && decide (0<=w.kind) && decide (w.kind<3)
def i7 (s:f7):Bool:=decide (0<=s.n) && decide (s.n<=1500) && decide (s.rows.length<=6000) && s.rows.all (p5 s.n)
def N2 (w:j6) (z:List Rat):Bool:=!((decide (j0 w.terms z<w.value) && decide (w.kind≠1)) || (decide (w.value<j0 w.terms z) && decide (w.kind≠0)))
def g6 (s:f7) (z:List Rat):Bool:=i7 s && decide ((z.length:Int)=s.n) && z.all (fun v=>decide (0<=v)) && s.rows.all (fun w=>N2 w z)
def O7 (e:Ev) (p:Int):Nat->List (Int × Rat)
 |0=>[]
 |k+1=>match e.moves[k]? with
  |none=>O7 e p k
  |some y=>if y.dst=p then O7 e p k++[((k:Int),((1:Int):Rat))] else if y.src=p then O7 e p k++[((k:Int),((-1:Int):Rat))] else O7 e p k
def Z0 (e:Ev) (i:Nat) (x:j5):j6:=⟨O7 e x.src i++[((i:Int),((-1:Int):Rat))],if x.all then 2 else 0,((0:Int):Rat)⟩
def Y2 (i:Nat) (kind:Int) (v:Rat):j6:=⟨[((i:Int),((1:Int):Rat))],kind,v⟩
def a4y (iv:Option (Rat × Rat)) (i:Nat):List j6:=match iv with
 |none=>[]
 |some (_,hi)=>[Y2 i 1 hi]
def a0C (t:P1) (kind:Int) (i:Nat) (x:j5):List j6:=
 (if F4 t.ev x.src=0 then [] else [Z0 t.ev i x])++a4y (a3u t.ev x) i++(a4u t.finds kind i).map (fun g:Int=>Y2 i 0 (g:Rat))++List.replicate (a3M t.cleans kind i) (Y2 i 2 ((0:Int):Rat))
def a0m (t:P1) (kind:Int):Nat->List j6
 |0=>[]
 |k+1=>match t.ev.moves[k]? with
  |none=>a0m t kind k
  |some x=>a0m t kind k++a0C t kind k x
def a8k (t:P1) (kind:Int):f7:=⟨t.ev.moves.length,a0m t kind t.ev.moves.length⟩
theorem a9O {e:Ev} (h0:p7 e=0) (z:List Rat) (p:Nat):∀k,j0 (O7 e p k) z=a36 e z k p
 |0=>rfl
 |k+1=>by
  have ih:=a9O h0 z p k
  unfold O7
  cases hx:e.moves[k]? with
  |none=>rw [b4s hx];exact ih
  |some y=>
   have hm:=a07 h0 (lbm hx)
   have hne:y.src≠y.dst:=by unfold X7 at hm;simp only [lbM,lbI] at hm;exact hm.1.1.1.1.1.2
   rw [b1x hx]
   simp only
   by_cases c1:y.dst=(p:Int)
   ·rw [if_pos c1,if_neg (by omega),if_pos c1,L8,ih]
    simp only [lbX]
    have:((1:Int):Rat)=1:=rfl
    rw [this];grind
   ·rw [if_neg c1]
    by_cases c2:y.src=(p:Int)
    ·rw [if_pos c2,if_pos c2,L8,ih]
     simp only [lbX]
     have:((-1:Int):Rat)=-1:=rfl
     rw [this];grind
    ·rw [if_neg c2,if_neg c2,if_neg c1];exact ih
theorem a16 {w:j6} {z:List Rat}:N2 w z=true↔(j0 w.terms z<w.value->w.kind=1)∧(w.value<j0 w.terms z->w.kind=0):=by
 unfold N2
 simp only [a7D,a23,lbO,lbK,Classical.not_not]
 constructor
 ·rintro ⟨h1,h2⟩
  exact ⟨fun h=>h1.resolve_left (fun h'=>h' h),fun h=>h2.resolve_left (fun h'=>h' h)⟩
 ·rintro ⟨h1,h2⟩
  refine ⟨?_,?_⟩
  ·by_cases h:j0 w.terms z<w.value
   ·exact .inr (h1 h)
   ·exact .inl h
  ·by_cases h:w.value<j0 w.terms z
   ·exact .inr (h2 h)
   ·exact .inl h
theorem az5 (i:Nat) (kind:Int) (v:Rat) (z:List Rat):j0 (Y2 i kind v).terms z=z.getD i 0:=by
 show ((0:Int):Rat)+((1:Int):Rat)*z.getD ((i:Int)).toNat 0=_
 rw [lbX]
 have h0:((0:Int):Rat)=0:=rfl
 have h1:((1:Int):Rat)=1:=rfl
 rw [h0,h1];grind
theorem b2H {i:Nat} {v:Rat} {z:List Rat}:N2 (Y2 i 1 v) z=true↔z.getD i 0<=v:=by
 rw [a16,az5]
 show (_->(1:Int)=1)∧(v<z.getD i 0->(1:Int)=0)↔_
 constructor
 ·rintro ⟨_,h⟩;exact lb2.1 fun h'=>absurd (h h') (by decide)
 ·intro h;exact ⟨fun _=>rfl,fun h'=>absurd h' (lb2.2 h)⟩
theorem ap8 {i:Nat} {v:Rat} {z:List Rat}:N2 (Y2 i 0 v) z=true↔v<=z.getD i 0:=by
 rw [a16,az5]
 show (z.getD i 0<v->(0:Int)=1)∧(_->(0:Int)=0)↔_
 constructor
 ·rintro ⟨h,_⟩;exact lb2.1 fun h'=>absurd (h h') (by decide)
 ·intro h;exact ⟨fun h'=>absurd h' (lb2.2 h),fun _=>rfl⟩
theorem a4r {i:Nat} {v:Rat} {z:List Rat}:N2 (Y2 i 2 v) z=true↔z.getD i 0=v:=by
 rw [a16,az5]
 show (z.getD i 0<v->(2:Int)=1)∧(v<z.getD i 0->(2:Int)=0)↔_
 constructor
 ·rintro ⟨h,h2⟩
  have q1:¬z.getD i 0<v:=fun h'=>absurd (h h') (by decide)
  have q2:¬v<z.getD i 0:=fun h'=>absurd (h2 h') (by decide)
  grind
 ·intro h;exact ⟨fun h'=>by grind,fun h'=>by grind⟩
theorem stock_holds {e:Ev} (h0:p7 e=0) {i:Nat} {x:j5} (hx:e.moves[i]? =some x) {z:List Rat}:N2 (Z0 e i x) z=true↔z.getD i 0<=a36 e z i x.src.toNat∧(x.all=true->z.getD i 0=a36 e z i x.src.toNat):=by
 have hm:=a07 h0 (lbm hx)
 have ms:=a9u hm
 have hv:j0 (Z0 e i x).terms z=a36 e z i x.src.toNat - z.getD i 0:=by
  unfold Z0
  simp only
  rw [L8,show O7 e x.src i=O7 e ((x.src.toNat:Nat):Int) i by rw [show ((x.src.toNat:Nat):Int)=x.src by omega],a9O h0]
  simp only [lbX]
  have:((-1:Int):Rat)=-1:=rfl
  rw [this];grind
 have hz:(Z0 e i x).value=0:=rfl
 have hk:(Z0 e i x).kind=if x.all then 2 else 0:=rfl
 rw [a16,hv,hz,hk]
 cases hal:x.all with
 |true=>
  simp only [if_true]
  constructor
  ·rintro ⟨h,h2⟩
   have q1:¬a36 e z i x.src.toNat - z.getD i 0<0:=fun h'=>absurd (h h') (by decide)
   have q2:¬0<a36 e z i x.src.toNat - z.getD i 0:=fun h'=>absurd (h2 h') (by decide)
   exact ⟨by grind,fun _=>by grind⟩
  ·rintro ⟨h,h2⟩
   have h2:=h2 trivial
   exact ⟨fun h'=>by grind,fun h'=>by grind⟩
 |false=>
  simp only [a5R,if_false]
  constructor
  ·rintro ⟨h,h2⟩
   have q1:¬a36 e z i x.src.toNat - z.getD i 0<0:=fun h'=>absurd (h h') (by decide)
   exact ⟨by grind,fun h=>(by cases h)⟩
  ·rintro ⟨h,_⟩
   exact ⟨fun h'=>by grind,fun _=>trivial⟩
theorem move_holds {t:P1} {kind:Int} (h0:p7 t.ev=0) {i:Nat} {x:j5} (hx:t.ev.moves[i]? =some x) {z:List Rat} (hz:0<=z.getD i 0):
 (a0C t kind i x).all (fun w=>N2 w z)=true↔b9n t.ev x (z.getD i 0) (a36 t.ev z i x.src.toNat)∧b5n t kind i x (z.getD i 0):=by
 have hmo:=a07 h0 (lbm hx)
 unfold a0C
 simp only [a3a,lbM,List.all_map]
 have e1:(if F4 t.ev x.src=0 then ([]:List j6) else [Z0 t.ev i x]).all (fun w=>N2 w z)=true↔(F4 t.ev x.src≠0->z.getD i 0<=a36 t.ev z i x.src.toNat∧(x.all=true->z.getD i 0=a36 t.ev z i x.src.toNat)):=by
  by_cases hb:F4 t.ev x.src=0
  ·rw [if_pos hb];exact ⟨fun _ h=>absurd hb h,fun _=>rfl⟩
  ·rw [if_neg hb]
   simp only [List.all_cons,List.all_nil,a7M]
   rw [stock_holds h0 hx]
   exact ⟨fun h _=>h,fun h=>h hb⟩
 have e2:(a4y (a3u t.ev x) i).all (fun w=>N2 w z)=true↔b8B (a3u t.ev x) (z.getD i 0)=true:=by
  cases hiv:a3u t.ev x with
  |none=>exact ⟨fun _=>rfl,fun _=>rfl⟩
  |some p=>
   obtain ⟨lo,hi⟩:=p
   simp only [a4y,b8B,List.all_cons,List.all_nil,a7M,lbI]
   exact b2H
 have e3:(a4u t.finds kind i).all ((fun w=>N2 w z) ∘ fun g:Int=>Y2 i 0 (g:Rat))=true↔∀g ∈ a4u t.finds kind i,(g:Rat)<=z.getD i 0:=by
  rw [lbv]
  exact ⟨fun h g hg=>ap8.1 (h g hg),fun h g hg=>ap8.2 (h g hg)⟩
 have e4:(List.replicate (a3M t.cleans kind i) (Y2 i 2 ((0:Int):Rat))).all (fun w=>N2 w z)=true↔(0<a3M t.cleans kind i->z.getD i 0=0):=by
  rw [lbv]
  constructor
  ·intro h hc;exact a4r.1 (h _ (a8g.2 ⟨by omega,rfl⟩))
  ·intro h w hw
   obtain ⟨h1,rfl⟩:=a8g.1 hw
   exact a4r.2 (h (by omega))
 rw [e1,e2,e3,e4]
 constructor
 ·rintro ⟨⟨⟨q1,q2⟩,q3⟩,q4⟩
  exact ⟨⟨hz,fun h=>(q1 h).1,fun h=>(q1 (aS9 hmo h)).2 h⟩,⟨q2,q3,q4⟩⟩
 ·rintro ⟨p1,p2⟩
  exact ⟨⟨⟨fun h=>⟨p1.most h,p1.all⟩,p2.cap⟩,p2.fin⟩,p2.cln⟩
theorem a1U {t:P1} {kind:Int} {q:j6->Bool}:∀n,n<=t.ev.moves.length->((a0m t kind n).all q=true↔∀i x,i<n->t.ev.moves[i]? =some x->(a0C t kind i x).all q=true)
 |0,_=>⟨fun _ i x h=>by omega,fun _=>rfl⟩
 |n+1,h=>by
  obtain ⟨y,hy⟩:∃y,t.ev.moves[n]? =some y:=⟨_,lbf (by omega)⟩
  unfold a0m
  rw [hy]
  simp only [a3a,lbM]
  rw [a1U n (by omega)]
  constructor
  ·rintro ⟨h1,h2⟩ i x hi hx
   rcases K4 i n with h3|h3
   ·exact h1 i x h3 hx
   ·obtain rfl:i=n:=by omega
    rw [hy] at hx;injection hx with hx;subst hx;exact h2
  ·intro h1
   exact ⟨fun i x hi hx=>h1 i x (by omega) hx,h1 n y (by omega) hy⟩
theorem a5J {last n i:Int} {c:Rat} (h1:last<i) (h2:i<n) (h3:c≠0):d6 last n [(i,c)]=true:=by
 unfold d6
 simp [h1,h2,h3,d6]
theorem W8 {n:Int} {c:Rat} {i:Int} (h2:i<n) (h3:c≠0):∀{l:List (Int × Rat)} {last:Int},d6 last n l=true->last<i->(∀ t ∈ l,t.1<i)->d6 last n (l++[(i,c)])=true
 |[],last,_,h,_=>a5J h h2 h3
 |t::r,last,h,h1,ht=>by
  unfold d6 at h
  simp only [lbM,lbI] at h
  show d6 last n (t::(r++[(i,c)]))=true
  unfold d6
  simp only [lbM,lbI]
  exact ⟨h.1,W8 h2 h3 h.2 (ht t (by simp)) fun u hu=>ht u (by simp [hu])⟩
theorem a3i:((1:Int):Rat)≠0:=by decide
theorem a3V:((-1:Int):Rat)≠0:=by decide
theorem a5g {e:Ev} {p:Int} {n:Int}:∀k:Nat,(k:Int)<=n->d6 (-1) n (O7 e p k)=true∧∀t ∈ O7 e p k,t.1<(k:Int)
 |0,_=>⟨rfl,fun t ht=>by cases ht⟩
 |k+1,h=>by
  obtain ⟨h1,h2⟩:=a5g (e:=e) (p:=p) (n:=n) k (by omega)
  have h3:∀c:Rat,c≠0->d6 (-1) n (O7 e p k++[((k:Int),c)])=true∧∀t ∈ O7 e p k++[((k:Int),c)],t.1<((k+1:Nat):Int):=fun c hc=>
   ⟨W8 (by omega) hc h1 (by omega) h2,fun t ht=>by
     rcases lbz.1 ht with ht|ht
     ·have:=h2 t ht;omega
     ·simp at ht;subst ht;simp;omega⟩
  unfold O7
  cases hx:e.moves[k]? with
  |none=>exact ⟨h1,fun t ht=>by have:=h2 t ht;omega⟩
  |some y=>
   simp only
   split
   ·exact h3 _ a3i
   ·split
    ·exact h3 _ a3V
    ·exact ⟨h1,fun t ht=>by have:=h2 t ht;omega⟩
theorem aQ2 {t:P1} {kind:Int} {i:Nat} {x:j5} {n:Int} (hi:(i:Int)<n):(a0C t kind i x).all (p5 n)=true:=by
 have ho:∀(k:Int) (v:Rat),0<=k->k<3->p5 n (Y2 i k v)=true:=fun k v h1 h2=>by
  unfold p5 Y2
  simp only [lbM,lbI]
  exact ⟨⟨a5J (by omega) hi a3i,h1⟩,h2⟩
 unfold a0C
 simp only [a3a,lbM,lbv]
 refine ⟨⟨⟨fun w hw=>?_,fun w hw=>?_⟩,fun w hw=>?_⟩,fun w hw=>?_⟩
 ·by_cases hb:F4 t.ev x.src=0
  ·rw [if_pos hb] at hw;cases hw
  ·rw [if_neg hb] at hw
   simp at hw
   subst hw
   obtain ⟨h1,h2⟩:=a5g (e:=t.ev) (p:=x.src) (n:=n) i (by omega)
   unfold p5 Z0
   simp only [lbM,lbI]
   refine ⟨⟨W8 hi a3V h1 (by omega) h2,?_⟩,?_⟩<;>split<;>decide
 ·cases hiv:a3u t.ev x with
  |none=>rw [hiv] at hw;cases hw
  |some p=>
   obtain ⟨lo,hi⟩:=p
   rw [hiv] at hw
   simp [a4y] at hw
   subst hw
   exact ho 1 hi (by decide) (by decide)
 ·obtain ⟨g,_,rfl⟩:=lbx.1 hw
  exact ho 0 _ (by decide) (by decide)
 ·obtain ⟨_,rfl⟩:=a8g.1 hw
  exact ho 2 _ (by decide) (by decide)
theorem aA2 {t:P1} {kind:Int} {i:Nat} {x:j5}:(a0C t kind i x).length<=2+t.finds.length+t.cleans.length:=by
 unfold a0C
 have h1:(a4y (a3u t.ev x) i).length<=1:=by unfold a4y;split<;>simp
 have h2:(a4u t.finds kind i).length<=t.finds.length:=by unfold a4u;rw [lbr];exact lbt _ _
 have h3:a3M t.cleans kind i<=t.cleans.length:=lbt _ _
 have h4:(if F4 t.ev x.src=0 then ([]:List j6) else [Z0 t.ev i x]).length<=1:=by split<;>simp
 simp only [lbq,lbr,aP0]
 omega
theorem a4b {t:P1} {kind:Int}:∀n,(a0m t kind n).length<=n*(2+t.finds.length+t.cleans.length)
 |0=>by simp [a0m]
 |n+1=>by
  have ih:=a4b (t:=t) (kind:=kind) n
  unfold a0m
  rw [lbU]
  cases hx:t.ev.moves[n]? with
  |none=>simp only;omega
  |some x=>
   have:=aA2 (t:=t) (kind:=kind) (i:=n) (x:=x)
   simp only [lbq]
   omega
theorem a7s {t:P1} {kind:Int} (hm:t.ev.moves.length<=14) (hf:t.finds.length<=20) (hc:t.cleans.length<=50):i7 (a8k t kind)=true:=by
 unfold i7 a8k
 have h1:=a4b (t:=t) (kind:=kind) t.ev.moves.length
 have h2:t.ev.moves.length*(2+t.finds.length+t.cleans.length)<=14*72:=lbS hm (by omega)
 simp only [lbM,lbI]
 refine ⟨⟨⟨by omega,by omega⟩,by omega⟩,?_⟩
 rw [a1U _ (lbQ _)]
 intro i x hi hx
 exact aQ2 (by omega)
theorem sys_holds {t:P1} {kind:Int} {z:List Rat} (ht:a3d t=0) (k0:0<=kind) (k1:kind<8) (hm:t.ev.moves.length<=14):g6 (a8k t kind) z=true↔b9w t kind z:=by
 obtain ⟨q1,q2,q3,q4,q5⟩:=a49 ht
 unfold g6
 rw [a7s hm q2 q3]
 simp only [N9,lbM,lbI]
 constructor
 ·rintro ⟨⟨h1,h2⟩,h3⟩
  have hl:z.length=t.ev.moves.length:=by have:(z.length:Int)=t.ev.moves.length:=h1;omega
  refine ⟨ht,k0,k1,hl,fun i x hx=>?_⟩
  have hi:i<t.ev.moves.length:=(lbe.1 hx).1
  have hz:0<=z.getD i 0:=lbL (lbv.1 h2 _ (lbm (getD_some (by omega))))
  exact (move_holds q1 hx hz).1 ((a1U _ (lbQ _)).1 h3 i x hi hx)
 ·intro h
  refine ⟨⟨?_,?_⟩,?_⟩
  ·show (z.length:Int)=t.ev.moves.length
   rw [h.len]
  ·rw [lbv]
   intro v hv
   obtain ⟨i,hi,rfl⟩:=Y0 hv
   obtain ⟨x,hx⟩:∃x,t.ev.moves[i]? =some x:=⟨_,lbf (by rw [← h.len];exact hi)⟩
   have:=(h.step i x hx).1.pos
   rw [lbl,lbf hi] at this
   exact lbH this
  ·show (a0m t kind t.ev.moves.length).all _=true
   rw [a1U _ (lbQ _)]
   intro i x hi hx
   obtain ⟨a,b⟩:=h.step i x hx
   exact (move_holds q1 hx a.pos).2 ⟨a,b⟩
end
section
def K2 (l:List (Int × Rat)):Nat->Nat->Rat
 |0=>fun _=>0
 |k+1=>match l[k]? with
  |none=>K2 l k
  |some t=>fun j=>if j=t.1.toNat then t.2 else K2 l k j
def B7 (l:List (Int × Rat)):Nat->Rat:=K2 l l.length
theorem I9 {l:List (Int × Rat)} {k:Nat} {t:Int × Rat} (h:l[k]? =some t):K2 l (k+1)=fun j=>if j=t.1.toNat then t.2 else K2 l k j:=by rw [K2,h]
theorem a0g {l:List (Int × Rat)} {v:Nat}:∀k,(∀ i t,i<k->l[i]? =some t->t.1.toNat≠v)->K2 l k v=0
 |0,_=>rfl
 |k+1,h=>by
  have ih:=a0g (l:=l) (v:=v) k fun i t hi ht=>h i t (by omega) ht
  cases hk:l[k]? with
  |none=>rw [K2,hk];exact ih
  |some t=>
   rw [I9 hk]
   simp only
   rw [if_neg (fun e=>h k t (by omega) hk e.symm),ih]
theorem n9:∀{last n:Int} {l:List (Int × Rat)},d6 last n l=true->∀t ∈ l,last<t.1∧t.1<n∧t.2≠0
 |_,_,[],_,t,ht=>by cases ht
 |last,n,a::r,h,t,ht=>by
  unfold d6 at h
  simp only [lbM,lbI] at h
  rcases lbA.1 ht with rfl|ht
  ·exact ⟨h.1.1.1,h.1.1.2,h.1.2⟩
  ·have:=n9 h.2 t ht
   exact ⟨by omega,this.2⟩
theorem a1D:∀{last n:Int} {l:List (Int × Rat)},d6 last n l=true->∀(i j:Nat) (t u:Int × Rat),i<j->l[i]? =some t->l[j]? =some u->t.1<u.1
 |_,_,[],_,i,j,t,u,_,ht,_=>by simp at ht
 |last,n,a::r,h,i,j,t,u,hij,ht,hu=>by
  unfold d6 at h
  simp only [lbM,lbI] at h
  cases j with
  |zero=>omega
  |succ j=>
   simp only [List.getElem?_cons_succ] at hu
   cases i with
   |zero=>
    simp only [List.getElem?_cons_zero] at ht
    injection ht with ht;subst ht
    exact (n9 h.2 u (lbm hu)).1
   |succ i=>
    simp only [List.getElem?_cons_succ] at ht
    exact a1D h.2 i j t u (by omega) ht hu
theorem aR9 {α:Type} {l:List α} {k:Nat} {x:α} (h:l[k]? =some x):l.take (k+1)=l.take k++[x]:=by rw [lbG,h];rfl
theorem aK7 {n:Nat} {l:List (Int × Rat)} (h:d6 (-1) (n:Int) l=true) (z:List Rat):∀k,k<=l.length->j0 (l.take k) z=i6 (fun j=>K2 l k j*z.getD j 0) n
 |0,_=>by
  rw [a7g,p6 fun j hj=>by show (0:Rat)*_=0;grind]
  rfl
 |k+1,hk=>by
  have ih:=aK7 h z k (by omega)
  obtain ⟨t,ht⟩:∃t,l[k]? =some t:=⟨_,lbf (by omega)⟩
  have hm:=n9 h t (lbm ht)
  have hv:t.1.toNat<n:=by omega
  have h0:K2 l k t.1.toNat=0:=a0g k fun i u hi hu=>by
   have:=a1D h i k u t hi hu ht
   have h2:=n9 h u (lbm hu)
   omega
  rw [aR9 ht,L8,ih,I9 ht]
  rw [C6 (f:=fun j=>(if j=t.1.toNat then t.2 else K2 l k j)*z.getD j 0) hv,C6 (f:=fun j=>K2 l k j*z.getD j 0) hv]
  simp only [if_true,h0]
  rw [d8 (f:=fun j=>if j=t.1.toNat then 0 else (if j=t.1.toNat then t.2 else K2 l k j)*z.getD j 0) (g:=fun j=>if j=t.1.toNat then 0 else K2 l k j*z.getD j 0) fun j hj=>by
   by_cases hj:j=t.1.toNat
   ·rw [if_pos hj,if_pos hj]
   ·rw [if_neg hj,if_neg hj,if_neg hj]]
  grind
theorem S1 {n:Nat} {l:List (Int × Rat)} (h:d6 (-1) (n:Int) l=true) (z:List Rat):j0 l z=i6 (fun j=>B7 l j*z.getD j 0) n:=by
 have:=aK7 h z l.length (lbQ _)
 rw [a4c] at this
 exact this
def J5 (s:f7):Nat->List (Nat × Bool)
 |0=>[]
 |k+1=>match s.rows[k]? with
  |none=>J5 s k
  |some w=>J5 s k++(if w.kind≠0 then [(k,false)] else [])++(if w.kind≠1 then [(k,true)] else [])
def c8 (s:f7):List (Nat × Bool):=J5 s s.rows.length
def U8 (b:Bool) (x:Rat):Rat:=if b then -x else x
def a3q (s:f7) (f:Nat × Bool):Rat:=match s.rows[f.1]? with
 |none=>0
 |some w=>U8 f.2 w.value
def a3j (s:f7) (f:Nat × Bool) (j:Nat):Rat:=match s.rows[f.1]? with
 |none=>0
 |some w=>U8 f.2 (B7 w.terms j)
def f8 (s:f7) (g:List (Int × Rat)):Fd where
 V:=fun i=>a3q s ((c8 s).getD i (0,false))
 A:=fun i j=>a3j s ((c8 s).getD i (0,false)) j
 G:=fun j=>-(B7 g j)
 O:=fun i=>s.n.toNat+i
 F:=fun j=>j
theorem ap1 {s:f7} {f:Nat × Bool}:∀k,f ∈ J5 s k↔f.1<k∧∃w,s.rows[f.1]? =some w∧(f.2=false->w.kind≠0)∧(f.2=true->w.kind≠1)
 |0=>by simp [J5]
 |k+1=>by
  have ih:=ap1 (s:=s) (f:=f) k
  unfold J5
  cases hw:s.rows[k]? with
  |none=>
   simp only
   rw [ih]
   constructor
   ·rintro ⟨h1,h2⟩;exact ⟨by omega,h2⟩
   ·rintro ⟨h1,w,h2,h3⟩
    refine ⟨?_,w,h2,h3⟩
    by_cases he:f.1=k
    ·rw [he,hw] at h2;cases h2
    ·omega
  |some w=>
   simp only
   rw [lbz,lbz,ih]
   obtain ⟨a,b⟩:=f
   simp only
   constructor
   ·rintro ((⟨h1,h2⟩|h)|h)
    ·exact ⟨by omega,h2⟩
    ·split at h
     ·rename_i hk
      simp at h
      obtain ⟨rfl,rfl⟩:=h
      exact ⟨by omega,w,hw,fun _=>hk,fun h=>by cases h⟩
     ·simp at h
    ·split at h
     ·rename_i hk
      simp at h
      obtain ⟨rfl,rfl⟩:=h
      exact ⟨by omega,w,hw,fun h=>(by cases h),fun _=>hk⟩
     ·simp at h
   ·rintro ⟨h1,w',h2,h3,h4⟩
    by_cases he:a=k
    ·subst he
     rw [hw] at h2;injection h2 with h2;subst h2
     cases b with
     |false=>rw [if_pos (h3 rfl)];simp
     |true=>rw [if_pos (h4 rfl)];simp
    ·exact .inl (.inl ⟨by omega,w',h2,h3,h4⟩)
theorem Z9 {s:f7} {f:Nat × Bool}:f ∈ c8 s↔∃w,s.rows[f.1]? =some w∧(f.2=false->w.kind≠0)∧(f.2=true->w.kind≠1):=by
 unfold c8
 rw [ap1]
 constructor
 ·rintro ⟨_,h⟩;exact h
 ·rintro ⟨w,h⟩;exact ⟨(lbe.1 h.1).1,w,h⟩
theorem aS6 {s:f7} {g:List (Int × Rat)}:a0F (c8 s).length s.n.toNat (f8 s g) where
 oi:=fun i i' _ _ h=>by have:s.n.toNat+i=s.n.toNat+i':=h;omega
 fi:=fun j j' _ _ h=>h
 of:=fun i j _ hj h=>by have:s.n.toNat+i=j:=h;omega
 all:=fun w hw=>by
  by_cases h:w<s.n.toNat
  ·exact .inr ⟨w,h,rfl⟩
  ·exact .inl ⟨w - s.n.toNat,by omega,by show s.n.toNat+(w - s.n.toNat)=w;omega⟩
 ob:=fun i hi=>by show s.n.toNat+i<_;omega
 fb:=fun j hj=>by show j<_;omega
theorem aO5 {s:f7} {g:List (Int × Rat)}:a04 s.n.toNat (f8 s g) (fun j=>-(B7 g j)) (c8 s).length 0:=by
 intro y c _
 have:c*(0:Rat)=0:=by grind
 rw [this]
 have e:i6 (fun j=>(f8 s g).G j*y ((f8 s g).F j)) s.n.toNat=i6 (fun j=>-(B7 g j)*y j) s.n.toNat:=rfl
 rw [e];grind
def a5t (s:f7) (g:List (Int × Rat)) (z:List Rat) (w:Nat):Rat:=if w<s.n.toNat then z.getD w 0 else (f8 s g).V (w - s.n.toNat) - i6 (fun j=>(f8 s g).A (w - s.n.toNat) j*z.getD j 0) s.n.toNat
theorem b16 {s:f7} {g:List (Int × Rat)} (z:List Rat):Ids (c8 s).length s.n.toNat (f8 s g) (a5t s g z) 1:=by
 intro i hi
 show a5t s g z (s.n.toNat+i)=_
 unfold a5t
 rw [if_neg (by omega),show s.n.toNat+i - s.n.toNat=i by omega]
 have:(1:Rat)*(f8 s g).V i=(f8 s g).V i:=by grind
 rw [this]
 congr 1
 refine d8 fun j hj=>?_
 show _=(f8 s g).A i j*(if j<s.n.toNat then z.getD j 0 else _)
 rw [if_pos hj]
theorem ar1 {s:f7} {g:List (Int × Rat)} (hr:i7 s=true) {z:List Rat} {i:Nat} {f:Nat × Bool} {w:j6} (hf:(c8 s)[i]? =some f) (hw:s.rows[f.1]? =some w):a5t s g z (s.n.toNat+i)=U8 f.2 (w.value - j0 w.terms z):=by
 unfold a5t
 rw [if_neg (by omega),show s.n.toNat+i - s.n.toNat=i by omega]
 have hfd:(c8 s).getD i (0,false)=f:=by rw [lbl,hf];rfl
 show a3q s ((c8 s).getD i (0,false)) - i6 (fun j=>a3j s ((c8 s).getD i (0,false)) j*z.getD j 0) s.n.toNat=_
 rw [hfd]
 have hrow:p5 s.n w=true:=by
  unfold i7 at hr
  simp only [lbM,lbI,lbv] at hr
  exact hr.2 w (lbm hw)
 have hn:(s.n.toNat:Int)=s.n:=by
  unfold i7 at hr
  simp only [lbM,lbI] at hr
  omega
 unfold p5 at hrow
 simp only [lbM,lbI] at hrow
 have hrt:=hrow.1.1
 rw [← hn] at hrt
 have e1:a3q s f=U8 f.2 w.value:=by unfold a3q;rw [hw]
 have e2:∀j,a3j s f j=U8 f.2 (B7 w.terms j):=fun j=>by unfold a3j;rw [hw]
 rw [e1,S1 hrt z]
 cases hb:f.2 with
 |false=>
  rw [d8 (g:=fun j=>B7 w.terms j*z.getD j 0) fun j hj=>by rw [e2 j,hb];rfl]
  rfl
 |true=>
  rw [d8 (g:=fun j=>(-1:Rat)*(B7 w.terms j*z.getD j 0)) fun j hj=>by rw [e2 j,hb];show -(B7 w.terms j)*_=_;grind,G8]
  show -w.value - _=-(w.value - _)
  grind
theorem first_holds {s:f7} {g:List (Int × Rat)} (hr:i7 s=true) {z:List Rat} (hl:(z.length:Int)=s.n):g6 s z=true↔b25 (c8 s).length s.n.toNat (a5t s g z):=by
 have hn:z.length=s.n.toNat:=by omega
 unfold g6
 rw [hr,lbH hl]
 simp only [N9,lbM,lbv,lbI]
 constructor
 ·rintro ⟨h1,h2⟩ w hw
  by_cases hv:w<s.n.toNat
  ·unfold a5t
   rw [if_pos hv,lbl,lbf (by omega)]
   exact h1 _ (lbE _)
  ·obtain ⟨i,rfl⟩:∃i,w=s.n.toNat+i:=⟨w - s.n.toNat,by omega⟩
   have hi:i<(c8 s).length:=by omega
   obtain ⟨f,hf⟩:∃f,(c8 s)[i]? =some f:=⟨_,lbf hi⟩
   obtain ⟨x,hx,hk1,hk2⟩:=Z9.1 (lbm hf)
   rw [ar1 hr hf hx]
   have hb:=h2 x (lbm hx)
   unfold N2 at hb
   simp only [a7D,a23,lbO,lbK] at hb
   cases hfb:f.2 with
   |false=>
    have:=hk1 hfb
    show 0<=x.value - j0 x.terms z
    rcases hb.2 with h|h
    ·grind
    ·exact absurd this h
   |true=>
    have:=hk2 hfb
    show 0<=-(x.value - j0 x.terms z)
    rcases hb.1 with h|h
    ·grind
    ·exact absurd this h
 ·intro hp
  refine ⟨fun v hv=>?_,fun x hx=>?_⟩
  ·obtain ⟨j,hj,rfl⟩:=Y0 hv
   have:=hp j (by omega)
   unfold a5t at this
   rw [if_pos (by omega),lbl,lbf hj] at this
   exact this
  ·obtain ⟨k,hk,hkx⟩:=Y0 hx
   have hxk:s.rows[k]? =some x:=by rw [lbf hk,hkx]
   have side:∀b:Bool,(b=false->x.kind≠0)->(b=true->x.kind≠1)->0<=U8 b (x.value - j0 x.terms z):=by
    intro b h1 h2
    have hm:((k,b):Nat × Bool) ∈ c8 s:=Z9.2 ⟨x,hxk,h1,h2⟩
    obtain ⟨i,hi,hif⟩:=Y0 hm
    have hf:(c8 s)[i]? =some (k,b):=by rw [lbf hi,hif]
    have:=hp (s.n.toNat+i) (by omega)
    rw [ar1 hr hf hxk] at this
    exact this
   unfold N2
   simp only [a7D,a23,lbO,lbK]
   constructor
   ·by_cases h:x.kind≠1
    ·left
     have:=side true (fun h=>by cases h) (fun _=>h)
     have h2:0<=-(x.value - j0 x.terms z):=this
     grind
    ·right;exact h
   ·by_cases h:x.kind≠0
    ·left
     have:=side false (fun _=>h) (fun h=>by cases h)
     have h2:0<=x.value - j0 x.terms z:=this
     grind
    ·right;exact h
end
section
theorem a6n {l:List (Int × Rat)} (h:∀t ∈ l,∃c:Int,t.2=((c:Int):Rat)∧bl c<=1):∀(k j:Nat),∃c:Int,K2 l k j=((c:Int):Rat)∧bl c<=1
 |0,j=>⟨0,rfl,S5 (by decide) (by decide)⟩
 |k+1,j=>by
  cases hk:l[k]? with
  |none=>rw [K2,hk];exact a6n h k j
  |some t=>
   rw [I9 hk]
   simp only
   split
   ·exact h t (lbm hk)
   ·exact a6n h k j
end
section
instance:Inhabited Fd:=⟨⟨fun _=>0,fun _ _=>0,fun _=>0,fun _=>0,fun _=>0⟩⟩
structure a5x (m n:Nat) (D0:Fd) (g0:Nat->Rat) (D:Fd):Prop where
 p:a0F m n D
 i:∀y c,Ids m n D0 y c↔Ids m n D y c
 g:∃z,a04 n D g0 m z
theorem b4X {m n r s:Nat} {D0 D:Fd} {g0:Nat->Rat} (h:a5x m n D0 g0 D) (hs:C3 m n D=.next r s):a5x m n D0 g0 (D.exch r s):=by
 obtain ⟨hr,hsn,hb⟩:=a4L hs
 have hp:=a6o hb
 obtain ⟨z,hz⟩:=h.g
 exact ⟨am8 hr hsn h.p,fun y c=>(h.i y c).trans (aa6 hr hsn hp),_,ap0 hr hsn hp hz⟩
def V4 (m n:Nat) (D0 D:Fd):Prop:=∃k,itS m n k D0=some D
theorem aS8 {m n:Nat} {D0:Fd}:V4 m n D0 D0:=⟨0,rfl⟩
theorem ac6 {m n:Nat} {D0 D D':Fd} (h:V4 m n D0 D) (hn:F3 m n D=some D'):V4 m n D0 D':=by
 obtain ⟨k,hk⟩:=h
 exact ⟨k+1,by rw [Y6,hk];exact hn⟩
theorem a2z {m n:Nat} {D0:Fd} {g0:Nat->Rat} (h0:a5x m n D0 g0 D0):∀{k:Nat} {D:Fd},itS m n k D0=some D->a5x m n D0 g0 D
 |0,D,h=>by injection h with h;subst h;exact h0
 |k+1,D,h=>by
  rw [Y6] at h
  cases hk:itS m n k D0 with
  |none=>rw [hk] at h;cases h
  |some D1=>
   rw [hk] at h
   have h:F3 m n D1=some D:=h
   obtain ⟨r,s,hs,rfl⟩:=a5L h
   exact b4X (a2z h0 hk) hs
theorem aa0 {m n:Nat} {D0:Fd} {k:Nat} (h:itS m n k D0=none):∀j,itS m n (k+j) D0=none
 |0=>h
 |j+1=>by rw [show k+(j+1)=(k+j)+1 by omega,Y6,aa0 h j];rfl
theorem aU2 {m n:Nat} {D0 D D':Fd} (h:V4 m n D0 D) (hn:F3 m n D=none) (h':V4 m n D0 D') (hn':F3 m n D'=none):D=D':=by
 obtain ⟨k,hk⟩:=h
 obtain ⟨l,hl⟩:=h'
 have a1:itS m n (k+1) D0=none:=by rw [Y6,hk];exact hn
 have a2:itS m n (l+1) D0=none:=by rw [Y6,hl];exact hn'
 have hkl:k=l:=by
  rcases aw3 k l with h|h|h
  ·have:=aa0 a1 (l - (k+1))
   rw [show k+1+(l - (k+1))=l by omega,hl] at this;cases this
  ·exact h
  ·have:=aa0 a2 (k - (l+1))
   rw [show l+1+(k - (l+1))=k by omega,hk] at this;cases this
 subst hkl
 rw [hk] at hl;injection hl
theorem b8K {m n:Nat} {D0:Fd} {g0:Nat->Rat} (h0:a5x m n D0 g0 D0):∃D,V4 m n D0 D∧F3 m n D=none:=by
 obtain ⟨k,hk,hmin⟩:=a2Y (fun k=>itS m n k D0=none) (b7E h0.p h0.g)
 cases k with
 |zero=>cases hk
 |succ k=>
  cases hk':itS m n k D0 with
  |none=>have:=hmin k hk';omega
  |some D=>
   rw [Y6,hk'] at hk
   exact ⟨D,⟨k,hk'⟩,hk⟩
noncomputable def ah4 (m n:Nat) (D0:Fd):Fd:=Classical.epsilon fun D=>V4 m n D0 D∧F3 m n D=none
theorem a4j {m n:Nat} {D0:Fd} {g0:Nat->Rat} (h0:a5x m n D0 g0 D0):V4 m n D0 (ah4 m n D0)∧F3 m n (ah4 m n D0)=none:=aV2 (b8K h0)
theorem b8y {m n:Nat} {D0 D:Fd} {g0:Nat->Rat} (h0:a5x m n D0 g0 D0) (h:V4 m n D0 D) (hn:F3 m n D=none):D=ah4 m n D0:=aU2 h hn (a4j h0).1 (a4j h0).2
theorem b7p {m n:Nat} {D0:Fd} {g0:Nat->Rat} (h0:a5x m n D0 g0 D0):a5x m n D0 g0 (ah4 m n D0):=by
 obtain ⟨k,hk⟩:=(a4j h0).1
 exact a2z h0 hk
theorem an5 {m n:Nat} {D:Fd} (h:C3 m n D=.best):(∀ i,i<m->0<=D.V i)∧∀j,j<n->D.G j<=0:=by
 unfold C3 at h
 split at h
 ·rename_i h1 h2
  refine ⟨fun i hi=>?_,fun j hj=>?_⟩
  ·have:=a0x h1 i hi;simp at this;grind
  ·have:=a0x h2 j hj;simp at this;grind
 ·unfold a0Q at h;split at h<;>cases h
 ·unfold a0T at h;split at h<;>cases h
 ·split at h
  ·unfold a0Q at h;split at h<;>cases h
  ·unfold a0T at h;split at h<;>cases h
theorem as3 {n r r':Nat} {D:Fd} (h:a0Q n D r=.row r'):r'=r∧∀j,j<n->0<=D.A r j:=by
 unfold a0Q at h
 split at h
 ·rename_i h1
  injection h with h
  exact ⟨h.symm,fun j hj=>by have:=a0x h1 j hj;simp at this;grind⟩
 ·cases h
theorem an1 {m s s':Nat} {D:Fd} (h:a0T m D s=.col s'):s'=s∧∀i,i<m->D.A i s<=0:=by
 unfold a0T at h
 split at h
 ·rename_i h1
  injection h with h
  exact ⟨h.symm,fun i hi=>by have:=a0x h1 i hi;simp at this;grind⟩
 ·cases h
theorem a4l {m n r:Nat} {D:Fd} (h:C3 m n D=.row r):r<m∧D.V r<0∧∀j,j<n->0<=D.A r j:=by
 unfold C3 at h
 split at h
 ·cases h
 ·rename_i r0 h1 h2
  obtain ⟨rfl,h4⟩:=as3 h
  have h3:=G1 h1
  exact ⟨h3.1,by simpa using h3.2.1,h4⟩
 ·unfold a0T at h;split at h<;>cases h
 ·rename_i r0 s0 h1 h2
  split at h
  ·obtain ⟨rfl,h4⟩:=as3 h
   have h3:=G1 h1
   exact ⟨h3.1,by simpa using h3.2.1,h4⟩
  ·unfold a0T at h;split at h<;>cases h
theorem a74 {m n s:Nat} {D:Fd} (h:C3 m n D=.col s):s<n∧0<D.G s∧∀i,i<m->D.A i s<=0:=by
 unfold C3 at h
 split at h
 ·cases h
 ·unfold a0Q at h;split at h<;>cases h
 ·rename_i s0 h1 h2
  obtain ⟨rfl,h4⟩:=an1 h
  have h3:=G1 h2
  exact ⟨h3.1,by simpa using h3.2.1,h4⟩
 ·rename_i r0 s0 h1 h2
  split at h
  ·unfold a0Q at h;split at h<;>cases h
  ·obtain ⟨rfl,h4⟩:=an1 h
   have h3:=G1 h2
   exact ⟨h3.1,by simpa using h3.2.1,h4⟩
theorem b3N {m n:Nat} {D:Fd} (h:F3 m n D=none):C3 m n D=.best∨(∃ r,C3 m n D=.row r)∨∃s,C3 m n D=.col s:=by
 unfold F3 at h
 cases hs:C3 m n D with
 |best=>exact .inl rfl
 |row r=>exact .inr (.inl ⟨r,rfl⟩)
 |col s=>exact .inr (.inr ⟨s,rfl⟩)
 |next r s=>rw [hs] at h;cases h
end
section
def zOf (n:Nat) (y:Nat->Rat):List Rat:=(List.range n).map y
theorem a4I {n:Nat} {y:Nat->Rat}:(zOf n y).length=n:=by simp [zOf]
theorem a6h {n:Nat} {y:Nat->Rat} {j:Nat} (h:j<n):(zOf n y).getD j 0=y j:=by simp [zOf,lbl,h]
theorem a99 {n:Nat} {y:Nat->Rat} {v:Rat} (h:v ∈ zOf n y):∃j,j<n∧v=y j:=by
 obtain ⟨j,hj,rfl⟩:=lbx.1 h
 exact ⟨j,lbB.1 hj,rfl⟩
theorem aN4 {n:Nat} {l:List (Int × Rat)} (h:d6 (-1) (n:Int) l=true) (y:Nat->Rat):j0 l (zOf n y)=i6 (fun j=>B7 l j*y j) n:=by
 rw [S1 h];exact d8 fun j hj=>by rw [a6h hj]
theorem O9 {s:f7} (hr:i7 s=true):((s.n.toNat:Nat):Int)=s.n:=by
 unfold i7 at hr
 simp only [lbM,lbI] at hr
 omega
theorem a0n {s:f7} (hr:i7 s=true) {i:Nat} {w:j6} (hw:s.rows[i]? =some w):d6 (-1) ((s.n.toNat:Nat):Int) w.terms=true∧0<=w.kind∧w.kind<3:=by
 rw [O9 hr]
 unfold i7 at hr
 simp only [lbM,lbv] at hr
 have:=hr.2 w (lbm hw)
 unfold p5 at this
 simp only [lbM,lbI] at this
 exact ⟨this.1.1,this.1.2,this.2⟩
theorem b6w {s:f7} {g:List (Int × Rat)} (hr:i7 s=true) {y:Nat->Rat} {c:Rat} (hy:Ids (c8 s).length s.n.toNat (f8 s g) y c) {i k:Nat} {b:Bool} {w:j6}
 (hf:(c8 s)[i]? =some (k,b)) (hw:s.rows[k]? =some w):y (s.n.toNat+i)=U8 b (c*w.value - j0 w.terms (zOf s.n.toNat y)):=by
 have hi:i<(c8 s).length:=(lbe.1 hf).1
 have h1:y (s.n.toNat+i)=c*(f8 s g).V i - i6 (fun j=>(f8 s g).A i j*y j) s.n.toNat:=hy i hi
 have hd:(c8 s).getD i (0,false)=(k,b):=by rw [lbl,hf];rfl
 have hV:(f8 s g).V i=U8 b w.value:=by show a3q s ((c8 s).getD i (0,false))=_;rw [hd];unfold a3q;simp only [hw]
 have hA:∀j,(f8 s g).A i j=U8 b (B7 w.terms j):=fun j=>by show a3j s ((c8 s).getD i (0,false)) j=_;rw [hd];unfold a3j;simp only [hw]
 rw [h1,hV,aN4 (a0n hr hw).1]
 cases b with
 |false=>rw [d8 (g:=fun j=>B7 w.terms j*y j) fun j hj=>by rw [hA j];rfl];rfl
 |true=>
  rw [d8 (g:=fun j=>(-1:Rat)*(B7 w.terms j*y j)) fun j hj=>by rw [hA j];show -(B7 w.terms j)*_=_;grind,G8]
  show c*-w.value - _=-(c*w.value - _)
  grind
noncomputable def m8 (s:f7) (g:List (Int × Rat)):Fd:=ah4 (c8 s).length s.n.toNat (f8 s g)
noncomputable def U5 (s:f7) (g:List (Int × Rat)):b4l:=C3 (c8 s).length s.n.toNat (m8 s g)
theorem a2B {s:f7} {g:List (Int × Rat)}:a5x (c8 s).length s.n.toNat (f8 s g) (fun j=>-(B7 g j)) (f8 s g):=⟨aS6,fun _ _=>Iff.rfl,0,aO5⟩
theorem Q3 {s:f7} {g:List (Int × Rat)}:a5x (c8 s).length s.n.toNat (f8 s g) (fun j=>-(B7 g j)) (m8 s g):=b7p a2B
theorem a4M (s:f7) (g:List (Int × Rat)):U5 s g=.best∨(∃ r,U5 s g=.row r)∨∃c,U5 s g=.col c:=b3N (a4j a2B).2
noncomputable def F9 (s:f7) (g:List (Int × Rat)):List Rat:=zOf s.n.toNat (a1F (c8 s).length s.n.toNat (m8 s g) 1 (fun _=>0))
noncomputable def ax6 (s:f7) (g:List (Int × Rat)) (c:Nat):List Rat:=zOf s.n.toNat (a1F (c8 s).length s.n.toNat (m8 s g) 0 (fun j=>if j=c then 1 else 0))
theorem aQ7 {s:f7} {g:List (Int × Rat)} {y:Nat->Rat} (hy:Ids (c8 s).length s.n.toNat (f8 s g) y 1):∀w,w<s.n.toNat+(c8 s).length->a5t s g (zOf s.n.toNat y) w=y w:=by
 intro w hw
 unfold a5t
 split
 ·rename_i h;exact a6h h
 ·have h1:y (s.n.toNat+(w - s.n.toNat))=1*(f8 s g).V (w - s.n.toNat) - i6 (fun j=>(f8 s g).A (w - s.n.toNat) j*y j) s.n.toNat:=hy (w - s.n.toNat) (by omega)
  rw [show s.n.toNat+(w - s.n.toNat)=w by omega] at h1
  rw [h1,d8 (g:=fun j=>(f8 s g).A (w - s.n.toNat) j*y j) fun j hj=>by rw [a6h hj]]
  grind
theorem b1z {s:f7} {g:List (Int × Rat)} (hr:i7 s=true) {y:Nat->Rat} (hy:Ids (c8 s).length s.n.toNat (f8 s g) y 1) (hp:b25 (c8 s).length s.n.toNat y):g6 s (zOf s.n.toNat y)=true:=by
 refine (first_holds (g:=g) hr (by rw [a4I];exact O9 hr)).2 fun w hw=>?_
 rw [aQ7 hy w hw];exact hp w hw
theorem J8 {s:f7} {z:List Rat} (h:g6 s z=true):i7 s=true∧(z.length:Int)=s.n:=by
 unfold g6 at h
 simp only [lbM,lbI] at h
 exact ⟨h.1.1.1,h.1.1.2⟩
theorem a9C {s:f7} {g:List (Int × Rat)} (hg:d6 (-1) ((s.n.toNat:Nat):Int) g=true) (z:List Rat):i6 (fun j=>-(B7 g j)*a5t s g z j) s.n.toNat=-(j0 g z):=by
 rw [S1 hg z,d8 (g:=fun j=>(-1:Rat)*(B7 g j*z.getD j 0)) fun j hj=>by
  have:a5t s g z j=z.getD j 0:=by unfold a5t;rw [if_pos hj]
  rw [this];grind,G8]
 grind
theorem a2w {s:f7} {g:List (Int × Rat)} (hr:i7 s=true) (hg:d6 (-1) ((s.n.toNat:Nat):Int) g=true) (h:U5 s g=.best):
 g6 s (F9 s g)=true∧∀z,g6 s z=true->j0 g (F9 s g)<=j0 g z:=by
 obtain ⟨hv,hgj⟩:=an5 h
 have hi:=Q3 (s:=s) (g:=g)
 obtain ⟨v,hv'⟩:=hi.g
 obtain ⟨⟨y,h1,h2,h3,h4⟩,h5⟩:=aD0 hi.p hv' hv hgj
 have h1':=(hi.i y 1).2 h1
 have e:F9 s g=zOf s.n.toNat y:=by unfold F9;rw [h4]
 rw [e]
 refine ⟨b1z hr h1' h2,fun z hz=>?_⟩
 have hx:=h5 (a5t s g z) ((hi.i _ 1).1 (b16 z)) ((first_holds hr (J8 hz).2).1 hz)
 rw [a9C hg z] at hx
 have h6:i6 (fun j=>-(B7 g j)*y j) s.n.toNat=-(j0 g (zOf s.n.toNat y)):=by
  rw [← a9C hg]
  exact d8 fun j hj=>by rw [aQ7 h1' j (by omega)]
 rw [h6] at h3
 grind
theorem b0s {s:f7} {g:List (Int × Rat)} {r:Nat} (h:U5 s g=.row r):∀z,g6 s z=false:=by
 intro z
 cases hz:g6 s z with
 |false=>rfl
 |true=>
  obtain ⟨hr1,hv,ha⟩:=a4l h
  have hi:=Q3 (s:=s) (g:=g)
  exact absurd ((first_holds (J8 hz).1 (J8 hz).2).1 hz) (b6l hi.p hr1 hv ha (a5t s g z) ((hi.i _ 1).1 (b16 z)))
structure b6Y (s:f7) (d:List Rat):Prop where
 len:d.length=s.n.toNat
 pos:∀v ∈ d,0<=v
 up:∀(k:Nat) (w:j6),s.rows[k]? =some w->w.kind≠0->j0 w.terms d<=0
 down:∀(k:Nat) (w:j6),s.rows[k]? =some w->w.kind≠1->0<=j0 w.terms d
theorem a95 {s:f7} {g:List (Int × Rat)} {c:Nat} (hr:i7 s=true) (hg:d6 (-1) ((s.n.toNat:Nat):Int) g=true) (h:U5 s g=.col c):b6Y s (ax6 s g c)∧j0 g (ax6 s g c)<0:=by
 obtain ⟨hc,hgc,ha⟩:=a74 h
 have hi:=Q3 (s:=s) (g:=g)
 obtain ⟨v,hv⟩:=hi.g
 obtain ⟨y,h1,h2,h3,h4⟩:=b6t hi.p hv hc hgc ha
 have h1':=(hi.i y 0).2 h1
 have e:ax6 s g c=zOf s.n.toNat y:=by unfold ax6;rw [h4]
 rw [e]
 have side:∀(k:Nat) (w:j6) (b:Bool),s.rows[k]? =some w->(b=false->w.kind≠0)->(b=true->w.kind≠1)->0<=U8 b (-(j0 w.terms (zOf s.n.toNat y))):=by
  intro k w b hw hb1 hb2
  have hm:((k,b):Nat × Bool) ∈ c8 s:=Z9.2 ⟨w,hw,hb1,hb2⟩
  obtain ⟨i,hil,hif⟩:=Y0 hm
  have hf:(c8 s)[i]? =some (k,b):=by rw [lbf hil,hif]
  have:=b6w hr h1' hf hw
  have hp:=h2 (s.n.toNat+i) (by omega)
  rw [this] at hp
  have e2:(0:Rat)*w.value - j0 w.terms (zOf s.n.toNat y)=-(j0 w.terms (zOf s.n.toNat y)):=by grind
  rw [e2] at hp;exact hp
 refine ⟨⟨a4I,fun v hv=>?_,fun k w hw hk=>?_,fun k w hw hk=>?_⟩,?_⟩
 ·obtain ⟨j,hj,rfl⟩:=a99 hv
  exact h2 j (by omega)
 ·have:0<=-(j0 w.terms (zOf s.n.toNat y)):=side k w false hw (fun _=>hk) (fun h=>by cases h)
  grind
 ·have:0<=-(-(j0 w.terms (zOf s.n.toNat y))):=side k w true hw (fun h=>by cases h) (fun _=>hk)
  grind
 ·rw [aN4 hg,d8 (g:=fun j=>(-1:Rat)*(-(B7 g j)*y j)) fun j hj=>by grind,G8]
  grind
def aa9 (x d:List Rat):List Rat:=List.zipWith (·+·) x d
theorem ac3 {x d:List Rat} {n:Nat} (hx:x.length=n) (hd:d.length=n):(aa9 x d).length=n:=by simp [aa9,hx,hd]
theorem as4 {x d:List Rat} {n j:Nat} (hx:x.length=n) (hd:d.length=n) (hj:j<n):(aa9 x d).getD j 0=x.getD j 0+d.getD j 0:=by
 simp only [aa9,lbl,List.getElem?_zipWith]
 rw [lbf (show j<x.length by omega),lbf (show j<d.length by omega)]
 rfl
theorem a2K {x d:List Rat} {n:Nat} {l:List (Int × Rat)} (hx:x.length=n) (hd:d.length=n) (h:d6 (-1) (n:Int) l=true):j0 l (aa9 x d)=j0 l x+j0 l d:=by
 rw [S1 h,S1 h,S1 h,←U1]
 exact d8 fun j hj=>by rw [as4 hx hd hj];grind
theorem aL5 {w:j6} {z:List Rat}:N2 w z=true↔(w.kind≠1->w.value<=j0 w.terms z)∧(w.kind≠0->j0 w.terms z<=w.value):=by
 unfold N2
 simp only [a7D,a23,lbO,lbK,lb2]
 constructor
 ·rintro ⟨h1,h2⟩
  exact ⟨fun h=>h1.elim id fun h'=>absurd h h',fun h=>h2.elim id fun h'=>absurd h h'⟩
 ·rintro ⟨h1,h2⟩
  refine ⟨?_,?_⟩
  ·by_cases h:w.kind≠1
   ·exact .inl (h1 h)
   ·exact .inr h
  ·by_cases h:w.kind≠0
   ·exact .inl (h2 h)
   ·exact .inr h
theorem W7 {s:f7} {z:List Rat}:g6 s z=true↔i7 s=true∧(z.length:Int)=s.n∧(∀ v ∈ z,0<=v)∧∀w ∈ s.rows,(w.kind≠1->w.value<=j0 w.terms z)∧(w.kind≠0->j0 w.terms z<=w.value):=by
 unfold g6
 simp only [lbM,lbI,lbv,aL5]
 constructor
 ·rintro ⟨⟨⟨h1,h2⟩,h3⟩,h4⟩;exact ⟨h1,h2,h3,h4⟩
 ·rintro ⟨h1,h2,h3,h4⟩;exact ⟨⟨⟨h1,h2⟩,h3⟩,h4⟩
theorem a7Y {s:f7} {x d:List Rat} (hx:g6 s x=true) (hd:b6Y s d):g6 s (aa9 x d)=true:=by
 obtain ⟨h1,h2,h3,h4⟩:=W7.1 hx
 have hn:=O9 h1
 have hxl:x.length=s.n.toNat:=by omega
 refine W7.2 ⟨h1,by rw [ac3 hxl hd.len];exact hn,fun v hv=>?_,fun w hw=>?_⟩
 ·obtain ⟨j,hj,rfl⟩:=Y0 hv
  rw [ac3 hxl hd.len] at hj
  have h5:0<=x[j]:=h3 _ (lbE _)
  have h6:0<=d[j]'(by rw [hd.len];exact hj):=hd.pos _ (lbE _)
  simp only [aa9,List.getElem_zipWith]
  grind
 ·obtain ⟨k,hk,hkw⟩:=Y0 hw
  have hkw':s.rows[k]? =some w:=by rw [lbf hk,hkw]
  have h7:=a2K hxl hd.len (a0n h1 hkw').1
  obtain ⟨h8,h9⟩:=h4 w hw
  rw [h7]
  exact ⟨fun h=>by have:=h8 h;have:=hd.down k w hkw' h;grind,fun h=>by have:=h9 h;have:=hd.up k w hkw' h;grind⟩
theorem b6h {s:f7} (hr:i7 s=true) {c:Nat}:U5 s []≠.col c:=fun h=>by
 have:=(a95 hr rfl h).2
 have h2:j0 [] (ax6 s [] c)=((0:Int):Rat):=rfl
 rw [h2] at this
 exact absurd this (by decide +kernel)
end
section
def uV (n:Nat) (D0:Fd) (w:Nat):Nat->Rat
 |0=>if w<n then 0 else D0.V (w - n)
 |l+1=>if w<n then (if w=l then 1 else 0) else -(D0.A (w - n) l)
def uG (g0:Nat->Rat):Nat->Rat
 |0=>0
 |l+1=>g0 l
structure a1b (m n:Nat) (D:Fd):Prop where
 o:∀i,i<m->D.O i=n+i
 f:∀j,j<n->D.F j=j
def muF (n:Nat) (D0 D:Fd):Nat->Nat->Rat
 |0=>a3w 0
 |j+1=>uV n D0 (D.F j)
theorem b4J {m n:Nat} {D0:Fd} (h0:a1b m n D0) (l:Nat) (hl:l<n+1):Ids m n D0 (fun w=>uV n D0 w l) (a3w 0 l):=by
 intro i hi
 rw [h0.o i hi]
 rw [d8 (g:=fun j=>D0.A i j*uV n D0 j l) fun j hj=>by rw [h0.f j hj]]
 cases l with
 |zero=>
  rw [p6 fun j hj=>by show D0.A i j*(if j<n then (0:Rat) else _)=0;rw [if_pos hj];grind]
  show (if n+i<n then (0:Rat) else D0.V (n+i - n))=a3w 0 0*D0.V i - 0
  rw [if_neg (by omega),show n+i - n=i by omega]
  have:a3w 0 0=1:=rfl
  rw [this];grind
 |succ l=>
  rw [d8 (g:=fun j=>if j=l then D0.A i l else 0) fun j hj=>by
   show D0.A i j*(if j<n then (if j=l then (1:Rat) else 0) else _)=_
   rw [if_pos hj]
   by_cases h:j=l
   ·subst h;rw [if_pos rfl,if_pos rfl];grind
   ·rw [if_neg h,if_neg h];grind]
  rw [C6 (s:=l) (by omega),if_pos rfl,p6 fun j hj=>by
   by_cases h:j=l
   ·rw [if_pos h]
   ·rw [if_neg h,if_neg h]]
  show (if n+i<n then _ else -(D0.A (n+i - n) l))=a3w 0 (l+1)*D0.V i - _
  rw [if_neg (by omega),show n+i - n=i by omega]
  have:a3w 0 (l+1)=0:=rfl
  rw [this];grind
section
variable {m n:Nat} {D0 D:Fd}
def coV (D:Fd) (i:Nat):Nat->Rat
 |0=>D.V i
 |j+1=>-(D.A i j)
def coG (z:Rat) (D:Fd):Nat->Rat
 |0=>z
 |j+1=>D.G j
theorem b1e (h0:a1b m n D0) (hI:∀y c,Ids m n D0 y c↔Ids m n D y c) {i:Nat} (hi:i<m):∀l,l<n+1->uV n D0 (D.O i) l=i6 (fun k=>coV D i k*muF n D0 D k l) (n+1):=by
 intro l hl
 have h:=(hI _ _).1 (b4J h0 l hl) i hi
 rw [h,a0i]
 show _=D.V i*a3w 0 l+i6 (fun j=>-(D.A i j)*uV n D0 (D.F j) l) n
 rw [d8 (f:=fun j=>-(D.A i j)*uV n D0 (D.F j) l) (g:=fun j=>(-1:Rat)*(D.A i j*uV n D0 (D.F j) l)) fun j hj=>by grind,G8]
 grind
theorem b5W (h0:a1b m n D0) (hI:∀y c,Ids m n D0 y c↔Ids m n D y c) {g0:Nat->Rat} {z:Rat} (hg:a04 n D g0 m z):∀l,l<n+1->uG g0 l=i6 (fun k=>coG z D k*muF n D0 D k l) (n+1):=by
 intro l hl
 have h:=hg _ _ ((hI _ _).1 (b4J h0 l hl))
 rw [a0i]
 show _=z*a3w 0 l+i6 (fun j=>D.G j*uV n D0 (D.F j) l) n
 have e:i6 (fun j=>g0 j*uV n D0 j l) n=uG g0 l:=by
  cases l with
  |zero=>rw [p6 fun j hj=>by show g0 j*(if j<n then (0:Rat) else _)=0;rw [if_pos hj];grind];rfl
  |succ l=>
   rw [d8 (g:=fun j=>if j=l then g0 l else 0) fun j hj=>by
    show g0 j*(if j<n then (if j=l then (1:Rat) else 0) else _)=_
    rw [if_pos hj]
    by_cases h:j=l
    ·subst h;rw [if_pos rfl,if_pos rfl];grind
    ·rw [if_neg h,if_neg h];grind]
   rw [C6 (s:=l) (by omega),if_pos rfl,p6 fun j hj=>by
    by_cases h:j=l
    ·rw [if_pos h]
    ·rw [if_neg h,if_neg h]]
   show _=g0 l
   grind
 rw [← e,h]
 grind
theorem b9D (h0:a1b m n D0) (hI:∀y c,Ids m n D0 y c↔Ids m n D y c) {i:Nat} (hi:i<m):G6 (n+1) (D2 (muF n D0 D) 0 (uV n D0 (D.O i)))=D.V i*G6 (n+1) (muF n D0 D):=ae0 (b1e h0 hI hi) (j:=0) (by omega)
theorem b7v (h0:a1b m n D0) (hI:∀y c,Ids m n D0 y c↔Ids m n D y c) {i j:Nat} (hi:i<m) (hj:j<n):G6 (n+1) (D2 (muF n D0 D) (j+1) (uV n D0 (D.O i)))=-(D.A i j)*G6 (n+1) (muF n D0 D):=ae0 (b1e h0 hI hi) (j:=j+1) (by omega)
theorem b9s (h0:a1b m n D0) (hI:∀y c,Ids m n D0 y c↔Ids m n D y c) {g0:Nat->Rat} {z:Rat} (hg:a04 n D g0 m z) {j:Nat} (hj:j<n):G6 (n+1) (D2 (muF n D0 D) (j+1) (uG g0))=D.G j*G6 (n+1) (muF n D0 D):=ae0 (b5W h0 hI hg) (j:=j+1) (by omega)
theorem b1I (h0:a1b m n D0):G6 (n+1) (muF n D0 D0)=1:=by
 rw [← b0J (n+1)]
 refine a1z fun i j hi hj=>?_
 cases i with
 |zero=>rfl
 |succ i=>
  show uV n D0 (D0.F i) j=_
  rw [h0.f i (by omega)]
  cases j with
  |zero=>show (if i<n then (0:Rat) else _)=_;rw [if_pos (by omega)];rfl
  |succ j=>
   show (if i<n then (if i=j then (1:Rat) else 0) else _)=_
   rw [if_pos (by omega)]
   unfold a3w
   by_cases h:i=j
   ·rw [if_pos h,if_pos (by omega)]
   ·rw [if_neg h,if_neg (by omega)]
theorem b2N (h0:a1b m n D0) (hI:∀y c,Ids m n D0 y c↔Ids m n D y c) {r s:Nat} (hr:r<m) (hs:s<n):G6 (n+1) (muF n D0 (D.exch r s))=-(D.A r s)*G6 (n+1) (muF n D0 D):=by
 rw [← b7v h0 hI hr hs]
 refine a1z fun i j hi hj=>?_
 cases i with
 |zero=>rfl
 |succ i=>
  show uV n D0 ((D.exch r s).F i) j=D2 (muF n D0 D) (s+1) (uV n D0 (D.O r)) (i+1) j
  rw [a1l]
  by_cases h:i=s
  ·subst h;rw [if_pos rfl,a0l]
  ·rw [if_neg h,X4 (by omega)];rfl
end
theorem b4b {m n:Nat} {D0:Fd} {g0:Nat->Rat} (h0:a1b m n D0) (hv:a5x m n D0 g0 D0):∀{k:Nat} {D:Fd},itS m n k D0=some D->G6 (n+1) (muF n D0 D)≠0
 |0,D,h=>by injection h with h;subst h;rw [b1I h0];decide
 |k+1,D,h=>by
  rw [Y6] at h
  cases hk:itS m n k D0 with
  |none=>rw [hk] at h;cases h
  |some D1=>
   rw [hk] at h
   have h:F3 m n D1=some D:=h
   obtain ⟨r,s,hs,rfl⟩:=a5L h
   obtain ⟨h1,h2,h3⟩:=a4L hs
   have hp:=a6o h3
   rw [b2N h0 (a2z hv hk).i h1 h2]
   intro e
   rcases Rat.mul_eq_zero.1 e with e|e
   ·exact hp (by grind)
   ·exact b4b h0 hv hk e
def b68 (K:Rat) (M:Nat->Nat->Rat):Nat->Nat->Rat:=fun i j=>if j=0 then K*M i 0 else M i j
theorem b7j (n:Nat) (K:Rat) (M:Nat->Nat->Rat):G6 (n+1) (b68 K M)=K*G6 (n+1) M:=by
 rw [L3,L3,←G8]
 refine d8 fun i hi=>?_
 have e:w8 i (b68 K M)=w8 i M:=by
  funext a c;unfold w8 b68;rw [if_neg (by omega)]
 rw [e]
 show a8M i*(if (0:Nat)=0 then K*M i 0 else _)*_=_
 rw [if_pos rfl];grind
theorem au0 {n:Nat} {M:Nat->Nat->Rat} {r:Nat} (hr:r<n) (h:∀c,c<n->M r c=0):G6 n M=0:=by
 have e:G6 n M=G6 n (D2 M r fun c=>(0:Rat)*0+0*0):=a1z fun i j hi hj=>by
  unfold D2
  by_cases hir:i=r
  ·subst hir;rw [if_pos rfl,h j hj];grind
  ·rw [if_neg hir]
 rw [e,a4D (v:=fun _=>0) (w:=fun _=>0) hr];grind
theorem b0c {n:Nat} {M:Nat->Nat->Rat} (h1:M 0 0=1) (h0:∀c,c<n->M 0 (c+1)=0):G6 (n+1) M=G6 n (w8 0 M):=by
 rw [L3,a0i (f:=fun i=>a8M i*M i 0*G6 n (w8 i M)),p6 fun i hi=>?_]
 ·have:a8M 0=1:=rfl
  rw [this,h1];grind
 ·rw [au0 (n:=n) (M:=w8 (i+1) M) (r:=0) (by omega) fun c hc=>by
   unfold w8;rw [if_pos (by omega)];exact h0 c hc]
  grind
structure aY2 (m n K BV BA BG:Nat) (D0:Fd) (g0:Nat->Rat):Prop where
 k:0<K
 v:∀i,i<m->∃z:Int,(K:Rat)*D0.V i=((z:Int):Rat)∧z.natAbs<=BV
 a:∀i j,i<m->j<n->∃z:Int,D0.A i j=((z:Int):Rat)∧z.natAbs<=BA
 g:∀j,j<n->∃z:Int,g0 j=((z:Int):Rat)∧z.natAbs<=BG
 a1:1<=BA
 ag:BA<=BG
theorem aw9 {m n K BV BA BG:Nat} {D0:Fd} {g0:Nat->Rat} (h:aY2 m n K BV BA BG D0 g0) {w l:Nat} (hw:w<n+m) (hl:l<n):∃z:Int,uV n D0 w (l+1)=((z:Int):Rat)∧z.natAbs<=BA:=by
 have:=h.a1
 show ∃z:Int,(if w<n then (if w=l then (1:Rat) else 0) else -(D0.A (w - n) l))=_∧_
 by_cases h1:w<n
 ·rw [if_pos h1]
  by_cases h2:w=l
  ·rw [if_pos h2];exact ⟨1,rfl,by simpa using this⟩
  ·rw [if_neg h2];exact ⟨0,rfl,by simp⟩
 ·rw [if_neg h1]
  obtain ⟨z,hz,hb⟩:=h.a (w - n) l (by omega) hl
  exact ⟨-z,by rw [hz];push_cast;rfl,by rw [a7u];exact hb⟩
theorem b6X {m n K BV BA BG:Nat} {D0:Fd} {g0:Nat->Rat} (h:aY2 m n K BV BA BG D0 g0) {w:Nat} (hw:w<n+m):∃z:Int,(K:Rat)*uV n D0 w 0=((z:Int):Rat)∧z.natAbs<=BV:=by
 show ∃z:Int,(K:Rat)*(if w<n then (0:Rat) else D0.V (w - n))=_∧_
 by_cases h1:w<n
 ·rw [if_pos h1];exact ⟨0,by show _=(0:Rat);grind,by simp⟩
 ·rw [if_neg h1];exact h.v _ (by omega)
theorem b5Y {m n K BV BA BG:Nat} {D0 D:Fd} {g0:Nat->Rat} (h:aY2 m n K BV BA BG D0 g0) (hf:∀j,j<n->D.F j<n+m):∃z:Int,G6 (n+1) (muF n D0 D)=((z:Int):Rat)∧z.natAbs<=a68 n fun _=>BA:=by
 rw [b0c (M:=muF n D0 D) rfl fun c hc=>rfl]
 refine a4E fun i j hi hj=>?_
 unfold w8
 rw [if_neg (by omega)]
 exact aw9 h (hf i hi) hj
theorem aF7 {m n K BV BA BG:Nat} {D0 D:Fd} {g0:Nat->Rat} (h:aY2 m n K BV BA BG D0 g0) (hf:∀j,j<n->D.F j<n+m) {B:Nat} {u:Nat->Rat} (hB:BA<=B) (hu:∀l,l<n->∃z:Int,u (l+1)=((z:Int):Rat)∧z.natAbs<=B) (j:Nat):∃z:Int,G6 (n+1) (D2 (muF n D0 D) (j+1) u)=((z:Int):Rat)∧z.natAbs<=a68 n fun _=>B:=by
 rw [b0c (M:=D2 (muF n D0 D) (j+1) u) (by rw [X4 (by omega)];rfl) fun c hc=>by rw [X4 (by omega)];rfl]
 refine a4E fun i k hi hk=>?_
 have em:w8 0 (D2 (muF n D0 D) (j+1) u) i k=D2 (muF n D0 D) (j+1) u (i+1) (k+1):=by unfold w8;rw [if_neg (by omega)]
 rw [em]
 by_cases e:i+1=j+1
 ·rw [e,a0l];exact hu k hk
 ·rw [X4 e]
  obtain ⟨z,hz,hb⟩:=aw9 h (hf i hi) hk
  exact ⟨z,hz,by omega⟩
theorem b31 {m n K BV BA BG:Nat} {D0 D:Fd} {g0:Nat->Rat} (h:aY2 m n K BV BA BG D0 g0) (hf:∀j,j<n->D.F j<n+m) {w:Nat} (hw:w<n+m):∃z:Int,(K:Rat)*G6 (n+1) (D2 (muF n D0 D) 0 (uV n D0 w))=((z:Int):Rat)∧z.natAbs<=a68 (n+1) fun c=>if c=0 then BV else BA:=by
 rw [← b7j]
 refine a4E fun i j hi hj=>?_
 have key:∀w,w<n+m->∃z:Int,(if j=0 then (K:Rat)*uV n D0 w 0 else uV n D0 w j)=((z:Int):Rat)∧z.natAbs<=if j=0 then BV else BA:=fun w hw=>by
  by_cases h1:j=0
  ·rw [if_pos h1,if_pos h1];exact b6X h hw
  ·rw [if_neg h1,if_neg h1]
   obtain ⟨l,rfl⟩:∃l,j=l+1:=⟨j - 1,by omega⟩
   exact aw9 h hw (by omega)
 unfold b68 D2
 cases i with
 |zero=>simp only [if_true];exact key w hw
 |succ i=>
  simp only [if_neg (show i+1≠0 by omega)]
  exact key (D.F i) (hf i (by omega))
theorem a9d {x:Rat} {p q:Int} (hq:q≠0) (h:((q:Int):Rat)*x=((p:Int):Rat)):rl x<=max (bl p) (bl q):=by
 have hqn:((q:Int):Rat)≠0:=by intro e;exact hq (by exact_mod_cast e)
 have e:x=Rat.divInt p q:=by
  rw [Rat.divInt_eq_div,←h]
  rw [Rat.mul_comm,Rat.div_def,a9D,aV5 _ hqn];grind
 rw [e];exact a2k hq
theorem a5j {z:Int} {X k:Nat} (h:z.natAbs<=X) (hX:(X:Int)<pw k):bl z<=k:=O2 (by omega)
theorem aX6 {m n K BV BA BG b:Nat} {D0 D:Fd} {g0:Nat->Rat} (h0:a1b m n D0) (h:aY2 m n K BV BA BG D0 g0) (hv:a5x m n D0 g0 D0) (hD:V4 m n D0 D)
 (b1:((a68 (n+1) fun c=>if c=0 then BV else BA:Nat):Int)<pw b) (b2:((a68 n fun _=>BG:Nat):Int)<pw b) (b3:((K*a68 n fun _=>BA:Nat):Int)<pw b) (b4:((a68 n fun _=>BA:Nat):Int)<pw b):
 (∀ i,i<m->rl (D.V i)<=b)∧(∀ i j,i<m->j<n->rl (D.A i j)<=b)∧∀j,j<n->rl (D.G j)<=b:=by
 obtain ⟨k,hk⟩:=hD
 have hi:=a2z hv hk
 have hn:=b4b h0 hv hk
 obtain ⟨d,hd,hdb⟩:=b5Y h (D:=D) hi.p.fb
 rw [hd] at hn
 have hd0:d≠0:=fun e=>hn (by rw [e];rfl)
 refine ⟨fun i him=>?_,fun i j him hj=>?_,fun j hj=>?_⟩
 ·obtain ⟨p,hp,hpb⟩:=b31 h (D:=D) hi.p.fb (hi.p.ob i him)
  rw [b9D h0 hi.i him,hd] at hp
  have hK:=h.k
  have e:=a9d (x:=D.V i) (p:=p) (q:=(K:Int)*d) (by
   intro e
   rcases Int.mul_eq_zero.1 e with e|e
   ·omega
   ·exact hd0 e) (by rw [← hp];push_cast;grind)
  have q1:=a5j hpb b1
  have q2:bl ((K:Int)*d)<=b:=a5j (X:=K*a68 n fun _=>BA) (by rw [aa3];exact lbS (by simp) hdb) b3
  omega
 ·obtain ⟨p,hp,hpb⟩:=aF7 h (D:=D) hi.p.fb (lbQ _) (u:=uV n D0 (D.O i)) (fun l hl=>aw9 h (hi.p.ob i him) hl) j
  rw [b7v h0 hi.i him hj,hd] at hp
  have e:=a9d (x:=-(D.A i j)) (p:=p) (q:=d) hd0 (by rw [← hp];grind)
  rw [R9] at e
  have q1:=a5j hpb b4
  have q2:=a5j hdb b4
  omega
 ·obtain ⟨z,hz⟩:=hi.g
  obtain ⟨p,hp,hpb⟩:=aF7 h (D:=D) hi.p.fb h.ag (u:=uG g0) (fun l hl=>h.g l hl) j
  rw [b9s h0 hi.i hz hj,hd] at hp
  have e:=a9d (x:=D.G j) (p:=p) (q:=d) hd0 (by rw [← hp];grind)
  have q1:=a5j hpb b2
  have q2:=a5j hdb b4
  omega
end
section
open Go.RowKit
inductive SK where
 |any|full|nil|nul|non
inductive T where
 |atm (v:Value)
 |sl (size:Nat) (k:SK) (rows:List (List T))
 |ptr (cells:List T)
 |fn (f:Fn) (caps:List T)
inductive C where
 |t (x:T)
 |ptr (id row off:Nat)
 |own (id lo len:Nat) (app:Bool)
 |fn (f:Fn) (caps:List C)
inductive S where
 |junk
 |c (x:C)
 |agg (cs:List C)
 |tup (ss:List S)
abbrev J:S:=.junk
inductive BM where
 |live|froz|old|dead
def BM.gone:BM->Prop
 |.dead=>True
 |.old=>True
 |_=>False
structure Blk where
 mode:BM
 elem:TypeId
 size:Nat
 rows:List (List C)
 box:Bool
 app:Bool:=false
inductive Loc where
 |nil
 |blk (b cap size:Nat)
abbrev Hp:=List Blk
abbrev Io:=Nat->Option Loc
abbrev Ms:=Nat->Prop
def at2 {α:Type} (rows:List (List α)) (i j:Nat):Option α:=(rows[i]?).bind (·[j]?)
inductive RT (w:World) (M:Ms):T->Value->Prop
 |atm {v:Value} (h:v.oneCell'=true):RT w M (.atm v) v
 |sl {size:Nat} {k:SK} {rows:List (List T)} {b off cap:Nat} {A:Option Addr} (f:Nat->Nat->Value)
   (hrow:∀r ∈ rows,r.length=size) (hcap:rows.length<=cap) (hmax:cap<=maxLen) (hk:k=.full->cap=rows.length)
   (hn:k=.nil->rows=[]∧A=none∧cap=0) (hA:rows≠[]->A=some ⟨b,off,none⟩)
   (hc:∀i j c,at2 rows i j=some c->w.cell? ⟨b,off+(i*size+j),none⟩=some (f i j)∧¬M b)
   (hr:∀i j c,at2 rows i j=some c->RT w M c (f i j)) (hx:(k=.nul->rows=[]∧A=none)∧(k=.non->A≠none):=by exact ⟨(fun h=>nomatch h),(fun h=>nomatch h)⟩):RT w M (.sl size k rows) (.slice A rows.length cap)
 |ptr {cells:List T} {b off:Nat} (f:Nat->Value)
   (hc:∀j c,cells[j]? =some c->w.cell? ⟨b,off+j,none⟩=some (f j)∧¬M b)
   (hr:∀j c,cells[j]? =some c->RT w M c (f j)):RT w M (.ptr cells) (.pointer (some ⟨b,off,none⟩))
 |fn {f:Fn} {caps:List T} (vs:List Value) (hl:vs.length=caps.length)
   (hr:∀j c,caps[j]? =some c->RT w M c (vs.getD j undef)):RT w M (.fn f caps) (.func f #[] vs.toArray)
inductive RC (w:World) (ι:Io) (M:Ms):C->Value->Prop
 |t {x:T} {v:Value} (h:RT w M x v):RC w ι M (.t x) v
 |ptr {id r o b cap size:Nat} (h:ι id=some (.blk b cap size)):RC w ι M (.ptr id r o) (.pointer (some ⟨b,r*size+o,none⟩))
 |own {id lo len:Nat} {app:Bool} {b cap size:Nat} {A:Option Addr} {cap':Nat} (h:ι id=some (.blk b cap size)) (h1:lo+len<=cap)
   (h2:0<len->A=some ⟨b,lo*size,none⟩) (h3:len<=cap') (h4:cap'<=maxLen)
   (h5:app=true->lo=0∧A=some ⟨b,0,none⟩∧cap'=cap):RC w ι M (.own id lo len app) (.slice A len cap')
 |nil {id:Nat} {app:Bool} {A:Option Addr} (h:ι id=some .nil):RC w ι M (.own id 0 0 app) (.slice A 0 0)
 |fn {f:Fn} {caps:List C} (vs:List Value) (hl:vs.length=caps.length)
   (hr:∀j c,caps[j]? =some c->RC w ι M c (vs.getD j undef)):RC w ι M (.fn f caps) (.func f #[] vs.toArray)
inductive RS (w:World) (ι:Io) (M:Ms):S->Value->Prop
 |junk {v:Value}:RS w ι M .junk v
 |c {x:C} {v:Value} (h:RC w ι M x v):RS w ι M (.c x) v
 |agg {cs:List C} (vs:List Value) (hl:vs.length=cs.length)
   (hr:∀j c,cs[j]? =some c->RC w ι M c (vs.getD j undef)):RS w ι M (.agg cs) (.agg vs.toArray)
 |tup {ss:List S} (vs:List Value) (hl:vs.length=ss.length)
   (hr:∀j s,ss[j]? =some s->RS w ι M s (vs.getD j undef)):RS w ι M (.tup ss) (.tuple vs.toArray)
theorem RT.one {w:World} {M:Ms} {x:T} {v:Value} (h:RT w M x v):v.oneCell'=true:=by
 cases h<;>first|assumption|rfl
theorem RC.one {w:World} {ι:Io} {M:Ms} {x:C} {v:Value} (h:RC w ι M x v):v.oneCell'=true:=by
 cases h<;>first|exact RT.one ‹_›|rfl
def E7 (w:World) (ι:Io) (M:Ms) (k:Blk):Loc->Prop
 |.nil=>k.rows=[]
 |.blk b cap size=>k.size=size∧0<size∧k.rows.length<=cap∧cap<=maxLen∧(∀ r ∈ k.rows,r.length=size)∧
   ∃cur:Array Value,w.heap[b]? =some (.cells cur k.elem (0,0))∧cur.size=cap*size∧
    ∀i j c,at2 k.rows i j=some c->∃u,cur[i*size+j]? =some u∧RC w ι M c u
structure j4 (w:World) (ι:Io) (M:Ms) (H:Hp):Prop where
 blk:∀(id:Nat) (k:Blk),H[id]? =some k->k.mode≠.dead->∀l,ι id=some l->E7 w ι M k l
 liv:∀(id:Nat) (k:Blk),H[id]? =some k->k.mode=.live->∀b cap size,ι id=some (.blk b cap size)->M b
 fro:∀(id:Nat) (k:Blk),H[id]? =some k->k.mode=.froz->∀b cap size,ι id=some (.blk b cap size)->¬M b
 inj:∀(id id':Nat) (k k':Blk),H[id]? =some k->H[id']? =some k'->k.mode=.live->k'.mode=.live->
  ∀b cap size cap' size',ι id=some (.blk b cap size)->ι id'=some (.blk b cap' size')->id=id'
 old:∀(id id':Nat) (k k':Blk),H[id]? =some k->H[id']? =some k'->k.mode=.old->k'.mode=.live->
  ∀b cap size cap' size',ι id=some (.blk b cap size)->ι id'=some (.blk b cap' size')->k'.app=true∧size=size'∧k.rows.length<=k'.rows.length
def a1Z (ι:Io) (H:Hp) (b:Nat):Prop:=∃id k cap size,H[id]? =some k∧k.mode=.live∧ι id=some (.blk b cap size)
def MB (w:World) (M:Ms):Prop:=∀b,M b->b<w.heap.size
def a0R (ι:Io) (n:Nat):Prop:=∀id,n<=id->ι id=none
structure a3v (w:World) (ι:Io) (M:Ms) (H:Hp) (w':World) (ι':Io) (M':Ms) (H':Hp):Prop where
 os:w'.os=w.os
 tape:w'.tape=w.tape
 output:w'.output=w.output
 size:w.heap.size<=w'.heap.size
 keep:∀b,b<w.heap.size->¬a1Z ι H b->w'.heap[b]? =w.heap[b]?
 same:∀id,id<H.length->ι' id=ι id
 mnew:∀b,M' b->M b∨w.heap.size<=b
 mold:∀b,M b->M' b∨a1Z ι H b
 live:∀b,a1Z ι' H' b->a1Z ι H b∨w.heap.size<=b
 len:H.length<=H'.length
theorem A9 {w:World} {b:Nat} {o:Obj} (h:w.heap[b]? =some o):b<w.heap.size:=(lb4.1 h).1
theorem a9h {w:World} {a:Addr} {u:Value} (h:w.cell? a=some u):a.block<w.heap.size:=World.block_lt_of_cell? w a h
theorem RT.keep {w w':World} {M M':Ms} (hk:∀b,b<w.heap.size->¬M b->w'.heap[b]? =w.heap[b]?) (hm:∀b,M' b->M b∨w.heap.size<=b)
 {x:T} {v:Value} (h:RT w M x v):RT w' M' x v:=by
 induction h with
 |atm h=>exact .atm h
 |sl f hrow hcap hmax hk1 hn hA hc hr hx ih=>
  refine .sl f hrow hcap hmax hk1 hn hA (fun i j c hc'=>?_) ih hx
  obtain ⟨h1,h2⟩:=hc i j c hc'
  have hlt:=a9h h1
  refine ⟨(World.cell?_of_block (hk _ hlt h2)).trans h1,fun hM=>?_⟩
  rcases hm _ hM with h3|h3
  ·exact h2 h3
  ·exact absurd h3 (by simpa using hlt)
 |ptr f hc hr ih=>
  refine .ptr f (fun j c hc'=>?_) ih
  obtain ⟨h1,h2⟩:=hc j c hc'
  have hlt:=a9h h1
  refine ⟨(World.cell?_of_block (hk _ hlt h2)).trans h1,fun hM=>?_⟩
  rcases hm _ hM with h3|h3
  ·exact h2 h3
  ·exact absurd h3 (by simpa using hlt)
 |fn vs hl hr ih=>exact .fn vs hl ih
theorem RC.keep {w w':World} {ι ι':Io} {M M':Ms} (hk:∀b,b<w.heap.size->¬M b->w'.heap[b]? =w.heap[b]?) (hm:∀b,M' b->M b∨w.heap.size<=b)
 (hi:∀id l,ι id=some l->ι' id=some l) {x:C} {v:Value} (h:RC w ι M x v):RC w' ι' M' x v:=by
 induction h with
 |t h=>exact .t (h.keep hk hm)
 |ptr h=>exact .ptr (hi _ _ h)
 |own h h1 h2 h3 h4 h5=>exact .own (hi _ _ h) h1 h2 h3 h4 h5
 |nil h=>exact .nil (hi _ _ h)
 |fn vs hl hr ih=>exact .fn vs hl ih
theorem RS.keep {w w':World} {ι ι':Io} {M M':Ms} (hk:∀b,b<w.heap.size->¬M b->w'.heap[b]? =w.heap[b]?) (hm:∀b,M' b->M b∨w.heap.size<=b)
 (hi:∀id l,ι id=some l->ι' id=some l) {x:S} {v:Value} (h:RS w ι M x v):RS w' ι' M' x v:=by
 induction h with
 |junk=>exact .junk
 |c h=>exact .c (h.keep hk hm hi)
 |agg vs hl hr=>exact .agg vs hl fun j c hc=>(hr j c hc).keep hk hm hi
 |tup vs hl hr ih=>exact .tup vs hl ih
theorem a1Z.inM {w:World} {ι:Io} {M:Ms} {H:Hp} (h:j4 w ι M H) {b:Nat} (hl:a1Z ι H b):M b:=by
 obtain ⟨id,k,cap,size,h1,h2,h3⟩:=hl
 exact h.liv id k h1 h2 b cap size h3
theorem a3v.refl (w:World) (ι:Io) (M:Ms) (H:Hp):a3v w ι M H w ι M H:=
 ⟨rfl,rfl,rfl,lbQ _,fun _ _ _=>rfl,fun _ _=>rfl,fun _ h=>.inl h,fun _ h=>.inl h,fun _ h=>.inl h,lbQ _⟩
theorem a3v.trans {w w1 w2:World} {ι ι1 ι2:Io} {M M1 M2:Ms} {H H1 H2:Hp} (hb:MB w M) (a:a3v w ι M H w1 ι1 M1 H1) (c:a3v w1 ι1 M1 H1 w2 ι2 M2 H2):
 a3v w ι M H w2 ι2 M2 H2 where
 os:=c.os.trans a.os
 tape:=c.tape.trans a.tape
 output:=c.output.trans a.output
 size:=lbR a.size c.size
 keep:=fun k hk hl=>(c.keep k (a27 hk a.size) fun h=>by rcases a.live k h with h|h;exact hl h;omega).trans (a.keep k hk hl)
 same:=fun id hid=>(c.same id (a27 hid a.len)).trans (a.same id hid)
 mnew:=fun k h=>by
  rcases c.mnew k h with h|h
  ·exact a.mnew k h
  ·exact .inr (lbR a.size h)
 mold:=fun k h=>by
  rcases a.mold k h with h1|h1
  ·rcases c.mold k h1 with h2|h2
   ·exact .inl h2
   ·rcases a.live k h2 with h3|h3
    ·exact .inr h3
    ·have:=hb k h;omega
  ·exact .inr h1
 live:=fun k h=>by
  rcases c.live k h with h|h
  ·exact a.live k h
  ·exact .inr (lbR a.size h)
 len:=lbR a.len c.len
structure Ext (w w':World):Prop where
 os:w'.os=w.os
 tape:w'.tape=w.tape
 output:w'.output=w.output
 size:w.heap.size<=w'.heap.size
 keep:∀b,b<w.heap.size->w'.heap[b]? =w.heap[b]?
theorem Ext.refl (w:World):Ext w w:=⟨rfl,rfl,rfl,lbQ _,fun _ _=>rfl⟩
def A8 (ι:Io) (n m:Nat) (new:Nat->Loc):Io:=fun id=>if n<=id∧id<n+m then some (new (id - n)) else ι id
def a5d (M:Ms) (m:Nat) (new:Nat->Loc):Ms:=fun b=>M b∨∃k,k<m∧∃cap size,new k=.blk b cap size
def H7 (w:World) (ι:Io) (M:Ms) (n:Nat) (s:S) (B:List Blk) (v:Value) (w':World):Prop:=
 ∃new:Nat->Loc,RS w' (A8 ι n B.length new) (a5d M B.length new) s v∧Ext w w'∧
  (∀ k blk,B[k]? =some blk->blk.mode=.live∧E7 w' (A8 ι n B.length new) (a5d M B.length new) blk (new k))∧
  (∀ k b cap size,k<B.length->new k=.blk b cap size->w.heap.size<=b∧b<w'.heap.size)∧
  (∀ k k' b cap size cap' size',k<B.length->k'<B.length->new k=.blk b cap size->new k'=.blk b cap' size'->k=k')
def E1 (w:World) (ι:Io) (M:Ms) (H:Hp) (s:S) (H':Hp) (v:Value) (w':World):Prop:=
 ∃(ι':Io) (M':Ms),RS w' ι' M' s v∧j4 w' ι' M' H'∧MB w' M'∧a0R ι' H'.length∧a3v w ι M H w' ι' M' H'
theorem a7V {ι:Io} {n m:Nat} {new:Nat->Loc} (hf:∀k,k<m->ι (n+k)=none) {id:Nat} {l:Loc} (h:ι id=some l):A8 ι n m new id=some l:=by
 unfold A8
 split
 ·rename_i hc
  have:=hf (id - n) (by omega)
  rw [show n+(id - n)=id by omega,h] at this
  cases this
 ·exact h
theorem H7.gpost {w:World} {ι:Io} {M:Ms} {H:Hp} {s:S} {B:List Blk} {v:Value} {w':World} (hH:j4 w ι M H) (hM:MB w M) (hF:a0R ι H.length)
 (h:H7 w ι M H.length s B v w'):E1 w ι M H s (H++B) v w':=by
 obtain ⟨new,h1,h2,h3,h4,h5⟩:=h
 have hnone:∀k,k<B.length->ι (H.length+k)=none:=fun k _=>hF _ (by omega)
 have hold:∀id,id<H.length->A8 ι H.length B.length new id=ι id:=fun id hid=>by
  unfold A8;rw [if_neg (by omega)]
 have hnew:∀k,k<B.length->A8 ι H.length B.length new (H.length+k)=some (new k):=fun k hk=>by
  unfold A8;rw [if_pos (by omega)];congr 2;omega
 have hdist:∀id b cap size,ι id=some (.blk b cap size)->∀k,H[id]? =some k->k.mode≠.dead->b<w.heap.size:=fun id b cap size hi k hk hd=>by
  have:=hH.blk id k hk hd _ hi
  obtain ⟨_,_,_,_,_,cur,hc,_⟩:=this
  exact A9 hc
 refine ⟨_,_,h1,⟨?_,?_,?_,?_,?_⟩,?_,?_,?_⟩
 ·intro id k hk hd l hl
  by_cases hid:id<H.length
  ·rw [lbb hid] at hk
   rw [hold id hid] at hl
   have hb:=hH.blk id k hk hd l hl
   cases l with
   |nil=>exact hb
   |blk b cap size=>
    obtain ⟨q1,q2,q3,q4,q5,cur,q6,q7,q8⟩:=hb
    refine ⟨q1,q2,q3,q4,q5,cur,(h2.keep b (A9 q6)).trans q6,q7,fun i j c hc=>?_⟩
    obtain ⟨u,hu,hr⟩:=q8 i j c hc
    refine ⟨u,hu,hr.keep (fun b hb _=>h2.keep b hb) (fun b hb=>?_) (fun id l=>a7V hnone)⟩
    rcases hb with hb|⟨k,hk,cap,size,he⟩
    ·exact .inl hb
    ·exact .inr (h4 k b cap size hk he).1
  ·rw [lbc (by omega)] at hk
   have hlt:=(lbe.1 hk).1
   have e:A8 ι H.length B.length new id=some (new (id - H.length)):=by
    unfold A8;rw [if_pos (by omega)]
   rw [e] at hl
   injection hl with hl
   subst hl
   exact (h3 _ _ hk).2
 ·intro id k hk hl b cap size hi
  by_cases hid:id<H.length
  ·rw [lbb hid] at hk
   rw [hold id hid] at hi
   exact .inl (hH.liv id k hk hl b cap size hi)
  ·rw [lbc (by omega)] at hk
   have hlt:=(lbe.1 hk).1
   have e:A8 ι H.length B.length new id=some (new (id - H.length)):=by
    unfold A8;rw [if_pos (by omega)]
   rw [e] at hi
   injection hi with hi
   exact .inr ⟨_,hlt,cap,size,hi⟩
 ·intro id k hk hl b cap size hi
  by_cases hid:id<H.length
  ·rw [lbb hid] at hk
   rw [hold id hid] at hi
   have hb:=hdist _ _ _ _ hi k hk (by rw [hl];intro h;cases h)
   rintro (hM'|⟨k',hk',cap',size',he⟩)
   ·exact hH.fro id k hk hl b cap size hi hM'
   ·have:=(h4 _ _ _ _ hk' he).1
    omega
  ·rw [lbc (by omega)] at hk
   have:=(h3 _ _ hk).1
   rw [hl] at this
   cases this
 ·intro id id' k k' hk hk' hl hl' b cap size cap' size' hi hi'
  by_cases hid:id<H.length<;>by_cases hid':id'<H.length
  ·rw [lbb hid] at hk
   rw [lbb hid'] at hk'
   rw [hold _ hid] at hi
   rw [hold _ hid'] at hi'
   exact hH.inj id id' k k' hk hk' hl hl' b cap size cap' size' hi hi'
  ·rw [lbb hid] at hk
   rw [hold _ hid] at hi
   have:=hdist _ _ _ _ hi k hk (by rw [hl];intro h;cases h)
   rw [lbc (by omega)] at hk'
   have hlt:=(lbe.1 hk').1
   have e:A8 ι H.length B.length new id'=some (new (id' - H.length)):=by
    unfold A8;rw [if_pos (by omega)]
   rw [e] at hi'
   injection hi' with hi'
   have:=(h4 _ _ _ _ hlt hi').1
   omega
  ·rw [lbb hid'] at hk'
   rw [hold _ hid'] at hi'
   have:=hdist _ _ _ _ hi' k' hk' (by rw [hl'];intro h;cases h)
   rw [lbc (by omega)] at hk
   have hlt:=(lbe.1 hk).1
   have e:A8 ι H.length B.length new id=some (new (id - H.length)):=by
    unfold A8;rw [if_pos (by omega)]
   rw [e] at hi
   injection hi with hi
   have:=(h4 _ _ _ _ hlt hi).1
   omega
  ·rw [lbc (by omega)] at hk hk'
   have hlt:=(lbe.1 hk).1
   have hlt':=(lbe.1 hk').1
   have e:A8 ι H.length B.length new id=some (new (id - H.length)):=by
    unfold A8;rw [if_pos (by omega)]
   have e':A8 ι H.length B.length new id'=some (new (id' - H.length)):=by
    unfold A8;rw [if_pos (by omega)]
   rw [e] at hi
   rw [e'] at hi'
   injection hi with hi
   injection hi' with hi'
   have:=h5 _ _ _ _ _ _ _ hlt hlt' hi hi'
   omega
 ·intro id id' k k' hk hk' hl hl' b cap size cap' size' hi hi'
  by_cases hid:id<H.length
  ·rw [lbb hid] at hk
   rw [hold _ hid] at hi
   by_cases hid':id'<H.length
   ·rw [lbb hid'] at hk'
    rw [hold _ hid'] at hi'
    exact hH.old id id' k k' hk hk' hl hl' b cap size cap' size' hi hi'
   ·have:=hdist _ _ _ _ hi k hk (by rw [hl];intro h;cases h)
    rw [lbc (by omega)] at hk'
    have hlt:=(lbe.1 hk').1
    have e:A8 ι H.length B.length new id'=some (new (id' - H.length)):=by
     unfold A8;rw [if_pos (by omega)]
    rw [e] at hi'
    injection hi' with hi'
    have:=(h4 _ _ _ _ hlt hi').1
    omega
  ·rw [lbc (by omega)] at hk
   have:=(h3 _ _ hk).1
   rw [hl] at this
   cases this
 ·intro b hb
  rcases hb with hb|⟨k,hk,cap,size,he⟩
  ·exact a27 (hM b hb) h2.size
  ·exact (h4 k b cap size hk he).2
 ·intro id hid
  rw [lbq] at hid
  unfold A8
  rw [if_neg (by omega)]
  exact hF id (by omega)
 ·refine ⟨h2.os,h2.tape,h2.output,h2.size,fun b hb _=>h2.keep b hb,fun id hid=>hold id hid,?_,fun b hb=>.inl (.inl hb),?_,by simp⟩
  ·intro b hb
   rcases hb with hb|⟨k,hk,cap,size,he⟩
   ·exact .inl hb
   ·exact .inr (h4 k b cap size hk he).1
  ·rintro b ⟨id,k,cap,size,hk,hl,hi⟩
   by_cases hid:id<H.length
   ·rw [lbb hid] at hk
    rw [hold _ hid] at hi
    exact .inl ⟨id,k,cap,size,hk,hl,hi⟩
   ·rw [lbc (by omega)] at hk
    have hlt:=(lbe.1 hk).1
    have e:A8 ι H.length B.length new id=some (new (id - H.length)):=by
     unfold A8;rw [if_pos (by omega)]
    rw [e] at hi
    injection hi with hi
    exact .inr (h4 _ _ _ _ hlt hi).1
def a7S (P : Program) (g : FuncId) : Prop := ∃ fn, P.funcs[g]? = some fn ∧ fn.body.isSome = true ∧ fn.name ≠ "runtime.NumGoroutine"
def R2 (P:Program) (g:FuncId) (args:List S) (H:Hp) (s:S) (B:List Blk):Prop:=
 a7S P g∧∀(w:World) (ι:Io) (M:Ms) (vals:List Value),vals.length=args.length->(∀ j s,args[j]? =some s->RS w ι M s (vals.getD j undef))->j4 w ι M H->MB w M->
  (∀ k,k<B.length->ι (H.length+k)=none)->Calls P g vals.toArray w fun e w'=>∃v,e=.returned v∧H7 w ι M H.length s B v w'
def a8 (P:Program) (g:FuncId) (args:List S) (H:Hp) (s:S) (H':Hp):Prop:=
 a7S P g∧∀(w:World) (ι:Io) (M:Ms) (vals:List Value),vals.length=args.length->(∀ j s,args[j]? =some s->RS w ι M s (vals.getD j undef))->j4 w ι M H->MB w M->
  a0R ι H.length->Calls P g vals.toArray w fun e w'=>∃v,e=.returned v∧E1 w ι M H s H' v w'
end
section
open Go.RowKit
inductive TK where
 |bas
 |bool
 |int (k:IntKind)
 |slice (e:TypeId)
 |arr (n:Nat) (e:TypeId)
 |struct (fs:List (Nat × Nat × Bool))
structure TD where
 k:TK
 agg:Bool
 size:Nat
 bytes:Nat
 zero:List Value
abbrev Tab:=Nat->Option TD
abbrev Env:=List S
def C8 (v:Value):C:=
 match v with
 |.slice none 0 0=>.t (.sl 0 .nil [])
 |v=>.t (.atm v)
def aU3 (v:Value):S:=
 match v with
 |.agg cs=>cond (cs.toList.all (·.oneCell')) (.agg (cs.toList.map C8)) .junk
 |.tuple _=>.junk
 |.slice none 0 0=>.c (.t (.sl 0 .nil []))
 |v=>.c (.t (.atm v))
def F5 (env:Env):Operand->S
 |.tmp t=>env.getD t .junk
 |.const v=>aU3 v
 |.global _=>.junk
 |.func f=>.c (.t (.fn (.func f) []))
section
variable {α β:Type}
def aK4:Nat->List α->(List α->Prop)->Prop
 |0,_,k=>k []
 |_+1,[],_=>False
 |n+1,x::l,k=>aK4 n l fun r=>k (x::r)
def ak8:Nat->List α->(List α->Prop)->Prop
 |0,l,k=>k l
 |_+1,[],_=>False
 |n+1,_::l,k=>ak8 n l k
def a2M (n:Nat) (l:List α) (k:α->Prop):Prop:=
 List.rec (motive:=fun _=>Nat->Prop) (fun _=>False) (fun x _ ih n=>Nat.rec (motive:=fun _=>Prop) (k x) (fun n _=>ih n) n) l n
def a4W (n:Nat) (v:α) (l:List α) (k:List α->Prop):Prop:=
 List.rec (motive:=fun _=>Nat->(List α->Prop)->Prop) (fun _ k=>k []) (fun x r ih n k=>Nat.rec (motive:=fun _=>Prop) (k (v::r)) (fun n _=>ih n fun q=>k (x::q)) n) l n k
def a3N:Nat->List α->List α->(List α->Prop)->Prop
 |_,[],l,k=>k l
 |_,_::_,[],_=>False
 |0,x::xs,_::l,k=>a3N 0 xs l fun r=>k (x::r)
 |n+1,x::xs,y::l,k=>a3N n (x::xs) l fun r=>k (y::r)
def a91 (f:α->β):List α->(List β->Prop)->Prop
 |[],k=>k []
 |x::l,k=>a91 f l fun r=>k (f x::r)
def ab6 (l r:List α) (k:List α->Prop):Prop:=
 List.rec (motive:=fun _=>(List α->Prop)->Prop) (fun k=>k r) (fun x _ ih k=>ih fun q=>k (x::q)) l k
def a8Y (l:List α) (n:Nat) (k:Nat->Prop):Prop:=
 List.rec (motive:=fun _=>Nat->Prop) (fun n=>k n) (fun _ _ ih n=>ih (n+1)) l n
end
def aU1:List C->Option (List T)
 |[]=>some []
 |.t x::r=>match aU1 r with
  |some xs=>some (x::xs)
  |none=>none
 |_::_=>none
def aE9:List (List C)->Option (List (List T))
 |[]=>some []
 |x::r=>match aU1 x,aE9 r with
  |some a,some b=>some (a::b)
  |_,_=>none
def a7 (k:IntKind) (n:Int):S:=.c (.t (.atm (.int k n)))
def d9 (b:Bool):S:=.c (.t (.atm (.bool b)))
def ae5 (s:S) (k:S->Prop):Prop:=
 match s with
 |.junk=>k .junk
 |.c x=>k (.c x)
 |.agg cs=>k (.agg cs)
 |.tup ss=>k (.tup ss)
structure a1P (b:Bool) (k:S->Prop):Prop where
 yes:b=true->k (d9 true)
 no:b=false->k (d9 false)
structure aj0 (p:Prop) [Decidable p] (k:S->Prop):Prop where
 yes:p->k (d9 true)
 no:¬p->k (d9 false)
def aI7 (s:S) (k:S->Prop):Prop:=
 match s with
 |.junk=>k .junk
 |.c x=>match x with
  |.t y=>match y with
   |.atm v=>match v with
    |.bool b=>a1P b k
    |v=>k (.c (.t (.atm v)))
   |y=>k (.c (.t y))
  |x=>k (.c x)
 |.agg cs=>k (.agg cs)
 |.tup ss=>k (.tup ss)
def a29 (s:S) (k:List C->Prop):Prop:=
 match s with
 |.c x=>k [x]
 |.agg cs=>k cs
 |_=>False
def G0 (k:IntKind) (x n:Int):Prop:=n=k.wrap x
def b0O (d:TD) (row:List C) (o:Nat) (K:S->Prop):Prop:=
 ak8 o row fun r=>cond d.agg (aK4 d.size r fun cs=>K (.agg cs)) (a2M 0 r fun c=>K (.c c))
def aF4 (d:TD) (row:List T) (K:S->Prop):Prop:=
 cond d.agg (aK4 d.size row fun cs=>a91 C.t cs fun cs=>K (.agg cs)) (a2M 0 row fun c=>K (.c (.t c)))
def b6O (b:Blk) (r:Nat) (k:List C->Prop):Prop:=
 match b.box with
 |true=>match b.rows,r with
  |[row],0=>k row
  |_,_=>False
 |false=>∃row,b.rows[r]? =some row∧k row
def a1r (b:Blk) (k:Prop):Prop:=match b.mode with|.dead=>False|_=>k
def a3J (b:Blk) (k:Prop):Prop:=match b.mode,b.app with|.live,false=>k|_,_=>False
def ag0 (b:Blk) (k k':Prop):Prop:=match b.mode with|.live=>cond b.app k k'|_=>False
structure a90 (a b c:Prop):Prop where
 out:a∨b∨c
theorem a90.data {a b c:Prop} (h:a):a90 a b c:=⟨.inl h⟩
theorem a90.own {a b c:Prop} (h:b):a90 a b c:=⟨.inr (.inl h)⟩
theorem a90.weak {a b c:Prop} (h:c):a90 a b c:=⟨.inr (.inr h)⟩
structure ag3 (a b:Prop):Prop where
 out:a∨b
theorem ag3.data {a b:Prop} (h:a):ag3 a b:=⟨.inl h⟩
theorem ag3.own {a b:Prop} (h:b):ag3 a b:=⟨.inr h⟩
def ao9 (τ:Tab) (ev:Operand->S) (H:Hp) (t:TypeId) (x:Operand) (K:S->Prop):Prop:=
 match τ t with
 |none=>False
 |some d=>match ev x with
  |.c (.ptr id r o)=>a2M id H fun b=>a1r b (b6O b r fun row=>b0O d row o K)
  |.c (.t (.ptr cells))=>aF4 d cells K
  |_=>False
def w6 (b:Blk) (rows:List (List C)):Blk:=⟨b.mode,b.elem,b.size,rows,b.box,b.app⟩
def az8 (τ:Tab) (ev:Operand->S) (H:Hp) (t:TypeId) (x v:Operand) (K:Hp->Prop):Prop:=
 match τ t with
 |none=>False
 |some d=>match ev x with
  |.c (.ptr id r o)=>a2M id H fun b=>a3J b <| a29 (ev v) fun cs=>cond (Nat.beq cs.length d.size)
    (b6O b r fun row=>a3N o cs row fun row'=>
      match b.box with
      |true=>a4W id (w6 b [row']) H K
      |false=>a4W id (w6 b (b.rows.set r row')) H K) False
  |_=>False
def aa5 (τ:Tab) (s:TypeId) (f:Nat) (k:Nat->Prop):Prop:=
 match τ s with
 |some ⟨.struct fs,_,_,_,_⟩=>match fs[f]? with
  |some (off,size,_)=>cond (Nat.beq size 0) False (k off)
  |none=>False
 |_=>False
def a5W (τ:Tab) (ev:Operand->S) (s:TypeId) (x:Operand) (f:Nat) (K:S->Prop):Prop:=
 aa5 τ s f fun off=>match ev x with
  |.c (.ptr id r o)=>K (.c (.ptr id r (o+off)))
  |.c (.t (.ptr cells))=>ak8 off cells fun cs=>K (.c (.t (.ptr cs)))
  |_=>False
def a3L (τ:Tab) (e:TypeId) (k:Nat->Prop):Prop:=match τ e with|some d=>k d.size|none=>False
def a31 (τ:Tab) (ev:Operand->S) (H:Hp) (t:TypeId) (x i:Operand) (K:S->Prop):Prop:=
 match ev i with
 |.c (.t (.atm (.int _ n)))=>match τ t with
  |some ⟨.slice e,_,_,_,_⟩=>match ev x with
   |.c (.t (.sl size k rows))=>a3L τ e fun s=>cond (Nat.beq s size) (∃ row,0<=n∧rows[n.toNat]? =some row∧K (.c (.t (.ptr row)))) False
   |.c (.own id lo len app)=>a3L τ e fun s=>a2M id H fun b=>a1r b (cond (Nat.beq s b.size) ((0<=n∧n<(len:Int))∧K (.c (.ptr id (lo+n.toNat) 0))) False)
   |_=>False
  |some ⟨.arr m e,_,_,_,_⟩=>a3L τ e fun s=>match ev x with
   |.c (.ptr id r o)=>(0<=n∧n<(m:Int))∧K (.c (.ptr id r (o+n.toNat*s)))
   |.c (.t (.ptr cells))=>(0<=n∧n<(m:Int))∧ak8 (n.toNat*s) cells fun cs=>K (.c (.t (.ptr cs)))
   |_=>False
  |_=>False
 |_=>False
def N5 (ev:Operand->S) (x:Option Operand) (dflt:Int) (k:Int->Prop):Prop:=
 match x with
 |none=>k dflt
 |some x=>match ev x with
  |.c (.t (.atm (.int _ n)))=>k n
  |_=>False
def a09 (k:SK) (hi max:Option Operand):SK:=
 match k,hi,max with
 |.full,none,none=>.full
 |_,_,_=>.any
def a4h (τ:Tab) (ev:Operand->S) (H:Hp) (t:TypeId) (x:Operand) (lo hi max:Option Operand) (K:S->Prop):Prop:=
 match τ t with
 |some ⟨.slice e,_,_,_,_⟩=>match max with
  |none=>match ev x with
   |.c (.t (.sl 0 .nil _))=>N5 ev lo 0 fun l=>N5 ev hi 0 fun h=>a3L τ e fun s=>(0<=l∧l<=h∧h<=0)∧K (.c (.t (.sl 0 .nil [])))
   |.c (.t (.sl size k rows))=>N5 ev lo 0 fun l=>N5 ev hi rows.length fun h=>a3L τ e fun s=>
     cond (Nat.beq s size) ((0<=l∧l<=h∧h<=rows.length)∧K (.c (.t (.sl size (a09 k hi max) ((rows.take h.toNat).drop l.toNat))))) False
   |.c (.own id l0 len app)=>N5 ev lo 0 fun l=>N5 ev hi len fun h=>
     a3L τ e fun s=>a2M id H fun b=>a1r b <| cond (Nat.beq s b.size) (((0<=l∧l<=h∧h<=(len:Int))∧K (.c (.own id (l0+l.toNat) (h - l).toNat (app && lo.isNone))))) False
   |_=>False
  |some y=>match ev y with
   |.c (.t (.atm (.int _ m)))=>match ev x with
    |.c (.t (.sl size k rows))=>N5 ev lo 0 fun l=>N5 ev hi 0 fun h=>a3L τ e fun s=>cond hi.isSome
      (cond (Nat.beq s size) ((0<=l∧l<=h∧m=h∧h<=rows.length)∧K (.c (.t (.sl size .full ((rows.take h.toNat).drop l.toNat))))) False) False
    |.c (.own id l0 len app)=>N5 ev lo 0 fun l=>N5 ev hi 0 fun h=>cond hi.isSome
      (a3L τ e fun s=>a2M id H fun b=>a1r b <| cond (Nat.beq s b.size) (((0<=l∧l<=h∧m=h∧h<=(len:Int))∧K (.c (.own id (l0+l.toNat) (h - l).toNat false)))) False) False
    |_=>False
   |_=>False
 |_=>False
def b02 (k:IntKind) (a b n:Int):Prop:=n=a.fdiv (2 ^ min b.toNat k.bits)
def a4n (op:BinOp) (k:IntKind) (a b n:Int):Prop:=
 match op with
 |.and=>n=k.wrap (BitVec.ofInt k.bits a &&& BitVec.ofInt k.bits b).toNat
 |.or=>n=k.wrap (BitVec.ofInt k.bits a ||| BitVec.ofInt k.bits b).toNat
 |.xor=>n=k.wrap (BitVec.ofInt k.bits a ^^^ BitVec.ofInt k.bits b).toNat
 |.andNot=>n=k.wrap (BitVec.ofInt k.bits a &&& ~~~ BitVec.ofInt k.bits b).toNat
 |_=>False
def b8D (op:BinOp) (k k':IntKind) (a b:Int) (K:S->Prop):Prop:=
 match op with
 |.shl=>0<=b∧∃n,G0 k (a*2 ^ min b.toNat k.bits) n∧K (a7 k n)
 |.shr=>0<=b∧∃n,b02 k a b n∧K (a7 k n)
 |op=>cond (decide (k=k')) (match op with
  |.add=>∃n,G0 k (a+b) n∧K (a7 k n)
  |.sub=>∃n,G0 k (a - b) n∧K (a7 k n)
  |.mul=>∃n,G0 k (a*b) n∧K (a7 k n)
  |.quo=>b≠0∧∃n,G0 k (a.tdiv b) n∧K (a7 k n)
  |.rem=>b≠0∧K (a7 k (a.tmod b))
  |.eql=>aj0 (a=b) K
  |.neq=>aj0 (a≠b) K
  |.lss=>aj0 (a<b) K
  |.leq=>aj0 (a<=b) K
  |.gtr=>aj0 (a > b) K
  |.geq=>aj0 (a≥b) K
  |op=>∃n,a4n op k a b n∧K (a7 k n)) False
def az7 (x:C) (k:Bool->Prop):Prop:=
 match x with
 |.t (.sl _ .nil _)=>k true
 |.t (.sl _ .nul _)=>k true
 |.t (.sl _ .non _)=>k false
 |.t (.sl _ _ rows)=>0<rows.length∧k false
 |.own _ _ len _=>0<len∧k false
 |_=>False
def EqS (P:Program) (t:TypeId) (n:Nat):Prop:=P.eqGuardType P.depth t=false∧∀(ul bs:List Int) (w:World),ul.length=n->bs.length=n->
 (Op.equalIn 10000 t (.agg (ul.map (Value.int .i64)).toArray) (.agg (bs.map (Value.int .i64)).toArray)).run P w=.ok (ul == bs) w
def aL9:List C->(List Int->Prop)->Prop
 |[],k=>k []
 |.t (.atm (.int .i64 a))::cs,k=>aL9 cs fun l=>k (a::l)
 |_,_=>False
def b9M (P:Program) (op:BinOp) (t:TypeId) (cs ds:List C) (K:S->Prop):Prop:=
 aL9 cs fun ul=>aL9 ds fun bs=>(EqS P t ul.length∧bs.length=ul.length)∧match op with
  |.eql=>a1P (ul == bs) K
  |.neq=>a1P (!(ul == bs)) K
  |_=>False
def b7U (P:Program) (τ:Tab) (op:BinOp) (t:TypeId) (x y:S) (K:S->Prop):Prop:=
 match x,y with
 |.c (.t (.atm (.int k a))),.c (.t (.atm (.int k' b)))=>b8D op k k' a b K
 |.c (.t (.atm (.bool a))),.c (.t (.atm (.bool b)))=>match τ t with
  |some ⟨.bool,_,_,_,_⟩=>match op with
   |.eql=>a1P (a == b) K
   |.neq=>a1P (!(a == b)) K
   |_=>False
  |_=>False
 |.c x,.c (.t (.sl _ .nil []))=>match τ t with
  |some ⟨.slice _,_,_,_,_⟩=>match op with
   |.eql=>az7 x fun b=>K (d9 b)
   |.neq=>az7 x fun b=>K (d9 (!b))
   |_=>False
  |_=>False
 |.c (.t (.ptr _)),.c (.t (.atm (.pointer none)))=>P.underlying t=some (.pointer (P.pointee t))∧match op with
  |.eql=>K (d9 false)
  |.neq=>K (d9 true)
  |_=>False
 |.agg cs,.agg ds=>b9M P op t cs ds K
 |_,_=>False
def aun (op:UnOp) (x:S) (K:S->Prop):Prop:=
 match op,x with
 |.neg,.c (.t (.atm (.int k a)))=>∃n,G0 k (0 - a) n∧K (a7 k n)
 |.not,.c (.t (.atm (.bool b)))=>K (d9 (!b))
 |_,_=>False
def b45 (τ:Tab) (src dst:TypeId) (x:S) (K:S->Prop):Prop:=
 match x,τ src,τ dst with
 |.c (.t (.atm (.int _ a))),some _,some ⟨.int k,_,_,_,_⟩=>∃n,G0 k a n∧K (a7 k n)
 |_,_,_=>False
def N4 (e:TypeId) (size:Nat) (rows:List (List C)) (box:Bool):Blk:=⟨.live,e,size,rows,box,false⟩
def b8F (e:TypeId) (size:Nat) (rows:List (List C)):Blk:=⟨.live,e,size,rows,false,true⟩
def a3E (b:Blk):Blk:=⟨.old,b.elem,b.size,b.rows,b.box,true⟩
def aZ3 (τ:Tab) (ev:Operand->S) (n:Nat) (t:TypeId) (l c:Operand) (K:S->List Blk->Prop):Prop:=
 match ev l,ev c,τ t with
 |.c (.t (.atm (.int _ a))),.c (.t (.atm (.int _ b))),some ⟨.slice e,_,_,_,_⟩=>match τ e with
  |some d=>cond (Nat.beq d.size 0) False ((0<=a∧a<=b∧b*(d.bytes+1)<=140737488355328)∧
    a91 C8 d.zero fun z=>K (.c (.own n 0 a.toNat true)) [N4 e d.size (List.replicate a.toNat z) false])
  |none=>False
 |_,_,_=>False
def a9c (fs:List (Nat × Nat × Bool)) (i:Nat) (cs:List C) (k:Nat->Prop):Prop:=
 match fs[i]? with
 |some (off,size,_)=>cond (Nat.beq cs.length size && Nat.blt 0 size) (k off) False
 |none=>False
def aK5 (fs:List (Nat × Nat × Bool)) (cells:List C):List (Nat × S)->(List C->Prop)->Prop
 |[],k=>k cells
 |(i,s)::rest,k=>a29 s fun cs=>a9c fs i cs fun off=>a3N off cs cells fun cells'=>aK5 fs cells' rest k
def aL2 (size:Nat) (cells:List C):List (Nat × S)->(List C->Prop)->Prop
 |[],k=>k cells
 |(i,s)::rest,k=>a29 s fun cs=>cond (Nat.beq cs.length size && Nat.blt 0 size) (a3N (i*size) cs cells fun cells'=>aL2 size cells' rest k) False
def av9 (τ:Tab) (ev:Operand->S) (t:TypeId) (parts:List (Nat × Operand)) (K:S->Prop):Prop:=
 match τ t with
 |some ⟨.struct fs,_,_,_,z⟩=>a91 C8 z fun z=>aK5 fs z (parts.map fun p=>(p.1,ev p.2)) fun cs=>K (.agg cs)
 |some ⟨.arr _ e,_,_,_,z⟩=>a3L τ e fun s=>a91 C8 z fun z=>aL2 s z (parts.map fun p=>(p.1,ev p.2)) fun cs=>K (.agg cs)
 |_=>False
def aF1 (size:Nat) (rows:List (List C)):List (Nat × S)->(List (List C)->Prop)->Prop
 |[],k=>k rows
 |(i,s)::rest,k=>a29 s fun cs=>cond (Nat.beq cs.length size && Nat.blt i rows.length) (a4W i cs rows fun rows'=>aF1 size rows' rest k) False
def a1M (τ:Tab) (ev:Operand->S) (n:Nat) (t:TypeId) (len:Nat) (parts:List (Nat × Operand)) (K:S->List Blk->Prop):Prop:=
 match τ t with
 |some ⟨.slice e,_,_,_,_⟩=>match τ e with
  |some d=>cond (Nat.beq d.size 0 || Nat.ble 16777216 (len*d.size)) False (a91 C8 d.zero fun z=>aF1 d.size (List.replicate len z) (parts.map fun p=>(p.1,ev p.2)) fun rows=>
    match aE9 rows with
    |some rs=>a90 (K (.c (.t (.sl d.size .full rs))) []) (K (.c (.own n 0 len true)) [N4 e d.size rows false]) (K (.c (.t (.sl d.size .any rs))) [])
    |none=>K (.c (.own n 0 len true)) [N4 e d.size rows false])
  |none=>False
 |_=>False
def b6m (ev:Operand->S) (n:Nat) (t:TypeId) (x:Operand) (K:S->List Blk->Prop):Prop:=
 a29 (ev x) fun cs=>match cs with
  |[]=>False
  |c::r=>match aU1 (c::r) with
   |some ts=>ag3 (K (.c (.t (.ptr ts))) []) (K (.c (.ptr n 0 0)) [N4 t (c::r).length [c::r] true])
   |none=>K (.c (.ptr n 0 0)) [N4 t (c::r).length [c::r] true]
def aR0 (τ:Tab) (n:Nat) (t:TypeId) (K:S->List Blk->Prop):Prop:=
 match τ t with
 |some d=>a91 C8 d.zero fun z=>cond (Nat.beq z.length 0) False (K (.c (.ptr n 0 0)) [N4 t z.length [z] true])
 |none=>False
def b7K (τ:Tab) (t:TypeId) (x:S) (K:S->Prop):Prop:=
 match τ t with
 |some ⟨.slice _,_,_,_,_⟩=>match x with
  |.c (.t (.sl _ _ rows))=>K (a7 .i64 rows.length)
  |.c (.own _ _ len _)=>K (a7 .i64 len)
  |_=>False
 |some ⟨.arr n _,_,_,_,_⟩=>K (a7 .i64 n)
 |_=>False
def toC (rows:List (List T)):List (List C):=rows.map (·.map C.t)
def b72 (size:Nat) (H:Hp) (x:S) (k:List (List C)->Prop):Prop:=
 match x with
 |.c (.t (.sl s _ rows))=>(rows.length=0∨s=size)∧k (toC rows)
 |.c (.own id lo len _)=>a2M id H fun b=>a1r b (cond (Nat.beq b.size size) (lo+len<=b.rows.length∧k ((b.rows.drop lo).take len)) False)
 |_=>False
def a97 (τ:Tab) (ev:Operand->S) (H:Hp) (n:Nat) (t:TypeId) (s x:Operand) (Kq:S->List Blk->Prop) (Kg:S->Hp->Prop):Prop:=
 match τ t with
 |some ⟨.slice e,_,_,_,_⟩=>match τ e with
  |some d=>cond (Nat.beq d.size 0) False (b72 d.size H (ev x) fun xr=>
    match ev s with
    |.c (.t (.sl _ .nil _))=>xr.length*(d.bytes+1)<=140737488355328∧Kq (.c (.own n 0 xr.length true)) [N4 e d.size xr false]
    |.c (.t (.sl sz .full rows))=>((rows.length=0∨(0<xr.length∧sz=d.size))∧(rows.length+xr.length)*(d.bytes+1)<=140737488355328)∧
      Kq (.c (.own n 0 (rows.length+xr.length) true)) [N4 e d.size (toC rows++xr) false]
    |.c (.own id _ len true)=>a2M id H fun b=>cond (Nat.beq b.size d.size && Nat.beq b.elem e) (ag0 b
      ((len=b.rows.length∧(len+xr.length)*(d.bytes+1)<=140737488355328)∧
        a4W id (a3E b) H fun H1=>ab6 H1 [b8F e d.size (b.rows++xr)] fun H'=>Kg (.c (.own n 0 (len+xr.length) true)) H')
      ((len<=b.rows.length∧(len+xr.length)*(d.bytes+1)<=140737488355328)∧
        a4W id ⟨.dead,e,d.size,[],false,false⟩ H fun H1=>ab6 H1 [N4 e d.size (b.rows.take len++xr) false] fun H'=>Kg (.c (.own n 0 (len+xr.length) true)) H')) False
    |_=>False)
  |none=>False
 |_=>False
def b11 (τ:Tab) (ev:Operand->S) (n:Nat) (t t':TypeId) (s x:Operand) (Kq:S->List Blk->Prop):Prop:=
 match τ t,τ t' with
 |some ⟨.slice e,_,_,_,_⟩,some ⟨.int _,_,_,_,_⟩=>match τ e with
  |some d=>cond (Nat.beq d.size 0) False (match ev s,ev x with
    |.c (.t (.sl _ .nil _)),.c (.t (.atm (.int .i64 m)))=>(1<=m∧m.toNat*(d.bytes+1)<=140737488355328)∧
      a91 C8 d.zero fun z=>Kq (.c (.own n 0 m.toNat true)) [N4 e d.size (List.replicate m.toNat z) false]
    |_,_=>False)
  |none=>False
 |_,_=>False
def b93 (τ:Tab) (t:TypeId) (x:S) (K:S->Prop):Prop:=
 match τ t with
 |some ⟨.slice _,_,_,_,_⟩=>match x with
  |.c (.t (.sl _ .nil _))=>K (a7 .i64 0)
  |_=>False
 |_=>False
def C7 (lo len:Nat) (rows xr:List (List C)):List (List C):=rows.take lo++(xr.take len++rows.drop (lo+(xr.take len).length))
def b0l (τ:Tab) (ev:Operand->S) (H:Hp) (t:TypeId) (x s:Operand) (Kg:S->Hp->Prop):Prop:=
 match τ t with
 |some ⟨.slice e,_,_,_,_⟩=>match τ e with
  |some d=>cond (Nat.beq d.size 0) False (b72 d.size H (ev s) fun xr=>
    match ev x with
    |.c (.own id lo len _)=>a2M id H fun b=>a3J b (cond (Nat.beq b.size d.size && Nat.beq b.elem e) (lo+len<=b.rows.length∧
      a4W id (w6 b (C7 lo len b.rows xr)) H fun H'=>Kg (a7 .i64 (xr.take len).length) H') False)
    |_=>False)
  |none=>False
 |_=>False
def aB0 (τ:Tab) (ev:Operand->S) (H:Hp) (t:TypeId) (x:Operand) (Kg:S->Hp->Prop):Prop:=
 match τ t with
 |some ⟨.slice e,_,_,_,_⟩=>match τ e with
  |some d=>cond (Nat.beq d.size 0) False (a91 C8 d.zero fun z=>
    match ev x with
    |.c (.own id lo len _)=>a2M id H fun b=>a3J b (cond (Nat.beq b.size d.size && Nat.beq b.elem e) (lo+len<=b.rows.length∧
      a4W id (w6 b (C7 lo len b.rows (List.replicate len z))) H fun H'=>Kg .junk H') False)
    |_=>False)
  |none=>False
 |_=>False
def b3x:List S->Option (List C)
 |[]=>some []
 |.c x::r=>match b3x r with
  |some xs=>some (x::xs)
  |none=>none
 |_::_=>none
def b6f (max:Bool):List S->(S->Prop)->Prop
 |[.c (.t (.atm (.int k a))),.c (.t (.atm (.int _ b)))],K=>K (a7 k (cond max (if b > a then b else a) (if b<a then b else a)))
 |_,_=>False
def b4N (P:Program) (g:FuncId) (args:List S) (H:Hp) (Kq:S->List Blk->Prop) (Kg:S->Hp->Prop):Prop:=
 (∃ r B,R2 P g args H r B∧aI7 r fun r=>Kq r B)∨(∃ r H',a8 P g args H r H'∧aI7 r fun r=>Kg r H')
def aT7 (s:S) (k:S->Prop):Prop:=match s with
 |.c (.ptr id r o)=>k (.c (.ptr id r o))
 |.c (.t (.ptr cs))=>k (.c (.t (.ptr cs)))
 |_=>False
def aop (P:Program) (τ:Tab) (ev:Operand->S) (H:Hp) (op:Op) (Kq:S->List Blk->Prop) (Kg:S->Hp->Prop):Prop:=
 match op with
 |.move x|.assign x=>ae5 (ev x) fun s=>Kq s []
 |.pick c a b=>match ev c with
  |.c (.t (.atm (.bool t)))=>cond t (ae5 (ev a) fun s=>Kq s []) (ae5 (ev b) fun s=>Kq s [])
  |_=>False
 |.load t x=>ao9 τ ev H t x fun s=>aI7 s fun s=>Kq s []
 |.store t x v=>az8 τ ev H t x v fun H'=>Kg .junk H'
 |.fieldAddr s x f=>a5W τ ev s x f fun s=>Kq s []
 |.indexAddr t x i=>a31 τ ev H t x i fun s=>Kq s []
 |.slice t x lo hi max=>a4h τ ev H t x lo hi max fun s=>Kq s []
 |.binOp op t x y _=>b7U P τ op t (ev x) (ev y) fun s=>Kq s []
 |.unOp op _ x=>aun op (ev x) fun s=>Kq s []
 |.convert src dst x=>b45 τ src dst (ev x) fun s=>Kq s []
 |.makeSlice t l c=>a8Y H 0 fun n=>aZ3 τ ev n t l c Kq
 |.build t parts=>av9 τ ev t parts.toList fun s=>Kq s []
 |.buildSlice t n parts=>a8Y H 0 fun m=>a1M τ ev m t n parts.toList Kq
 |.box t x=>a8Y H 0 fun n=>b6m ev n t x Kq
 |.alloc t=>a8Y H 0 fun n=>aR0 τ n t Kq
 |.extract x i=>match ev x with
  |.tup ss=>a2M i ss fun s=>aI7 s fun s=>Kq s []
  |_=>False
 |.makeFunc fn first caps=>match first.toList,b3x (caps.toList.map ev) with
  |[],some cs=>match aU1 cs with
   |some ts=>Kq (.c (.t (.fn fn ts))) []
   |none=>Kq (.c (.fn fn cs)) []
  |_,_=>False
 |.call c=>match c.callee with
  |.builtin .len=>match c.argTypes.toList,c.args.toList with
   |t::_,x::_=>b7K τ t (ev x) fun s=>Kq s []
   |_,_=>False
  |.builtin .append=>match c.argTypes.toList,c.args.toList with
   |[t,t'],[s,x]=>cond (Nat.beq t t') (a8Y H 0 fun n=>a97 τ ev H n t s x Kq Kg) (a8Y H 0 fun n=>b11 τ ev n t t' s x Kq)
   |_,_=>False
  |.builtin .cap=>match c.argTypes.toList,c.args.toList with
   |[t],[x]=>b93 τ t (ev x) fun s=>Kq s []
   |_,_=>False
  |.builtin .copy=>match c.argTypes.toList,c.args.toList with
   |[t,t'],[x,s]=>cond (Nat.beq t t') (b0l τ ev H t x s Kg) False
   |_,_=>False
  |.builtin .clear=>match c.argTypes.toList,c.args.toList with
   |[t],[x]=>aB0 τ ev H t x Kg
   |_,_=>False
  |.builtin .min=>b6f false (c.args.toList.map ev) fun s=>Kq s []
  |.builtin .max=>b6f true (c.args.toList.map ev) fun s=>Kq s []
  |.value f=>match ev f with
   |.c (.t (.fn (.func g) caps))=>b4N P g (c.args.toList.map ev++caps.map fun x=>.c (.t x)) H Kq Kg
   |.c (.fn (.func g) caps)=>b4N P g (c.args.toList.map ev++caps.map .c) H Kq Kg
   |_=>False
  |_=>False
 |.nilCheck x=>aT7 (ev x) fun s=>Kq s []
 |_=>False
end
section
open Go.RowKit
section
variable {α β:Type}
theorem ap6 {n:Nat} {l:List α} {k:List α->Prop} (h:aK4 n l k):n<=l.length∧k (l.take n):=by
 induction n generalizing l k with
 |zero=>exact ⟨B9 _,by simpa [aK4] using h⟩
 |succ n ih=>cases l with
  |nil=>exact h.elim
  |cons x l=>obtain ⟨h1,h2⟩:=ih h;exact ⟨by simp;omega,by simpa using h2⟩
theorem a7p {n:Nat} {l:List α} {k:List α->Prop} (h:ak8 n l k):n<=l.length∧k (l.drop n):=by
 induction n generalizing l with
 |zero=>cases l<;>exact ⟨B9 _,by simpa [ak8] using h⟩
 |succ n ih=>cases l with
  |nil=>exact h.elim
  |cons x l=>obtain ⟨h1,h2⟩:=ih h;exact ⟨by simp;omega,by simpa using h2⟩
theorem L7 {n:Nat} {l:List α} {k:α->Prop} (h:a2M n l k):∃x,l[n]? =some x∧k x:=by
 induction n generalizing l with
 |zero=>cases l with
  |nil=>exact h.elim
  |cons x l=>exact ⟨x,rfl,h⟩
 |succ n ih=>cases l with
  |nil=>exact h.elim
  |cons x l=>obtain ⟨y,h1,h2⟩:=ih h;exact ⟨y,by simpa using h1,h2⟩
theorem J6 {n:Nat} {v:α} {l:List α} {k:List α->Prop}:a4W n v l k↔k (l.set n v):=by
 induction l generalizing n k with
 |nil=>show k []↔_;simp
 |cons x l ih=>cases n with
  |zero=>exact Iff.rfl
  |succ n=>show a4W n v l (fun q=>k (x::q))↔_;rw [ih];rfl
theorem b24 {o:Nat} {xs l:List α} {k:List α->Prop} (h:a3N o xs l k):o+xs.length<=l.length∨xs=[]:=by
 induction l generalizing o xs k with
 |nil=>cases xs with
  |nil=>exact .inr rfl
  |cons x xs=>cases o<;>exact h.elim
 |cons y l ih=>cases xs with
  |nil=>exact .inr rfl
  |cons x xs=>
   refine .inl ?_
   cases o with
   |zero=>rcases ih h with h|h<;>(try subst h)<;>simp at *;omega
   |succ o=>rcases ih h with h|h<;>simp at *;omega
theorem a73 {o:Nat} {xs l:List α} {k:List α->Prop} (h:a3N o xs l k) (h0:xs≠[]):o+xs.length<=l.length∧k (l.take o++xs++l.drop (o+xs.length)):=by
 refine ⟨(b24 h).resolve_right h0,?_⟩
 induction l generalizing o xs k with
 |nil=>cases xs with
  |nil=>exact absurd rfl h0
  |cons x xs=>cases o<;>exact h.elim
 |cons y l ih=>cases xs with
  |nil=>exact absurd rfl h0
  |cons x xs=>
   cases o with
   |zero=>
    cases xs with
    |nil=>cases l<;>simpa [a3N] using h
    |cons x' xs=>simpa using ih (o:=0) h (by simp)
   |succ o=>simpa [show o+1+(xs.length+1)=(o+(xs.length+1))+1 by omega] using ih (o:=o) h (by simp)
theorem aM3 {o:Nat} {xs l:List α} {k:List α->Prop} (hl:o+xs.length<=l.length) (h0:xs≠[]) (h:k (l.take o++xs++l.drop (o+xs.length))):a3N o xs l k:=by
 induction l generalizing o xs k with
 |nil=>cases xs with
  |nil=>exact absurd rfl h0
  |cons x xs=>simp at hl
 |cons y l ih=>cases xs with
  |nil=>exact absurd rfl h0
  |cons x xs=>
   cases o with
   |zero=>
    cases xs with
    |nil=>cases l<;>simpa [a3N] using h
    |cons x' xs=>exact ih (o:=0) (by simp at hl ⊢;omega) (by simp) (by simpa using h)
   |succ o=>exact ih (o:=o) (by simp at hl ⊢;omega) (by simp) (by simpa [show o+1+(xs.length+1)=(o+(xs.length+1))+1 by omega] using h)
theorem a0u {f:α->β} {l:List α} {k:List β->Prop}:a91 f l k↔k (l.map f):=by
 induction l generalizing k with
 |nil=>simp [a91]
 |cons x l ih=>simp [a91,ih]
theorem a2F {a l:List α} {k:List α->Prop}:ab6 a l k↔k (a++l):=by
 induction a generalizing k with
 |nil=>exact Iff.rfl
 |cons x a ih=>show ab6 a l (fun q=>k (x::q))↔_;rw [ih];rfl
theorem a0v {l:List α} {n:Nat} {k:Nat->Prop}:a8Y l n k↔k (n+l.length):=by
 induction l generalizing n with
 |nil=>exact Iff.rfl
 |cons x l ih=>show a8Y l (n+1) k↔_;rw [ih,U9,Nat.add_comm 1];rfl
end
theorem a1x {s:S} {k:S->Prop}:ae5 s k↔k s:=by cases s<;>rfl
theorem a1P.get {b:Bool} {k:S->Prop} (h:a1P b k):k (d9 b):=by cases b<;>first|exact h.yes rfl|exact h.no rfl
theorem aj0.get {p:Prop} [Decidable p] {k:S->Prop} (h:aj0 p k):k (d9 (decide p)):=by
 by_cases hp:p
 ·rw [lbH hp];exact h.yes hp
 ·rw [lbJ hp];exact h.no hp
theorem a4q {s:S} {k:S->Prop} (h:aI7 s k):k s:=by
 cases s with
 |c x=>cases x with
  |t y=>cases y with
   |atm v=>cases v<;>first|exact a1P.get h|exact h
   |_=>exact h
  |_=>exact h
 |_=>exact h
theorem a1m {s:S} {k:List C->Prop} (h:a29 s k):∃cs,k cs∧((∃ c,s=.c c∧cs=[c])∨s=.agg cs):=by
 cases s with
 |c x=>exact ⟨_,h,.inl ⟨x,rfl,rfl⟩⟩
 |agg cs=>exact ⟨_,h,.inr rfl⟩
 |_=>exact h.elim
theorem B6 {b:Bool} {x:Prop} (h:cond b x False):b=true∧x:=by cases b with|true=>exact ⟨rfl,h⟩|false=>exact h.elim
theorem V6 {b:Bool} {x:Prop} (h:cond b False x):b=false∧x:=by cases b with|false=>exact ⟨rfl,h⟩|true=>exact h.elim
structure at6 (P:Program) (t:TypeId) (d:TD):Prop where
 info:∃i,P.info? t=some i∧i.size=d.size∧i.bytes=d.bytes∧∃z,i.zero=some z∧z.cells.toList=d.zero∧(∀ v ∈ d.zero,v.oneCell'=true)∧d.zero.length=d.size
 und:∃u,P.underlying t=some u∧match d.k with
  |.bas=>d.agg=false∧(match u with|.struct _|.array _ _=>False|_=>True)
  |.bool=>d.agg=false∧u=.bool
  |.int k=>d.agg=false∧u=.int k
  |.slice e=>d.agg=false∧u=.slice e
  |.arr n e=>d.agg=true∧u=.array n e
  |.struct fs=>d.agg=true∧∃fields,u=.struct fields∧fs.map (fun x=>(x.1,x.2.1))=fields.toList.map (fun f=>(f.offset,P.cellsOf f.type))∧(∀ f ∈ fields.toList,(P.info? f.type).isSome=true)∧
    fields.toList.mapM (fun f=>(P.info? f.type).map fun i=>(f.offset,i.size))=some (fs.map (fun x=>(x.1,x.2.1)))
structure B2 (P:Program) (τ:Tab):Prop where
 mixed:P.follows .mixedOrders=true
 td:∀t d,τ t=some d->at6 P t d
def b3Q (P:Program) (o:Oper) (a:Act) (w:World) (R:Value->World->Prop):Prop:=
 ∀(K:Act->World->Prop) (Q:Exit->Act->World->Prop),(∀ v w',R v w'->K (a.put o.dst v) w')->o.wp P a w K Q
theorem n8 {P:Program} {o:Oper} {a:Act} {w w':World} {R:Value->World->Prop} {v:Value} (h:(execOp a.eval o).run P w=.ok (.value v) w') (hr:R v w'):b3Q P o a w R:=by
 intro K Q hK
 unfold Oper.wp
 rw [h]
 exact hK _ _ hr
theorem am2 {P:Program} {o:Oper} {a:Act} {w w':World} {R:Value->World->Prop} (h:(execOp a.eval o).run P w=.ok .skip w') (hr:R undef w'):b3Q P o a w R:=by
 intro K Q hK
 unfold Oper.wp
 rw [h]
 exact hK _ _ hr
theorem ai1 {P:Program} {o:Oper} {a:Act} {w w':World} {R:Value->World->Prop} {f:FuncId} {args:Array Value} (h:(execOp a.eval o).run P w=.ok (.enter f args) w')
 (hr:Calls P f args w' fun e w''=>∃v,e=.returned v∧R v w''):b3Q P o a w R:=by
 intro K Q hK
 unfold Oper.wp
 rw [h]
 refine Calls.mono hr ?_
 rintro e w'' ⟨v,rfl,hv⟩
 exact hK _ _ hv
abbrev R3 (w:World) (ι:Io) (M:Ms) (ev:Operand->S) (a:Act):Prop:=∀x,RS w ι M (ev x) (a.eval x)
def QOp (P:Program) (o:Oper) (ev:Operand->S) (H:Hp) (s:S) (B:List Blk):Prop:=
 ∀(a:Act) (w:World) (ι:Io) (M:Ms),R3 w ι M ev a->j4 w ι M H->MB w M->(∀ k,k<B.length->ι (H.length+k)=none)->b3Q P o a w (H7 w ι M H.length s B)
def GOp (P:Program) (o:Oper) (ev:Operand->S) (H:Hp) (s:S) (H':Hp):Prop:=
 ∀(a:Act) (w:World) (ι:Io) (M:Ms),R3 w ι M ev a->j4 w ι M H->MB w M->a0R ι H.length->b3Q P o a w (E1 w ι M H s H')
theorem H7.of_none {w w':World} {ι:Io} {M:Ms} {n:Nat} {s:S} {v:Value} (h:RS w' ι M s v) (he:Ext w w'):H7 w ι M n s [] v w':=by
 refine ⟨fun _=>.nil,h.keep (fun _ _ _=>rfl) ?_ (fun id l hl=>?_),he,by simp,by simp,by simp⟩
 ·rintro b (hb|⟨k,hk,_⟩)
  ·exact .inl hb
  ·simp at hk
 ·unfold A8;rw [if_neg (by simp),hl]
theorem j8 {P:Program} {o:Oper} {ev:Operand->S} {H:Hp} {s:S}
 (h:∀(a:Act) (w:World) (ι:Io) (M:Ms),R3 w ι M ev a->j4 w ι M H->∃v,(execOp a.eval o).run P w=.ok (.value v) w∧RS w ι M s v):QOp P o ev H s []:=by
 intro a w ι M he hh hm _
 obtain ⟨v,h1,h2⟩:=h a w ι M he hh
 exact n8 h1 (H7.of_none h2 (Ext.refl w))
theorem RS.inv_c {w:World} {ι:Io} {M:Ms} {x:C} {v:Value} (h:RS w ι M (.c x) v):RC w ι M x v:=by cases h;assumption
theorem RS.inv_t {w:World} {ι:Io} {M:Ms} {x:T} {v:Value} (h:RS w ι M (.c (.t x)) v):RT w M x v:=by cases h with|c h=>cases h;assumption
theorem RS.inv_atm {w:World} {ι:Io} {M:Ms} {x v:Value} (h:RS w ι M (.c (.t (.atm x))) v):v=x:=by cases h.inv_t;rfl
theorem RS.mk_atm {w:World} {ι:Io} {M:Ms} {v:Value} (h:v.oneCell'=true):RS w ι M (.c (.t (.atm v))) v:=.c (.t (.atm h))
theorem RS.int {w:World} {ι:Io} {M:Ms} {k:IntKind} {n:Int}:RS w ι M (a7 k n) (.int k n):=.mk_atm rfl
theorem RS.bool {w:World} {ι:Io} {M:Ms} {b:Bool}:RS w ι M (d9 b) (.bool b):=.mk_atm rfl
theorem RC.const {w:World} {ι:Io} {M:Ms} {v:Value} (h:v.oneCell'=true):RC w ι M (C8 v) v:=by
 unfold C8
 split
 ·exact .t (.sl (b:=0) (off:=0) (fun _ _=>undef) (by simp) (by simp) (by unfold maxLen;omega) (by simp) (by simp) (by simp) (by simp [at2]) (by simp [at2]))
 ·exact .t (.atm h)
theorem RS.const {w:World} {ι:Io} {M:Ms} (v:Value):RS w ι M (aU3 v) v:=by
 unfold aU3
 split
 ·rename_i cs
  cases hb:cs.toList.all (·.oneCell') with
  |false=>exact .junk
  |true=>
   have:RS w ι M (.agg (cs.toList.map C8)) (.agg cs.toList.toArray):=.agg cs.toList (by simp) fun j c hc=>by
    rw [lba] at hc
    cases hj:cs.toList[j]? with
    |none=>rw [hj] at hc;cases hc
    |some u=>
     rw [hj] at hc
     injection hc with hc
     subst hc
     rw [lbl,hj]
     exact RC.const (lbv.1 hb u (lbm hj))
   simpa using this
 ·exact .junk
 ·exact .c (.t (.sl (b:=0) (off:=0) (fun _ _=>undef) (by simp) (by simp) (by unfold maxLen;omega) (by simp) (by simp) (by simp) (by simp [at2]) (by simp [at2])))
 ·rename_i h1 h2 h3
  refine .c (.t (.atm ?_))
  cases v<;>first|rfl|(exact absurd rfl (h1 _))|(exact absurd rfl (h2 _))
end
end Go.Proofs.YtaejgdbahjjncaaGreat
