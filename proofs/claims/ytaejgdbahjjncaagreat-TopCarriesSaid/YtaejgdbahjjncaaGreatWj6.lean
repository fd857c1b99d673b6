/- Part 6. -/
import Derived.Test.YtaejgdbahjjncaaGreatChecked
import Derived.Test.YtaejgdbahjjncaaGreatWj5
namespace Go.Proofs.YtaejgdbahjjncaaGreat
set_option linter.unusedVariables false
set_option linter.unusedSimpArgs false
section
open Go.RowKit
def T.flat:T->Bool
 |.atm _=>true
 |_=>false
def C.flat:C->Bool
 |.t x=>x.flat
 |_=>false
def S.flat:S->Bool
 |.junk=>true
 |.c x=>x.flat
 |.agg cs=>cs.all C.flat
 |.tup ss=>ss.all fun s=>match s with
  |.c x=>x.flat
  |.agg cs=>cs.all C.flat
  |.junk=>true
  |.tup _=>false
theorem RC.flat {w:World} {ι ι':Io} {M M':Ms} {x:C} {v:Value} (h:x.flat=true) (hr:RC w ι M x v):RC w ι' M' x v:=by
 cases hr with
 |t hr=>cases hr with
  |atm hv=>exact .t (.atm hv)
  |_=>cases h
 |_=>cases h
theorem RS.flat1 {w:World} {ι ι':Io} {M M':Ms} {s:S} {v:Value} (h:(match s with|.c x=>x.flat|.agg cs=>cs.all C.flat|.junk=>true|.tup _=>false)=true) (hr:RS w ι M s v):RS w ι' M' s v:=by
 cases hr with
 |junk=>exact .junk
 |c hr=>exact .c (hr.flat h)
 |agg vs hl hr=>exact .agg vs hl fun j c hj=>(hr j c hj).flat (lbv.1 h c (lbm hj))
 |tup vs hl hr=>cases h
theorem RS.flat {w:World} {ι ι':Io} {M M':Ms} {s:S} {v:Value} (h:s.flat=true) (hr:RS w ι M s v):RS w ι' M' s v:=by
 cases hr with
 |junk=>exact .junk
 |c hr=>exact .c (hr.flat h)
 |agg vs hl hr=>exact .agg vs hl fun j c hj=>(hr j c hj).flat (lbv.1 h c (lbm hj))
 |tup vs hl hr=>exact .tup vs hl fun j s hj=>(hr j s hj).flat1 (lbv.1 h s (lbm hj))
theorem j4.none {w:World} {M:Ms}:j4 w (fun _=>Option.none) M []:=⟨by simp,by simp,by simp,by simp,by simp⟩
theorem a9X {P:Program} {g:FuncId} {args args':List S} {H:Hp} {r:S} (h:a8 P g args' [] r []) (ha:a3p H (fun _=>True) args args') (hr:r.flat=true):R2 P g args H r []:=by
 refine ⟨h.1,fun w ι M vals hl hv hH hM hf=>?_⟩
 obtain ⟨hlen,hget⟩:=a3p.get ha
 have:=h.2 w (fun _=>none) (fun _=>False) vals (by omega) (fun j s hj=>by
  obtain ⟨x,hx,hs⟩:=hget j s hj
  exact hs.rs hH (fun _ h=>h.elim) (fun _ _ _ _ _ _ _ _ _ h=>h) (hv j x hx))
  .none (fun _ h=>h.elim) (fun _ _=>rfl)
 refine Calls.mono this ?_
 rintro e w' ⟨v,rfl,ι',M',h1,h2,h3,h4,h5⟩
 exact ⟨v,rfl,H7.of_none (h1.flat hr) ⟨h5.os,h5.tape,h5.output,h5.size,fun b hb=>h5.keep b hb (by rintro ⟨id,k,_,_,hk,_⟩;simp at hk)⟩⟩
theorem a5O {P:Program} {g:FuncId} {args args':List S} {H:Hp} {r:S} (h:a8 P g args' [] r []) (ha:a3p H (fun _=>False) args args') (hr:r.isT=true):R2 P g args H r []:=by
 refine ⟨h.1,fun w ι M vals hl hv hH hM hf=>?_⟩
 obtain ⟨hlen,hget⟩:=a3p.get ha
 have:=h.2 w (fun _=>none) M vals (by omega) (fun j s hj=>by
  obtain ⟨x,hx,hs⟩:=hget j s hj
  exact hs.rs hH (fun _ h=>h) (fun _ _ _ _ _ h _ _ _ _=>h.elim) (hv j x hx))
  .none hM (fun _ _=>rfl)
 refine Calls.mono this ?_
 rintro e w' ⟨v,rfl,ι',M',h1,h2,h3,h4,h5⟩
 refine ⟨v,rfl,H7.of_none ?_ ?_⟩
 ·refine RS.keep (ι:=ι) (M:=M') (fun _ _ _=>rfl) (fun b hb=>?_) (fun _ _ h=>h) (h1.tree hr)
  rcases h5.mold b hb with h|⟨id,k,_,_,hk,_⟩
  ·exact .inl h
  ·simp at hk
 ·exact ⟨h5.os,h5.tape,h5.output,h5.size,fun b hb=>h5.keep b hb (by rintro ⟨id,k,_,_,hk,_⟩;simp at hk)⟩
def ay3 (fr:List Nat) (n:Nat) (k:Blk):Blk:=match fr.any (Nat.beq n),k.mode with
 |true,.live=>{ k with mode:=.froz }
 |_,_=>k
def a1I (fr:List Nat):Nat->Hp->Hp
 |_,[]=>[]
 |n,k::r=>ay3 fr n k::a1I fr (n+1) r
abbrev b5x (fr:List Nat) (H:Hp):Hp:=a1I fr 0 H
theorem a8u (fr:List Nat):∀(H:Hp) (n i:Nat),(a1I fr n H)[i]? =(H[i]?).map (ay3 fr (n+i))
 |[],n,i=>by simp [a1I]
 |k::r,n,0=>by simp [a1I]
 |k::r,n,i+1=>by simp [a1I,a8u fr r (n+1) i,show n+1+i=n+(i+1) by omega]
theorem a1a (fr:List Nat):∀(H:Hp) (n:Nat),(a1I fr n H).length=H.length
 |[],n=>rfl
 |k::r,n=>by simp [a1I,a1a fr r (n+1)]
theorem P9 {fr:List Nat} {H:Hp} {id:Nat} {k':Blk} (h:(b5x fr H)[id]? =some k'):∃k,H[id]? =some k∧k'.elem=k.elem∧k'.size=k.size∧k'.rows=k.rows∧
 ((k'=k∧(id ∉ fr∨k.mode≠.live))∨(id ∈ fr∧k.mode=.live∧k'.mode=.froz)):=by
 rw [a8u,D8] at h
 cases hk:H[id]? with
 |none=>rw [hk] at h;cases h
 |some k=>
  rw [hk] at h
  injection h with h
  refine ⟨k,rfl,?_⟩
  subst h
  unfold ay3
  split
  ·rename_i h1 h2
   obtain ⟨x,hx,hb⟩:=lbw.1 h1
   have:=a0H hb
   subst this
   exact ⟨rfl,rfl,rfl,.inr ⟨hx,h2,rfl⟩⟩
  ·rename_i h1
   refine ⟨rfl,rfl,rfl,.inl ⟨rfl,?_⟩⟩
   by_cases hm:k.mode=.live
   ·refine .inl fun hi=>h1 ?_ hm
    exact lbw.2 ⟨id,hi,by simp⟩
   ·exact .inr hm
theorem x8 {P:Program} {g:FuncId} {args args':List S} {H:Hp} {r:S} (fr:List Nat) (h:a8 P g args' [] r []) (ha:a3p H (· ∈ fr) args args') (hr:r.isT=true):a8 P g args H r (b5x fr H):=by
 refine ⟨h.1,fun w ι M vals hl hv hH hM hf=>?_⟩
 obtain ⟨hlen,hget⟩:=a3p.get ha
 let M0:Ms:=fun b=>M b∧¬∃id k cap size,id ∈ fr∧H[id]? =some k∧k.mode=.live∧ι id=some (.blk b cap size)
 have hM0:∀b,M0 b->M b:=fun b hb=>hb.1
 have:=h.2 w (fun _=>none) M0 vals (by omega) (fun j s hj=>by
  obtain ⟨x,hx,hs⟩:=hget j s hj
  refine hs.rs hH hM0 ?_ (hv j x hx)
  intro id k b cap size hp hk hd hi hb
  cases hm:k.mode with
  |live=>exact hb.2 ⟨id,k,cap,size,hp,hk,hm,hi⟩
  |froz=>exact hH.fro id k hk hm b cap size hi hb.1
  |old=>exact hd (by rw [hm];trivial)
  |dead=>exact hd (by rw [hm];trivial))
  .none (fun b hb=>hM b hb.1) (fun _ _=>rfl)
 refine Calls.mono this ?_
 rintro e w' ⟨v,rfl,ι',M',h1,h2,h3,h4,h5⟩
 have hkeep:∀b,b<w.heap.size->w'.heap[b]? =w.heap[b]?:=fun b hb=>h5.keep b hb (by rintro ⟨id,k,_,_,hk,_⟩;simp at hk)
 have hold:∀b,M0 b->M' b:=fun b hb=>by
  rcases h5.mold b hb with h|⟨id,k,_,_,hk,_⟩
  ·exact h
  ·simp at hk
 refine ⟨v,rfl,ι,M',?_,⟨?_,?_,?_,?_,?_⟩,h3,?_,?_⟩
 ·exact h1.tree hr
 ·intro id k' hk' hd l hll
  obtain ⟨k,hk,e1,e2,e3,hc⟩:=P9 hk'
  have hd':k.mode≠.dead:=by
   rcases hc with ⟨rfl,_⟩|⟨_,h,_⟩
   ·exact hd
   ·rw [h];intro h;cases h
  have hb:=hH.blk id k hk hd' l hll
  cases l with
  |nil=>show k'.rows=[];rw [e3];exact hb
  |blk b cap size=>
   obtain ⟨q1,q2,q3,q4,q5,cur,q6,q7,q8⟩:=hb
   refine ⟨by rw [e2];exact q1,q2,by rw [e3];exact q3,q4,by rw [e3];exact q5,cur,by rw [e1];exact (hkeep b (A9 q6)).trans q6,q7,fun i j c hc=>?_⟩
   rw [e3] at hc
   obtain ⟨u,hu,hr⟩:=q8 i j c hc
   refine ⟨u,hu,hr.keep (fun b hb _=>hkeep b hb) (fun b hb=>?_) (fun _ _ h=>h)⟩
   rcases h5.mnew b hb with h|h
   ·exact .inl h.1
   ·exact .inr h
 ·intro id k' hk' hl' b cap size hi
  obtain ⟨k,hk,e1,e2,e3,hc⟩:=P9 hk'
  rcases hc with ⟨rfl,hc⟩|⟨_,_,h⟩
  ·refine hold b ⟨hH.liv id k' hk hl' b cap size hi,?_⟩
   rintro ⟨id2,k2,cap2,size2,n1,n2,n3,n4⟩
   have:=hH.inj id id2 k' k2 hk n2 hl' n3 _ _ _ _ _ hi n4
   subst this
   rcases hc with hc|hc
   ·exact hc n1
   ·exact hc hl'
  ·rw [h] at hl';cases hl'
 ·intro id k' hk' hl' b cap size hi hb
  obtain ⟨k,hk,e1,e2,e3,hc⟩:=P9 hk'
  have hlt:b<w.heap.size:=by
   have hd:k.mode≠.dead:=by
    rcases hc with ⟨rfl,_⟩|⟨_,h,_⟩
    ·rw [hl'];intro h;cases h
    ·rw [h];intro h;cases h
   obtain ⟨_,_,_,_,_,cur,q6,_⟩:=hH.blk id k hk hd _ hi
   exact A9 q6
  rcases h5.mnew b hb with h|h
  ·rcases hc with ⟨rfl,_⟩|⟨n1,n2,_⟩
   ·exact hH.fro id k' hk hl' b cap size hi h.1
   ·exact h.2 ⟨id,k,cap,size,n1,hk,n2,hi⟩
  ·omega
 ·intro id id' k1 k2 hk1 hk2 hm1 hm2
  obtain ⟨k,hk,e1,e2,e3,hc⟩:=P9 hk1
  obtain ⟨k',hk',e1',e2',e3',hc'⟩:=P9 hk2
  rcases hc with ⟨rfl,_⟩|⟨_,_,h⟩
  ·rcases hc' with ⟨rfl,_⟩|⟨_,_,h⟩
   ·exact hH.inj id id' _ _ hk hk' hm1 hm2
   ·rw [h] at hm2;cases hm2
  ·rw [h] at hm1;cases hm1
 ·intro id id' k1 k2 hk1 hk2 hm1 hm2
  obtain ⟨k,hk,e1,e2,e3,hc⟩:=P9 hk1
  obtain ⟨k',hk',e1',e2',e3',hc'⟩:=P9 hk2
  rcases hc with ⟨rfl,_⟩|⟨_,_,h⟩
  ·rcases hc' with ⟨rfl,_⟩|⟨_,_,h⟩
   ·exact hH.old id id' _ _ hk hk' hm1 hm2
   ·rw [h] at hm2;cases hm2
  ·rw [h] at hm1;cases hm1
 ·rw [a1a];exact hf
 ·refine ⟨h5.os,h5.tape,h5.output,h5.size,fun b hb _=>hkeep b hb,fun _ _=>rfl,?_,?_,?_,by rw [a1a];exact lbQ _⟩
  ·intro b hb
   rcases h5.mnew b hb with h|h
   ·exact .inl h.1
   ·exact .inr h
  ·intro b hb
   by_cases hx:∃id k cap size,id ∈ fr∧H[id]? =some k∧k.mode=.live∧ι id=some (.blk b cap size)
   ·obtain ⟨id,k,cap,size,n1,n2,n3,n4⟩:=hx
    exact .inr ⟨id,k,cap,size,n2,n3,n4⟩
   ·exact .inl (hold b ⟨hb,hx⟩)
  ·rintro b ⟨id,k',cap,size,hk',hl',hi⟩
   obtain ⟨k,hk,e1,e2,e3,hc⟩:=P9 hk'
   rcases hc with ⟨rfl,_⟩|⟨_,_,h⟩
   ·exact .inl ⟨id,k',cap,size,hk,hl',hi⟩
   ·rw [h] at hl';cases hl'
theorem o6 {len m n b:Nat} {K:Prop} (h1:len<=m) (h2:(len+n)*b<=140737488355328) (k:K):(len<=m∧(len+n)*b<=140737488355328)∧K:=⟨⟨h1,h2⟩,k⟩
theorem b49 {α:Type} {xs:List α} {a b:Nat} {K:Prop} (h:a=b) (k:K):(xs.length=0∨a=b)∧K:=⟨.inr h,k⟩
theorem b4f {rows:List (List T)} {r:List T}:(toC rows).take rows.length++toC [r]=toC (rows++[r]):=by
 rw [lbn (by simp [toC])];simp [toC]
theorem b3G {ops:List Oper} {K:List Oper->Prop} (h:a8z ops=true) (k:K ops):b29 ops K:=⟨⟨none,rfl,h,k⟩⟩
theorem aJ4 {ops:List Oper} {K:List Oper->Prop} (π:List Nat) (h:a8z (T5 π ops)=true) (h2:as6 π ops.length=true) (k:K (T5 π ops)):b29 ops K:=⟨⟨some π,h2,h,k⟩⟩
theorem b5v {P:Program} {τ:Tab} {env:Env} {H':Hp} {ops:List Oper} {i:Nat} {K:Prop} (h:G9 ops i=true) (h2:X0 ops i=[]) (k:K):G9 ops i=true∧∃L,X0 ops i=L∧a1H P τ ops env H' K L:=⟨h,[],h2,k⟩
theorem B3 {P:Program} {τ:Tab} {env:Env} {H':Hp} {ops:List Oper} {i:Nat} {K:Prop} (L:List Nat) (h:G9 ops i=true) (h2:X0 ops i=L) (k:a1H P τ ops env H' K L):G9 ops i=true∧∃L,X0 ops i=L∧a1H P τ ops env H' K L:=⟨h,L,h2,k⟩
theorem aZ4 {s:S} {B:List Blk} {s':S} {K:Prop} (h1:B=[]) (h2:s=s') (k:K):(B=[]∧s=s')∧K:=⟨⟨h1,h2⟩,k⟩
theorem E8 {rl xl sz ds b:Nat} {K:Prop} (h1:rl=0) (h3:(rl+xl)*b<=140737488355328) (k:K):((rl=0∨(0<xl∧sz=ds))∧(rl+xl)*b<=140737488355328)∧K:=⟨⟨.inl h1,h3⟩,k⟩
theorem p9 {α:Type} {xs:List α} {f:α->List T} {n:Int} {k:Nat} {x:α} {K:List T->Prop} (e:n=k) (hx:xs[k]? =some x) (h:K (f x)):∃row,0<=n∧(xs.map f)[n.toNat]? =some row∧K row:=by
 subst e;exact f9 hx h
theorem b7w {a b:Int} {K:Prop} (h:a≠b) (k:K):a≠b∧K:=⟨h,k⟩
theorem T2 {l h m:Int} {K:Prop} (h1:0<=l) (h2:l<=h) (h3:h<=m) (k:K):(0<=l∧l<=h∧h<=m)∧K:=⟨⟨h1,h2,h3⟩,k⟩
theorem aO2 {P:Program} {n0:Nat} {c:Code} {env:Env} {H:Hp} {Q:AX->Env->Hp->Prop}
 (h:Awp P n0 c env H fun a env' H'=>Q a env' H'∨∃ρ E2 H2,Ent n0 ρ env' H' E2 H2∧Q a E2 H2):Awp P n0 c env H Q:=by
 refine ⟨fun w0 ι0 M0 H0 a w hn hM hs=>wp_mono (h.out w0 ι0 M0 H0 a w hn hM hs) ?_⟩
 rintro e a' w' ⟨x,env',H',rfl,hq,hs'⟩
 rcases hq with hq|⟨ρ,E2,H2,he,hq⟩
 ·exact ⟨x,env',H',rfl,hq,hs'⟩
 ·exact ⟨x,E2,H2,rfl,hq,he.sim hn hM hs'⟩
theorem K6 {id len:Nat} {app:Bool} {H1:Hp} {rows:List (List T)} {size:Nat} {k:Blk} (hk:H1[id]? =some k) (hd:¬k.mode.gone) (hs:k.size=size) (hc:k.rows=toC rows) (hl:len=rows.length):
 Fin 0 (.c (.own id 0 len app)) H1 (.c (.t (.sl size .any rows))) []:=j2 (show VC H1 _ _ _ from p4 rfl hk hd hs hc hl)
theorem o9 {ρ:List (Option Nat)} {H:Hp} {id id' len len':Nat} (h:ρ[id']? =some (some id)) (hl:len=len'):a4X ρ H (.c (.own id 0 len true)) (.c (.own id' 0 len' true)):=⟨h,rfl,hl,fun h=>h⟩
theorem c6 (rows:List (List T)):C9 (toC rows):=by
 intro r hr c hc
 obtain ⟨r',_,rfl⟩:=lbx.1 hr
 obtain ⟨c',_,rfl⟩:=lbx.1 hc
 rfl
theorem b7 {ρ:List (Option Nat)} {H:Hp} {k k':Blk} {rows:List (List T)} (h1:a26 k k'=true) (h2:k.elem=k'.elem) (h3:k.size=k'.size) (h4:k.rows=toC rows) (h5:k'.rows=toC rows):a2f ρ H k k':=
 ⟨h1,h2,h3,.inl ⟨h4.trans h5.symm,h4 ▸ c6 rows⟩⟩
theorem b3z {H:Hp} {p:Nat->Prop}:∀ts:List T,VL H p (ts.map C.t) ts
 |[]=>aY4
 |t::r=>aw0 (aT4 (W5 t)) (b3z r)
theorem b3W {H:Hp} {p:Nat->Prop} (ts:List T):VS H p (.agg (ts.map C.t)) (.agg (ts.map C.t)):=b8i (b3z ts)
theorem ah8 {H:Hp} {p:Nat->Prop} {x:T}:VS H p (.c (.t x)) (.c (.t x)):=a2a (aT4 (W5 x))
end
section
open Go.RowKit
mutual
def Z5 (σ:List Nat):C->C
 |.t x=>.t x
 |.ptr id r o=>.ptr (σ.getD id 0) r o
 |.own id lo len app=>.own (σ.getD id 0) lo len app
 |.fn f caps=>.fn f (a2g σ caps)
def a2g (σ:List Nat):List C->List C
 |[]=>[]
 |x::r=>Z5 σ x::a2g σ r
end
def a6B (σ:List Nat):S->S
 |.junk=>.junk
 |.c x=>.c (Z5 σ x)
 |.agg cs=>.agg (a2g σ cs)
 |.tup ss=>.tup (ss.map fun s=>match s with
  |.c x=>.c (Z5 σ x)
  |.agg cs=>.agg (a2g σ cs)
  |s=>s)
mutual
def okC (n:Nat):C->Bool
 |.t _=>true
 |.ptr id _ _=>Nat.blt id n
 |.own id _ _ _=>Nat.blt id n
 |.fn _ caps=>okL n caps
def okL (n:Nat):List C->Bool
 |[]=>true
 |x::r=>okC n x && okL n r
end
def okS (n:Nat):S->Bool
 |.junk=>true
 |.c x=>okC n x
 |.agg cs=>okL n cs
 |.tup _=>false
theorem K8 (σ:List Nat):∀l,a2g σ l=l.map (Z5 σ)
 |[]=>by simp [a2g]
 |x::r=>by simp [a2g,K8 σ r]
theorem b0z {n:Nat}:∀{l:List C},okL n l=true->∀c ∈ l,okC n c=true
 |[],_,c,h=>by cases h
 |x::r,h,c,hc=>by
  simp only [okL,lbM] at h
  rcases lbA.1 hc with rfl|hc
  ·exact h.1
  ·exact b0z h.2 c hc
theorem ac4 {σ:List Nat} {x:C} (h:x.isT=true):Z5 σ x=x:=by
 cases x<;>first|rfl|cases h
def N8 (σ:List Nat) (ι:Io):Io:=fun id=>(σ[id]?).bind ι
mutual
theorem au5 {w:World} {ι:Io} {M:Ms} {σ:List Nat}:∀(x:C) (v:Value),okC σ.length x=true->RC w ι M (Z5 σ x) v->RC w (N8 σ ι) M x v
 |.t x,v,_,h=>by
  simp only [Z5] at h
  cases h with
  |t h=>exact .t h
 |.ptr id r o,v,hk,h=>by
  simp only [Z5] at h
  have hlt:id<σ.length:=by simpa [okC,R5] using hk
  have e:N8 σ ι id=ι (σ.getD id 0):=by simp [N8,lbf hlt,lbl]
  cases h with
  |ptr h=>exact .ptr (e.trans h)
 |.own id lo len app,v,hk,h=>by
  simp only [Z5] at h
  have hlt:id<σ.length:=by simpa [okC,R5] using hk
  have e:N8 σ ι id=ι (σ.getD id 0):=by simp [N8,lbf hlt,lbl]
  cases h with
  |own h h1 h2 h3 h4 h5=>exact .own (e.trans h) h1 h2 h3 h4 h5
  |nil h=>exact .nil (e.trans h)
 |.fn f caps,v,hk,h=>by
  simp only [Z5] at h
  cases h with
  |fn vs hl hr=>
   rw [K8,lbr] at hl
   refine .fn vs hl fun j c hj=>?_
   exact az6 caps (by simpa [okC] using hk) c (lbm hj) _ (hr j _ (by rw [K8,lba,hj];rfl))
theorem az6 {w:World} {ι:Io} {M:Ms} {σ:List Nat}:∀(l:List C),okL σ.length l=true->∀c ∈ l,∀v,RC w ι M (Z5 σ c) v->RC w (N8 σ ι) M c v
 |[],_,c,h,_,_=>by cases h
 |x::r,hk,c,hc,v,h=>by
  simp only [okL,lbM] at hk
  rcases lbA.1 hc with hcx|hc
  ·rw [hcx] at h ⊢
   exact au5 x v hk.1 h
  ·exact az6 r hk.2 c hc v h
end
theorem b0t {w:World} {ι:Io} {M:Ms} {σ:List Nat} {s:S} {v:Value} (hk:okS σ.length s=true) (h:RS w ι M (a6B σ s) v):RS w (N8 σ ι) M s v:=by
 cases s with
 |junk=>exact .junk
 |c x=>cases h with
  |c h=>exact .c (au5 x v hk h)
 |agg cs=>
  have h:RS w ι M (.agg (a2g σ cs)) v:=h
  cases h with
  |agg vs hl hr=>
   rw [K8,lbr] at hl
   refine .agg vs hl fun j c hj=>?_
   exact az6 cs hk c (lbm hj) _ (hr j _ (by rw [K8,lba,hj];rfl))
 |tup ss=>cases hk
theorem RC.ren {w:World} {ι ι':Io} {M:Ms} {σ:List Nat} (hι:∀id l,ι id=some l->ι' (σ.getD id 0)=some l) {x:C} {v:Value} (h:RC w ι M x v):RC w ι' M (Z5 σ x) v:=by
 induction h with
 |t h=>simp only [Z5];exact .t h
 |ptr h=>simp only [Z5];exact .ptr (hι _ _ h)
 |own h h1 h2 h3 h4 h5=>simp only [Z5];exact .own (hι _ _ h) h1 h2 h3 h4 h5
 |nil h=>simp only [Z5];exact .nil (hι _ _ h)
 |fn vs hl hr ih=>
  simp only [Z5]
  refine .fn vs (by rw [K8,lbr];exact hl) fun j c hj=>?_
  rw [K8,lba] at hj
  obtain ⟨c0,hc0,rfl⟩:=a2V.1 hj
  exact ih j c0 hc0
theorem RS.ren1 {w:World} {ι ι':Io} {M:Ms} {σ:List Nat} (hι:∀id l,ι id=some l->ι' (σ.getD id 0)=some l) {x:List C} {v:Value} (h:RS w ι M (.agg x) v):RS w ι' M (.agg (a2g σ x)) v:=by
 cases h with
 |agg vs hl hr=>
  refine .agg vs (by rw [K8,lbr];exact hl) fun j c hj=>?_
  rw [K8,lba] at hj
  obtain ⟨c0,hc0,rfl⟩:=a2V.1 hj
  exact (hr j c0 hc0).ren hι
def b9m:S->Bool
 |.tup _=>false
 |_=>true
def b0V:S->Bool
 |.tup ss=>ss.all b9m
 |_=>true
theorem RS.ren {w:World} {ι ι':Io} {M:Ms} {σ:List Nat} (hι:∀id l,ι id=some l->ι' (σ.getD id 0)=some l) {s:S} {v:Value} (hs:b0V s=true) (h:RS w ι M s v):RS w ι' M (a6B σ s) v:=by
 cases s with
 |junk=>exact .junk
 |c x=>cases h with
  |c h=>exact .c (h.ren hι)
 |agg cs=>exact RS.ren1 hι h
 |tup ss=>
  cases h with
  |tup vs hl hr=>
   refine .tup vs (by simpa using hl) fun j s hj=>?_
   rw [lba] at hj
   obtain ⟨s0,hs0,rfl⟩:=a2V.1 hj
   have h0:=hr j s0 hs0
   have hno:=lbv.1 hs s0 (lbm hs0)
   cases s0 with
   |junk=>exact .junk
   |c x=>cases h0 with
    |c h=>exact .c (h.ren hι)
   |agg cs=>exact RS.ren1 hι h0
   |tup _=>cases hno
def a8W (σ:List Nat) (rows:List (List C)):List (List C):=rows.map (a2g σ)
theorem a3F {σ:List Nat} (rows:List (List T)):a8W σ (toC rows)=toC rows:=by
 unfold a8W toC
 rw [Z3]
 apply lbp
 intro r _
 show a2g σ (r.map C.t)=r.map C.t
 rw [K8,Z3]
 apply lbp
 intro c _
 simp [Z5]
theorem b0U {σ:List Nat} {rows:List (List C)} {i j:Nat}:at2 (a8W σ rows) i j=(at2 rows i j).map (Z5 σ):=by
 unfold at2 a8W
 rw [lba]
 cases rows[i]? with
 |none=>rfl
 |some r=>simp [K8]
def av3 (σ:List Nat) (k k':Blk):Prop:=k'.mode=k.mode∧k'.elem=k.elem∧k'.size=k.size∧k'.app=k.app∧k'.rows=a8W σ k.rows
theorem v8 {σ:List Nat} {k:Blk} {rows:List (List T)} (h:k.rows=toC rows):av3 σ k k:=⟨rfl,rfl,rfl,rfl,by rw [h,a3F]⟩
theorem b4Y {n:Nat}:∀l:List T,okL n (l.map C.t)=true
 |[]=>by simp [okL]
 |x::r=>by simp [okL,okC,b4Y r]
theorem I5 {n:Nat} (rows:List (List T)):∀r ∈ toC rows,okL n r=true:=by
 intro r hr
 obtain ⟨r',_,rfl⟩:=lbx.1 hr
 exact b4Y r'
theorem E7.ren {w:World} {ι ι':Io} {M:Ms} {σ:List Nat} (hι:∀id l,ι id=some l->ι' (σ.getD id 0)=some l) {k k':Blk} (hk:av3 σ k k') {l:Loc} (h:E7 w ι M k l):E7 w ι' M k' l:=by
 obtain ⟨e1,e2,e3,e4,e5⟩:=hk
 cases l with
 |nil=>
  have h:k.rows=[]:=h
  show k'.rows=[]
  rw [e5,h];rfl
 |blk b cap size=>
  obtain ⟨q1,q2,q3,q4,q5,cur,q6,q7,q8⟩:=h
  refine ⟨by rw [e3];exact q1,q2,by rw [e5];simpa [a8W] using q3,q4,?_,cur,by rw [e2];exact q6,q7,fun i j c hc=>?_⟩
  ·intro r hr
   rw [e5] at hr
   obtain ⟨r0,h0,rfl⟩:=lbx.1 hr
   rw [K8,lbr]
   exact q5 r0 h0
  ·rw [e5,b0U] at hc
   obtain ⟨c0,hc0,rfl⟩:=a2V.1 hc
   obtain ⟨u,h1,h2⟩:=q8 i j c0 hc0
   exact ⟨u,h1,h2.ren hι⟩
theorem E7.ren_in {w:World} {ι:Io} {M:Ms} {σ:List Nat} {k k':Blk} (hk:av3 σ k k') (hok:∀r ∈ k.rows,okL σ.length r=true) {l:Loc} (h:E7 w ι M k' l):E7 w (N8 σ ι) M k l:=by
 obtain ⟨e1,e2,e3,e4,e5⟩:=hk
 cases l with
 |nil=>
  have h:k'.rows=[]:=h
  show k.rows=[]
  rw [e5] at h
  simpa [a8W] using h
 |blk b cap size=>
  obtain ⟨q1,q2,q3,q4,q5,cur,q6,q7,q8⟩:=h
  refine ⟨by rw [← e3];exact q1,q2,by rw [e5] at q3;simpa [a8W] using q3,q4,?_,cur,by rw [← e2];exact q6,q7,fun i j c hc=>?_⟩
  ·intro r hr
   have:=q5 (a2g σ r) (by rw [e5];exact lbx.2 ⟨r,hr,rfl⟩)
   rw [K8,lbr] at this
   exact this
  ·obtain ⟨u,h1,h2⟩:=q8 i j (Z5 σ c) (by rw [e5,b0U,hc];rfl)
   obtain ⟨row,r1,r2⟩:=D6 hc
   exact ⟨u,h1,au5 c u (b0z (hok row (lbm r1)) c (lbm r2)) h2⟩
def a3y (σ:List Nat) (n m:Nat):List Nat:=σ++(List.range m).map (n+·)
theorem N1 {P:Program} {g:FuncId} {args args':List S} {H H' Hs Hs':Hp} {r r':S} (σ:List Nat) (h:a8 P g args Hs r Hs')
 (hargs:args'=args.map (a6B σ)) (hok:args.all (okS σ.length)=true) (hσl:σ.length=Hs.length) (hσn:σ.Nodup)
 (hin:∀i k,Hs[i]? =some k->k.mode=.live∧k.app=false∧(∀ r ∈ k.rows,okL σ.length r=true)∧∃k',H[σ.getD i 0]? =some k'∧av3 σ k k')
 (hno:∀k ∈ Hs',k.mode≠.old) (hlen:Hs.length<=Hs'.length)
 (hr:b0V r=true) (hr':r'=a6B (a3y σ H.length (Hs'.length - Hs.length)) r)
 (hl':H'.length=H.length+(Hs'.length - Hs.length)) (hout:∀i k,Hs'[i]? =some k->∃k',H'[(a3y σ H.length (Hs'.length - Hs.length)).getD i 0]? =some k'∧av3 (a3y σ H.length (Hs'.length - Hs.length)) k k')
 (hrest:∀j,j<H.length->j ∉ σ->H'[j]? =H[j]?):a8 P g args' H r' H':=by
 refine ⟨h.1,fun w ι M vals hl hv hH hM hF=>?_⟩
 subst hargs
 have hσlt:∀i,i<σ.length->σ.getD i 0<H.length:=fun i hi=>by
  obtain ⟨_,_,_,k',hk',_⟩:=hin i Hs[i] (lbf (by omega))
  exact (lbe.1 hk').1
 have hsub:∀i,i<σ.length->N8 σ ι i=ι (σ.getD i 0):=fun i hi=>by simp [N8,lbf hi,lbl]
 have hsubn:∀i,σ.length<=i->N8 σ ι i=none:=fun i hi=>by simp [N8,lbd hi]
 have hget:∀i k,Hs[i]? =some k->i<σ.length:=fun i k hk=>by rw [hσl];exact (lbe.1 hk).1
 have hHs:j4 w (N8 σ ι) M Hs:=by
  refine ⟨?_,?_,?_,?_,?_⟩
  ·intro id k hk hd l hl
   obtain ⟨h1,h2,h3,k',hk',hren⟩:=hin id k hk
   rw [hsub id (hget id k hk)] at hl
   exact (hH.blk _ k' hk' (by rw [hren.1];exact hd) l hl).ren_in hren h3
  ·intro id k hk hm b cap size hl
   obtain ⟨h1,h2,h3,k',hk',hren⟩:=hin id k hk
   rw [hsub id (hget id k hk)] at hl
   exact hH.liv _ k' hk' (by rw [hren.1];exact hm) b cap size hl
  ·intro id k hk hm
   obtain ⟨h1,h2,h3,k',hk',hren⟩:=hin id k hk
   rw [h1] at hm;cases hm
  ·intro id id' k k2 hk hk2 hm hm2 b cap size cap' size' hl hl2
   obtain ⟨h1,h2,h3,k',hk',hren⟩:=hin id k hk
   obtain ⟨h1',h2',h3',k2',hk2',hren2⟩:=hin id' k2 hk2
   rw [hsub id (hget id k hk)] at hl
   rw [hsub id' (hget id' k2 hk2)] at hl2
   have:=hH.inj _ _ k' k2' hk' hk2' (by rw [hren.1];exact hm) (by rw [hren2.1];exact hm2) _ _ _ _ _ hl hl2
   have hi:=hget id k hk
   have hi':=hget id' k2 hk2
   rw [lbl,lbl,lbf hi,lbf hi'] at this
   simp only [ad9] at this
   have hp:=af8.1 hσn
   rcases aw3 id id' with hlt|heq|hgt
   ·exact absurd this (hp id id' hi hi' hlt)
   ·exact heq
   ·exact absurd this.symm (hp id' id hi' hi hgt)
  ·intro id id' k k2 hk hk2 hm
   obtain ⟨h1,_⟩:=hin id k hk
   rw [h1] at hm;cases hm
 have hlive:∀b,a1Z (N8 σ ι) Hs b->∃i k,i<σ.length∧H[σ.getD i 0]? =some k∧k.mode=.live∧k.app=false∧∃cap size,ι (σ.getD i 0)=some (.blk b cap size):=by
  rintro b ⟨i,k,cap,size,hk,hm,hi⟩
  obtain ⟨h1,h2,h3,k',hk',hren⟩:=hin i k hk
  rw [hsub i (hget i k hk)] at hi
  exact ⟨i,k',hget i k hk,hk',by rw [hren.1];exact h1,by rw [hren.2.2.2.1];exact h2,cap,size,hi⟩
 have hliveH:∀b,a1Z (N8 σ ι) Hs b->a1Z ι H b:=fun b hb=>by
  obtain ⟨i,k,_,hk,hm,_,cap,size,hi⟩:=hlive b hb
  exact ⟨_,k,cap,size,hk,hm,hi⟩
 have hvals:∀j s,args[j]? =some s->RS w (N8 σ ι) M s (vals.getD j undef):=fun j s hj=>
  b0t (lbv.1 hok s (lbm hj)) (hv j _ (by rw [lba,hj];rfl))
 have hcall:=h.2 w (N8 σ ι) M vals (by simpa using hl) hvals hHs hM (fun id hid=>hsubn id (by omega))
 refine Calls.mono hcall ?_
 rintro e w' ⟨v,rfl,ι',M',h1,h2,h3,h4,h5⟩
 refine ⟨v,rfl,?_⟩
 generalize hm:Hs'.length - Hs.length=m at *
 let σ':=a3y σ H.length m
 let ι2:Io:=fun j=>if j<H.length then ι j else ι' (Hs.length+(j - H.length))
 have hσ'l:σ'.length=Hs'.length:=by simp [σ',a3y];omega
 have hσ'1:∀i,i<σ.length->σ'.getD i 0=σ.getD i 0:=fun i hi=>by
  simp only [σ',a3y,lbl,lbb hi]
 have hσ'2:∀i,σ.length<=i->i<Hs'.length->σ'.getD i 0=H.length+(i - σ.length):=fun i hi hi'=>by
  simp only [σ',a3y,lbl]
  rw [lbc hi,lba,lbh (by omega)]
  rfl
 have hι2:∀id l,ι' id=some l->ι2 (σ'.getD id 0)=some l:=fun id l hid=>by
  have hidl:id<Hs'.length:=by
   rcases K4 id Hs'.length with h|h
   ·exact h
   ·rw [h4 id h] at hid;cases hid
  show (if _ then _ else _)=_
  by_cases hlt:id<σ.length
  ·rw [hσ'1 id hlt,if_pos (hσlt id hlt),←hsub id hlt,←h5.same id (by omega)]
   exact hid
  ·rw [hσ'2 id (by omega) hidl,if_neg (by omega),show Hs.length+(H.length+(id - σ.length) - H.length)=id by omega]
   exact hid
 have hkeepM:∀b,b<w.heap.size->¬M b->w'.heap[b]? =w.heap[b]?:=fun b hb hnm=>h5.keep b hb fun hl=>hnm (a1Z.inM hHs hl)
 have hιext:∀id l,ι id=some l->ι2 id=some l:=fun id l hid=>by
  show (if _ then _ else _)=_
  rw [if_pos]
  ·exact hid
  ·rcases K4 id H.length with h|h
   ·exact h
   ·rw [hF id h] at hid;cases hid
 -- what lies at a place
 have hcase:∀j k',H'[j]? =some k'->(j<H.length∧j ∉ σ∧H[j]? =some k')∨∃i k,Hs'[i]? =some k∧σ'.getD i 0=j∧av3 σ' k k'∧ι2 j=ι' i:=fun j k' hj=>by
  have hjl:=(lbe.1 hj).1
  have fromI:∀i,i<Hs'.length->σ'.getD i 0=j->∃i k,Hs'[i]? =some k∧σ'.getD i 0=j∧av3 σ' k k'∧ι2 j=ι' i:=fun i hi hij=>by
   obtain ⟨k2,hk2,hren⟩:=hout i Hs'[i] (lbf hi)
   have hk2':H'[j]? =some k2:=by rw [← hij];exact hk2
   rw [hj] at hk2'
   injection hk2' with hk2'
   subst hk2'
   refine ⟨i,_,lbf hi,hij,hren,?_⟩
   show (if _ then _ else _)=_
   by_cases hlt:i<σ.length
   ·rw [← hij,hσ'1 i hlt,if_pos (hσlt i hlt),←hsub i hlt,←h5.same i (by omega)]
   ·rw [← hij,hσ'2 i (by omega) hi,if_neg (by omega),show Hs.length+(H.length+(i - σ.length) - H.length)=i by omega]
  by_cases hlt:j<H.length
  ·by_cases hmem:j ∈ σ
   ·obtain ⟨i,hi⟩:=aT1.1 hmem
    have hil:=(lbe.1 hi).1
    refine .inr (fromI i (by omega) ?_)
    rw [hσ'1 i hil,lbl,hi];rfl
   ·rw [hrest j hlt hmem] at hj
    exact .inl ⟨hlt,hmem,hj⟩
  ·refine .inr (fromI (σ.length+(j - H.length)) (by omega) ?_)
   rw [hσ'2 _ (by omega) (by omega)];omega
 have hold2:∀j,j<H.length->ι2 j=ι j:=fun j hj=>by show (if _ then _ else _)=_;rw [if_pos hj]
 have hmodeOut:∀j k',j<H.length->j ∉ σ->H[j]? =some k'->k'.mode=.live->∀b cap size,ι j=some (.blk b cap size)->¬a1Z (N8 σ ι) Hs b:=fun j k' hjl hjn hk' hm' b cap size hi hb=>by
  obtain ⟨i,k,hil,hk,hkm,_,c,s,hi2⟩:=hlive b hb
  have:=hH.inj j _ k' k hk' hk hm' hkm _ _ _ _ _ hi hi2
  apply hjn
  rw [this,lbl,lbf hil]
  exact lbE hil
 refine ⟨ι2,M',?_,⟨?_,?_,?_,?_,?_⟩,h3,?_,?_⟩
 ·rw [hr']
  exact h1.ren hι2 hr
 ·intro j k' hj hd l hl2
  rcases hcase j k' hj with ⟨hjl,hjn,hk'⟩|⟨i,k,hk,hij,hren,hιj⟩
  ·rw [hold2 j hjl] at hl2
   have hb:=hH.blk j k' hk' hd l hl2
   cases l with
   |nil=>exact hb
   |blk b cap size=>
    obtain ⟨q1,q2,q3,q4,q5,cur,q6,q7,q8⟩:=hb
    have hnl:¬a1Z (N8 σ ι) Hs b:=by
     intro hb
     cases hm':k'.mode with
     |live=>exact hmodeOut j k' hjl hjn hk' hm' b cap size hl2 hb
     |froz=>exact hH.fro j k' hk' hm' _ _ _ hl2 (a1Z.inM hHs hb)
     |old=>
      obtain ⟨i,k,hil,hk,hkm,hka,c,s,hi2⟩:=hlive b hb
      have:=(hH.old j _ k' k hk' hk hm' hkm _ _ _ _ _ hl2 hi2).1
      rw [hka] at this;cases this
     |dead=>exact hd hm'
    refine ⟨q1,q2,q3,q4,q5,cur,(h5.keep b (A9 q6) hnl).trans q6,q7,fun i j c hc=>?_⟩
    obtain ⟨u,r1,r2⟩:=q8 i j c hc
    exact ⟨u,r1,r2.keep hkeepM h5.mnew hιext⟩
  ·rw [hιj] at hl2
   exact (h2.blk i k hk (by rw [← hren.1];exact hd) l hl2).ren hι2 hren
 ·intro j k' hj hm' b cap size hi
  rcases hcase j k' hj with ⟨hjl,hjn,hk'⟩|⟨i,k,hk,hij,hren,hιj⟩
  ·rw [hold2 j hjl] at hi
   rcases h5.mold b (hH.liv j k' hk' hm' b cap size hi) with h|h
   ·exact h
   ·exact absurd h (hmodeOut j k' hjl hjn hk' hm' b cap size hi)
  ·rw [hιj] at hi
   exact h2.liv i k hk (by rw [← hren.1];exact hm') b cap size hi
 ·intro j k' hj hm' b cap size hi hb
  rcases hcase j k' hj with ⟨hjl,hjn,hk'⟩|⟨i,k,hk,hij,hren,hιj⟩
  ·rw [hold2 j hjl] at hi
   have hlt:b<w.heap.size:=by
    obtain ⟨_,_,_,_,_,cur,q6,_⟩:=hH.blk j k' hk' (by rw [hm'];intro h;cases h) _ hi
    exact A9 q6
   rcases h5.mnew b hb with h|h
   ·exact hH.fro j k' hk' hm' b cap size hi h
   ·omega
  ·rw [hιj] at hi
   exact h2.fro i k hk (by rw [← hren.1];exact hm') b cap size hi hb
 ·have cross:∀j j' k' i k,j<H.length->j ∉ σ->H[j]? =some k'->k'.mode=.live->Hs'[i]? =some k->k.mode=.live->∀b cap size cap' size',ι j=some (.blk b cap size)->ι' i=some (.blk b cap' size')->j=j':=by
   intro j j' k' i k hjl hjn hk' hm' hk hkm b cap size cap' size' hi hi'
   have hlt:b<w.heap.size:=by
    obtain ⟨_,_,_,_,_,cur,q6,_⟩:=hH.blk j k' hk' (by rw [hm'];intro h;cases h) _ hi
    exact A9 q6
   rcases h5.live b ⟨i,k,cap',size',hk,hkm,hi'⟩ with h|h
   ·exact absurd h (hmodeOut j k' hjl hjn hk' hm' b cap size hi)
   ·omega
  intro j j' k1 k2 hj hj' hm1 hm2 b cap size cap' size' hi hi'
  rcases hcase j k1 hj with ⟨hjl,hjn,hk1⟩|⟨i,k,hk,hij,hren,hιj⟩<;>rcases hcase j' k2 hj' with ⟨hjl',hjn',hk2⟩|⟨i',k0,hk0,hij',hren',hιj'⟩
  ·rw [hold2 j hjl] at hi
   rw [hold2 j' hjl'] at hi'
   exact hH.inj j j' k1 k2 hk1 hk2 hm1 hm2 _ _ _ _ _ hi hi'
  ·rw [hold2 j hjl] at hi
   rw [hιj'] at hi'
   exact cross j j' k1 i' k0 hjl hjn hk1 hm1 hk0 (by rw [← hren'.1];exact hm2) _ _ _ _ _ hi hi'
  ·rw [hιj] at hi
   rw [hold2 j' hjl'] at hi'
   exact (cross j' j k2 i k hjl' hjn' hk2 hm2 hk (by rw [← hren.1];exact hm1) _ _ _ _ _ hi' hi).symm
  ·rw [hιj] at hi
   rw [hιj'] at hi'
   have:=h2.inj i i' k k0 hk hk0 (by rw [← hren.1];exact hm1) (by rw [← hren'.1];exact hm2) _ _ _ _ _ hi hi'
   rw [← hij,←hij',this]
 ·intro j j' k1 k2 hj hj' hm1 hm2 b cap size cap' size' hi hi'
  rcases hcase j k1 hj with ⟨hjl,hjn,hk1⟩|⟨i,k,hk,hij,hren,hιj⟩
  ·rw [hold2 j hjl] at hi
   have hlt:b<w.heap.size:=by
    obtain ⟨_,_,_,_,_,cur,q6,_⟩:=hH.blk j k1 hk1 (by rw [hm1];intro h;cases h) _ hi
    exact A9 q6
   rcases hcase j' k2 hj' with ⟨hjl',hjn',hk2⟩|⟨i',k0,hk0,hij',hren',hιj'⟩
   ·rw [hold2 j' hjl'] at hi'
    exact hH.old j j' k1 k2 hk1 hk2 hm1 hm2 _ _ _ _ _ hi hi'
   ·rw [hιj'] at hi'
    rcases h5.live b ⟨i',k0,cap',size',hk0,by rw [← hren'.1];exact hm2,hi'⟩ with h|h
    ·obtain ⟨i,k,hil,hk,hkm,hka,c,s,hi2⟩:=hlive b h
     have:=(hH.old j _ k1 k hk1 hk hm1 hkm _ _ _ _ _ hi hi2).1
     rw [hka] at this;cases this
    ·omega
  ·have:k.mode=.old:=by rw [← hren.1];exact hm1
   exact absurd this (hno k (lbm hk))
 ·intro id hid
  show (if _ then _ else _)=_
  rw [if_neg (by omega)]
  exact h4 _ (by omega)
 ·refine ⟨h5.os,h5.tape,h5.output,h5.size,fun b hb hnl=>h5.keep b hb fun hl=>hnl (hliveH b hl),fun id hid=>hold2 id hid,h5.mnew,fun b hb=>?_,?_,by omega⟩
  ·rcases h5.mold b hb with h|h
   ·exact .inl h
   ·exact .inr (hliveH b h)
  ·rintro b ⟨j,k',cap,size,hj,hm',hi⟩
   rcases hcase j k' hj with ⟨hjl,hjn,hk'⟩|⟨i,k,hk,hij,hren,hιj⟩
   ·rw [hold2 j hjl] at hi
    exact .inl ⟨j,k',cap,size,hk',hm',hi⟩
   ·rw [hιj] at hi
    rcases h5.live b ⟨i,k,cap,size,hk,by rw [← hren.1];exact hm',hi⟩ with h|h
    ·exact .inl (hliveH b h)
    ·exact .inr h
theorem s7 {P:Program} {τ:Tab} (hτ:B2 P τ) {n0:Nat} {c:Code} {env:Env} {H:Hp} {Q:AX->Env->Hp->Prop} {σ:Type} (E:σ->Env × Hp) (I:σ->Prop) (μ:σ->Nat) (x0:σ) (ρ0:List (Option Nat))
 (hI:I x0) (h0:Ent n0 ρ0 env H (E x0).1 (E x0).2)
 (round:∀x,I x->a0w P τ n0 c (E x).1 (E x).2 fun a env' H'=>match a with
   |.normal=>∃ρ x',Ent n0 ρ env' H' (E x').1 (E x').2∧I x'∧μ x'<μ x
   |a=>Q a env' H'):Awp P n0 (.loop c) env H Q:=by
 refine a2l (σ:={ x:σ // I x }) (fun x=>E x.1) (fun x=>μ x.1) ⟨x0,hI⟩ ρ0 h0 ?_
 rintro ⟨x,hx⟩
 refine (k8 hτ c (round x hx)).mono ?_
 intro a env' H' h
 cases a with
 |normal=>
  obtain ⟨ρ,x',h1,h2,h3⟩:=h
  exact ⟨ρ,⟨x',h2⟩,h1,h3⟩
 |exit id=>exact h
 |ret=>exact h
theorem J1 {x y:Int} (h:x=y) (h1:-9223372036854775808<=y) (h2:y<=9223372036854775807):G0 .i64 x y:=by subst h;exact a3e h1 h2
end
section
open Go.RowKit
section
variable {α β:Type}
theorem au8 {l:List α}:∀{i:Nat} {x:α} {k:α->Prop},l[i]? =some x->k x->a2M i l k:=by
 induction l with
 |nil=>intro i x k h;simp at h
 |cons a r ih=>
  intro i x k h hk
  cases i with
  |zero=>simp at h;subst h;exact hk
  |succ i=>exact ih (by simpa using h) hk
theorem b0A {v:α} {l:List α} {i:Nat} {k:List α->Prop} (h:k (l.set i v)):a4W i v l k:=J6.2 h
theorem a92 {r l:List α} {k:List α->Prop} (h:k (l++r)):ab6 l r k:=a2F.2 h
theorem G2 {l:List α} {k:List α->Prop} (h:k l):ab6 l [] k:=a92 (by rw [R7];exact h)
theorem aY9 {l:List α} {n:Nat} {k:Nat->Prop} (h:k (l.length+n)):a8Y l n k:=a0v.2 (by rw [Nat.add_comm];exact h)
theorem aK9 {f:β->α} {M:List β} {N n:Nat} {k:Nat->Prop} (h:M.length=N) (hk:k (N+n)):a8Y (M.map f) n k:=aY9 (by simpa [h] using hk)
theorem j3 {f:β->α} {M:List β} {T:List α} {N n:Nat} {k:Nat->Prop} (h:M.length=N) (hk:a8Y T n fun m=>k (N+m)):a8Y (M.map f++T) n k:=by
 refine aY9 ?_
 have:=(a0v (k:=fun m=>k (N+m))).1 hk
 simpa [h,U9,Nat.add_comm n] using this
theorem i9 {f:β->α} {M:List β} {T r:List α} {k:List α->Prop} (h:ab6 T r fun q=>k (M.map f++q)):ab6 (M.map f++T) r k:=by
 refine a92 ?_
 rw [lbD]
 exact (a2F (k:=fun q=>k (M.map f++q))).1 h
theorem b3F {f:β->α} {M:List β} {i:Nat} {x:β} {k:α->Prop} (h:M[i]? =some x) (hk:k (f x)):a2M i (M.map f) k:=au8 (by rw [lba,h];rfl) hk
theorem a01 {f:β->α} {M:List β} {T:List α} {i:Nat} {x:β} {k:α->Prop} (h:M[i]? =some x) (hk:k (f x)):a2M i (M.map f++T) k:=
 au8 (by rw [lbb (by simpa using (lbe.1 h).1),lba,h];rfl) hk
theorem i4 {f:β->α} {M:List β} {T:List α} {N t:Nat} {k:α->Prop} (h:M.length=N) (hk:a2M t T k):a2M (N+t) (M.map f++T) k:=by
 obtain ⟨x,h1,h2⟩:=L7 hk
 exact au8 (by rw [lbc (by simp [h])];simpa [h] using h1) h2
theorem F7 {f:β->α} {M:List β} {T:List α} {N:Nat} {k:α->Prop} (h:M.length=N) (hk:a2M 0 T k):a2M N (M.map f++T) k:=i4 (t:=0) h hk
theorem an4 {f:β->α} {M:List β} {T:List α} {i:Nat} {v:α} {x:β} {k:List α->Prop} (hi:i<M.length) (hv:v=f x) (h:k ((M.set i x).map f++T)):a4W i v (M.map f++T) k:=
 b0A (by rw [av6 _ _ (by simpa using hi),hv,←a2Z];exact h)
theorem i5 {f:β->α} {M:List β} {T:List α} {N t:Nat} {v:α} {k:List α->Prop} (h:M.length=N) (hk:a4W t v T fun q=>k (M.map f++q)):a4W (N+t) v (M.map f++T) k:=by
 refine b0A ?_
 rw [List.set_append_right _ _ (by simp [h])]
 simpa [h] using (J6 (k:=fun q=>k (M.map f++q))).1 hk
theorem b1w {f:β->α} {M:List β} {T:List α} {N:Nat} {v:α} {k:List α->Prop} (h:M.length=N) (hk:a4W 0 v T fun q=>k (M.map f++q)):a4W N v (M.map f++T) k:=i5 (t:=0) h hk
end
def idR (n:Nat):List (Option Nat):=(List.range n).map some
theorem b1g (n:Nat):(idR n).length=n:=by simp [idR]
theorem k7 {n i:Nat} (h:i<n):(idR n)[i]? =some (some i):=by simp [idR,h]
theorem b1c {n i j:Nat} (h:(idR n)[i]? =some (some j)):i=j:=by
 obtain ⟨h1,h2⟩:=lbe.1 h
 simp [idR] at h2
 exact h2
theorem a8i {n:Nat}:∀{m:Nat},m<=n->a1p (idR n) m=true
 |0,_=>rfl
 |m+1,h=>by
  unfold a1p
  rw [k7 (by omega),a8i (by omega)]
  simp
theorem aD2:∀{r:List (Option Nat)} {H:Hp} {n:Nat},(∀ j:Nat,r[j]?≠some (some n))->a6N n r H=false
 |[],H,n,_=>by cases H<;>rfl
 |x::r,[],n,_=>by cases x<;>rfl
 |x::r,k::H,n,h=>by
  unfold a6N
  rw [aD2 (r:=r) (H:=H) (n:=n) (fun j=>by simpa using h (j+1)),Bool.or_false]
  split
  ·rfl
  ·rename_i m _
   have:m≠n:=by rintro rfl;exact h 0 rfl
   cases hb:Nat.beq m n with
   |false=>rfl
   |true=>exact absurd (a0H hb) this
  ·rfl
theorem a2u:∀{r:List (Option Nat)} {H:Hp},(∀ i j n:Nat,r[i]? =some (some n)->r[j]? =some (some n)->i=j)->V3 r H=true
 |[],H,_=>by cases H<;>rfl
 |x::r,[],_=>by cases x<;>rfl
 |none::r,k::H,h=>a2u (r:=r) fun i j n h1 h2=>by have:=h (i+1) (j+1) n (by simpa using h1) (by simpa using h2);omega
 |some n::r,k::H,h=>by
  unfold V3
  rw [a2u (r:=r) (H:=H) fun i j n h1 h2=>by have:=h (i+1) (j+1) n (by simpa using h1) (by simpa using h2);omega]
  rw [aD2 (r:=r) (n:=n) (fun j hj=>by have:=h 0 (j+1) n rfl (by simpa using hj);omega)]
  cases k.mode<;>rfl
theorem ak9 {n:Nat} {H:Hp}:V3 (idR n) H=true:=a2u fun i j n h1 h2=>by rw [b1c h1,b1c h2]
theorem a6R {ρ:List (Option Nat)} {H:Hp}:∀{r:List (Option Nat)} {H':Hp},r.length=H'.length->(∀ (i:Nat) (k':Blk),H'[i]? =some k'->∃(j:Nat) (k:Blk),r[i]? =some (some j)∧H[j]? =some k∧a2f ρ H k k')->a2D ρ H r H'
 |[],[],_,_=>trivial
 |[],_::_,h,_=>by simp at h
 |_::_,[],h,_=>by simp at h
 |x::r,k'::H',hl,h=>by
  obtain ⟨j,k,h1,h2,h3⟩:=h 0 k' rfl
  simp at h1
  subst h1
  refine ⟨?_,a6R (by simpa using hl) fun i k1 hk=>by simpa using h (i+1) k1 (by simpa using hk)⟩
  simp only [h2]
  exact h3
theorem am1 {n:Nat} {H:Hp}:∀{l:List C},(∀ c ∈ l,match c with|.t _=>True|.ptr id _ _=>id<n|.own id _ _ _=>id<n|.fn _ _=>False)->a8R (idR n) H l l
 |[],_=>trivial
 |c::r,h=>by
  refine ⟨?_,am1 fun c hc=>h c (by simp [hc])⟩
  have h0:=h c (by simp)
  cases c with
  |t x=>exact W5 x
  |ptr id r o=>exact ⟨k7 h0,rfl,rfl⟩
  |own id lo len app=>exact ⟨k7 h0,rfl,rfl,fun h=>h⟩
  |fn f caps=>exact h0.elim
def okB (n:Nat) (k:Blk):Prop:=∀r ∈ k.rows,∀c ∈ r,match c with|.t _=>True|.ptr id _ _=>id<n|.own id _ _ _=>id<n|.fn _ _=>False
theorem G5 {n:Nat} {k:Blk} {rows:List (List T)} (h:k.rows=toC rows):okB n k:=by
 intro r hr c hc
 rw [h] at hr
 obtain ⟨r0,_,rfl⟩:=lbx.1 hr
 obtain ⟨t,_,rfl⟩:=lbx.1 hc
 trivial
theorem aq5 {n:Nat} {H:Hp}:∀{l:List (List C)},(∀ r ∈ l,∀c ∈ r,match c with|.t _=>True|.ptr id _ _=>id<n|.own id _ _ _=>id<n|.fn _ _=>False)->a9F (idR n) H l l
 |[],_=>trivial
 |r::l,h=>⟨am1 (h r (by simp)),aq5 fun r hr=>h r (by simp [hr])⟩
theorem al5 {n:Nat} {H:Hp} {k:Blk} (h:okB n k):a2f (idR n) H k k:=⟨by unfold a26;cases k.mode<;>simp,rfl,rfl,.inr (aq5 h)⟩
theorem a6P {ρ:List (Option Nat)} {H:Hp}:∀{xs ys:List (List C)},xs.length=ys.length->(∀ (i:Nat) (x y:List C),xs[i]? =some x->ys[i]? =some y->a8R ρ H x y)->a9F ρ H xs ys
 |[],[],_,_=>trivial
 |[],_::_,h,_=>by simp at h
 |_::_,[],h,_=>by simp at h
 |x::xs,y::ys,h,hh=>⟨hh 0 x y rfl rfl,a6P (by simpa using h) fun i a b ha hb=>hh (i+1) a b (by simpa using ha) (by simpa using hb)⟩
theorem ao2 {n0 n:Nat} {env env':Env} {H H':Hp} (hn:H'.length=n) (h0:n0<=n) (hok:∀k ∈ H',okB n k) (hH:∀i,i<n->H[i]? =H'[i]?) (hE:a2x (idR n) H env env'):Ent n0 (idR n) env H env' H':=
 ⟨a8i h0,ak9,a6R (by rw [b1g,hn]) fun i k' hk=>by
   have hi:i<n:=by rw [← hn];exact (lbe.1 hk).1
   exact ⟨i,k',k7 hi,by rw [hH i hi];exact hk,al5 (hok k' (lbm hk))⟩,hE⟩
theorem ar9 {n0 n:Nat} {r s:S} {H H':Hp} (hn:H'.length=n) (h0:n0<=n) (hok:∀k ∈ H',okB n k) (hH:∀i,i<n->H[i]? =H'[i]?) (hE:aj7 (idR n) H r s):Fin n0 r H s H':=
 ⟨idR n,a8i h0,ak9,a6R (by rw [b1g,hn]) fun i k' hk=>by
   have hi:i<n:=by rw [← hn];exact (lbe.1 hk).1
   exact ⟨i,k',k7 hi,by rw [hH i hi];exact hk,al5 (hok k' (lbm hk))⟩,hE⟩
theorem a38 {n i:Nat} (h:i<n):(List.range n).getD i 0=i:=by simp [h]
mutual
theorem a9n {n:Nat}:∀c:C,okC n c=true->Z5 (List.range n) c=c
 |.t x,_=>by simp [Z5]
 |.ptr id r o,h=>by simp only [Z5];rw [a38 (by simpa [okC] using h)]
 |.own id lo len app,h=>by simp only [Z5];rw [a38 (by simpa [okC] using h)]
 |.fn f caps,h=>by simp only [Z5];rw [a2O caps (by simpa [okC] using h)]
theorem a2O {n:Nat}:∀l:List C,okL n l=true->a2g (List.range n) l=l
 |[],_=>by simp [a2g]
 |c::r,h=>by
  simp only [okL,lbM] at h
  simp only [a2g]
  rw [a9n c h.1,a2O r h.2]
end
theorem aW1 {n:Nat} {s:S} (h:okS n s=true):a6B (List.range n) s=s:=by
 cases s with
 |junk=>rfl
 |c x=>simp only [a6B];rw [a9n x h]
 |agg cs=>simp only [a6B];rw [a2O cs h]
 |tup ss=>simp [okS] at h
theorem aR5 {n:Nat}:∀{l:List C},(∀ c ∈ l,match c with|.t _=>True|.ptr id _ _=>id<n|.own id _ _ _=>id<n|.fn _ _=>False)->okL n l=true
 |[],_=>by simp [okL]
 |c::r,h=>by
  simp only [okL,lbM]
  refine ⟨?_,aR5 fun c hc=>h c (by simp [hc])⟩
  have h0:=h c (by simp)
  cases c with
  |t x=>simp [okC]
  |ptr id r o=>simp only [okC];exact R5 ▸ h0
  |own id lo len app=>simp only [okC];exact R5 ▸ h0
  |fn f caps=>exact h0.elim
theorem a9o {n:Nat} {k:Blk} (h:okB n k):av3 (List.range n) k k:=by
 refine ⟨rfl,rfl,rfl,rfl,?_⟩
 unfold a8W
 rw [lbp (g:=id) fun r hr=>a2O r (aR5 (h r hr))]
 simp
theorem aB8 {σ:List Nat} {l:List C} (h:l.all C.isT=true):a2g σ l=l:=by
 rw [K8]
 conv=>rhs;rw [← List.map_id l]
 exact lbp fun c hc=>ac4 (lbv.1 h c hc)
theorem a8E {P:Program} {g:FuncId} {args:List S} {Hs Hs':Hp} {r:S} {n:Nat} (T:Hp) (h:a8 P g args Hs r Hs') (hn:Hs.length=n) (hn':Hs'.length=n) (hok:args.all (okS n)=true)
 (hin:∀k ∈ Hs,k.mode=.live∧k.app=false∧okB n k) (hout:∀k ∈ Hs',k.mode≠.old∧okB n k) (hr:b0V r=true) (hr':r.isT=true):a8 P g args (Hs++T) r (Hs'++T):=by
 have e0:Hs'.length - Hs.length=0:=by omega
 have ex:∀m,a3y (List.range n) m (Hs'.length - Hs.length)=List.range n:=fun m=>by rw [e0];simp [a3y]
 have hargs:args=args.map (a6B (List.range n)):=by
  conv=>lhs;rw [← List.map_id args]
  exact lbp fun s hs=>(aW1 (lbv.1 hok s hs)).symm
 refine N1 (List.range n) h hargs (by simpa using hok) (by simp [hn]) List.nodup_range ?_ (fun k hk=>(hout k hk).1) (by omega) hr ?_ (by simp;omega) ?_ ?_
 ·intro i k hk
  have hi:i<n:=by rw [← hn];exact (lbe.1 hk).1
  obtain ⟨h1,h2,h3⟩:=hin k (lbm hk)
  refine ⟨h1,h2,fun r hr=>by rw [List.length_range];exact aR5 (h3 r hr),k,?_,a9o h3⟩
  rw [a38 hi,lbb (by omega),hk]
 ·rw [ex]
  cases r with
  |junk=>rfl
  |c x=>simp only [a6B];rw [ac4 hr']
  |agg cs=>
   simp only [a6B]
   rw [aB8 hr']
  |tup ss=>
   simp only [a6B]
   congr 1
   conv=>lhs;rw [← List.map_id ss]
   refine lbp fun s hs=>?_
   have h1:=lbv.1 hr' s hs
   cases s with
   |junk=>rfl
   |c x=>simp only [id];rw [ac4 h1]
   |agg cs=>
    simp only [id]
    rw [aB8 h1]
   |tup ss=>rfl
 ·intro i k hk
  have hi:i<n:=by rw [← hn'];exact (lbe.1 hk).1
  obtain ⟨h1,h3⟩:=hout k (lbm hk)
  rw [ex]
  exact ⟨k,by rw [a38 hi,lbb (by omega),hk],a9o h3⟩
 ·intro j hj hnj
  have:n<=j:=by
   rcases K4 j n with h|h
   ·exact absurd (lbB.2 h) hnj
   ·exact h
  rw [lbc (by omega),lbc (by omega),hn,hn']
end
section
open Go.RowKit
theorem a4P {P : Program} {τ : Tab} (hτ : B2 P τ) {f : FuncId} {fn : Func} {c : Code} {args : List S} {H : Hp} {s : S} {H' : Hp} (hf : P.funcs[f]? = some fn) (hb : fn.body = some c) (hn : fn.name ≠ "runtime.NumGoroutine")
    (h:Awp P H.length c (args++List.replicate (fn.ntmps - args.length) .junk) H fun x env' H1=>match x with
      |.exit _=>False
      |_=>a6O τ fn env' H1 fun r=>Fin H.length r H1 s H'):a8 P f args H s H':=by
  refine ⟨⟨fn,hf,by rw [hb];rfl,hn⟩,fun w ι M vals hl hr hH hM hF=>?_⟩
  refine calls_of_wp hf hb ?_
  have hi:=Sim.init hl hr hH hM hF (fn.ntmps - args.length)
  have:=h.out w ι M H _ w rfl hM hi
  have e:vals.toArray.size=args.length:=by simpa using hl
  rw [e]
  refine wp_mono this ?_
  rintro e a' w' ⟨x,env',H1,rfl,hq,ι',M',hd,hsz,he,hH',hM',hF',hst⟩
  have key:(a6O τ fn env' H1 fun r=>Fin H.length r H1 s H')->a'.defers=[]∧∃v,(results fn a'.tmps).run P w'=.ok v w'∧∃v',Ending.returned v=.returned v'∧E1 w ι M H s H' v' w':=by
   intro hq
   refine ⟨hd,?_⟩
   obtain ⟨l,hk,vs,h1,h2,h3⟩:=a63 hτ he hH' fn.results.toList hq
   have hrun:∃v,(results fn a'.tmps).run P w'=.ok v w'∧v=(if h:vs.length=1 then vs[0] else .tuple vs.toArray):=by
    refine ⟨_,?_,rfl⟩
    unfold results
    rw [Array.mapM_eq_mapM_toList,Sem.run_bind,Sem.run_map]
    refine (congrArg (fun r=>Result.andThen (Result.andThen r _) _) h1).trans ?_
    simp
   obtain ⟨v,hv1,rfl⟩:=hrun
   refine ⟨_,hv1,_,rfl,?_⟩
   have hsr:∃r,RS w' ι' M' r (if h:vs.length=1 then vs[0] else .tuple vs.toArray)∧Fin H.length r H1 s H':=by
    match l,hk,h2,h3 with
    |[s1],hk,h2,h3=>
     refine ⟨s1,?_,hk⟩
     rw [dif_pos (by simpa using h2)]
     have:=h3 0 s1 rfl
     rw [lbl,lbf (by simp at h2;omega)] at this
     exact this
    |[],hk,h2,h3=>
     refine ⟨_,?_,hk⟩
     rw [dif_neg (by simp at h2;simp [h2])]
     exact .tup vs h2 h3
    |s1::s2::r,hk,h2,h3=>
     refine ⟨_,?_,hk⟩
     rw [dif_neg (by simp at h2;omega)]
     exact .tup vs h2 h3
   obtain ⟨r,h4,ρ,f1,f2,f3,f4⟩:=hsr
   obtain ⟨g1,g2,g3⟩:=a2D.all f1 f2 f3 rfl hM hH' hst
   exact ⟨M7 ρ ι',_,f4.rs hH' h4,g1,fun b hb=>hM' b hb.1,g2,g3⟩
  cases x with
  |normal=>exact key hq
  |ret=>exact key hq
  |exit id=>exact hq.elim
theorem x4 {P:Program} {τ:Tab} (hτ:B2 P τ) {n0:Nat} {x y:Code} {env:Env} {H:Hp} {Q:AX->Env->Hp->Prop}
 (h:a0w P τ n0 x env H fun a env' H'=>match a with
   |.normal=>Awp P n0 y env' H' Q
   |a=>Q a env' H'):Awp P n0 (.seq x y) env H Q:=by
 refine ⟨fun w0 ι0 M0 H0 a w hn hM hs=>?_⟩
 refine wp_seq (wp_mono ((k8 hτ x h).out w0 ι0 M0 H0 a w hn hM hs) ?_)
 rintro e a' w' ⟨x,env',H',rfl,hq,hs'⟩
 cases x with
 |normal=>exact hq.out w0 ι0 M0 H0 a' w' hn hM hs'
 |exit id=>exact ⟨_,env',H',rfl,hq,hs'⟩
 |ret=>exact ⟨_,env',H',rfl,hq,hs'⟩
theorem a2C {P:Program} {n0:Nat} {x y:Code} {env:Env} {H:Hp} {Q:AX->Env->Hp->Prop}
 (h:Awp P n0 x env H fun a env' H'=>match a with
   |.normal=>Awp P n0 y env' H' Q
   |a=>Q a env' H'):Awp P n0 (.seq x y) env H Q:=by
 refine ⟨fun w0 ι0 M0 H0 a w hn hM hs=>?_⟩
 refine wp_seq (wp_mono (h.out w0 ι0 M0 H0 a w hn hM hs) ?_)
 rintro e a' w' ⟨x,env',H',rfl,hq,hs'⟩
 cases x with
 |normal=>exact hq.out w0 ι0 M0 H0 a' w' hn hM hs'
 |exit id=>exact ⟨_,env',H',rfl,hq,hs'⟩
 |ret=>exact ⟨_,env',H',rfl,hq,hs'⟩
theorem a3g {P:Program} {n0 id:Nat} {c:Code} {env:Env} {H:Hp} {Q:AX->Env->Hp->Prop} (h:Awp P n0 c env H (b9k id Q)):Awp P n0 (.block id c) env H Q:=by
 refine ⟨fun w0 ι0 M0 H0 a w hn hM hs=>?_⟩
 refine wp_block (wp_mono (h.out w0 ι0 M0 H0 a w hn hM hs) ?_)
 rintro e a' w' ⟨x,env',H',rfl,hq,hs'⟩
 cases x with
 |normal=>exact ⟨_,env',H',rfl,hq,hs'⟩
 |exit j=>
  have hq:cond (Nat.beq j id) (Q .normal env' H') (Q (.exit j) env' H'):=hq
  show if j=id then _ else _
  by_cases hj:j=id
  ·subst hj
   rw [if_pos rfl]
   simp only [a9V,cond_true] at hq
   exact ⟨_,env',H',rfl,hq,hs'⟩
  ·rw [if_neg hj]
   have:Nat.beq j id=false:=by
    cases hb:Nat.beq j id with
    |false=>rfl
    |true=>exact absurd (a0H hb) hj
   simp only [this,cond_false] at hq
   exact ⟨_,env',H',rfl,hq,hs'⟩
 |ret=>exact ⟨_,env',H',rfl,hq,hs'⟩
theorem b5P {P:Program} {n0:Nat} {c:Code} {env env':Env} {H H':Hp} {Q:AX->Env->Hp->Prop} (ρ:List (Option Nat)) (he:Ent n0 ρ env H env' H') (h:Awp P n0 c env' H' Q):Awp P n0 c env H Q:=
 ⟨fun w0 ι0 M0 H0 a w hn hM hs=>h.out w0 ι0 M0 H0 a w hn hM (he.sim hn hM hs)⟩
theorem a0U {P:Program} {τ:Tab} (hτ:B2 P τ) {n0:Nat} {x y:Code} {env:Env} {H:Hp} {Q:AX->Env->Hp->Prop} (E2:Env) (H2:Hp)
 (h:a0w P τ n0 x env H fun a env' H'=>match a with
   |.normal=>∃ρ,Ent n0 ρ env' H' E2 H2
   |a=>Q a env' H') (h2:Awp P n0 y E2 H2 Q):Awp P n0 (.seq x y) env H Q:=by
 refine ⟨fun w0 ι0 M0 H0 a w hn hM hs=>?_⟩
 refine wp_seq (wp_mono ((k8 hτ x h).out w0 ι0 M0 H0 a w hn hM hs) ?_)
 rintro e a' w' ⟨x,env',H',rfl,hq,hs'⟩
 cases x with
 |normal=>obtain ⟨ρ,he⟩:=hq;exact h2.out w0 ι0 M0 H0 a' w' hn hM (he.sim hn hM hs')
 |exit id=>exact ⟨_,env',H',rfl,hq,hs'⟩
 |ret=>exact ⟨_,env',H',rfl,hq,hs'⟩
theorem aF9 {P:Program} {n0:Nat} {c:Code} {env:Env} {H:Hp} {Q:AX->Env->Hp->Prop} (E:Nat->Env × Hp) (n:Nat) (I:Nat->Prop) (ρ0:List (Option Nat))
 (hI:I 0) (h0:Ent n0 ρ0 env H (E 0).1 (E 0).2)
 (round:∀k,k<=n->I k->Awp P n0 c (E k).1 (E k).2 fun a env' H'=>match a with
   |.normal=>k<n∧I (k+1)∧∃ρ,Ent n0 ρ env' H' (E (k+1)).1 (E (k+1)).2
   |a=>Q a env' H'):Awp P n0 (.loop c) env H Q:=by
 refine a2l (σ:={ k:Nat // k<=n∧I k }) (fun k=>E k.1) (fun k=>n - k.1) ⟨0,B9 _,hI⟩ ρ0 h0 ?_
 rintro ⟨k,hk,hi⟩
 refine (round k hk hi).mono ?_
 intro a env' H' h
 cases a with
 |normal=>
  obtain ⟨h1,h2,ρ,h3⟩:=h
  exact ⟨ρ,⟨k+1,h1,h2⟩,h3,by show n - (k+1)<n - k;omega⟩
 |exit id=>exact h
 |ret=>exact h
theorem ae6 {P:Program} {g:FuncId} {args args':List S} {H Hs:Hp} {r:S} (σ:List Nat) (h:a8 P g args Hs r Hs) (hargs:args'=args.map (a6B σ)) (hok:args.all (okS σ.length)=true) (hσl:σ.length=Hs.length)
 (hin:∀(i:Nat) (k:Blk),Hs[i]? =some k->k.mode=.old∧(∀ r ∈ k.rows,okL σ.length r=true)∧∃k',H[σ.getD i 0]? =some k'∧k'.mode≠.dead∧k'.elem=k.elem∧k'.size=k.size∧k'.rows=a8W σ k.rows)
 (hr:r.isT=true):R2 P g args' H r []:=by
 refine ⟨h.1,fun w ι M vals hl hv hH hM hf=>?_⟩
 subst hargs
 have hget:∀(i:Nat) (k:Blk),Hs[i]? =some k->i<σ.length:=fun i k hk=>by rw [hσl];exact (lbe.1 hk).1
 have hsub:∀i,i<σ.length->N8 σ ι i=ι (σ.getD i 0):=fun i hi=>by simp [N8,lbf hi,lbl]
 have hno:∀(i:Nat) (k:Blk),Hs[i]? =some k->k.mode=.live->False:=fun i k hk hm=>by rw [(hin i k hk).1] at hm;cases hm
 have hHs:j4 w (N8 σ ι) M Hs:=by
  refine ⟨fun id k hk hd l hl=>?_,fun id k hk hm=>(hno id k hk hm).elim,fun id k hk hm=>?_,fun id id' k k' hk _ hm=>(hno id k hk hm).elim,fun id id' k k' _ hk' _ hm=>(hno id' k' hk' hm).elim⟩
  ·obtain ⟨h1,h2,k',hk',hm',e1,e2,e3⟩:=hin id k hk
   rw [hsub id (hget id k hk)] at hl
   have hb:=hH.blk _ k' hk' hm' l hl
   have hb:E7 w ι M ⟨k.mode,k'.elem,k'.size,k'.rows,k'.box,k.app⟩ l:=by cases l<;>exact hb
   exact E7.ren_in (k:=k) (k':=⟨k.mode,k'.elem,k'.size,k'.rows,k'.box,k.app⟩) ⟨rfl,e1,e2,rfl,e3⟩ h2 hb
  ·rw [(hin id k hk).1] at hm;cases hm
 have hcall:=h.2 w (N8 σ ι) M vals (by simpa using hl) (fun j s hj=>b0t (lbv.1 hok s (lbm hj)) (hv j _ (by rw [lba,hj];rfl))) hHs hM (fun id hid=>by
  unfold N8
  rw [lbd (by omega)];rfl)
 refine Calls.mono hcall ?_
 rintro e w' ⟨v,rfl,ι',M',h1,h2,h3,h4,h5⟩
 have hlv:∀b,¬a1Z (N8 σ ι) Hs b:=fun b ⟨id,k,_,_,hk,hm,_⟩=>hno id k hk hm
 have hext:Ext w w':=⟨h5.os,h5.tape,h5.output,h5.size,fun b hb=>h5.keep b hb (hlv b)⟩
 refine ⟨v,rfl,fun _=>.nil,?_,hext,fun k blk hk=>by simp at hk,fun k b cap size hk=>by simp at hk,fun k k' b cap size cap' size' hk=>by simp at hk⟩
 refine RS.tree hr (RS.keep (M:=M') (ι:=ι') (fun _ _ _=>rfl) (fun b hb=>?_) (fun _ _ h=>h) h1)
 rcases hb with hb|⟨k,hk,_⟩
 ·rcases h5.mold b hb with h|h
  ·exact .inl h
  ·exact absurd h (hlv b)
 ·simp at hk
end
section
open Go.RowKit
inductive VY (H:Hp) (p:Nat->Prop):C->T->Prop
 |vc {x:C} {y:T} (h:VC H p x y):VY H p x y
 |own {id lo len:Nat} {app:Bool} {size:Nat} {k:Blk} {rows:List (List T)} (hp:p id) (hk:H[id]? =some k) (hd:¬k.mode.gone) (hs:k.size=size) (hl:rows.length=len)
   (hw:∀r ∈ rows,r.length=size) (g:Nat->Nat->C) (hc:∀i j c,at2 rows i j=some c->at2 k.rows (lo+i) j=some (g i j))
   (hx:∀i j c,at2 rows i j=some c->VY H p (g i j) c):VY H p (.own id lo len app) (.sl size .any rows)
 |ptr {id r o:Nat} {k:Blk} {row:List C} {cells:List T} (hp:p id) (hk:H[id]? =some k) (hd:¬k.mode.gone) (hr:k.rows[r]? =some row)
   (g:Nat->C) (hc:∀j c,cells[j]? =some c->row[o+j]? =some (g j)) (hx:∀j c,cells[j]? =some c->VY H p (g j) c):VY H p (.ptr id r o) (.ptr cells)
 |fn {f:Fn} {caps:List C} {caps':List T} (hl:caps.length=caps'.length) (g:Nat->C) (hc:∀j c,caps'[j]? =some c->caps[j]? =some (g j))
   (hx:∀j c,caps'[j]? =some c->VY H p (g j) c):VY H p (.fn f caps) (.fn f caps')
def VYL (H:Hp) (p:Nat->Prop):List C->List T->Prop
 |[],[]=>True
 |x::r,y::r'=>VY H p x y∧VYL H p r r'
 |_,_=>False
theorem VYL.get {H:Hp} {p:Nat->Prop}:∀{xs:List C} {ys:List T},VYL H p xs ys->xs.length=ys.length∧∀(j:Nat) (c:T),ys[j]? =some c->∃x,xs[j]? =some x∧VY H p x c
 |[],[],_=>⟨rfl,by simp⟩
 |x::xs,y::ys,h=>by
  obtain ⟨h1,h2⟩:=VYL.get h.2
  refine ⟨by simp [h1],fun j c hc=>?_⟩
  cases j with
  |zero=>simp at hc;subst hc;exact ⟨x,rfl,h.1⟩
  |succ j=>simpa using h2 j c (by simpa using hc)
 |[],_::_,h=>h.elim
 |_::_,[],h=>h.elim
theorem a5X {H:Hp} {p:Nat->Prop} {x:T}:VY H p (.t x) x:=.vc (aT4 (W5 x))
theorem b5o {H:Hp} {p:Nat->Prop}:∀ts:List T,VYL H p (ts.map C.t) ts
 |[]=>trivial
 |t::r=>⟨a5X,b5o r⟩
theorem a88 {H:Hp} {p:Nat->Prop} {id r o:Nat} {k:Blk} {row:List C} {cells:List T} (hp:p id) (hk:H[id]? =some k) (hd:¬k.mode.gone) (hr:k.rows[r]? =some row) (h:VYL H p (row.drop o) cells):VY H p (.ptr id r o) (.ptr cells):=by
 obtain ⟨h1,h2⟩:=h.get
 refine .ptr hp hk hd hr (fun j=>(row.drop o).getD j (.t (.ptr []))) (fun j c hc=>?_) (fun j c hc=>?_)
 ·obtain ⟨x,hx,_⟩:=h2 j c hc
  rw [lbj] at hx
  rw [lbl,lbj,hx];rfl
 ·obtain ⟨x,hx,hv⟩:=h2 j c hc
  rw [lbl,hx];exact hv
theorem b0y {H:Hp} {p:Nat->Prop} {f:Fn} {caps:List C} {caps':List T} (h:VYL H p caps caps'):VY H p (.fn f caps) (.fn f caps'):=by
 obtain ⟨h1,h2⟩:=h.get
 refine .fn h1 (fun j=>caps.getD j (.t (.ptr []))) (fun j c hc=>?_) (fun j c hc=>?_)
 ·obtain ⟨x,hx,_⟩:=h2 j c hc
  rw [lbl,hx];rfl
 ·obtain ⟨x,hx,hv⟩:=h2 j c hc
  rw [lbl,hx];exact hv
theorem b42 {H:Hp} {p:Nat->Prop} {id len size:Nat} {app:Bool} {k:Blk} {rows:List (List T)} (hp:p id) (hk:H[id]? =some k) (hd:¬k.mode.gone) (hs:k.size=size) (hl:rows.length=len)
 (hw:∀r ∈ rows,r.length=size) (h:∀(i:Nat) (r:List T),rows[i]? =some r->∃row,k.rows[i]? =some row∧VYL H p row r):VY H p (.own id 0 len app) (.sl size .any rows):=by
 have key:∀i j c,at2 rows i j=some c->∃x,at2 k.rows i j=some x∧VY H p x c:=fun i j c hc=>by
  obtain ⟨r,h1,h2⟩:=D6 hc
  obtain ⟨row,h3,h4⟩:=h i r h1
  obtain ⟨x,h5,h6⟩:=h4.get.2 j c h2
  exact ⟨x,z6 h3 h5,h6⟩
 refine .own hp hk hd hs hl hw (fun i j=>(at2 k.rows i j).getD (.t (.ptr []))) (fun i j c hc=>?_) (fun i j c hc=>?_)
 ·obtain ⟨x,hx,_⟩:=key i j c hc
  rw [D8,hx];rfl
 ·obtain ⟨x,hx,hv⟩:=key i j c hc
  rw [hx];exact hv
theorem VY.rt {H:Hp} {p:Nat->Prop} {w:World} {ι:Io} {M M':Ms} (hH:j4 w ι M H) (hM:∀b,M' b->M b) (hp:∀id k b cap size,p id->H[id]? =some k->¬k.mode.gone->ι id=some (.blk b cap size)->¬M' b)
 {x:C} {y:T} (h:VY H p x y):∀{v:Value},RC w ι M x v->RT w M' y v:=by
 induction h with
 |vc h=>intro v hr;exact VC.rt hH hM hp _ _ _ h hr
 |@own id lo len app size k rows hpi hk hd hs hl hw g hc hx ih=>
  intro v hr
  cases hr with
  |@own _ _ _ _ b cap sz A cap' hi q1 q2 q3 q4 q5=>
   subst hl
   have hbr:=hH.blk id k hk (fun e=>hd (by rw [e];trivial)) _ hi
   obtain ⟨r1,r2,r3,r4,r5,cur,r6,r7,r8⟩:=hbr
   have hnm:=hp id k b cap sz hpi hk hd hi
   have hse:sz=size:=by rw [← hs,r1]
   subst hse
   have hat:∀(i j:Nat) (c:T),at2 rows i j=some c->∃u,cur[(lo+i)*sz+j]? =some u∧RT w M' c u:=fun i j c hij=>by
    obtain ⟨u,t1,t2⟩:=r8 _ _ _ (hc i j c hij)
    exact ⟨u,t1,ih i j c hij t2⟩
   refine .sl (b:=b) (off:=lo*sz) (fun i j=>cur.getD ((lo+i)*sz+j) undef) hw q3 q4 (by intro h;cases h) (by intro h;cases h) (fun hne=>q2 (a5Q.2 hne)) ?_ ?_
   ·intro i j c hc'
    obtain ⟨u,s1,s2⟩:=hat i j c hc'
    refine ⟨?_,hnm⟩
    have e:lo*sz+(i*sz+j)=(lo+i)*sz+j:=by rw [I3,U9]
    simp only [World.cell?]
    rw [r6,e]
    simp [s1]
   ·intro i j c hc'
    obtain ⟨u,s1,s2⟩:=hat i j c hc'
    have:cur.getD ((lo+i)*sz+j) undef=u:=by simp [s1]
    rw [this];exact s2
  |nil hi=>
   have hr0:rows=[]:=lbF hl
   subst hr0
   exact .sl (b:=0) (off:=0) (fun _ _=>undef) (by simp) (by simp) (by unfold maxLen;omega) (by simp) (by simp) (by simp) (by simp [at2]) (by simp [at2])
 |@ptr id r o k row cells hpi hk hd hrow g hc hx ih=>
  intro v hr
  cases hr with
  |@ptr _ _ _ b cap size hi=>
   have hb:=(hH.blk id k hk (fun e=>hd (by rw [e];trivial)) _ hi).row hrow
   have hnm:=hp id k b cap size hpi hk hd hi
   refine .ptr (fun j=>(w.cell? ⟨b,r*size+o+j,none⟩).getD undef) (fun j c hj=>?_) (fun j c hj=>?_)
   ·obtain ⟨u,h1,h2⟩:=hb _ _ (hc j c hj)
    rw [U9,h1]
    exact ⟨rfl,hnm⟩
   ·obtain ⟨u,h1,h2⟩:=hb _ _ (hc j c hj)
    rw [U9,h1]
    exact ih j c hj h2
 |@fn f caps caps' hl g hc hx ih=>
  intro v hr
  cases hr with
  |fn vs hl' hr=>
   exact .fn vs (by omega) fun j c hj=>ih j c hj (hr j _ (hc j c hj))
def VYS (H:Hp) (p:Nat->Prop) (s s':S):Prop:=
 match s' with
 |.junk=>True
 |.c y=>match s,y with
  |.c x,.t y=>VY H p x y
  |_,_=>False
 |.agg ys=>match s with
  |.agg xs=>∃ts,ys=ts.map C.t∧VYL H p xs ts
  |_=>False
 |.tup _=>False
theorem VYS.rs {H:Hp} {p:Nat->Prop} {w:World} {ι ι':Io} {M M':Ms} (hH:j4 w ι M H) (hM:∀b,M' b->M b) (hp:∀id k b cap size,p id->H[id]? =some k->¬k.mode.gone->ι id=some (.blk b cap size)->¬M' b)
 {x y:S} {v:Value} (h:VYS H p x y) (hr:RS w ι M x v):RS w ι' M' y v:=by
 cases y with
 |junk=>exact .junk
 |c y=>
  cases x with
  |c x=>
   cases y with
   |t y=>
    cases hr with
    |c hr=>exact .c (.t (VY.rt hH hM hp h hr))
   |_=>exact False.elim h
  |_=>exact False.elim h
 |agg ys=>
  cases x with
  |agg xs=>
   obtain ⟨ts,rfl,h⟩:=h
   obtain ⟨h1,h2⟩:=h.get
   cases hr with
   |agg vs hl hr=>
    refine .agg vs (by simp;omega) fun j c hj=>?_
    rw [lba] at hj
    cases hj':ts[j]? with
    |none=>rw [hj'] at hj;cases hj
    |some c'=>
     rw [hj'] at hj
     injection hj with hj
     subst hj
     obtain ⟨x,hx,hv⟩:=h2 j c' hj'
     exact .t (VY.rt hH hM hp hv (hr j x hx))
  |_=>exact False.elim h
 |tup _=>exact False.elim h
def a2j (H:Hp) (p:Nat->Prop):List S->List S->Prop
 |[],[]=>True
 |s::r,s'::r'=>VYS H p s s'∧a2j H p r r'
 |_,_=>False
theorem a2j.get {H:Hp} {p:Nat->Prop}:∀{l l':List S},a2j H p l l'->l.length=l'.length∧∀(j:Nat) (s':S),l'[j]? =some s'->∃s,l[j]? =some s∧VYS H p s s'
 |[],[],_=>⟨rfl,by simp⟩
 |s::r,s'::r',h=>by
  obtain ⟨h1,h2⟩:=a2j.get h.2
  refine ⟨by simp [h1],fun j t ht=>?_⟩
  cases j with
  |zero=>simp at ht;subst ht;exact ⟨s,rfl,h.1⟩
  |succ j=>simpa using h2 j t (by simpa using ht)
 |[],_::_,h=>h.elim
 |_::_,[],h=>h.elim
theorem j7 {P:Program} {g:FuncId} {args args':List S} {H:Hp} {r:S} (h:a8 P g args' [] r []) (ha:a2j H (fun _=>True) args args') (hr:r.flat=true):R2 P g args H r []:=by
 refine ⟨h.1,fun w ι M vals hl hv hH hM hf=>?_⟩
 obtain ⟨hlen,hget⟩:=a2j.get ha
 have:=h.2 w (fun _=>none) (fun _=>False) vals (by omega) (fun j s hj=>by
  obtain ⟨x,hx,hs⟩:=hget j s hj
  exact hs.rs hH (fun _ h=>h.elim) (fun _ _ _ _ _ _ _ _ _ h=>h) (hv j x hx))
  .none (fun _ h=>h.elim) (fun _ _=>rfl)
 refine Calls.mono this ?_
 rintro e w' ⟨v,rfl,ι',M',h1,h2,h3,h4,h5⟩
 exact ⟨v,rfl,H7.of_none (h1.flat hr) ⟨h5.os,h5.tape,h5.output,h5.size,fun b hb=>h5.keep b hb (by rintro ⟨id,k,_,_,hk,_⟩;simp at hk)⟩⟩
end
section
set_option maxRecDepth 100000
def ba3:List (Option TD):=[none,some ⟨.bas,false,1,8,[.nilFunc]⟩,some ⟨.int .i64,false,1,8,[.int .i64 0]⟩,some ⟨.int .i64,false,1,8,[.int .i64 0]⟩,some ⟨.bool,false,1,1,[.bool false]⟩,some ⟨.int .u8,false,1,1,[.int .u8 0]⟩,some ⟨.int .u8,false,1,1,[.int .u8 0]⟩,some ⟨.struct [(0,1,false),(1,1,false),(2,1,false),(3,1,false)],true,4,24,[.int .i64 0,.int .i64 0,.bool false,.int .u8 0]⟩,some ⟨.struct [(0,1,false),(1,1,false),(2,1,false),(3,1,false)],true,4,24,[.int .i64 0,.int .i64 0,.bool false,.int .u8 0]⟩,none,none,none,some ⟨.int .u64,false,1,8,[.int .u64 0]⟩,none,none,some ⟨.bas,false,1,8,[.pointer none]⟩,some ⟨.bas,false,1,8,[.pointer none]⟩,some ⟨.bas,false,1,8,[.pointer none]⟩,some ⟨.struct [(0,1,false)],true,1,8,[.pointer none]⟩,some ⟨.struct [(0,1,false)],true,1,8,[.pointer none]⟩,none,some ⟨.int .i32,false,1,4,[.int .i32 0]⟩,some ⟨.slice 121,false,1,24,[.slice none 0 0]⟩,some ⟨.slice 45,false,1,24,[.slice none 0 0]⟩,some ⟨.slice 211,false,1,24,[.slice none 0 0]⟩,some ⟨.slice 307,false,1,24,[.slice none 0 0]⟩,some ⟨.slice 252,false,1,24,[.slice none 0 0]⟩,some ⟨.struct [(0,1,false),(1,1,false),(2,1,false),(3,1,false),(4,1,false),(5,1,false),(6,1,false),(7,1,false)],true,8,144,[.int .i64 0,.int .i64 0,.int .i64 0,.slice none 0 0,.slice none 0 0,.slice none 0 0,.slice none 0 0,.slice none 0 0]⟩,some ⟨.struct [(0,1,false),(1,1,false),(2,1,false),(3,1,false),(4,1,false),(5,1,false),(6,1,false),(7,1,false)],true,8,144,[.int .i64 0,.int .i64 0,.int .i64 0,.slice none 0 0,.slice none 0 0,.slice none 0 0,.slice none 0 0,.slice none 0 0]⟩,some ⟨.bas,false,1,8,[.nilFunc]⟩,some ⟨.bas,false,1,8,[.nilFunc]⟩,some ⟨.slice 3,false,1,24,[.slice none 0 0]⟩,some ⟨.struct [(0,1,false),(1,1,false)],true,2,32,[.int .i64 0,.slice none 0 0]⟩,some ⟨.struct [(0,1,false),(1,1,false)],true,2,32,[.int .i64 0,.slice none 0 0]⟩,some ⟨.struct [(0,2,false),(2,2,false)],true,4,64,[.int .i64 0,.slice none 0 0,.int .i64 0,.slice none 0 0]⟩,some ⟨.struct [(0,2,false),(2,2,false)],true,4,64,[.int .i64 0,.slice none 0 0,.int .i64 0,.slice none 0 0]⟩,some ⟨.slice 35,false,1,24,[.slice none 0 0]⟩,some ⟨.struct [(0,1,false),(1,4,false),(5,1,false),(6,1,false),(7,1,false)],true,8,144,[.int .i64 0,.int .i64 0,.slice none 0 0,.int .i64 0,.slice none 0 0,.slice none 0 0,.slice none 0 0,.slice none 0 0]⟩,some ⟨.struct [(0,1,false),(1,4,false),(5,1,false),(6,1,false),(7,1,false)],true,8,144,[.int .i64 0,.int .i64 0,.slice none 0 0,.int .i64 0,.slice none 0 0,.slice none 0 0,.slice none 0 0,.slice none 0 0]⟩,some ⟨.struct [(0,8,false),(8,8,false)],true,16,288,[.int .i64 0,.int .i64 0,.slice none 0 0,.int .i64 0,.slice none 0 0,.slice none 0 0,.slice none 0 0,.slice none 0 0,.int .i64 0,.int .i64 0,.slice none 0 0,.int .i64 0,.slice none 0 0,.slice none 0 0,.slice none 0 0,.slice none 0 0]⟩,some ⟨.struct [(0,8,false),(8,8,false)],true,16,288,[.int .i64 0,.int .i64 0,.slice none 0 0,.int .i64 0,.slice none 0 0,.slice none 0 0,.slice none 0 0,.slice none 0 0,.int .i64 0,.int .i64 0,.slice none 0 0,.int .i64 0,.slice none 0 0,.slice none 0 0,.slice none 0 0,.slice none 0 0]⟩,some ⟨.bas,false,1,8,[.nilFunc]⟩,some ⟨.bas,false,1,8,[.nilFunc]⟩,some ⟨.bas,false,1,8,[.nilFunc]⟩,some ⟨.struct [(0,1,false),(1,1,false),(2,1,false),(3,1,false),(4,1,false),(5,1,false)],true,6,48,[.int .i64 0,.int .i64 0,.int .i64 0,.int .i64 0,.int .i64 0,.bool false]⟩,some ⟨.struct [(0,1,false),(1,1,false),(2,1,false),(3,1,false),(4,1,false),(5,1,false)],true,6,48,[.int .i64 0,.int .i64 0,.int .i64 0,.int .i64 0,.int .i64 0,.bool false]⟩,some ⟨.slice 192,false,1,24,[.slice none 0 0]⟩,some ⟨.struct [(0,1,false),(1,1,false)],true,2,32,[.int .i64 0,.slice none 0 0]⟩,some ⟨.struct [(0,1,false),(1,1,false)],true,2,32,[.int .i64 0,.slice none 0 0]⟩,some ⟨.int .i64,false,1,8,[.int .i64 0]⟩,none,some ⟨.bas,false,1,8,[.nilFunc]⟩,some ⟨.slice 54,false,1,24,[.slice none 0 0]⟩,some ⟨.struct [(0,1,false),(1,1,false)],true,2,16,[.int .i64 0,.int .i64 0]⟩,some ⟨.struct [(0,1,false),(1,1,false)],true,2,16,[.int .i64 0,.int .i64 0]⟩,none,some ⟨.bas,false,1,8,[.nilFunc]⟩,some ⟨.slice 129,false,1,24,[.slice none 0 0]⟩,some ⟨.bas,false,1,8,[.nilFunc]⟩,some ⟨.bas,false,1,8,[.nilFunc]⟩,some ⟨.bas,false,1,8,[.nilFunc]⟩,some ⟨.bas,false,1,8,[.nilFunc]⟩,none,some ⟨.bas,false,1,8,[.nilFunc]⟩,some ⟨.bas,false,1,8,[.nilFunc]⟩,some ⟨.bas,false,1,8,[.nilFunc]⟩,some ⟨.struct [(0,4,false),(4,4,false),(8,1,false),(9,1,false)],true,10,136,[.int .i64 0,.slice none 0 0,.int .i64 0,.slice none 0 0,.int .i64 0,.slice none 0 0,.int .i64 0,.slice none 0 0,.bool false,.bool false]⟩,some ⟨.struct [(0,4,false),(4,4,false),(8,1,false),(9,1,false)],true,10,136,[.int .i64 0,.slice none 0 0,.int .i64 0,.slice none 0 0,.int .i64 0,.slice none 0 0,.int .i64 0,.slice none 0 0,.bool false,.bool false]⟩,some ⟨.bas,false,1,8,[.nilFunc]⟩,some ⟨.bas,false,1,8,[.nilFunc]⟩,some ⟨.int .u16,false,1,2,[.int .u16 0]⟩,none,some ⟨.bas,false,1,8,[.nilFunc]⟩,some ⟨.slice 36,false,1,24,[.slice none 0 0]⟩,some ⟨.bas,false,1,8,[.nilFunc]⟩,some ⟨.bas,false,1,8,[.nilFunc]⟩,some ⟨.bas,false,1,8,[.nilFunc]⟩,some ⟨.bas,false,1,8,[.nilFunc]⟩,some ⟨.bas,false,1,8,[.nilFunc]⟩,some ⟨.bas,false,1,8,[.nilFunc]⟩,some ⟨.bas,false,1,8,[.nilFunc]⟩,some ⟨.bas,false,1,8,[.nilFunc]⟩,some ⟨.bas,false,1,8,[.nilFunc]⟩,some ⟨.slice 290,false,1,24,[.slice none 0 0]⟩,some ⟨.slice 293,false,1,24,[.slice none 0 0]⟩,some ⟨.struct [(0,8,false),(8,1,false),(9,1,false)],true,10,192,[.int .i64 0,.int .i64 0,.int .i64 0,.slice none 0 0,.slice none 0 0,.slice none 0 0,.slice none 0 0,.slice none 0 0,.slice none 0 0,.slice none 0 0]⟩,some ⟨.struct [(0,8,false),(8,1,false),(9,1,false)],true,10,192,[.int .i64 0,.int .i64 0,.int .i64 0,.slice none 0 0,.slice none 0 0,.slice none 0 0,.slice none 0 0,.slice none 0 0,.slice none 0 0,.slice none 0 0]⟩,some ⟨.struct [(0,1,false),(1,1,false),(2,1,false),(3,1,false),(4,1,false)],true,5,88,[.int .i64 0,.int .i64 0,.slice none 0 0,.slice none 0 0,.slice none 0 0]⟩,some ⟨.struct [(0,1,false),(1,1,false),(2,1,false),(3,1,false),(4,1,false)],true,5,88,[.int .i64 0,.int .i64 0,.slice none 0 0,.slice none 0 0,.slice none 0 0]⟩,some ⟨.bas,false,1,8,[.nilFunc]⟩,some ⟨.bas,false,1,8,[.nilFunc]⟩,some ⟨.bas,false,1,8,[.nilFunc]⟩,some ⟨.bas,false,1,8,[.nilFunc]⟩,some ⟨.bas,false,1,8,[.nilFunc]⟩,some ⟨.slice 88,false,1,24,[.slice none 0 0]⟩,none,some ⟨.bas,false,1,8,[.nilFunc]⟩,some ⟨.bas,false,1,8,[.nilFunc]⟩,some ⟨.bas,false,1,8,[.nilFunc]⟩,some ⟨.slice 31,false,1,24,[.slice none 0 0]⟩,none,some ⟨.bas,false,1,8,[.nilFunc]⟩,some ⟨.slice 114,false,1,24,[.slice none 0 0]⟩,none,some ⟨.bas,false,1,8,[.nilFunc]⟩,some ⟨.bas,false,1,8,[.pointer none]⟩,none,some ⟨.bas,false,1,8,[.nilFunc]⟩,some ⟨.slice 52,false,1,24,[.slice none 0 0]⟩,some ⟨.slice 67,false,1,24,[.slice none 0 0]⟩,none,some ⟨.bas,false,1,8,[.nilFunc]⟩,some ⟨.bas,false,1,8,[.nilFunc]⟩,some ⟨.struct [(0,1,false),(1,1,false),(2,1,false),(3,1,false)],true,4,32,[.int .i64 0,.int .i64 0,.int .i64 0,.int .i64 0]⟩,some ⟨.struct [(0,1,false),(1,1,false),(2,1,false),(3,1,false)],true,4,32,[.int .i64 0,.int .i64 0,.int .i64 0,.int .i64 0]⟩,some ⟨.bas,false,1,8,[.nilFunc]⟩,some ⟨.bas,false,1,8,[.nilFunc]⟩,some ⟨.bas,false,1,8,[.nilFunc]⟩,some ⟨.bas,false,1,8,[.nilFunc]⟩,some ⟨.bas,false,1,8,[.nilFunc]⟩,some ⟨.struct [(0,1,false),(1,1,false),(2,1,false)],true,3,24,[.int .i64 0,.int .i64 0,.int .i64 0]⟩,some ⟨.struct [(0,1,false),(1,1,false),(2,1,false)],true,3,24,[.int .i64 0,.int .i64 0,.int .i64 0]⟩,some ⟨.struct [(0,8,false),(8,1,false),(9,1,false)],true,10,192,[.int .i64 0,.int .i64 0,.int .i64 0,.slice none 0 0,.slice none 0 0,.slice none 0 0,.slice none 0 0,.slice none 0 0,.slice none 0 0,.slice none 0 0]⟩,some ⟨.struct [(0,8,false),(8,1,false),(9,1,false)],true,10,192,[.int .i64 0,.int .i64 0,.int .i64 0,.slice none 0 0,.slice none 0 0,.slice none 0 0,.slice none 0 0,.slice none 0 0,.slice none 0 0,.slice none 0 0]⟩,some ⟨.bas,false,1,8,[.pointer none]⟩,some ⟨.bas,false,1,8,[.nilFunc]⟩,some ⟨.bas,false,1,8,[.nilFunc]⟩,some ⟨.bas,false,1,8,[.nilFunc]⟩,some ⟨.struct [(0,1,false),(1,4,false)],true,5,72,[.int .i64 0,.int .i64 0,.slice none 0 0,.int .i64 0,.slice none 0 0]⟩,some ⟨.struct [(0,1,false),(1,4,false)],true,5,72,[.int .i64 0,.int .i64 0,.slice none 0 0,.int .i64 0,.slice none 0 0]⟩,some ⟨.bas,false,1,8,[.nilFunc]⟩,some ⟨.bas,false,1,8,[.nilFunc]⟩,none,some ⟨.bas,false,1,8,[.nilFunc]⟩,some ⟨.bas,false,1,8,[.nilFunc]⟩,some ⟨.bas,false,1,8,[.nilFunc]⟩,some ⟨.bas,false,1,8,[.nilFunc]⟩,some ⟨.bas,false,1,8,[.nilFunc]⟩,some ⟨.bas,false,1,8,[.nilFunc]⟩,some ⟨.bas,false,1,8,[.nilFunc]⟩,some ⟨.bas,false,1,8,[.nilFunc]⟩,some ⟨.bas,false,1,8,[.nilFunc]⟩,some ⟨.bas,false,1,8,[.nilFunc]⟩,some ⟨.bas,false,1,8,[.nilFunc]⟩,some ⟨.bas,false,1,8,[.nilFunc]⟩,some ⟨.slice 36,false,1,24,[.slice none 0 0]⟩,some ⟨.bas,false,1,8,[.nilFunc]⟩,some ⟨.bas,false,1,8,[.nilFunc]⟩,some ⟨.bas,false,1,8,[.nilFunc]⟩,some ⟨.bas,false,1,8,[.nilFunc]⟩,some ⟨.bas,false,1,8,[.nilFunc]⟩,some ⟨.bas,false,1,8,[.nilFunc]⟩,some ⟨.bas,false,1,8,[.nilFunc]⟩,some ⟨.bas,false,1,8,[.nilFunc]⟩,some ⟨.bas,false,1,8,[.nilFunc]⟩,some ⟨.bas,false,1,8,[.nilFunc]⟩,some ⟨.bas,false,1,8,[.nilFunc]⟩,some ⟨.slice 255,false,1,24,[.slice none 0 0]⟩,some ⟨.struct [(0,1,false),(1,1,false)],true,2,32,[.int .i64 0,.slice none 0 0]⟩,some ⟨.struct [(0,1,false),(1,1,false)],true,2,32,[.int .i64 0,.slice none 0 0]⟩,some ⟨.slice 257,false,1,24,[.slice none 0 0]⟩,none,some ⟨.bas,false,1,8,[.nilFunc]⟩,some ⟨.slice 397,false,1,24,[.slice none 0 0]⟩,some ⟨.struct [(0,1,false),(1,1,false),(2,1,false),(3,1,false),(4,1,false),(5,1,false),(6,1,false)],true,7,72,[.int .i64 0,.int .i64 0,.int .i64 0,.int .i64 0,.int .i64 0,.int .i64 0,.slice none 0 0]⟩,some ⟨.struct [(0,1,false),(1,1,false),(2,1,false),(3,1,false),(4,1,false),(5,1,false),(6,1,false)],true,7,72,[.int .i64 0,.int .i64 0,.int .i64 0,.int .i64 0,.int .i64 0,.int .i64 0,.slice none 0 0]⟩,some ⟨.slice 165,false,1,24,[.slice none 0 0]⟩,some ⟨.struct [(0,2,false),(2,1,false),(3,1,false)],true,4,80,[.int .i64 0,.slice none 0 0,.slice none 0 0,.slice none 0 0]⟩,some ⟨.struct [(0,2,false),(2,1,false),(3,1,false)],true,4,80,[.int .i64 0,.slice none 0 0,.slice none 0 0,.slice none 0 0]⟩,some ⟨.slice 184,false,1,24,[.slice none 0 0]⟩,some ⟨.slice 353,false,1,24,[.slice none 0 0]⟩,some ⟨.struct [(0,1,false),(1,1,false),(2,1,false),(3,1,false)],true,4,80,[.bool false,.slice none 0 0,.slice none 0 0,.slice none 0 0]⟩,some ⟨.struct [(0,1,false),(1,1,false),(2,1,false),(3,1,false)],true,4,80,[.bool false,.slice none 0 0,.slice none 0 0,.slice none 0 0]⟩,none,some ⟨.bas,false,1,8,[.nilFunc]⟩,some ⟨.slice 273,false,1,24,[.slice none 0 0]⟩,some ⟨.struct [(0,1,false)],true,1,24,[.slice none 0 0]⟩,some ⟨.struct [(0,1,false)],true,1,24,[.slice none 0 0]⟩,none,some ⟨.bas,false,1,8,[.nilFunc]⟩,some ⟨.struct [(0,1,false),(1,1,false),(2,1,false)],true,3,24,[.int .i64 0,.int .i64 0,.int .i64 0]⟩,some ⟨.struct [(0,1,false),(1,1,false),(2,1,false)],true,3,24,[.int .i64 0,.int .i64 0,.int .i64 0]⟩,some ⟨.slice 181,false,1,24,[.slice none 0 0]⟩,some ⟨.struct [(0,1,false),(1,1,false),(2,1,false),(3,1,false)],true,4,64,[.int .i64 0,.slice none 0 0,.slice none 0 0,.int .i64 0]⟩,some ⟨.struct [(0,1,false),(1,1,false),(2,1,false),(3,1,false)],true,4,64,[.int .i64 0,.slice none 0 0,.slice none 0 0,.int .i64 0]⟩,some ⟨.bas,false,1,8,[.nilFunc]⟩,some ⟨.bas,false,1,8,[.nilFunc]⟩,some ⟨.bas,false,1,8,[.nilFunc]⟩,some ⟨.bas,false,1,8,[.nilFunc]⟩,some ⟨.bas,false,1,8,[.nilFunc]⟩,some ⟨.bas,false,1,8,[.nilFunc]⟩,some ⟨.struct [(0,1,false),(1,1,false),(2,4,false)],true,6,96,[.slice none 0 0,.int .i64 0,.int .i64 0,.slice none 0 0,.int .i64 0,.slice none 0 0]⟩,some ⟨.struct [(0,1,false),(1,1,false),(2,4,false)],true,6,96,[.slice none 0 0,.int .i64 0,.int .i64 0,.slice none 0 0,.int .i64 0,.slice none 0 0]⟩,some ⟨.bas,false,1,8,[.nilFunc]⟩,some ⟨.bas,false,1,8,[.nilFunc]⟩,some ⟨.bas,false,1,8,[.nilFunc]⟩,some ⟨.bas,false,1,8,[.nilFunc]⟩,some ⟨.bas,false,1,8,[.nilFunc]⟩,some ⟨.bas,false,1,8,[.nilFunc]⟩,some ⟨.bas,false,1,8,[.nilFunc]⟩,some ⟨.bas,false,1,8,[.nilFunc]⟩,some ⟨.slice 204,false,1,24,[.slice none 0 0]⟩,some ⟨.bas,false,1,8,[.nilFunc]⟩,some ⟨.struct [(0,4,false),(4,1,false),(5,1,false),(6,1,false)],true,7,104,[.int .i64 0,.slice none 0 0,.int .i64 0,.slice none 0 0,.bool false,.slice none 0 0,.int .i64 0]⟩,some ⟨.struct [(0,4,false),(4,1,false),(5,1,false),(6,1,false)],true,7,104,[.int .i64 0,.slice none 0 0,.int .i64 0,.slice none 0 0,.bool false,.slice none 0 0,.int .i64 0]⟩,some ⟨.bas,false,1,8,[.nilFunc]⟩,some ⟨.bas,false,1,8,[.nilFunc]⟩,none,some ⟨.bas,false,1,8,[.nilFunc]⟩,some ⟨.bas,false,1,8,[.nilFunc]⟩,some ⟨.struct [(0,1,false),(1,1,false),(2,1,false),(3,1,false),(4,1,false),(5,1,false)],true,6,48,[.int .i64 0,.int .i64 0,.int .i64 0,.int .i64 0,.int .i64 0,.int .i64 0]⟩,some ⟨.struct [(0,1,false),(1,1,false),(2,1,false),(3,1,false),(4,1,false),(5,1,false)],true,6,48,[.int .i64 0,.int .i64 0,.int .i64 0,.int .i64 0,.int .i64 0,.int .i64 0]⟩,some ⟨.bas,false,1,8,[.nilFunc]⟩,some ⟨.bas,false,1,8,[.nilFunc]⟩,none,some ⟨.bas,false,1,8,[.nilFunc]⟩,none,some ⟨.bas,false,1,8,[.nilFunc]⟩,some ⟨.bas,false,1,8,[.nilFunc]⟩,some ⟨.struct [(0,8,false),(8,1,false),(9,1,false),(10,1,false)],true,11,200,[.int .i64 0,.int .i64 0,.int .i64 0,.slice none 0 0,.slice none 0 0,.slice none 0 0,.slice none 0 0,.slice none 0 0,.slice none 0 0,.slice none 0 0,.bool false]⟩,some ⟨.struct [(0,8,false),(8,1,false),(9,1,false),(10,1,false)],true,11,200,[.int .i64 0,.int .i64 0,.int .i64 0,.slice none 0 0,.slice none 0 0,.slice none 0 0,.slice none 0 0,.slice none 0 0,.slice none 0 0,.slice none 0 0,.bool false]⟩,some ⟨.bas,false,1,8,[.nilFunc]⟩,some ⟨.bas,false,1,8,[.nilFunc]⟩,none,some ⟨.bas,false,1,8,[.nilFunc]⟩,some ⟨.bas,false,1,8,[.nilFunc]⟩,some ⟨.bas,false,1,8,[.nilFunc]⟩,some ⟨.bas,false,1,8,[.nilFunc]⟩,none,some ⟨.bas,false,1,8,[.nilFunc]⟩,none,some ⟨.bas,false,1,8,[.nilFunc]⟩,some ⟨.bas,false,1,8,[.nilFunc]⟩,some ⟨.bas,false,1,8,[.nilFunc]⟩,some ⟨.bas,false,1,8,[.nilFunc]⟩,some ⟨.int .u64,false,1,8,[.int .u64 0]⟩,some ⟨.int .u64,false,1,8,[.int .u64 0]⟩,some ⟨.bas,false,1,8,[.nilFunc]⟩,some ⟨.bas,false,1,8,[.nilFunc]⟩,some ⟨.bas,false,1,8,[.nilFunc]⟩,none,some ⟨.bas,false,1,8,[.nilFunc]⟩,some ⟨.bas,false,1,8,[.nilFunc]⟩,some ⟨.bas,false,1,8,[.nilFunc]⟩,some ⟨.bas,false,1,8,[.nilFunc]⟩,some ⟨.bas,false,1,8,[.nilFunc]⟩,some ⟨.bas,false,1,8,[.nilFunc]⟩,some ⟨.bas,false,1,8,[.nilFunc]⟩,some ⟨.bas,false,1,8,[.nilFunc]⟩,none,some ⟨.bas,false,1,8,[.nilFunc]⟩,some ⟨.struct [(0,1,false),(1,1,false),(2,1,false),(3,1,false)],true,4,32,[.int .i64 0,.int .i64 0,.int .i64 0,.int .i64 0]⟩,some ⟨.struct [(0,1,false),(1,1,false),(2,1,false),(3,1,false)],true,4,32,[.int .i64 0,.int .i64 0,.int .i64 0,.int .i64 0]⟩,some ⟨.bas,false,1,8,[.nilFunc]⟩,some ⟨.struct [(0,1,false),(1,1,false),(2,1,false),(3,1,false)],true,4,32,[.int .i64 0,.int .i64 0,.int .i64 0,.int .i64 0]⟩,some ⟨.struct [(0,1,false),(1,1,false),(2,1,false),(3,1,false)],true,4,32,[.int .i64 0,.int .i64 0,.int .i64 0,.int .i64 0]⟩,some ⟨.struct [(0,1,false),(1,1,false),(2,1,false),(3,1,false),(4,1,false),(5,1,false)],true,6,64,[.int .i64 0,.int .i64 0,.int .i64 0,.int .i64 0,.int .i64 0,.slice none 0 0]⟩,some ⟨.struct [(0,1,false),(1,1,false),(2,1,false),(3,1,false),(4,1,false),(5,1,false)],true,6,64,[.int .i64 0,.int .i64 0,.int .i64 0,.int .i64 0,.int .i64 0,.slice none 0 0]⟩,none,some ⟨.bas,false,1,8,[.nilFunc]⟩,some ⟨.bas,false,1,8,[.nilFunc]⟩,some ⟨.bas,false,1,8,[.nilFunc]⟩,some ⟨.bas,false,1,8,[.nilFunc]⟩,some ⟨.bas,false,1,8,[.nilFunc]⟩,none,some ⟨.bas,false,1,8,[.nilFunc]⟩,none,some ⟨.bas,false,1,8,[.nilFunc]⟩,some ⟨.bas,false,1,8,[.nilFunc]⟩,some ⟨.bas,false,1,8,[.nilFunc]⟩,some ⟨.bas,false,1,8,[.nilFunc]⟩,some ⟨.bas,false,1,8,[.nilFunc]⟩,some ⟨.struct [(0,1,false),(1,1,false),(2,1,false),(3,1,false)],true,4,32,[.int .i64 0,.int .i64 0,.int .i64 0,.int .i64 0]⟩,some ⟨.struct [(0,1,false),(1,1,false),(2,1,false),(3,1,false)],true,4,32,[.int .i64 0,.int .i64 0,.int .i64 0,.int .i64 0]⟩,some ⟨.struct [(0,1,false)],true,1,24,[.slice none 0 0]⟩,some ⟨.struct [(0,1,false)],true,1,24,[.slice none 0 0]⟩,some ⟨.bas,false,1,8,[.nilFunc]⟩,some ⟨.bas,false,1,8,[.nilFunc]⟩,some ⟨.bas,false,1,8,[.nilFunc]⟩,some ⟨.bas,false,1,8,[.nilFunc]⟩,some ⟨.bas,false,1,8,[.nilFunc]⟩,some ⟨.bas,false,1,8,[.nilFunc]⟩,some ⟨.slice 4,false,1,24,[.slice none 0 0]⟩,some ⟨.bas,false,1,8,[.nilFunc]⟩,some ⟨.bas,false,1,8,[.nilFunc]⟩,some ⟨.bas,false,1,8,[.nilFunc]⟩,none,some ⟨.bas,false,1,8,[.nilFunc]⟩,some ⟨.bas,false,1,8,[.nilFunc]⟩,some ⟨.struct [(0,1,false),(1,1,false),(2,1,false)],true,3,24,[.int .i64 0,.int .i64 0,.int .i64 0]⟩,some ⟨.struct [(0,1,false),(1,1,false),(2,1,false)],true,3,24,[.int .i64 0,.int .i64 0,.int .i64 0]⟩,some ⟨.bas,false,1,8,[.nilFunc]⟩,some ⟨.struct [(0,1,false),(1,1,false)],true,2,16,[.int .i64 0,.int .i64 0]⟩,some ⟨.struct [(0,1,false),(1,1,false)],true,2,16,[.int .i64 0,.int .i64 0]⟩,some ⟨.bas,false,1,8,[.nilFunc]⟩,some ⟨.bas,false,1,8,[.nilFunc]⟩,some ⟨.bas,false,1,8,[.nilFunc]⟩,some ⟨.bas,false,1,8,[.nilFunc]⟩,some ⟨.bas,false,1,8,[.nilFunc]⟩,some ⟨.bas,false,1,8,[.nilFunc]⟩,some ⟨.bas,false,1,8,[.nilFunc]⟩,some ⟨.bas,false,1,8,[.nilFunc]⟩,some ⟨.bas,false,1,8,[.nilFunc]⟩,some ⟨.bas,false,1,8,[.nilFunc]⟩,some ⟨.bas,false,1,8,[.nilFunc]⟩,some ⟨.bas,false,1,8,[.nilFunc]⟩,some ⟨.struct [(0,1,false),(1,1,false)],true,2,16,[.int .i64 0,.int .i64 0]⟩,some ⟨.struct [(0,1,false),(1,1,false)],true,2,16,[.int .i64 0,.int .i64 0]⟩,some ⟨.bas,false,1,8,[.nilFunc]⟩,some ⟨.bas,false,1,8,[.nilFunc]⟩,some ⟨.arr 2 3,true,2,16,[.int .i64 0,.int .i64 0]⟩,some ⟨.slice 310,false,1,24,[.slice none 0 0]⟩,some ⟨.bas,false,1,8,[.nilFunc]⟩,some ⟨.bas,false,1,8,[.nilFunc]⟩,some ⟨.bas,false,1,8,[.pointer none]⟩,some ⟨.bas,false,1,8,[.nilFunc]⟩,none,some ⟨.bas,false,1,8,[.nilFunc]⟩,some ⟨.bas,false,1,8,[.nilFunc]⟩,some ⟨.bas,false,1,8,[.nilFunc]⟩,some ⟨.bas,false,1,8,[.nilFunc]⟩,some ⟨.bas,false,1,8,[.nilFunc]⟩,some ⟨.bas,false,1,8,[.nilFunc]⟩,some ⟨.bas,false,1,8,[.nilFunc]⟩,some ⟨.bas,false,1,8,[.nilFunc]⟩,some ⟨.bas,false,1,8,[.nilFunc]⟩,none,some ⟨.bas,false,1,8,[.nilFunc]⟩,none,some ⟨.bas,false,1,8,[.nilFunc]⟩,some ⟨.bas,false,1,8,[.nilFunc]⟩,some ⟨.bas,false,1,8,[.nilFunc]⟩,some ⟨.bas,false,1,8,[.nilFunc]⟩,some ⟨.bas,false,1,8,[.nilFunc]⟩,some ⟨.bas,false,1,8,[.nilFunc]⟩,some ⟨.bas,false,1,8,[.pointer none]⟩,some ⟨.bas,false,1,8,[.nilFunc]⟩,none,none,none,some ⟨.bas,false,1,8,[.pointer none]⟩,some ⟨.bas,false,1,8,[.nilFunc]⟩,some ⟨.bas,false,1,8,[.nilFunc]⟩,some ⟨.bas,false,1,8,[.nilFunc]⟩,some ⟨.bas,false,1,8,[.nilFunc]⟩,some ⟨.bas,false,1,8,[.nilFunc]⟩,some ⟨.bas,false,1,8,[.nilFunc]⟩,some ⟨.bas,false,1,8,[.nilFunc]⟩,some ⟨.bas,false,1,8,[.nilFunc]⟩,some ⟨.bas,false,1,8,[.nilFunc]⟩,some ⟨.slice 405,false,1,24,[.slice none 0 0]⟩,some ⟨.bas,false,1,8,[.nilFunc]⟩,some ⟨.struct [(0,1,false),(1,1,false),(2,1,false)],true,3,56,[.int .i64 0,.slice none 0 0,.slice none 0 0]⟩,some ⟨.struct [(0,1,false),(1,1,false),(2,1,false)],true,3,56,[.int .i64 0,.slice none 0 0,.slice none 0 0]⟩,some ⟨.bas,false,1,8,[.nilFunc]⟩,some ⟨.bas,false,1,8,[.pointer none]⟩,some ⟨.bas,false,1,8,[.nilFunc]⟩,some ⟨.bas,false,1,8,[.nilFunc]⟩,some ⟨.bas,false,1,8,[.nilFunc]⟩,some ⟨.bas,false,1,8,[.nilFunc]⟩,some ⟨.bas,false,1,8,[.nilFunc]⟩,some ⟨.slice 367,false,1,24,[.slice none 0 0]⟩,some ⟨.slice 413,false,1,24,[.slice none 0 0]⟩,some ⟨.struct [(0,1,false),(1,1,false),(2,1,false),(3,1,false),(4,1,false),(5,1,false)],true,6,128,[.int .i64 0,.slice none 0 0,.slice none 0 0,.slice none 0 0,.slice none 0 0,.slice none 0 0]⟩,some ⟨.struct [(0,1,false),(1,1,false),(2,1,false),(3,1,false),(4,1,false),(5,1,false)],true,6,128,[.int .i64 0,.slice none 0 0,.slice none 0 0,.slice none 0 0,.slice none 0 0,.slice none 0 0]⟩,some ⟨.bas,false,1,8,[.nilFunc]⟩,some ⟨.struct [(0,4,false),(4,1,false)],true,5,88,[.int .i64 0,.slice none 0 0,.int .i64 0,.slice none 0 0,.slice none 0 0]⟩,some ⟨.struct [(0,4,false),(4,1,false)],true,5,88,[.int .i64 0,.slice none 0 0,.int .i64 0,.slice none 0 0,.slice none 0 0]⟩,some ⟨.bas,false,1,8,[.nilFunc]⟩,some ⟨.bas,false,1,8,[.nilFunc]⟩,some ⟨.bas,false,1,8,[.nilFunc]⟩,some ⟨.int .i64,false,1,8,[.int .i64 0]⟩,none,some ⟨.bas,false,1,8,[.nilFunc]⟩,some ⟨.bas,false,1,8,[.nilFunc]⟩,some ⟨.bas,false,1,8,[.nilFunc]⟩,some ⟨.bas,false,1,8,[.nilFunc]⟩,some ⟨.bas,false,1,8,[.nilFunc]⟩,some ⟨.int .u32,false,1,4,[.int .u32 0]⟩,some ⟨.bas,false,1,8,[.nilFunc]⟩,none,some ⟨.bas,false,1,8,[.nilFunc]⟩,some ⟨.bas,false,1,8,[.nilFunc]⟩,some ⟨.bas,false,1,8,[.nilFunc]⟩,some ⟨.bas,false,1,8,[.nilFunc]⟩,some ⟨.bas,false,1,8,[.nilFunc]⟩,some ⟨.bas,false,1,8,[.nilFunc]⟩,some ⟨.bas,false,1,8,[.nilFunc]⟩,some ⟨.bas,false,1,8,[.nilFunc]⟩,some ⟨.bas,false,1,8,[.nilFunc]⟩,some ⟨.bas,false,1,8,[.nilFunc]⟩,none,none,some ⟨.bas,false,1,8,[.nilFunc]⟩,some ⟨.bas,false,1,8,[.nilFunc]⟩,some ⟨.bas,false,1,8,[.nilFunc]⟩,some ⟨.struct [(0,1,false),(1,1,false)],true,2,16,[.int .i64 0,.int .i64 0]⟩,some ⟨.struct [(0,1,false),(1,1,false)],true,2,16,[.int .i64 0,.int .i64 0]⟩,some ⟨.bas,false,1,8,[.nilFunc]⟩,some ⟨.bas,false,1,8,[.nilFunc]⟩,some ⟨.bas,false,1,8,[.pointer none]⟩,none,some ⟨.bas,false,1,8,[.nilFunc]⟩,some ⟨.bas,false,1,8,[.nilFunc]⟩,some ⟨.struct [(0,1,false),(1,1,false),(2,1,false)],true,3,24,[.int .i64 0,.int .i64 0,.int .i64 0]⟩,some ⟨.struct [(0,1,false),(1,1,false),(2,1,false)],true,3,24,[.int .i64 0,.int .i64 0,.int .i64 0]⟩,some ⟨.bas,false,1,8,[.nilFunc]⟩,some ⟨.bas,false,1,8,[.nilFunc]⟩,some ⟨.bas,false,1,8,[.nilFunc]⟩,some ⟨.bas,false,1,8,[.nilFunc]⟩,some ⟨.bas,false,1,8,[.nilFunc]⟩,some ⟨.bas,false,1,8,[.nilFunc]⟩,some ⟨.struct [(0,1,false),(1,1,false)],true,2,16,[.int .i64 0,.bool false]⟩,some ⟨.struct [(0,1,false),(1,1,false)],true,2,16,[.int .i64 0,.bool false]⟩,some ⟨.bas,false,1,8,[.pointer none]⟩,some ⟨.bas,false,1,8,[.nilFunc]⟩,some ⟨.bas,false,1,8,[.nilFunc]⟩,some ⟨.int .u64,false,1,8,[.int .u64 0]⟩,some ⟨.bas,false,1,8,[.nilFunc]⟩,some ⟨.bas,false,1,8,[.nilFunc]⟩,some ⟨.bas,false,1,8,[.nilFunc]⟩,some ⟨.bas,false,1,8,[.pointer none]⟩,some ⟨.bas,false,1,8,[.nilFunc]⟩,some ⟨.bas,false,1,8,[.nilFunc]⟩,some ⟨.bas,false,1,8,[.nilFunc]⟩,some ⟨.bas,false,1,8,[.nilFunc]⟩,some ⟨.bas,false,1,8,[.nilFunc]⟩,some ⟨.struct [(0,1,false),(1,1,false),(2,1,false),(3,1,false),(4,1,false)],true,5,72,[.int .i64 0,.int .i64 0,.int .i64 0,.slice none 0 0,.slice none 0 0]⟩,some ⟨.struct [(0,1,false),(1,1,false),(2,1,false),(3,1,false),(4,1,false)],true,5,72,[.int .i64 0,.int .i64 0,.int .i64 0,.slice none 0 0,.slice none 0 0]⟩,some ⟨.bas,false,1,8,[.pointer none]⟩,some ⟨.bas,false,1,8,[.nilFunc]⟩,none,none,none,some ⟨.bas,false,1,8,[.nilFunc]⟩,some ⟨.bas,false,1,8,[.nilFunc]⟩,some ⟨.bas,false,1,8,[.nilFunc]⟩,some ⟨.bas,false,1,8,[.nilFunc]⟩,some ⟨.bas,false,1,8,[.pointer none]⟩,some ⟨.bas,false,1,8,[.nilFunc]⟩,some ⟨.bas,false,1,8,[.nilFunc]⟩,some ⟨.bas,false,1,8,[.nilFunc]⟩,some ⟨.bas,false,1,8,[.nilFunc]⟩,none,some ⟨.bas,false,1,8,[.nilFunc]⟩,some ⟨.bas,false,1,8,[.nilFunc]⟩,some ⟨.bas,false,1,8,[.nilFunc]⟩,some ⟨.struct [(0,1,false),(1,1,false)],true,2,16,[.int .i64 0,.int .i64 0]⟩,some ⟨.struct [(0,1,false),(1,1,false)],true,2,16,[.int .i64 0,.int .i64 0]⟩,some ⟨.bas,false,1,8,[.nilFunc]⟩,some ⟨.bas,false,1,8,[.nilFunc]⟩,some ⟨.bas,false,1,8,[.nilFunc]⟩,none,some ⟨.bas,false,1,8,[.nilFunc]⟩,none,some ⟨.bas,false,1,8,[.nilFunc]⟩,some ⟨.bas,false,1,8,[.nilFunc]⟩,some ⟨.bas,false,1,8,[.nilFunc]⟩,none,some ⟨.slice 461,false,1,24,[.slice none 0 0]⟩,some ⟨.bas,false,1,8,[.nilFunc]⟩,some ⟨.slice 463,false,1,24,[.slice none 0 0]⟩,some ⟨.struct [(0,1,false),(1,1,false)],true,2,16,[.int .i64 0,.int .i64 0]⟩,some ⟨.struct [(0,1,false),(1,1,false)],true,2,16,[.int .i64 0,.int .i64 0]⟩,some ⟨.bas,false,1,8,[.pointer none]⟩,some ⟨.slice 463,false,1,24,[.slice none 0 0]⟩,some ⟨.bas,false,1,8,[.nilFunc]⟩,none,some ⟨.bas,false,1,8,[.nilFunc]⟩,some ⟨.bas,false,1,8,[.nilFunc]⟩,none,none,some ⟨.bas,false,1,8,[.nilFunc]⟩,some ⟨.bas,false,1,8,[.nilFunc]⟩,some ⟨.bas,false,1,8,[.nilFunc]⟩,some ⟨.bas,false,1,8,[.nilFunc]⟩,some ⟨.bas,false,1,8,[.nilFunc]⟩,none,none,some ⟨.arr 0 16,true,0,0,[]⟩,some ⟨.struct [(0,0,false)],true,0,0,[]⟩,some ⟨.struct [(0,0,false)],true,0,0,[]⟩,some ⟨.int .u8,false,1,1,[.int .u8 0]⟩,some ⟨.int .u8,false,1,1,[.int .u8 0]⟩,some ⟨.bas,false,1,8,[.nilFunc]⟩,some ⟨.bas,false,1,8,[.pointer none]⟩,some ⟨.int .i32,false,1,4,[.int .i32 0]⟩,some ⟨.int .i32,false,1,4,[.int .i32 0]⟩,some ⟨.struct [(0,1,false),(1,1,false),(2,1,false),(3,1,false),(4,1,false),(5,1,false),(6,1,false),(7,1,false),(8,1,false),(9,1,false),(10,1,false)],true,11,48,[.int .u64 0,.int .u64 0,.int .u32 0,.int .u8 0,.int .u8 0,.int .u8 0,.int .u8 0,.nilFunc,.pointer none,.int .i32 0,.int .i32 0]⟩,some ⟨.struct [(0,1,false),(1,1,false),(2,1,false),(3,1,false),(4,1,false),(5,1,false),(6,1,false),(7,1,false),(8,1,false),(9,1,false),(10,1,false)],true,11,48,[.int .u64 0,.int .u64 0,.int .u32 0,.int .u8 0,.int .u8 0,.int .u8 0,.int .u8 0,.nilFunc,.pointer none,.int .i32 0,.int .i32 0]⟩,some ⟨.bas,false,1,8,[.nilFunc]⟩,none]
def tab:Tab:=fun t=>ba3.getD t none
theorem tq {P:Program} {t:TypeId} {d:TD} (h1:b83 P t=some d.k:=by kernel_rfl) (h2:d.agg=b9I d.k:=by rfl) (h3:(P.info? t).map (fun i=>(i.zero.map (·.cells.toList),i.size,i.bytes))=some (some d.zero,d.size,d.bytes):=by kernel_rfl) (h4:d.zero.all (·.oneCell')=true:=by rfl) (h5:d.zero.length=d.size:=by rfl):at6 P t d:=b9y h1 h2 h3 h4 h5
theorem b9:B2 Tryz.prog tab:=b5h (l:=ba3) (by kernel_rfl) ⟨tq,tq,tq,tq,tq,tq,tq,tq,tq,tq,tq,tq,tq,tq,tq,tq,tq,tq,tq,tq,tq,tq,tq,tq,tq,tq,tq,tq,tq,tq,tq,tq,tq,tq,tq,tq,tq,tq,tq,tq,tq,tq,tq,tq,tq,tq,tq,tq,tq,tq,tq,tq,tq,tq,tq,tq,tq,tq,tq,tq,tq,tq,tq,tq,tq,tq,tq,tq,tq,tq,tq,tq,tq,tq,tq,tq,tq,tq,tq,tq,tq,tq,tq,tq,tq,tq,tq,tq,tq,tq,tq,tq,tq,tq,tq,tq,tq,tq,tq,tq,tq,tq,tq,tq,tq,tq,tq,tq,tq,tq,tq,tq,tq,tq,tq,tq,tq,tq,tq,tq,tq,tq,tq,tq,tq,tq,tq,tq,tq,tq,tq,tq,tq,tq,tq,tq,tq,tq,tq,tq,tq,tq,tq,tq,tq,tq,tq,tq,tq,tq,tq,tq,tq,tq,tq,tq,tq,tq,tq,tq,tq,tq,tq,tq,tq,tq,tq,tq,tq,tq,tq,tq,tq,tq,tq,tq,tq,tq,tq,tq,tq,tq,tq,tq,tq,tq,tq,tq,tq,tq,tq,tq,tq,tq,tq,tq,tq,tq,tq,tq,tq,tq,tq,tq,tq,tq,tq,tq,tq,tq,tq,tq,tq,tq,tq,tq,tq,tq,tq,tq,tq,tq,tq,tq,tq,tq,tq,tq,tq,tq,tq,tq,tq,tq,tq,tq,tq,tq,tq,tq,tq,tq,tq,tq,tq,tq,tq,tq,tq,tq,tq,tq,tq,tq,tq,tq,tq,tq,tq,tq,tq,tq,tq,tq,tq,tq,tq,tq,tq,tq,tq,tq,tq,tq,tq,tq,tq,tq,tq,tq,tq,tq,tq,tq,tq,tq,tq,tq,tq,tq,tq,tq,tq,tq,tq,tq,tq,tq,tq,tq,tq,tq,tq,tq,tq,tq,tq,tq,tq,tq,tq,tq,tq,tq,tq,tq,tq,tq,tq,tq,tq,tq,tq,tq,tq,tq,tq,tq,tq,tq,tq,tq,tq,tq,tq,tq,tq,tq,tq,tq,tq,tq,tq,tq,tq,tq,tq,tq,tq,tq,tq,tq,tq,tq,tq,tq,tq,tq,tq,tq,tq,tq,tq,tq,tq,tq,tq,tq,tq,tq,tq,tq,tq,tq,tq,tq,tq,tq,tq,tq,tq,tq,tq,tq,tq,tq,tq,tq,tq,tq,tq,tq,tq,tq,tq,tq,tq,tq,tq,tq,tq,tq,tq,tq,tq,tq,tq,tq,tq,tq,tq,tq,tq,tq,tq,tq,tq,tq,tq,tq,tq,tq,tq,tq,tq,tq,tq,tq,tq,tq,tq,tq,tq,tq,tq,tq,trivial⟩
end
section
open Go.RowKit
abbrev ti (n:Int):T:=.atm (.int .i64 n)
abbrev tb (b:Bool):T:=.atm (.bool b)
def C2.row (p:C2):List T:=[ti p.kind,ti p.hh,ti p.mat]
def j5.row (m:j5):List T:=[ti m.day,ti m.src,ti m.dst,ti m.scale,ti m.reading,tb m.all]
def D7.row (c:D7):List T:=[ti c.scale,ti c.since,ti c.till,ti c.grams,ti c.permille,ti c.drift]
def s8.row (r:s8):List T:=[ti r.scale,ti r.since]
def w9.row (p:w9):List T:=[ti p.move,ti p.mat,ti p.least,ti p.most]
def d7 (n:Int):List T:=[ti n]
abbrev a1W (l:List C2):T:=.sl 3 .any (l.map C2.row)
abbrev P8 (l:List j5):T:=.sl 6 .any (l.map j5.row)
abbrev a0G (l:List D7):T:=.sl 6 .any (l.map D7.row)
abbrev M5 (l:List s8):T:=.sl 2 .any (l.map s8.row)
abbrev R0 (l:List w9):T:=.sl 4 .any (l.map w9.row)
abbrev M4 (l:List Int):T:=.sl 1 .any (l.map d7)
def evC (e:Ev):List C:=[.t (ti e.mats),.t (ti e.hhs),.t (ti e.scs),.t (a1W e.places),.t (P8 e.moves),.t (a0G e.certs),.t (M5 e.recalls),.t (R0 e.purities)]
def evT (e:Ev):List T:=[ti e.mats,ti e.hhs,ti e.scs,a1W e.places,P8 e.moves,a0G e.certs,M5 e.recalls,R0 e.purities]
abbrev evS (e:Ev):S:=.agg (evC e)
abbrev e8 (l:List Int):S:=.c (.t (M4 l))
def C2.cs (p:C2):List C:=p.row.map .t
def j5.cs (m:j5):List C:=m.row.map .t
abbrev aO0 (m:j5):S:=.agg m.cs
abbrev evB (e:Ev):Blk:=N4 28 8 [evC e] true
theorem c9 {a b:Bool} {H1:Hp} (h:a=b):Fin 0 (d9 a) H1 (d9 b) []:=j2 (by subst h;exact rfl)
theorem A6 {a b:Int} {k:IntKind} {H1:Hp} (h:a=b):Fin 0 (a7 k a) H1 (a7 k b) []:=j2 (by subst h;exact rfl)
theorem g9 {x y:T} {ρ:List (Option Nat)} {H:Hp} (h:x=y):a4X ρ H (.c (.t x)) (.c (.t y)):=b0w h
theorem c7 {a b:Int} {k:IntKind} {ρ:List (Option Nat)} {H:Hp} (h:a=b):a4X ρ H (a7 k a) (a7 k b):=by subst h;exact rfl
theorem L5 (e:Ev):C9 [evC e]:=by simp [C9,evC,C.isT]
theorem b7J {H:Hp} {p:Nat->Prop} (e:Ev):VS H p (evS e) (evS e):=b3W (evT e)
end
section
open Go.RowKit
set_option maxRecDepth 100000
abbrev k9 (l:List Int):Blk:={ mode:=.live,elem:=3,size:=1,rows:=toC (l.map d7),box:=false }
abbrev a3x (id:Nat) (l:List Int):S:=.c (.own id 0 l.length true)
theorem o7 {α:Type} {xs:List α} {f:α->List T} {n:Int} {x:α} {lo:Nat} {K:List C->Prop} (hx:xs[lo+n.toNat]? =some x) (h:K ((f x).map C.t)):∃row,(toC (xs.map f))[lo+n.toNat]? =some row∧K row:=
 ⟨(f x).map C.t,by simp [toC,hx],h⟩
theorem a8F {a b:Int} {n:Nat} {K:Prop} (h0:0<=a) (h1:a<=b) (h2:b<=1000000) (hn:n<=1000) (k:K):(0<=a∧a<=b∧b*((n:Int)+1)<=140737488355328)∧K:=by
 refine ⟨⟨h0,h1,?_⟩,k⟩
 have:b*((n:Int)+1)<=1000000*1001:=a0P h2 (by omega) (by omega) (by omega)
 omega
theorem ad0 {ρ:List (Option Nat)} {H:Hp} {id len:Nat} {app:Bool} {size:Nat} {k:Blk} {rows:List (List T)} (hp:E6 ρ id=true) (hk:H[id]? =some k) (hd:¬k.mode.gone) (hs:k.size=size) (hc:k.rows=toC rows) (hl:len=rows.length):
 a4X ρ H (.c (.own id 0 len app)) (.c (.t (.sl size .any rows))):=show VC H (fun id=>E6 ρ id=true) _ _ from p4 hp hk hd hs hc hl
theorem aw5 {α:Type} {f:α->List T} {xs:List α} {x:α}:(toC (xs.map f)).take xs.length++toC [f x]=toC ((xs++[x]).map f):=by
 rw [lbn (by simp [toC])];simp [toC]
theorem b4u {α:Type} {l:List α} {i:Nat} {v:α} (h:l[i]? =some v):l.set i v=l:=by
 apply Z4
 intro j
 by_cases hj:i=j
 ·subst hj;rw [List.getElem?_set_self (lbe.1 h).1,h]
 ·rw [List.getElem?_set_ne hj]
theorem ae8 {x:Int} (h1:0<=x) (h2:x<18446744073709551616):IntKind.wrap .u64 x=x:=by
 simp only [IntKind.wrap,IntKind.bits,IntKind.signed]
 simp
 omega
theorem aH5 {k:IntKind} (hk:k.bits=64) (a:Int) (j:Nat) (hj:j<=62):(BitVec.ofInt k.bits a &&& BitVec.ofInt k.bits ((2 ^ j - 1:Nat):Int)).toNat=(a % ((2 ^ j:Nat):Int)).toNat:=by
 rw [hk]
 rw [BitVec.toNat_and,BitVec.toNat_ofInt,BitVec.toNat_ofInt]
 have hp:(2:Nat) ^ j<=2 ^ 62:=ax2 (by decide) hj
 have h0:0<(2:Nat) ^ j:=Nat.pow_pos (by decide)
 have e1:((((2 ^ j - 1:Nat):Int)) % ((2 ^ 64:Nat):Int)).toNat=2 ^ j - 1:=by
  rw [aD9 (by omega) (by omega)];simp
 rw [e1,Nat.and_two_pow_sub_one_eq_mod]
 have hd:(2:Nat) ^ 64=2 ^ j*2 ^ (64 - j):=by rw [← Nat.pow_add];congr 1;omega
 have h2:0<=a % ((2 ^ 64:Nat):Int):=aK0 _ (by decide)
 have e2:((a % ((2 ^ 64:Nat):Int)).toNat % 2 ^ j:Nat)=((a % ((2 ^ 64:Nat):Int)) % ((2 ^ j:Nat):Int)).toNat:=by
  rw [Int.toNat_emod h2 (by omega)];rfl
 rw [e2]
 congr 1
 refine Int.emod_emod_of_dvd _ ?_
 exact ⟨((2 ^ (64 - j):Nat):Int),by exact_mod_cast hd⟩
theorem ay2 {a:Int} (j:Nat) (hj:j<=62):IntKind.wrap .u64 (BitVec.ofInt (IntKind.bits .u64) a &&& BitVec.ofInt (IntKind.bits .u64) ((2 ^ j - 1:Nat):Int)).toNat=a % ((2 ^ j:Nat):Int):=by
 rw [aH5 rfl a j hj]
 have hp:(2:Nat) ^ j<=2 ^ 62:=ax2 (by decide) hj
 have h0:0<(2:Nat) ^ j:=Nat.pow_pos (by decide)
 have h1:0<=a % ((2 ^ j:Nat):Int):=aK0 _ (by omega)
 have h2:a % ((2 ^ j:Nat):Int)<((2 ^ j:Nat):Int):=b18 _ (by omega)
 rw [lbY h1,ae8 h1 (by omega)]
theorem aI3 {x:Int} (h1:0<=x) (h2:x<18446744073709551616):G0 .u64 x x:=by unfold G0;exact (ae8 h1 h2).symm
theorem a5b {α:Type} {l:List α} {f:α->Bool} {k:Nat} {x:α} (h:l[k]? =some x):(l.take (k+1)).any f=((l.take k).any f || f x):=by
 rw [lbG,h];simp
theorem D3 {α:Type} {l:List α} {f:α->Bool} {k:Nat} {x:α} (h:l[k]? =some x):(l.take (k+1)).all f=((l.take k).all f && f x):=by
 rw [lbG,h];simp
theorem ab8 {α:Type} {l:List α} {f:α->Bool} {k:Nat} {x:α} (h:l[k]? =some x) (hf:f x=true):l.any f=true:=lbw.2 ⟨x,lbm h,hf⟩
theorem F8 {α:Type} {l:List α} {f:α->Bool} {k:Nat} {x:α} (h:l[k]? =some x) (hf:f x=false):l.all f=false:=by
 rw [← lbP,lbv];intro h';rw [h' x (lbm h)] at hf;cases hf
theorem b0L {x y:T} {H1:Hp} (h:x=y):Fin 0 (.c (.t x)) H1 (.c (.t y)) []:=by subst h;exact j2 (show aj7 [] H1 _ _ from g9 (ρ:=[]) (H:=H1) rfl)
theorem b8k {n:Nat} {k:SK} {a b:List (List T)} {H1:Hp} (h:a=b) (hk:k=.any):Fin 0 (.c (.t (.sl n k a))) H1 (.c (.t (.sl n .any b))) []:=by subst h hk;exact j2 (show aj7 [] H1 _ _ from g9 (ρ:=[]) (H:=H1) rfl)
theorem as1 {P:Program} {g:FuncId} {args:List S} {H H':Hp} {r:S} (i:Nat) {n:Nat} (hi:args[i]? =some (.c (.t (.sl n .any [])))) (h1:a8 P g (args.set i (.c (.t (.sl n .nul [])))) H r H')
 (h2:a8 P g (args.set i (.c (.t (.sl n .non [])))) H r H'):a8 P g args H r H':=by
 refine ⟨h1.1,fun w ι M vals hl hr hH hM hF=>?_⟩
 have hv:=(hr i _ hi).inv_t
 have hil:=(lbe.1 hi).1
 have key:∀k:SK,RT w M (.sl n k []) (vals.getD i undef)->∀j s,(args.set i (.c (.t (.sl n k []))))[j]? =some s->RS w ι M s (vals.getD j undef):=fun k hk j s hj=>by
  by_cases hji:i=j
  ·subst hji
   rw [List.getElem?_set_self hil] at hj
   injection hj with hj
   subst hj
   exact .c (.t hk)
  ·rw [List.getElem?_set_ne hji] at hj
   exact hr j s hj
 generalize hu:vals.getD i undef=u at hv
 cases hv with
 |@sl _ _ _ b off cap A f hrow hcap hmax hk hn hA hc hr' hx=>
  cases A with
  |none=>exact h1.2 w ι M vals (by simpa using hl) (key .nul (by rw [hu];exact .sl (b:=b) (off:=off) f hrow hcap hmax (by intro h;cases h) (by intro h;cases h) (by simp) hc hr' ⟨(fun _=>⟨rfl,rfl⟩),(fun h=>nomatch h)⟩)) hH hM hF
  |some a=>exact h2.2 w ι M vals (by simpa using hl) (key .non (by rw [hu];exact .sl (b:=b) (off:=off) f hrow hcap hmax (by intro h;cases h) (by intro h;cases h) (by simp) hc hr' ⟨(fun h=>nomatch h),(fun _ h=>nomatch h)⟩)) hH hM hF
theorem an0 {P:Program} {g:FuncId} {args:List S} {H:Hp} {n:Nat} {b:Blk} {rows:List (List T)} (h:a8 P g args [] (.c (.own 0 0 n true)) [b]) (hargs:args=args.map (a6B [])) (hok:args.all (okS 0)=true)
 (hm:b.mode=.live) (hb:b.rows=toC rows):a8 P g args H (.c (.own H.length 0 n true)) (H++[b]):=by
 refine N1 [] h hargs hok rfl List.nodup_nil (by simp) (by intro k hk;simp at hk;subst hk;rw [hm];simp) (by simp) rfl ?_ (by simp) ?_ ?_
 ·simp [a6B,Z5,a3y]
 ·intro i k hk
  match i,hk with
  |0,hk=>
   simp at hk
   subst hk
   exact ⟨b,by simp [a3y],v8 hb⟩
 ·intro j hj _
  rw [lbb hj]
theorem aX8 {P:Program} {g:FuncId} {args args':List S} {r:S} {H':Hp} (h:a8 P g args' [] r H') (ha:a3p [] (fun _=>False) args args'):a8 P g args [] r H':=by
 refine ⟨h.1,fun w ι M vals hl hv hH hM hf=>?_⟩
 obtain ⟨hlen,hget⟩:=a3p.get ha
 exact h.2 w ι M vals (by omega) (fun j s hj=>by
  obtain ⟨x,hx,hs⟩:=hget j s hj
  exact hs.rs hH (fun _ h=>h) (fun _ _ _ _ _ h _ _ _ _=>h.elim) (hv j x hx)) hH hM hf
end
section
open Go.RowKit
theorem St1.zd {p:Prop} [Decidable p] {k:S->Prop} (a:p->k (d9 true)) (b:¬p->k (d9 false)):aj0 p k:=aj0.mk a b
theorem St2.zd {b:Bool} {k:S->Prop} (a:b=true->k (d9 true)) (c:b=false->k (d9 false)):a1P b k:=a1P.mk a c
theorem St1.zz {x:Int} {K:Int->Prop} (k:K x) (h1:-9223372036854775808<=x:=by omega) (h2:x<=9223372036854775807:=by omega):∃n,G0 .i64 x n∧K n:=⟨_,a3e h1 h2,k⟩
theorem St2.zz {n m:Int} {K:Prop} (k:K) (h0:0<=n:=by omega) (h1:n<m:=by omega):(0<=n∧n<m)∧K:=⟨⟨h0,h1⟩,k⟩
theorem St3.zz {ops:List Oper} {K:List Oper->Prop} (k:K ops) (h:a8z ops=true:=by decide +kernel):b29 ops K:=b3G h k
theorem St4.zz {P:Program} {τ:Tab} {env:Env} {H':Hp} {ops:List Oper} {i:Nat} {K:Prop} (k:K) (h:G9 ops i=true:=by decide +kernel) (h2:X0 ops i=[]:=by decide +kernel):G9 ops i=true∧∃L,X0 ops i=L∧a1H P τ ops env H' K L:=b5v h h2 k
theorem St5.zz {s:S} {B:List Blk} {s':S} {K:Prop} (k:K) (h1:B=[]:=by exact rfl) (h2:s=s':=by exact rfl):(B=[]∧s=s')∧K:=aZ4 h1 h2 k
theorem St6.zz {α:Type} {xs:List α} {a b:Nat} {K:Prop} (k:K) (h:a=b:=by exact rfl):(xs.length=0∨a=b)∧K:=b49 h k
theorem bl0 {P:Program} {τ:Tab} {env:Env} {H':Hp} {ops:List Oper} {i:Nat} {K:Prop} (L:List Nat) (k:a1H P τ ops env H' K L) (h:G9 ops i=true:=by decide +kernel) (h2:X0 ops i=L:=by decide +kernel):G9 ops i=true∧∃L,X0 ops i=L∧a1H P τ ops env H' K L:=B3 L h h2 k
theorem qp {P:Program} {g:FuncId} {args:List S} {H:Hp} {r:S} {K:S->List Blk->Prop} {Q:Prop} (c:a8 P g args [] r []) (k:K r []) (h1:args.all S.isT=true:=by exact rfl) (h2:r.isT=true:=by exact rfl):(∃ r B,R2 P g args H r B∧K r B)∨Q:=.inl ⟨_,_,D9 c h1 h2,k⟩
theorem ac {f:FuncId} {fn:Func} {c:Code} {args:List S} {H:Hp} {s:S} {H':Hp} (hf:Go.Proofs.Tryz.prog.funcs[f]? =some fn) (h:a0w Go.Proofs.Tryz.prog tab H.length c (args++List.replicate (fn.ntmps - args.length) .junk) H fun x env' H1=>match x with
 |.exit _=>False
 | _ => a6O tab fn env' H1 fun r => Fin H.length r H1 s H') (hb : fn.body = some c := by exact rfl) (hn : fn.name ≠ "runtime.NumGoroutine" := by decide) : a8 Go.Proofs.Tryz.prog f args H s H' := b46 b9 hf hb hn h
def Jn (n:Nat):Env:=List.replicate n J
theorem St1.zy {a b c:Prop} (h:a):a90 a b c:=a90.data h
theorem St2.zy {a b:Prop} (h:b):ag3 a b:=ag3.own h
theorem b0x {a b:Prop} (h:a):ag3 a b:=ag3.data h
theorem St7.zz {k:S->Prop} (h:k (d9 true)):a1P true k:=⟨fun _=>h,fun e=>(by cases e)⟩
theorem St8.zz {k:S->Prop} (h:k (d9 false)):a1P false k:=⟨fun e=>(by cases e),fun _=>h⟩
theorem lg0 {α:Type} {l:List α} {i:Nat} (h:i<l.length):l[i]? =some l[i]:=lbf h
theorem lg1 {α:Type} {l:List α} {i:Nat} {a:α} (h:l[i]? =some a):∃h:i<l.length,l[i]=a:=lbe.1 h
theorem lg2 {α:Type} {l:List α} {i:Nat} {a:α} (h:l[i]? =some a):a ∈ l:=lbm h
theorem lg3 {α:Type} (l:List α) (i:Nat) (a:α):l.getD i a=l[i]?.getD a:=lbl
theorem lg4 {α:Type} {l:List α} {i:Nat} (h:l.length<=i):l.take i=l:=lbn h
theorem lg5 {α:Type} {a:α} {l:List α}:a ∈ a::l:=K9 ..
theorem St1.zx {x:Int} {K:Int->Prop} (k:K x) (h1:-9223372036854775808<=x:=by omega) (h2:x<=9223372036854775807:=by omega):∃n,G0 .i64 x n∧K n:=⟨_,a3e h1 h2,k⟩
theorem St2.zx {n m:Int} {K:Prop} (k:K) (h0:0<=n:=by omega) (h1:n<m:=by omega):(0<=n∧n<m)∧K:=⟨⟨h0,h1⟩,k⟩
theorem St3.zx {ops:List Oper} {K:List Oper->Prop} (k:K ops) (h:a8z ops=true:=by decide +kernel):b29 ops K:=b3G h k
theorem St4.zx {P:Program} {τ:Tab} {env:Env} {H':Hp} {ops:List Oper} {i:Nat} {K:Prop} (k:K) (h:G9 ops i=true:=by decide +kernel) (h2:X0 ops i=[]:=by decide +kernel):G9 ops i=true∧∃L,X0 ops i=L∧a1H P τ ops env H' K L:=b5v h h2 k
theorem St5.zx {s:S} {B:List Blk} {s':S} {K:Prop} (k:K) (h1:B=[]:=by exact rfl) (h2:s=s':=by exact rfl):(B=[]∧s=s')∧K:=aZ4 h1 h2 k
theorem St6.zx {α:Type} {xs:List α} {a b:Nat} {K:Prop} (k:K) (h:a=b:=by exact rfl):(xs.length=0∨a=b)∧K:=b49 h k
theorem St7.zx {k:S->Prop} (h:k (d9 true)):a1P true k:=⟨fun _=>h,fun e=>(by cases e)⟩
theorem St8.zx {k:S->Prop} (h:k (d9 false)):a1P false k:=⟨fun e=>(by cases e),fun _=>h⟩
theorem StA.zx {a b c:Prop} (h:a):a90 a b c:=a90.data h
theorem StB.zx {a b:Prop} (h:b):ag3 a b:=ag3.own h
end
end Go.Proofs.YtaejgdbahjjncaaGreat
