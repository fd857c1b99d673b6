/- Part 4. -/
import Derived.Test.YtikokmdpigploaaGreatChecked
import Derived.WalkLawsBesides
import Derived.Deep.AppendLies
import Derived.Test.YtikokmdpigploaaGreatQk3
namespace Go.Proofs.YtikokmdpigploaaGreat
set_option linter.all false
section
open Go.RowKit
def a3B:T->T->T
 |.sl s .any _,.sl s0 k r=>match k with
  |.nil=>.sl s .any []
  |_=>.sl s0 .any r
 |_,x=>x
def RT.weak {w:World} {M:Ms} {x y:T} {v:Value} (h:a3B y x=y) (hr:RT w M x v):RT w M y v:=by
 unfold a3B at h;split at h
 ·split at h
  ·rw [← h];cases hr with
   |sl f hrow hcap hmax hk hn hA hc hr=>
    obtain ⟨rfl,rfl,rfl⟩:=hn rfl;exact .sl (b:=0) (off:=0) (fun _ _=>undef) zq hcap hmax zi zi zq (by simp [at2]) (by simp [at2])
  ·rw [← h];cases hr with
   |sl f hrow hcap hmax hk hn hA hc hr=>exact .sl f hrow hcap hmax zi zi hA hc hr
 ·rw [← h];exact hr
def a2g (x:T):a3B x x=x:=by
 cases x with
 |sl s k r=>cases k<;>rfl
 |_=>rfl
def ah3 {x y:T} (h:x=y):a3B y x=y:=by subst h;exact a2g x
mutual
def VC (H:Hp) (p:Nat->Prop):C->T->Prop
 |.t x,y=>a3B y x=y
 |.ptr id r o,y=>match y with
  |.ptr cells=>p id∧∃k row,H[id]? =some k∧¬k.mode.gone∧k.rows[r]? =some row∧row.drop o=cells.map C.t
  |_=>False
 |.own id lo len _,y=>match y with
  |.sl size .any rows=>p id∧∃k,H[id]? =some k∧¬k.mode.gone∧k.size=size∧lo+len<=k.rows.length∧(k.rows.drop lo).take len=toC rows
  |_=>False
 |.fn f caps,y=>match y with
  |.fn f' caps'=>f=f'∧VL H p caps caps'
  |_=>False
def VL (H:Hp) (p:Nat->Prop):List C->List T->Prop
 |[],ys=>ys=[]
 |x::r,ys=>match ys with
  |[]=>False
  |y::r'=>VC H p x y∧VL H p r r'
end
def br4 {rows:List (List T)} {i j:Nat} {c:T} (h:at2 rows i j=some c):at2 (toC rows) i j=some (.t c):=by
 obtain ⟨row,h1,h2⟩:=G5 h;exact C7 (row:=row.map C.t) (by simp [toC,h1]) (by simp [h2])
mutual
def VC.rt {H:Hp} {p:Nat->Prop} {w:World} {ι:Io} {M M':Ms} (hH:s7 w ι M H) (hM:∀b,M' b->M b) (hp:∀id k b cap size,p id->H[id]? =some k->¬k.mode.gone->ι id=some (.blk b cap size)->¬M' b):
 ∀(x:C) (y:T) (v:Value),VC H p x y->RC w ι M x v->RT w M' y v
 |.t x,y,v,h,hr=>by
  have h:a3B y x=y:=by simpa only [VC] using h
  cases hr with
  |t hr=>exact (hr.weak h).keep (fun _ _ _=>rfl) (fun b hb=>.inl (hM b hb))
 |.ptr id r o,y,v,h,hr=>by
  cases y with
  |ptr cells=>
   simp only [VC] at h;obtain ⟨hpi,k,row,hk,hd,hrow,hc⟩:=h;cases hr with
   |@ptr _ _ _ b cap size hi=>
    have hb:=(hH.blk id k hk (fun e=>hd (by rw [e];trivial)) _ hi).row hrow;have hnm:=hp id k b cap size hpi hk hd hi;have hat:∀(j:Nat) (c:T),cells[j]? =some c->row[o+j]? =some (.t c):=fun j c hj=>by
     have:(row.drop o)[j]? =some (.t c):=by rw [hc,lba,hj];rfl
     rwa [lbj] at this
    refine .ptr (fun j=>(w.cell? ⟨b,r*size+o+j,none⟩).getD undef) (fun j c hj=>?_) (fun j c hj=>?_)
    ·obtain ⟨u,h1,h2⟩:=hb _ _ (hat j c hj);rw [a2G,h1];exact ⟨rfl,hnm⟩
    ·obtain ⟨u,h1,h2⟩:=hb _ _ (hat j c hj);rw [a2G,h1];cases h2 with
     |t h2=>exact h2.keep (fun _ _ _=>rfl) (fun b hb=>.inl (hM b hb))
  |_=>simp only [VC] at h
 |.own id lo len app,y,v,h,hr=>by
  cases y with
  |sl size sk rows=>
   cases sk with
   |any=>
    simp only [VC] at h;obtain ⟨hpi,k,hk,hd,hsz,hl,hc⟩:=h;have hlen:rows.length=len:=by
     have:=congrArg List.length hc;simp [toC] at this;omega
    cases hr with
    |@own _ _ _ _ b cap sz A cap' hi q1 q2 q3 q4 q5=>
     have hbr:=hH.blk id k hk (fun e=>hd (by rw [e];trivial)) _ hi;obtain ⟨r1,r2,r3,r4,r5,cur,r6,r7,r8⟩:=hbr;have hnm:=hp id k b cap sz hpi hk hd hi;have hse:sz=size:=by rw [← hsz,r1]
     subst hse;have hat:∀(i j:Nat) (c:T),at2 rows i j=some c->∃u,cur[(lo+i)*sz+j]? =some u∧RT w M' c u:=fun i j c hij=>by
      have h1:=br4 hij;rw [← hc] at h1;obtain ⟨row,s1,s2⟩:=G5 h1;rw [lbi] at s1;split at s1
      ·rw [lbj] at s1;obtain ⟨u,t1,t2⟩:=r8 _ _ _ (C7 s1 s2);refine ⟨u,t1,?_⟩;cases t2 with
       |t t2=>exact t2.keep (fun _ _ _=>rfl) (fun b hb=>.inl (hM b hb))
      ·cases s1
     subst hlen;refine .sl (b:=b) (off:=lo*sz) (fun i j=>cur.getD ((lo+i)*sz+j) undef) ?_ q3 q4 zi zi (fun hne=>q2 (a7h.2 hne)) ?_ ?_
     ·intro r hr';have:r.map C.t ∈ toC rows:=lby.2 ⟨r,hr',rfl⟩;rw [← hc] at this;have:=r5 _ (aW2 (am9 this));simpa using this
     ·intro i j c hij;obtain ⟨u,t1,t2⟩:=hat i j c hij;refine ⟨?_,hnm⟩;rw [show lo*sz+(i*sz+j)=(lo+i)*sz+j by rw [T4];omega];simp [World.cell?,r6,t1]
     ·intro i j c hij;obtain ⟨u,t1,t2⟩:=hat i j c hij;have:cur.getD ((lo+i)*sz+j) undef=u:=by simp [t1]
      show RT w M' c (cur.getD ((lo+i)*sz+j) undef);rw [this];exact t2
    |nil hi=>
     have hr0:rows=[]:=lbG hlen;subst hr0;exact .sl (b:=0) (off:=0) (fun _ _=>undef) zq zq (by unfold maxLen;omega) zq zq zq (by simp [at2]) (by simp [at2])
   |_=>simp only [VC] at h
  |_=>simp only [VC] at h
 |.fn f caps,y,v,h,hr=>by
  cases y with
  |fn f' caps'=>
   simp only [VC] at h;obtain ⟨rfl,h⟩:=h;cases hr with
   |fn vs hl hr=>
    obtain ⟨h1,h2⟩:=VL.rt hH hM hp caps caps' h;exact .fn vs om fun j c hj=>by
     have hlt:=(lbe.1 hj).1;exact h2 j _ c _ (lbf om) hj (hr j _ (lbf om))
  |_=>simp only [VC] at h
def VL.rt {H:Hp} {p:Nat->Prop} {w:World} {ι:Io} {M M':Ms} (hH:s7 w ι M H) (hM:∀b,M' b->M b) (hp:∀id k b cap size,p id->H[id]? =some k->¬k.mode.gone->ι id=some (.blk b cap size)->¬M' b):
 ∀(xs:List C) (ys:List T),VL H p xs ys->xs.length=ys.length∧∀(j:Nat) (x:C) (y:T) (v:Value),xs[j]? =some x->ys[j]? =some y->RC w ι M x v->RT w M' y v
 |[],ys,h=>by
  simp only [VL] at h;subst h;exact ⟨rfl,zq⟩
 |x::r,ys,h=>by
  cases ys with
  |nil=>simp only [VL] at h
  |cons y r'=>
   simp only [VL] at h;obtain ⟨h1,h2⟩:=VL.rt hH hM hp r r' h.2;refine ⟨by simp [h1],fun j x' y' v hx hy hr=>?_⟩;cases j with
   |zero=>simp at hx hy;subst hx hy;exact VC.rt hH hM hp x y v h.1 hr
   |succ j=>exact h2 j x' y' v (by simpa using hx) (by simpa using hy) hr
end
def aY4 {H:Hp} {p:Nat->Prop} {x y:T} (h:a3B y x=y):VC H p (.t x) y:=by simpa only [VC] using h
def bm3 {H:Hp} {p:Nat->Prop} {id lo len:Nat} {app:Bool} {size:Nat} {k:Blk} {rows:List (List T)} (hp:p id) (hk:H[id]? =some k) (hd:¬k.mode.gone) (hs:k.size=size) (hl:lo+len<=k.rows.length) (hc:(k.rows.drop lo).take len=toC rows):VC H p (.own id lo len app) (.sl size .any rows):=by
 simp only [VC];exact ⟨hp,k,hk,hd,hs,hl,hc⟩
def s6 {H:Hp} {p:Nat->Prop} {id len:Nat} {app:Bool} {size:Nat} {k:Blk} {rows:List (List T)} (hp:p id) (hk:H[id]? =some k) (hd:¬k.mode.gone) (hs:k.size=size) (hc:k.rows=toC rows) (hl:len=rows.length):VC H p (.own id 0 len app) (.sl size .any rows):=
 bm3 hp hk hd hs (by rw [hc,hl];simp [toC]) (by rw [hc,hl,a8y,lbn zt])
def VS (H:Hp) (p:Nat->Prop):S->S->Prop
 |_,.junk=>True
 |.c x,.c (.t y)=>VC H p x y
 |.agg xs,.agg ys=>∃ts,ys=ts.map C.t∧VL H p xs ts
 |_,_=>False
def a1X {H:Hp} {p:Nat->Prop} {x:C} {y:T} (h:VC H p x y):VS H p (.c x) (.c (.t y)):=h
def VS.rs {H:Hp} {p:Nat->Prop} {w:World} {ι ι':Io} {M M':Ms} (hH:s7 w ι M H) (hM:∀b,M' b->M b) (hp:∀id k b cap size,p id->H[id]? =some k->¬k.mode.gone->ι id=some (.blk b cap size)->¬M' b)
 {x y:S} {v:Value} (h:VS H p x y) (hr:RS w ι M x v):RS w ι' M' y v:=by
 unfold VS at h;split at h
 ·exact .junk
 ·cases hr with
  |c hr=>exact .c (.t (VC.rt hH hM hp _ _ _ h hr))
 ·obtain ⟨ts,rfl,h⟩:=h;cases hr with
  |agg vs hl hr=>
   obtain ⟨h1,h2⟩:=VL.rt hH hM hp _ _ h;refine .agg vs zo fun j c hj=>?_
   rw [lba] at hj;cases hj':ts[j]? with
   |none=>rw [hj'] at hj;cases hj
   |some c'=>
    rw [hj'] at hj;injection hj with hj;subst hj;have hlt:=(lbe.1 hj').1;exact .t (h2 j _ c' _ (lbf om) hj' (hr j _ (lbf om)))
 ·exact h.elim
def a5o (H:Hp) (p:Nat->Prop):List S->List S->Prop
 |[],[]=>True
 |x::r,y::r'=>VS H p x y∧a5o H p r r'
 |_,_=>False
def a5o.get {H:Hp} {p:Nat->Prop}:∀{xs ys:List S},a5o H p xs ys->xs.length=ys.length∧∀(j:Nat) (y:S),ys[j]? =some y->∃x,xs[j]? =some x∧VS H p x y
 |[],[],_=>⟨rfl,zq⟩
 |x::r,y::r',h=>by
  obtain ⟨h1,h2⟩:=a5o.get h.2;refine ⟨by simp [h1],fun j y' hj=>?_⟩;cases j with
  |zero=>simp at hj;subst hj;exact ⟨x,rfl,h.1⟩
  |succ j=>simpa using h2 j y' (by simpa using hj)
 |[],_::_,h=>h.elim
 |_::_,[],h=>h.elim
end
section
open Go.RowKit
def C.isT:C->Bool
 |.t _=>true
 |_=>false
def S.isT:S->Bool
 |.junk=>true
 |.c x=>x.isT
 |.agg cs=>cs.all C.isT
 |.tup ss=>ss.all fun s=>match s with
  |.c x=>x.isT
  |.agg cs=>cs.all C.isT
  |.junk=>true
  |.tup _=>false
def RC.tree {w:World} {ι ι':Io} {M:Ms} {x:C} {v:Value} (h:x.isT=true) (hr:RC w ι M x v):RC w ι' M x v:=by
 cases hr<;>first|exact .t ‹_›|cases h
def RS.tree1 {w:World} {ι ι':Io} {M:Ms} {s:S} {v:Value} (h:(match s with|.c x=>x.isT|.agg cs=>cs.all C.isT|.junk=>true|.tup _=>false)=true) (hr:RS w ι M s v):RS w ι' M s v:=by
 cases hr with
 |junk=>exact .junk
 |c hr=>exact .c (hr.tree h)
 |agg vs hl hr=>exact .agg vs hl fun j c hj=>(hr j c hj).tree (lbw.1 h c (lbm hj))
 |tup vs hl hr=>cases h
def RS.tree {w:World} {ι ι':Io} {M:Ms} {s:S} {v:Value} (h:s.isT=true) (hr:RS w ι M s v):RS w ι' M s v:=by
 cases hr with
 |junk=>exact .junk
 |c hr=>exact .c (hr.tree h)
 |agg vs hl hr=>exact .agg vs hl fun j c hj=>(hr j c hj).tree (lbw.1 h c (lbm hj))
 |tup vs hl hr=>exact .tup vs hl fun j s hj=>(hr j s hj).tree1 (lbw.1 h s (lbm hj))
theorem zA {p:Prop} (h:p:=by rintro ⟨id,k,_,_,hk,_⟩;simp at hk):p:=h
def D7 {P:Program} {g:FuncId} {args:List S} {H:Hp} {r:S} (h:d6 P g args [] r []) (ha:args.all S.isT=true) (hr:r.isT=true):a02 P g args H r []:=by
 refine ⟨h.1,fun w ι M vals hl hv hH hM hf=>?_⟩;have:=h.2 w (fun _=>none) M vals hl (fun j s hj=>(hv j s hj).tree (lbw.1 ha s (lbm hj)))
  ⟨zq,zq,zq,zq,zq⟩ hM (fun _ _=>rfl)
 refine Calls.mono this ?_;rintro e w' ⟨v,rfl,ι',M',h1,h2,h3,h4,h5⟩;refine ⟨v,rfl,K7.of_none ?_ ?_⟩
 ·refine RS.keep (ι:=ι) (M:=M') (fun _ _ _=>rfl) (fun b hb=>?_) (fun _ _ h=>h) (h1.tree hr);rcases h5.mold b hb with h|⟨id,k,_,_,hk,_⟩
  ·exact .inl h
  ·simp at hk
 ·exact ⟨h5.os,h5.tape,h5.output,h5.size,fun b hb=>h5.keep b hb zA⟩
def Awp.mono {P:Program} {n0:Nat} {c:Code} {env:Env} {H:Hp} {Q Q':AX->Env->Hp->Prop} (h:Awp P n0 c env H Q) (hq:∀a env H,Q a env H->Q' a env H):Awp P n0 c env H Q':=
 ⟨fun w0 ι0 M0 H0 a w hn hM hs=>wp_mono (h.out w0 ι0 M0 H0 a w hn hM hs) (by rintro e a' w' ⟨x,env',H',h1,h2,h3⟩;exact ⟨x,env',H',h1,hq _ _ _ h2,h3⟩)⟩
def a3n {x:Int} (h1:-9223372036854775808<=x) (h2:x<=9223372036854775807):J8 .i64 x x:=by
 unfold J8;exact (IntWalk.i64_in x ⟨h1,om⟩).symm
def G8:List (Option Nat)->Nat->Bool
 |[],_=>true
 |some m::r,n=>!(Nat.beq m n) && G8 r n
 |none::r,n=>G8 r n
def bg9 (ρ:List (Option Nat)) (x y:C):Prop:=
 match y with
 |.t y=>match x with
  |.t x=>x=y
  |_=>False
 |.ptr id' r' o'=>match x with
  |.ptr id r o=>ρ[id']? =some (some id)∧r=r'∧o=o'
  |_=>False
 |_=>False
def aE7 (ρ:List (Option Nat)):List C->List C->Prop
 |[],[]=>True
 |x::r,y::r'=>bg9 ρ x y∧aE7 ρ r r'
 |_,_=>False
def b0l (ρ:List (Option Nat)) (H:Hp) (x y:C):Prop:=
 match y with
 |.t y=>match x with
  |.t x=>a3B y x=y
  |x=>VC H (fun id=>G8 ρ id=true) x y
 |.own id' lo' len' app'=>match x with
  |.t (.sl _ .nil _)=>ρ[id']? =some none∧lo'=0∧len'=0
  |.t (.sl _ .full [])=>ρ[id']? =some none∧lo'=0∧len'=0
  |.own id lo len app=>ρ[id']? =some (some id)∧lo=lo'∧len=len'∧(app'=true->app=true)
  |_=>False
 |.ptr id' r' o'=>match x with
  |.ptr id r o=>ρ[id']? =some (some id)∧r=r'∧o=o'
  |_=>False
 |.fn f' caps'=>match x with
  |.fn f caps=>f=f'∧aE7 ρ caps caps'
  |_=>False
def a4E (ρ:List (Option Nat)) (H:Hp):List C->List C->Prop
 |[],[]=>True
 |x::r,y::r'=>b0l ρ H x y∧a4E ρ H r r'
 |_,_=>False
def a68 (ρ:List (Option Nat)) (H:Hp) (s:S) (s':S):Prop:=
 match s' with
 |.junk=>True
 |.c y=>match s with
  |.c x=>b0l ρ H x y
  |_=>False
 |.agg cs'=>match s with
  |.agg cs=>a4E ρ H cs cs'
  |_=>False
 |.tup _=>False
def Z1 (ρ:List (Option Nat)) (H:Hp):Env->Env->Prop
 |[],[]=>True
 |s::r,s'::r'=>match s' with
  |.junk=>Z1 ρ H r r'
  |s'=>a68 ρ H s s'∧Z1 ρ H r r'
 |_,_=>False
def J9 (rows:List (List C)):Prop:=∀r ∈ rows,∀c ∈ r,c.isT=true
def a4o (ρ:List (Option Nat)) (H:Hp):List (List C)->List (List C)->Prop
 |[],[]=>True
 |x::r,y::r'=>a4E ρ H x y∧a4o ρ H r r'
 |_,_=>False
def a3w (k k':Blk):Bool:=match k.mode,k'.mode with
 |.live,.live=>cond k.app k'.app true
 |.live,.old=>k.app
 |.froz,.froz=>true
 |.old,.old=>true
 |.dead,.dead=>true
 |_,_=>false
def W2 {k k':Blk} (h:a3w k k'=true):(k'.mode≠.dead->k.mode≠.dead)∧(k'.mode=.live->k.mode=.live∧(k.app=true->k'.app=true))∧(k'.mode=.froz->k.mode=.froz)∧
 (k'.mode=.old->k.mode=.old∨(k.mode=.live∧k.app=true)):=by
 unfold a3w at h;cases h1:k.mode<;>cases h2:k'.mode<;>rw [h1,h2] at h<;>simp at h ⊢
 ·intro ha;rw [ha] at h;simpa using h
 ·exact h
def a30 (ρ:List (Option Nat)) (H:Hp) (k k':Blk):Prop:=
 a3w k k'=true∧k.elem=k'.elem∧k.size=k'.size∧((k.rows=k'.rows∧J9 k.rows)∨a4o ρ H k.rows k'.rows)
def a4S (ρ:List (Option Nat)) (H:Hp):List (Option Nat)->Hp->Prop
 |[],[]=>True
 |x::r,k'::r'=>(match x with
  |none=>k'.rows=[]∧k'.mode=.live
  |some id=>match H[id]? with
   |some k=>a30 ρ H k k'
   |none=>False)∧a4S ρ H r r'
 |_,_=>False
def a5p:Nat->List (Option Nat)->Hp->Bool
 |n,x::r,k::H=>(match x,k.mode with
  |_,.old=>false
  |some m,_=>Nat.beq m n
  |none,_=>false) || a5p n r H
 |_,_,_=>false
def U4:List (Option Nat)->Hp->Bool
 |none::r,_::H=>U4 r H
 |some n::r,k::H=>(match k.mode with
  |.old=>true
  |_=>!(a5p n r H)) && U4 r H
 |_,_=>true
def a2L (ρ:List (Option Nat)):Nat->Bool
 |0=>true
 |n+1=>(match ρ[n]? with|some (some m)=>Nat.beq m n|_=>false) && a2L ρ n
def Ent (n0:Nat) (ρ:List (Option Nat)) (env:Env) (H:Hp) (env':Env) (H':Hp):Prop:=
 a2L ρ n0=true∧U4 ρ H'=true∧a4S ρ H ρ H'∧Z1 ρ H env env'
def T6 (ρ:List (Option Nat)) (ι:Io):Io:=fun id=>match ρ[id]? with
 |some (some j)=>ι j
 |some none=>some .nil
 |none=>none
def a8F (ρ:List (Option Nat)) (H:Hp) (ι:Io) (M:Ms):Ms:=fun b=>M b∧¬∃id k cap size,G8 ρ id=true∧H[id]? =some k∧¬k.mode.gone∧ι id=some (.blk b cap size)
def aF7:∀{ρ:List (Option Nat)} {i n:Nat},ρ[i]? =some (some n)->G8 ρ n=true->False
 |[],i,n,h,_=>by simp at h
 |x::r,i,n,h,hn=>by
  have hr:G8 r n=true:=by cases x<;>simp [G8] at hn<;>first|exact hn|exact hn.2
  cases i with
  |zero=>
   simp at h;subst h;simp [G8] at hn
  |succ i=>exact aF7 (by simpa using h) hr
def RC.sub {w:World} {ι:Io} {M M':Ms} (hM:∀b,M' b->M b) {x:C} {v:Value} (h:RC w ι M x v):RC w ι M' x v:=h.keep (fun _ _ _=>rfl) (fun b hb=>.inl (hM b hb)) (fun _ _ h=>h)
def bg9.rc {w:World} {ι:Io} {M:Ms} {ρ:List (Option Nat)} {H:Hp} {x y:C} {v:Value} (h:bg9 ρ x y) (hr:RC w ι M x v):RC w (T6 ρ ι) (a8F ρ H ι M) y v:=by
 cases y with
 |t y=>
  cases x with
  |t x=>
   have h:x=y:=h;subst h;cases hr with
   |t hr=>exact .t (hr.keep (fun _ _ _=>rfl) fun b hb=>.inl hb.1)
  |_=>exact False.elim h
 |ptr id' r' o'=>
  cases x with
  |ptr id r o=>
   obtain ⟨h1,rfl,rfl⟩:=h;cases hr with
   |ptr hi=>exact .ptr (by unfold T6;rw [h1];exact hi)
  |_=>exact False.elim h
 |own _ _ _ _=>exact False.elim h
 |fn _ _=>exact False.elim h
def aE7.get {ρ:List (Option Nat)}:∀{xs ys:List C},aE7 ρ xs ys->xs.length=ys.length∧∀(j:Nat) (x y:C),xs[j]? =some x->ys[j]? =some y->bg9 ρ x y
 |[],[],_=>⟨rfl,zq⟩
 |x::xs,y::ys,h=>by
  obtain ⟨h1,h2⟩:=aE7.get h.2;refine ⟨by simp [h1],fun j x' y' hx hy=>?_⟩;cases j with
  |zero=>simp at hx hy;subst hx hy;exact h.1
  |succ j=>exact h2 j x' y' (by simpa using hx) (by simpa using hy)
 |[],_::_,h=>h.elim
 |_::_,[],h=>h.elim
def b0l.rc {w:World} {ι:Io} {M:Ms} {ρ:List (Option Nat)} {H:Hp} (hH:s7 w ι M H) {x y:C} {v:Value} (h:b0l ρ H x y) (hr:RC w ι M x v):RC w (T6 ρ ι) (a8F ρ H ι M) y v:=by
 cases y with
 |t y=>
  have h:VC H (fun id=>G8 ρ id=true) x y:=by cases x<;>first|exact h|(simp only [VC];exact h)
  refine .t (VC.rt hH (fun b hb=>hb.1) ?_ x y v h hr);intro id k b cap size hp hk hd hi hb;exact hb.2 ⟨id,k,cap,size,hp,hk,hd,hi⟩
 |own id' lo' len' app'=>
  cases x with
  |t x=>
   cases x with
   |sl size k rows=>
    cases k with
    |nil=>
     obtain ⟨h1,rfl,rfl⟩:=h;cases hr with
     |t hr=>cases hr with
      |sl f hrow hcap hmax hk hn hA hc hr=>
       obtain ⟨rfl,rfl,rfl⟩:=hn rfl;exact .nil (by unfold T6;rw [h1])
    |full=>
     cases rows with
     |nil=>
      obtain ⟨h1,rfl,rfl⟩:=h;cases hr with
      |t hr=>cases hr with
       |sl f hrow hcap hmax hk hn hA hc hr=>
        obtain rfl:=hk rfl;exact .nil (by unfold T6;rw [h1])
     |cons _ _=>exact False.elim h
    |any=>exact False.elim h
    |nul=>exact False.elim h
    |non=>exact False.elim h
   |_=>exact False.elim h
  |own id lo len app=>
   obtain ⟨h1,rfl,rfl,happ⟩:=h;cases hr with
   |own hi q1 q2 q3 q4 q5=>exact .own (by unfold T6;rw [h1];exact hi) q1 q2 q3 q4 (fun h=>q5 (happ h))
   |nil hi=>exact .nil (by unfold T6;rw [h1];exact hi)
  |_=>exact False.elim h
 |ptr id' r' o'=>
  cases x with
  |ptr id r o=>
   obtain ⟨h1,rfl,rfl⟩:=h;cases hr with
   |ptr hi=>exact .ptr (by unfold T6;rw [h1];exact hi)
  |_=>exact False.elim h
 |fn f' caps'=>
  cases x with
  |fn f caps=>
   obtain ⟨rfl,h⟩:=h;obtain ⟨h1,h2⟩:=aE7.get h;cases hr with
   |fn vs hl hr=>
    refine .fn vs om fun j c hj=>?_
    have hlt:=(lbe.1 hj).1;exact (h2 j _ c (lbf om) hj).rc (hr j _ (lbf om))
  |_=>exact False.elim h
section
variable {w:World} {ι:Io} {M:Ms} {ρ:List (Option Nat)} {H:Hp} (hH:s7 w ι M H)
include hH
def a4E.rc:∀{xs ys:List C},a4E ρ H xs ys->xs.length=ys.length∧∀(j:Nat) (x y:C) (v:Value),xs[j]? =some x->ys[j]? =some y->RC w ι M x v->RC w (T6 ρ ι) (a8F ρ H ι M) y v
 |[],[],_=>⟨rfl,zq⟩
 |x::xs,y::ys,h=>by
  obtain ⟨h1,h2⟩:=a4E.rc h.2;refine ⟨by simp [h1],fun j x' y' v hx hy hr=>?_⟩;cases j with
  |zero=>simp at hx hy;subst hx hy;exact h.1.rc hH hr
  |succ j=>exact h2 j x' y' v (by simpa using hx) (by simpa using hy) hr
 |[],_::_,h=>h.elim
 |_::_,[],h=>h.elim
def a68.rs {s s':S} {v:Value} (h:a68 ρ H s s') (hr:RS w ι M s v):RS w (T6 ρ ι) (a8F ρ H ι M) s' v:=by
 unfold a68 at h;split at h
 ·exact .junk
 ·split at h
  ·exact .c (b0l.rc hH h hr.inv_c)
  ·exact h.elim
 ·split at h
  ·cases hr with
   |agg vs hl hr=>
    obtain ⟨h1,h2⟩:=a4E.rc hH h;refine .agg vs om fun j c hj=>?_
    have hlt:=(lbe.1 hj).1;exact h2 j _ c _ (lbf om) hj (hr j _ (lbf om))
  ·exact h.elim
 ·exact h.elim
omit hH in
def Z1.rel:∀{env env':Env},Z1 ρ H env env'->env.length=env'.length∧∀(t:Nat) (s':S),env'[t]? =some s'->∃s,env[t]? =some s∧a68 ρ H s s'
 |[],[],_=>⟨rfl,zq⟩
 |s::r,s'::r',h=>by
  have h':a68 ρ H s s'∧Z1 ρ H r r':=by
   cases s' with
   |junk=>exact ⟨trivial,h⟩
   |_=>exact h
  obtain ⟨h1,h2⟩:=Z1.rel h'.2;refine ⟨by simp [h1],fun t s'' ht=>?_⟩;cases t with
  |zero=>simp at ht;subst ht;exact ⟨s,rfl,h'.1⟩
  |succ t=>simpa using h2 t s'' (by simpa using ht)
 |[],_::_,h=>h.elim
 |_::_,[],h=>h.elim
def a4o.rc:∀{xs ys:List (List C)},a4o ρ H xs ys->xs.length=ys.length∧(∀ n,(∀ r ∈ xs,r.length=n)->∀r ∈ ys,r.length=n)∧
 ∀(i j:Nat) (y:C),at2 ys i j=some y->∃x,at2 xs i j=some x∧∀v,RC w ι M x v->RC w (T6 ρ ι) (a8F ρ H ι M) y v
 |[],[],_=>⟨rfl,zq,by simp [at2]⟩
 |x::xs,y::ys,h=>by
  obtain ⟨h1,h2,h3⟩:=a4o.rc h.2;obtain ⟨q1,q2⟩:=a4E.rc hH h.1;refine ⟨by simp [h1],fun n hn r hr=>?_,fun i j y' hy=>?_⟩
  ·rcases lbB.1 hr with rfl|hr
   ·rw [← q1];exact hn x zq
   ·exact h2 n (fun r hr=>hn r (by simp [hr])) r hr
  ·obtain ⟨row,r1,r2⟩:=G5 hy;cases i with
   |zero=>
    simp at r1;subst r1;have hlt:=(lbe.1 r2).1;exact ⟨_,C7 rfl (lbf om),fun v hv=>q2 j _ _ v (lbf om) r2 hv⟩
   |succ i=>
    obtain ⟨x',s1,s2⟩:=h3 i j y' (C7 (by simpa using r1) r2);obtain ⟨row',t1,t2⟩:=G5 s1;exact ⟨x',C7 (by simpa using t1) t2,s2⟩
 |[],_::_,h=>h.elim
 |_::_,[],h=>h.elim
end
def a4S.get {ρ:List (Option Nat)} {H:Hp}:∀{r:List (Option Nat)} {H':Hp},a4S ρ H r H'->r.length=H'.length∧∀(id:Nat) (k':Blk),H'[id]? =some k'->
 (r[id]? =some none∧k'.rows=[]∧k'.mode=.live)∨∃j k,r[id]? =some (some j)∧H[j]? =some k∧a30 ρ H k k'
 |[],[],_=>⟨rfl,zq⟩
 |x::r,k::H',h=>by
  obtain ⟨h1,h2⟩:=a4S.get h.2;refine ⟨by simp [h1],fun id k' hk=>?_⟩;cases id with
  |zero=>
   simp at hk;subst hk;have hx:=h.1;cases x with
   |none=>exact .inl ⟨rfl,hx⟩
   |some j=>
    refine .inr ⟨j,?_⟩;simp only at hx;split at hx
    ·rename_i k0 hk0;exact ⟨k0,rfl,hk0,hx⟩
    ·exact hx.elim
  |succ id=>simpa using h2 id k' (by simpa using hk)
 |[],_::_,h=>h.elim
 |_::_,[],h=>h.elim
def aH0:∀{r:List (Option Nat)} {H:Hp} {n j:Nat} {k:Blk},a5p n r H=false->r[j]? =some (some n)->H[j]? =some k->k.mode=.old
 |[],_,n,j,k,_,h,_=>by simp at h
 |x::r,[],n,j,k,_,_,h=>by simp at h
 |x::r,k0::H,n,0,k,hs,h,hk=>by
  simp at h hk;subst h hk;simp only [a5p,a1h] at hs;cases hm:k0.mode with
  |old=>rfl
  |_=>rw [hm] at hs;simp at hs
 |x::r,k0::H,n,j+1,k,hs,h,hk=>by
  simp only [a5p,a1h] at hs;exact aH0 hs.2 (by simpa using h) (by simpa using hk)
def aC9:∀{l:List (Option Nat)} {H:Hp},U4 l H=true->∀(i j n:Nat) (k k':Blk),l[i]? =some (some n)->l[j]? =some (some n)->H[i]? =some k->H[j]? =some k'->k.mode≠.old->k'.mode≠.old->i=j
 |[],_,_,i,j,n,k,k',h,_,_,_,_,_=>by simp at h
 |x::r,[],_,i,j,n,k,k',_,_,h,_,_,_=>by simp at h
 |x::r,k0::H,hn,i,j,n,k,k',hi,hj,hk,hk',ho,ho'=>by
  have hr:U4 r H=true:=by
   cases x with
   |none=>exact hn
   |some m=>simp only [U4,lbO] at hn;exact hn.2
  have hx:∀(q:Nat) (kq:Blk),x=some n->k0.mode≠.old->r[q]? =some (some n)->H[q]? =some kq->kq.mode=.old:=fun q kq hxn h0 hq hkq=>by
   subst hxn;simp only [U4,lbO] at hn;have h1:=hn.1;have:a5p n r H=false:=by
    cases hm:k0.mode with
    |old=>exact absurd hm h0
    |_=>simpa using h1
   exact aH0 this hq hkq
  cases i with
  |zero=>cases j with
   |zero=>rfl
   |succ j=>
    simp at hi hj hk hk';subst hk;exact absurd (hx j k' hi ho hj hk') ho'
  |succ i=>cases j with
   |zero=>
    simp at hi hj hk hk';subst hk';exact absurd (hx i k hj ho' hi hk) ho
   |succ j=>
    simp at hi hj hk hk';rw [aC9 hr i j n k k' hi hj hk hk' ho ho']
def a9f {ρ:List (Option Nat)}:∀{n:Nat},a2L ρ n=true->∀i,i<n->ρ[i]? =some (some i)
 |0,_,i,h=>om
 |n+1,hk,i,h=>by
  simp only [a2L,lbO] at hk;by_cases hi:i=n
  ·subst hi;have:=hk.1;split at this
   ·rename_i m hm;rw [hm,a1a this]
   ·cases this
  ·exact a9f hk.2 i om
def av4 {w:World} {ι ι':Io} {M M':Ms} (hM:∀b,M' b->M b) {rows:List (List C)} (h:J9 rows) {i j:Nat} {c:C} (hc:at2 rows i j=some c) {u:Value} (hr:RC w ι M c u):RC w ι' M' c u:=by
 obtain ⟨row,h1,h2⟩:=G5 hc;exact (hr.tree (h row (lbm h1) c (lbm h2))).sub hM
def a4S.all {n0:Nat} {ρ:List (Option Nat)} {H H':Hp} (h1:a2L ρ n0=true) (h2:U4 ρ H'=true) (h3:a4S ρ H ρ H') {w0:World} {ι0:Io} {M0:Ms} {H0:Hp} {w:World} {ι:Io} {M:Ms} (hn:H0.length=n0) (hM0:MB w0 M0)
 (hH:s7 w ι M H) (hst:a5u w0 ι0 M0 H0 w ι M H):s7 w (T6 ρ ι) (a8F ρ H ι M) H'∧a3l (T6 ρ ι) H'.length∧a5u w0 ι0 M0 H0 w (T6 ρ ι) (a8F ρ H ι M) H':=by
 obtain ⟨hl,hg0⟩:=a4S.get h3;have hg:∀(id:Nat) (k':Blk),H'[id]? =some k'->(ρ[id]? =some none∧k'.rows=[]∧k'.mode=.live)∨∃j k,ρ[id]? =some (some j)∧H[j]? =some k∧a3w k k'=true∧k.elem=k'.elem∧k.size=k'.size∧
  ((k.rows=k'.rows∧J9 k.rows)∨a4o ρ H k.rows k'.rows):=fun id k' hk=>by
  rcases hg0 id k' hk with h|⟨j,k,q1,q2,q3,q4,q5,q6⟩
  ·exact .inl h
  ·exact .inr ⟨j,k,q1,q2,q3,q4,q5,q6⟩
 have hlen:∀{k k':Blk},((k.rows=k'.rows∧J9 k.rows)∨a4o ρ H k.rows k'.rows)->k.rows.length=k'.rows.length:=fun h=>by
  rcases h with h|h
  ·rw [h.1]
  ·exact (a4o.rc hH h).1
 have hsub:∀b,a8F ρ H ι M b->M b:=fun b hb=>hb.1
 have hren:∀id j,ρ[id]? =some (some j)->T6 ρ ι id=ι j:=fun id j hj=>by unfold T6;rw [hj]
 have hnil:∀id,ρ[id]? =some none->T6 ρ ι id=some .nil:=fun id hj=>by unfold T6;rw [hj]
 have hle:H0.length<=H'.length:=by
  rw [← hl,hn];rcases F8 ρ.length n0 with hlt|hge
  ·have:=a9f h1 ρ.length hlt;simp at this
  ·exact hge
 refine ⟨⟨?_,?_,?_,?_,?_⟩,?_,⟨hst.os,hst.tape,hst.output,hst.size,hst.keep,?_,fun b hb=>hst.mnew b hb.1,?_,?_,hle⟩⟩
 ·intro id k' hk hd l hll;rcases hg id k' hk with ⟨q1,q2,q3⟩|⟨j,k,q1,q2,q3,q4,q5,q6⟩
  ·rw [hnil id q1] at hll;injection hll with hll;subst hll;exact q2
  ·rw [hren id j q1] at hll;have hb:=hH.blk j k q2 ((W2 q3).1 hd) l hll;cases l with
   |nil=>
    have hb':k.rows=[]:=hb;show k'.rows=[];rcases q6 with ⟨q6,_⟩|q6
    ·rw [← q6,hb']
    ·rw [hb'] at q6;cases hr:k'.rows with
     |nil=>rfl
     |cons y ys=>rw [hr] at q6;exact q6.elim
   |blk b cap size=>
    obtain ⟨r1,r2,r3,r4,r5,cur,r6,r7,r8⟩:=hb;rcases q6 with ⟨q6,q7⟩|q6
    ·refine ⟨by rw [← q5];exact r1,r2,by rw [← q6];exact r3,r4,by rw [← q6];exact r5,cur,by rw [← q4];exact r6,r7,fun i j c hc=>?_⟩;rw [← q6] at hc;obtain ⟨u,s1,s2⟩:=r8 i j c hc;exact ⟨u,s1,av4 hsub q7 hc s2⟩
    ·obtain ⟨t1,t2,t3⟩:=a4o.rc hH q6;refine ⟨by rw [← q5];exact r1,r2,by rw [← t1];exact r3,r4,t2 size r5,cur,by rw [← q4];exact r6,r7,fun i j c hc=>?_⟩;obtain ⟨x,u1,u2⟩:=t3 i j c hc;obtain ⟨u,s1,s2⟩:=r8 i j x u1;exact ⟨u,s1,u2 u s2⟩
 ·intro id k' hk hm b cap size hi;rcases hg id k' hk with ⟨q1,q2,q3⟩|⟨j,k,q1,q2,q3,q4,q5,q6⟩
  ·rw [hnil id q1] at hi;cases hi
  ·rw [hren id j q1] at hi;have hkl:k.mode=.live:=((W2 q3).2.1 hm).1;have hMb:=hH.liv j k q2 hkl b cap size hi;refine ⟨hMb,?_⟩;rintro ⟨id2,k2,cap2,size2,n1,n2,n3,n4⟩;cases hm2:k2.mode with
   |live=>
    have:=hH.inj j id2 k k2 q2 n2 hkl hm2 _ _ _ _ _ hi n4;subst this;exact aF7 q1 n1
   |froz=>exact hH.fro id2 k2 n2 hm2 _ _ _ n4 hMb
   |old=>exact n3 (by rw [hm2];trivial)
   |dead=>exact n3 (by rw [hm2];trivial)
 ·intro id k' hk hm b cap size hi;rcases hg id k' hk with ⟨q1,q2,q3⟩|⟨j,k,q1,q2,q3,q4,q5,q6⟩
  ·rw [hnil id q1] at hi;cases hi
  ·rw [hren id j q1] at hi;exact fun hb=>hH.fro j k q2 ((W2 q3).2.2.1 hm) b cap size hi hb.1
 ·intro id id' k k' hk hk' hm hm' b cap size cap' size' hi hi';rcases hg id k hk with ⟨q1,q2,q3⟩|⟨j,k1,q1,q2,q3,q4,q5,q6⟩
  ·rw [hnil id q1] at hi;cases hi
  ·rcases hg id' k' hk' with ⟨q1',q2',q3'⟩|⟨j',k1',q1',q2',q3',q4',q5',q6'⟩
   ·rw [hnil id' q1'] at hi';cases hi'
   ·rw [hren id j q1] at hi;rw [hren id' j' q1'] at hi';have:=hH.inj j j' k1 k1' q2 q2' ((W2 q3).2.1 hm).1 ((W2 q3').2.1 hm').1 _ _ _ _ _ hi hi';subst this;exact aC9 h2 id id' j k k' q1 q1' hk hk' (by rw [hm];intro h;cases h) (by rw [hm'];intro h;cases h)
 ·intro id id' k k' hk hk' hm hm' b cap size cap' size' hi hi';rcases hg id k hk with ⟨q1,q2,q3⟩|⟨j,k1,q1,q2,q3,q4,q5,q6⟩
  ·rw [hnil id q1] at hi;cases hi
  ·rcases hg0 id' k' hk' with ⟨q1',q2',q3'⟩|⟨j',k1',q1',q2',q3',q4',q5',q6'⟩
   ·rw [hnil id' q1'] at hi';cases hi'
   ·rw [hren id j q1] at hi;rw [hren id' j' q1'] at hi';obtain ⟨hl1,s2⟩:=(W2 q3').2.1 hm';rcases (W2 q3).2.2.2 hm with ho|⟨ho,ha⟩
    ·obtain ⟨t1,t2,t3⟩:=hH.old j j' k1 k1' q2 q2' ho hl1 _ _ _ _ _ hi hi';exact ⟨s2 t1,t2,by rw [← hlen q6,←hlen q6'];exact t3⟩
    ·have hjj:=hH.inj j j' k1 k1' q2 q2' ho hl1 _ _ _ _ _ hi hi';subst hjj;rw [q2] at q2';injection q2' with q2';subst q2';rw [hi] at hi';injection hi' with hi';injection hi' with _ _ hi';exact ⟨s2 ha,hi',by rw [← hlen q6,←hlen q6'];exact lbS _⟩
 ·intro id hid;unfold T6;rw [lbd om]
 ·intro id hid;rw [hren id id (a9f h1 id om)];exact hst.same id hid
 ·intro b hb;rcases hst.mold b hb with h|h
  ·by_cases hx:∃id k cap size,G8 ρ id=true∧H[id]? =some k∧¬k.mode.gone∧ι id=some (.blk b cap size)
   ·obtain ⟨id,k,cap,size,n1,n2,n3,n4⟩:=hx;refine .inr ?_;have hlive:k.mode=.live:=by
     cases hm:k.mode with
     |live=>rfl
     |froz=>exact absurd h (hH.fro id k n2 hm _ _ _ n4)
     |old=>exact absurd (by rw [hm];trivial) n3
     |dead=>exact absurd (by rw [hm];trivial) n3
    rcases hst.live b ⟨id,k,cap,size,n2,hlive,n4⟩ with h'|h'
    ·exact h'
    ·have:=hM0 b hb;omega
   ·exact .inl ⟨h,hx⟩
  ·exact .inr h
 ·rintro b ⟨id,k',cap,size,hk,hm,hi⟩;rcases hg id k' hk with ⟨q1,q2,q3⟩|⟨j,k,q1,q2,q3,q4,q5,q6⟩
  ·rw [hnil id q1] at hi;cases hi
  ·rw [hren id j q1] at hi;exact hst.live b ⟨j,k,cap,size,q2,((W2 q3).2.1 hm).1,hi⟩
def Ent.sim {n0:Nat} {ρ:List (Option Nat)} {env env':Env} {H H':Hp} (h:Ent n0 ρ env H env' H') {w0:World} {ι0:Io} {M0:Ms} {H0:Hp} {a:Act} {w:World} (hn:H0.length=n0) (hM0:MB w0 M0)
 (hs:Sim w0 ι0 M0 H0 a w env H):Sim w0 ι0 M0 H0 a w env' H':=by
 obtain ⟨h1,h2,h3,h4⟩:=h;obtain ⟨ι,M,hd,hsz,he,hH,hM,hF,hst⟩:=hs;obtain ⟨hel,heg⟩:=Z1.rel h4;obtain ⟨q1,q2,q3⟩:=a4S.all h1 h2 h3 hn hM0 hH hst;refine ⟨T6 ρ ι,_,hd,om,fun t s' ht=>?_,q1,fun b hb=>hM b hb.1,q2,q3⟩;obtain ⟨s,q1,q2⟩:=heg t s' ht;exact q2.rs hH (he t s q1)
def a9K (ρ:List (Option Nat)) (H:Hp) (s s':S):Prop:=
 match s' with
 |.tup ss'=>match s with
  |.tup ss=>Z1 ρ H ss ss'
  |_=>False
 |s'=>a68 ρ H s s'
structure Fin (n0:Nat) (r:S) (H1:Hp) (s:S) (H':Hp):Prop where
 out:∃ρ,a2L ρ n0=true∧U4 ρ H'=true∧a4S ρ H1 ρ H'∧a9K ρ H1 r s
def a9K.rs {w:World} {ι:Io} {M:Ms} {ρ:List (Option Nat)} {H:Hp} (hH:s7 w ι M H) {s s':S} {v:Value} (h:a9K ρ H s s') (hr:RS w ι M s v):RS w (T6 ρ ι) (a8F ρ H ι M) s' v:=by
 cases s' with
 |tup ss'=>
  cases s with
  |tup ss=>
   cases hr with
   |tup vs hl hr=>
    obtain ⟨h1,h2⟩:=Z1.rel h;refine .tup vs om fun j s hj=>?_
    obtain ⟨s0,q1,q2⟩:=h2 j s hj;exact q2.rs hH (hr j s0 q1)
  |_=>exact False.elim h
 |_=>exact a68.rs hH h hr
def n9 {r s:S} {H1:Hp} (h:a9K [] H1 r s):Fin 0 r H1 s []:=⟨[],rfl,rfl,trivial,h⟩
def b7d {P : Program} {τ : Tab} (hτ : E0 P τ) {f : FuncId} {fn : Func} {c : Code} {args : List S} {H : Hp} {s : S} {H' : Hp} (hf : P.funcs[f]? = some fn) (hb : fn.body = some c) (hn : fn.name ≠ "runtime.NumGoroutine")
    (h:a3g P τ H.length c (args++List.replicate (fn.ntmps - args.length) .junk) H fun x env' H1=>match x with
      |.exit _=>False
      |_=>a8M τ fn env' H1 fun r=>Fin H.length r H1 s H'):d6 P f args H s H':=by
  refine ⟨⟨fn,hf,by rw [hb];rfl,hn⟩,fun w ι M vals hl hr hH hM hF=>?_⟩;refine calls_of_wp hf hb ?_;have hi:=Sim.init hl hr hH hM hF (fn.ntmps - args.length);have:=(p6 hτ c h).out w ι M H _ w rfl hM hi;have e:vals.toArray.size=args.length:=by simpa using hl
  rw [e];refine wp_mono this ?_;rintro e a' w' ⟨x,env',H1,rfl,hq,ι',M',hd,hsz,he,hH',hM',hF',hst⟩;have key:(a8M τ fn env' H1 fun r=>Fin H.length r H1 s H')->a'.defers=[]∧∃v,(results fn a'.tmps).run P w'=.ok v w'∧∃v',Ending.returned v=.returned v'∧I2 w ι M H s H' v' w':=by
   intro hq;refine ⟨hd,?_⟩;obtain ⟨l,hk,vs,h1,h2,h3⟩:=a84 hτ he hH' fn.results.toList hq;have hrun:∃v,(results fn a'.tmps).run P w'=.ok v w'∧v=(if h:vs.length=1 then vs[0] else .tuple vs.toArray):=by
    refine ⟨_,?_,rfl⟩;unfold results;rw [Array.mapM_eq_mapM_toList,Sem.run_bind,Sem.run_map];refine (congrArg (fun r=>Result.andThen (Result.andThen r _) _) h1).trans ?_;simp
   obtain ⟨v,hv1,rfl⟩:=hrun;refine ⟨_,hv1,_,rfl,?_⟩;have hsr:∃r,RS w' ι' M' r (if h:vs.length=1 then vs[0] else .tuple vs.toArray)∧Fin H.length r H1 s H':=by
    match l,hk,h2,h3 with
    |[s1],hk,h2,h3=>
     refine ⟨s1,?_,hk⟩;rw [dif_pos (by simpa using h2)];have:=h3 0 s1 rfl;rw [lbl,lbf (by simp at h2;omega)] at this;exact this
    |[],hk,h2,h3=>
     refine ⟨_,?_,hk⟩;rw [dif_neg (by simp at h2;simp [h2])];exact .tup vs h2 h3
    |s1::s2::r,hk,h2,h3=>
     refine ⟨_,?_,hk⟩;rw [dif_neg (by simp at h2;omega)];exact .tup vs h2 h3
   obtain ⟨r,h4,ρ,f1,f2,f3,f4⟩:=hsr;obtain ⟨g1,g2,g3⟩:=a4S.all f1 f2 f3 rfl hM hH' hst;exact ⟨T6 ρ ι',_,f4.rs hH' h4,g1,fun b hb=>hM' b hb.1,g2,g3⟩
  cases x with
  |normal=>exact key hq
  |ret=>exact key hq
  |exit id=>exact hq.elim
def a2c (p:Nat->Prop) (h:∃n,p n):∃n,p n∧∀m,p m->n<=m:=by
 obtain ⟨n,hn⟩:=h;induction n using Nat.strongRecOn with
 |_ n ih=>
  by_cases hex:∃m,m<n∧p m
  ·obtain ⟨m,hm,hp⟩:=hex;exact ih m hm hp
  ·exact ⟨n,hn,fun m hm=>aL9 fun hlt=>hex ⟨m,hlt,hm⟩⟩
def a92 {P:Program} {n0:Nat} {c:Code} {env:Env} {H:Hp} {Q:AX->Env->Hp->Prop} {σ:Type} (E:σ->Env × Hp) (μ:σ->Nat) (x0:σ) (ρ0:List (Option Nat))
 (h0:Ent n0 ρ0 env H (E x0).1 (E x0).2)
 (round:∀x,Awp P n0 c (E x).1 (E x).2 fun a env' H'=>match a with
   |.normal=>∃ρ x',Ent n0 ρ env' H' (E x').1 (E x').2∧μ x'<μ x
   |a=>Q a env' H'):Awp P n0 (.loop c) env H Q:=by
 refine ⟨fun w0 ι0 M0 H0 a w hn hM hs=>?_⟩;have hs0:=h0.sim hn hM hs
 let I:Act->World->Prop:=fun a w=>∃x,Sim w0 ι0 M0 H0 a w (E x).1 (E x).2
 let J:Act->World->Nat->Prop:=fun a w n=>∃x,μ x=n∧Sim w0 ι0 M0 H0 a w (E x).1 (E x).2
 have hJ:∀a w,I a w->∃n,J a w n:=fun a w ⟨x,hx⟩=>⟨μ x,x,rfl,hx⟩
 classical
 let m:Act->World->Nat:=fun a w=>if h:∃n,J a w n then Classical.choose (a2c _ h) else 0
 have hmin:∀a w x,Sim w0 ι0 M0 H0 a w (E x).1 (E x).2->m a w<=μ x:=fun a w x hx=>by
  have h:∃n,J a w n:=⟨μ x,x,rfl,hx⟩;show (if h:∃n,J a w n then Classical.choose (a2c _ h) else 0)<=μ x;rw [dif_pos h];exact (a7F (a2c _ h)).2 _ ⟨x,rfl,hx⟩
 refine wp_loop I m ⟨x0,hs0⟩ fun a w hI=>?_
 have hex:=hJ a w hI;have hm:m a w=Classical.choose (a2c _ hex):=by
  show (if h:∃n,J a w n then Classical.choose (a2c _ h) else 0)=_;rw [dif_pos hex]
 obtain ⟨x,hx1,hx2⟩:=(a7F (a2c _ hex)).1;have hr:=(round x).out w0 ι0 M0 H0 a w hn hM hx2;refine wp_mono hr ?_;rintro e a' w' ⟨ax,env',H',rfl,hq,hs'⟩;cases ax with
 |normal=>
  obtain ⟨ρ,x',h1,h2⟩:=hq;have hs2:=h1.sim hn hM hs';refine ⟨⟨x',hs2⟩,?_⟩;have:=hmin a' w' x' hs2;omega
 |exit id=>exact ⟨_,env',H',rfl,hq,hs'⟩
 |ret=>exact ⟨_,env',H',rfl,hq,hs'⟩
def i7 {P:Program} {τ:Tab} (hτ:E0 P τ) {n0:Nat} {c:Code} {env:Env} {H:Hp} {Q:AX->Env->Hp->Prop} (E:Nat->Env × Hp) (n:Nat) (I:Nat->Prop) (ρ0:List (Option Nat))
 (hI:I 0) (h0:Ent n0 ρ0 env H (E 0).1 (E 0).2)
 (round:∀k,k<=n->I k->a3g P τ n0 c (E k).1 (E k).2 fun a env' H'=>match a with
   |.normal=>k<n∧I (k+1)∧∃ρ,Ent n0 ρ env' H' (E (k+1)).1 (E (k+1)).2
   |a=>Q a env' H'):Awp P n0 (.loop c) env H Q:=by
 refine a92 (σ:={ k:Nat // k<=n∧I k }) (fun k=>E k.1) (fun k=>n - k.1) ⟨0,J0 _,hI⟩ ρ0 h0 ?_;rintro ⟨k,hk,hi⟩;refine (p6 hτ c (round k hk hi)).mono ?_;intro a env' H' h;cases a with
 |normal=>
  obtain ⟨h1,h2,ρ,h3⟩:=h;exact ⟨ρ,⟨k+1,h1,h2⟩,h3,by show n - (k+1)<n - k;omega⟩
 |exit id=>exact h
 |ret=>exact h
def U9 {n m:Int} {K:Prop} (h0:0<=n) (h1:n<m) (k:K):(0<=n∧n<m)∧K:=⟨⟨h0,h1⟩,k⟩
def f7 {α:Type} {xs:List α} {f:α->List T} {k:Nat} {x:α} {K:List T->Prop} (hx:xs[k]? =some x) (h:K (f x)):∃row,0<=(k:Int)∧(xs.map f)[(k:Int).toNat]? =some row∧K row:=
 ⟨f x,om,by simp [hx],h⟩
def x5 {α:Type} {xs:List α} {f:α->List T} {n:Int} {x:α} {K:List T->Prop} (h0:0<=n) (hx:xs[n.toNat]? =some x) (h:K (f x)):∃row,0<=n∧(xs.map f)[n.toNat]? =some row∧K row:=
 ⟨f x,h0,by simp [hx],h⟩
end
section
open Go.RowKit
def T.flat:T->Bool
 |.atm _=>true
 |_=>false
def C.flat:C->Bool
 |.t x=>x.flat
 |_=>false
def S.flat:S->Bool
 |.junk=>true
 |.c x=>x.flat
 |.agg cs=>cs.all C.flat
 |.tup ss=>ss.all fun s=>match s with
  |.c x=>x.flat
  |.agg cs=>cs.all C.flat
  |.junk=>true
  |.tup _=>false
def RC.flat {w:World} {ι ι':Io} {M M':Ms} {x:C} {v:Value} (h:x.flat=true) (hr:RC w ι M x v):RC w ι' M' x v:=by
 cases hr with
 |t hr=>cases hr with
  |atm hv=>exact .t (.atm hv)
  |_=>cases h
 |_=>cases h
def RS.flat1 {w:World} {ι ι':Io} {M M':Ms} {s:S} {v:Value} (h:(match s with|.c x=>x.flat|.agg cs=>cs.all C.flat|.junk=>true|.tup _=>false)=true) (hr:RS w ι M s v):RS w ι' M' s v:=by
 cases hr with
 |junk=>exact .junk
 |c hr=>exact .c (hr.flat h)
 |agg vs hl hr=>exact .agg vs hl fun j c hj=>(hr j c hj).flat (lbw.1 h c (lbm hj))
 |tup vs hl hr=>cases h
def RS.flat {w:World} {ι ι':Io} {M M':Ms} {s:S} {v:Value} (h:s.flat=true) (hr:RS w ι M s v):RS w ι' M' s v:=by
 cases hr with
 |junk=>exact .junk
 |c hr=>exact .c (hr.flat h)
 |agg vs hl hr=>exact .agg vs hl fun j c hj=>(hr j c hj).flat (lbw.1 h c (lbm hj))
 |tup vs hl hr=>exact .tup vs hl fun j s hj=>(hr j s hj).flat1 (lbw.1 h s (lbm hj))
def s7.none {w:World} {M:Ms}:s7 w (fun _=>Option.none) M []:=⟨zq,zq,zq,zq,zq⟩
def an3 {P:Program} {g:FuncId} {args args':List S} {H:Hp} {r:S} (h:d6 P g args' [] r []) (ha:a5o H (fun _=>True) args args') (hr:r.flat=true):a02 P g args H r []:=by
 refine ⟨h.1,fun w ι M vals hl hv hH hM hf=>?_⟩;obtain ⟨hlen,hget⟩:=a5o.get ha;have:=h.2 w (fun _=>none) (fun _=>False) vals om (fun j s hj=>by
  obtain ⟨x,hx,hs⟩:=hget j s hj;exact hs.rs hH (fun _ h=>h.elim) (fun _ _ _ _ _ _ _ _ _ h=>h) (hv j x hx))
  .none (fun _ h=>h.elim) (fun _ _=>rfl)
 refine Calls.mono this ?_;rintro e w' ⟨v,rfl,ι',M',h1,h2,h3,h4,h5⟩;exact ⟨v,rfl,K7.of_none (h1.flat hr) ⟨h5.os,h5.tape,h5.output,h5.size,fun b hb=>h5.keep b hb zA⟩⟩
def a1k {P:Program} {g:FuncId} {args args':List S} {H:Hp} {r:S} (h:d6 P g args' [] r []) (ha:a5o H (fun _=>False) args args') (hr:r.isT=true):a02 P g args H r []:=by
 refine ⟨h.1,fun w ι M vals hl hv hH hM hf=>?_⟩;obtain ⟨hlen,hget⟩:=a5o.get ha;have:=h.2 w (fun _=>none) M vals om (fun j s hj=>by
  obtain ⟨x,hx,hs⟩:=hget j s hj;exact hs.rs hH (fun _ h=>h) (fun _ _ _ _ _ h _ _ _ _=>h.elim) (hv j x hx))
  .none hM (fun _ _=>rfl)
 refine Calls.mono this ?_;rintro e w' ⟨v,rfl,ι',M',h1,h2,h3,h4,h5⟩;refine ⟨v,rfl,K7.of_none ?_ ?_⟩
 ·refine RS.keep (ι:=ι) (M:=M') (fun _ _ _=>rfl) (fun b hb=>?_) (fun _ _ h=>h) (h1.tree hr);rcases h5.mold b hb with h|⟨id,k,_,_,hk,_⟩
  ·exact .inl h
  ·simp at hk
 ·exact ⟨h5.os,h5.tape,h5.output,h5.size,fun b hb=>h5.keep b hb zA⟩
def aN6 (fr:List Nat) (n:Nat) (k:Blk):Blk:=match fr.any (Nat.beq n),k.mode with
 |true,.live=>{ k with mode:=.froz }
 |_,_=>k
def a39 (fr:List Nat):Nat->Hp->Hp
 |_,[]=>[]
 |n,k::r=>aN6 fr n k::a39 fr (n+1) r
abbrev b8V (fr:List Nat) (H:Hp):Hp:=a39 fr 0 H
def ac4 (fr:List Nat):∀(H:Hp) (n i:Nat),(a39 fr n H)[i]? =(H[i]?).map (aN6 fr (n+i))
 |[],n,i=>by simp [a39]
 |k::r,n,0=>by simp [a39]
 |k::r,n,i+1=>by simp [a39,ac4 fr r (n+1) i,show n+1+i=n+(i+1) by omega]
def a2p (fr:List Nat):∀(H:Hp) (n:Nat),(a39 fr n H).length=H.length
 |[],n=>rfl
 |k::r,n=>by simp [a39,a2p fr r (n+1)]
def X2 {fr:List Nat} {H:Hp} {id:Nat} {k':Blk} (h:(b8V fr H)[id]? =some k'):∃k,H[id]? =some k∧k'.elem=k.elem∧k'.size=k.size∧k'.rows=k.rows∧
 ((k'=k∧(id ∉ fr∨k.mode≠.live))∨(id ∈ fr∧k.mode=.live∧k'.mode=.froz)):=by
 rw [ac4,O5] at h;cases hk:H[id]? with
 |none=>rw [hk] at h;cases h
 |some k=>
  rw [hk] at h;injection h with h;refine ⟨k,rfl,?_⟩;subst h;unfold aN6;split
  ·rename_i h1 h2;obtain ⟨x,hx,hb⟩:=lbx.1 h1;have:=a1a hb;subst this;exact ⟨rfl,rfl,rfl,.inr ⟨hx,h2,rfl⟩⟩
  ·rename_i h1;refine ⟨rfl,rfl,rfl,.inl ⟨rfl,?_⟩⟩;by_cases hm:k.mode=.live
   ·refine .inl fun hi=>h1 ?_ hm
    exact lbx.2 ⟨id,hi,zq⟩
   ·exact .inr hm
def z6 {P:Program} {g:FuncId} {args args':List S} {H:Hp} {r:S} (fr:List Nat) (h:d6 P g args' [] r []) (ha:a5o H (· ∈ fr) args args') (hr:r.isT=true):d6 P g args H r (b8V fr H):=by
 refine ⟨h.1,fun w ι M vals hl hv hH hM hf=>?_⟩;obtain ⟨hlen,hget⟩:=a5o.get ha
 let M0:Ms:=fun b=>M b∧¬∃id k cap size,id ∈ fr∧H[id]? =some k∧k.mode=.live∧ι id=some (.blk b cap size)
 have hM0:∀b,M0 b->M b:=fun b hb=>hb.1
 have:=h.2 w (fun _=>none) M0 vals om (fun j s hj=>by
  obtain ⟨x,hx,hs⟩:=hget j s hj;refine hs.rs hH hM0 ?_ (hv j x hx);intro id k b cap size hp hk hd hi hb;cases hm:k.mode with
  |live=>exact hb.2 ⟨id,k,cap,size,hp,hk,hm,hi⟩
  |froz=>exact hH.fro id k hk hm b cap size hi hb.1
  |old=>exact hd (by rw [hm];trivial)
  |dead=>exact hd (by rw [hm];trivial))
  .none (fun b hb=>hM b hb.1) (fun _ _=>rfl)
 refine Calls.mono this ?_;rintro e w' ⟨v,rfl,ι',M',h1,h2,h3,h4,h5⟩;have hkeep:∀b,b<w.heap.size->w'.heap[b]? =w.heap[b]?:=fun b hb=>h5.keep b hb zA
 have hold:∀b,M0 b->M' b:=fun b hb=>by
  rcases h5.mold b hb with h|⟨id,k,_,_,hk,_⟩
  ·exact h
  ·simp at hk
 refine ⟨v,rfl,ι,M',?_,⟨?_,?_,?_,?_,?_⟩,h3,?_,?_⟩
 ·exact h1.tree hr
 ·intro id k' hk' hd l hll;obtain ⟨k,hk,e1,e2,e3,hc⟩:=X2 hk';have hd':k.mode≠.dead:=by
   rcases hc with ⟨rfl,_⟩|⟨_,h,_⟩
   ·exact hd
   ·rw [h];intro h;cases h
  have hb:=hH.blk id k hk hd' l hll;cases l with
  |nil=>show k'.rows=[];rw [e3];exact hb
  |blk b cap size=>
   obtain ⟨q1,q2,q3,q4,q5,cur,q6,q7,q8⟩:=hb;refine ⟨by rw [e2];exact q1,q2,by rw [e3];exact q3,q4,by rw [e3];exact q5,cur,by rw [e1];exact (hkeep b (H7 q6)).trans q6,q7,fun i j c hc=>?_⟩;rw [e3] at hc;obtain ⟨u,hu,hr⟩:=q8 i j c hc;refine ⟨u,hu,hr.keep (fun b hb _=>hkeep b hb) (fun b hb=>?_) (fun _ _ h=>h)⟩;rcases h5.mnew b hb with h|h
   ·exact .inl h.1
   ·exact .inr h
 ·intro id k' hk' hl' b cap size hi;obtain ⟨k,hk,e1,e2,e3,hc⟩:=X2 hk';rcases hc with ⟨rfl,hc⟩|⟨_,_,h⟩
  ·refine hold b ⟨hH.liv id k' hk hl' b cap size hi,?_⟩;rintro ⟨id2,k2,cap2,size2,n1,n2,n3,n4⟩;have:=hH.inj id id2 k' k2 hk n2 hl' n3 _ _ _ _ _ hi n4;subst this;rcases hc with hc|hc
   ·exact hc n1
   ·exact hc hl'
  ·rw [h] at hl';cases hl'
 ·intro id k' hk' hl' b cap size hi hb;obtain ⟨k,hk,e1,e2,e3,hc⟩:=X2 hk';have hlt:b<w.heap.size:=by
   have hd:k.mode≠.dead:=by
    rcases hc with ⟨rfl,_⟩|⟨_,h,_⟩
    ·rw [hl'];intro h;cases h
    ·rw [h];intro h;cases h
   obtain ⟨_,_,_,_,_,cur,q6,_⟩:=hH.blk id k hk hd _ hi;exact H7 q6
  rcases h5.mnew b hb with h|h
  ·rcases hc with ⟨rfl,_⟩|⟨n1,n2,_⟩
   ·exact hH.fro id k' hk hl' b cap size hi h.1
   ·exact h.2 ⟨id,k,cap,size,n1,hk,n2,hi⟩
  ·omega
 ·intro id id' k1 k2 hk1 hk2 hm1 hm2;obtain ⟨k,hk,e1,e2,e3,hc⟩:=X2 hk1;obtain ⟨k',hk',e1',e2',e3',hc'⟩:=X2 hk2;rcases hc with ⟨rfl,_⟩|⟨_,_,h⟩
  ·rcases hc' with ⟨rfl,_⟩|⟨_,_,h⟩
   ·exact hH.inj id id' _ _ hk hk' hm1 hm2
   ·rw [h] at hm2;cases hm2
  ·rw [h] at hm1;cases hm1
 ·intro id id' k1 k2 hk1 hk2 hm1 hm2;obtain ⟨k,hk,e1,e2,e3,hc⟩:=X2 hk1;obtain ⟨k',hk',e1',e2',e3',hc'⟩:=X2 hk2;rcases hc with ⟨rfl,_⟩|⟨_,_,h⟩
  ·rcases hc' with ⟨rfl,_⟩|⟨_,_,h⟩
   ·exact hH.old id id' _ _ hk hk' hm1 hm2
   ·rw [h] at hm2;cases hm2
  ·rw [h] at hm1;cases hm1
 ·rw [a2p];exact hf
 ·refine ⟨h5.os,h5.tape,h5.output,h5.size,fun b hb _=>hkeep b hb,fun _ _=>rfl,?_,?_,?_,by rw [a2p];exact lbS _⟩
  ·intro b hb;rcases h5.mnew b hb with h|h
   ·exact .inl h.1
   ·exact .inr h
  ·intro b hb;by_cases hx:∃id k cap size,id ∈ fr∧H[id]? =some k∧k.mode=.live∧ι id=some (.blk b cap size)
   ·obtain ⟨id,k,cap,size,n1,n2,n3,n4⟩:=hx;exact .inr ⟨id,k,cap,size,n2,n3,n4⟩
   ·exact .inl (hold b ⟨hb,hx⟩)
  ·rintro b ⟨id,k',cap,size,hk',hl',hi⟩;obtain ⟨k,hk,e1,e2,e3,hc⟩:=X2 hk';rcases hc with ⟨rfl,_⟩|⟨_,_,h⟩
   ·exact .inl ⟨id,k',cap,size,hk,hl',hi⟩
   ·rw [h] at hl';cases hl'
def o6 {len m n b:Nat} {K:Prop} (h1:len<=m) (h2:(len+n)*b<=140737488355328) (k:K):(len<=m∧(len+n)*b<=140737488355328)∧K:=⟨⟨h1,h2⟩,k⟩
def b7i {α:Type} {xs:List α} {a b:Nat} {K:Prop} (h:a=b) (k:K):(xs.length=0∨a=b)∧K:=⟨.inr h,k⟩
def b6K {ops:List Oper} {K:List Oper->Prop} (h:ad3 ops=true) (k:K ops):b5e ops K:=⟨⟨none,rfl,h,k⟩⟩
def b08 {ops:List Oper} {K:List Oper->Prop} (π:List Nat) (h:ad3 (a06 π ops)=true) (h2:aH4 π ops.length=true) (k:K (a06 π ops)):b5e ops K:=⟨⟨some π,h2,h,k⟩⟩
def b8T {P:Program} {τ:Tab} {env:Env} {H':Hp} {ops:List Oper} {i:Nat} {K:Prop} (h:K4 ops i=true) (h2:a0z ops i=[]) (k:K):K4 ops i=true∧∃L,a0z ops i=L∧a38 P τ ops env H' K L:=⟨h,[],h2,k⟩
def b5P {P:Program} {τ:Tab} {env:Env} {H':Hp} {ops:List Oper} {i:Nat} {K:Prop} (L:List Nat) (h:K4 ops i=true) (h2:a0z ops i=L) (k:a38 P τ ops env H' K L):K4 ops i=true∧∃L,a0z ops i=L∧a38 P τ ops env H' K L:=⟨h,L,h2,k⟩
def b31 {s:S} {B:List Blk} {s':S} {K:Prop} (h1:B=[]) (h2:s=s') (k:K):(B=[]∧s=s')∧K:=⟨⟨h1,h2⟩,k⟩
def a8D {rl xl sz ds b:Nat} {K:Prop} (h1:rl=0) (h3:(rl+xl)*b<=140737488355328) (k:K):((rl=0∨(0<xl∧sz=ds))∧(rl+xl)*b<=140737488355328)∧K:=⟨⟨.inl h1,h3⟩,k⟩
def D9 {α:Type} {xs:List α} {f:α->List T} {n:Int} {k:Nat} {x:α} {K:List T->Prop} (e:n=k) (hx:xs[k]? =some x) (h:K (f x)):∃row,0<=n∧(xs.map f)[n.toNat]? =some row∧K row:=by
 subst e;exact f7 hx h
def ak3 {a b:Int} {K:Prop} (h:a≠b) (k:K):a≠b∧K:=⟨h,k⟩
def a63 {l h m:Int} {K:Prop} (h1:0<=l) (h2:l<=h) (h3:h<=m) (k:K):(0<=l∧l<=h∧h<=m)∧K:=⟨⟨h1,h2,h3⟩,k⟩
def I4 {id len:Nat} {app:Bool} {H1:Hp} {rows:List (List T)} {size:Nat} {k:Blk} (hk:H1[id]? =some k) (hd:¬k.mode.gone) (hs:k.size=size) (hc:k.rows=toC rows) (hl:len=rows.length):
 Fin 0 (.c (.own id 0 len app)) H1 (.c (.t (.sl size .any rows))) []:=n9 (show VC H1 _ _ _ from s6 rfl hk hd hs hc hl)
def q9 {ρ:List (Option Nat)} {H:Hp} {id id' len len':Nat} (h:ρ[id']? =some (some id)) (hl:len=len'):a68 ρ H (.c (.own id 0 len true)) (.c (.own id' 0 len' true)):=⟨h,rfl,hl,fun h=>h⟩
def e7 (rows:List (List T)):J9 (toC rows):=by
 intro r hr c hc;obtain ⟨r',_,rfl⟩:=lby.1 hr;obtain ⟨c',_,rfl⟩:=lby.1 hc
 rfl
def d8 {ρ:List (Option Nat)} {H:Hp} {k k':Blk} {rows:List (List T)} (h1:a3w k k'=true) (h2:k.elem=k'.elem) (h3:k.size=k'.size) (h4:k.rows=toC rows) (h5:k'.rows=toC rows):a30 ρ H k k':=
 ⟨h1,h2,h3,.inl ⟨h4.trans h5.symm,h4 ▸ e7 rows⟩⟩
def ay0 {H:Hp} {p:Nat->Prop} {x:T}:VS H p (.c (.t x)) (.c (.t x)):=a1X (aY4 (a2g x))
end
section
set_option maxRecDepth 100000
abbrev vS:Value:=.slice none 0 0
abbrev vI:Value:=.int .i64 0
abbrev tF:Option TD:=some ⟨.bas,false,1,8,[.nilFunc]⟩
abbrev tS (n:Nat):Option TD:=some ⟨.slice n,false,1,24,[vS]⟩
def bF2:List (Option TD):=[none,tF,some ⟨.int .i64,false,1,8,[vI]⟩,some ⟨.int .i64,false,1,8,[vI]⟩,some ⟨.bool,false,1,1,[.bool false]⟩,some ⟨.int .u8,false,1,1,[.int .u8 0]⟩,some ⟨.int .u8,false,1,1,[.int .u8 0]⟩,some ⟨.struct [(0,1,false),(1,1,false),(2,1,false),(3,1,false)],true,4,24,[vI,vI,.bool false,.int .u8 0]⟩,some ⟨.struct [(0,1,false),(1,1,false),(2,1,false),(3,1,false)],true,4,24,[vI,vI,.bool false,.int .u8 0]⟩,none,none,none,some ⟨.int .u64,false,1,8,[.int .u64 0]⟩,none,none,some ⟨.bas,false,1,8,[.pointer none]⟩,some ⟨.bas,false,1,8,[.pointer none]⟩,some ⟨.bas,false,1,8,[.pointer none]⟩,some ⟨.struct [(0,1,false)],true,1,8,[.pointer none]⟩,some ⟨.struct [(0,1,false)],true,1,8,[.pointer none]⟩,none,some ⟨.int .i32,false,1,4,[.int .i32 0]⟩,tS 160,tS 149,tS 255,tS 264,tS 266,some ⟨.struct [(0,1,false),(1,1,false),(2,1,false),(3,1,false),(4,1,false),(5,1,false),(6,1,false),(7,1,false)],true,8,144,[vI,vI,vI,vS,vS,vS,vS,vS]⟩,some ⟨.struct [(0,1,false),(1,1,false),(2,1,false),(3,1,false),(4,1,false),(5,1,false),(6,1,false),(7,1,false)],true,8,144,[vI,vI,vI,vS,vS,vS,vS,vS]⟩,tS 43,tS 45,some ⟨.struct [(0,8,false),(8,1,false),(9,1,false)],true,10,192,[vI,vI,vI,vS,vS,vS,vS,vS,vS,vS]⟩,some ⟨.struct [(0,8,false),(8,1,false),(9,1,false)],true,10,192,[vI,vI,vI,vS,vS,vS,vS,vS,vS,vS]⟩,tS 3,tF,tF,tS 33,some ⟨.int .i64,false,1,8,[vI]⟩,none,tF,tF,tF,some ⟨.struct [(0,1,false),(1,1,false),(2,1,false)],true,3,24,[vI,vI,vI]⟩,some ⟨.struct [(0,1,false),(1,1,false),(2,1,false)],true,3,24,[vI,vI,vI]⟩,some ⟨.struct [(0,1,false),(1,1,false)],true,2,16,[vI,vI]⟩,some ⟨.struct [(0,1,false),(1,1,false)],true,2,16,[vI,vI]⟩,tF,tF,tF,tS 86,some ⟨.struct [(0,1,false),(1,1,false),(2,1,false),(3,1,false),(4,1,false)],true,5,88,[vI,vI,vS,vS,vS]⟩,some ⟨.struct [(0,1,false),(1,1,false),(2,1,false),(3,1,false),(4,1,false)],true,5,88,[vI,vI,vS,vS,vS]⟩,tF,tS 51,none,tF,none,tF,tF,tS 109,tF,tF,tF,none,tF,none,tF,tF,tS 133,some ⟨.struct [(0,1,false),(1,1,false)],true,2,32,[vI,vS]⟩,some ⟨.struct [(0,1,false),(1,1,false)],true,2,32,[vI,vS]⟩,none,tF,none,tF,tF,tF,tF,tF,tF,tF,tF,tF,some ⟨.struct [(0,1,false),(1,1,false)],true,2,32,[vI,vS]⟩,some ⟨.struct [(0,1,false),(1,1,false)],true,2,32,[vI,vS]⟩,some ⟨.struct [(0,2,false),(2,2,false)],true,4,64,[vI,vS,vI,vS]⟩,some ⟨.struct [(0,2,false),(2,2,false)],true,4,64,[vI,vS,vI,vS]⟩,tF,tF,tF,tF,tF,tF,tS 4,tF,tF,tF,tF,tF,tF,tF,tF,tF,tF,none,tF,tF,tF,some ⟨.struct [(0,1,false),(1,4,false)],true,5,72,[vI,vI,vS,vI,vS]⟩,some ⟨.struct [(0,1,false),(1,4,false)],true,5,72,[vI,vI,vS,vI,vS]⟩,tF,tF,tF,tF,tF,none,tF,tF,tS 32,tF,tF,none,tF,tS 49,none,tF,tF,tF,tF,tF,tF,tF,some ⟨.struct [(0,1,false),(1,1,false),(2,4,false)],true,6,96,[vS,vI,vI,vS,vI,vS]⟩,some ⟨.struct [(0,1,false),(1,1,false),(2,4,false)],true,6,96,[vS,vI,vI,vS,vI,vS]⟩,tS 137,tF,some ⟨.struct [(0,1,false),(1,1,false),(2,1,false)],true,3,56,[vI,vS,vS]⟩,some ⟨.struct [(0,1,false),(1,1,false),(2,1,false)],true,3,56,[vI,vS,vS]⟩,none,tF,tF,tF,tF,tF,tS 147,tF,some ⟨.struct [(0,4,false),(4,1,false),(5,1,false),(6,1,false)],true,7,104,[vI,vS,vI,vS,.bool false,vS,vI]⟩,some ⟨.struct [(0,4,false),(4,1,false),(5,1,false),(6,1,false)],true,7,104,[vI,vS,vI,vS,.bool false,vS,vI]⟩,some ⟨.struct [(0,1,false),(1,1,false),(2,1,false),(3,1,false),(4,1,false),(5,1,false)],true,6,48,[vI,vI,vI,vI,vI,.bool false]⟩,some ⟨.struct [(0,1,false),(1,1,false),(2,1,false),(3,1,false),(4,1,false),(5,1,false)],true,6,48,[vI,vI,vI,vI,vI,.bool false]⟩,tF,none,tF,tF,tF,tF,tF,tF,tF,some ⟨.struct [(0,1,false),(1,1,false),(2,1,false)],true,3,24,[vI,vI,vI]⟩,some ⟨.struct [(0,1,false),(1,1,false),(2,1,false)],true,3,24,[vI,vI,vI]⟩,tF,tF,tF,tF,tF,tF,tF,tF,tF,none,tF,tF,some ⟨.struct [(0,1,false),(1,4,false),(5,1,false),(6,1,false),(7,1,false)],true,8,144,[vI,vI,vS,vI,vS,vS,vS,vS]⟩,some ⟨.struct [(0,1,false),(1,4,false),(5,1,false),(6,1,false),(7,1,false)],true,8,144,[vI,vI,vS,vI,vS,vS,vS,vS]⟩,none,tF,tF,tF,tF,tF,tF,tF,tF,tF,none,tF,tF,tF,tF,tF,tF,tF,tF,none,tF,tF,tF,tF,tS 59,tF,none,tF,tF,tF,tF,none,tF,tF,tF,tF,tF,tF,some ⟨.int .u64,false,1,8,[.int .u64 0]⟩,some ⟨.int .u64,false,1,8,[.int .u64 0]⟩,tF,tF,tF,tF,tF,tF,tF,tF,tF,tF,tF,some ⟨.bas,false,1,8,[.pointer none]⟩,tF,none,tF,tF,tF,tF,some ⟨.bas,false,1,8,[.pointer none]⟩,tF,tF,tF,tF,tF,tF,tF,tF,tF,tF,tF,tF,tF,none,tF,none,tF,tF,tF,tF,some ⟨.struct [(0,1,false),(1,1,false),(2,1,false),(3,1,false),(4,1,false),(5,1,false)],true,6,48,[vI,vI,vI,vI,vI,vI]⟩,some ⟨.struct [(0,1,false),(1,1,false),(2,1,false),(3,1,false),(4,1,false),(5,1,false)],true,6,48,[vI,vI,vI,vI,vI,vI]⟩,tF,tF,none,tF,some ⟨.arr 2 3,true,2,16,[vI,vI]⟩,tS 260,tF,some ⟨.struct [(0,1,false),(1,1,false)],true,2,16,[vI,vI]⟩,some ⟨.struct [(0,1,false),(1,1,false)],true,2,16,[vI,vI]⟩,some ⟨.struct [(0,1,false),(1,1,false),(2,1,false),(3,1,false)],true,4,32,[vI,vI,vI,vI]⟩,some ⟨.struct [(0,1,false),(1,1,false),(2,1,false),(3,1,false)],true,4,32,[vI,vI,vI,vI]⟩,none,tF,tF,tF,tS 84,tS 271,some ⟨.struct [(0,1,false),(1,1,false),(2,1,false),(3,2,false),(5,1,false),(6,1,false),(7,1,false),(8,1,false),(9,1,false),(10,2,false)],true,12,256,[vS,vS,vS,vI,vS,vS,vS,vS,vS,vS,vI,vS]⟩,some ⟨.struct [(0,1,false),(1,1,false),(2,1,false),(3,2,false),(5,1,false),(6,1,false),(7,1,false),(8,1,false),(9,1,false),(10,2,false)],true,12,256,[vS,vS,vS,vI,vS,vS,vS,vS,vS,vS,vI,vS]⟩,tF,tF,tF,tF,tF,tF,tF,tS 288,tS 306,some ⟨.struct [(0,1,false),(1,1,false),(2,1,false),(3,1,false),(4,1,false),(5,1,false)],true,6,128,[vI,vS,vS,vS,vS,vS]⟩,some ⟨.struct [(0,1,false),(1,1,false),(2,1,false),(3,1,false),(4,1,false),(5,1,false)],true,6,128,[vI,vS,vS,vS,vS,vS]⟩,tF,some ⟨.struct [(0,4,false),(4,1,false)],true,5,88,[vI,vS,vI,vS,vS]⟩,some ⟨.struct [(0,4,false),(4,1,false)],true,5,88,[vI,vS,vI,vS,vS]⟩,tF,none,tF,tF,tF,tF,tF,tF,some ⟨.int .u32,false,1,4,[.int .u32 0]⟩,none,tF,none,tF,tF,tF,tF,some ⟨.struct [(0,1,false),(1,1,false)],true,2,16,[vI,.bool false]⟩,some ⟨.struct [(0,1,false),(1,1,false)],true,2,16,[vI,.bool false]⟩,some ⟨.bas,false,1,8,[.pointer none]⟩,tF,tF,tF,tF,none,none,some ⟨.arr 0 16,true,0,0,[]⟩,some ⟨.struct [(0,0,false)],true,0,0,[]⟩,some ⟨.struct [(0,0,false)],true,0,0,[]⟩,some ⟨.int .u8,false,1,1,[.int .u8 0]⟩,some ⟨.int .u8,false,1,1,[.int .u8 0]⟩,tF,some ⟨.bas,false,1,8,[.pointer none]⟩,some ⟨.int .i32,false,1,4,[.int .i32 0]⟩,some ⟨.int .i32,false,1,4,[.int .i32 0]⟩,some ⟨.struct [(0,1,false),(1,1,false),(2,1,false),(3,1,false),(4,1,false),(5,1,false),(6,1,false),(7,1,false),(8,1,false),(9,1,false),(10,1,false)],true,11,48,[.int .u64 0,.int .u64 0,.int .u32 0,.int .u8 0,.int .u8 0,.int .u8 0,.int .u8 0,.nilFunc,.pointer none,.int .i32 0,.int .i32 0]⟩,some ⟨.struct [(0,1,false),(1,1,false),(2,1,false),(3,1,false),(4,1,false),(5,1,false),(6,1,false),(7,1,false),(8,1,false),(9,1,false),(10,1,false)],true,11,48,[.int .u64 0,.int .u64 0,.int .u32 0,.int .u8 0,.int .u8 0,.int .u8 0,.int .u8 0,.nilFunc,.pointer none,.int .i32 0,.int .i32 0]⟩,none]
def tab:Tab:=fun t=>bF2.getD t none
def tq {P:Program} {t:TypeId} {d:TD} (h1:bo3 P t=some d.k:=by kernel_rfl) (h2:d.agg=bB7 d.k:=by rfl) (h3:(P.info? t).map (fun i=>(i.zero.map (·.cells.toList),i.size,i.bytes))=some (some d.zero,d.size,d.bytes):=by kernel_rfl) (h4:d.zero.all (·.oneCell')=true:=by rfl) (h5:d.zero.length=d.size:=by rfl):aI5 P t d:=bz8 h1 h2 h3 h4 h5
theorem zr {p:Prop} (h:p:=by kernel_rfl):p:=h
def d9:E0 Tryz.prog tab:=b8E (l:=bF2) zr ⟨tq,tq,tq,tq,tq,tq,tq,tq,tq,tq,tq,tq,tq,tq,tq,tq,tq,tq,tq,tq,tq,tq,tq,tq,tq,tq,tq,tq,tq,tq,tq,tq,tq,tq,tq,tq,tq,tq,tq,tq,tq,tq,tq,tq,tq,tq,tq,tq,tq,tq,tq,tq,tq,tq,tq,tq,tq,tq,tq,tq,tq,tq,tq,tq,tq,tq,tq,tq,tq,tq,tq,tq,tq,tq,tq,tq,tq,tq,tq,tq,tq,tq,tq,tq,tq,tq,tq,tq,tq,tq,tq,tq,tq,tq,tq,tq,tq,tq,tq,tq,tq,tq,tq,tq,tq,tq,tq,tq,tq,tq,tq,tq,tq,tq,tq,tq,tq,tq,tq,tq,tq,tq,tq,tq,tq,tq,tq,tq,tq,tq,tq,tq,tq,tq,tq,tq,tq,tq,tq,tq,tq,tq,tq,tq,tq,tq,tq,tq,tq,tq,tq,tq,tq,tq,tq,tq,tq,tq,tq,tq,tq,tq,tq,tq,tq,tq,tq,tq,tq,tq,tq,tq,tq,tq,tq,tq,tq,tq,tq,tq,tq,tq,tq,tq,tq,tq,tq,tq,tq,tq,tq,tq,tq,tq,tq,tq,tq,tq,tq,tq,tq,tq,tq,tq,tq,tq,tq,tq,tq,tq,tq,tq,tq,tq,tq,tq,tq,tq,tq,tq,tq,tq,tq,tq,tq,tq,tq,tq,tq,tq,tq,tq,tq,tq,tq,tq,tq,tq,tq,tq,tq,tq,tq,tq,tq,tq,tq,tq,tq,tq,tq,tq,tq,tq,tq,tq,tq,tq,tq,tq,tq,tq,tq,tq,tq,tq,tq,tq,tq,tq,tq,tq,tq,tq,tq,tq,tq,tq,tq,tq,tq,tq,tq,tq,tq,tq,tq,tq,tq,trivial⟩
end
section
open Go.RowKit
structure K8 where
 kind:Int
 hh:Int
 mat:Int
structure A8 where
 day:Int
 src:Int
 dst:Int
 scale:Int
 reading:Int
 all:Bool
structure M9 where
 scale:Int
 since:Int
 till:Int
 grams:Int
 permille:Int
 drift:Int
structure F6 where
 scale:Int
 since:Int
structure a21 where
 move:Int
 mat:Int
 least:Int
 most:Int
structure Ev where
 mats:Int
 hhs:Int
 scs:Int
 places:List K8
 moves:List A8
 certs:List M9
 recalls:List F6
 purities:List a21
section
variable {α:Type} {k:Nat} {f:α->List Value} {w w':World} {A:Option Addr} {n:Nat} {xs:List α}
end
section
variable {w w':World} {m h s:Int} {A1 A2 A3 A4 A5:Option Addr} {n1 n2 n3 n4 n5:Nat} {e:Ev}
end
end
section
def idx (a b:Int):Bool:=decide (0<=a) && decide (a<b)
def btw (n lo hi:Int):Bool:=decide (lo<=n) && decide (n<=hi)
def b3l (a b:Int):btw a 0 (b - 1)=idx a b:=by
 unfold btw idx;have:decide (a<=b - 1)=decide (a<b):=zo;rw [this]
def aJ1 {a b:Int}:idx a b=true↔0<=a∧a<b:=by simp [idx]
def a09 {a b c:Int}:btw a b c=true↔b<=a∧a<=c:=by simp [btw]
def a35 (e:Ev):Bool:=
 decide (6<e.mats) || decide (100<e.hhs) || decide (30<e.scs) || decide (100<e.places.length) || decide (200<e.moves.length) ||
  decide (100<e.certs.length) || decide (30<e.recalls.length) || decide (200<e.purities.length)
def a08 (e:Ev) (p:K8):Bool:=
 idx p.kind 7 && (if p.kind=0 then idx p.hh e.hhs && idx p.mat e.mats else decide (p.hh=-1) && decide (p.mat=-1))
def w9 (e:Ev) (i:Int):Int:=((e.places[i.toNat]?).map (·.kind)).getD (-1)
def L2 (e:Ev) (m:A8):Bool:=
 idx m.src e.places.length && idx m.dst e.places.length && decide (m.src≠m.dst) && decide (w9 e m.src≠5) && decide (w9 e m.src≠6) &&
  !(decide (w9 e m.src=0) && m.all) && decide (w9 e m.dst≠0) && (if m.scale=-1 then decide (m.reading=0) else idx m.scale e.scs && btw m.reading 0 1099511627776)
def a4y (e:Ev) (c:M9):Bool:=
 decide (0<=c.since) && decide (c.since<=c.till) && decide (c.till<=100000) && idx c.scale e.scs && btw c.grams 0 1099511627776 && btw c.permille 0 1000 && btw c.drift 0 10000000
def a0S (e:Ev) (r:F6):Bool:=idx r.scale e.scs && btw r.since 0 100000
def a0J (e:Ev) (p:a21):Bool:=
 idx p.move e.moves.length && idx p.mat e.mats && decide (0<=p.least) && decide (p.least<=p.most) && decide (p.most<=1000)
def a0k (e:Ev):Bool:=e.certs.all (a4y e) && e.recalls.all (a0S e) && e.purities.all (a0J e)
def A9 (e:Ev):Int->List A8->Int
 |_,[]=>0
 |last,m::r=>if m.day<last∨100000<m.day then 17 else if L2 e m then A9 e m.day r else 1
def F3 (e:Ev):Int:=
 if a35 e then 6 else if e.mats<1∨e.hhs<0∨e.scs<0∨e.places.all (a08 e)=false then 1
 else if A9 e 0 e.moves≠0 then A9 e 0 e.moves else if a0k e then 0 else 1
def aG7 {e:Ev} {i:Nat} {p:K8} (h:e.places[i]? =some p):w9 e (i:Int)=p.kind:=by
 simp [w9,h]
def ax7 {e:Ev} {l:List A8}:∀{last:Int},A9 e last l=0->∀m ∈ l,L2 e m=true:=by
 induction l with
 |nil=>intro last _ m hm;cases hm
 |cons m r ih=>
  intro last h x hx;unfold A9 at h;split at h
  ·simp at h
  ·split at h
   ·rename_i hmk;rcases lbB.1 hx with rfl|hx
    ·exact hmk
    ·exact ih h x hx
   ·simp at h
def aq2 {e:Ev} (h:F3 e=0):a35 e=false∧1<=e.mats∧0<=e.hhs∧0<=e.scs∧e.places.all (a08 e)=true∧A9 e 0 e.moves=0∧a0k e=true:=by
 unfold F3 at h;by_cases h1:a35 e=true
 ·rw [if_pos h1] at h;simp at h
 rw [if_neg h1] at h;by_cases h2:e.mats<1∨e.hhs<0∨e.scs<0∨e.places.all (a08 e)=false
 ·rw [if_pos h2] at h;simp at h
 rw [if_neg h2] at h;by_cases h3:A9 e 0 e.moves≠0
 ·rw [if_pos h3] at h;exact absurd h h3
 rw [if_neg h3] at h;by_cases h4:a0k e=true
 ·refine ⟨by simpa using h1,om,om,om,?_,by simpa using h3,h4⟩;rw [← Bool.not_eq_false];exact fun hq=>h2 (.inr (.inr (.inr hq)))
 ·rw [if_neg h4] at h;simp at h
def O9 {e:Ev} (h:F3 e=0) {m:A8} (hm:m ∈ e.moves):L2 e m=true:=ax7 (aq2 h).2.2.2.2.2.1 m hm
def a2t {e:Ev} {m:A8} (h:L2 e m=true):0<=m.src∧m.src<e.places.length:=by
 simp [L2] at h;exact aJ1.1 h.1.1.1.1.1.1.1
def b2i {e:Ev} {m:A8} (h:L2 e m=true):0<=m.dst∧m.dst<e.places.length:=by
 simp [L2] at h;exact aJ1.1 h.1.1.1.1.1.1.2
end
section
structure Ev.Sized (e:Ev):Prop where
 s1:e.places.length<=1000000
 s2:e.moves.length<=1000000
 s3:e.certs.length<=1000000
 s4:e.recalls.length<=1000000
 s5:e.purities.length<=1000000
end
section
open Go.RowKit
abbrev ti (n:Int):T:=.atm (.int .i64 n)
abbrev tb (b:Bool):T:=.atm (.bool b)
def K8.row (p:K8):List T:=[ti p.kind,ti p.hh,ti p.mat]
def A8.row (m:A8):List T:=[ti m.day,ti m.src,ti m.dst,ti m.scale,ti m.reading,tb m.all]
def M9.row (c:M9):List T:=[ti c.scale,ti c.since,ti c.till,ti c.grams,ti c.permille,ti c.drift]
def F6.row (r:F6):List T:=[ti r.scale,ti r.since]
def a21.row (p:a21):List T:=[ti p.move,ti p.mat,ti p.least,ti p.most]
def j0 (n:Int):List T:=[ti n]
abbrev a2a (l:List K8):T:=.sl 3 .any (l.map K8.row)
abbrev a2M (l:List A8):T:=.sl 6 .any (l.map A8.row)
abbrev a0O (l:List M9):T:=.sl 6 .any (l.map M9.row)
abbrev L7 (l:List F6):T:=.sl 2 .any (l.map F6.row)
abbrev a1l (l:List a21):T:=.sl 4 .any (l.map a21.row)
abbrev w7 (l:LI):T:=.sl 1 .any (l.map j0)
def evC (e:Ev):List C:=[.t (ti e.mats),.t (ti e.hhs),.t (ti e.scs),.t (a2a e.places),.t (a2M e.moves),.t (a0O e.certs),.t (L7 e.recalls),.t (a1l e.purities)]
def evT (e:Ev):List T:=[ti e.mats,ti e.hhs,ti e.scs,a2a e.places,a2M e.moves,a0O e.certs,L7 e.recalls,a1l e.purities]
abbrev evS (e:Ev):S:=.agg (evC e)
abbrev j3 (l:LI):S:=.c (.t (w7 l))
def K8.cs (p:K8):List C:=p.row.map .t
def A8.cs (m:A8):List C:=m.row.map .t
abbrev bF3 (m:A8):S:=.agg m.cs
abbrev evB (e:Ev):Blk:=F5 28 8 [evC e] true
def g9 {a b:Bool} {H1:Hp} (h:a=b):Fin 0 (j8 a) H1 (j8 b) []:=n9 (by subst h;exact rfl)
def o4 {a b:Int} {k:IntKind} {H1:Hp} (h:a=b):Fin 0 (c9 k a) H1 (c9 k b) []:=n9 (by subst h;exact rfl)
def k8 {x y:T} {ρ:List (Option Nat)} {H:Hp} (h:x=y):a68 ρ H (.c (.t x)) (.c (.t y)):=ah3 h
def d7 {a b:Int} {k:IntKind} {ρ:List (Option Nat)} {H:Hp} (h:a=b):a68 ρ H (c9 k a) (c9 k b):=by subst h;exact rfl
def y6 (e:Ev):J9 [evC e]:=by simp [J9,evC,C.isT]
end
section
open Go.RowKit
mutual
def Z4 (σ:List Nat):C->C
 |.t x=>.t x
 |.ptr id r o=>.ptr (σ.getD id 0) r o
 |.own id lo len app=>.own (σ.getD id 0) lo len app
 |.fn f caps=>.fn f (a1m σ caps)
def a1m (σ:List Nat):List C->List C
 |[]=>[]
 |x::r=>Z4 σ x::a1m σ r
end
def a73 (σ:List Nat):S->S
 |.junk=>.junk
 |.c x=>.c (Z4 σ x)
 |.agg cs=>.agg (a1m σ cs)
 |.tup ss=>.tup (ss.map fun s=>match s with
  |.c x=>.c (Z4 σ x)
  |.agg cs=>.agg (a1m σ cs)
  |s=>s)
mutual
def okC (n:Nat):C->Bool
 |.t _=>true
 |.ptr id _ _=>Nat.blt id n
 |.own id _ _ _=>Nat.blt id n
 |.fn _ caps=>okL n caps
def okL (n:Nat):List C->Bool
 |[]=>true
 |x::r=>okC n x && okL n r
end
def okS (n:Nat):S->Bool
 |.junk=>true
 |.c x=>okC n x
 |.agg cs=>okL n cs
 |.tup _=>false
def P7 (σ:List Nat):∀l,a1m σ l=l.map (Z4 σ)
 |[]=>by simp [a1m]
 |x::r=>by simp [a1m,P7 σ r]
def b3A {n:Nat}:∀{l:List C},okL n l=true->∀c ∈ l,okC n c=true
 |[],_,c,h=>by cases h
 |x::r,h,c,hc=>by
  simp only [okL,lbO] at h;rcases lbB.1 hc with rfl|hc
  ·exact h.1
  ·exact b3A h.2 c hc
def ap5 {σ:List Nat} {x:C} (h:x.isT=true):Z4 σ x=x:=by
 cases x<;>first|rfl|cases h
def a0U (σ:List Nat) (ι:Io):Io:=fun id=>(σ[id]?).bind ι
mutual
def aJ8 {w:World} {ι:Io} {M:Ms} {σ:List Nat}:∀(x:C) (v:Value),okC σ.length x=true->RC w ι M (Z4 σ x) v->RC w (a0U σ ι) M x v
 |.t x,v,_,h=>by
  simp only [Z4] at h;cases h with
  |t h=>exact .t h
 |.ptr id r o,v,hk,h=>by
  simp only [Z4] at h;have hlt:id<σ.length:=by simpa [okC,a0T] using hk
  have e:a0U σ ι id=ι (σ.getD id 0):=by simp [a0U,lbf hlt,lbl]
  cases h with
  |ptr h=>exact .ptr (e.trans h)
 |.own id lo len app,v,hk,h=>by
  simp only [Z4] at h;have hlt:id<σ.length:=by simpa [okC,a0T] using hk
  have e:a0U σ ι id=ι (σ.getD id 0):=by simp [a0U,lbf hlt,lbl]
  cases h with
  |own h h1 h2 h3 h4 h5=>exact .own (e.trans h) h1 h2 h3 h4 h5
  |nil h=>exact .nil (e.trans h)
 |.fn f caps,v,hk,h=>by
  simp only [Z4] at h;cases h with
  |fn vs hl hr=>
   rw [P7,lbr] at hl;refine .fn vs hl fun j c hj=>?_
   exact aP4 caps (by simpa [okC] using hk) c (lbm hj) _ (hr j _ (by rw [P7,lba,hj];rfl))
def aP4 {w:World} {ι:Io} {M:Ms} {σ:List Nat}:∀(l:List C),okL σ.length l=true->∀c ∈ l,∀v,RC w ι M (Z4 σ c) v->RC w (a0U σ ι) M c v
 |[],_,c,h,_,_=>by cases h
 |x::r,hk,c,hc,v,h=>by
  simp only [okL,lbO] at hk;rcases lbB.1 hc with hcx|hc
  ·rw [hcx] at h ⊢;exact aJ8 x v hk.1 h
  ·exact aP4 r hk.2 c hc v h
end
def b9R {w:World} {ι:Io} {M:Ms} {σ:List Nat} {s:S} {v:Value} (hk:okS σ.length s=true) (h:RS w ι M (a73 σ s) v):RS w (a0U σ ι) M s v:=by
 cases s with
 |junk=>exact .junk
 |c x=>cases h with
  |c h=>exact .c (aJ8 x v hk h)
 |agg cs=>
  have h:RS w ι M (.agg (a1m σ cs)) v:=h;cases h with
  |agg vs hl hr=>
   rw [P7,lbr] at hl;refine .agg vs hl fun j c hj=>?_
   exact aP4 cs hk c (lbm hj) _ (hr j _ (by rw [P7,lba,hj];rfl))
 |tup ss=>cases hk
def RC.ren {w:World} {ι ι':Io} {M:Ms} {σ:List Nat} (hι:∀id l,ι id=some l->ι' (σ.getD id 0)=some l) {x:C} {v:Value} (h:RC w ι M x v):RC w ι' M (Z4 σ x) v:=by
 induction h with
 |t h=>simp only [Z4];exact .t h
 |ptr h=>simp only [Z4];exact .ptr (hι _ _ h)
 |own h h1 h2 h3 h4 h5=>simp only [Z4];exact .own (hι _ _ h) h1 h2 h3 h4 h5
 |nil h=>simp only [Z4];exact .nil (hι _ _ h)
 |fn vs hl hr ih=>
  simp only [Z4];refine .fn vs (by rw [P7,lbr];exact hl) fun j c hj=>?_
  rw [P7,lba] at hj;obtain ⟨c0,hc0,rfl⟩:=am8.1 hj;exact ih j c0 hc0
def RS.ren1 {w:World} {ι ι':Io} {M:Ms} {σ:List Nat} (hι:∀id l,ι id=some l->ι' (σ.getD id 0)=some l) {x:List C} {v:Value} (h:RS w ι M (.agg x) v):RS w ι' M (.agg (a1m σ x)) v:=by
 cases h with
 |agg vs hl hr=>
  refine .agg vs (by rw [P7,lbr];exact hl) fun j c hj=>?_
  rw [P7,lba] at hj;obtain ⟨c0,hc0,rfl⟩:=am8.1 hj;exact (hr j c0 hc0).ren hι
def by6:S->Bool
 |.tup _=>false
 |_=>true
def aE5:S->Bool
 |.tup ss=>ss.all by6
 |_=>true
def RS.ren {w:World} {ι ι':Io} {M:Ms} {σ:List Nat} (hι:∀id l,ι id=some l->ι' (σ.getD id 0)=some l) {s:S} {v:Value} (hs:aE5 s=true) (h:RS w ι M s v):RS w ι' M (a73 σ s) v:=by
 cases s with
 |junk=>exact .junk
 |c x=>cases h with
  |c h=>exact .c (h.ren hι)
 |agg cs=>exact RS.ren1 hι h
 |tup ss=>
  cases h with
  |tup vs hl hr=>
   refine .tup vs (by simpa using hl) fun j s hj=>?_
   rw [lba] at hj;obtain ⟨s0,hs0,rfl⟩:=am8.1 hj;have h0:=hr j s0 hs0;have hno:=lbw.1 hs s0 (lbm hs0);cases s0 with
   |junk=>exact .junk
   |c x=>cases h0 with
    |c h=>exact .c (h.ren hι)
   |agg cs=>exact RS.ren1 hι h0
   |tup _=>cases hno
def a7H (σ:List Nat) (rows:List (List C)):List (List C):=rows.map (a1m σ)
def b6g {σ:List Nat} (rows:List (List T)):a7H σ (toC rows)=toC rows:=by
 unfold a7H toC;rw [a4P];apply lbp;intro r _;show a1m σ (r.map C.t)=r.map C.t;rw [P7,a4P];apply lbp;intro c _;simp [Z4]
def b3T {σ:List Nat} {rows:List (List C)} {i j:Nat}:at2 (a7H σ rows) i j=(at2 rows i j).map (Z4 σ):=by
 unfold at2 a7H;rw [lba];cases rows[i]? with
 |none=>rfl
 |some r=>simp [P7]
def aK7 (σ:List Nat) (k k':Blk):Prop:=k'.mode=k.mode∧k'.elem=k.elem∧k'.size=k.size∧k'.app=k.app∧k'.rows=a7H σ k.rows
def B3 {σ:List Nat} {k:Blk} {rows:List (List T)} (h:k.rows=toC rows):aK7 σ k k:=⟨rfl,rfl,rfl,rfl,by rw [h,b6g]⟩
def b8g {n:Nat}:∀l:List T,okL n (l.map C.t)=true
 |[]=>by simp [okL]
 |x::r=>by simp [okL,okC,b8g r]
def a57 {n:Nat} (rows:List (List T)):∀r ∈ toC rows,okL n r=true:=by
 intro r hr;obtain ⟨r',_,rfl⟩:=lby.1 hr;exact b8g r'
def O7.ren {w:World} {ι ι':Io} {M:Ms} {σ:List Nat} (hι:∀id l,ι id=some l->ι' (σ.getD id 0)=some l) {k k':Blk} (hk:aK7 σ k k') {l:Loc} (h:O7 w ι M k l):O7 w ι' M k' l:=by
 obtain ⟨e1,e2,e3,e4,e5⟩:=hk;cases l with
 |nil=>
  have h:k.rows=[]:=h;show k'.rows=[];rw [e5,h];rfl
 |blk b cap size=>
  obtain ⟨q1,q2,q3,q4,q5,cur,q6,q7,q8⟩:=h;refine ⟨by rw [e3];exact q1,q2,by rw [e5];simpa [a7H] using q3,q4,?_,cur,by rw [e2];exact q6,q7,fun i j c hc=>?_⟩
  ·intro r hr;rw [e5] at hr;obtain ⟨r0,h0,rfl⟩:=lby.1 hr;rw [P7,lbr];exact q5 r0 h0
  ·rw [e5,b3T] at hc;obtain ⟨c0,hc0,rfl⟩:=am8.1 hc;obtain ⟨u,h1,h2⟩:=q8 i j c0 hc0;exact ⟨u,h1,h2.ren hι⟩
def O7.ren_in {w:World} {ι:Io} {M:Ms} {σ:List Nat} {k k':Blk} (hk:aK7 σ k k') (hok:∀r ∈ k.rows,okL σ.length r=true) {l:Loc} (h:O7 w ι M k' l):O7 w (a0U σ ι) M k l:=by
 obtain ⟨e1,e2,e3,e4,e5⟩:=hk;cases l with
 |nil=>
  have h:k'.rows=[]:=h;show k.rows=[];rw [e5] at h;simpa [a7H] using h
 |blk b cap size=>
  obtain ⟨q1,q2,q3,q4,q5,cur,q6,q7,q8⟩:=h;refine ⟨by rw [← e3];exact q1,q2,by rw [e5] at q3;simpa [a7H] using q3,q4,?_,cur,by rw [← e2];exact q6,q7,fun i j c hc=>?_⟩
  ·intro r hr;have:=q5 (a1m σ r) (by rw [e5];exact lby.2 ⟨r,hr,rfl⟩);rw [P7,lbr] at this;exact this
  ·obtain ⟨u,h1,h2⟩:=q8 i j (Z4 σ c) (by rw [e5,b3T,hc];rfl);obtain ⟨row,r1,r2⟩:=G5 hc;exact ⟨u,h1,aJ8 c u (b3A (hok row (lbm r1)) c (lbm r2)) h2⟩
def a4Z (σ:List Nat) (n m:Nat):List Nat:=σ++(List.range m).map (n+·)
def W4 {P:Program} {g:FuncId} {args args':List S} {H H' Hs Hs':Hp} {r r':S} (σ:List Nat) (h:d6 P g args Hs r Hs')
 (hargs:args'=args.map (a73 σ)) (hok:args.all (okS σ.length)=true) (hσl:σ.length=Hs.length) (hσn:σ.Nodup)
 (hin:∀i k,Hs[i]? =some k->k.mode=.live∧k.app=false∧(∀ r ∈ k.rows,okL σ.length r=true)∧∃k',H[σ.getD i 0]? =some k'∧aK7 σ k k')
 (hno:∀k ∈ Hs',k.mode≠.old) (hlen:Hs.length<=Hs'.length)
 (hr:aE5 r=true) (hr':r'=a73 (a4Z σ H.length (Hs'.length - Hs.length)) r)
 (hl':H'.length=H.length+(Hs'.length - Hs.length)) (hout:∀i k,Hs'[i]? =some k->∃k',H'[(a4Z σ H.length (Hs'.length - Hs.length)).getD i 0]? =some k'∧aK7 (a4Z σ H.length (Hs'.length - Hs.length)) k k')
 (hrest:∀j,j<H.length->j ∉ σ->H'[j]? =H[j]?):d6 P g args' H r' H':=by
 refine ⟨h.1,fun w ι M vals hl hv hH hM hF=>?_⟩;subst hargs;have hσlt:∀i,i<σ.length->σ.getD i 0<H.length:=fun i hi=>by
  obtain ⟨_,_,_,k',hk',_⟩:=hin i Hs[i] (lbf om);exact (lbe.1 hk').1
 have hsub:∀i,i<σ.length->a0U σ ι i=ι (σ.getD i 0):=fun i hi=>by simp [a0U,lbf hi,lbl]
 have hsubn:∀i,σ.length<=i->a0U σ ι i=none:=fun i hi=>by simp [a0U,lbd hi]
 have hget:∀i k,Hs[i]? =some k->i<σ.length:=fun i k hk=>by rw [hσl];exact (lbe.1 hk).1
 have hHs:s7 w (a0U σ ι) M Hs:=by
  refine ⟨?_,?_,?_,?_,?_⟩
  ·intro id k hk hd l hl;obtain ⟨h1,h2,h3,k',hk',hren⟩:=hin id k hk;rw [hsub id (hget id k hk)] at hl;exact (hH.blk _ k' hk' (by rw [hren.1];exact hd) l hl).ren_in hren h3
  ·intro id k hk hm b cap size hl;obtain ⟨h1,h2,h3,k',hk',hren⟩:=hin id k hk;rw [hsub id (hget id k hk)] at hl;exact hH.liv _ k' hk' (by rw [hren.1];exact hm) b cap size hl
  ·intro id k hk hm;obtain ⟨h1,h2,h3,k',hk',hren⟩:=hin id k hk;rw [h1] at hm;cases hm
  ·intro id id' k k2 hk hk2 hm hm2 b cap size cap' size' hl hl2;obtain ⟨h1,h2,h3,k',hk',hren⟩:=hin id k hk;obtain ⟨h1',h2',h3',k2',hk2',hren2⟩:=hin id' k2 hk2;rw [hsub id (hget id k hk)] at hl;rw [hsub id' (hget id' k2 hk2)] at hl2;have:=hH.inj _ _ k' k2' hk' hk2' (by rw [hren.1];exact hm) (by rw [hren2.1];exact hm2) _ _ _ _ _ hl hl2;have hi:=hget id k hk;have hi':=hget id' k2 hk2;rw [lbl,lbl,lbf hi,lbf hi'] at this;simp only [aO8] at this;have hp:=List.pairwise_iff_getElem.1 hσn;rcases av9 id id' with hlt|heq|hgt
   ·exact absurd this (hp id id' hi hi' hlt)
   ·exact heq
   ·exact absurd this.symm (hp id' id hi' hi hgt)
  ·intro id id' k k2 hk hk2 hm;obtain ⟨h1,_⟩:=hin id k hk;rw [h1] at hm;cases hm
 have hlive:∀b,a4v (a0U σ ι) Hs b->∃i k,i<σ.length∧H[σ.getD i 0]? =some k∧k.mode=.live∧k.app=false∧∃cap size,ι (σ.getD i 0)=some (.blk b cap size):=by
  rintro b ⟨i,k,cap,size,hk,hm,hi⟩;obtain ⟨h1,h2,h3,k',hk',hren⟩:=hin i k hk;rw [hsub i (hget i k hk)] at hi;exact ⟨i,k',hget i k hk,hk',by rw [hren.1];exact h1,by rw [hren.2.2.2.1];exact h2,cap,size,hi⟩
 have hliveH:∀b,a4v (a0U σ ι) Hs b->a4v ι H b:=fun b hb=>by
  obtain ⟨i,k,_,hk,hm,_,cap,size,hi⟩:=hlive b hb;exact ⟨_,k,cap,size,hk,hm,hi⟩
 have hvals:∀j s,args[j]? =some s->RS w (a0U σ ι) M s (vals.getD j undef):=fun j s hj=>
  b9R (lbw.1 hok s (lbm hj)) (hv j _ (by rw [lba,hj];rfl))
 have hcall:=h.2 w (a0U σ ι) M vals (by simpa using hl) hvals hHs hM (fun id hid=>hsubn id om);refine Calls.mono hcall ?_;rintro e w' ⟨v,rfl,ι',M',h1,h2,h3,h4,h5⟩;refine ⟨v,rfl,?_⟩;generalize hm:Hs'.length - Hs.length=m at *
 let σ':=a4Z σ H.length m
 let ι2:Io:=fun j=>if j<H.length then ι j else ι' (Hs.length+(j - H.length))
 have hσ'l:σ'.length=Hs'.length:=by simp [σ',a4Z];omega
 have hσ'1:∀i,i<σ.length->σ'.getD i 0=σ.getD i 0:=fun i hi=>by
  simp only [σ',a4Z,lbl,lbb hi]
 have hσ'2:∀i,σ.length<=i->i<Hs'.length->σ'.getD i 0=H.length+(i - σ.length):=fun i hi hi'=>by
  simp only [σ',a4Z,lbl];rw [lbc hi,lba,lbh om]
  rfl
 have hι2:∀id l,ι' id=some l->ι2 (σ'.getD id 0)=some l:=fun id l hid=>by
  have hidl:id<Hs'.length:=by
   rcases F8 id Hs'.length with h|h
   ·exact h
   ·rw [h4 id h] at hid;cases hid
  show (if _ then _ else _)=_;by_cases hlt:id<σ.length
  ·rw [hσ'1 id hlt,if_pos (hσlt id hlt),←hsub id hlt,←h5.same id om];exact hid
  ·rw [hσ'2 id om hidl,if_neg om,show Hs.length+(H.length+(id - σ.length) - H.length)=id by omega];exact hid
 have hkeepM:∀b,b<w.heap.size->¬M b->w'.heap[b]? =w.heap[b]?:=fun b hb hnm=>h5.keep b hb fun hl=>hnm (a4v.inM hHs hl)
 have hιext:∀id l,ι id=some l->ι2 id=some l:=fun id l hid=>by
  show (if _ then _ else _)=_;rw [if_pos]
  ·exact hid
  ·rcases F8 id H.length with h|h
   ·exact h
   ·rw [hF id h] at hid;cases hid
 have hcase:∀j k',H'[j]? =some k'->(j<H.length∧j ∉ σ∧H[j]? =some k')∨∃i k,Hs'[i]? =some k∧σ'.getD i 0=j∧aK7 σ' k k'∧ι2 j=ι' i:=fun j k' hj=>by
  have hjl:=(lbe.1 hj).1;have fromI:∀i,i<Hs'.length->σ'.getD i 0=j->∃i k,Hs'[i]? =some k∧σ'.getD i 0=j∧aK7 σ' k k'∧ι2 j=ι' i:=fun i hi hij=>by
   obtain ⟨k2,hk2,hren⟩:=hout i Hs'[i] (lbf hi);have hk2':H'[j]? =some k2:=by rw [← hij];exact hk2
   rw [hj] at hk2';injection hk2' with hk2';subst hk2';refine ⟨i,_,lbf hi,hij,hren,?_⟩;show (if _ then _ else _)=_;by_cases hlt:i<σ.length
   ·rw [← hij,hσ'1 i hlt,if_pos (hσlt i hlt),←hsub i hlt,←h5.same i om]
   ·rw [← hij,hσ'2 i om hi,if_neg om,show Hs.length+(H.length+(i - σ.length) - H.length)=i by omega]
  by_cases hlt:j<H.length
  ·by_cases hmem:j ∈ σ
   ·obtain ⟨i,hi⟩:=az9.1 hmem;have hil:=(lbe.1 hi).1;refine .inr (fromI i om ?_);rw [hσ'1 i hil,lbl,hi];rfl
   ·rw [hrest j hlt hmem] at hj;exact .inl ⟨hlt,hmem,hj⟩
  ·refine .inr (fromI (σ.length+(j - H.length)) om ?_);rw [hσ'2 _ om om];omega
 have hold2:∀j,j<H.length->ι2 j=ι j:=fun j hj=>by show (if _ then _ else _)=_;rw [if_pos hj]
 have hmodeOut:∀j k',j<H.length->j ∉ σ->H[j]? =some k'->k'.mode=.live->∀b cap size,ι j=some (.blk b cap size)->¬a4v (a0U σ ι) Hs b:=fun j k' hjl hjn hk' hm' b cap size hi hb=>by
  obtain ⟨i,k,hil,hk,hkm,_,c,s,hi2⟩:=hlive b hb;have:=hH.inj j _ k' k hk' hk hm' hkm _ _ _ _ _ hi hi2;apply hjn;rw [this,lbl,lbf hil];exact lbF hil
 refine ⟨ι2,M',?_,⟨?_,?_,?_,?_,?_⟩,h3,?_,?_⟩
 ·rw [hr'];exact h1.ren hι2 hr
 ·intro j k' hj hd l hl2;rcases hcase j k' hj with ⟨hjl,hjn,hk'⟩|⟨i,k,hk,hij,hren,hιj⟩
  ·rw [hold2 j hjl] at hl2;have hb:=hH.blk j k' hk' hd l hl2;cases l with
   |nil=>exact hb
   |blk b cap size=>
    obtain ⟨q1,q2,q3,q4,q5,cur,q6,q7,q8⟩:=hb;have hnl:¬a4v (a0U σ ι) Hs b:=by
     intro hb;cases hm':k'.mode with
     |live=>exact hmodeOut j k' hjl hjn hk' hm' b cap size hl2 hb
     |froz=>exact hH.fro j k' hk' hm' _ _ _ hl2 (a4v.inM hHs hb)
     |old=>
      obtain ⟨i,k,hil,hk,hkm,hka,c,s,hi2⟩:=hlive b hb;have:=(hH.old j _ k' k hk' hk hm' hkm _ _ _ _ _ hl2 hi2).1;rw [hka] at this;cases this
     |dead=>exact hd hm'
    refine ⟨q1,q2,q3,q4,q5,cur,(h5.keep b (H7 q6) hnl).trans q6,q7,fun i j c hc=>?_⟩;obtain ⟨u,r1,r2⟩:=q8 i j c hc;exact ⟨u,r1,r2.keep hkeepM h5.mnew hιext⟩
  ·rw [hιj] at hl2;exact (h2.blk i k hk (by rw [← hren.1];exact hd) l hl2).ren hι2 hren
 ·intro j k' hj hm' b cap size hi;rcases hcase j k' hj with ⟨hjl,hjn,hk'⟩|⟨i,k,hk,hij,hren,hιj⟩
  ·rw [hold2 j hjl] at hi;rcases h5.mold b (hH.liv j k' hk' hm' b cap size hi) with h|h
   ·exact h
   ·exact absurd h (hmodeOut j k' hjl hjn hk' hm' b cap size hi)
  ·rw [hιj] at hi;exact h2.liv i k hk (by rw [← hren.1];exact hm') b cap size hi
 ·intro j k' hj hm' b cap size hi hb;rcases hcase j k' hj with ⟨hjl,hjn,hk'⟩|⟨i,k,hk,hij,hren,hιj⟩
  ·rw [hold2 j hjl] at hi;have hlt:b<w.heap.size:=by
    obtain ⟨_,_,_,_,_,cur,q6,_⟩:=hH.blk j k' hk' (by rw [hm'];intro h;cases h) _ hi;exact H7 q6
   rcases h5.mnew b hb with h|h
   ·exact hH.fro j k' hk' hm' b cap size hi h
   ·omega
  ·rw [hιj] at hi;exact h2.fro i k hk (by rw [← hren.1];exact hm') b cap size hi hb
 ·have cross:∀j j' k' i k,j<H.length->j ∉ σ->H[j]? =some k'->k'.mode=.live->Hs'[i]? =some k->k.mode=.live->∀b cap size cap' size',ι j=some (.blk b cap size)->ι' i=some (.blk b cap' size')->j=j':=by
   intro j j' k' i k hjl hjn hk' hm' hk hkm b cap size cap' size' hi hi';have hlt:b<w.heap.size:=by
    obtain ⟨_,_,_,_,_,cur,q6,_⟩:=hH.blk j k' hk' (by rw [hm'];intro h;cases h) _ hi;exact H7 q6
   rcases h5.live b ⟨i,k,cap',size',hk,hkm,hi'⟩ with h|h
   ·exact absurd h (hmodeOut j k' hjl hjn hk' hm' b cap size hi)
   ·omega
  intro j j' k1 k2 hj hj' hm1 hm2 b cap size cap' size' hi hi';rcases hcase j k1 hj with ⟨hjl,hjn,hk1⟩|⟨i,k,hk,hij,hren,hιj⟩<;>rcases hcase j' k2 hj' with ⟨hjl',hjn',hk2⟩|⟨i',k0,hk0,hij',hren',hιj'⟩
  ·rw [hold2 j hjl] at hi;rw [hold2 j' hjl'] at hi';exact hH.inj j j' k1 k2 hk1 hk2 hm1 hm2 _ _ _ _ _ hi hi'
  ·rw [hold2 j hjl] at hi;rw [hιj'] at hi';exact cross j j' k1 i' k0 hjl hjn hk1 hm1 hk0 (by rw [← hren'.1];exact hm2) _ _ _ _ _ hi hi'
  ·rw [hιj] at hi;rw [hold2 j' hjl'] at hi';exact (cross j' j k2 i k hjl' hjn' hk2 hm2 hk (by rw [← hren.1];exact hm1) _ _ _ _ _ hi' hi).symm
  ·rw [hιj] at hi;rw [hιj'] at hi';have:=h2.inj i i' k k0 hk hk0 (by rw [← hren.1];exact hm1) (by rw [← hren'.1];exact hm2) _ _ _ _ _ hi hi';rw [← hij,←hij',this]
 ·intro j j' k1 k2 hj hj' hm1 hm2 b cap size cap' size' hi hi';rcases hcase j k1 hj with ⟨hjl,hjn,hk1⟩|⟨i,k,hk,hij,hren,hιj⟩
  ·rw [hold2 j hjl] at hi;have hlt:b<w.heap.size:=by
    obtain ⟨_,_,_,_,_,cur,q6,_⟩:=hH.blk j k1 hk1 (by rw [hm1];intro h;cases h) _ hi;exact H7 q6
   rcases hcase j' k2 hj' with ⟨hjl',hjn',hk2⟩|⟨i',k0,hk0,hij',hren',hιj'⟩
   ·rw [hold2 j' hjl'] at hi';exact hH.old j j' k1 k2 hk1 hk2 hm1 hm2 _ _ _ _ _ hi hi'
   ·rw [hιj'] at hi';rcases h5.live b ⟨i',k0,cap',size',hk0,by rw [← hren'.1];exact hm2,hi'⟩ with h|h
    ·obtain ⟨i,k,hil,hk,hkm,hka,c,s,hi2⟩:=hlive b h;have:=(hH.old j _ k1 k hk1 hk hm1 hkm _ _ _ _ _ hi hi2).1;rw [hka] at this;cases this
    ·omega
  ·have:k.mode=.old:=by rw [← hren.1];exact hm1
   exact absurd this (hno k (lbm hk))
 ·intro id hid;show (if _ then _ else _)=_;rw [if_neg om];exact h4 _ om
 ·refine ⟨h5.os,h5.tape,h5.output,h5.size,fun b hb hnl=>h5.keep b hb fun hl=>hnl (hliveH b hl),fun id hid=>hold2 id hid,h5.mnew,fun b hb=>?_,?_,om⟩
  ·rcases h5.mold b hb with h|h
   ·exact .inl h
   ·exact .inr (hliveH b h)
  ·rintro b ⟨j,k',cap,size,hj,hm',hi⟩;rcases hcase j k' hj with ⟨hjl,hjn,hk'⟩|⟨i,k,hk,hij,hren,hιj⟩
   ·rw [hold2 j hjl] at hi;exact .inl ⟨j,k',cap,size,hk',hm',hi⟩
   ·rw [hιj] at hi;rcases h5.live b ⟨i,k,cap,size,hk,by rw [← hren.1];exact hm',hi⟩ with h|h
    ·exact .inl (hliveH b h)
    ·exact .inr h
def o9 {P:Program} {τ:Tab} (hτ:E0 P τ) {n0:Nat} {c:Code} {env:Env} {H:Hp} {Q:AX->Env->Hp->Prop} {σ:Type} (E:σ->Env × Hp) (I:σ->Prop) (μ:σ->Nat) (x0:σ) (ρ0:List (Option Nat))
 (hI:I x0) (h0:Ent n0 ρ0 env H (E x0).1 (E x0).2)
 (round:∀x,I x->a3g P τ n0 c (E x).1 (E x).2 fun a env' H'=>match a with
   |.normal=>∃ρ x',Ent n0 ρ env' H' (E x').1 (E x').2∧I x'∧μ x'<μ x
   |a=>Q a env' H'):Awp P n0 (.loop c) env H Q:=by
 refine a92 (σ:={ x:σ // I x }) (fun x=>E x.1) (fun x=>μ x.1) ⟨x0,hI⟩ ρ0 h0 ?_;rintro ⟨x,hx⟩;refine (p6 hτ c (round x hx)).mono ?_;intro a env' H' h;cases a with
 |normal=>
  obtain ⟨ρ,x',h1,h2,h3⟩:=h;exact ⟨ρ,⟨x',h2⟩,h1,h3⟩
 |exit id=>exact h
 |ret=>exact h
def E5 {x y:Int} (h:x=y) (h1:-9223372036854775808<=y) (h2:y<=9223372036854775807):J8 .i64 x y:=by subst h;exact a3n h1 h2
end
section
open Go.RowKit
set_option maxRecDepth 100000
abbrev o8 (l:LI):Blk:={ mode:=.live,elem:=3,size:=1,rows:=toC (l.map j0),box:=false }
abbrev a1U (id:Nat) (l:LI):S:=.c (.own id 0 l.length true)
def p8 {α:Type} {xs:List α} {f:α->List T} {n:Int} {x:α} {lo:Nat} {K:List C->Prop} (hx:xs[lo+n.toNat]? =some x) (h:K ((f x).map C.t)):∃row,(toC (xs.map f))[lo+n.toNat]? =some row∧K row:=
 ⟨(f x).map C.t,by simp [toC,hx],h⟩
def a0x {a b:Int} {n:Nat} {K:Prop} (h0:0<=a) (h1:a<=b) (h2:b<=1000000) (hn:n<=1000) (k:K):(0<=a∧a<=b∧b*((n:Int)+1)<=140737488355328)∧K:=by
 refine ⟨⟨h0,h1,?_⟩,k⟩;have:b*((n:Int)+1)<=1000000*1001:=a7I h2 om om om;omega
def b9O {α:Type} {f:α->List T} {xs:List α} {x:α}:(toC (xs.map f)).take xs.length++toC [f x]=toC ((xs++[x]).map f):=by
 rw [lbn zt];simp [toC]
def ar8 {x:Int} (h1:0<=x) (h2:x<18446744073709551616):IntKind.wrap .u64 x=x:=by
 simp only [IntKind.wrap,IntKind.bits,IntKind.signed];simp;omega
def aY9 {k:IntKind} (hk:k.bits=64) (a:Int) (j:Nat) (hj:j<=62):(BitVec.ofInt k.bits a &&& BitVec.ofInt k.bits ((2 ^ j - 1:Nat):Int)).toNat=(a % ((2 ^ j:Nat):Int)).toNat:=by
 rw [hk];rw [BitVec.toNat_and,BitVec.toNat_ofInt,BitVec.toNat_ofInt];have hp:(2:Nat) ^ j<=2 ^ 62:=at4 de hj;have h0:0<(2:Nat) ^ j:=Nat.pow_pos de;have e1:((((2 ^ j - 1:Nat):Int)) % ((2 ^ 64:Nat):Int)).toNat=2 ^ j - 1:=by
  rw [au9 om om];simp
 rw [e1,Nat.and_two_pow_sub_one_eq_mod];have hd:(2:Nat) ^ 64=2 ^ j*2 ^ (64 - j):=by rw [← Nat.pow_add];congr 1;omega
 have h2:0<=a % ((2 ^ 64:Nat):Int):=am0 _ de;have e2:((a % ((2 ^ 64:Nat):Int)).toNat % 2 ^ j:Nat)=((a % ((2 ^ 64:Nat):Int)) % ((2 ^ j:Nat):Int)).toNat:=by
  rw [Int.toNat_emod h2 om];rfl
 rw [e2]
 congr 1
 refine Int.emod_emod_of_dvd _ ?_;exact ⟨((2 ^ (64 - j):Nat):Int),by exact_mod_cast hd⟩
def aN2 {a:Int} (j:Nat) (hj:j<=62):IntKind.wrap .u64 (BitVec.ofInt (IntKind.bits .u64) a &&& BitVec.ofInt (IntKind.bits .u64) ((2 ^ j - 1:Nat):Int)).toNat=a % ((2 ^ j:Nat):Int):=by
 rw [aY9 rfl a j hj];have hp:(2:Nat) ^ j<=2 ^ 62:=at4 de hj;have h0:0<(2:Nat) ^ j:=Nat.pow_pos de;have h1:0<=a % ((2 ^ j:Nat):Int):=am0 _ om;have h2:a % ((2 ^ j:Nat):Int)<((2 ^ j:Nat):Int):=aM0 _ om;rw [lb0 h1,ar8 h1 om]
def aZ7 {x:Int} (h1:0<=x) (h2:x<18446744073709551616):J8 .u64 x x:=by unfold J8;exact (ar8 h1 h2).symm
def a1t {α:Type} {l:List α} {f:α->Bool} {k:Nat} {x:α} (h:l[k]? =some x):(l.take (k+1)).any f=((l.take k).any f || f x):=by
 rw [lbH,h];simp
def y9 {α:Type} {l:List α} {f:α->Bool} {k:Nat} {x:α} (h:l[k]? =some x):(l.take (k+1)).all f=((l.take k).all f && f x):=by
 rw [lbH,h];simp
def a4L {α:Type} {l:List α} {f:α->Bool} {k:Nat} {x:α} (h:l[k]? =some x) (hf:f x=true):l.any f=true:=lbx.2 ⟨x,lbm h,hf⟩
def C5 {α:Type} {l:List α} {f:α->Bool} {k:Nat} {x:α} (h:l[k]? =some x) (hf:f x=false):l.all f=false:=by
 rw [← lbR,lbw];intro h';rw [h' x (lbm h)] at hf;cases hf
def as7 {x y:T} {H1:Hp} (h:x=y):Fin 0 (.c (.t x)) H1 (.c (.t y)) []:=by subst h;exact n9 (show a9K [] H1 _ _ from k8 (ρ:=[]) (H:=H1) rfl)
def bp5 {n:Nat} {k:SK} {a b:List (List T)} {H1:Hp} (h:a=b) (hk:k=.any):Fin 0 (.c (.t (.sl n k a))) H1 (.c (.t (.sl n .any b))) []:=by subst h hk;exact n9 (show a9K [] H1 _ _ from k8 (ρ:=[]) (H:=H1) rfl)
def aG2 {P:Program} {g:FuncId} {args:List S} {H H':Hp} {r:S} (i:Nat) {n:Nat} (hi:args[i]? =some (.c (.t (.sl n .any [])))) (h1:d6 P g (args.set i (.c (.t (.sl n .nul [])))) H r H')
 (h2:d6 P g (args.set i (.c (.t (.sl n .non [])))) H r H'):d6 P g args H r H':=by
 refine ⟨h1.1,fun w ι M vals hl hr hH hM hF=>?_⟩;have hv:=(hr i _ hi).inv_t;have hil:=(lbe.1 hi).1;have key:∀k:SK,RT w M (.sl n k []) (vals.getD i undef)->∀j s,(args.set i (.c (.t (.sl n k []))))[j]? =some s->RS w ι M s (vals.getD j undef):=fun k hk j s hj=>by
  by_cases hji:i=j
  ·subst hji;rw [List.getElem?_set_self hil] at hj;injection hj with hj;subst hj;exact .c (.t hk)
  ·rw [List.getElem?_set_ne hji] at hj;exact hr j s hj
 generalize hu:vals.getD i undef=u at hv;cases hv with
 |@sl _ _ _ b off cap A f hrow hcap hmax hk hn hA hc hr' hx=>
  cases A with
  |none=>exact h1.2 w ι M vals (by simpa using hl) (key .nul (by rw [hu];exact .sl (b:=b) (off:=off) f hrow hcap hmax zi zi zq hc hr' ⟨(fun _=>rz),(fun h=>nomatch h)⟩)) hH hM hF
  |some a=>exact h2.2 w ι M vals (by simpa using hl) (key .non (by rw [hu];exact .sl (b:=b) (off:=off) f hrow hcap hmax zi zi zq hc hr' ⟨(fun h=>nomatch h),(fun _ h=>nomatch h)⟩)) hH hM hF
def aA4 {P:Program} {g:FuncId} {args:List S} {H:Hp} {n:Nat} {b:Blk} {rows:List (List T)} (h:d6 P g args [] (.c (.own 0 0 n true)) [b]) (hargs:args=args.map (a73 [])) (hok:args.all (okS 0)=true)
 (hm:b.mode=.live) (hb:b.rows=toC rows):d6 P g args H (.c (.own H.length 0 n true)) (H++[b]):=by
 refine W4 [] h hargs hok rfl List.nodup_nil zq (by intro k hk;simp at hk;subst hk;rw [hm];simp) zq rfl ?_ zq ?_ ?_
 ·simp [a73,Z4,a4Z]
 ·intro i k hk
  match i,hk with
  |0,hk=>
   simp at hk;subst hk;exact ⟨b,by simp [a4Z],B3 hb⟩
 ·intro j hj _;rw [lbb hj]
def b2L {P:Program} {g:FuncId} {args args':List S} {r:S} {H':Hp} (h:d6 P g args' [] r H') (ha:a5o [] (fun _=>False) args args'):d6 P g args [] r H':=by
 refine ⟨h.1,fun w ι M vals hl hv hH hM hf=>?_⟩;obtain ⟨hlen,hget⟩:=a5o.get ha;exact h.2 w ι M vals om (fun j s hj=>by
  obtain ⟨x,hx,hs⟩:=hget j s hj;exact hs.rs hH (fun _ h=>h) (fun _ _ _ _ _ h _ _ _ _=>h.elim) (hv j x hx)) hH hM hf
end
end Go.Proofs.YtikokmdpigploaaGreat
