/- Part 4. -/
import Derived.Test.YtikokmdpigploaaGreatChecked
import Derived.WalkLawsBesides
import Derived.Deep.AppendLies
import Derived.Test.YtikokmdpigploaaGreatSk3
namespace Go.Proofs.YtikokmdpigploaaGreat
set_option linter.all false
section
open Go.RowKit
def a5C:T->T->T
 |.sl s .any _,.sl s0 k r=>match k with
  |.nil=>.sl s .any []
  |_=>.sl s0 .any r
 |_,x=>x
def RT.weak {w:World} {M:Ms} {x y:T} {v:Value} (h:a5C y x=y) (hr:RT w M x v):RT w M y v:=by
 unfold a5C at h;split at h
 ·split at h
  ·rw [← h];cases hr with
   |sl f hrow hcap hmax hk hn hA hc hr=>
    obtain ⟨rfl,rfl,rfl⟩:=hn rfl;exact .sl (b:=0) (off:=0) (fun _ _=>undef) zq hcap hmax zi zi zq (by simp [at2]) (by simp [at2])
  ·rw [← h];cases hr with
   |sl f hrow hcap hmax hk hn hA hc hr=>exact .sl f hrow hcap hmax zi zi hA hc hr
 ·rw [← h];exact hr
def a0L (x:T):a5C x x=x:=by
 cases x with
 |sl s k r=>cases k<;>rfl
 |_=>rfl
def ad9 {x y:T} (h:x=y):a5C y x=y:=by subst h;exact a0L x
mutual
def VC (H:Hp) (p:Nat->Prop):C->T->Prop
 |.t x,y=>a5C y x=y
 |.ptr id r o,y=>match y with
  |.ptr cells=>p id∧∃k row,H[id]? =some k∧¬k.mode.gone∧k.rows[r]? =some row∧row.drop o=cells.map C.t
  |_=>False
 |.own id lo len _,y=>match y with
  |.sl size .any rows=>p id∧∃k,H[id]? =some k∧¬k.mode.gone∧k.size=size∧lo+len<=k.rows.length∧(k.rows.drop lo).take len=toC rows
  |_=>False
 |.fn f caps,y=>match y with
  |.fn f' caps'=>f=f'∧VL H p caps caps'
  |_=>False
def VL (H:Hp) (p:Nat->Prop):List C->List T->Prop
 |[],ys=>ys=[]
 |x::r,ys=>match ys with
  |[]=>False
  |y::r'=>VC H p x y∧VL H p r r'
end
def bh9 {rows:List (List T)} {i j:Nat} {c:T} (h:at2 rows i j=some c):at2 (toC rows) i j=some (.t c):=by
 obtain ⟨row,h1,h2⟩:=F8 h;exact C3 (row:=row.map C.t) (by simp [toC,h1]) (by simp [h2])
mutual
def VC.rt {H:Hp} {p:Nat->Prop} {w:World} {ι:Io} {M M':Ms} (hH:t4 w ι M H) (hM:∀b,M' b->M b) (hp:∀id k b cap size,p id->H[id]? =some k->¬k.mode.gone->ι id=some (.blk b cap size)->¬M' b):
 ∀(x:C) (y:T) (v:Value),VC H p x y->RC w ι M x v->RT w M' y v
 |.t x,y,v,h,hr=>by
  have h:a5C y x=y:=by simpa only [VC] using h
  cases hr with
  |t hr=>exact (hr.weak h).keep (fun _ _ _=>rfl) (fun b hb=>.inl (hM b hb))
 |.ptr id r o,y,v,h,hr=>by
  cases y with
  |ptr cells=>
   simp only [VC] at h;obtain ⟨hpi,k,row,hk,hd,hrow,hc⟩:=h;cases hr with
   |@ptr _ _ _ b cap size hi=>
    have hb:=(hH.blk id k hk (fun e=>hd (by rw [e];trivial)) _ hi).row hrow;have hnm:=hp id k b cap size hpi hk hd hi;have hat:∀(j:Nat) (c:T),cells[j]? =some c->row[o+j]? =some (.t c):=fun j c hj=>by
     have:(row.drop o)[j]? =some (.t c):=by rw [hc,lba,hj];rfl
     rwa [lbj] at this
    refine .ptr (fun j=>(w.cell? ⟨b,r*size+o+j,none⟩).getD undef) (fun j c hj=>?_) (fun j c hj=>?_)
    ·obtain ⟨u,h1,h2⟩:=hb _ _ (hat j c hj);rw [a2t,h1];exact ⟨rfl,hnm⟩
    ·obtain ⟨u,h1,h2⟩:=hb _ _ (hat j c hj);rw [a2t,h1];cases h2 with
     |t h2=>exact h2.keep (fun _ _ _=>rfl) (fun b hb=>.inl (hM b hb))
  |_=>simp only [VC] at h
 |.own id lo len app,y,v,h,hr=>by
  cases y with
  |sl size sk rows=>
   cases sk with
   |any=>
    simp only [VC] at h;obtain ⟨hpi,k,hk,hd,hsz,hl,hc⟩:=h;have hlen:rows.length=len:=by
     have:=congrArg List.length hc;simp [toC] at this;omega
    cases hr with
    |@own _ _ _ _ b cap sz A cap' hi q1 q2 q3 q4 q5=>
     have hbr:=hH.blk id k hk (fun e=>hd (by rw [e];trivial)) _ hi;obtain ⟨r1,r2,r3,r4,r5,cur,r6,r7,r8⟩:=hbr;have hnm:=hp id k b cap sz hpi hk hd hi;have hse:sz=size:=by rw [← hsz,r1]
     subst hse;have hat:∀(i j:Nat) (c:T),at2 rows i j=some c->∃u,cur[(lo+i)*sz+j]? =some u∧RT w M' c u:=fun i j c hij=>by
      have h1:=bh9 hij;rw [← hc] at h1;obtain ⟨row,s1,s2⟩:=F8 h1;rw [lbi] at s1;split at s1
      ·rw [lbj] at s1;obtain ⟨u,t1,t2⟩:=r8 _ _ _ (C3 s1 s2);refine ⟨u,t1,?_⟩;cases t2 with
       |t t2=>exact t2.keep (fun _ _ _=>rfl) (fun b hb=>.inl (hM b hb))
      ·cases s1
     subst hlen;refine .sl (b:=b) (off:=lo*sz) (fun i j=>cur.getD ((lo+i)*sz+j) undef) ?_ q3 q4 zi zi (fun hne=>q2 (a6N.2 hne)) ?_ ?_
     ·intro r hr';have:r.map C.t ∈ toC rows:=lbw.2 ⟨r,hr',rfl⟩;rw [← hc] at this;have:=r5 _ (aT6 (ag2 this));simpa using this
     ·intro i j c hij;obtain ⟨u,t1,t2⟩:=hat i j c hij;refine ⟨?_,hnm⟩;rw [show lo*sz+(i*sz+j)=(lo+i)*sz+j by rw [R0];omega];simp [World.cell?,r6,t1]
     ·intro i j c hij;obtain ⟨u,t1,t2⟩:=hat i j c hij;have:cur.getD ((lo+i)*sz+j) undef=u:=by simp [t1]
      show RT w M' c (cur.getD ((lo+i)*sz+j) undef);rw [this];exact t2
    |nil hi=>
     have hr0:rows=[]:=lbE hlen;subst hr0;exact .sl (b:=0) (off:=0) (fun _ _=>undef) zq zq (by unfold maxLen;omega) zq zq zq (by simp [at2]) (by simp [at2])
   |_=>simp only [VC] at h
  |_=>simp only [VC] at h
 |.fn f caps,y,v,h,hr=>by
  cases y with
  |fn f' caps'=>
   simp only [VC] at h;obtain ⟨rfl,h⟩:=h;cases hr with
   |fn vs hl hr=>
    obtain ⟨h1,h2⟩:=VL.rt hH hM hp caps caps' h;exact .fn vs om fun j c hj=>by
     have hlt:=(lbe.1 hj).1;exact h2 j _ c _ (lbf om) hj (hr j _ (lbf om))
  |_=>simp only [VC] at h
def VL.rt {H:Hp} {p:Nat->Prop} {w:World} {ι:Io} {M M':Ms} (hH:t4 w ι M H) (hM:∀b,M' b->M b) (hp:∀id k b cap size,p id->H[id]? =some k->¬k.mode.gone->ι id=some (.blk b cap size)->¬M' b):
 ∀(xs:List C) (ys:List T),VL H p xs ys->xs.length=ys.length∧∀(j:Nat) (x:C) (y:T) (v:Value),xs[j]? =some x->ys[j]? =some y->RC w ι M x v->RT w M' y v
 |[],ys,h=>by
  simp only [VL] at h;subst h;exact ⟨rfl,zq⟩
 |x::r,ys,h=>by
  cases ys with
  |nil=>simp only [VL] at h
  |cons y r'=>
   simp only [VL] at h;obtain ⟨h1,h2⟩:=VL.rt hH hM hp r r' h.2;refine ⟨by simp [h1],fun j x' y' v hx hy hr=>?_⟩;cases j with
   |zero=>simp at hx hy;subst hx hy;exact VC.rt hH hM hp x y v h.1 hr
   |succ j=>exact h2 j x' y' v (by simpa using hx) (by simpa using hy) hr
end
def aI3 {H:Hp} {p:Nat->Prop} {x y:T} (h:a5C y x=y):VC H p (.t x) y:=by simpa only [VC] using h
def aj3 {H:Hp} {p:Nat->Prop} {id r o:Nat} {k:Blk} {row:List C} {cells:List T} (hp:p id) (hk:H[id]? =some k) (hd:¬k.mode.gone) (hr:k.rows[r]? =some row) (hc:row.drop o=cells.map C.t):VC H p (.ptr id r o) (.ptr cells):=by
 simp only [VC];exact ⟨hp,k,row,hk,hd,hr,hc⟩
def bc8 {H:Hp} {p:Nat->Prop} {id lo len:Nat} {app:Bool} {size:Nat} {k:Blk} {rows:List (List T)} (hp:p id) (hk:H[id]? =some k) (hd:¬k.mode.gone) (hs:k.size=size) (hl:lo+len<=k.rows.length) (hc:(k.rows.drop lo).take len=toC rows):VC H p (.own id lo len app) (.sl size .any rows):=by
 simp only [VC];exact ⟨hp,k,hk,hd,hs,hl,hc⟩
def u5 {H:Hp} {p:Nat->Prop} {id len:Nat} {app:Bool} {size:Nat} {k:Blk} {rows:List (List T)} (hp:p id) (hk:H[id]? =some k) (hd:¬k.mode.gone) (hs:k.size=size) (hc:k.rows=toC rows) (hl:len=rows.length):VC H p (.own id 0 len app) (.sl size .any rows):=
 bc8 hp hk hd hs (by rw [hc,hl];simp [toC]) (by rw [hc,hl,a9y,lbn zt])
def b7v {H:Hp} {p:Nat->Prop}:VL H p [] []:=by simp only [VL]
def a68 {H:Hp} {p:Nat->Prop} {x:C} {y:T} {xs:List C} {ys:List T} (h:VC H p x y) (hs:VL H p xs ys):VL H p (x::xs) (y::ys):=by simp only [VL];exact ⟨h,hs⟩
def bu4 {H:Hp} {p:Nat->Prop} {f:Fn} {xs:List C} {ys:List T} (h:VL H p xs ys):VC H p (.fn f xs) (.fn f ys):=by simp only [VC,true_and];exact h
def VS (H:Hp) (p:Nat->Prop):S->S->Prop
 |_,.junk=>True
 |.c x,.c (.t y)=>VC H p x y
 |.agg xs,.agg ys=>∃ts,ys=ts.map C.t∧VL H p xs ts
 |_,_=>False
def a1z {H:Hp} {p:Nat->Prop} {x:C} {y:T} (h:VC H p x y):VS H p (.c x) (.c (.t y)):=h
def bg3 {H:Hp} {p:Nat->Prop} {xs:List C} {ts:List T} (h:VL H p xs ts):VS H p (.agg xs) (.agg (ts.map C.t)):=⟨ts,rfl,h⟩
def VS.rs {H:Hp} {p:Nat->Prop} {w:World} {ι ι':Io} {M M':Ms} (hH:t4 w ι M H) (hM:∀b,M' b->M b) (hp:∀id k b cap size,p id->H[id]? =some k->¬k.mode.gone->ι id=some (.blk b cap size)->¬M' b)
 {x y:S} {v:Value} (h:VS H p x y) (hr:RS w ι M x v):RS w ι' M' y v:=by
 unfold VS at h;split at h
 ·exact .junk
 ·cases hr with
  |c hr=>exact .c (.t (VC.rt hH hM hp _ _ _ h hr))
 ·obtain ⟨ts,rfl,h⟩:=h;cases hr with
  |agg vs hl hr=>
   obtain ⟨h1,h2⟩:=VL.rt hH hM hp _ _ h;refine .agg vs zo fun j c hj=>?_
   rw [lba] at hj;cases hj':ts[j]? with
   |none=>rw [hj'] at hj;cases hj
   |some c'=>
    rw [hj'] at hj;injection hj with hj;subst hj;have hlt:=(lbe.1 hj').1;exact .t (h2 j _ c' _ (lbf om) hj' (hr j _ (lbf om)))
 ·exact h.elim
def a6Q (H:Hp) (p:Nat->Prop):List S->List S->Prop
 |[],[]=>True
 |x::r,y::r'=>VS H p x y∧a6Q H p r r'
 |_,_=>False
def a6Q.get {H:Hp} {p:Nat->Prop}:∀{xs ys:List S},a6Q H p xs ys->xs.length=ys.length∧∀(j:Nat) (y:S),ys[j]? =some y->∃x,xs[j]? =some x∧VS H p x y
 |[],[],_=>⟨rfl,zq⟩
 |x::r,y::r',h=>by
  obtain ⟨h1,h2⟩:=a6Q.get h.2;refine ⟨by simp [h1],fun j y' hj=>?_⟩;cases j with
  |zero=>simp at hj;subst hj;exact ⟨x,rfl,h.1⟩
  |succ j=>simpa using h2 j y' (by simpa using hj)
 |[],_::_,h=>h.elim
 |_::_,[],h=>h.elim
end
section
open Go.RowKit
def C.isT:C->Bool
 |.t _=>true
 |_=>false
def S.isT:S->Bool
 |.junk=>true
 |.c x=>x.isT
 |.agg cs=>cs.all C.isT
 |.tup ss=>ss.all fun s=>match s with
  |.c x=>x.isT
  |.agg cs=>cs.all C.isT
  |.junk=>true
  |.tup _=>false
def RC.tree {w:World} {ι ι':Io} {M:Ms} {x:C} {v:Value} (h:x.isT=true) (hr:RC w ι M x v):RC w ι' M x v:=by
 cases hr<;>first|exact .t ‹_›|cases h
def RS.tree1 {w:World} {ι ι':Io} {M:Ms} {s:S} {v:Value} (h:(match s with|.c x=>x.isT|.agg cs=>cs.all C.isT|.junk=>true|.tup _=>false)=true) (hr:RS w ι M s v):RS w ι' M s v:=by
 cases hr with
 |junk=>exact .junk
 |c hr=>exact .c (hr.tree h)
 |agg vs hl hr=>exact .agg vs hl fun j c hj=>(hr j c hj).tree (lbv.1 h c (lbm hj))
 |tup vs hl hr=>cases h
def RS.tree {w:World} {ι ι':Io} {M:Ms} {s:S} {v:Value} (h:s.isT=true) (hr:RS w ι M s v):RS w ι' M s v:=by
 cases hr with
 |junk=>exact .junk
 |c hr=>exact .c (hr.tree h)
 |agg vs hl hr=>exact .agg vs hl fun j c hj=>(hr j c hj).tree (lbv.1 h c (lbm hj))
 |tup vs hl hr=>exact .tup vs hl fun j s hj=>(hr j s hj).tree1 (lbv.1 h s (lbm hj))
theorem zA {p:Prop} (h:p:=by rintro ⟨id,k,_,_,hk,_⟩;simp at hk):p:=h
def L2 {P:Program} {g:FuncId} {args:List S} {H:Hp} {r:S} (h:d6 P g args [] r []) (ha:args.all S.isT=true) (hr:r.isT=true):X3 P g args H r []:=by
 refine ⟨h.1,fun w ι M vals hl hv hH hM hf=>?_⟩;have:=h.2 w (fun _=>none) M vals hl (fun j s hj=>(hv j s hj).tree (lbv.1 ha s (lbm hj)))
  ⟨zq,zq,zq,zq,zq⟩ hM (fun _ _=>rfl)
 refine Calls.mono this ?_;rintro e w' ⟨v,rfl,ι',M',h1,h2,h3,h4,h5⟩;refine ⟨v,rfl,L0.of_none ?_ ?_⟩
 ·refine RS.keep (ι:=ι) (M:=M') (fun _ _ _=>rfl) (fun b hb=>?_) (fun _ _ h=>h) (h1.tree hr);rcases h5.mold b hb with h|⟨id,k,_,_,hk,_⟩
  ·exact .inl h
  ·simp at hk
 ·exact ⟨h5.os,h5.tape,h5.output,h5.size,fun b hb=>h5.keep b hb zA⟩
def Awp.mono {P:Program} {n0:Nat} {c:Code} {env:Env} {H:Hp} {Q Q':AX->Env->Hp->Prop} (h:Awp P n0 c env H Q) (hq:∀a env H,Q a env H->Q' a env H):Awp P n0 c env H Q':=
 ⟨fun w0 ι0 M0 H0 a w hn hM hs=>wp_mono (h.out w0 ι0 M0 H0 a w hn hM hs) (by rintro e a' w' ⟨x,env',H',h1,h2,h3⟩;exact ⟨x,env',H',h1,hq _ _ _ h2,h3⟩)⟩
def a2O {x:Int} (h1:-9223372036854775808<=x) (h2:x<=9223372036854775807):J2 .i64 x x:=by
 unfold J2;exact (IntWalk.i64_in x ⟨h1,om⟩).symm
def L9:List (Option Nat)->Nat->Bool
 |[],_=>true
 |some m::r,n=>!(Nat.beq m n) && L9 r n
 |none::r,n=>L9 r n
def b9D (ρ:List (Option Nat)) (x y:C):Prop:=
 match y with
 |.t y=>match x with
  |.t x=>x=y
  |_=>False
 |.ptr id' r' o'=>match x with
  |.ptr id r o=>ρ[id']? =some (some id)∧r=r'∧o=o'
  |_=>False
 |_=>False
def aA7 (ρ:List (Option Nat)):List C->List C->Prop
 |[],[]=>True
 |x::r,y::r'=>b9D ρ x y∧aA7 ρ r r'
 |_,_=>False
def b6u (ρ:List (Option Nat)) (H:Hp) (x y:C):Prop:=
 match y with
 |.t y=>match x with
  |.t x=>a5C y x=y
  |x=>VC H (fun id=>L9 ρ id=true) x y
 |.own id' lo' len' app'=>match x with
  |.t (.sl _ .nil _)=>ρ[id']? =some none∧lo'=0∧len'=0
  |.t (.sl _ .full [])=>ρ[id']? =some none∧lo'=0∧len'=0
  |.own id lo len app=>ρ[id']? =some (some id)∧lo=lo'∧len=len'∧(app'=true->app=true)
  |_=>False
 |.ptr id' r' o'=>match x with
  |.ptr id r o=>ρ[id']? =some (some id)∧r=r'∧o=o'
  |_=>False
 |.fn f' caps'=>match x with
  |.fn f caps=>f=f'∧aA7 ρ caps caps'
  |_=>False
def a49 (ρ:List (Option Nat)) (H:Hp):List C->List C->Prop
 |[],[]=>True
 |x::r,y::r'=>b6u ρ H x y∧a49 ρ H r r'
 |_,_=>False
def a6E (ρ:List (Option Nat)) (H:Hp) (s:S) (s':S):Prop:=
 match s' with
 |.junk=>True
 |.c y=>match s with
  |.c x=>b6u ρ H x y
  |_=>False
 |.agg cs'=>match s with
  |.agg cs=>a49 ρ H cs cs'
  |_=>False
 |.tup _=>False
def X5 (ρ:List (Option Nat)) (H:Hp):Env->Env->Prop
 |[],[]=>True
 |s::r,s'::r'=>match s' with
  |.junk=>X5 ρ H r r'
  |s'=>a6E ρ H s s'∧X5 ρ H r r'
 |_,_=>False
def I5 (rows:List (List C)):Prop:=∀r ∈ rows,∀c ∈ r,c.isT=true
def a6B (ρ:List (Option Nat)) (H:Hp):List (List C)->List (List C)->Prop
 |[],[]=>True
 |x::r,y::r'=>a49 ρ H x y∧a6B ρ H r r'
 |_,_=>False
def a31 (k k':Blk):Bool:=match k.mode,k'.mode with
 |.live,.live=>cond k.app k'.app true
 |.live,.old=>k.app
 |.froz,.froz=>true
 |.old,.old=>true
 |.dead,.dead=>true
 |_,_=>false
def V5 {k k':Blk} (h:a31 k k'=true):(k'.mode≠.dead->k.mode≠.dead)∧(k'.mode=.live->k.mode=.live∧(k.app=true->k'.app=true))∧(k'.mode=.froz->k.mode=.froz)∧
 (k'.mode=.old->k.mode=.old∨(k.mode=.live∧k.app=true)):=by
 unfold a31 at h;cases h1:k.mode<;>cases h2:k'.mode<;>rw [h1,h2] at h<;>simp at h ⊢
 ·intro ha;rw [ha] at h;simpa using h
 ·exact h
def a2q (ρ:List (Option Nat)) (H:Hp) (k k':Blk):Prop:=
 a31 k k'=true∧k.elem=k'.elem∧k.size=k'.size∧((k.rows=k'.rows∧I5 k.rows)∨a6B ρ H k.rows k'.rows)
def a4n (ρ:List (Option Nat)) (H:Hp):List (Option Nat)->Hp->Prop
 |[],[]=>True
 |x::r,k'::r'=>(match x with
  |none=>k'.rows=[]∧k'.mode=.live
  |some id=>match H[id]? with
   |some k=>a2q ρ H k k'
   |none=>False)∧a4n ρ H r r'
 |_,_=>False
def a4X:Nat->List (Option Nat)->Hp->Bool
 |n,x::r,k::H=>(match x,k.mode with
  |_,.old=>false
  |some m,_=>Nat.beq m n
  |none,_=>false) || a4X n r H
 |_,_,_=>false
def U1:List (Option Nat)->Hp->Bool
 |none::r,_::H=>U1 r H
 |some n::r,k::H=>(match k.mode with
  |.old=>true
  |_=>!(a4X n r H)) && U1 r H
 |_,_=>true
def a2e (ρ:List (Option Nat)):Nat->Bool
 |0=>true
 |n+1=>(match ρ[n]? with|some (some m)=>Nat.beq m n|_=>false) && a2e ρ n
def Ent (n0:Nat) (ρ:List (Option Nat)) (env:Env) (H:Hp) (env':Env) (H':Hp):Prop:=
 a2e ρ n0=true∧U1 ρ H'=true∧a4n ρ H ρ H'∧X5 ρ H env env'
def S4 (ρ:List (Option Nat)) (ι:Io):Io:=fun id=>match ρ[id]? with
 |some (some j)=>ι j
 |some none=>some .nil
 |none=>none
def a8e (ρ:List (Option Nat)) (H:Hp) (ι:Io) (M:Ms):Ms:=fun b=>M b∧¬∃id k cap size,L9 ρ id=true∧H[id]? =some k∧¬k.mode.gone∧ι id=some (.blk b cap size)
def aB6:∀{ρ:List (Option Nat)} {i n:Nat},ρ[i]? =some (some n)->L9 ρ n=true->False
 |[],i,n,h,_=>by simp at h
 |x::r,i,n,h,hn=>by
  have hr:L9 r n=true:=by cases x<;>simp [L9] at hn<;>first|exact hn|exact hn.2
  cases i with
  |zero=>
   simp at h;subst h;simp [L9] at hn
  |succ i=>exact aB6 (by simpa using h) hr
def RC.sub {w:World} {ι:Io} {M M':Ms} (hM:∀b,M' b->M b) {x:C} {v:Value} (h:RC w ι M x v):RC w ι M' x v:=h.keep (fun _ _ _=>rfl) (fun b hb=>.inl (hM b hb)) (fun _ _ h=>h)
def b9D.rc {w:World} {ι:Io} {M:Ms} {ρ:List (Option Nat)} {H:Hp} {x y:C} {v:Value} (h:b9D ρ x y) (hr:RC w ι M x v):RC w (S4 ρ ι) (a8e ρ H ι M) y v:=by
 cases y with
 |t y=>
  cases x with
  |t x=>
   have h:x=y:=h;subst h;cases hr with
   |t hr=>exact .t (hr.keep (fun _ _ _=>rfl) fun b hb=>.inl hb.1)
  |_=>exact False.elim h
 |ptr id' r' o'=>
  cases x with
  |ptr id r o=>
   obtain ⟨h1,rfl,rfl⟩:=h;cases hr with
   |ptr hi=>exact .ptr (by unfold S4;rw [h1];exact hi)
  |_=>exact False.elim h
 |own _ _ _ _=>exact False.elim h
 |fn _ _=>exact False.elim h
def aA7.get {ρ:List (Option Nat)}:∀{xs ys:List C},aA7 ρ xs ys->xs.length=ys.length∧∀(j:Nat) (x y:C),xs[j]? =some x->ys[j]? =some y->b9D ρ x y
 |[],[],_=>⟨rfl,zq⟩
 |x::xs,y::ys,h=>by
  obtain ⟨h1,h2⟩:=aA7.get h.2;refine ⟨by simp [h1],fun j x' y' hx hy=>?_⟩;cases j with
  |zero=>simp at hx hy;subst hx hy;exact h.1
  |succ j=>exact h2 j x' y' (by simpa using hx) (by simpa using hy)
 |[],_::_,h=>h.elim
 |_::_,[],h=>h.elim
def b6u.rc {w:World} {ι:Io} {M:Ms} {ρ:List (Option Nat)} {H:Hp} (hH:t4 w ι M H) {x y:C} {v:Value} (h:b6u ρ H x y) (hr:RC w ι M x v):RC w (S4 ρ ι) (a8e ρ H ι M) y v:=by
 cases y with
 |t y=>
  have h:VC H (fun id=>L9 ρ id=true) x y:=by cases x<;>first|exact h|(simp only [VC];exact h)
  refine .t (VC.rt hH (fun b hb=>hb.1) ?_ x y v h hr);intro id k b cap size hp hk hd hi hb;exact hb.2 ⟨id,k,cap,size,hp,hk,hd,hi⟩
 |own id' lo' len' app'=>
  cases x with
  |t x=>
   cases x with
   |sl size k rows=>
    cases k with
    |nil=>
     obtain ⟨h1,rfl,rfl⟩:=h;cases hr with
     |t hr=>cases hr with
      |sl f hrow hcap hmax hk hn hA hc hr=>
       obtain ⟨rfl,rfl,rfl⟩:=hn rfl;exact .nil (by unfold S4;rw [h1])
    |full=>
     cases rows with
     |nil=>
      obtain ⟨h1,rfl,rfl⟩:=h;cases hr with
      |t hr=>cases hr with
       |sl f hrow hcap hmax hk hn hA hc hr=>
        obtain rfl:=hk rfl;exact .nil (by unfold S4;rw [h1])
     |cons _ _=>exact False.elim h
    |any=>exact False.elim h
    |nul=>exact False.elim h
    |non=>exact False.elim h
   |_=>exact False.elim h
  |own id lo len app=>
   obtain ⟨h1,rfl,rfl,happ⟩:=h;cases hr with
   |own hi q1 q2 q3 q4 q5=>exact .own (by unfold S4;rw [h1];exact hi) q1 q2 q3 q4 (fun h=>q5 (happ h))
   |nil hi=>exact .nil (by unfold S4;rw [h1];exact hi)
  |_=>exact False.elim h
 |ptr id' r' o'=>
  cases x with
  |ptr id r o=>
   obtain ⟨h1,rfl,rfl⟩:=h;cases hr with
   |ptr hi=>exact .ptr (by unfold S4;rw [h1];exact hi)
  |_=>exact False.elim h
 |fn f' caps'=>
  cases x with
  |fn f caps=>
   obtain ⟨rfl,h⟩:=h;obtain ⟨h1,h2⟩:=aA7.get h;cases hr with
   |fn vs hl hr=>
    refine .fn vs om fun j c hj=>?_
    have hlt:=(lbe.1 hj).1;exact (h2 j _ c (lbf om) hj).rc (hr j _ (lbf om))
  |_=>exact False.elim h
section
variable {w:World} {ι:Io} {M:Ms} {ρ:List (Option Nat)} {H:Hp} (hH:t4 w ι M H)
include hH
def a49.rc:∀{xs ys:List C},a49 ρ H xs ys->xs.length=ys.length∧∀(j:Nat) (x y:C) (v:Value),xs[j]? =some x->ys[j]? =some y->RC w ι M x v->RC w (S4 ρ ι) (a8e ρ H ι M) y v
 |[],[],_=>⟨rfl,zq⟩
 |x::xs,y::ys,h=>by
  obtain ⟨h1,h2⟩:=a49.rc h.2;refine ⟨by simp [h1],fun j x' y' v hx hy hr=>?_⟩;cases j with
  |zero=>simp at hx hy;subst hx hy;exact h.1.rc hH hr
  |succ j=>exact h2 j x' y' v (by simpa using hx) (by simpa using hy) hr
 |[],_::_,h=>h.elim
 |_::_,[],h=>h.elim
def a6E.rs {s s':S} {v:Value} (h:a6E ρ H s s') (hr:RS w ι M s v):RS w (S4 ρ ι) (a8e ρ H ι M) s' v:=by
 unfold a6E at h;split at h
 ·exact .junk
 ·split at h
  ·exact .c (b6u.rc hH h hr.inv_c)
  ·exact h.elim
 ·split at h
  ·cases hr with
   |agg vs hl hr=>
    obtain ⟨h1,h2⟩:=a49.rc hH h;refine .agg vs om fun j c hj=>?_
    have hlt:=(lbe.1 hj).1;exact h2 j _ c _ (lbf om) hj (hr j _ (lbf om))
  ·exact h.elim
 ·exact h.elim
omit hH in
def X5.rel:∀{env env':Env},X5 ρ H env env'->env.length=env'.length∧∀(t:Nat) (s':S),env'[t]? =some s'->∃s,env[t]? =some s∧a6E ρ H s s'
 |[],[],_=>⟨rfl,zq⟩
 |s::r,s'::r',h=>by
  have h':a6E ρ H s s'∧X5 ρ H r r':=by
   cases s' with
   |junk=>exact ⟨trivial,h⟩
   |_=>exact h
  obtain ⟨h1,h2⟩:=X5.rel h'.2;refine ⟨by simp [h1],fun t s'' ht=>?_⟩;cases t with
  |zero=>simp at ht;subst ht;exact ⟨s,rfl,h'.1⟩
  |succ t=>simpa using h2 t s'' (by simpa using ht)
 |[],_::_,h=>h.elim
 |_::_,[],h=>h.elim
def a6B.rc:∀{xs ys:List (List C)},a6B ρ H xs ys->xs.length=ys.length∧(∀ n,(∀ r ∈ xs,r.length=n)->∀r ∈ ys,r.length=n)∧
 ∀(i j:Nat) (y:C),at2 ys i j=some y->∃x,at2 xs i j=some x∧∀v,RC w ι M x v->RC w (S4 ρ ι) (a8e ρ H ι M) y v
 |[],[],_=>⟨rfl,zq,by simp [at2]⟩
 |x::xs,y::ys,h=>by
  obtain ⟨h1,h2,h3⟩:=a6B.rc h.2;obtain ⟨q1,q2⟩:=a49.rc hH h.1;refine ⟨by simp [h1],fun n hn r hr=>?_,fun i j y' hy=>?_⟩
  ·rcases lbz.1 hr with rfl|hr
   ·rw [← q1];exact hn x zq
   ·exact h2 n (fun r hr=>hn r (by simp [hr])) r hr
  ·obtain ⟨row,r1,r2⟩:=F8 hy;cases i with
   |zero=>
    simp at r1;subst r1;have hlt:=(lbe.1 r2).1;exact ⟨_,C3 rfl (lbf om),fun v hv=>q2 j _ _ v (lbf om) r2 hv⟩
   |succ i=>
    obtain ⟨x',s1,s2⟩:=h3 i j y' (C3 (by simpa using r1) r2);obtain ⟨row',t1,t2⟩:=F8 s1;exact ⟨x',C3 (by simpa using t1) t2,s2⟩
 |[],_::_,h=>h.elim
 |_::_,[],h=>h.elim
end
def a4n.get {ρ:List (Option Nat)} {H:Hp}:∀{r:List (Option Nat)} {H':Hp},a4n ρ H r H'->r.length=H'.length∧∀(id:Nat) (k':Blk),H'[id]? =some k'->
 (r[id]? =some none∧k'.rows=[]∧k'.mode=.live)∨∃j k,r[id]? =some (some j)∧H[j]? =some k∧a2q ρ H k k'
 |[],[],_=>⟨rfl,zq⟩
 |x::r,k::H',h=>by
  obtain ⟨h1,h2⟩:=a4n.get h.2;refine ⟨by simp [h1],fun id k' hk=>?_⟩;cases id with
  |zero=>
   simp at hk;subst hk;have hx:=h.1;cases x with
   |none=>exact .inl ⟨rfl,hx⟩
   |some j=>
    refine .inr ⟨j,?_⟩;simp only at hx;split at hx
    ·rename_i k0 hk0;exact ⟨k0,rfl,hk0,hx⟩
    ·exact hx.elim
  |succ id=>simpa using h2 id k' (by simpa using hk)
 |[],_::_,h=>h.elim
 |_::_,[],h=>h.elim
def aC5:∀{r:List (Option Nat)} {H:Hp} {n j:Nat} {k:Blk},a4X n r H=false->r[j]? =some (some n)->H[j]? =some k->k.mode=.old
 |[],_,n,j,k,_,h,_=>by simp at h
 |x::r,[],n,j,k,_,_,h=>by simp at h
 |x::r,k0::H,n,0,k,hs,h,hk=>by
  simp at h hk;subst h hk;simp only [a4X,a4W] at hs;cases hm:k0.mode with
  |old=>rfl
  |_=>rw [hm] at hs;simp at hs
 |x::r,k0::H,n,j+1,k,hs,h,hk=>by
  simp only [a4X,a4W] at hs;exact aC5 hs.2 (by simpa using h) (by simpa using hk)
def ay8:∀{l:List (Option Nat)} {H:Hp},U1 l H=true->∀(i j n:Nat) (k k':Blk),l[i]? =some (some n)->l[j]? =some (some n)->H[i]? =some k->H[j]? =some k'->k.mode≠.old->k'.mode≠.old->i=j
 |[],_,_,i,j,n,k,k',h,_,_,_,_,_=>by simp at h
 |x::r,[],_,i,j,n,k,k',_,_,h,_,_,_=>by simp at h
 |x::r,k0::H,hn,i,j,n,k,k',hi,hj,hk,hk',ho,ho'=>by
  have hr:U1 r H=true:=by
   cases x with
   |none=>exact hn
   |some m=>simp only [U1,lbM] at hn;exact hn.2
  have hx:∀(q:Nat) (kq:Blk),x=some n->k0.mode≠.old->r[q]? =some (some n)->H[q]? =some kq->kq.mode=.old:=fun q kq hxn h0 hq hkq=>by
   subst hxn;simp only [U1,lbM] at hn;have h1:=hn.1;have:a4X n r H=false:=by
    cases hm:k0.mode with
    |old=>exact absurd hm h0
    |_=>simpa using h1
   exact aC5 this hq hkq
  cases i with
  |zero=>cases j with
   |zero=>rfl
   |succ j=>
    simp at hi hj hk hk';subst hk;exact absurd (hx j k' hi ho hj hk') ho'
  |succ i=>cases j with
   |zero=>
    simp at hi hj hk hk';subst hk';exact absurd (hx i k hj ho' hi hk) ho
   |succ j=>
    simp at hi hj hk hk';rw [ay8 hr i j n k k' hi hj hk hk' ho ho']
def a8K {ρ:List (Option Nat)}:∀{n:Nat},a2e ρ n=true->∀i,i<n->ρ[i]? =some (some i)
 |0,_,i,h=>om
 |n+1,hk,i,h=>by
  simp only [a2e,lbM] at hk;by_cases hi:i=n
  ·subst hi;have:=hk.1;split at this
   ·rename_i m hm;rw [hm,a0J this]
   ·cases this
  ·exact a8K hk.2 i om
def ar3 {w:World} {ι ι':Io} {M M':Ms} (hM:∀b,M' b->M b) {rows:List (List C)} (h:I5 rows) {i j:Nat} {c:C} (hc:at2 rows i j=some c) {u:Value} (hr:RC w ι M c u):RC w ι' M' c u:=by
 obtain ⟨row,h1,h2⟩:=F8 hc;exact (hr.tree (h row (lbm h1) c (lbm h2))).sub hM
def a4n.all {n0:Nat} {ρ:List (Option Nat)} {H H':Hp} (h1:a2e ρ n0=true) (h2:U1 ρ H'=true) (h3:a4n ρ H ρ H') {w0:World} {ι0:Io} {M0:Ms} {H0:Hp} {w:World} {ι:Io} {M:Ms} (hn:H0.length=n0) (hM0:MB w0 M0)
 (hH:t4 w ι M H) (hst:a50 w0 ι0 M0 H0 w ι M H):t4 w (S4 ρ ι) (a8e ρ H ι M) H'∧a2M (S4 ρ ι) H'.length∧a50 w0 ι0 M0 H0 w (S4 ρ ι) (a8e ρ H ι M) H':=by
 obtain ⟨hl,hg0⟩:=a4n.get h3;have hg:∀(id:Nat) (k':Blk),H'[id]? =some k'->(ρ[id]? =some none∧k'.rows=[]∧k'.mode=.live)∨∃j k,ρ[id]? =some (some j)∧H[j]? =some k∧a31 k k'=true∧k.elem=k'.elem∧k.size=k'.size∧
  ((k.rows=k'.rows∧I5 k.rows)∨a6B ρ H k.rows k'.rows):=fun id k' hk=>by
  rcases hg0 id k' hk with h|⟨j,k,q1,q2,q3,q4,q5,q6⟩
  ·exact .inl h
  ·exact .inr ⟨j,k,q1,q2,q3,q4,q5,q6⟩
 have hlen:∀{k k':Blk},((k.rows=k'.rows∧I5 k.rows)∨a6B ρ H k.rows k'.rows)->k.rows.length=k'.rows.length:=fun h=>by
  rcases h with h|h
  ·rw [h.1]
  ·exact (a6B.rc hH h).1
 have hsub:∀b,a8e ρ H ι M b->M b:=fun b hb=>hb.1
 have hren:∀id j,ρ[id]? =some (some j)->S4 ρ ι id=ι j:=fun id j hj=>by unfold S4;rw [hj]
 have hnil:∀id,ρ[id]? =some none->S4 ρ ι id=some .nil:=fun id hj=>by unfold S4;rw [hj]
 have hle:H0.length<=H'.length:=by
  rw [← hl,hn];rcases F6 ρ.length n0 with hlt|hge
  ·have:=a8K h1 ρ.length hlt;simp at this
  ·exact hge
 refine ⟨⟨?_,?_,?_,?_,?_⟩,?_,⟨hst.os,hst.tape,hst.output,hst.size,hst.keep,?_,fun b hb=>hst.mnew b hb.1,?_,?_,hle⟩⟩
 ·intro id k' hk hd l hll;rcases hg id k' hk with ⟨q1,q2,q3⟩|⟨j,k,q1,q2,q3,q4,q5,q6⟩
  ·rw [hnil id q1] at hll;injection hll with hll;subst hll;exact q2
  ·rw [hren id j q1] at hll;have hb:=hH.blk j k q2 ((V5 q3).1 hd) l hll;cases l with
   |nil=>
    have hb':k.rows=[]:=hb;show k'.rows=[];rcases q6 with ⟨q6,_⟩|q6
    ·rw [← q6,hb']
    ·rw [hb'] at q6;cases hr:k'.rows with
     |nil=>rfl
     |cons y ys=>rw [hr] at q6;exact q6.elim
   |blk b cap size=>
    obtain ⟨r1,r2,r3,r4,r5,cur,r6,r7,r8⟩:=hb;rcases q6 with ⟨q6,q7⟩|q6
    ·refine ⟨by rw [← q5];exact r1,r2,by rw [← q6];exact r3,r4,by rw [← q6];exact r5,cur,by rw [← q4];exact r6,r7,fun i j c hc=>?_⟩;rw [← q6] at hc;obtain ⟨u,s1,s2⟩:=r8 i j c hc;exact ⟨u,s1,ar3 hsub q7 hc s2⟩
    ·obtain ⟨t1,t2,t3⟩:=a6B.rc hH q6;refine ⟨by rw [← q5];exact r1,r2,by rw [← t1];exact r3,r4,t2 size r5,cur,by rw [← q4];exact r6,r7,fun i j c hc=>?_⟩;obtain ⟨x,u1,u2⟩:=t3 i j c hc;obtain ⟨u,s1,s2⟩:=r8 i j x u1;exact ⟨u,s1,u2 u s2⟩
 ·intro id k' hk hm b cap size hi;rcases hg id k' hk with ⟨q1,q2,q3⟩|⟨j,k,q1,q2,q3,q4,q5,q6⟩
  ·rw [hnil id q1] at hi;cases hi
  ·rw [hren id j q1] at hi;have hkl:k.mode=.live:=((V5 q3).2.1 hm).1;have hMb:=hH.liv j k q2 hkl b cap size hi;refine ⟨hMb,?_⟩;rintro ⟨id2,k2,cap2,size2,n1,n2,n3,n4⟩;cases hm2:k2.mode with
   |live=>
    have:=hH.inj j id2 k k2 q2 n2 hkl hm2 _ _ _ _ _ hi n4;subst this;exact aB6 q1 n1
   |froz=>exact hH.fro id2 k2 n2 hm2 _ _ _ n4 hMb
   |old=>exact n3 (by rw [hm2];trivial)
   |dead=>exact n3 (by rw [hm2];trivial)
 ·intro id k' hk hm b cap size hi;rcases hg id k' hk with ⟨q1,q2,q3⟩|⟨j,k,q1,q2,q3,q4,q5,q6⟩
  ·rw [hnil id q1] at hi;cases hi
  ·rw [hren id j q1] at hi;exact fun hb=>hH.fro j k q2 ((V5 q3).2.2.1 hm) b cap size hi hb.1
 ·intro id id' k k' hk hk' hm hm' b cap size cap' size' hi hi';rcases hg id k hk with ⟨q1,q2,q3⟩|⟨j,k1,q1,q2,q3,q4,q5,q6⟩
  ·rw [hnil id q1] at hi;cases hi
  ·rcases hg id' k' hk' with ⟨q1',q2',q3'⟩|⟨j',k1',q1',q2',q3',q4',q5',q6'⟩
   ·rw [hnil id' q1'] at hi';cases hi'
   ·rw [hren id j q1] at hi;rw [hren id' j' q1'] at hi';have:=hH.inj j j' k1 k1' q2 q2' ((V5 q3).2.1 hm).1 ((V5 q3').2.1 hm').1 _ _ _ _ _ hi hi';subst this;exact ay8 h2 id id' j k k' q1 q1' hk hk' (by rw [hm];intro h;cases h) (by rw [hm'];intro h;cases h)
 ·intro id id' k k' hk hk' hm hm' b cap size cap' size' hi hi';rcases hg id k hk with ⟨q1,q2,q3⟩|⟨j,k1,q1,q2,q3,q4,q5,q6⟩
  ·rw [hnil id q1] at hi;cases hi
  ·rcases hg0 id' k' hk' with ⟨q1',q2',q3'⟩|⟨j',k1',q1',q2',q3',q4',q5',q6'⟩
   ·rw [hnil id' q1'] at hi';cases hi'
   ·rw [hren id j q1] at hi;rw [hren id' j' q1'] at hi';obtain ⟨hl1,s2⟩:=(V5 q3').2.1 hm';rcases (V5 q3).2.2.2 hm with ho|⟨ho,ha⟩
    ·obtain ⟨t1,t2,t3⟩:=hH.old j j' k1 k1' q2 q2' ho hl1 _ _ _ _ _ hi hi';exact ⟨s2 t1,t2,by rw [← hlen q6,←hlen q6'];exact t3⟩
    ·have hjj:=hH.inj j j' k1 k1' q2 q2' ho hl1 _ _ _ _ _ hi hi';subst hjj;rw [q2] at q2';injection q2' with q2';subst q2';rw [hi] at hi';injection hi' with hi';injection hi' with _ _ hi';exact ⟨s2 ha,hi',by rw [← hlen q6,←hlen q6'];exact lbQ _⟩
 ·intro id hid;unfold S4;rw [lbd om]
 ·intro id hid;rw [hren id id (a8K h1 id om)];exact hst.same id hid
 ·intro b hb;rcases hst.mold b hb with h|h
  ·by_cases hx:∃id k cap size,L9 ρ id=true∧H[id]? =some k∧¬k.mode.gone∧ι id=some (.blk b cap size)
   ·obtain ⟨id,k,cap,size,n1,n2,n3,n4⟩:=hx;refine .inr ?_;have hlive:k.mode=.live:=by
     cases hm:k.mode with
     |live=>rfl
     |froz=>exact absurd h (hH.fro id k n2 hm _ _ _ n4)
     |old=>exact absurd (by rw [hm];trivial) n3
     |dead=>exact absurd (by rw [hm];trivial) n3
    rcases hst.live b ⟨id,k,cap,size,n2,hlive,n4⟩ with h'|h'
    ·exact h'
    ·have:=hM0 b hb;omega
   ·exact .inl ⟨h,hx⟩
  ·exact .inr h
 ·rintro b ⟨id,k',cap,size,hk,hm,hi⟩;rcases hg id k' hk with ⟨q1,q2,q3⟩|⟨j,k,q1,q2,q3,q4,q5,q6⟩
  ·rw [hnil id q1] at hi;cases hi
  ·rw [hren id j q1] at hi;exact hst.live b ⟨j,k,cap,size,q2,((V5 q3).2.1 hm).1,hi⟩
def Ent.sim {n0:Nat} {ρ:List (Option Nat)} {env env':Env} {H H':Hp} (h:Ent n0 ρ env H env' H') {w0:World} {ι0:Io} {M0:Ms} {H0:Hp} {a:Act} {w:World} (hn:H0.length=n0) (hM0:MB w0 M0)
 (hs:Sim w0 ι0 M0 H0 a w env H):Sim w0 ι0 M0 H0 a w env' H':=by
 obtain ⟨h1,h2,h3,h4⟩:=h;obtain ⟨ι,M,hd,hsz,he,hH,hM,hF,hst⟩:=hs;obtain ⟨hel,heg⟩:=X5.rel h4;obtain ⟨q1,q2,q3⟩:=a4n.all h1 h2 h3 hn hM0 hH hst;refine ⟨S4 ρ ι,_,hd,om,fun t s' ht=>?_,q1,fun b hb=>hM b hb.1,q2,q3⟩;obtain ⟨s,q1,q2⟩:=heg t s' ht;exact q2.rs hH (he t s q1)
def a95 (ρ:List (Option Nat)) (H:Hp) (s s':S):Prop:=
 match s' with
 |.tup ss'=>match s with
  |.tup ss=>X5 ρ H ss ss'
  |_=>False
 |s'=>a6E ρ H s s'
structure Fin (n0:Nat) (r:S) (H1:Hp) (s:S) (H':Hp):Prop where
 out:∃ρ,a2e ρ n0=true∧U1 ρ H'=true∧a4n ρ H1 ρ H'∧a95 ρ H1 r s
def a95.rs {w:World} {ι:Io} {M:Ms} {ρ:List (Option Nat)} {H:Hp} (hH:t4 w ι M H) {s s':S} {v:Value} (h:a95 ρ H s s') (hr:RS w ι M s v):RS w (S4 ρ ι) (a8e ρ H ι M) s' v:=by
 cases s' with
 |tup ss'=>
  cases s with
  |tup ss=>
   cases hr with
   |tup vs hl hr=>
    obtain ⟨h1,h2⟩:=X5.rel h;refine .tup vs om fun j s hj=>?_
    obtain ⟨s0,q1,q2⟩:=h2 j s hj;exact q2.rs hH (hr j s0 q1)
  |_=>exact False.elim h
 |_=>exact a6E.rs hH h hr
def m9 {r s:S} {H1:Hp} (h:a95 [] H1 r s):Fin 0 r H1 s []:=⟨[],rfl,rfl,trivial,h⟩
def b5Z {P : Program} {τ : Tab} (hτ : D2 P τ) {f : FuncId} {fn : Func} {c : Code} {args : List S} {H : Hp} {s : S} {H' : Hp} (hf : P.funcs[f]? = some fn) (hb : fn.body = some c) (hn : fn.name ≠ "runtime.NumGoroutine")
    (h:a4U P τ H.length c (args++List.replicate (fn.ntmps - args.length) .junk) H fun x env' H1=>match x with
      |.exit _=>False
      |_=>a8j τ fn env' H1 fun r=>Fin H.length r H1 s H'):d6 P f args H s H':=by
  refine ⟨⟨fn,hf,by rw [hb];rfl,hn⟩,fun w ι M vals hl hr hH hM hF=>?_⟩;refine calls_of_wp hf hb ?_;have hi:=Sim.init hl hr hH hM hF (fn.ntmps - args.length);have:=(p5 hτ c h).out w ι M H _ w rfl hM hi;have e:vals.toArray.size=args.length:=by simpa using hl
  rw [e];refine wp_mono this ?_;rintro e a' w' ⟨x,env',H1,rfl,hq,ι',M',hd,hsz,he,hH',hM',hF',hst⟩;have key:(a8j τ fn env' H1 fun r=>Fin H.length r H1 s H')->a'.defers=[]∧∃v,(results fn a'.tmps).run P w'=.ok v w'∧∃v',Ending.returned v=.returned v'∧H4 w ι M H s H' v' w':=by
   intro hq;refine ⟨hd,?_⟩;obtain ⟨l,hk,vs,h1,h2,h3⟩:=a7E hτ he hH' fn.results.toList hq;have hrun:∃v,(results fn a'.tmps).run P w'=.ok v w'∧v=(if h:vs.length=1 then vs[0] else .tuple vs.toArray):=by
    refine ⟨_,?_,rfl⟩;unfold results;rw [Array.mapM_eq_mapM_toList,Sem.run_bind,Sem.run_map];refine (congrArg (fun r=>Result.andThen (Result.andThen r _) _) h1).trans ?_;simp
   obtain ⟨v,hv1,rfl⟩:=hrun;refine ⟨_,hv1,_,rfl,?_⟩;have hsr:∃r,RS w' ι' M' r (if h:vs.length=1 then vs[0] else .tuple vs.toArray)∧Fin H.length r H1 s H':=by
    match l,hk,h2,h3 with
    |[s1],hk,h2,h3=>
     refine ⟨s1,?_,hk⟩;rw [dif_pos (by simpa using h2)];have:=h3 0 s1 rfl;rw [lbl,lbf (by simp at h2;omega)] at this;exact this
    |[],hk,h2,h3=>
     refine ⟨_,?_,hk⟩;rw [dif_neg (by simp at h2;simp [h2])];exact .tup vs h2 h3
    |s1::s2::r,hk,h2,h3=>
     refine ⟨_,?_,hk⟩;rw [dif_neg (by simp at h2;omega)];exact .tup vs h2 h3
   obtain ⟨r,h4,ρ,f1,f2,f3,f4⟩:=hsr;obtain ⟨g1,g2,g3⟩:=a4n.all f1 f2 f3 rfl hM hH' hst;exact ⟨S4 ρ ι',_,f4.rs hH' h4,g1,fun b hb=>hM' b hb.1,g2,g3⟩
  cases x with
  |normal=>exact key hq
  |ret=>exact key hq
  |exit id=>exact hq.elim
def a1E (p:Nat->Prop) (h:∃n,p n):∃n,p n∧∀m,p m->n<=m:=by
 obtain ⟨n,hn⟩:=h;induction n using Nat.strongRecOn with
 |_ n ih=>
  by_cases hex:∃m,m<n∧p m
  ·obtain ⟨m,hm,hp⟩:=hex;exact ih m hm hp
  ·exact ⟨n,hn,fun m hm=>aL7 fun hlt=>hex ⟨m,hlt,hm⟩⟩
def a8B {P:Program} {n0:Nat} {c:Code} {env:Env} {H:Hp} {Q:AX->Env->Hp->Prop} {σ:Type} (E:σ->Env × Hp) (μ:σ->Nat) (x0:σ) (ρ0:List (Option Nat))
 (h0:Ent n0 ρ0 env H (E x0).1 (E x0).2)
 (round:∀x,Awp P n0 c (E x).1 (E x).2 fun a env' H'=>match a with
   |.normal=>∃ρ x',Ent n0 ρ env' H' (E x').1 (E x').2∧μ x'<μ x
   |a=>Q a env' H'):Awp P n0 (.loop c) env H Q:=by
 refine ⟨fun w0 ι0 M0 H0 a w hn hM hs=>?_⟩;have hs0:=h0.sim hn hM hs
 let I:Act->World->Prop:=fun a w=>∃x,Sim w0 ι0 M0 H0 a w (E x).1 (E x).2
 let J:Act->World->Nat->Prop:=fun a w n=>∃x,μ x=n∧Sim w0 ι0 M0 H0 a w (E x).1 (E x).2
 have hJ:∀a w,I a w->∃n,J a w n:=fun a w ⟨x,hx⟩=>⟨μ x,x,rfl,hx⟩
 classical
 let m:Act->World->Nat:=fun a w=>if h:∃n,J a w n then Classical.choose (a1E _ h) else 0
 have hmin:∀a w x,Sim w0 ι0 M0 H0 a w (E x).1 (E x).2->m a w<=μ x:=fun a w x hx=>by
  have h:∃n,J a w n:=⟨μ x,x,rfl,hx⟩;show (if h:∃n,J a w n then Classical.choose (a1E _ h) else 0)<=μ x;rw [dif_pos h];exact (a2d (a1E _ h)).2 _ ⟨x,rfl,hx⟩
 refine wp_loop I m ⟨x0,hs0⟩ fun a w hI=>?_
 have hex:=hJ a w hI;have hm:m a w=Classical.choose (a1E _ hex):=by
  show (if h:∃n,J a w n then Classical.choose (a1E _ h) else 0)=_;rw [dif_pos hex]
 obtain ⟨x,hx1,hx2⟩:=(a2d (a1E _ hex)).1;have hr:=(round x).out w0 ι0 M0 H0 a w hn hM hx2;refine wp_mono hr ?_;rintro e a' w' ⟨ax,env',H',rfl,hq,hs'⟩;cases ax with
 |normal=>
  obtain ⟨ρ,x',h1,h2⟩:=hq;have hs2:=h1.sim hn hM hs';refine ⟨⟨x',hs2⟩,?_⟩;have:=hmin a' w' x' hs2;omega
 |exit id=>exact ⟨_,env',H',rfl,hq,hs'⟩
 |ret=>exact ⟨_,env',H',rfl,hq,hs'⟩
def j3 {P:Program} {τ:Tab} (hτ:D2 P τ) {n0:Nat} {c:Code} {env:Env} {H:Hp} {Q:AX->Env->Hp->Prop} (E:Nat->Env × Hp) (n:Nat) (I:Nat->Prop) (ρ0:List (Option Nat))
 (hI:I 0) (h0:Ent n0 ρ0 env H (E 0).1 (E 0).2)
 (round:∀k,k<=n->I k->a4U P τ n0 c (E k).1 (E k).2 fun a env' H'=>match a with
   |.normal=>k<n∧I (k+1)∧∃ρ,Ent n0 ρ env' H' (E (k+1)).1 (E (k+1)).2
   |a=>Q a env' H'):Awp P n0 (.loop c) env H Q:=by
 refine a8B (σ:={ k:Nat // k<=n∧I k }) (fun k=>E k.1) (fun k=>n - k.1) ⟨0,H8 _,hI⟩ ρ0 h0 ?_;rintro ⟨k,hk,hi⟩;refine (p5 hτ c (round k hk hi)).mono ?_;intro a env' H' h;cases a with
 |normal=>
  obtain ⟨h1,h2,ρ,h3⟩:=h;exact ⟨ρ,⟨k+1,h1,h2⟩,h3,by show n - (k+1)<n - k;omega⟩
 |exit id=>exact h
 |ret=>exact h
def U4 {n m:Int} {K:Prop} (h0:0<=n) (h1:n<m) (k:K):(0<=n∧n<m)∧K:=⟨⟨h0,h1⟩,k⟩
def i6 {α:Type} {xs:List α} {f:α->List T} {k:Nat} {x:α} {K:List T->Prop} (hx:xs[k]? =some x) (h:K (f x)):∃row,0<=(k:Int)∧(xs.map f)[(k:Int).toNat]? =some row∧K row:=
 ⟨f x,om,by simp [hx],h⟩
def G7 {α:Type} {xs:List α} {f:α->List T} {n:Int} {x:α} {K:List T->Prop} (h0:0<=n) (hx:xs[n.toNat]? =some x) (h:K (f x)):∃row,0<=n∧(xs.map f)[n.toNat]? =some row∧K row:=
 ⟨f x,h0,by simp [hx],h⟩
end
section
open Go.RowKit
def T.flat:T->Bool
 |.atm _=>true
 |_=>false
def C.flat:C->Bool
 |.t x=>x.flat
 |_=>false
def S.flat:S->Bool
 |.junk=>true
 |.c x=>x.flat
 |.agg cs=>cs.all C.flat
 |.tup ss=>ss.all fun s=>match s with
  |.c x=>x.flat
  |.agg cs=>cs.all C.flat
  |.junk=>true
  |.tup _=>false
def RC.flat {w:World} {ι ι':Io} {M M':Ms} {x:C} {v:Value} (h:x.flat=true) (hr:RC w ι M x v):RC w ι' M' x v:=by
 cases hr with
 |t hr=>cases hr with
  |atm hv=>exact .t (.atm hv)
  |_=>cases h
 |_=>cases h
def RS.flat1 {w:World} {ι ι':Io} {M M':Ms} {s:S} {v:Value} (h:(match s with|.c x=>x.flat|.agg cs=>cs.all C.flat|.junk=>true|.tup _=>false)=true) (hr:RS w ι M s v):RS w ι' M' s v:=by
 cases hr with
 |junk=>exact .junk
 |c hr=>exact .c (hr.flat h)
 |agg vs hl hr=>exact .agg vs hl fun j c hj=>(hr j c hj).flat (lbv.1 h c (lbm hj))
 |tup vs hl hr=>cases h
def RS.flat {w:World} {ι ι':Io} {M M':Ms} {s:S} {v:Value} (h:s.flat=true) (hr:RS w ι M s v):RS w ι' M' s v:=by
 cases hr with
 |junk=>exact .junk
 |c hr=>exact .c (hr.flat h)
 |agg vs hl hr=>exact .agg vs hl fun j c hj=>(hr j c hj).flat (lbv.1 h c (lbm hj))
 |tup vs hl hr=>exact .tup vs hl fun j s hj=>(hr j s hj).flat1 (lbv.1 h s (lbm hj))
def t4.none {w:World} {M:Ms}:t4 w (fun _=>Option.none) M []:=⟨zq,zq,zq,zq,zq⟩
def a2p {P:Program} {g:FuncId} {args args':List S} {H:Hp} {r:S} (h:d6 P g args' [] r []) (ha:a6Q H (fun _=>False) args args') (hr:r.isT=true):X3 P g args H r []:=by
 refine ⟨h.1,fun w ι M vals hl hv hH hM hf=>?_⟩;obtain ⟨hlen,hget⟩:=a6Q.get ha;have:=h.2 w (fun _=>none) M vals om (fun j s hj=>by
  obtain ⟨x,hx,hs⟩:=hget j s hj;exact hs.rs hH (fun _ h=>h) (fun _ _ _ _ _ h _ _ _ _=>h.elim) (hv j x hx))
  .none hM (fun _ _=>rfl)
 refine Calls.mono this ?_;rintro e w' ⟨v,rfl,ι',M',h1,h2,h3,h4,h5⟩;refine ⟨v,rfl,L0.of_none ?_ ?_⟩
 ·refine RS.keep (ι:=ι) (M:=M') (fun _ _ _=>rfl) (fun b hb=>?_) (fun _ _ h=>h) (h1.tree hr);rcases h5.mold b hb with h|⟨id,k,_,_,hk,_⟩
  ·exact .inl h
  ·simp at hk
 ·exact ⟨h5.os,h5.tape,h5.output,h5.size,fun b hb=>h5.keep b hb zA⟩
def aJ5 (fr:List Nat) (n:Nat) (k:Blk):Blk:=match fr.any (Nat.beq n),k.mode with
 |true,.live=>{ k with mode:=.froz }
 |_,_=>k
def a2A (fr:List Nat):Nat->Hp->Hp
 |_,[]=>[]
 |n,k::r=>aJ5 fr n k::a2A fr (n+1) r
abbrev b7y (fr:List Nat) (H:Hp):Hp:=a2A fr 0 H
def a9K (fr:List Nat):∀(H:Hp) (n i:Nat),(a2A fr n H)[i]? =(H[i]?).map (aJ5 fr (n+i))
 |[],n,i=>by simp [a2A]
 |k::r,n,0=>by simp [a2A]
 |k::r,n,i+1=>by simp [a2A,a9K fr r (n+1) i,show n+1+i=n+(i+1) by omega]
def a1R (fr:List Nat):∀(H:Hp) (n:Nat),(a2A fr n H).length=H.length
 |[],n=>rfl
 |k::r,n=>by simp [a2A,a1R fr r (n+1)]
def W1 {fr:List Nat} {H:Hp} {id:Nat} {k':Blk} (h:(b7y fr H)[id]? =some k'):∃k,H[id]? =some k∧k'.elem=k.elem∧k'.size=k.size∧k'.rows=k.rows∧
 ((k'=k∧(id ∉ fr∨k.mode≠.live))∨(id ∈ fr∧k.mode=.live∧k'.mode=.froz)):=by
 rw [a9K,P9] at h;cases hk:H[id]? with
 |none=>rw [hk] at h;cases h
 |some k=>
  rw [hk] at h;injection h with h;refine ⟨k,rfl,?_⟩;subst h;unfold aJ5;split
  ·rename_i h1 h2;obtain ⟨x,hx,hb⟩:=List.any_eq_true.1 h1;have:=a0J hb;subst this;exact ⟨rfl,rfl,rfl,.inr ⟨hx,h2,rfl⟩⟩
  ·rename_i h1;refine ⟨rfl,rfl,rfl,.inl ⟨rfl,?_⟩⟩;by_cases hm:k.mode=.live
   ·refine .inl fun hi=>h1 ?_ hm
    exact List.any_eq_true.2 ⟨id,hi,zq⟩
   ·exact .inr hm
def y4 {P:Program} {g:FuncId} {args args':List S} {H:Hp} {r:S} (fr:List Nat) (h:d6 P g args' [] r []) (ha:a6Q H (· ∈ fr) args args') (hr:r.isT=true):d6 P g args H r (b7y fr H):=by
 refine ⟨h.1,fun w ι M vals hl hv hH hM hf=>?_⟩;obtain ⟨hlen,hget⟩:=a6Q.get ha
 let M0:Ms:=fun b=>M b∧¬∃id k cap size,id ∈ fr∧H[id]? =some k∧k.mode=.live∧ι id=some (.blk b cap size)
 have hM0:∀b,M0 b->M b:=fun b hb=>hb.1
 have:=h.2 w (fun _=>none) M0 vals om (fun j s hj=>by
  obtain ⟨x,hx,hs⟩:=hget j s hj;refine hs.rs hH hM0 ?_ (hv j x hx);intro id k b cap size hp hk hd hi hb;cases hm:k.mode with
  |live=>exact hb.2 ⟨id,k,cap,size,hp,hk,hm,hi⟩
  |froz=>exact hH.fro id k hk hm b cap size hi hb.1
  |old=>exact hd (by rw [hm];trivial)
  |dead=>exact hd (by rw [hm];trivial))
  .none (fun b hb=>hM b hb.1) (fun _ _=>rfl)
 refine Calls.mono this ?_;rintro e w' ⟨v,rfl,ι',M',h1,h2,h3,h4,h5⟩;have hkeep:∀b,b<w.heap.size->w'.heap[b]? =w.heap[b]?:=fun b hb=>h5.keep b hb zA
 have hold:∀b,M0 b->M' b:=fun b hb=>by
  rcases h5.mold b hb with h|⟨id,k,_,_,hk,_⟩
  ·exact h
  ·simp at hk
 refine ⟨v,rfl,ι,M',?_,⟨?_,?_,?_,?_,?_⟩,h3,?_,?_⟩
 ·exact h1.tree hr
 ·intro id k' hk' hd l hll;obtain ⟨k,hk,e1,e2,e3,hc⟩:=W1 hk';have hd':k.mode≠.dead:=by
   rcases hc with ⟨rfl,_⟩|⟨_,h,_⟩
   ·exact hd
   ·rw [h];intro h;cases h
  have hb:=hH.blk id k hk hd' l hll;cases l with
  |nil=>show k'.rows=[];rw [e3];exact hb
  |blk b cap size=>
   obtain ⟨q1,q2,q3,q4,q5,cur,q6,q7,q8⟩:=hb;refine ⟨by rw [e2];exact q1,q2,by rw [e3];exact q3,q4,by rw [e3];exact q5,cur,by rw [e1];exact (hkeep b (G9 q6)).trans q6,q7,fun i j c hc=>?_⟩;rw [e3] at hc;obtain ⟨u,hu,hr⟩:=q8 i j c hc;refine ⟨u,hu,hr.keep (fun b hb _=>hkeep b hb) (fun b hb=>?_) (fun _ _ h=>h)⟩;rcases h5.mnew b hb with h|h
   ·exact .inl h.1
   ·exact .inr h
 ·intro id k' hk' hl' b cap size hi;obtain ⟨k,hk,e1,e2,e3,hc⟩:=W1 hk';rcases hc with ⟨rfl,hc⟩|⟨_,_,h⟩
  ·refine hold b ⟨hH.liv id k' hk hl' b cap size hi,?_⟩;rintro ⟨id2,k2,cap2,size2,n1,n2,n3,n4⟩;have:=hH.inj id id2 k' k2 hk n2 hl' n3 _ _ _ _ _ hi n4;subst this;rcases hc with hc|hc
   ·exact hc n1
   ·exact hc hl'
  ·rw [h] at hl';cases hl'
 ·intro id k' hk' hl' b cap size hi hb;obtain ⟨k,hk,e1,e2,e3,hc⟩:=W1 hk';have hlt:b<w.heap.size:=by
   have hd:k.mode≠.dead:=by
    rcases hc with ⟨rfl,_⟩|⟨_,h,_⟩
    ·rw [hl'];intro h;cases h
    ·rw [h];intro h;cases h
   obtain ⟨_,_,_,_,_,cur,q6,_⟩:=hH.blk id k hk hd _ hi;exact G9 q6
  rcases h5.mnew b hb with h|h
  ·rcases hc with ⟨rfl,_⟩|⟨n1,n2,_⟩
   ·exact hH.fro id k' hk hl' b cap size hi h.1
   ·exact h.2 ⟨id,k,cap,size,n1,hk,n2,hi⟩
  ·omega
 ·intro id id' k1 k2 hk1 hk2 hm1 hm2;obtain ⟨k,hk,e1,e2,e3,hc⟩:=W1 hk1;obtain ⟨k',hk',e1',e2',e3',hc'⟩:=W1 hk2;rcases hc with ⟨rfl,_⟩|⟨_,_,h⟩
  ·rcases hc' with ⟨rfl,_⟩|⟨_,_,h⟩
   ·exact hH.inj id id' _ _ hk hk' hm1 hm2
   ·rw [h] at hm2;cases hm2
  ·rw [h] at hm1;cases hm1
 ·intro id id' k1 k2 hk1 hk2 hm1 hm2;obtain ⟨k,hk,e1,e2,e3,hc⟩:=W1 hk1;obtain ⟨k',hk',e1',e2',e3',hc'⟩:=W1 hk2;rcases hc with ⟨rfl,_⟩|⟨_,_,h⟩
  ·rcases hc' with ⟨rfl,_⟩|⟨_,_,h⟩
   ·exact hH.old id id' _ _ hk hk' hm1 hm2
   ·rw [h] at hm2;cases hm2
  ·rw [h] at hm1;cases hm1
 ·rw [a1R];exact hf
 ·refine ⟨h5.os,h5.tape,h5.output,h5.size,fun b hb _=>hkeep b hb,fun _ _=>rfl,?_,?_,?_,by rw [a1R];exact lbQ _⟩
  ·intro b hb;rcases h5.mnew b hb with h|h
   ·exact .inl h.1
   ·exact .inr h
  ·intro b hb;by_cases hx:∃id k cap size,id ∈ fr∧H[id]? =some k∧k.mode=.live∧ι id=some (.blk b cap size)
   ·obtain ⟨id,k,cap,size,n1,n2,n3,n4⟩:=hx;exact .inr ⟨id,k,cap,size,n2,n3,n4⟩
   ·exact .inl (hold b ⟨hb,hx⟩)
  ·rintro b ⟨id,k',cap,size,hk',hl',hi⟩;obtain ⟨k,hk,e1,e2,e3,hc⟩:=W1 hk';rcases hc with ⟨rfl,_⟩|⟨_,_,h⟩
   ·exact .inl ⟨id,k',cap,size,hk,hl',hi⟩
   ·rw [h] at hl';cases hl'
def w6 {len m n b:Nat} {K:Prop} (h1:len<=m) (h2:(len+n)*b<=140737488355328) (k:K):(len<=m∧(len+n)*b<=140737488355328)∧K:=⟨⟨h1,h2⟩,k⟩
def b64 {α:Type} {xs:List α} {a b:Nat} {K:Prop} (h:a=b) (k:K):(xs.length=0∨a=b)∧K:=⟨.inr h,k⟩
def aV0 {rows:List (List T)} {r:List T}:(toC rows).take rows.length++toC [r]=toC (rows++[r]):=by
 rw [lbn zt];simp [toC]
def b5y {ops:List Oper} {K:List Oper->Prop} (h:a9S ops=true) (k:K ops):b48 ops K:=⟨⟨none,rfl,h,k⟩⟩
def an2 {ops:List Oper} {K:List Oper->Prop} (π:List Nat) (h:a9S (Y7 π ops)=true) (h2:aC7 π ops.length=true) (k:K (Y7 π ops)):b48 ops K:=⟨⟨some π,h2,h,k⟩⟩
def b7w {P:Program} {τ:Tab} {env:Env} {H':Hp} {ops:List Oper} {i:Nat} {K:Prop} (h:K0 ops i=true) (h2:a07 ops i=[]) (k:K):K0 ops i=true∧∃L,a07 ops i=L∧a2z P τ ops env H' K L:=⟨h,[],h2,k⟩
def b4G {P:Program} {τ:Tab} {env:Env} {H':Hp} {ops:List Oper} {i:Nat} {K:Prop} (L:List Nat) (h:K0 ops i=true) (h2:a07 ops i=L) (k:a2z P τ ops env H' K L):K0 ops i=true∧∃L,a07 ops i=L∧a2z P τ ops env H' K L:=⟨h,L,h2,k⟩
def b1Y {s:S} {B:List Blk} {s':S} {K:Prop} (h1:B=[]) (h2:s=s') (k:K):(B=[]∧s=s')∧K:=⟨⟨h1,h2⟩,k⟩
def a2I {rl xl sz ds b:Nat} {K:Prop} (h1:rl=0) (h3:(rl+xl)*b<=140737488355328) (k:K):((rl=0∨(0<xl∧sz=ds))∧(rl+xl)*b<=140737488355328)∧K:=⟨⟨.inl h1,h3⟩,k⟩
def y7 {α:Type} {xs:List α} {f:α->List T} {n:Int} {k:Nat} {x:α} {K:List T->Prop} (e:n=k) (hx:xs[k]? =some x) (h:K (f x)):∃row,0<=n∧(xs.map f)[n.toNat]? =some row∧K row:=by
 subst e;exact i6 hx h
def ag7 {a b:Int} {K:Prop} (h:a≠b) (k:K):a≠b∧K:=⟨h,k⟩
def a2f {l h m:Int} {K:Prop} (h1:0<=l) (h2:l<=h) (h3:h<=m) (k:K):(0<=l∧l<=h∧h<=m)∧K:=⟨⟨h1,h2,h3⟩,k⟩
def L7 {id len:Nat} {app:Bool} {H1:Hp} {rows:List (List T)} {size:Nat} {k:Blk} (hk:H1[id]? =some k) (hd:¬k.mode.gone) (hs:k.size=size) (hc:k.rows=toC rows) (hl:len=rows.length):
 Fin 0 (.c (.own id 0 len app)) H1 (.c (.t (.sl size .any rows))) []:=m9 (show VC H1 _ _ _ from u5 rfl hk hd hs hc hl)
def o8 {ρ:List (Option Nat)} {H:Hp} {id id' len len':Nat} (h:ρ[id']? =some (some id)) (hl:len=len'):a6E ρ H (.c (.own id 0 len true)) (.c (.own id' 0 len' true)):=⟨h,rfl,hl,fun h=>h⟩
def i5 (rows:List (List T)):I5 (toC rows):=by
 intro r hr c hc;obtain ⟨r',_,rfl⟩:=lbw.1 hr;obtain ⟨c',_,rfl⟩:=lbw.1 hc
 rfl
def e8 {ρ:List (Option Nat)} {H:Hp} {k k':Blk} {rows:List (List T)} (h1:a31 k k'=true) (h2:k.elem=k'.elem) (h3:k.size=k'.size) (h4:k.rows=toC rows) (h5:k'.rows=toC rows):a2q ρ H k k':=
 ⟨h1,h2,h3,.inl ⟨h4.trans h5.symm,h4 ▸ i5 rows⟩⟩
def b5t {H:Hp} {p:Nat->Prop}:∀ts:List T,VL H p (ts.map C.t) ts
 |[]=>b7v
 |t::r=>a68 (aI3 (a0L t)) (b5t r)
def br9 {H:Hp} {p:Nat->Prop} (ts:List T):VS H p (.agg (ts.map C.t)) (.agg (ts.map C.t)):=bg3 (b5t ts)
def aN2 {H:Hp} {p:Nat->Prop} {x:T}:VS H p (.c (.t x)) (.c (.t x)):=a1z (aI3 (a0L x))
end
section
open Go.RowKit
mutual
def X8 (σ:List Nat):C->C
 |.t x=>.t x
 |.ptr id r o=>.ptr (σ.getD id 0) r o
 |.own id lo len app=>.own (σ.getD id 0) lo len app
 |.fn f caps=>.fn f (a0T σ caps)
def a0T (σ:List Nat):List C->List C
 |[]=>[]
 |x::r=>X8 σ x::a0T σ r
end
def a53 (σ:List Nat):S->S
 |.junk=>.junk
 |.c x=>.c (X8 σ x)
 |.agg cs=>.agg (a0T σ cs)
 |.tup ss=>.tup (ss.map fun s=>match s with
  |.c x=>.c (X8 σ x)
  |.agg cs=>.agg (a0T σ cs)
  |s=>s)
mutual
def okC (n:Nat):C->Bool
 |.t _=>true
 |.ptr id _ _=>Nat.blt id n
 |.own id _ _ _=>Nat.blt id n
 |.fn _ caps=>okL n caps
def okL (n:Nat):List C->Bool
 |[]=>true
 |x::r=>okC n x && okL n r
end
def okS (n:Nat):S->Bool
 |.junk=>true
 |.c x=>okC n x
 |.agg cs=>okL n cs
 |.tup _=>false
def P3 (σ:List Nat):∀l,a0T σ l=l.map (X8 σ)
 |[]=>by simp [a0T]
 |x::r=>by simp [a0T,P3 σ r]
def b2z {n:Nat}:∀{l:List C},okL n l=true->∀c ∈ l,okC n c=true
 |[],_,c,h=>by cases h
 |x::r,h,c,hc=>by
  simp only [okL,lbM] at h;rcases lbz.1 hc with rfl|hc
  ·exact h.1
  ·exact b2z h.2 c hc
def am1 {σ:List Nat} {x:C} (h:x.isT=true):X8 σ x=x:=by
 cases x<;>first|rfl|cases h
def a0n (σ:List Nat) (ι:Io):Io:=fun id=>(σ[id]?).bind ι
mutual
def aF3 {w:World} {ι:Io} {M:Ms} {σ:List Nat}:∀(x:C) (v:Value),okC σ.length x=true->RC w ι M (X8 σ x) v->RC w (a0n σ ι) M x v
 |.t x,v,_,h=>by
  simp only [X8] at h;cases h with
  |t h=>exact .t h
 |.ptr id r o,v,hk,h=>by
  simp only [X8] at h;have hlt:id<σ.length:=by simpa [okC,a0j] using hk
  have e:a0n σ ι id=ι (σ.getD id 0):=by simp [a0n,lbf hlt,lbl]
  cases h with
  |ptr h=>exact .ptr (e.trans h)
 |.own id lo len app,v,hk,h=>by
  simp only [X8] at h;have hlt:id<σ.length:=by simpa [okC,a0j] using hk
  have e:a0n σ ι id=ι (σ.getD id 0):=by simp [a0n,lbf hlt,lbl]
  cases h with
  |own h h1 h2 h3 h4 h5=>exact .own (e.trans h) h1 h2 h3 h4 h5
  |nil h=>exact .nil (e.trans h)
 |.fn f caps,v,hk,h=>by
  simp only [X8] at h;cases h with
  |fn vs hl hr=>
   rw [P3,lbr] at hl;refine .fn vs hl fun j c hj=>?_
   exact aL2 caps (by simpa [okC] using hk) c (lbm hj) _ (hr j _ (by rw [P3,lba,hj];rfl))
def aL2 {w:World} {ι:Io} {M:Ms} {σ:List Nat}:∀(l:List C),okL σ.length l=true->∀c ∈ l,∀v,RC w ι M (X8 σ c) v->RC w (a0n σ ι) M c v
 |[],_,c,h,_,_=>by cases h
 |x::r,hk,c,hc,v,h=>by
  simp only [okL,lbM] at hk;rcases lbz.1 hc with hcx|hc
  ·rw [hcx] at h ⊢;exact aF3 x v hk.1 h
  ·exact aL2 r hk.2 c hc v h
end
def b8w {w:World} {ι:Io} {M:Ms} {σ:List Nat} {s:S} {v:Value} (hk:okS σ.length s=true) (h:RS w ι M (a53 σ s) v):RS w (a0n σ ι) M s v:=by
 cases s with
 |junk=>exact .junk
 |c x=>cases h with
  |c h=>exact .c (aF3 x v hk h)
 |agg cs=>
  have h:RS w ι M (.agg (a0T σ cs)) v:=h;cases h with
  |agg vs hl hr=>
   rw [P3,lbr] at hl;refine .agg vs hl fun j c hj=>?_
   exact aL2 cs hk c (lbm hj) _ (hr j _ (by rw [P3,lba,hj];rfl))
 |tup ss=>cases hk
def RC.ren {w:World} {ι ι':Io} {M:Ms} {σ:List Nat} (hι:∀id l,ι id=some l->ι' (σ.getD id 0)=some l) {x:C} {v:Value} (h:RC w ι M x v):RC w ι' M (X8 σ x) v:=by
 induction h with
 |t h=>simp only [X8];exact .t h
 |ptr h=>simp only [X8];exact .ptr (hι _ _ h)
 |own h h1 h2 h3 h4 h5=>simp only [X8];exact .own (hι _ _ h) h1 h2 h3 h4 h5
 |nil h=>simp only [X8];exact .nil (hι _ _ h)
 |fn vs hl hr ih=>
  simp only [X8];refine .fn vs (by rw [P3,lbr];exact hl) fun j c hj=>?_
  rw [P3,lba] at hj;obtain ⟨c0,hc0,rfl⟩:=ar2.1 hj;exact ih j c0 hc0
def RS.ren1 {w:World} {ι ι':Io} {M:Ms} {σ:List Nat} (hι:∀id l,ι id=some l->ι' (σ.getD id 0)=some l) {x:List C} {v:Value} (h:RS w ι M (.agg x) v):RS w ι' M (.agg (a0T σ x)) v:=by
 cases h with
 |agg vs hl hr=>
  refine .agg vs (by rw [P3,lbr];exact hl) fun j c hj=>?_
  rw [P3,lba] at hj;obtain ⟨c0,hc0,rfl⟩:=ar2.1 hj;exact (hr j c0 hc0).ren hι
def bo9:S->Bool
 |.tup _=>false
 |_=>true
def aq0:S->Bool
 |.tup ss=>ss.all bo9
 |_=>true
def RS.ren {w:World} {ι ι':Io} {M:Ms} {σ:List Nat} (hι:∀id l,ι id=some l->ι' (σ.getD id 0)=some l) {s:S} {v:Value} (hs:aq0 s=true) (h:RS w ι M s v):RS w ι' M (a53 σ s) v:=by
 cases s with
 |junk=>exact .junk
 |c x=>cases h with
  |c h=>exact .c (h.ren hι)
 |agg cs=>exact RS.ren1 hι h
 |tup ss=>
  cases h with
  |tup vs hl hr=>
   refine .tup vs (by simpa using hl) fun j s hj=>?_
   rw [lba] at hj;obtain ⟨s0,hs0,rfl⟩:=ar2.1 hj;have h0:=hr j s0 hs0;have hno:=lbv.1 hs s0 (lbm hs0);cases s0 with
   |junk=>exact .junk
   |c x=>cases h0 with
    |c h=>exact .c (h.ren hι)
   |agg cs=>exact RS.ren1 hι h0
   |tup _=>cases hno
def a7f (σ:List Nat) (rows:List (List C)):List (List C):=rows.map (a0T σ)
def b52 {σ:List Nat} (rows:List (List T)):a7f σ (toC rows)=toC rows:=by
 unfold a7f toC;rw [a55];apply lbp;intro r _;show a0T σ (r.map C.t)=r.map C.t;rw [P3,a55];apply lbp;intro c _;simp [X8]
def b2V {σ:List Nat} {rows:List (List C)} {i j:Nat}:at2 (a7f σ rows) i j=(at2 rows i j).map (X8 σ):=by
 unfold at2 a7f;rw [lba];cases rows[i]? with
 |none=>rfl
 |some r=>simp [P3]
def aG2 (σ:List Nat) (k k':Blk):Prop:=k'.mode=k.mode∧k'.elem=k.elem∧k'.size=k.size∧k'.app=k.app∧k'.rows=a7f σ k.rows
def z4 {σ:List Nat} {k:Blk} {rows:List (List T)} (h:k.rows=toC rows):aG2 σ k k:=⟨rfl,rfl,rfl,rfl,by rw [h,b52]⟩
def b6Z {n:Nat}:∀l:List T,okL n (l.map C.t)=true
 |[]=>by simp [okL]
 |x::r=>by simp [okL,okC,b6Z r]
def a4H {n:Nat} (rows:List (List T)):∀r ∈ toC rows,okL n r=true:=by
 intro r hr;obtain ⟨r',_,rfl⟩:=lbw.1 hr;exact b6Z r'
def O1.ren {w:World} {ι ι':Io} {M:Ms} {σ:List Nat} (hι:∀id l,ι id=some l->ι' (σ.getD id 0)=some l) {k k':Blk} (hk:aG2 σ k k') {l:Loc} (h:O1 w ι M k l):O1 w ι' M k' l:=by
 obtain ⟨e1,e2,e3,e4,e5⟩:=hk;cases l with
 |nil=>
  have h:k.rows=[]:=h;show k'.rows=[];rw [e5,h];rfl
 |blk b cap size=>
  obtain ⟨q1,q2,q3,q4,q5,cur,q6,q7,q8⟩:=h;refine ⟨by rw [e3];exact q1,q2,by rw [e5];simpa [a7f] using q3,q4,?_,cur,by rw [e2];exact q6,q7,fun i j c hc=>?_⟩
  ·intro r hr;rw [e5] at hr;obtain ⟨r0,h0,rfl⟩:=lbw.1 hr;rw [P3,lbr];exact q5 r0 h0
  ·rw [e5,b2V] at hc;obtain ⟨c0,hc0,rfl⟩:=ar2.1 hc;obtain ⟨u,h1,h2⟩:=q8 i j c0 hc0;exact ⟨u,h1,h2.ren hι⟩
def O1.ren_in {w:World} {ι:Io} {M:Ms} {σ:List Nat} {k k':Blk} (hk:aG2 σ k k') (hok:∀r ∈ k.rows,okL σ.length r=true) {l:Loc} (h:O1 w ι M k' l):O1 w (a0n σ ι) M k l:=by
 obtain ⟨e1,e2,e3,e4,e5⟩:=hk;cases l with
 |nil=>
  have h:k'.rows=[]:=h;show k.rows=[];rw [e5] at h;simpa [a7f] using h
 |blk b cap size=>
  obtain ⟨q1,q2,q3,q4,q5,cur,q6,q7,q8⟩:=h;refine ⟨by rw [← e3];exact q1,q2,by rw [e5] at q3;simpa [a7f] using q3,q4,?_,cur,by rw [← e2];exact q6,q7,fun i j c hc=>?_⟩
  ·intro r hr;have:=q5 (a0T σ r) (by rw [e5];exact lbw.2 ⟨r,hr,rfl⟩);rw [P3,lbr] at this;exact this
  ·obtain ⟨u,h1,h2⟩:=q8 i j (X8 σ c) (by rw [e5,b2V,hc];rfl);obtain ⟨row,r1,r2⟩:=F8 hc;exact ⟨u,h1,aF3 c u (b2z (hok row (lbm r1)) c (lbm r2)) h2⟩
def a3D (σ:List Nat) (n m:Nat):List Nat:=σ++(List.range m).map (n+·)
def Q8 {P:Program} {g:FuncId} {args args':List S} {H H' Hs Hs':Hp} {r r':S} (σ:List Nat) (h:d6 P g args Hs r Hs')
 (hargs:args'=args.map (a53 σ)) (hok:args.all (okS σ.length)=true) (hσl:σ.length=Hs.length) (hσn:σ.Nodup)
 (hin:∀i k,Hs[i]? =some k->k.mode=.live∧k.app=false∧(∀ r ∈ k.rows,okL σ.length r=true)∧∃k',H[σ.getD i 0]? =some k'∧aG2 σ k k')
 (hno:∀k ∈ Hs',k.mode≠.old) (hlen:Hs.length<=Hs'.length)
 (hr:aq0 r=true) (hr':r'=a53 (a3D σ H.length (Hs'.length - Hs.length)) r)
 (hl':H'.length=H.length+(Hs'.length - Hs.length)) (hout:∀i k,Hs'[i]? =some k->∃k',H'[(a3D σ H.length (Hs'.length - Hs.length)).getD i 0]? =some k'∧aG2 (a3D σ H.length (Hs'.length - Hs.length)) k k')
 (hrest:∀j,j<H.length->j ∉ σ->H'[j]? =H[j]?):d6 P g args' H r' H':=by
 refine ⟨h.1,fun w ι M vals hl hv hH hM hF=>?_⟩;subst hargs;have hσlt:∀i,i<σ.length->σ.getD i 0<H.length:=fun i hi=>by
  obtain ⟨_,_,_,k',hk',_⟩:=hin i Hs[i] (lbf om);exact (lbe.1 hk').1
 have hsub:∀i,i<σ.length->a0n σ ι i=ι (σ.getD i 0):=fun i hi=>by simp [a0n,lbf hi,lbl]
 have hsubn:∀i,σ.length<=i->a0n σ ι i=none:=fun i hi=>by simp [a0n,lbd hi]
 have hget:∀i k,Hs[i]? =some k->i<σ.length:=fun i k hk=>by rw [hσl];exact (lbe.1 hk).1
 have hHs:t4 w (a0n σ ι) M Hs:=by
  refine ⟨?_,?_,?_,?_,?_⟩
  ·intro id k hk hd l hl;obtain ⟨h1,h2,h3,k',hk',hren⟩:=hin id k hk;rw [hsub id (hget id k hk)] at hl;exact (hH.blk _ k' hk' (by rw [hren.1];exact hd) l hl).ren_in hren h3
  ·intro id k hk hm b cap size hl;obtain ⟨h1,h2,h3,k',hk',hren⟩:=hin id k hk;rw [hsub id (hget id k hk)] at hl;exact hH.liv _ k' hk' (by rw [hren.1];exact hm) b cap size hl
  ·intro id k hk hm;obtain ⟨h1,h2,h3,k',hk',hren⟩:=hin id k hk;rw [h1] at hm;cases hm
  ·intro id id' k k2 hk hk2 hm hm2 b cap size cap' size' hl hl2;obtain ⟨h1,h2,h3,k',hk',hren⟩:=hin id k hk;obtain ⟨h1',h2',h3',k2',hk2',hren2⟩:=hin id' k2 hk2;rw [hsub id (hget id k hk)] at hl;rw [hsub id' (hget id' k2 hk2)] at hl2;have:=hH.inj _ _ k' k2' hk' hk2' (by rw [hren.1];exact hm) (by rw [hren2.1];exact hm2) _ _ _ _ _ hl hl2;have hi:=hget id k hk;have hi':=hget id' k2 hk2;rw [lbl,lbl,lbf hi,lbf hi'] at this;simp only [aJ1] at this;have hp:=List.pairwise_iff_getElem.1 hσn;rcases aI0 id id' with hlt|heq|hgt
   ·exact absurd this (hp id id' hi hi' hlt)
   ·exact heq
   ·exact absurd this.symm (hp id' id hi' hi hgt)
  ·intro id id' k k2 hk hk2 hm;obtain ⟨h1,_⟩:=hin id k hk;rw [h1] at hm;cases hm
 have hlive:∀b,a3X (a0n σ ι) Hs b->∃i k,i<σ.length∧H[σ.getD i 0]? =some k∧k.mode=.live∧k.app=false∧∃cap size,ι (σ.getD i 0)=some (.blk b cap size):=by
  rintro b ⟨i,k,cap,size,hk,hm,hi⟩;obtain ⟨h1,h2,h3,k',hk',hren⟩:=hin i k hk;rw [hsub i (hget i k hk)] at hi;exact ⟨i,k',hget i k hk,hk',by rw [hren.1];exact h1,by rw [hren.2.2.2.1];exact h2,cap,size,hi⟩
 have hliveH:∀b,a3X (a0n σ ι) Hs b->a3X ι H b:=fun b hb=>by
  obtain ⟨i,k,_,hk,hm,_,cap,size,hi⟩:=hlive b hb;exact ⟨_,k,cap,size,hk,hm,hi⟩
 have hvals:∀j s,args[j]? =some s->RS w (a0n σ ι) M s (vals.getD j undef):=fun j s hj=>
  b8w (lbv.1 hok s (lbm hj)) (hv j _ (by rw [lba,hj];rfl))
 have hcall:=h.2 w (a0n σ ι) M vals (by simpa using hl) hvals hHs hM (fun id hid=>hsubn id om);refine Calls.mono hcall ?_;rintro e w' ⟨v,rfl,ι',M',h1,h2,h3,h4,h5⟩;refine ⟨v,rfl,?_⟩;generalize hm:Hs'.length - Hs.length=m at *
 let σ':=a3D σ H.length m
 let ι2:Io:=fun j=>if j<H.length then ι j else ι' (Hs.length+(j - H.length))
 have hσ'l:σ'.length=Hs'.length:=by simp [σ',a3D];omega
 have hσ'1:∀i,i<σ.length->σ'.getD i 0=σ.getD i 0:=fun i hi=>by
  simp only [σ',a3D,lbl,lbb hi]
 have hσ'2:∀i,σ.length<=i->i<Hs'.length->σ'.getD i 0=H.length+(i - σ.length):=fun i hi hi'=>by
  simp only [σ',a3D,lbl];rw [lbc hi,lba,lbh om]
  rfl
 have hι2:∀id l,ι' id=some l->ι2 (σ'.getD id 0)=some l:=fun id l hid=>by
  have hidl:id<Hs'.length:=by
   rcases F6 id Hs'.length with h|h
   ·exact h
   ·rw [h4 id h] at hid;cases hid
  show (if _ then _ else _)=_;by_cases hlt:id<σ.length
  ·rw [hσ'1 id hlt,if_pos (hσlt id hlt),←hsub id hlt,←h5.same id om];exact hid
  ·rw [hσ'2 id om hidl,if_neg om,show Hs.length+(H.length+(id - σ.length) - H.length)=id by omega];exact hid
 have hkeepM:∀b,b<w.heap.size->¬M b->w'.heap[b]? =w.heap[b]?:=fun b hb hnm=>h5.keep b hb fun hl=>hnm (a3X.inM hHs hl)
 have hιext:∀id l,ι id=some l->ι2 id=some l:=fun id l hid=>by
  show (if _ then _ else _)=_;rw [if_pos]
  ·exact hid
  ·rcases F6 id H.length with h|h
   ·exact h
   ·rw [hF id h] at hid;cases hid
 have hcase:∀j k',H'[j]? =some k'->(j<H.length∧j ∉ σ∧H[j]? =some k')∨∃i k,Hs'[i]? =some k∧σ'.getD i 0=j∧aG2 σ' k k'∧ι2 j=ι' i:=fun j k' hj=>by
  have hjl:=(lbe.1 hj).1;have fromI:∀i,i<Hs'.length->σ'.getD i 0=j->∃i k,Hs'[i]? =some k∧σ'.getD i 0=j∧aG2 σ' k k'∧ι2 j=ι' i:=fun i hi hij=>by
   obtain ⟨k2,hk2,hren⟩:=hout i Hs'[i] (lbf hi);have hk2':H'[j]? =some k2:=by rw [← hij];exact hk2
   rw [hj] at hk2';injection hk2' with hk2';subst hk2';refine ⟨i,_,lbf hi,hij,hren,?_⟩;show (if _ then _ else _)=_;by_cases hlt:i<σ.length
   ·rw [← hij,hσ'1 i hlt,if_pos (hσlt i hlt),←hsub i hlt,←h5.same i om]
   ·rw [← hij,hσ'2 i om hi,if_neg om,show Hs.length+(H.length+(i - σ.length) - H.length)=i by omega]
  by_cases hlt:j<H.length
  ·by_cases hmem:j ∈ σ
   ·obtain ⟨i,hi⟩:=aw6.1 hmem;have hil:=(lbe.1 hi).1;refine .inr (fromI i om ?_);rw [hσ'1 i hil,lbl,hi];rfl
   ·rw [hrest j hlt hmem] at hj;exact .inl ⟨hlt,hmem,hj⟩
  ·refine .inr (fromI (σ.length+(j - H.length)) om ?_);rw [hσ'2 _ om om];omega
 have hold2:∀j,j<H.length->ι2 j=ι j:=fun j hj=>by show (if _ then _ else _)=_;rw [if_pos hj]
 have hmodeOut:∀j k',j<H.length->j ∉ σ->H[j]? =some k'->k'.mode=.live->∀b cap size,ι j=some (.blk b cap size)->¬a3X (a0n σ ι) Hs b:=fun j k' hjl hjn hk' hm' b cap size hi hb=>by
  obtain ⟨i,k,hil,hk,hkm,_,c,s,hi2⟩:=hlive b hb;have:=hH.inj j _ k' k hk' hk hm' hkm _ _ _ _ _ hi hi2;apply hjn;rw [this,lbl,lbf hil];exact lbD hil
 refine ⟨ι2,M',?_,⟨?_,?_,?_,?_,?_⟩,h3,?_,?_⟩
 ·rw [hr'];exact h1.ren hι2 hr
 ·intro j k' hj hd l hl2;rcases hcase j k' hj with ⟨hjl,hjn,hk'⟩|⟨i,k,hk,hij,hren,hιj⟩
  ·rw [hold2 j hjl] at hl2;have hb:=hH.blk j k' hk' hd l hl2;cases l with
   |nil=>exact hb
   |blk b cap size=>
    obtain ⟨q1,q2,q3,q4,q5,cur,q6,q7,q8⟩:=hb;have hnl:¬a3X (a0n σ ι) Hs b:=by
     intro hb;cases hm':k'.mode with
     |live=>exact hmodeOut j k' hjl hjn hk' hm' b cap size hl2 hb
     |froz=>exact hH.fro j k' hk' hm' _ _ _ hl2 (a3X.inM hHs hb)
     |old=>
      obtain ⟨i,k,hil,hk,hkm,hka,c,s,hi2⟩:=hlive b hb;have:=(hH.old j _ k' k hk' hk hm' hkm _ _ _ _ _ hl2 hi2).1;rw [hka] at this;cases this
     |dead=>exact hd hm'
    refine ⟨q1,q2,q3,q4,q5,cur,(h5.keep b (G9 q6) hnl).trans q6,q7,fun i j c hc=>?_⟩;obtain ⟨u,r1,r2⟩:=q8 i j c hc;exact ⟨u,r1,r2.keep hkeepM h5.mnew hιext⟩
  ·rw [hιj] at hl2;exact (h2.blk i k hk (by rw [← hren.1];exact hd) l hl2).ren hι2 hren
 ·intro j k' hj hm' b cap size hi;rcases hcase j k' hj with ⟨hjl,hjn,hk'⟩|⟨i,k,hk,hij,hren,hιj⟩
  ·rw [hold2 j hjl] at hi;rcases h5.mold b (hH.liv j k' hk' hm' b cap size hi) with h|h
   ·exact h
   ·exact absurd h (hmodeOut j k' hjl hjn hk' hm' b cap size hi)
  ·rw [hιj] at hi;exact h2.liv i k hk (by rw [← hren.1];exact hm') b cap size hi
 ·intro j k' hj hm' b cap size hi hb;rcases hcase j k' hj with ⟨hjl,hjn,hk'⟩|⟨i,k,hk,hij,hren,hιj⟩
  ·rw [hold2 j hjl] at hi;have hlt:b<w.heap.size:=by
    obtain ⟨_,_,_,_,_,cur,q6,_⟩:=hH.blk j k' hk' (by rw [hm'];intro h;cases h) _ hi;exact G9 q6
   rcases h5.mnew b hb with h|h
   ·exact hH.fro j k' hk' hm' b cap size hi h
   ·omega
  ·rw [hιj] at hi;exact h2.fro i k hk (by rw [← hren.1];exact hm') b cap size hi hb
 ·have cross:∀j j' k' i k,j<H.length->j ∉ σ->H[j]? =some k'->k'.mode=.live->Hs'[i]? =some k->k.mode=.live->∀b cap size cap' size',ι j=some (.blk b cap size)->ι' i=some (.blk b cap' size')->j=j':=by
   intro j j' k' i k hjl hjn hk' hm' hk hkm b cap size cap' size' hi hi';have hlt:b<w.heap.size:=by
    obtain ⟨_,_,_,_,_,cur,q6,_⟩:=hH.blk j k' hk' (by rw [hm'];intro h;cases h) _ hi;exact G9 q6
   rcases h5.live b ⟨i,k,cap',size',hk,hkm,hi'⟩ with h|h
   ·exact absurd h (hmodeOut j k' hjl hjn hk' hm' b cap size hi)
   ·omega
  intro j j' k1 k2 hj hj' hm1 hm2 b cap size cap' size' hi hi';rcases hcase j k1 hj with ⟨hjl,hjn,hk1⟩|⟨i,k,hk,hij,hren,hιj⟩<;>rcases hcase j' k2 hj' with ⟨hjl',hjn',hk2⟩|⟨i',k0,hk0,hij',hren',hιj'⟩
  ·rw [hold2 j hjl] at hi;rw [hold2 j' hjl'] at hi';exact hH.inj j j' k1 k2 hk1 hk2 hm1 hm2 _ _ _ _ _ hi hi'
  ·rw [hold2 j hjl] at hi;rw [hιj'] at hi';exact cross j j' k1 i' k0 hjl hjn hk1 hm1 hk0 (by rw [← hren'.1];exact hm2) _ _ _ _ _ hi hi'
  ·rw [hιj] at hi;rw [hold2 j' hjl'] at hi';exact (cross j' j k2 i k hjl' hjn' hk2 hm2 hk (by rw [← hren.1];exact hm1) _ _ _ _ _ hi' hi).symm
  ·rw [hιj] at hi;rw [hιj'] at hi';have:=h2.inj i i' k k0 hk hk0 (by rw [← hren.1];exact hm1) (by rw [← hren'.1];exact hm2) _ _ _ _ _ hi hi';rw [← hij,←hij',this]
 ·intro j j' k1 k2 hj hj' hm1 hm2 b cap size cap' size' hi hi';rcases hcase j k1 hj with ⟨hjl,hjn,hk1⟩|⟨i,k,hk,hij,hren,hιj⟩
  ·rw [hold2 j hjl] at hi;have hlt:b<w.heap.size:=by
    obtain ⟨_,_,_,_,_,cur,q6,_⟩:=hH.blk j k1 hk1 (by rw [hm1];intro h;cases h) _ hi;exact G9 q6
   rcases hcase j' k2 hj' with ⟨hjl',hjn',hk2⟩|⟨i',k0,hk0,hij',hren',hιj'⟩
   ·rw [hold2 j' hjl'] at hi';exact hH.old j j' k1 k2 hk1 hk2 hm1 hm2 _ _ _ _ _ hi hi'
   ·rw [hιj'] at hi';rcases h5.live b ⟨i',k0,cap',size',hk0,by rw [← hren'.1];exact hm2,hi'⟩ with h|h
    ·obtain ⟨i,k,hil,hk,hkm,hka,c,s,hi2⟩:=hlive b h;have:=(hH.old j _ k1 k hk1 hk hm1 hkm _ _ _ _ _ hi hi2).1;rw [hka] at this;cases this
    ·omega
  ·have:k.mode=.old:=by rw [← hren.1];exact hm1
   exact absurd this (hno k (lbm hk))
 ·intro id hid;show (if _ then _ else _)=_;rw [if_neg om];exact h4 _ om
 ·refine ⟨h5.os,h5.tape,h5.output,h5.size,fun b hb hnl=>h5.keep b hb fun hl=>hnl (hliveH b hl),fun id hid=>hold2 id hid,h5.mnew,fun b hb=>?_,?_,om⟩
  ·rcases h5.mold b hb with h|h
   ·exact .inl h
   ·exact .inr (hliveH b h)
  ·rintro b ⟨j,k',cap,size,hj,hm',hi⟩;rcases hcase j k' hj with ⟨hjl,hjn,hk'⟩|⟨i,k,hk,hij,hren,hιj⟩
   ·rw [hold2 j hjl] at hi;exact .inl ⟨j,k',cap,size,hk',hm',hi⟩
   ·rw [hιj] at hi;rcases h5.live b ⟨i,k,cap,size,hk,by rw [← hren.1];exact hm',hi⟩ with h|h
    ·exact .inl (hliveH b h)
    ·exact .inr h
def p9 {P:Program} {τ:Tab} (hτ:D2 P τ) {n0:Nat} {c:Code} {env:Env} {H:Hp} {Q:AX->Env->Hp->Prop} {σ:Type} (E:σ->Env × Hp) (I:σ->Prop) (μ:σ->Nat) (x0:σ) (ρ0:List (Option Nat))
 (hI:I x0) (h0:Ent n0 ρ0 env H (E x0).1 (E x0).2)
 (round:∀x,I x->a4U P τ n0 c (E x).1 (E x).2 fun a env' H'=>match a with
   |.normal=>∃ρ x',Ent n0 ρ env' H' (E x').1 (E x').2∧I x'∧μ x'<μ x
   |a=>Q a env' H'):Awp P n0 (.loop c) env H Q:=by
 refine a8B (σ:={ x:σ // I x }) (fun x=>E x.1) (fun x=>μ x.1) ⟨x0,hI⟩ ρ0 h0 ?_;rintro ⟨x,hx⟩;refine (p5 hτ c (round x hx)).mono ?_;intro a env' H' h;cases a with
 |normal=>
  obtain ⟨ρ,x',h1,h2,h3⟩:=h;exact ⟨ρ,⟨x',h2⟩,h1,h3⟩
 |exit id=>exact h
 |ret=>exact h
def D7 {x y:Int} (h:x=y) (h1:-9223372036854775808<=y) (h2:y<=9223372036854775807):J2 .i64 x y:=by subst h;exact a2O h1 h2
end
section
open Go.RowKit
section
variable {α β:Type}
def ad1 {l:List α}:∀{i:Nat} {x:α} {k:α->Prop},l[i]? =some x->k x->a3H i l k:=by
 induction l with
 |nil=>intro i x k h;simp at h
 |cons a r ih=>
  intro i x k h hk;cases i with
  |zero=>simp at h;subst h;exact hk
  |succ i=>exact ih (by simpa using h) hk
def aJ6 {v:α} {l:List α} {i:Nat} {k:List α->Prop} (h:k (l.set i v)):a6A i v l k:=N4.2 h
def a3W {r l:List α} {k:List α->Prop} (h:k (l++r)):al4 l r k:=a3z.2 h
def C1 {l:List α} {k:List α->Prop} (h:k l):al4 l [] k:=a3W (by rw [a0x];exact h)
def b1U {l:List α} {n:Nat} {k:Nat->Prop} (h:k (l.length+n)):ac0 l n k:=a18.2 (by rw [az4];exact h)
def a5O {f:β->α} {M:List β} {N n:Nat} {k:Nat->Prop} (h:M.length=N) (hk:k (N+n)):ac0 (M.map f) n k:=b1U (by simpa [h] using hk)
def f9 {f:β->α} {M:List β} {T:List α} {N n:Nat} {k:Nat->Prop} (h:M.length=N) (hk:ac0 T n fun m=>k (N+m)):ac0 (M.map f++T) n k:=by
 refine b1U ?_;have:=(a18 (k:=fun m=>k (N+m))).1 hk;simpa [h,a2t,az4 n] using this
def f5 {f:β->α} {M:List β} {T r:List α} {k:List α->Prop} (h:al4 T r fun q=>k (M.map f++q)):al4 (M.map f++T) r k:=by
 refine a3W ?_;rw [lbC];exact (a3z (k:=fun q=>k (M.map f++q))).1 h
def aS2 {f:β->α} {M:List β} {i:Nat} {x:β} {k:α->Prop} (h:M[i]? =some x) (hk:k (f x)):a3H i (M.map f) k:=ad1 (by rw [lba,h];rfl) hk
def F9 {f:β->α} {M:List β} {T:List α} {i:Nat} {x:β} {k:α->Prop} (h:M[i]? =some x) (hk:k (f x)):a3H i (M.map f++T) k:=
 ad1 (by rw [lbb (by simpa using (lbe.1 h).1),lba,h];rfl) hk
def g8 {f:β->α} {M:List β} {T:List α} {N t:Nat} {k:α->Prop} (h:M.length=N) (hk:a3H t T k):a3H (N+t) (M.map f++T) k:=by
 obtain ⟨x,h1,h2⟩:=Q2 hk;exact ad1 (by rw [lbc (by simp [h])];simpa [h] using h1) h2
def o5 {f:β->α} {M:List β} {T:List α} {N:Nat} {k:α->Prop} (h:M.length=N) (hk:a3H 0 T k):a3H N (M.map f++T) k:=g8 (t:=0) h hk
def a1G {f:β->α} {M:List β} {T:List α} {i:Nat} {v:α} {x:β} {k:List α->Prop} (hi:i<M.length) (hv:v=f x) (h:k ((M.set i x).map f++T)):a6A i v (M.map f++T) k:=
 aJ6 (by rw [b2B _ _ (by simpa using hi),hv,←a59];exact h)
def i7 {f:β->α} {M:List β} {T:List α} {N t:Nat} {v:α} {k:List α->Prop} (h:M.length=N) (hk:a6A t v T fun q=>k (M.map f++q)):a6A (N+t) v (M.map f++T) k:=by
 refine aJ6 ?_;rw [List.set_append_right _ _ (by simp [h])];simpa [h] using (N4 (k:=fun q=>k (M.map f++q))).1 hk
def x5 {f:β->α} {M:List β} {T:List α} {N:Nat} {v:α} {k:List α->Prop} (h:M.length=N) (hk:a6A 0 v T fun q=>k (M.map f++q)):a6A N v (M.map f++T) k:=i7 (t:=0) h hk
end
def idR (n:Nat):List (Option Nat):=(List.range n).map some
def aN8 (n:Nat):(idR n).length=n:=by simp [idR]
def g9 {n i:Nat} (h:i<n):(idR n)[i]? =some (some i):=by simp [idR,h]
def b3c {n i j:Nat} (h:(idR n)[i]? =some (some j)):i=j:=by
 obtain ⟨h1,h2⟩:=lbe.1 h;simp [idR] at h2;exact h2
def a6z {n:Nat}:∀{m:Nat},m<=n->a2e (idR n) m=true
 |0,_=>rfl
 |m+1,h=>by
  unfold a2e;rw [g9 om,a6z om];simp
def aQ4:∀{r:List (Option Nat)} {H:Hp} {n:Nat},(∀ j:Nat,r[j]?≠some (some n))->a4X n r H=false
 |[],H,n,_=>by cases H<;>rfl
 |x::r,[],n,_=>by cases x<;>rfl
 |x::r,k::H,n,h=>by
  unfold a4X;rw [aQ4 (r:=r) (H:=H) (n:=n) (fun j=>by simpa using h (j+1)),Bool.or_false];split
  ·rfl
  ·rename_i m _;have:m≠n:=by rintro rfl;exact h 0 rfl
   cases hb:Nat.beq m n with
   |false=>rfl
   |true=>exact absurd (a0J hb) this
  ·rfl
def a0F:∀{r:List (Option Nat)} {H:Hp},(∀ i j n:Nat,r[i]? =some (some n)->r[j]? =some (some n)->i=j)->U1 r H=true
 |[],H,_=>by cases H<;>rfl
 |x::r,[],_=>by cases x<;>rfl
 |none::r,k::H,h=>a0F (r:=r) fun i j n h1 h2=>by have:=h (i+1) (j+1) n (by simpa using h1) (by simpa using h2);omega
 |some n::r,k::H,h=>by
  unfold U1;rw [a0F (r:=r) (H:=H) fun i j n h1 h2=>by have:=h (i+1) (j+1) n (by simpa using h1) (by simpa using h2);omega];rw [aQ4 (r:=r) (n:=n) (fun j hj=>by have:=h 0 (j+1) n rfl (by simpa using hj);omega)];cases k.mode<;>rfl
def a8D {n:Nat} {H:Hp}:U1 (idR n) H=true:=a0F fun i j n h1 h2=>by rw [b3c h1,b3c h2]
def a2N {ρ:List (Option Nat)} {H:Hp}:∀{r:List (Option Nat)} {H':Hp},r.length=H'.length->(∀ (i:Nat) (k':Blk),H'[i]? =some k'->∃(j:Nat) (k:Blk),r[i]? =some (some j)∧H[j]? =some k∧a2q ρ H k k')->a4n ρ H r H'
 |[],[],_,_=>trivial
 |[],_::_,h,_=>by simp at h
 |_::_,[],h,_=>by simp at h
 |x::r,k'::H',hl,h=>by
  obtain ⟨j,k,h1,h2,h3⟩:=h 0 k' rfl;simp at h1;subst h1;refine ⟨?_,a2N (by simpa using hl) fun i k1 hk=>by simpa using h (i+1) k1 (by simpa using hk)⟩;simp only [h2];exact h3
def av3 {n:Nat} {H:Hp}:∀{l:List C},(∀ c ∈ l,match c with|.t _=>True|.ptr id _ _=>id<n|.own id _ _ _=>id<n|.fn _ _=>False)->a49 (idR n) H l l
 |[],_=>trivial
 |c::r,h=>by
  refine ⟨?_,av3 fun c hc=>h c (by simp [hc])⟩;have h0:=h c zq;cases c with
  |t x=>exact a0L x
  |ptr id r o=>exact ⟨g9 h0,rz⟩
  |own id lo len app=>exact ⟨g9 h0,rfl,rfl,fun h=>h⟩
  |fn f caps=>exact h0.elim
def okB (n:Nat) (k:Blk):Prop:=∀r ∈ k.rows,∀c ∈ r,match c with|.t _=>True|.ptr id _ _=>id<n|.own id _ _ _=>id<n|.fn _ _=>False
def u0 {n:Nat} {k:Blk} {rows:List (List T)} (h:k.rows=toC rows):okB n k:=by
 intro r hr c hc;rw [h] at hr;obtain ⟨r0,_,rfl⟩:=lbw.1 hr;obtain ⟨t,_,rfl⟩:=lbw.1 hc;trivial
def aA1 {n:Nat} {H:Hp}:∀{l:List (List C)},(∀ r ∈ l,∀c ∈ r,match c with|.t _=>True|.ptr id _ _=>id<n|.own id _ _ _=>id<n|.fn _ _=>False)->a6B (idR n) H l l
 |[],_=>trivial
 |r::l,h=>⟨av3 (h r zq),aA1 fun r hr=>h r (by simp [hr])⟩
def a8H {n:Nat} {H:Hp} {k:Blk} (h:okB n k):a2q (idR n) H k k:=⟨by unfold a31;cases k.mode<;>simp,rfl,rfl,.inr (aA1 h)⟩
def b9q {n0 n:Nat} {env env':Env} {H H':Hp} (hn:H'.length=n) (h0:n0<=n) (hB:∀(i:Nat) (k':Blk),H'[i]? =some k'->∃k:Blk,H[i]? =some k∧a2q (idR n) H k k') (hE:X5 (idR n) H env env'):Ent n0 (idR n) env H env' H':=
 ⟨a6z h0,a8D,a2N (by rw [aN8,hn]) fun i k' hk=>by
   have hi:i<n:=by rw [← hn];exact (lbe.1 hk).1
   obtain ⟨k,h1,h2⟩:=hB i k' hk;exact ⟨i,k,g9 hi,h1,h2⟩,hE⟩
def a0s {ρ:List (Option Nat)} {H:Hp}:∀{xs ys:List (List C)},xs.length=ys.length->(∀ (i:Nat) (x y:List C),xs[i]? =some x->ys[i]? =some y->a49 ρ H x y)->a6B ρ H xs ys
 |[],[],_,_=>trivial
 |[],_::_,h,_=>by simp at h
 |_::_,[],h,_=>by simp at h
 |x::xs,y::ys,h,hh=>⟨hh 0 x y rfl rfl,a0s (by simpa using h) fun i a b ha hb=>hh (i+1) a b (by simpa using ha) (by simpa using hb)⟩
def a6e {n0 n:Nat} {env env':Env} {H H':Hp} (hn:H'.length=n) (h0:n0<=n) (hok:∀k ∈ H',okB n k) (hH:∀i,i<n->H[i]? =H'[i]?) (hE:X5 (idR n) H env env'):Ent n0 (idR n) env H env' H':=
 ⟨a6z h0,a8D,a2N (by rw [aN8,hn]) fun i k' hk=>by
   have hi:i<n:=by rw [← hn];exact (lbe.1 hk).1
   exact ⟨i,k',g9 hi,by rw [hH i hi];exact hk,a8H (hok k' (lbm hk))⟩,hE⟩
def b0X {n0 n:Nat} {env env':Env} {H' T:Hp} (hn:H'.length=n) (h0:n0<=n) (hok:∀k ∈ H',okB n k) (hE:X5 (idR n) (H'++T) env env'):Ent n0 (idR n) env (H'++T) env' H':=
 a6e hn h0 hok (fun i hi=>by rw [lbb om]) hE
def a6x {n0 n:Nat} {r s:S} {H H':Hp} (hn:H'.length=n) (h0:n0<=n) (hok:∀k ∈ H',okB n k) (hH:∀i,i<n->H[i]? =H'[i]?) (hE:a95 (idR n) H r s):Fin n0 r H s H':=
 ⟨idR n,a6z h0,a8D,a2N (by rw [aN8,hn]) fun i k' hk=>by
   have hi:i<n:=by rw [← hn];exact (lbe.1 hk).1
   exact ⟨i,k',g9 hi,by rw [hH i hi];exact hk,a8H (hok k' (lbm hk))⟩,hE⟩
def a4D {n i:Nat} (h:i<n):(List.range n).getD i 0=i:=by simp [h]
mutual
def ag0 {n:Nat}:∀c:C,okC n c=true->X8 (List.range n) c=c
 |.t x,_=>by simp [X8]
 |.ptr id r o,h=>by simp only [X8];rw [a4D (by simpa [okC] using h)]
 |.own id lo len app,h=>by simp only [X8];rw [a4D (by simpa [okC] using h)]
 |.fn f caps,h=>by simp only [X8];rw [a3N caps (by simpa [okC] using h)]
def a3N {n:Nat}:∀l:List C,okL n l=true->a0T (List.range n) l=l
 |[],_=>by simp [a0T]
 |c::r,h=>by
  simp only [okL,lbM] at h;simp only [a0T];rw [ag0 c h.1,a3N r h.2]
end
def b1z {n:Nat} {s:S} (h:okS n s=true):a53 (List.range n) s=s:=by
 cases s with
 |junk=>rfl
 |c x=>simp only [a53];rw [ag0 x h]
 |agg cs=>simp only [a53];rw [a3N cs h]
 |tup ss=>simp [okS] at h
def b0K {n:Nat}:∀{l:List C},(∀ c ∈ l,match c with|.t _=>True|.ptr id _ _=>id<n|.own id _ _ _=>id<n|.fn _ _=>False)->okL n l=true
 |[],_=>by simp [okL]
 |c::r,h=>by
  simp only [okL,lbM];refine ⟨?_,b0K fun c hc=>h c (by simp [hc])⟩;have h0:=h c zq;cases c with
  |t x=>simp [okC]
  |ptr id r o=>simp only [okC];exact a0j ▸ h0
  |own id lo len app=>simp only [okC];exact a0j ▸ h0
  |fn f caps=>exact h0.elim
def ag1 {n:Nat} {k:Blk} (h:okB n k):aG2 (List.range n) k k:=by
 refine ⟨rfl,rfl,rfl,rfl,?_⟩;unfold a7f;rw [lbp (g:=id) fun r hr=>a3N r (b0K (h r hr))];simp
def aO5 {σ:List Nat} {l:List C} (h:l.all C.isT=true):a0T σ l=l:=by
 rw [P3];conv=>rhs;rw [← List.map_id l]
 exact lbp fun c hc=>am1 (lbv.1 h c hc)
def a2H {P:Program} {g:FuncId} {args:List S} {Hs Hs':Hp} {r:S} {n:Nat} (T:Hp) (h:d6 P g args Hs r Hs') (hn:Hs.length=n) (hn':Hs'.length=n) (hok:args.all (okS n)=true)
 (hin:∀k ∈ Hs,k.mode=.live∧k.app=false∧okB n k) (hout:∀k ∈ Hs',k.mode≠.old∧okB n k) (hr:aq0 r=true) (hr':r.isT=true):d6 P g args (Hs++T) r (Hs'++T):=by
 have e0:Hs'.length - Hs.length=0:=om;have ex:∀m,a3D (List.range n) m (Hs'.length - Hs.length)=List.range n:=fun m=>by rw [e0];simp [a3D]
 have hargs:args=args.map (a53 (List.range n)):=by
  conv=>lhs;rw [← List.map_id args]
  exact lbp fun s hs=>(b1z (lbv.1 hok s hs)).symm
 refine Q8 (List.range n) h hargs (by simpa using hok) (by simp [hn]) List.nodup_range ?_ (fun k hk=>(hout k hk).1) om hr ?_ zo ?_ ?_
 ·intro i k hk;have hi:i<n:=by rw [← hn];exact (lbe.1 hk).1
  obtain ⟨h1,h2,h3⟩:=hin k (lbm hk);refine ⟨h1,h2,fun r hr=>by rw [List.length_range];exact b0K (h3 r hr),k,?_,ag1 h3⟩;rw [a4D hi,lbb om,hk]
 ·rw [ex];cases r with
  |junk=>rfl
  |c x=>simp only [a53];rw [am1 hr']
  |agg cs=>
   simp only [a53];rw [aO5 hr']
  |tup ss=>
   simp only [a53]
   congr 1
   conv=>lhs;rw [← List.map_id ss]
   refine lbp fun s hs=>?_
   have h1:=lbv.1 hr' s hs;cases s with
   |junk=>rfl
   |c x=>simp only [id];rw [am1 h1]
   |agg cs=>
    simp only [id];rw [aO5 h1]
   |tup ss=>rfl
 ·intro i k hk;have hi:i<n:=by rw [← hn'];exact (lbe.1 hk).1
  obtain ⟨h1,h3⟩:=hout k (lbm hk);rw [ex];exact ⟨k,by rw [a4D hi,lbb om,hk],ag1 h3⟩
 ·intro j hj hnj;have:n<=j:=by
   rcases F6 j n with h|h
   ·exact absurd (lbA.2 h) hnj
   ·exact h
  rw [lbc om,lbc om,hn,hn']
end
section
open Go.RowKit
def M9 {P : Program} {τ : Tab} (hτ : D2 P τ) {f : FuncId} {fn : Func} {c : Code} {args : List S} {H : Hp} {s : S} {H' : Hp} (hf : P.funcs[f]? = some fn) (hb : fn.body = some c) (hn : fn.name ≠ "runtime.NumGoroutine")
    (h:Awp P H.length c (args++List.replicate (fn.ntmps - args.length) .junk) H fun x env' H1=>match x with
      |.exit _=>False
      |_=>a8j τ fn env' H1 fun r=>Fin H.length r H1 s H'):d6 P f args H s H':=by
  refine ⟨⟨fn,hf,by rw [hb];rfl,hn⟩,fun w ι M vals hl hr hH hM hF=>?_⟩;refine calls_of_wp hf hb ?_;have hi:=Sim.init hl hr hH hM hF (fn.ntmps - args.length);have:=h.out w ι M H _ w rfl hM hi;have e:vals.toArray.size=args.length:=by simpa using hl
  rw [e];refine wp_mono this ?_;rintro e a' w' ⟨x,env',H1,rfl,hq,ι',M',hd,hsz,he,hH',hM',hF',hst⟩;have key:(a8j τ fn env' H1 fun r=>Fin H.length r H1 s H')->a'.defers=[]∧∃v,(results fn a'.tmps).run P w'=.ok v w'∧∃v',Ending.returned v=.returned v'∧H4 w ι M H s H' v' w':=by
   intro hq;refine ⟨hd,?_⟩;obtain ⟨l,hk,vs,h1,h2,h3⟩:=a7E hτ he hH' fn.results.toList hq;have hrun:∃v,(results fn a'.tmps).run P w'=.ok v w'∧v=(if h:vs.length=1 then vs[0] else .tuple vs.toArray):=by
    refine ⟨_,?_,rfl⟩;unfold results;rw [Array.mapM_eq_mapM_toList,Sem.run_bind,Sem.run_map];refine (congrArg (fun r=>Result.andThen (Result.andThen r _) _) h1).trans ?_;simp
   obtain ⟨v,hv1,rfl⟩:=hrun;refine ⟨_,hv1,_,rfl,?_⟩;have hsr:∃r,RS w' ι' M' r (if h:vs.length=1 then vs[0] else .tuple vs.toArray)∧Fin H.length r H1 s H':=by
    match l,hk,h2,h3 with
    |[s1],hk,h2,h3=>
     refine ⟨s1,?_,hk⟩;rw [dif_pos (by simpa using h2)];have:=h3 0 s1 rfl;rw [lbl,lbf (by simp at h2;omega)] at this;exact this
    |[],hk,h2,h3=>
     refine ⟨_,?_,hk⟩;rw [dif_neg (by simp at h2;simp [h2])];exact .tup vs h2 h3
    |s1::s2::r,hk,h2,h3=>
     refine ⟨_,?_,hk⟩;rw [dif_neg (by simp at h2;omega)];exact .tup vs h2 h3
   obtain ⟨r,h4,ρ,f1,f2,f3,f4⟩:=hsr;obtain ⟨g1,g2,g3⟩:=a4n.all f1 f2 f3 rfl hM hH' hst;exact ⟨S4 ρ ι',_,f4.rs hH' h4,g1,fun b hb=>hM' b hb.1,g2,g3⟩
  cases x with
  |normal=>exact key hq
  |ret=>exact key hq
  |exit id=>exact hq.elim
def u3 {P:Program} {τ:Tab} (hτ:D2 P τ) {n0:Nat} {x y:Code} {env:Env} {H:Hp} {Q:AX->Env->Hp->Prop}
 (h:a4U P τ n0 x env H fun a env' H'=>match a with
   |.normal=>Awp P n0 y env' H' Q
   |a=>Q a env' H'):Awp P n0 (.seq x y) env H Q:=by
 refine ⟨fun w0 ι0 M0 H0 a w hn hM hs=>?_⟩;refine wp_seq (wp_mono ((p5 hτ x h).out w0 ι0 M0 H0 a w hn hM hs) ?_);rintro e a' w' ⟨x,env',H',rfl,hq,hs'⟩;cases x with
 |normal=>exact hq.out w0 ι0 M0 H0 a' w' hn hM hs'
 |exit id=>exact ⟨_,env',H',rfl,hq,hs'⟩
 |ret=>exact ⟨_,env',H',rfl,hq,hs'⟩
def a86 {P:Program} {n0:Nat} {x y:Code} {env:Env} {H:Hp} {Q:AX->Env->Hp->Prop}
 (h:Awp P n0 x env H fun a env' H'=>match a with
   |.normal=>Awp P n0 y env' H' Q
   |a=>Q a env' H'):Awp P n0 (.seq x y) env H Q:=by
 refine ⟨fun w0 ι0 M0 H0 a w hn hM hs=>?_⟩;refine wp_seq (wp_mono (h.out w0 ι0 M0 H0 a w hn hM hs) ?_);rintro e a' w' ⟨x,env',H',rfl,hq,hs'⟩;cases x with
 |normal=>exact hq.out w0 ι0 M0 H0 a' w' hn hM hs'
 |exit id=>exact ⟨_,env',H',rfl,hq,hs'⟩
 |ret=>exact ⟨_,env',H',rfl,hq,hs'⟩
def a7t {P:Program} {n0 id:Nat} {c:Code} {env:Env} {H:Hp} {Q:AX->Env->Hp->Prop} (h:Awp P n0 c env H (bo7 id Q)):Awp P n0 (.block id c) env H Q:=by
 refine ⟨fun w0 ι0 M0 H0 a w hn hM hs=>?_⟩;refine wp_block (wp_mono (h.out w0 ι0 M0 H0 a w hn hM hs) ?_);rintro e a' w' ⟨x,env',H',rfl,hq,hs'⟩;cases x with
 |normal=>exact ⟨_,env',H',rfl,hq,hs'⟩
 |exit j=>
  have hq:cond (Nat.beq j id) (Q .normal env' H') (Q (.exit j) env' H'):=hq;show if j=id then _ else _
  by_cases hj:j=id
  ·subst hj;rw [if_pos rfl];simp only [ao8,cond_true] at hq;exact ⟨_,env',H',rfl,hq,hs'⟩
  ·rw [if_neg hj];have:Nat.beq j id=false:=by
    cases hb:Nat.beq j id with
    |false=>rfl
    |true=>exact absurd (a0J hb) hj
   simp only [this,cond_false] at hq;exact ⟨_,env',H',rfl,hq,hs'⟩
 |ret=>exact ⟨_,env',H',rfl,hq,hs'⟩
def b20 {P:Program} {n0:Nat} {c:Code} {env env':Env} {H H':Hp} {Q:AX->Env->Hp->Prop} (ρ:List (Option Nat)) (he:Ent n0 ρ env H env' H') (h:Awp P n0 c env' H' Q):Awp P n0 c env H Q:=
 ⟨fun w0 ι0 M0 H0 a w hn hM hs=>h.out w0 ι0 M0 H0 a w hn hM (he.sim hn hM hs)⟩
def u7 {P:Program} {τ:Tab} (hτ:D2 P τ) {n0:Nat} {x y:Code} {env:Env} {H:Hp} {Q:AX->Env->Hp->Prop} (E2:Env) (H2:Hp)
 (h:a4U P τ n0 x env H fun a env' H'=>match a with
   |.normal=>∃ρ,Ent n0 ρ env' H' E2 H2
   |a=>Q a env' H') (h2:Awp P n0 y E2 H2 Q):Awp P n0 (.seq x y) env H Q:=by
 refine ⟨fun w0 ι0 M0 H0 a w hn hM hs=>?_⟩;refine wp_seq (wp_mono ((p5 hτ x h).out w0 ι0 M0 H0 a w hn hM hs) ?_);rintro e a' w' ⟨x,env',H',rfl,hq,hs'⟩;cases x with
 |normal=>obtain ⟨ρ,he⟩:=hq;exact h2.out w0 ι0 M0 H0 a' w' hn hM (he.sim hn hM hs')
 |exit id=>exact ⟨_,env',H',rfl,hq,hs'⟩
 |ret=>exact ⟨_,env',H',rfl,hq,hs'⟩
def aj6 {P:Program} {n0:Nat} {c:Code} {env:Env} {H:Hp} {Q:AX->Env->Hp->Prop} (E:Nat->Env × Hp) (n:Nat) (I:Nat->Prop) (ρ0:List (Option Nat))
 (hI:I 0) (h0:Ent n0 ρ0 env H (E 0).1 (E 0).2)
 (round:∀k,k<=n->I k->Awp P n0 c (E k).1 (E k).2 fun a env' H'=>match a with
   |.normal=>k<n∧I (k+1)∧∃ρ,Ent n0 ρ env' H' (E (k+1)).1 (E (k+1)).2
   |a=>Q a env' H'):Awp P n0 (.loop c) env H Q:=by
 refine a8B (σ:={ k:Nat // k<=n∧I k }) (fun k=>E k.1) (fun k=>n - k.1) ⟨0,H8 _,hI⟩ ρ0 h0 ?_;rintro ⟨k,hk,hi⟩;refine (round k hk hi).mono ?_;intro a env' H' h;cases a with
 |normal=>
  obtain ⟨h1,h2,ρ,h3⟩:=h;exact ⟨ρ,⟨k+1,h1,h2⟩,h3,by show n - (k+1)<n - k;omega⟩
 |exit id=>exact h
 |ret=>exact h
end
section
open Go.RowKit
inductive VY (H:Hp) (p:Nat->Prop):C->T->Prop
 |vc {x:C} {y:T} (h:VC H p x y):VY H p x y
 |own {id lo len:Nat} {app:Bool} {size:Nat} {k:Blk} {rows:List (List T)} (hp:p id) (hk:H[id]? =some k) (hd:¬k.mode.gone) (hs:k.size=size) (hl:rows.length=len)
   (hw:∀r ∈ rows,r.length=size) (g:Nat->Nat->C) (hc:∀i j c,at2 rows i j=some c->at2 k.rows (lo+i) j=some (g i j))
   (hx:∀i j c,at2 rows i j=some c->VY H p (g i j) c):VY H p (.own id lo len app) (.sl size .any rows)
 |ptr {id r o:Nat} {k:Blk} {row:List C} {cells:List T} (hp:p id) (hk:H[id]? =some k) (hd:¬k.mode.gone) (hr:k.rows[r]? =some row)
   (g:Nat->C) (hc:∀j c,cells[j]? =some c->row[o+j]? =some (g j)) (hx:∀j c,cells[j]? =some c->VY H p (g j) c):VY H p (.ptr id r o) (.ptr cells)
 |fn {f:Fn} {caps:List C} {caps':List T} (hl:caps.length=caps'.length) (g:Nat->C) (hc:∀j c,caps'[j]? =some c->caps[j]? =some (g j))
   (hx:∀j c,caps'[j]? =some c->VY H p (g j) c):VY H p (.fn f caps) (.fn f caps')
def VYL (H:Hp) (p:Nat->Prop):List C->List T->Prop
 |[],[]=>True
 |x::r,y::r'=>VY H p x y∧VYL H p r r'
 |_,_=>False
def VYL.get {H:Hp} {p:Nat->Prop}:∀{xs:List C} {ys:List T},VYL H p xs ys->xs.length=ys.length∧∀(j:Nat) (c:T),ys[j]? =some c->∃x,xs[j]? =some x∧VY H p x c
 |[],[],_=>⟨rfl,zq⟩
 |x::xs,y::ys,h=>by
  obtain ⟨h1,h2⟩:=VYL.get h.2;refine ⟨by simp [h1],fun j c hc=>?_⟩;cases j with
  |zero=>simp at hc;subst hc;exact ⟨x,rfl,h.1⟩
  |succ j=>simpa using h2 j c (by simpa using hc)
 |[],_::_,h=>h.elim
 |_::_,[],h=>h.elim
def aN3 {H:Hp} {p:Nat->Prop} {x:T}:VY H p (.t x) x:=.vc (aI3 (a0L x))
def ap9 {H:Hp} {p:Nat->Prop} {id r o:Nat} {k:Blk} {row:List C} {cells:List T} (hp:p id) (hk:H[id]? =some k) (hd:¬k.mode.gone) (hr:k.rows[r]? =some row) (h:VYL H p (row.drop o) cells):VY H p (.ptr id r o) (.ptr cells):=by
 obtain ⟨h1,h2⟩:=h.get;refine .ptr hp hk hd hr (fun j=>(row.drop o).getD j (.t (.ptr []))) (fun j c hc=>?_) (fun j c hc=>?_)
 ·obtain ⟨x,hx,_⟩:=h2 j c hc;rw [lbj] at hx;rw [lbl,lbj,hx];rfl
 ·obtain ⟨x,hx,hv⟩:=h2 j c hc;rw [lbl,hx];exact hv
def b2y {H:Hp} {p:Nat->Prop} {f:Fn} {caps:List C} {caps':List T} (h:VYL H p caps caps'):VY H p (.fn f caps) (.fn f caps'):=by
 obtain ⟨h1,h2⟩:=h.get;refine .fn h1 (fun j=>caps.getD j (.t (.ptr []))) (fun j c hc=>?_) (fun j c hc=>?_)
 ·obtain ⟨x,hx,_⟩:=h2 j c hc;rw [lbl,hx];rfl
 ·obtain ⟨x,hx,hv⟩:=h2 j c hc;rw [lbl,hx];exact hv
def b18 {H:Hp} {p:Nat->Prop} {id len size:Nat} {app:Bool} {k:Blk} {rows:List (List T)} (hp:p id) (hk:H[id]? =some k) (hd:¬k.mode.gone) (hs:k.size=size) (hl:rows.length=len)
 (hw:∀r ∈ rows,r.length=size) (h:∀(i:Nat) (r:List T),rows[i]? =some r->∃row,k.rows[i]? =some row∧VYL H p row r):VY H p (.own id 0 len app) (.sl size .any rows):=by
 have key:∀i j c,at2 rows i j=some c->∃x,at2 k.rows i j=some x∧VY H p x c:=fun i j c hc=>by
  obtain ⟨r,h1,h2⟩:=F8 hc;obtain ⟨row,h3,h4⟩:=h i r h1;obtain ⟨x,h5,h6⟩:=h4.get.2 j c h2;exact ⟨x,C3 h3 h5,h6⟩
 refine .own hp hk hd hs hl hw (fun i j=>(at2 k.rows i j).getD (.t (.ptr []))) (fun i j c hc=>?_) (fun i j c hc=>?_)
 ·obtain ⟨x,hx,_⟩:=key i j c hc;rw [P9,hx];rfl
 ·obtain ⟨x,hx,hv⟩:=key i j c hc;rw [hx];exact hv
def VY.rt {H:Hp} {p:Nat->Prop} {w:World} {ι:Io} {M M':Ms} (hH:t4 w ι M H) (hM:∀b,M' b->M b) (hp:∀id k b cap size,p id->H[id]? =some k->¬k.mode.gone->ι id=some (.blk b cap size)->¬M' b)
 {x:C} {y:T} (h:VY H p x y):∀{v:Value},RC w ι M x v->RT w M' y v:=by
 induction h with
 |vc h=>intro v hr;exact VC.rt hH hM hp _ _ _ h hr
 |@own id lo len app size k rows hpi hk hd hs hl hw g hc hx ih=>
  intro v hr;cases hr with
  |@own _ _ _ _ b cap sz A cap' hi q1 q2 q3 q4 q5=>
   subst hl;have hbr:=hH.blk id k hk (fun e=>hd (by rw [e];trivial)) _ hi;obtain ⟨r1,r2,r3,r4,r5,cur,r6,r7,r8⟩:=hbr;have hnm:=hp id k b cap sz hpi hk hd hi;have hse:sz=size:=by rw [← hs,r1]
   subst hse;have hat:∀(i j:Nat) (c:T),at2 rows i j=some c->∃u,cur[(lo+i)*sz+j]? =some u∧RT w M' c u:=fun i j c hij=>by
    obtain ⟨u,t1,t2⟩:=r8 _ _ _ (hc i j c hij);exact ⟨u,t1,ih i j c hij t2⟩
   refine .sl (b:=b) (off:=lo*sz) (fun i j=>cur.getD ((lo+i)*sz+j) undef) hw q3 q4 zi zi (fun hne=>q2 (a6N.2 hne)) ?_ ?_
   ·intro i j c hc';obtain ⟨u,s1,s2⟩:=hat i j c hc';refine ⟨?_,hnm⟩;have e:lo*sz+(i*sz+j)=(lo+i)*sz+j:=by rw [R0,a2t]
    simp only [World.cell?];rw [r6,e];simp [s1]
   ·intro i j c hc';obtain ⟨u,s1,s2⟩:=hat i j c hc';have:cur.getD ((lo+i)*sz+j) undef=u:=by simp [s1]
    rw [this];exact s2
  |nil hi=>
   have hr0:rows=[]:=lbE hl;subst hr0;exact .sl (b:=0) (off:=0) (fun _ _=>undef) zq zq (by unfold maxLen;omega) zq zq zq (by simp [at2]) (by simp [at2])
 |@ptr id r o k row cells hpi hk hd hrow g hc hx ih=>
  intro v hr;cases hr with
  |@ptr _ _ _ b cap size hi=>
   have hb:=(hH.blk id k hk (fun e=>hd (by rw [e];trivial)) _ hi).row hrow;have hnm:=hp id k b cap size hpi hk hd hi;refine .ptr (fun j=>(w.cell? ⟨b,r*size+o+j,none⟩).getD undef) (fun j c hj=>?_) (fun j c hj=>?_)
   ·obtain ⟨u,h1,h2⟩:=hb _ _ (hc j c hj);rw [a2t,h1];exact ⟨rfl,hnm⟩
   ·obtain ⟨u,h1,h2⟩:=hb _ _ (hc j c hj);rw [a2t,h1];exact ih j c hj h2
 |@fn f caps caps' hl g hc hx ih=>
  intro v hr;cases hr with
  |fn vs hl' hr=>
   exact .fn vs om fun j c hj=>ih j c hj (hr j _ (hc j c hj))
def VYS (H:Hp) (p:Nat->Prop) (s s':S):Prop:=
 match s' with
 |.junk=>True
 |.c y=>match s,y with
  |.c x,.t y=>VY H p x y
  |_,_=>False
 |.agg ys=>match s with
  |.agg xs=>∃ts,ys=ts.map C.t∧VYL H p xs ts
  |_=>False
 |.tup _=>False
def VYS.rs {H:Hp} {p:Nat->Prop} {w:World} {ι ι':Io} {M M':Ms} (hH:t4 w ι M H) (hM:∀b,M' b->M b) (hp:∀id k b cap size,p id->H[id]? =some k->¬k.mode.gone->ι id=some (.blk b cap size)->¬M' b)
 {x y:S} {v:Value} (h:VYS H p x y) (hr:RS w ι M x v):RS w ι' M' y v:=by
 cases y with
 |junk=>exact .junk
 |c y=>
  cases x with
  |c x=>
   cases y with
   |t y=>
    cases hr with
    |c hr=>exact .c (.t (VY.rt hH hM hp h hr))
   |_=>exact False.elim h
  |_=>exact False.elim h
 |agg ys=>
  cases x with
  |agg xs=>
   obtain ⟨ts,rfl,h⟩:=h;obtain ⟨h1,h2⟩:=h.get;cases hr with
   |agg vs hl hr=>
    refine .agg vs zo fun j c hj=>?_
    rw [lba] at hj;cases hj':ts[j]? with
    |none=>rw [hj'] at hj;cases hj
    |some c'=>
     rw [hj'] at hj;injection hj with hj;subst hj;obtain ⟨x,hx,hv⟩:=h2 j c' hj';exact .t (VY.rt hH hM hp hv (hr j x hx))
  |_=>exact False.elim h
 |tup _=>exact False.elim h
def a1r (H:Hp) (p:Nat->Prop):List S->List S->Prop
 |[],[]=>True
 |s::r,s'::r'=>VYS H p s s'∧a1r H p r r'
 |_,_=>False
def a1r.get {H:Hp} {p:Nat->Prop}:∀{l l':List S},a1r H p l l'->l.length=l'.length∧∀(j:Nat) (s':S),l'[j]? =some s'->∃s,l[j]? =some s∧VYS H p s s'
 |[],[],_=>⟨rfl,zq⟩
 |s::r,s'::r',h=>by
  obtain ⟨h1,h2⟩:=a1r.get h.2;refine ⟨by simp [h1],fun j t ht=>?_⟩;cases j with
  |zero=>simp at ht;subst ht;exact ⟨s,rfl,h.1⟩
  |succ j=>simpa using h2 j t (by simpa using ht)
 |[],_::_,h=>h.elim
 |_::_,[],h=>h.elim
def j9 {P:Program} {g:FuncId} {args args':List S} {H:Hp} {r:S} (h:d6 P g args' [] r []) (ha:a1r H (fun _=>True) args args') (hr:r.flat=true):X3 P g args H r []:=by
 refine ⟨h.1,fun w ι M vals hl hv hH hM hf=>?_⟩;obtain ⟨hlen,hget⟩:=a1r.get ha;have:=h.2 w (fun _=>none) (fun _=>False) vals om (fun j s hj=>by
  obtain ⟨x,hx,hs⟩:=hget j s hj;exact hs.rs hH (fun _ h=>h.elim) (fun _ _ _ _ _ _ _ _ _ h=>h) (hv j x hx))
  .none (fun _ h=>h.elim) (fun _ _=>rfl)
 refine Calls.mono this ?_;rintro e w' ⟨v,rfl,ι',M',h1,h2,h3,h4,h5⟩;exact ⟨v,rfl,L0.of_none (h1.flat hr) ⟨h5.os,h5.tape,h5.output,h5.size,fun b hb=>h5.keep b hb zA⟩⟩
end
end Go.Proofs.YtikokmdpigploaaGreat
