/- Part 4. -/
import Derived.Test.YtikokmdpigploaaGreatChecked
import Derived.WalkLawsBesides
import Derived.Deep.AppendLies
import Derived.Test.YtikokmdpigploaaGreatKl2
namespace Go.Proofs.YtikokmdpigploaaGreat
set_option linter.all false
section
open Go.RowKit
def a6x:T->T->T
 |.sl s .any _,.sl s0 k r=>match k with
  |.nil=>.sl s .any []
  |_=>.sl s0 .any r
 |_,x=>x
def RT.weak {w:World} {M:Ms} {x y:T} {v:Value} (h:a6x y x=y) (hr:RT w M x v):RT w M y v:=by
 unfold a6x at h;split at h
 ·split at h
  ·rw [← h];cases hr with
   |sl f hrow hcap hmax hk hn hA hc hr=>
    obtain ⟨rfl,rfl,rfl⟩:=hn rfl;exact .sl (b:=0) (off:=0) (fun _ _=>undef) zq hcap hmax zi zi zq (by simp [at2]) (by simp [at2])
  ·rw [← h];cases hr with
   |sl f hrow hcap hmax hk hn hA hc hr=>exact .sl f hrow hcap hmax zi zi hA hc hr
 ·rw [← h];exact hr
def a1E (x:T):a6x x x=x:=by
 cases x with
 |sl s k r=>cases k<;>rfl
 |_=>rfl
def ak6 {x y:T} (h:x=y):a6x y x=y:=by subst h;exact a1E x
mutual
def VC (H:Hp) (p:Nat->Prop):C->T->Prop
 |.t x,y=>a6x y x=y
 |.ptr id r o,y=>match y with
  |.ptr cells=>p id/\∃k row,H[id]? =some k/\¬k.mode.gone/\k.rows[r]? =some row/\row.drop o=cells.map C.t
  |_=>False
 |.own id lo len _,y=>match y with
  |.sl size .any rows=>p id/\∃k,H[id]? =some k/\¬k.mode.gone/\k.size=size/\lo+len<=k.rows.length/\(k.rows.drop lo).take len=toC rows
  |_=>False
 |.fn f caps,y=>match y with
  |.fn f' caps'=>f=f'/\VL H p caps caps'
  |_=>False
def VL (H:Hp) (p:Nat->Prop):List C->List T->Prop
 |[],ys=>ys=[]
 |x::r,ys=>match ys with
  |[]=>False
  |y::r'=>VC H p x y/\VL H p r r'
end
def bA8 {rows:List (List T)} {i j:Nat} {c:T} (h:at2 rows i j=some c):at2 (toC rows) i j=some (.t c):=by
 obtain ⟨row,h1,h2⟩:=J0 h;exact G3 (row:=row.map C.t) (by simp [toC,h1]) (by simp [h2])
mutual
def VC.rt {H:Hp} {p:Nat->Prop} {w:World} {ι:Io} {M M':Ms} (hH:v4 w ι M H) (hM:∀b,M' b->M b) (hp:∀id k b cap size,p id->H[id]? =some k->¬k.mode.gone->ι id=some (.blk b cap size)->¬M' b):
 ∀(x:C) (y:T) (v:Value),VC H p x y->RC w ι M x v->RT w M' y v
 |.t x,y,v,h,hr=>by
  have h:a6x y x=y:=by simpa only [VC] using h
  cases hr with
  |t hr=>exact (hr.weak h).keep (fun _ _ _=>rfl) (fun b hb=>.inl (hM b hb))
 |.ptr id r o,y,v,h,hr=>by
  cases y with
  |ptr cells=>
   simp only [VC] at h;obtain ⟨hpi,k,row,hk,hd,hrow,hc⟩:=h;cases hr with
   |@ptr _ _ _ b cap size hi=>
    have hb:=(hH.blk id k hk (fun e=>hd (by rw [e];trivial)) _ hi).row hrow;have hnm:=hp id k b cap size hpi hk hd hi;have hat:∀(j:Nat) (c:T),cells[j]? =some c->row[o+j]? =some (.t c):=fun j c hj=>by
     have:(row.drop o)[j]? =some (.t c):=by rw [hc,lba,hj];rfl
     rwa [lbj] at this
    refine .ptr (fun j=>(w.cell? ⟨b,r*size+o+j,none⟩).getD undef) (fun j c hj=>?_) (fun j c hj=>?_)
    ·obtain ⟨u,h1,h2⟩:=hb _ _ (hat j c hj);rw [a3p,h1];exact ⟨rfl,hnm⟩
    ·obtain ⟨u,h1,h2⟩:=hb _ _ (hat j c hj);rw [a3p,h1];cases h2 with
     |t h2=>exact h2.keep (fun _ _ _=>rfl) (fun b hb=>.inl (hM b hb))
  |_=>simp only [VC] at h
 |.own id lo len app,y,v,h,hr=>by
  cases y with
  |sl size sk rows=>
   cases sk with
   |any=>
    simp only [VC] at h;obtain ⟨hpi,k,hk,hd,hsz,hl,hc⟩:=h;have hlen:rows.length=len:=by
     have:=congrArg List.length hc;simp [toC] at this;omega
    cases hr with
    |@own _ _ _ _ b cap sz A cap' hi q1 q2 q3 q4 q5=>
     have hbr:=hH.blk id k hk (fun e=>hd (by rw [e];trivial)) _ hi;obtain ⟨r1,r2,r3,r4,r5,cur,r6,r7,r8⟩:=hbr;have hnm:=hp id k b cap sz hpi hk hd hi;have hse:sz=size:=by rw [← hsz,r1]
     subst hse;have hat:∀(i j:Nat) (c:T),at2 rows i j=some c->∃u,cur[(lo+i)*sz+j]? =some u/\RT w M' c u:=fun i j c hij=>by
      have h1:=bA8 hij;rw [← hc] at h1;obtain ⟨row,s1,s2⟩:=J0 h1;rw [lbi] at s1;split at s1
      ·rw [lbj] at s1;obtain ⟨u,t1,t2⟩:=r8 _ _ _ (G3 s1 s2);refine ⟨u,t1,?_⟩;cases t2 with
       |t t2=>exact t2.keep (fun _ _ _=>rfl) (fun b hb=>.inl (hM b hb))
      ·cases s1
     subst hlen;refine .sl (b:=b) (off:=lo*sz) (fun i j=>cur.getD ((lo+i)*sz+j) undef) ?_ q3 q4 zi zi (fun hne=>q2 (a7H.2 hne)) ?_ ?_
     ·intro r hr';have:r.map C.t ∈ toC rows:=lbx.2 ⟨r,hr',rfl⟩;rw [← hc] at this;have:=r5 _ (b1l (af5 this));simpa using this
     ·intro i j c hij;obtain ⟨u,t1,t2⟩:=hat i j c hij;refine ⟨?_,hnm⟩;rw [show lo*sz+(i*sz+j)=(lo+i)*sz+j by rw [X0];omega];simp [World.cell?,r6,t1]
     ·intro i j c hij;obtain ⟨u,t1,t2⟩:=hat i j c hij;have:cur.getD ((lo+i)*sz+j) undef=u:=by simp [t1]
      show RT w M' c (cur.getD ((lo+i)*sz+j) undef);rw [this];exact t2
    |nil hi=>
     have hr0:rows=[]:=lbF hlen;subst hr0;exact .sl (b:=0) (off:=0) (fun _ _=>undef) zq zq (by unfold maxLen;omega) zq zq zq (by simp [at2]) (by simp [at2])
   |_=>simp only [VC] at h
  |_=>simp only [VC] at h
 |.fn f caps,y,v,h,hr=>by
  cases y with
  |fn f' caps'=>
   simp only [VC] at h;obtain ⟨rfl,h⟩:=h;cases hr with
   |fn vs hl hr=>
    obtain ⟨h1,h2⟩:=VL.rt hH hM hp caps caps' h;exact .fn vs om fun j c hj=>by
     have hlt:=(lbe.1 hj).1;exact h2 j _ c _ (lbf om) hj (hr j _ (lbf om))
  |_=>simp only [VC] at h
def VL.rt {H:Hp} {p:Nat->Prop} {w:World} {ι:Io} {M M':Ms} (hH:v4 w ι M H) (hM:∀b,M' b->M b) (hp:∀id k b cap size,p id->H[id]? =some k->¬k.mode.gone->ι id=some (.blk b cap size)->¬M' b):
 ∀(xs:List C) (ys:List T),VL H p xs ys->xs.length=ys.length/\∀(j:Nat) (x:C) (y:T) (v:Value),xs[j]? =some x->ys[j]? =some y->RC w ι M x v->RT w M' y v
 |[],ys,h=>by
  simp only [VL] at h;subst h;exact ⟨rfl,zq⟩
 |x::r,ys,h=>by
  cases ys with
  |nil=>simp only [VL] at h
  |cons y r'=>
   simp only [VL] at h;obtain ⟨h1,h2⟩:=VL.rt hH hM hp r r' h.2;refine ⟨by simp [h1],fun j x' y' v hx hy hr=>?_⟩;cases j with
   |zero=>simp at hx hy;subst hx hy;exact VC.rt hH hM hp x y v h.1 hr
   |succ j=>exact h2 j x' y' v (by simpa using hx) (by simpa using hy) hr
end
def a8i {H:Hp} {p:Nat->Prop} {x y:T} (h:a6x y x=y):VC H p (.t x) y:=by simpa only [VC] using h
def aq8 {H:Hp} {p:Nat->Prop} {id r o:Nat} {k:Blk} {row:List C} {cells:List T} (hp:p id) (hk:H[id]? =some k) (hd:¬k.mode.gone) (hr:k.rows[r]? =some row) (hc:row.drop o=cells.map C.t):VC H p (.ptr id r o) (.ptr cells):=by
 simp only [VC];exact ⟨hp,k,row,hk,hd,hr,hc⟩
def bv0 {H:Hp} {p:Nat->Prop} {id lo len:Nat} {app:Bool} {size:Nat} {k:Blk} {rows:List (List T)} (hp:p id) (hk:H[id]? =some k) (hd:¬k.mode.gone) (hs:k.size=size) (hl:lo+len<=k.rows.length) (hc:(k.rows.drop lo).take len=toC rows):VC H p (.own id lo len app) (.sl size .any rows):=by
 simp only [VC];exact ⟨hp,k,hk,hd,hs,hl,hc⟩
def w6 {H:Hp} {p:Nat->Prop} {id len:Nat} {app:Bool} {size:Nat} {k:Blk} {rows:List (List T)} (hp:p id) (hk:H[id]? =some k) (hd:¬k.mode.gone) (hs:k.size=size) (hc:k.rows=toC rows) (hl:len=rows.length):VC H p (.own id 0 len app) (.sl size .any rows):=
 bv0 hp hk hd hs (by rw [hc,hl];simp [toC]) (by rw [hc,hl,a9e,lbn zt])
def b9Z {H:Hp} {p:Nat->Prop}:VL H p [] []:=by simp only [VL]
def a74 {H:Hp} {p:Nat->Prop} {x:C} {y:T} {xs:List C} {ys:List T} (h:VC H p x y) (hs:VL H p xs ys):VL H p (x::xs) (y::ys):=by simp only [VL];exact ⟨h,hs⟩
def bM8 {H:Hp} {p:Nat->Prop} {f:Fn} {xs:List C} {ys:List T} (h:VL H p xs ys):VC H p (.fn f xs) (.fn f ys):=by simp only [VC,true_and];exact h
def VS (H:Hp) (p:Nat->Prop):S->S->Prop
 |_,.junk=>True
 |.c x,.c (.t y)=>VC H p x y
 |.agg xs,.agg ys=>∃ts,ys=ts.map C.t/\VL H p xs ts
 |_,_=>False
def a0Y {H:Hp} {p:Nat->Prop} {x:C} {y:T} (h:VC H p x y):VS H p (.c x) (.c (.t y)):=h
def by8 {H:Hp} {p:Nat->Prop} {xs:List C} {ts:List T} (h:VL H p xs ts):VS H p (.agg xs) (.agg (ts.map C.t)):=⟨ts,rfl,h⟩
def VS.rs {H:Hp} {p:Nat->Prop} {w:World} {ι ι':Io} {M M':Ms} (hH:v4 w ι M H) (hM:∀b,M' b->M b) (hp:∀id k b cap size,p id->H[id]? =some k->¬k.mode.gone->ι id=some (.blk b cap size)->¬M' b)
 {x y:S} {v:Value} (h:VS H p x y) (hr:RS w ι M x v):RS w ι' M' y v:=by
 unfold VS at h;split at h
 ·exact .junk
 ·cases hr with
  |c hr=>exact .c (.t (VC.rt hH hM hp _ _ _ h hr))
 ·obtain ⟨ts,rfl,h⟩:=h;cases hr with
  |agg vs hl hr=>
   obtain ⟨h1,h2⟩:=VL.rt hH hM hp _ _ h;refine .agg vs zo fun j c hj=>?_
   rw [lba] at hj;cases hj':ts[j]? with
   |none=>rw [hj'] at hj;cases hj
   |some c'=>
    rw [hj'] at hj;injection hj with hj;subst hj;have hlt:=(lbe.1 hj').1;exact .t (h2 j _ c' _ (lbf om) hj' (hr j _ (lbf om)))
 ·exact h.elim
def a7S (H:Hp) (p:Nat->Prop):List S->List S->Prop
 |[],[]=>True
 |x::r,y::r'=>VS H p x y/\a7S H p r r'
 |_,_=>False
def a7S.get {H:Hp} {p:Nat->Prop}:∀{xs ys:List S},a7S H p xs ys->xs.length=ys.length/\∀(j:Nat) (y:S),ys[j]? =some y->∃x,xs[j]? =some x/\VS H p x y
 |[],[],_=>⟨rfl,zq⟩
 |x::r,y::r',h=>by
  obtain ⟨h1,h2⟩:=a7S.get h.2;refine ⟨by simp [h1],fun j y' hj=>?_⟩;cases j with
  |zero=>simp at hj;subst hj;exact ⟨x,rfl,h.1⟩
  |succ j=>simpa using h2 j y' (by simpa using hj)
 |[],_::_,h=>h.elim
 |_::_,[],h=>h.elim
end
section
open Go.RowKit
def C.isT:C->Bool
 |.t _=>true
 |_=>false
def S.isT:S->Bool
 |.junk=>true
 |.c x=>x.isT
 |.agg cs=>cs.all C.isT
 |.tup ss=>ss.all fun s=>match s with
  |.c x=>x.isT
  |.agg cs=>cs.all C.isT
  |.junk=>true
  |.tup _=>false
def RC.tree {w:World} {ι ι':Io} {M:Ms} {x:C} {v:Value} (h:x.isT=true) (hr:RC w ι M x v):RC w ι' M x v:=by
 cases hr<;>first|exact .t ‹_›|cases h
def RS.tree1 {w:World} {ι ι':Io} {M:Ms} {s:S} {v:Value} (h:(match s with|.c x=>x.isT|.agg cs=>cs.all C.isT|.junk=>true|.tup _=>false)=true) (hr:RS w ι M s v):RS w ι' M s v:=by
 cases hr with
 |junk=>exact .junk
 |c hr=>exact .c (hr.tree h)
 |agg vs hl hr=>exact .agg vs hl fun j c hj=>(hr j c hj).tree (lbv.1 h c (lbm hj))
 |tup vs hl hr=>cases h
def RS.tree {w:World} {ι ι':Io} {M:Ms} {s:S} {v:Value} (h:s.isT=true) (hr:RS w ι M s v):RS w ι' M s v:=by
 cases hr with
 |junk=>exact .junk
 |c hr=>exact .c (hr.tree h)
 |agg vs hl hr=>exact .agg vs hl fun j c hj=>(hr j c hj).tree (lbv.1 h c (lbm hj))
 |tup vs hl hr=>exact .tup vs hl fun j s hj=>(hr j s hj).tree1 (lbv.1 h s (lbm hj))
theorem zC {p:Prop} (h:p:=by rintro ⟨id,k,_,_,hk,_⟩;simp at hk):p:=h
def I4 {P:Program} {g:FuncId} {args:List S} {H:Hp} {r:S} (h:e8 P g args [] r []) (ha:args.all S.isT=true) (hr:r.isT=true):a0k P g args H r []:=by
 refine ⟨h.1,fun w ι M vals hl hv hH hM hf=>?_⟩;have:=h.2 w (fun _=>none) M vals hl (fun j s hj=>(hv j s hj).tree (lbv.1 ha s (lbm hj)))
  ⟨zq,zq,zq,zq,zq⟩ hM (fun _ _=>rfl)
 refine Calls.mono this ?_;rintro e w' ⟨v,rfl,ι',M',h1,h2,h3,h4,h5⟩;refine ⟨v,rfl,O7.of_none ?_ ?_⟩
 ·refine RS.keep (ι:=ι) (M:=M') (fun _ _ _=>rfl) (fun b hb=>?_) (fun _ _ h=>h) (h1.tree hr);rcases h5.mold b hb with h|⟨id,k,_,_,hk,_⟩
  ·exact .inl h
  ·simp at hk
 ·exact ⟨h5.os,h5.tape,h5.output,h5.size,fun b hb=>h5.keep b hb zC⟩
def Awp.mono {P:Program} {n0:Nat} {c:Code} {env:Env} {H:Hp} {Q Q':AX->Env->Hp->Prop} (h:Awp P n0 c env H Q) (hq:∀a env H,Q a env H->Q' a env H):Awp P n0 c env H Q':=
 ⟨fun w0 ι0 M0 H0 a w hn hM hs=>wp_mono (h.out w0 ι0 M0 H0 a w hn hM hs) (by rintro e a' w' ⟨x,env',H',h1,h2,h3⟩;exact ⟨x,env',H',h1,hq _ _ _ h2,h3⟩)⟩
def a3M {x:Int} (h1:-9223372036854775808<=x) (h2:x<=9223372036854775807):M8 .i64 x x:=by
 unfold M8;exact (IntWalk.i64_in x ⟨h1,om⟩).symm
def M3:List (Option Nat)->Nat->Bool
 |[],_=>true
 |some m::r,n=>!(Nat.beq m n) && M3 r n
 |none::r,n=>M3 r n
def bp4 (ρ:List (Option Nat)) (x y:C):Prop:=
 match y with
 |.t y=>match x with
  |.t x=>x=y
  |_=>False
 |.ptr id' r' o'=>match x with
  |.ptr id r o=>ρ[id']? =some (some id)/\r=r'/\o=o'
  |_=>False
 |_=>False
def aK7 (ρ:List (Option Nat)):List C->List C->Prop
 |[],[]=>True
 |x::r,y::r'=>bp4 ρ x y/\aK7 ρ r r'
 |_,_=>False
def b6b (ρ:List (Option Nat)) (H:Hp) (x y:C):Prop:=
 match y with
 |.t y=>match x with
  |.t x=>a6x y x=y
  |x=>VC H (fun id=>M3 ρ id=true) x y
 |.own id' lo' len' app'=>match x with
  |.t (.sl _ .nil _)=>ρ[id']? =some none/\lo'=0/\len'=0
  |.t (.sl _ .full [])=>ρ[id']? =some none/\lo'=0/\len'=0
  |.own id lo len app=>ρ[id']? =some (some id)/\lo=lo'/\len=len'/\(app'=true->app=true)
  |_=>False
 |.ptr id' r' o'=>match x with
  |.ptr id r o=>ρ[id']? =some (some id)/\r=r'/\o=o'
  |_=>False
 |.fn f' caps'=>match x with
  |.fn f caps=>f=f'/\aK7 ρ caps caps'
  |_=>False
def a54 (ρ:List (Option Nat)) (H:Hp):List C->List C->Prop
 |[],[]=>True
 |x::r,y::r'=>b6b ρ H x y/\a54 ρ H r r'
 |_,_=>False
def a7B (ρ:List (Option Nat)) (H:Hp) (s:S) (s':S):Prop:=
 match s' with
 |.junk=>True
 |.c y=>match s with
  |.c x=>b6b ρ H x y
  |_=>False
 |.agg cs'=>match s with
  |.agg cs=>a54 ρ H cs cs'
  |_=>False
 |.tup _=>False
def a0p (ρ:List (Option Nat)) (H:Hp):Env->Env->Prop
 |[],[]=>True
 |s::r,s'::r'=>match s' with
  |.junk=>a0p ρ H r r'
  |s'=>a7B ρ H s s'/\a0p ρ H r r'
 |_,_=>False
def L4 (rows:List (List C)):Prop:=∀r ∈ rows,∀c ∈ r,c.isT=true
def a4R (ρ:List (Option Nat)) (H:Hp):List (List C)->List (List C)->Prop
 |[],[]=>True
 |x::r,y::r'=>a54 ρ H x y/\a4R ρ H r r'
 |_,_=>False
def a3X (k k':Blk):Bool:=match k.mode,k'.mode with
 |.live,.live=>cond k.app k'.app true
 |.live,.old=>k.app
 |.froz,.froz=>true
 |.old,.old=>true
 |.dead,.dead=>true
 |_,_=>false
def Z7 {k k':Blk} (h:a3X k k'=true):(k'.mode≠.dead->k.mode≠.dead)/\(k'.mode=.live->k.mode=.live/\(k.app=true->k'.app=true))/\(k'.mode=.froz->k.mode=.froz)/\
 (k'.mode=.old->k.mode=.old\/(k.mode=.live/\k.app=true)):=by
 unfold a3X at h;cases h1:k.mode<;>cases h2:k'.mode<;>rw [h1,h2] at h<;>simp at h ⊢
 ·intro ha;rw [ha] at h;simpa using h
 ·exact h
def a3g (ρ:List (Option Nat)) (H:Hp) (k k':Blk):Prop:=
 a3X k k'=true/\k.elem=k'.elem/\k.size=k'.size/\((k.rows=k'.rows/\L4 k.rows)\/a4R ρ H k.rows k'.rows)
def a4p (ρ:List (Option Nat)) (H:Hp):List (Option Nat)->Hp->Prop
 |[],[]=>True
 |x::r,k'::r'=>(match x with
  |none=>k'.rows=[]/\k'.mode=.live
  |some id=>match H[id]? with
   |some k=>a3g ρ H k k'
   |none=>False)/\a4p ρ H r r'
 |_,_=>False
def a5P:Nat->List (Option Nat)->Hp->Bool
 |n,x::r,k::H=>(match x,k.mode with
  |_,.old=>false
  |some m,_=>Nat.beq m n
  |none,_=>false) || a5P n r H
 |_,_,_=>false
def Y2:List (Option Nat)->Hp->Bool
 |none::r,_::H=>Y2 r H
 |some n::r,k::H=>(match k.mode with
  |.old=>true
  |_=>!(a5P n r H)) && Y2 r H
 |_,_=>true
def a33 (ρ:List (Option Nat)):Nat->Bool
 |0=>true
 |n+1=>(match ρ[n]? with|some (some m)=>Nat.beq m n|_=>false) && a33 ρ n
def Ent (n0:Nat) (ρ:List (Option Nat)) (env:Env) (H:Hp) (env':Env) (H':Hp):Prop:=
 a33 ρ n0=true/\Y2 ρ H'=true/\a4p ρ H ρ H'/\a0p ρ H env env'
def V5 (ρ:List (Option Nat)) (ι:Io):Io:=fun id=>match ρ[id]? with
 |some (some j)=>ι j
 |some none=>some .nil
 |none=>none
def a9k (ρ:List (Option Nat)) (H:Hp) (ι:Io) (M:Ms):Ms:=fun b=>M b/\¬∃id k cap size,M3 ρ id=true/\H[id]? =some k/\¬k.mode.gone/\ι id=some (.blk b cap size)
def aL6:∀{ρ:List (Option Nat)} {i n:Nat},ρ[i]? =some (some n)->M3 ρ n=true->False
 |[],i,n,h,_=>by simp at h
 |x::r,i,n,h,hn=>by
  have hr:M3 r n=true:=by cases x<;>simp [M3] at hn<;>first|exact hn|exact hn.2
  cases i with
  |zero=>
   simp at h;subst h;simp [M3] at hn
  |succ i=>exact aL6 (by simpa using h) hr
def RC.sub {w:World} {ι:Io} {M M':Ms} (hM:∀b,M' b->M b) {x:C} {v:Value} (h:RC w ι M x v):RC w ι M' x v:=h.keep (fun _ _ _=>rfl) (fun b hb=>.inl (hM b hb)) (fun _ _ h=>h)
def bp4.rc {w:World} {ι:Io} {M:Ms} {ρ:List (Option Nat)} {H:Hp} {x y:C} {v:Value} (h:bp4 ρ x y) (hr:RC w ι M x v):RC w (V5 ρ ι) (a9k ρ H ι M) y v:=by
 cases y with
 |t y=>
  cases x with
  |t x=>
   have h:x=y:=h;subst h;cases hr with
   |t hr=>exact .t (hr.keep (fun _ _ _=>rfl) fun b hb=>.inl hb.1)
  |_=>exact False.elim h
 |ptr id' r' o'=>
  cases x with
  |ptr id r o=>
   obtain ⟨h1,rfl,rfl⟩:=h;cases hr with
   |ptr hi=>exact .ptr (by unfold V5;rw [h1];exact hi)
  |_=>exact False.elim h
 |own _ _ _ _=>exact False.elim h
 |fn _ _=>exact False.elim h
def aK7.get {ρ:List (Option Nat)}:∀{xs ys:List C},aK7 ρ xs ys->xs.length=ys.length/\∀(j:Nat) (x y:C),xs[j]? =some x->ys[j]? =some y->bp4 ρ x y
 |[],[],_=>⟨rfl,zq⟩
 |x::xs,y::ys,h=>by
  obtain ⟨h1,h2⟩:=aK7.get h.2;refine ⟨by simp [h1],fun j x' y' hx hy=>?_⟩;cases j with
  |zero=>simp at hx hy;subst hx hy;exact h.1
  |succ j=>exact h2 j x' y' (by simpa using hx) (by simpa using hy)
 |[],_::_,h=>h.elim
 |_::_,[],h=>h.elim
def b6b.rc {w:World} {ι:Io} {M:Ms} {ρ:List (Option Nat)} {H:Hp} (hH:v4 w ι M H) {x y:C} {v:Value} (h:b6b ρ H x y) (hr:RC w ι M x v):RC w (V5 ρ ι) (a9k ρ H ι M) y v:=by
 cases y with
 |t y=>
  have h:VC H (fun id=>M3 ρ id=true) x y:=by cases x<;>first|exact h|(simp only [VC];exact h)
  refine .t (VC.rt hH (fun b hb=>hb.1) ?_ x y v h hr);intro id k b cap size hp hk hd hi hb;exact hb.2 ⟨id,k,cap,size,hp,hk,hd,hi⟩
 |own id' lo' len' app'=>
  cases x with
  |t x=>
   cases x with
   |sl size k rows=>
    cases k with
    |nil=>
     obtain ⟨h1,rfl,rfl⟩:=h;cases hr with
     |t hr=>cases hr with
      |sl f hrow hcap hmax hk hn hA hc hr=>
       obtain ⟨rfl,rfl,rfl⟩:=hn rfl;exact .nil (by unfold V5;rw [h1])
    |full=>
     cases rows with
     |nil=>
      obtain ⟨h1,rfl,rfl⟩:=h;cases hr with
      |t hr=>cases hr with
       |sl f hrow hcap hmax hk hn hA hc hr=>
        obtain rfl:=hk rfl;exact .nil (by unfold V5;rw [h1])
     |cons _ _=>exact False.elim h
    |any=>exact False.elim h
    |nul=>exact False.elim h
    |non=>exact False.elim h
   |_=>exact False.elim h
  |own id lo len app=>
   obtain ⟨h1,rfl,rfl,happ⟩:=h;cases hr with
   |own hi q1 q2 q3 q4 q5=>exact .own (by unfold V5;rw [h1];exact hi) q1 q2 q3 q4 (fun h=>q5 (happ h))
   |nil hi=>exact .nil (by unfold V5;rw [h1];exact hi)
  |_=>exact False.elim h
 |ptr id' r' o'=>
  cases x with
  |ptr id r o=>
   obtain ⟨h1,rfl,rfl⟩:=h;cases hr with
   |ptr hi=>exact .ptr (by unfold V5;rw [h1];exact hi)
  |_=>exact False.elim h
 |fn f' caps'=>
  cases x with
  |fn f caps=>
   obtain ⟨rfl,h⟩:=h;obtain ⟨h1,h2⟩:=aK7.get h;cases hr with
   |fn vs hl hr=>
    refine .fn vs om fun j c hj=>?_
    have hlt:=(lbe.1 hj).1;exact (h2 j _ c (lbf om) hj).rc (hr j _ (lbf om))
  |_=>exact False.elim h
section
variable {w:World} {ι:Io} {M:Ms} {ρ:List (Option Nat)} {H:Hp} (hH:v4 w ι M H)
include hH
def a54.rc:∀{xs ys:List C},a54 ρ H xs ys->xs.length=ys.length/\∀(j:Nat) (x y:C) (v:Value),xs[j]? =some x->ys[j]? =some y->RC w ι M x v->RC w (V5 ρ ι) (a9k ρ H ι M) y v
 |[],[],_=>⟨rfl,zq⟩
 |x::xs,y::ys,h=>by
  obtain ⟨h1,h2⟩:=a54.rc h.2;refine ⟨by simp [h1],fun j x' y' v hx hy hr=>?_⟩;cases j with
  |zero=>simp at hx hy;subst hx hy;exact h.1.rc hH hr
  |succ j=>exact h2 j x' y' v (by simpa using hx) (by simpa using hy) hr
 |[],_::_,h=>h.elim
 |_::_,[],h=>h.elim
def a7B.rs {s s':S} {v:Value} (h:a7B ρ H s s') (hr:RS w ι M s v):RS w (V5 ρ ι) (a9k ρ H ι M) s' v:=by
 unfold a7B at h;split at h
 ·exact .junk
 ·split at h
  ·exact .c (b6b.rc hH h hr.inv_c)
  ·exact h.elim
 ·split at h
  ·cases hr with
   |agg vs hl hr=>
    obtain ⟨h1,h2⟩:=a54.rc hH h;refine .agg vs om fun j c hj=>?_
    have hlt:=(lbe.1 hj).1;exact h2 j _ c _ (lbf om) hj (hr j _ (lbf om))
  ·exact h.elim
 ·exact h.elim
omit hH in
def a0p.rel:∀{env env':Env},a0p ρ H env env'->env.length=env'.length/\∀(t:Nat) (s':S),env'[t]? =some s'->∃s,env[t]? =some s/\a7B ρ H s s'
 |[],[],_=>⟨rfl,zq⟩
 |s::r,s'::r',h=>by
  have h':a7B ρ H s s'/\a0p ρ H r r':=by
   cases s' with
   |junk=>exact ⟨trivial,h⟩
   |_=>exact h
  obtain ⟨h1,h2⟩:=a0p.rel h'.2;refine ⟨by simp [h1],fun t s'' ht=>?_⟩;cases t with
  |zero=>simp at ht;subst ht;exact ⟨s,rfl,h'.1⟩
  |succ t=>simpa using h2 t s'' (by simpa using ht)
 |[],_::_,h=>h.elim
 |_::_,[],h=>h.elim
def a4R.rc:∀{xs ys:List (List C)},a4R ρ H xs ys->xs.length=ys.length/\(∀ n,(∀ r ∈ xs,r.length=n)->∀r ∈ ys,r.length=n)/\
 ∀(i j:Nat) (y:C),at2 ys i j=some y->∃x,at2 xs i j=some x/\∀v,RC w ι M x v->RC w (V5 ρ ι) (a9k ρ H ι M) y v
 |[],[],_=>⟨rfl,zq,by simp [at2]⟩
 |x::xs,y::ys,h=>by
  obtain ⟨h1,h2,h3⟩:=a4R.rc h.2;obtain ⟨q1,q2⟩:=a54.rc hH h.1;refine ⟨by simp [h1],fun n hn r hr=>?_,fun i j y' hy=>?_⟩
  ·rcases lbA.1 hr with rfl|hr
   ·rw [← q1];exact hn x zq
   ·exact h2 n (fun r hr=>hn r (by simp [hr])) r hr
  ·obtain ⟨row,r1,r2⟩:=J0 hy;cases i with
   |zero=>
    simp at r1;subst r1;have hlt:=(lbe.1 r2).1;exact ⟨_,G3 rfl (lbf om),fun v hv=>q2 j _ _ v (lbf om) r2 hv⟩
   |succ i=>
    obtain ⟨x',s1,s2⟩:=h3 i j y' (G3 (by simpa using r1) r2);obtain ⟨row',t1,t2⟩:=J0 s1;exact ⟨x',G3 (by simpa using t1) t2,s2⟩
 |[],_::_,h=>h.elim
 |_::_,[],h=>h.elim
end
def a4p.get {ρ:List (Option Nat)} {H:Hp}:∀{r:List (Option Nat)} {H':Hp},a4p ρ H r H'->r.length=H'.length/\∀(id:Nat) (k':Blk),H'[id]? =some k'->
 (r[id]? =some none/\k'.rows=[]/\k'.mode=.live)\/∃j k,r[id]? =some (some j)/\H[j]? =some k/\a3g ρ H k k'
 |[],[],_=>⟨rfl,zq⟩
 |x::r,k::H',h=>by
  obtain ⟨h1,h2⟩:=a4p.get h.2;refine ⟨by simp [h1],fun id k' hk=>?_⟩;cases id with
  |zero=>
   simp at hk;subst hk;have hx:=h.1;cases x with
   |none=>exact .inl ⟨rfl,hx⟩
   |some j=>
    refine .inr ⟨j,?_⟩;simp only at hx;split at hx
    ·rename_i k0 hk0;exact ⟨k0,rfl,hk0,hx⟩
    ·exact hx.elim
  |succ id=>simpa using h2 id k' (by simpa using hk)
 |[],_::_,h=>h.elim
 |_::_,[],h=>h.elim
def aM6:∀{r:List (Option Nat)} {H:Hp} {n j:Nat} {k:Blk},a5P n r H=false->r[j]? =some (some n)->H[j]? =some k->k.mode=.old
 |[],_,n,j,k,_,h,_=>by simp at h
 |x::r,[],n,j,k,_,_,h=>by simp at h
 |x::r,k0::H,n,0,k,hs,h,hk=>by
  simp at h hk;subst h hk;simp only [a5P,a2f] at hs;cases hm:k0.mode with
  |old=>rfl
  |_=>rw [hm] at hs;simp at hs
 |x::r,k0::H,n,j+1,k,hs,h,hk=>by
  simp only [a5P,a2f] at hs;exact aM6 hs.2 (by simpa using h) (by simpa using hk)
def aJ3:∀{l:List (Option Nat)} {H:Hp},Y2 l H=true->∀(i j n:Nat) (k k':Blk),l[i]? =some (some n)->l[j]? =some (some n)->H[i]? =some k->H[j]? =some k'->k.mode≠.old->k'.mode≠.old->i=j
 |[],_,_,i,j,n,k,k',h,_,_,_,_,_=>by simp at h
 |x::r,[],_,i,j,n,k,k',_,_,h,_,_,_=>by simp at h
 |x::r,k0::H,hn,i,j,n,k,k',hi,hj,hk,hk',ho,ho'=>by
  have hr:Y2 r H=true:=by
   cases x with
   |none=>exact hn
   |some m=>simp only [Y2,lbN] at hn;exact hn.2
  have hx:∀(q:Nat) (kq:Blk),x=some n->k0.mode≠.old->r[q]? =some (some n)->H[q]? =some kq->kq.mode=.old:=fun q kq hxn h0 hq hkq=>by
   subst hxn;simp only [Y2,lbN] at hn;have h1:=hn.1;have:a5P n r H=false:=by
    cases hm:k0.mode with
    |old=>exact absurd hm h0
    |_=>simpa using h1
   exact aM6 this hq hkq
  cases i with
  |zero=>cases j with
   |zero=>rfl
   |succ j=>
    simp at hi hj hk hk';subst hk;exact absurd (hx j k' hi ho hj hk') ho'
  |succ i=>cases j with
   |zero=>
    simp at hi hj hk hk';subst hk';exact absurd (hx i k hj ho' hi hk) ho
   |succ j=>
    simp at hi hj hk hk';rw [aJ3 hr i j n k k' hi hj hk hk' ho ho']
def a9R {ρ:List (Option Nat)}:∀{n:Nat},a33 ρ n=true->∀i,i<n->ρ[i]? =some (some i)
 |0,_,i,h=>om
 |n+1,hk,i,h=>by
  simp only [a33,lbN] at hk;by_cases hi:i=n
  ·subst hi;have:=hk.1;split at this
   ·rename_i m hm;rw [hm,a1m this]
   ·cases this
  ·exact a9R hk.2 i om
def aA4 {w:World} {ι ι':Io} {M M':Ms} (hM:∀b,M' b->M b) {rows:List (List C)} (h:L4 rows) {i j:Nat} {c:C} (hc:at2 rows i j=some c) {u:Value} (hr:RC w ι M c u):RC w ι' M' c u:=by
 obtain ⟨row,h1,h2⟩:=J0 hc;exact (hr.tree (h row (lbm h1) c (lbm h2))).sub hM
def a4p.all {n0:Nat} {ρ:List (Option Nat)} {H H':Hp} (h1:a33 ρ n0=true) (h2:Y2 ρ H'=true) (h3:a4p ρ H ρ H') {w0:World} {ι0:Io} {M0:Ms} {H0:Hp} {w:World} {ι:Io} {M:Ms} (hn:H0.length=n0) (hM0:MB w0 M0)
 (hH:v4 w ι M H) (hst:a4f w0 ι0 M0 H0 w ι M H):v4 w (V5 ρ ι) (a9k ρ H ι M) H'/\a0S (V5 ρ ι) H'.length/\a4f w0 ι0 M0 H0 w (V5 ρ ι) (a9k ρ H ι M) H':=by
 obtain ⟨hl,hg0⟩:=a4p.get h3;have hg:∀(id:Nat) (k':Blk),H'[id]? =some k'->(ρ[id]? =some none/\k'.rows=[]/\k'.mode=.live)\/∃j k,ρ[id]? =some (some j)/\H[j]? =some k/\a3X k k'=true/\k.elem=k'.elem/\k.size=k'.size/\
  ((k.rows=k'.rows/\L4 k.rows)\/a4R ρ H k.rows k'.rows):=fun id k' hk=>by
  rcases hg0 id k' hk with h|⟨j,k,q1,q2,q3,q4,q5,q6⟩
  ·exact .inl h
  ·exact .inr ⟨j,k,q1,q2,q3,q4,q5,q6⟩
 have hlen:∀{k k':Blk},((k.rows=k'.rows/\L4 k.rows)\/a4R ρ H k.rows k'.rows)->k.rows.length=k'.rows.length:=fun h=>by
  rcases h with h|h
  ·rw [h.1]
  ·exact (a4R.rc hH h).1
 have hsub:∀b,a9k ρ H ι M b->M b:=fun b hb=>hb.1
 have hren:∀id j,ρ[id]? =some (some j)->V5 ρ ι id=ι j:=fun id j hj=>by unfold V5;rw [hj]
 have hnil:∀id,ρ[id]? =some none->V5 ρ ι id=some .nil:=fun id hj=>by unfold V5;rw [hj]
 have hle:H0.length<=H'.length:=by
  rw [← hl,hn];rcases H6 ρ.length n0 with hlt|hge
  ·have:=a9R h1 ρ.length hlt;simp at this
  ·exact hge
 refine ⟨⟨?_,?_,?_,?_,?_⟩,?_,⟨hst.os,hst.tape,hst.output,hst.size,hst.keep,?_,fun b hb=>hst.mnew b hb.1,?_,?_,hle⟩⟩
 ·intro id k' hk hd l hll;rcases hg id k' hk with ⟨q1,q2,q3⟩|⟨j,k,q1,q2,q3,q4,q5,q6⟩
  ·rw [hnil id q1] at hll;injection hll with hll;subst hll;exact q2
  ·rw [hren id j q1] at hll;have hb:=hH.blk j k q2 ((Z7 q3).1 hd) l hll;cases l with
   |nil=>
    have hb':k.rows=[]:=hb;show k'.rows=[];rcases q6 with ⟨q6,_⟩|q6
    ·rw [← q6,hb']
    ·rw [hb'] at q6;cases hr:k'.rows with
     |nil=>rfl
     |cons y ys=>rw [hr] at q6;exact q6.elim
   |blk b cap size=>
    obtain ⟨r1,r2,r3,r4,r5,cur,r6,r7,r8⟩:=hb;rcases q6 with ⟨q6,q7⟩|q6
    ·refine ⟨by rw [← q5];exact r1,r2,by rw [← q6];exact r3,r4,by rw [← q6];exact r5,cur,by rw [← q4];exact r6,r7,fun i j c hc=>?_⟩;rw [← q6] at hc;obtain ⟨u,s1,s2⟩:=r8 i j c hc;exact ⟨u,s1,aA4 hsub q7 hc s2⟩
    ·obtain ⟨t1,t2,t3⟩:=a4R.rc hH q6;refine ⟨by rw [← q5];exact r1,r2,by rw [← t1];exact r3,r4,t2 size r5,cur,by rw [← q4];exact r6,r7,fun i j c hc=>?_⟩;obtain ⟨x,u1,u2⟩:=t3 i j c hc;obtain ⟨u,s1,s2⟩:=r8 i j x u1;exact ⟨u,s1,u2 u s2⟩
 ·intro id k' hk hm b cap size hi;rcases hg id k' hk with ⟨q1,q2,q3⟩|⟨j,k,q1,q2,q3,q4,q5,q6⟩
  ·rw [hnil id q1] at hi;cases hi
  ·rw [hren id j q1] at hi;have hkl:k.mode=.live:=((Z7 q3).2.1 hm).1;have hMb:=hH.liv j k q2 hkl b cap size hi;refine ⟨hMb,?_⟩;rintro ⟨id2,k2,cap2,size2,n1,n2,n3,n4⟩;cases hm2:k2.mode with
   |live=>
    have:=hH.inj j id2 k k2 q2 n2 hkl hm2 _ _ _ _ _ hi n4;subst this;exact aL6 q1 n1
   |froz=>exact hH.fro id2 k2 n2 hm2 _ _ _ n4 hMb
   |old=>exact n3 (by rw [hm2];trivial)
   |dead=>exact n3 (by rw [hm2];trivial)
 ·intro id k' hk hm b cap size hi;rcases hg id k' hk with ⟨q1,q2,q3⟩|⟨j,k,q1,q2,q3,q4,q5,q6⟩
  ·rw [hnil id q1] at hi;cases hi
  ·rw [hren id j q1] at hi;exact fun hb=>hH.fro j k q2 ((Z7 q3).2.2.1 hm) b cap size hi hb.1
 ·intro id id' k k' hk hk' hm hm' b cap size cap' size' hi hi';rcases hg id k hk with ⟨q1,q2,q3⟩|⟨j,k1,q1,q2,q3,q4,q5,q6⟩
  ·rw [hnil id q1] at hi;cases hi
  ·rcases hg id' k' hk' with ⟨q1',q2',q3'⟩|⟨j',k1',q1',q2',q3',q4',q5',q6'⟩
   ·rw [hnil id' q1'] at hi';cases hi'
   ·rw [hren id j q1] at hi;rw [hren id' j' q1'] at hi';have:=hH.inj j j' k1 k1' q2 q2' ((Z7 q3).2.1 hm).1 ((Z7 q3').2.1 hm').1 _ _ _ _ _ hi hi';subst this;exact aJ3 h2 id id' j k k' q1 q1' hk hk' (by rw [hm];intro h;cases h) (by rw [hm'];intro h;cases h)
 ·intro id id' k k' hk hk' hm hm' b cap size cap' size' hi hi';rcases hg id k hk with ⟨q1,q2,q3⟩|⟨j,k1,q1,q2,q3,q4,q5,q6⟩
  ·rw [hnil id q1] at hi;cases hi
  ·rcases hg0 id' k' hk' with ⟨q1',q2',q3'⟩|⟨j',k1',q1',q2',q3',q4',q5',q6'⟩
   ·rw [hnil id' q1'] at hi';cases hi'
   ·rw [hren id j q1] at hi;rw [hren id' j' q1'] at hi';obtain ⟨hl1,s2⟩:=(Z7 q3').2.1 hm';rcases (Z7 q3).2.2.2 hm with ho|⟨ho,ha⟩
    ·obtain ⟨t1,t2,t3⟩:=hH.old j j' k1 k1' q2 q2' ho hl1 _ _ _ _ _ hi hi';exact ⟨s2 t1,t2,by rw [← hlen q6,←hlen q6'];exact t3⟩
    ·have hjj:=hH.inj j j' k1 k1' q2 q2' ho hl1 _ _ _ _ _ hi hi';subst hjj;rw [q2] at q2';injection q2' with q2';subst q2';rw [hi] at hi';injection hi' with hi';injection hi' with _ _ hi';exact ⟨s2 ha,hi',by rw [← hlen q6,←hlen q6'];exact lbR _⟩
 ·intro id hid;unfold V5;rw [lbd om]
 ·intro id hid;rw [hren id id (a9R h1 id om)];exact hst.same id hid
 ·intro b hb;rcases hst.mold b hb with h|h
  ·by_cases hx:∃id k cap size,M3 ρ id=true/\H[id]? =some k/\¬k.mode.gone/\ι id=some (.blk b cap size)
   ·obtain ⟨id,k,cap,size,n1,n2,n3,n4⟩:=hx;refine .inr ?_;have hlive:k.mode=.live:=by
     cases hm:k.mode with
     |live=>rfl
     |froz=>exact absurd h (hH.fro id k n2 hm _ _ _ n4)
     |old=>exact absurd (by rw [hm];trivial) n3
     |dead=>exact absurd (by rw [hm];trivial) n3
    rcases hst.live b ⟨id,k,cap,size,n2,hlive,n4⟩ with h'|h'
    ·exact h'
    ·have:=hM0 b hb;omega
   ·exact .inl ⟨h,hx⟩
  ·exact .inr h
 ·rintro b ⟨id,k',cap,size,hk,hm,hi⟩;rcases hg id k' hk with ⟨q1,q2,q3⟩|⟨j,k,q1,q2,q3,q4,q5,q6⟩
  ·rw [hnil id q1] at hi;cases hi
  ·rw [hren id j q1] at hi;exact hst.live b ⟨j,k,cap,size,q2,((Z7 q3).2.1 hm).1,hi⟩
def Ent.sim {n0:Nat} {ρ:List (Option Nat)} {env env':Env} {H H':Hp} (h:Ent n0 ρ env H env' H') {w0:World} {ι0:Io} {M0:Ms} {H0:Hp} {a:Act} {w:World} (hn:H0.length=n0) (hM0:MB w0 M0)
 (hs:Sim w0 ι0 M0 H0 a w env H):Sim w0 ι0 M0 H0 a w env' H':=by
 obtain ⟨h1,h2,h3,h4⟩:=h;obtain ⟨ι,M,hd,hsz,he,hH,hM,hF,hst⟩:=hs;obtain ⟨hel,heg⟩:=a0p.rel h4;obtain ⟨q1,q2,q3⟩:=a4p.all h1 h2 h3 hn hM0 hH hst;refine ⟨V5 ρ ι,_,hd,om,fun t s' ht=>?_,q1,fun b hb=>hM b hb.1,q2,q3⟩;obtain ⟨s,q1,q2⟩:=heg t s' ht;exact q2.rs hH (he t s q1)
def a9b (ρ:List (Option Nat)) (H:Hp) (s s':S):Prop:=
 match s' with
 |.tup ss'=>match s with
  |.tup ss=>a0p ρ H ss ss'
  |_=>False
 |s'=>a7B ρ H s s'
structure Fin (n0:Nat) (r:S) (H1:Hp) (s:S) (H':Hp):Prop where
 out:∃ρ,a33 ρ n0=true/\Y2 ρ H'=true/\a4p ρ H1 ρ H'/\a9b ρ H1 r s
def a9b.rs {w:World} {ι:Io} {M:Ms} {ρ:List (Option Nat)} {H:Hp} (hH:v4 w ι M H) {s s':S} {v:Value} (h:a9b ρ H s s') (hr:RS w ι M s v):RS w (V5 ρ ι) (a9k ρ H ι M) s' v:=by
 cases s' with
 |tup ss'=>
  cases s with
  |tup ss=>
   cases hr with
   |tup vs hl hr=>
    obtain ⟨h1,h2⟩:=a0p.rel h;refine .tup vs om fun j s hj=>?_
    obtain ⟨s0,q1,q2⟩:=h2 j s hj;exact q2.rs hH (hr j s0 q1)
  |_=>exact False.elim h
 |_=>exact a7B.rs hH h hr
def p7 {r s:S} {H1:Hp} (h:a9b [] H1 r s):Fin 0 r H1 s []:=⟨[],rfl,rfl,trivial,h⟩
def b8c {P : Program} {τ : Tab} (hτ : G5 P τ) {f : FuncId} {fn : Func} {c : Code} {args : List S} {H : Hp} {s : S} {H' : Hp} (hf : P.funcs[f]? = some fn) (hb : fn.body = some c) (hn : fn.name ≠ "runtime.NumGoroutine")
    (h:a5M P τ H.length c (args++List.replicate (fn.ntmps - args.length) .junk) H fun x env' H1=>match x with
      |.exit _=>False
      |_=>a9q τ fn env' H1 fun r=>Fin H.length r H1 s H'):e8 P f args H s H':=by
  refine ⟨⟨fn,hf,by rw [hb];rfl,hn⟩,fun w ι M vals hl hr hH hM hF=>?_⟩;refine calls_of_wp hf hb ?_;have hi:=Sim.init hl hr hH hM hF (fn.ntmps - args.length);have:=(t4 hτ c h).out w ι M H _ w rfl hM hi;have e:vals.toArray.size=args.length:=by simpa using hl
  rw [e];refine wp_mono this ?_;rintro e a' w' ⟨x,env',H1,rfl,hq,ι',M',hd,hsz,he,hH',hM',hF',hst⟩;have key:(a9q τ fn env' H1 fun r=>Fin H.length r H1 s H')->a'.defers=[]/\∃v,(results fn a'.tmps).run P w'=.ok v w'/\∃v',Ending.returned v=.returned v'/\K4 w ι M H s H' v' w':=by
   intro hq;refine ⟨hd,?_⟩;obtain ⟨l,hk,vs,h1,h2,h3⟩:=a8K hτ he hH' fn.results.toList hq;have hrun:∃v,(results fn a'.tmps).run P w'=.ok v w'/\v=(if h:vs.length=1 then vs[0] else .tuple vs.toArray):=by
    refine ⟨_,?_,rfl⟩;unfold results;rw [Array.mapM_eq_mapM_toList,Sem.run_bind,Sem.run_map];refine (congrArg (fun r=>Result.andThen (Result.andThen r _) _) h1).trans ?_;simp
   obtain ⟨v,hv1,rfl⟩:=hrun;refine ⟨_,hv1,_,rfl,?_⟩;have hsr:∃r,RS w' ι' M' r (if h:vs.length=1 then vs[0] else .tuple vs.toArray)/\Fin H.length r H1 s H':=by
    match l,hk,h2,h3 with
    |[s1],hk,h2,h3=>
     refine ⟨s1,?_,hk⟩;rw [dif_pos (by simpa using h2)];have:=h3 0 s1 rfl;rw [lbl,lbf (by simp at h2;omega)] at this;exact this
    |[],hk,h2,h3=>
     refine ⟨_,?_,hk⟩;rw [dif_neg (by simp at h2;simp [h2])];exact .tup vs h2 h3
    |s1::s2::r,hk,h2,h3=>
     refine ⟨_,?_,hk⟩;rw [dif_neg (by simp at h2;omega)];exact .tup vs h2 h3
   obtain ⟨r,h4,ρ,f1,f2,f3,f4⟩:=hsr;obtain ⟨g1,g2,g3⟩:=a4p.all f1 f2 f3 rfl hM hH' hst;exact ⟨V5 ρ ι',_,f4.rs hH' h4,g1,fun b hb=>hM' b hb.1,g2,g3⟩
  cases x with
  |normal=>exact key hq
  |ret=>exact key hq
  |exit id=>exact hq.elim
def a2y (p:Nat->Prop) (h:∃n,p n):∃n,p n/\∀m,p m->n<=m:=by
 obtain ⟨n,hn⟩:=h;induction n using Nat.strongRecOn with
 |_ n ih=>
  by_cases hex:∃m,m<n/\p m
  ·obtain ⟨m,hm,hp⟩:=hex;exact ih m hm hp
  ·exact ⟨n,hn,fun m hm=>aV6 fun hlt=>hex ⟨m,hlt,hm⟩⟩
def a9I {P:Program} {n0:Nat} {c:Code} {env:Env} {H:Hp} {Q:AX->Env->Hp->Prop} {σ:Type} (E:σ->Env × Hp) (μ:σ->Nat) (x0:σ) (ρ0:List (Option Nat))
 (h0:Ent n0 ρ0 env H (E x0).1 (E x0).2)
 (round:∀x,Awp P n0 c (E x).1 (E x).2 fun a env' H'=>match a with
   |.normal=>∃ρ x',Ent n0 ρ env' H' (E x').1 (E x').2/\μ x'<μ x
   |a=>Q a env' H'):Awp P n0 (.loop c) env H Q:=by
 refine ⟨fun w0 ι0 M0 H0 a w hn hM hs=>?_⟩;have hs0:=h0.sim hn hM hs
 let I:Act->World->Prop:=fun a w=>∃x,Sim w0 ι0 M0 H0 a w (E x).1 (E x).2
 let J:Act->World->Nat->Prop:=fun a w n=>∃x,μ x=n/\Sim w0 ι0 M0 H0 a w (E x).1 (E x).2
 have hJ:∀a w,I a w->∃n,J a w n:=fun a w ⟨x,hx⟩=>⟨μ x,x,rfl,hx⟩
 classical
 let m:Act->World->Nat:=fun a w=>if h:∃n,J a w n then Classical.choose (a2y _ h) else 0
 have hmin:∀a w x,Sim w0 ι0 M0 H0 a w (E x).1 (E x).2->m a w<=μ x:=fun a w x hx=>by
  have h:∃n,J a w n:=⟨μ x,x,rfl,hx⟩;show (if h:∃n,J a w n then Classical.choose (a2y _ h) else 0)<=μ x;rw [dif_pos h];exact (a8f (a2y _ h)).2 _ ⟨x,rfl,hx⟩
 refine wp_loop I m ⟨x0,hs0⟩ fun a w hI=>?_
 have hex:=hJ a w hI;have hm:m a w=Classical.choose (a2y _ hex):=by
  show (if h:∃n,J a w n then Classical.choose (a2y _ h) else 0)=_;rw [dif_pos hex]
 obtain ⟨x,hx1,hx2⟩:=(a8f (a2y _ hex)).1;have hr:=(round x).out w0 ι0 M0 H0 a w hn hM hx2;refine wp_mono hr ?_;rintro e a' w' ⟨ax,env',H',rfl,hq,hs'⟩;cases ax with
 |normal=>
  obtain ⟨ρ,x',h1,h2⟩:=hq;have hs2:=h1.sim hn hM hs';refine ⟨⟨x',hs2⟩,?_⟩;have:=hmin a' w' x' hs2;omega
 |exit id=>exact ⟨_,env',H',rfl,hq,hs'⟩
 |ret=>exact ⟨_,env',H',rfl,hq,hs'⟩
def k5 {P:Program} {τ:Tab} (hτ:G5 P τ) {n0:Nat} {c:Code} {env:Env} {H:Hp} {Q:AX->Env->Hp->Prop} (E:Nat->Env × Hp) (n:Nat) (I:Nat->Prop) (ρ0:List (Option Nat))
 (hI:I 0) (h0:Ent n0 ρ0 env H (E 0).1 (E 0).2)
 (round:∀k,k<=n->I k->a5M P τ n0 c (E k).1 (E k).2 fun a env' H'=>match a with
   |.normal=>k<n/\I (k+1)/\∃ρ,Ent n0 ρ env' H' (E (k+1)).1 (E (k+1)).2
   |a=>Q a env' H'):Awp P n0 (.loop c) env H Q:=by
 refine a9I (σ:={ k:Nat // k<=n/\I k }) (fun k=>E k.1) (fun k=>n - k.1) ⟨0,G6 _,hI⟩ ρ0 h0 ?_;rintro ⟨k,hk,hi⟩;refine (t4 hτ c (round k hk hi)).mono ?_;intro a env' H' h;cases a with
 |normal=>
  obtain ⟨h1,h2,ρ,h3⟩:=h;exact ⟨ρ,⟨k+1,h1,h2⟩,h3,by show n - (k+1)<n - k;omega⟩
 |exit id=>exact h
 |ret=>exact h
def S4 {n m:Int} {K:Prop} (h0:0<=n) (h1:n<m) (k:K):(0<=n/\n<m)/\K:=⟨⟨h0,h1⟩,k⟩
def j6 {α:Type} {xs:List α} {f:α->List T} {k:Nat} {x:α} {K:List T->Prop} (hx:xs[k]? =some x) (h:K (f x)):∃row,0<=(k:Int)/\(xs.map f)[(k:Int).toNat]? =some row/\K row:=
 ⟨f x,om,by simp [hx],h⟩
def K3 {α:Type} {xs:List α} {f:α->List T} {n:Int} {x:α} {K:List T->Prop} (h0:0<=n) (hx:xs[n.toNat]? =some x) (h:K (f x)):∃row,0<=n/\(xs.map f)[n.toNat]? =some row/\K row:=
 ⟨f x,h0,by simp [hx],h⟩
end
section
open Go.RowKit
def T.flat:T->Bool
 |.atm _=>true
 |_=>false
def C.flat:C->Bool
 |.t x=>x.flat
 |_=>false
def S.flat:S->Bool
 |.junk=>true
 |.c x=>x.flat
 |.agg cs=>cs.all C.flat
 |.tup ss=>ss.all fun s=>match s with
  |.c x=>x.flat
  |.agg cs=>cs.all C.flat
  |.junk=>true
  |.tup _=>false
def RC.flat {w:World} {ι ι':Io} {M M':Ms} {x:C} {v:Value} (h:x.flat=true) (hr:RC w ι M x v):RC w ι' M' x v:=by
 cases hr with
 |t hr=>cases hr with
  |atm hv=>exact .t (.atm hv)
  |_=>cases h
 |_=>cases h
def RS.flat1 {w:World} {ι ι':Io} {M M':Ms} {s:S} {v:Value} (h:(match s with|.c x=>x.flat|.agg cs=>cs.all C.flat|.junk=>true|.tup _=>false)=true) (hr:RS w ι M s v):RS w ι' M' s v:=by
 cases hr with
 |junk=>exact .junk
 |c hr=>exact .c (hr.flat h)
 |agg vs hl hr=>exact .agg vs hl fun j c hj=>(hr j c hj).flat (lbv.1 h c (lbm hj))
 |tup vs hl hr=>cases h
def RS.flat {w:World} {ι ι':Io} {M M':Ms} {s:S} {v:Value} (h:s.flat=true) (hr:RS w ι M s v):RS w ι' M' s v:=by
 cases hr with
 |junk=>exact .junk
 |c hr=>exact .c (hr.flat h)
 |agg vs hl hr=>exact .agg vs hl fun j c hj=>(hr j c hj).flat (lbv.1 h c (lbm hj))
 |tup vs hl hr=>exact .tup vs hl fun j s hj=>(hr j s hj).flat1 (lbv.1 h s (lbm hj))
def v4.none {w:World} {M:Ms}:v4 w (fun _=>Option.none) M []:=⟨zq,zq,zq,zq,zq⟩
def a07 {P:Program} {g:FuncId} {args args':List S} {H:Hp} {r:S} (h:e8 P g args' [] r []) (ha:a7S H (fun _=>False) args args') (hr:r.isT=true):a0k P g args H r []:=by
 refine ⟨h.1,fun w ι M vals hl hv hH hM hf=>?_⟩;obtain ⟨hlen,hget⟩:=a7S.get ha;have:=h.2 w (fun _=>none) M vals om (fun j s hj=>by
  obtain ⟨x,hx,hs⟩:=hget j s hj;exact hs.rs hH (fun _ h=>h) (fun _ _ _ _ _ h _ _ _ _=>h.elim) (hv j x hx))
  .none hM (fun _ _=>rfl)
 refine Calls.mono this ?_;rintro e w' ⟨v,rfl,ι',M',h1,h2,h3,h4,h5⟩;refine ⟨v,rfl,O7.of_none ?_ ?_⟩
 ·refine RS.keep (ι:=ι) (M:=M') (fun _ _ _=>rfl) (fun b hb=>?_) (fun _ _ h=>h) (h1.tree hr);rcases h5.mold b hb with h|⟨id,k,_,_,hk,_⟩
  ·exact .inl h
  ·simp at hk
 ·exact ⟨h5.os,h5.tape,h5.output,h5.size,fun b hb=>h5.keep b hb zC⟩
def aU2 (fr:List Nat) (n:Nat) (k:Blk):Blk:=match fr.any (Nat.beq n),k.mode with
 |true,.live=>{ k with mode:=.froz }
 |_,_=>k
def a3v (fr:List Nat):Nat->Hp->Hp
 |_,[]=>[]
 |n,k::r=>aU2 fr n k::a3v fr (n+1) r
abbrev ba2 (fr:List Nat) (H:Hp):Hp:=a3v fr 0 H
def af7 (fr:List Nat):∀(H:Hp) (n i:Nat),(a3v fr n H)[i]? =(H[i]?).map (aU2 fr (n+i))
 |[],n,i=>by simp [a3v]
 |k::r,n,0=>by simp [a3v]
 |k::r,n,i+1=>by simp [a3v,af7 fr r (n+1) i,show n+1+i=n+(i+1) by omega]
def a2M (fr:List Nat):∀(H:Hp) (n:Nat),(a3v fr n H).length=H.length
 |[],n=>rfl
 |k::r,n=>by simp [a3v,a2M fr r (n+1)]
def a05 {fr:List Nat} {H:Hp} {id:Nat} {k':Blk} (h:(ba2 fr H)[id]? =some k'):∃k,H[id]? =some k/\k'.elem=k.elem/\k'.size=k.size/\k'.rows=k.rows/\
 ((k'=k/\(id ∉ fr\/k.mode≠.live))\/(id ∈ fr/\k.mode=.live/\k'.mode=.froz)):=by
 rw [af7,U8] at h;cases hk:H[id]? with
 |none=>rw [hk] at h;cases h
 |some k=>
  rw [hk] at h;injection h with h;refine ⟨k,rfl,?_⟩;subst h;unfold aU2;split
  ·rename_i h1 h2;obtain ⟨x,hx,hb⟩:=lbw.1 h1;have:=a1m hb;subst this;exact ⟨rfl,rfl,rfl,.inr ⟨hx,h2,rfl⟩⟩
  ·rename_i h1;refine ⟨rfl,rfl,rfl,.inl ⟨rfl,?_⟩⟩;by_cases hm:k.mode=.live
   ·refine .inl fun hi=>h1 ?_ hm
    exact lbw.2 ⟨id,hi,zq⟩
   ·exact .inr hm
def C8 {P:Program} {g:FuncId} {args args':List S} {H:Hp} {r:S} (fr:List Nat) (h:e8 P g args' [] r []) (ha:a7S H (· ∈ fr) args args') (hr:r.isT=true):e8 P g args H r (ba2 fr H):=by
 refine ⟨h.1,fun w ι M vals hl hv hH hM hf=>?_⟩;obtain ⟨hlen,hget⟩:=a7S.get ha
 let M0:Ms:=fun b=>M b/\¬∃id k cap size,id ∈ fr/\H[id]? =some k/\k.mode=.live/\ι id=some (.blk b cap size)
 have hM0:∀b,M0 b->M b:=fun b hb=>hb.1
 have:=h.2 w (fun _=>none) M0 vals om (fun j s hj=>by
  obtain ⟨x,hx,hs⟩:=hget j s hj;refine hs.rs hH hM0 ?_ (hv j x hx);intro id k b cap size hp hk hd hi hb;cases hm:k.mode with
  |live=>exact hb.2 ⟨id,k,cap,size,hp,hk,hm,hi⟩
  |froz=>exact hH.fro id k hk hm b cap size hi hb.1
  |old=>exact hd (by rw [hm];trivial)
  |dead=>exact hd (by rw [hm];trivial))
  .none (fun b hb=>hM b hb.1) (fun _ _=>rfl)
 refine Calls.mono this ?_;rintro e w' ⟨v,rfl,ι',M',h1,h2,h3,h4,h5⟩;have hkeep:∀b,b<w.heap.size->w'.heap[b]? =w.heap[b]?:=fun b hb=>h5.keep b hb zC
 have hold:∀b,M0 b->M' b:=fun b hb=>by
  rcases h5.mold b hb with h|⟨id,k,_,_,hk,_⟩
  ·exact h
  ·simp at hk
 refine ⟨v,rfl,ι,M',?_,⟨?_,?_,?_,?_,?_⟩,h3,?_,?_⟩
 ·exact h1.tree hr
 ·intro id k' hk' hd l hll;obtain ⟨k,hk,e1,e2,e3,hc⟩:=a05 hk';have hd':k.mode≠.dead:=by
   rcases hc with ⟨rfl,_⟩|⟨_,h,_⟩
   ·exact hd
   ·rw [h];intro h;cases h
  have hb:=hH.blk id k hk hd' l hll;cases l with
  |nil=>show k'.rows=[];rw [e3];exact hb
  |blk b cap size=>
   obtain ⟨q1,q2,q3,q4,q5,cur,q6,q7,q8⟩:=hb;refine ⟨by rw [e2];exact q1,q2,by rw [e3];exact q3,q4,by rw [e3];exact q5,cur,by rw [e1];exact (hkeep b (C1 q6)).trans q6,q7,fun i j c hc=>?_⟩;rw [e3] at hc;obtain ⟨u,hu,hr⟩:=q8 i j c hc;refine ⟨u,hu,hr.keep (fun b hb _=>hkeep b hb) (fun b hb=>?_) (fun _ _ h=>h)⟩;rcases h5.mnew b hb with h|h
   ·exact .inl h.1
   ·exact .inr h
 ·intro id k' hk' hl' b cap size hi;obtain ⟨k,hk,e1,e2,e3,hc⟩:=a05 hk';rcases hc with ⟨rfl,hc⟩|⟨_,_,h⟩
  ·refine hold b ⟨hH.liv id k' hk hl' b cap size hi,?_⟩;rintro ⟨id2,k2,cap2,size2,n1,n2,n3,n4⟩;have:=hH.inj id id2 k' k2 hk n2 hl' n3 _ _ _ _ _ hi n4;subst this;rcases hc with hc|hc
   ·exact hc n1
   ·exact hc hl'
  ·rw [h] at hl';cases hl'
 ·intro id k' hk' hl' b cap size hi hb;obtain ⟨k,hk,e1,e2,e3,hc⟩:=a05 hk';have hlt:b<w.heap.size:=by
   have hd:k.mode≠.dead:=by
    rcases hc with ⟨rfl,_⟩|⟨_,h,_⟩
    ·rw [hl'];intro h;cases h
    ·rw [h];intro h;cases h
   obtain ⟨_,_,_,_,_,cur,q6,_⟩:=hH.blk id k hk hd _ hi;exact C1 q6
  rcases h5.mnew b hb with h|h
  ·rcases hc with ⟨rfl,_⟩|⟨n1,n2,_⟩
   ·exact hH.fro id k' hk hl' b cap size hi h.1
   ·exact h.2 ⟨id,k,cap,size,n1,hk,n2,hi⟩
  ·omega
 ·intro id id' k1 k2 hk1 hk2 hm1 hm2;obtain ⟨k,hk,e1,e2,e3,hc⟩:=a05 hk1;obtain ⟨k',hk',e1',e2',e3',hc'⟩:=a05 hk2;rcases hc with ⟨rfl,_⟩|⟨_,_,h⟩
  ·rcases hc' with ⟨rfl,_⟩|⟨_,_,h⟩
   ·exact hH.inj id id' _ _ hk hk' hm1 hm2
   ·rw [h] at hm2;cases hm2
  ·rw [h] at hm1;cases hm1
 ·intro id id' k1 k2 hk1 hk2 hm1 hm2;obtain ⟨k,hk,e1,e2,e3,hc⟩:=a05 hk1;obtain ⟨k',hk',e1',e2',e3',hc'⟩:=a05 hk2;rcases hc with ⟨rfl,_⟩|⟨_,_,h⟩
  ·rcases hc' with ⟨rfl,_⟩|⟨_,_,h⟩
   ·exact hH.old id id' _ _ hk hk' hm1 hm2
   ·rw [h] at hm2;cases hm2
  ·rw [h] at hm1;cases hm1
 ·rw [a2M];exact hf
 ·refine ⟨h5.os,h5.tape,h5.output,h5.size,fun b hb _=>hkeep b hb,fun _ _=>rfl,?_,?_,?_,by rw [a2M];exact lbR _⟩
  ·intro b hb;rcases h5.mnew b hb with h|h
   ·exact .inl h.1
   ·exact .inr h
  ·intro b hb;by_cases hx:∃id k cap size,id ∈ fr/\H[id]? =some k/\k.mode=.live/\ι id=some (.blk b cap size)
   ·obtain ⟨id,k,cap,size,n1,n2,n3,n4⟩:=hx;exact .inr ⟨id,k,cap,size,n2,n3,n4⟩
   ·exact .inl (hold b ⟨hb,hx⟩)
  ·rintro b ⟨id,k',cap,size,hk',hl',hi⟩;obtain ⟨k,hk,e1,e2,e3,hc⟩:=a05 hk';rcases hc with ⟨rfl,_⟩|⟨_,_,h⟩
   ·exact .inl ⟨id,k',cap,size,hk,hl',hi⟩
   ·rw [h] at hl';cases hl'
def z6 {len m n b:Nat} {K:Prop} (h1:len<=m) (h2:(len+n)*b<=140737488355328) (k:K):(len<=m/\(len+n)*b<=140737488355328)/\K:=⟨⟨h1,h2⟩,k⟩
def b8i {α:Type} {xs:List α} {a b:Nat} {K:Prop} (h:a=b) (k:K):(xs.length=0\/a=b)/\K:=⟨.inr h,k⟩
def b0U {rows:List (List T)} {r:List T}:(toC rows).take rows.length++toC [r]=toC (rows++[r]):=by
 rw [lbn zt];simp [toC]
def b7K {ops:List Oper} {K:List Oper->Prop} (h:a97 ops=true) (k:K ops):b6j ops K:=⟨⟨none,rfl,h,k⟩⟩
def av6 {ops:List Oper} {K:List Oper->Prop} (π:List Nat) (h:a97 (a0A π ops)=true) (h2:aN0 π ops.length=true) (k:K (a0A π ops)):b6j ops K:=⟨⟨some π,h2,h,k⟩⟩
def ba0 {P:Program} {τ:Tab} {env:Env} {H':Hp} {ops:List Oper} {i:Nat} {K:Prop} (h:N5 ops i=true) (h2:a0T ops i=[]) (k:K):N5 ops i=true/\∃L,a0T ops i=L/\a3t P τ ops env H' K L:=⟨h,[],h2,k⟩
def b6O {P:Program} {τ:Tab} {env:Env} {H':Hp} {ops:List Oper} {i:Nat} {K:Prop} (L:List Nat) (h:N5 ops i=true) (h2:a0T ops i=L) (k:a3t P τ ops env H' K L):N5 ops i=true/\∃L,a0T ops i=L/\a3t P τ ops env H' K L:=⟨h,L,h2,k⟩
def b3W {s:S} {B:List Blk} {s':S} {K:Prop} (h1:B=[]) (h2:s=s') (k:K):(B=[]/\s=s')/\K:=⟨⟨h1,h2⟩,k⟩
def b70 {rl xl sz ds b:Nat} {K:Prop} (h1:0<xl) (h2:sz=ds) (h3:(rl+xl)*b<=140737488355328) (k:K):((rl=0\/(0<xl/\sz=ds))/\(rl+xl)*b<=140737488355328)/\K:=⟨⟨.inr ⟨h1,h2⟩,h3⟩,k⟩
def a1e {rl xl sz ds b:Nat} {K:Prop} (h1:rl=0) (h3:(rl+xl)*b<=140737488355328) (k:K):((rl=0\/(0<xl/\sz=ds))/\(rl+xl)*b<=140737488355328)/\K:=⟨⟨.inl h1,h3⟩,k⟩
def N4 {α:Type} {xs:List α} {f:α->List T} {n:Int} {k:Nat} {x:α} {K:List T->Prop} (e:n=k) (hx:xs[k]? =some x) (h:K (f x)):∃row,0<=n/\(xs.map f)[n.toNat]? =some row/\K row:=by
 subst e;exact j6 hx h
def an4 {a b:Int} {K:Prop} (h:a≠b) (k:K):a≠b/\K:=⟨h,k⟩
def aI5 {l h m:Int} {K:Prop} (h1:0<=l) (h2:l<=h) (h3:h<=m) (k:K):(0<=l/\l<=h/\h<=m)/\K:=⟨⟨h1,h2,h3⟩,k⟩
def N3 {id len:Nat} {app:Bool} {H1:Hp} {rows:List (List T)} {size:Nat} {k:Blk} (hk:H1[id]? =some k) (hd:¬k.mode.gone) (hs:k.size=size) (hc:k.rows=toC rows) (hl:len=rows.length):
 Fin 0 (.c (.own id 0 len app)) H1 (.c (.t (.sl size .any rows))) []:=p7 (show VC H1 _ _ _ from w6 rfl hk hd hs hc hl)
def t5 {ρ:List (Option Nat)} {H:Hp} {id id' len len':Nat} (h:ρ[id']? =some (some id)) (hl:len=len'):a7B ρ H (.c (.own id 0 len true)) (.c (.own id' 0 len' true)):=⟨h,rfl,hl,fun h=>h⟩
def j3 (rows:List (List T)):L4 (toC rows):=by
 intro r hr c hc;obtain ⟨r',_,rfl⟩:=lbx.1 hr;obtain ⟨c',_,rfl⟩:=lbx.1 hc
 rfl
def i6 {ρ:List (Option Nat)} {H:Hp} {k k':Blk} {rows:List (List T)} (h1:a3X k k'=true) (h2:k.elem=k'.elem) (h3:k.size=k'.size) (h4:k.rows=toC rows) (h5:k'.rows=toC rows):a3g ρ H k k':=
 ⟨h1,h2,h3,.inl ⟨h4.trans h5.symm,h4 ▸ j3 rows⟩⟩
def b7E {H:Hp} {p:Nat->Prop}:∀ts:List T,VL H p (ts.map C.t) ts
 |[]=>b9Z
 |t::r=>a74 (a8i (a1E t)) (b7E r)
def b4p {H:Hp} {p:Nat->Prop} (ts:List T):VS H p (.agg (ts.map C.t)) (.agg (ts.map C.t)):=by8 (b7E ts)
def aY2 {H:Hp} {p:Nat->Prop} {x:T}:VS H p (.c (.t x)) (.c (.t x)):=a0Y (a8i (a1E x))
end
section
set_option maxRecDepth 100000
abbrev vS:Value:=.slice none 0 0
abbrev vI:Value:=.int .i64 0
abbrev tF:Option TD:=some ⟨.bas,false,1,8,[.nilFunc]⟩
abbrev tS (n:Nat):Option TD:=some ⟨.slice n,false,1,24,[vS]⟩
def bN7:List (Option TD):=[none,tF,some ⟨.int .i64,false,1,8,[vI]⟩,some ⟨.int .i64,false,1,8,[vI]⟩,some ⟨.bool,false,1,1,[.bool false]⟩,some ⟨.int .u8,false,1,1,[.int .u8 0]⟩,some ⟨.int .u8,false,1,1,[.int .u8 0]⟩,some ⟨.struct [(0,1,false),(1,1,false),(2,1,false),(3,1,false)],true,4,24,[vI,vI,.bool false,.int .u8 0]⟩,some ⟨.struct [(0,1,false),(1,1,false),(2,1,false),(3,1,false)],true,4,24,[vI,vI,.bool false,.int .u8 0]⟩,none,none,none,some ⟨.int .u64,false,1,8,[.int .u64 0]⟩,none,none,some ⟨.bas,false,1,8,[.pointer none]⟩,some ⟨.bas,false,1,8,[.pointer none]⟩,some ⟨.bas,false,1,8,[.pointer none]⟩,some ⟨.struct [(0,1,false)],true,1,8,[.pointer none]⟩,some ⟨.struct [(0,1,false)],true,1,8,[.pointer none]⟩,none,some ⟨.int .i32,false,1,4,[.int .i32 0]⟩,tS 160,tS 149,tS 255,tS 264,tS 266,some ⟨.struct [(0,1,false),(1,1,false),(2,1,false),(3,1,false),(4,1,false),(5,1,false),(6,1,false),(7,1,false)],true,8,144,[vI,vI,vI,vS,vS,vS,vS,vS]⟩,some ⟨.struct [(0,1,false),(1,1,false),(2,1,false),(3,1,false),(4,1,false),(5,1,false),(6,1,false),(7,1,false)],true,8,144,[vI,vI,vI,vS,vS,vS,vS,vS]⟩,tS 43,tS 45,some ⟨.struct [(0,8,false),(8,1,false),(9,1,false)],true,10,192,[vI,vI,vI,vS,vS,vS,vS,vS,vS,vS]⟩,some ⟨.struct [(0,8,false),(8,1,false),(9,1,false)],true,10,192,[vI,vI,vI,vS,vS,vS,vS,vS,vS,vS]⟩,tS 3,tF,tF,tS 33,some ⟨.int .i64,false,1,8,[vI]⟩,none,tF,tF,tF,some ⟨.struct [(0,1,false),(1,1,false),(2,1,false)],true,3,24,[vI,vI,vI]⟩,some ⟨.struct [(0,1,false),(1,1,false),(2,1,false)],true,3,24,[vI,vI,vI]⟩,some ⟨.struct [(0,1,false),(1,1,false)],true,2,16,[vI,vI]⟩,some ⟨.struct [(0,1,false),(1,1,false)],true,2,16,[vI,vI]⟩,tF,tF,tF,tS 86,some ⟨.struct [(0,1,false),(1,1,false),(2,1,false),(3,1,false),(4,1,false)],true,5,88,[vI,vI,vS,vS,vS]⟩,some ⟨.struct [(0,1,false),(1,1,false),(2,1,false),(3,1,false),(4,1,false)],true,5,88,[vI,vI,vS,vS,vS]⟩,tF,tS 51,none,tF,none,tF,tF,tS 109,tF,tF,tF,none,tF,none,tF,tF,tS 133,some ⟨.struct [(0,1,false),(1,1,false)],true,2,32,[vI,vS]⟩,some ⟨.struct [(0,1,false),(1,1,false)],true,2,32,[vI,vS]⟩,none,tF,none,tF,tF,tF,tF,tF,tF,tF,tF,tF,some ⟨.struct [(0,1,false),(1,1,false)],true,2,32,[vI,vS]⟩,some ⟨.struct [(0,1,false),(1,1,false)],true,2,32,[vI,vS]⟩,some ⟨.struct [(0,2,false),(2,2,false)],true,4,64,[vI,vS,vI,vS]⟩,some ⟨.struct [(0,2,false),(2,2,false)],true,4,64,[vI,vS,vI,vS]⟩,tF,tF,tF,tF,tF,tF,tS 4,tF,tF,tF,tF,tF,tF,tF,tF,tF,tF,none,tF,tF,tF,some ⟨.struct [(0,1,false),(1,4,false)],true,5,72,[vI,vI,vS,vI,vS]⟩,some ⟨.struct [(0,1,false),(1,4,false)],true,5,72,[vI,vI,vS,vI,vS]⟩,tF,tF,tF,tF,tF,none,tF,tF,tS 32,tF,tF,none,tF,tS 49,none,tF,tF,tF,tF,tF,tF,tF,some ⟨.struct [(0,1,false),(1,1,false),(2,4,false)],true,6,96,[vS,vI,vI,vS,vI,vS]⟩,some ⟨.struct [(0,1,false),(1,1,false),(2,4,false)],true,6,96,[vS,vI,vI,vS,vI,vS]⟩,tS 137,tF,some ⟨.struct [(0,1,false),(1,1,false),(2,1,false)],true,3,56,[vI,vS,vS]⟩,some ⟨.struct [(0,1,false),(1,1,false),(2,1,false)],true,3,56,[vI,vS,vS]⟩,none,tF,tF,tF,tF,tF,tS 147,tF,some ⟨.struct [(0,4,false),(4,1,false),(5,1,false),(6,1,false)],true,7,104,[vI,vS,vI,vS,.bool false,vS,vI]⟩,some ⟨.struct [(0,4,false),(4,1,false),(5,1,false),(6,1,false)],true,7,104,[vI,vS,vI,vS,.bool false,vS,vI]⟩,some ⟨.struct [(0,1,false),(1,1,false),(2,1,false),(3,1,false),(4,1,false),(5,1,false)],true,6,48,[vI,vI,vI,vI,vI,.bool false]⟩,some ⟨.struct [(0,1,false),(1,1,false),(2,1,false),(3,1,false),(4,1,false),(5,1,false)],true,6,48,[vI,vI,vI,vI,vI,.bool false]⟩,tF,none,tF,tF,tF,tF,tF,tF,tF,some ⟨.struct [(0,1,false),(1,1,false),(2,1,false)],true,3,24,[vI,vI,vI]⟩,some ⟨.struct [(0,1,false),(1,1,false),(2,1,false)],true,3,24,[vI,vI,vI]⟩,tF,tF,tF,tF,tF,tF,tF,tF,tF,none,tF,tF,some ⟨.struct [(0,1,false),(1,4,false),(5,1,false),(6,1,false),(7,1,false)],true,8,144,[vI,vI,vS,vI,vS,vS,vS,vS]⟩,some ⟨.struct [(0,1,false),(1,4,false),(5,1,false),(6,1,false),(7,1,false)],true,8,144,[vI,vI,vS,vI,vS,vS,vS,vS]⟩,none,tF,tF,tF,tF,tF,tF,tF,tF,tF,none,tF,tF,tF,tF,tF,tF,tF,tF,none,tF,tF,tF,tF,tS 59,tF,none,tF,tF,tF,tF,none,tF,tF,tF,tF,tF,tF,some ⟨.int .u64,false,1,8,[.int .u64 0]⟩,some ⟨.int .u64,false,1,8,[.int .u64 0]⟩,tF,tF,tF,tF,tF,tF,tF,tF,tF,tF,tF,some ⟨.bas,false,1,8,[.pointer none]⟩,tF,none,tF,tF,tF,tF,some ⟨.bas,false,1,8,[.pointer none]⟩,tF,tF,tF,tF,tF,tF,tF,tF,tF,tF,tF,tF,tF,none,tF,none,tF,tF,tF,tF,some ⟨.struct [(0,1,false),(1,1,false),(2,1,false),(3,1,false),(4,1,false),(5,1,false)],true,6,48,[vI,vI,vI,vI,vI,vI]⟩,some ⟨.struct [(0,1,false),(1,1,false),(2,1,false),(3,1,false),(4,1,false),(5,1,false)],true,6,48,[vI,vI,vI,vI,vI,vI]⟩,tF,tF,none,tF,some ⟨.arr 2 3,true,2,16,[vI,vI]⟩,tS 260,tF,some ⟨.struct [(0,1,false),(1,1,false)],true,2,16,[vI,vI]⟩,some ⟨.struct [(0,1,false),(1,1,false)],true,2,16,[vI,vI]⟩,some ⟨.struct [(0,1,false),(1,1,false),(2,1,false),(3,1,false)],true,4,32,[vI,vI,vI,vI]⟩,some ⟨.struct [(0,1,false),(1,1,false),(2,1,false),(3,1,false)],true,4,32,[vI,vI,vI,vI]⟩,none,tF,tF,tF,tS 84,tS 271,some ⟨.struct [(0,1,false),(1,1,false),(2,1,false),(3,2,false),(5,1,false),(6,1,false),(7,1,false),(8,1,false),(9,1,false),(10,2,false)],true,12,256,[vS,vS,vS,vI,vS,vS,vS,vS,vS,vS,vI,vS]⟩,some ⟨.struct [(0,1,false),(1,1,false),(2,1,false),(3,2,false),(5,1,false),(6,1,false),(7,1,false),(8,1,false),(9,1,false),(10,2,false)],true,12,256,[vS,vS,vS,vI,vS,vS,vS,vS,vS,vS,vI,vS]⟩,tF,tF,tF,tF,tF,tF,tF,tS 288,tS 306,some ⟨.struct [(0,1,false),(1,1,false),(2,1,false),(3,1,false),(4,1,false),(5,1,false)],true,6,128,[vI,vS,vS,vS,vS,vS]⟩,some ⟨.struct [(0,1,false),(1,1,false),(2,1,false),(3,1,false),(4,1,false),(5,1,false)],true,6,128,[vI,vS,vS,vS,vS,vS]⟩,tF,some ⟨.struct [(0,4,false),(4,1,false)],true,5,88,[vI,vS,vI,vS,vS]⟩,some ⟨.struct [(0,4,false),(4,1,false)],true,5,88,[vI,vS,vI,vS,vS]⟩,tF,none,tF,tF,tF,tF,tF,tF,some ⟨.int .u32,false,1,4,[.int .u32 0]⟩,none,tF,none,tF,tF,tF,tF,some ⟨.struct [(0,1,false),(1,1,false)],true,2,16,[vI,.bool false]⟩,some ⟨.struct [(0,1,false),(1,1,false)],true,2,16,[vI,.bool false]⟩,some ⟨.bas,false,1,8,[.pointer none]⟩,tF,tF,tF,tF,none,none,some ⟨.arr 0 16,true,0,0,[]⟩,some ⟨.struct [(0,0,false)],true,0,0,[]⟩,some ⟨.struct [(0,0,false)],true,0,0,[]⟩,some ⟨.int .u8,false,1,1,[.int .u8 0]⟩,some ⟨.int .u8,false,1,1,[.int .u8 0]⟩,tF,some ⟨.bas,false,1,8,[.pointer none]⟩,some ⟨.int .i32,false,1,4,[.int .i32 0]⟩,some ⟨.int .i32,false,1,4,[.int .i32 0]⟩,some ⟨.struct [(0,1,false),(1,1,false),(2,1,false),(3,1,false),(4,1,false),(5,1,false),(6,1,false),(7,1,false),(8,1,false),(9,1,false),(10,1,false)],true,11,48,[.int .u64 0,.int .u64 0,.int .u32 0,.int .u8 0,.int .u8 0,.int .u8 0,.int .u8 0,.nilFunc,.pointer none,.int .i32 0,.int .i32 0]⟩,some ⟨.struct [(0,1,false),(1,1,false),(2,1,false),(3,1,false),(4,1,false),(5,1,false),(6,1,false),(7,1,false),(8,1,false),(9,1,false),(10,1,false)],true,11,48,[.int .u64 0,.int .u64 0,.int .u32 0,.int .u8 0,.int .u8 0,.int .u8 0,.int .u8 0,.nilFunc,.pointer none,.int .i32 0,.int .i32 0]⟩,none]
def tab:Tab:=fun t=>bN7.getD t none
def tq {P:Program} {t:TypeId} {d:TD} (h1:bx1 P t=some d.k:=by kernel_rfl) (h2:d.agg=bK3 d.k:=by rfl) (h3:(P.info? t).map (fun i=>(i.zero.map (·.cells.toList),i.size,i.bytes))=some (some d.zero,d.size,d.bytes):=by kernel_rfl) (h4:d.zero.all (·.oneCell')=true:=by rfl) (h5:d.zero.length=d.size:=by rfl):aO2 P t d:=bI7 h1 h2 h3 h4 h5
theorem zr {p:Prop} (h:p:=by kernel_rfl):p:=h
def g8:G5 Tryz.prog tab:=b9P (l:=bN7) zr ⟨tq,tq,tq,tq,tq,tq,tq,tq,tq,tq,tq,tq,tq,tq,tq,tq,tq,tq,tq,tq,tq,tq,tq,tq,tq,tq,tq,tq,tq,tq,tq,tq,tq,tq,tq,tq,tq,tq,tq,tq,tq,tq,tq,tq,tq,tq,tq,tq,tq,tq,tq,tq,tq,tq,tq,tq,tq,tq,tq,tq,tq,tq,tq,tq,tq,tq,tq,tq,tq,tq,tq,tq,tq,tq,tq,tq,tq,tq,tq,tq,tq,tq,tq,tq,tq,tq,tq,tq,tq,tq,tq,tq,tq,tq,tq,tq,tq,tq,tq,tq,tq,tq,tq,tq,tq,tq,tq,tq,tq,tq,tq,tq,tq,tq,tq,tq,tq,tq,tq,tq,tq,tq,tq,tq,tq,tq,tq,tq,tq,tq,tq,tq,tq,tq,tq,tq,tq,tq,tq,tq,tq,tq,tq,tq,tq,tq,tq,tq,tq,tq,tq,tq,tq,tq,tq,tq,tq,tq,tq,tq,tq,tq,tq,tq,tq,tq,tq,tq,tq,tq,tq,tq,tq,tq,tq,tq,tq,tq,tq,tq,tq,tq,tq,tq,tq,tq,tq,tq,tq,tq,tq,tq,tq,tq,tq,tq,tq,tq,tq,tq,tq,tq,tq,tq,tq,tq,tq,tq,tq,tq,tq,tq,tq,tq,tq,tq,tq,tq,tq,tq,tq,tq,tq,tq,tq,tq,tq,tq,tq,tq,tq,tq,tq,tq,tq,tq,tq,tq,tq,tq,tq,tq,tq,tq,tq,tq,tq,tq,tq,tq,tq,tq,tq,tq,tq,tq,tq,tq,tq,tq,tq,tq,tq,tq,tq,tq,tq,tq,tq,tq,tq,tq,tq,tq,tq,tq,tq,tq,tq,tq,tq,tq,tq,tq,tq,tq,tq,tq,tq,trivial⟩
end
section
open Go.RowKit
structure a0l where
 kind:Int
 hh:Int
 mat:Int
structure C6 where
 day:Int
 src:Int
 dst:Int
 scale:Int
 reading:Int
 all:Bool
structure P5 where
 scale:Int
 since:Int
 till:Int
 grams:Int
 permille:Int
 drift:Int
structure J1 where
 scale:Int
 since:Int
structure a2j where
 move:Int
 mat:Int
 least:Int
 most:Int
structure Ev where
 mats:Int
 hhs:Int
 scs:Int
 places:List a0l
 moves:List C6
 certs:List P5
 recalls:List J1
 purities:List a2j
def Rd {α:Type} (k:Nat) (f:α->List Value) (w:World) (A:Option Addr) (n:Nat) (xs:List α):Prop:=
 n=xs.length/\(0<n->∃b off,A=some ⟨b,off,none⟩/\∀i x,xs[i]? =some x->∀j u,(f x)[j]? =some u->w.cell? ⟨b,off+(i*k+j),none⟩=some u)
section
variable {α:Type} {k:Nat} {f:α->List Value} {w w':World} {A:Option Addr} {n:Nat} {xs:List α}
def Rd.nil (A:Option Addr):Rd k f w A 0 ([]:List α):=⟨rfl,fun h=>absurd h om⟩
def Rd.len (h:Rd k f w A n xs):n=xs.length:=h.1
end
section
variable {w w':World} {m h s:Int} {A1 A2 A3 A4 A5:Option Addr} {n1 n2 n3 n4 n5:Nat} {e:Ev}
end
end
section
def idx (a b:Int):Bool:=decide (0<=a) && decide (a<b)
def btw (n lo hi:Int):Bool:=decide (lo<=n) && decide (n<=hi)
def b4d (a b:Int):btw a 0 (b - 1)=idx a b:=by
 unfold btw idx;have:decide (a<=b - 1)=decide (a<b):=zo;rw [this]
def aO9 {a b:Int}:idx a b=true↔0<=a/\a<b:=by simp [idx]
def a0d {a b c:Int}:btw a b c=true↔b<=a/\a<=c:=by simp [btw]
def a3q (e:Ev):Bool:=
 decide (6<e.mats) || decide (100<e.hhs) || decide (30<e.scs) || decide (100<e.places.length) || decide (200<e.moves.length) ||
  decide (100<e.certs.length) || decide (30<e.recalls.length) || decide (200<e.purities.length)
def a0C (e:Ev) (p:a0l):Bool:=
 idx p.kind 7 && (if p.kind=0 then idx p.hh e.hhs && idx p.mat e.mats else decide (p.hh=-1) && decide (p.mat=-1))
def N9 (e:Ev) (i:Int):Int:=((e.places[i.toNat]?).map (·.kind)).getD (-1)
def O5 (e:Ev) (m:C6):Bool:=
 idx m.src e.places.length && idx m.dst e.places.length && decide (m.src≠m.dst) && decide (N9 e m.src≠5) && decide (N9 e m.src≠6) &&
  !(decide (N9 e m.src=0) && m.all) && decide (N9 e m.dst≠0) && (if m.scale=-1 then decide (m.reading=0) else idx m.scale e.scs && btw m.reading 0 1099511627776)
def a4X (e:Ev) (c:P5):Bool:=
 decide (0<=c.since) && decide (c.since<=c.till) && decide (c.till<=100000) && idx c.scale e.scs && btw c.grams 0 1099511627776 && btw c.permille 0 1000 && btw c.drift 0 10000000
def a17 (e:Ev) (r:J1):Bool:=idx r.scale e.scs && btw r.since 0 100000
def a12 (e:Ev) (p:a2j):Bool:=
 idx p.move e.moves.length && idx p.mat e.mats && decide (0<=p.least) && decide (p.least<=p.most) && decide (p.most<=1000)
def a0K (e:Ev):Bool:=e.certs.all (a4X e) && e.recalls.all (a17 e) && e.purities.all (a12 e)
def E4 (e:Ev):Int->List C6->Int
 |_,[]=>0
 |last,m::r=>if m.day<last\/100000<m.day then 17 else if O5 e m then E4 e m.day r else 1
def I1 (e:Ev):Int:=
 if a3q e then 6 else if e.mats<1\/e.hhs<0\/e.scs<0\/e.places.all (a0C e)=false then 1
 else if E4 e 0 e.moves≠0 then E4 e 0 e.moves else if a0K e then 0 else 1
def aM4 {e:Ev} {i:Nat} {p:a0l} (h:e.places[i]? =some p):N9 e (i:Int)=p.kind:=by
 simp [N9,h]
def aD5 {e:Ev} {l:List C6}:∀{last:Int},E4 e last l=0->∀m ∈ l,O5 e m=true:=by
 induction l with
 |nil=>intro last _ m hm;cases hm
 |cons m r ih=>
  intro last h x hx;unfold E4 at h;split at h
  ·simp at h
  ·split at h
   ·rename_i hmk;rcases lbA.1 hx with rfl|hx
    ·exact hmk
    ·exact ih h x hx
   ·simp at h
def a34 {e:Ev} (h:I1 e=0):a3q e=false/\1<=e.mats/\0<=e.hhs/\0<=e.scs/\e.places.all (a0C e)=true/\E4 e 0 e.moves=0/\a0K e=true:=by
 unfold I1 at h;by_cases h1:a3q e=true
 ·rw [iA h1] at h;simp at h
 rw [iB h1] at h;by_cases h2:e.mats<1\/e.hhs<0\/e.scs<0\/e.places.all (a0C e)=false
 ·rw [iA h2] at h;simp at h
 rw [iB h2] at h;by_cases h3:E4 e 0 e.moves≠0
 ·rw [iA h3] at h;exact absurd h h3
 rw [iB h3] at h;by_cases h4:a0K e=true
 ·refine ⟨by simpa using h1,om,om,om,?_,by simpa using h3,h4⟩;rw [← Bool.not_eq_false];exact fun hq=>h2 (.inr (.inr (.inr hq)))
 ·rw [iB h4] at h;simp at h
def R9 {e:Ev} (h:I1 e=0) {m:C6} (hm:m ∈ e.moves):O5 e m=true:=aD5 (a34 h).2.2.2.2.2.1 m hm
def a1t {e:Ev} {m:C6} (h:O5 e m=true):0<=m.src/\m.src<e.places.length:=by
 simp [O5] at h;exact aO9.1 h.1.1.1.1.1.1.1
def av8 {e:Ev} {m:C6} (h:O5 e m=true):0<=m.dst/\m.dst<e.places.length:=by
 simp [O5] at h;exact aO9.1 h.1.1.1.1.1.1.2
def B6 {α:Type} (p:Nat->α->Bool):Nat->List α->LI
 |_,[]=>[]
 |k,m::r=>if p k m then (k:Int)::B6 p (k+1) r else B6 p (k+1) r
def V7 {α:Type} (p:Nat->α->Bool) (l:List α) (k:Nat):LI:=B6 p 0 (l.take k)
def ai3 {α:Type} (p:Nat->α->Bool) (a b:List α):∀k,B6 p k (a++b)=B6 p k a++B6 p (k+a.length) b:=by
 induction a with
 |nil=>intro k;simp [B6]
 |cons m r ih=>
  intro k;simp only [a3Z,B6,ih,lbu];rw [show k+1+r.length=k+(r.length+1) from by omega];split<;>simp
def ae7 {α:Type} (p:Nat->α->Bool) {l:List α} {k:Nat} {x:α} (h:l[k]? =some x):V7 p l (k+1)=V7 p l k++(if p k x then [(k:Int)] else []):=by
 obtain ⟨hk,hx⟩:=lbe.1 h;unfold V7;rw [aR1 hk,ai3,hx];have:(l.take k).length=k:=zo;rw [this];simp only [B6,U8]
def a5m {α:Type} (p:Nat->α->Bool) {l:List α} {k:Nat} {x:α} (h:l[k]? =some x) (hp:p k x=true):V7 p l (k+1)=V7 p l k++[(k:Int)]:=by
 rw [ae7 p h,iA hp]
def a2F {α:Type} (p:Nat->α->Bool) {l:List α} {k:Nat} {x:α} (h:l[k]? =some x) (hp:p k x=false):V7 p l (k+1)=V7 p l k:=by
 rw [ae7 p h,iB (by simp [hp])];simp
def ar5 {α:Type} (p:Nat->α->Bool) {l:List α} {k:Nat} (h:l.length<=k):V7 p l k=B6 p 0 l:=by
 unfold V7;rw [lbn h]
def aq0 {α:Type} {p q:Nat->α->Bool} (l:List α) (N:Nat) (h:∀k m,k<N->p k m=q k m):∀k,k+l.length<=N->B6 p k l=B6 q k l:=by
 induction l with
 |nil=>intro k _;rfl
 |cons m r ih=>
  intro k hk;simp only [lbu] at hk;simp only [B6,h k m om,ih (k+1) om]
def ai5 {α:Type} (p:Nat->α->Bool) (l:List α):∀k,(B6 p k l).length<=l.length:=by
 induction l with
 |nil=>intro k;simp [B6]
 |cons m r ih=>
  intro k;have:=ih (k+1);simp only [B6];split<;>simp<;>omega
def a7E {α:Type} (p:Nat->α->Bool) (l:List α) (k:Nat):(V7 p l k).length<=k:=by
 have:=ai5 p (l.take k) 0;have h2:(l.take k).length<=k:=List.length_take_le _ _;unfold V7;omega
def a5v (e:Ev) (hh mat lo hi:Int) (m:C6):Bool:=
 match e.places[m.src.toNat]? with
 |some p=>decide (p.kind=0) && decide (p.hh=hh) && (decide (mat=-1) || decide (p.mat=mat)) && btw m.day lo hi
 |none=>false
def J2 (e:Ev) (hh mat lo hi:Int):LI:=if I1 e=0 then B6 (fun _ m=>a5v e hh mat lo hi m) 0 e.moves else []
end
section
structure Ev.Sized (e:Ev):Prop where
 s1:e.places.length<=1000000
 s2:e.moves.length<=1000000
 s3:e.certs.length<=1000000
 s4:e.recalls.length<=1000000
 s5:e.purities.length<=1000000
end
section
open Go.RowKit
abbrev ti (n:Int):T:=.atm (.int .i64 n)
abbrev tb (b:Bool):T:=.atm (.bool b)
def a0l.row (p:a0l):List T:=[ti p.kind,ti p.hh,ti p.mat]
def C6.row (m:C6):List T:=[ti m.day,ti m.src,ti m.dst,ti m.scale,ti m.reading,tb m.all]
def P5.row (c:P5):List T:=[ti c.scale,ti c.since,ti c.till,ti c.grams,ti c.permille,ti c.drift]
def J1.row (r:J1):List T:=[ti r.scale,ti r.since]
def a2j.row (p:a2j):List T:=[ti p.move,ti p.mat,ti p.least,ti p.most]
def j4 (n:Int):List T:=[ti n]
abbrev a7v (l:List a0l):T:=.sl 3 .any (l.map a0l.row)
abbrev a5i (l:List C6):T:=.sl 6 .any (l.map C6.row)
abbrev a1y (l:List P5):T:=.sl 6 .any (l.map P5.row)
abbrev Q9 (l:List J1):T:=.sl 2 .any (l.map J1.row)
abbrev a2H (l:List a2j):T:=.sl 4 .any (l.map a2j.row)
abbrev v6 (l:LI):T:=.sl 1 .any (l.map j4)
def evC (e:Ev):List C:=[.t (ti e.mats),.t (ti e.hhs),.t (ti e.scs),.t (a7v e.places),.t (a5i e.moves),.t (a1y e.certs),.t (Q9 e.recalls),.t (a2H e.purities)]
def evT (e:Ev):List T:=[ti e.mats,ti e.hhs,ti e.scs,a7v e.places,a5i e.moves,a1y e.certs,Q9 e.recalls,a2H e.purities]
abbrev evS (e:Ev):S:=.agg (evC e)
abbrev j7 (l:LI):S:=.c (.t (v6 l))
def a0l.cs (p:a0l):List C:=p.row.map .t
def C6.cs (m:C6):List C:=m.row.map .t
abbrev b5c (m:C6):S:=.agg m.cs
abbrev evB (e:Ev):Blk:=F8 28 8 [evC e] true
def j1 {a b:Bool} {H1:Hp} (h:a=b):Fin 0 (m9 a) H1 (m9 b) []:=p7 (by subst h;exact rfl)
def p9 {a b:Int} {k:IntKind} {H1:Hp} (h:a=b):Fin 0 (e7 k a) H1 (e7 k b) []:=p7 (by subst h;exact rfl)
def m7 {x y:T} {ρ:List (Option Nat)} {H:Hp} (h:x=y):a7B ρ H (.c (.t x)) (.c (.t y)):=ak6 h
def g9 {a b:Int} {k:IntKind} {ρ:List (Option Nat)} {H:Hp} (h:a=b):a7B ρ H (e7 k a) (e7 k b):=by subst h;exact rfl
def E6 (e:Ev):L4 [evC e]:=by simp [L4,evC,C.isT]
def bN8 {H:Hp} {p:Nat->Prop} (e:Ev):VS H p (evS e) (evS e):=b4p (evT e)
end
section
open Go.RowKit
mutual
def a0q (σ:List Nat):C->C
 |.t x=>.t x
 |.ptr id r o=>.ptr (σ.getD id 0) r o
 |.own id lo len app=>.own (σ.getD id 0) lo len app
 |.fn f caps=>.fn f (a1K σ caps)
def a1K (σ:List Nat):List C->List C
 |[]=>[]
 |x::r=>a0q σ x::a1K σ r
end
def a5W (σ:List Nat):S->S
 |.junk=>.junk
 |.c x=>.c (a0q σ x)
 |.agg cs=>.agg (a1K σ cs)
 |.tup ss=>.tup (ss.map fun s=>match s with
  |.c x=>.c (a0q σ x)
  |.agg cs=>.agg (a1K σ cs)
  |s=>s)
mutual
def okC (n:Nat):C->Bool
 |.t _=>true
 |.ptr id _ _=>Nat.blt id n
 |.own id _ _ _=>Nat.blt id n
 |.fn _ caps=>okL n caps
def okL (n:Nat):List C->Bool
 |[]=>true
 |x::r=>okC n x && okL n r
end
def okS (n:Nat):S->Bool
 |.junk=>true
 |.c x=>okC n x
 |.agg cs=>okL n cs
 |.tup _=>false
def S5 (σ:List Nat):∀l,a1K σ l=l.map (a0q σ)
 |[]=>by simp [a1K]
 |x::r=>by simp [a1K,S5 σ r]
def b4v {n:Nat}:∀{l:List C},okL n l=true->∀c ∈ l,okC n c=true
 |[],_,c,h=>by cases h
 |x::r,h,c,hc=>by
  simp only [okL,lbN] at h;rcases lbA.1 hc with rfl|hc
  ·exact h.1
  ·exact b4v h.2 c hc
def au2 {σ:List Nat} {x:C} (h:x.isT=true):a0q σ x=x:=by
 cases x<;>first|rfl|cases h
def a1a (σ:List Nat) (ι:Io):Io:=fun id=>(σ[id]?).bind ι
mutual
def aP6 {w:World} {ι:Io} {M:Ms} {σ:List Nat}:∀(x:C) (v:Value),okC σ.length x=true->RC w ι M (a0q σ x) v->RC w (a1a σ ι) M x v
 |.t x,v,_,h=>by
  simp only [a0q] at h;cases h with
  |t h=>exact .t h
 |.ptr id r o,v,hk,h=>by
  simp only [a0q] at h;have hlt:id<σ.length:=by simpa [okC,a19] using hk
  have e:a1a σ ι id=ι (σ.getD id 0):=by simp [a1a,lbf hlt,lbl]
  cases h with
  |ptr h=>exact .ptr (e.trans h)
 |.own id lo len app,v,hk,h=>by
  simp only [a0q] at h;have hlt:id<σ.length:=by simpa [okC,a19] using hk
  have e:a1a σ ι id=ι (σ.getD id 0):=by simp [a1a,lbf hlt,lbl]
  cases h with
  |own h h1 h2 h3 h4 h5=>exact .own (e.trans h) h1 h2 h3 h4 h5
  |nil h=>exact .nil (e.trans h)
 |.fn f caps,v,hk,h=>by
  simp only [a0q] at h;cases h with
  |fn vs hl hr=>
   rw [S5,lbr] at hl;refine .fn vs hl fun j c hj=>?_
   exact aW0 caps (by simpa [okC] using hk) c (lbm hj) _ (hr j _ (by rw [S5,lba,hj];rfl))
def aW0 {w:World} {ι:Io} {M:Ms} {σ:List Nat}:∀(l:List C),okL σ.length l=true->∀c ∈ l,∀v,RC w ι M (a0q σ c) v->RC w (a1a σ ι) M c v
 |[],_,c,h,_,_=>by cases h
 |x::r,hk,c,hc,v,h=>by
  simp only [okL,lbN] at hk;rcases lbA.1 hc with hcx|hc
  ·rw [hcx] at h ⊢;exact aP6 x v hk.1 h
  ·exact aW0 r hk.2 c hc v h
end
def bh1 {w:World} {ι:Io} {M:Ms} {σ:List Nat} {s:S} {v:Value} (hk:okS σ.length s=true) (h:RS w ι M (a5W σ s) v):RS w (a1a σ ι) M s v:=by
 cases s with
 |junk=>exact .junk
 |c x=>cases h with
  |c h=>exact .c (aP6 x v hk h)
 |agg cs=>
  have h:RS w ι M (.agg (a1K σ cs)) v:=h;cases h with
  |agg vs hl hr=>
   rw [S5,lbr] at hl;refine .agg vs hl fun j c hj=>?_
   exact aW0 cs hk c (lbm hj) _ (hr j _ (by rw [S5,lba,hj];rfl))
 |tup ss=>cases hk
def RC.ren {w:World} {ι ι':Io} {M:Ms} {σ:List Nat} (hι:∀id l,ι id=some l->ι' (σ.getD id 0)=some l) {x:C} {v:Value} (h:RC w ι M x v):RC w ι' M (a0q σ x) v:=by
 induction h with
 |t h=>simp only [a0q];exact .t h
 |ptr h=>simp only [a0q];exact .ptr (hι _ _ h)
 |own h h1 h2 h3 h4 h5=>simp only [a0q];exact .own (hι _ _ h) h1 h2 h3 h4 h5
 |nil h=>simp only [a0q];exact .nil (hι _ _ h)
 |fn vs hl hr ih=>
  simp only [a0q];refine .fn vs (by rw [S5,lbr];exact hl) fun j c hj=>?_
  rw [S5,lba] at hj;obtain ⟨c0,hc0,rfl⟩:=au6.1 hj;exact ih j c0 hc0
def RS.ren1 {w:World} {ι ι':Io} {M:Ms} {σ:List Nat} (hι:∀id l,ι id=some l->ι' (σ.getD id 0)=some l) {x:List C} {v:Value} (h:RS w ι M (.agg x) v):RS w ι' M (.agg (a1K σ x)) v:=by
 cases h with
 |agg vs hl hr=>
  refine .agg vs (by rw [S5,lbr];exact hl) fun j c hj=>?_
  rw [S5,lba] at hj;obtain ⟨c0,hc0,rfl⟩:=au6.1 hj;exact (hr j c0 hc0).ren hι
def bH7:S->Bool
 |.tup _=>false
 |_=>true
def ay8:S->Bool
 |.tup ss=>ss.all bH7
 |_=>true
def RS.ren {w:World} {ι ι':Io} {M:Ms} {σ:List Nat} (hι:∀id l,ι id=some l->ι' (σ.getD id 0)=some l) {s:S} {v:Value} (hs:ay8 s=true) (h:RS w ι M s v):RS w ι' M (a5W σ s) v:=by
 cases s with
 |junk=>exact .junk
 |c x=>cases h with
  |c h=>exact .c (h.ren hι)
 |agg cs=>exact RS.ren1 hι h
 |tup ss=>
  cases h with
  |tup vs hl hr=>
   refine .tup vs (by simpa using hl) fun j s hj=>?_
   rw [lba] at hj;obtain ⟨s0,hs0,rfl⟩:=au6.1 hj;have h0:=hr j s0 hs0;have hno:=lbv.1 hs s0 (lbm hs0);cases s0 with
   |junk=>exact .junk
   |c x=>cases h0 with
    |c h=>exact .c (h.ren hι)
   |agg cs=>exact RS.ren1 hι h0
   |tup _=>cases hno
def a8l (σ:List Nat) (rows:List (List C)):List (List C):=rows.map (a1K σ)
def b7c {σ:List Nat} (rows:List (List T)):a8l σ (toC rows)=toC rows:=by
 unfold a8l toC;rw [a6W];apply lbp;intro r _;show a1K σ (r.map C.t)=r.map C.t;rw [S5,a6W];apply lbp;intro c _;simp [a0q]
def b4Q {σ:List Nat} {rows:List (List C)} {i j:Nat}:at2 (a8l σ rows) i j=(at2 rows i j).map (a0q σ):=by
 unfold at2 a8l;rw [lba];cases rows[i]? with
 |none=>rfl
 |some r=>simp [S5]
def aQ6 (σ:List Nat) (k k':Blk):Prop:=k'.mode=k.mode/\k'.elem=k.elem/\k'.size=k.size/\k'.app=k.app/\k'.rows=a8l σ k.rows
def E0 {σ:List Nat} {k:Blk} {rows:List (List T)} (h:k.rows=toC rows):aQ6 σ k k:=⟨rfl,rfl,rfl,rfl,by rw [h,b7c]⟩
def b9q {n:Nat}:∀l:List T,okL n (l.map C.t)=true
 |[]=>by simp [okL]
 |x::r=>by simp [okL,okC,b9q r]
def a5z {n:Nat} (rows:List (List T)):∀r ∈ toC rows,okL n r=true:=by
 intro r hr;obtain ⟨r',_,rfl⟩:=lbx.1 hr;exact b9q r'
def R6.ren {w:World} {ι ι':Io} {M:Ms} {σ:List Nat} (hι:∀id l,ι id=some l->ι' (σ.getD id 0)=some l) {k k':Blk} (hk:aQ6 σ k k') {l:Loc} (h:R6 w ι M k l):R6 w ι' M k' l:=by
 obtain ⟨e1,e2,e3,e4,e5⟩:=hk;cases l with
 |nil=>
  have h:k.rows=[]:=h;show k'.rows=[];rw [e5,h];rfl
 |blk b cap size=>
  obtain ⟨q1,q2,q3,q4,q5,cur,q6,q7,q8⟩:=h;refine ⟨by rw [e3];exact q1,q2,by rw [e5];simpa [a8l] using q3,q4,?_,cur,by rw [e2];exact q6,q7,fun i j c hc=>?_⟩
  ·intro r hr;rw [e5] at hr;obtain ⟨r0,h0,rfl⟩:=lbx.1 hr;rw [S5,lbr];exact q5 r0 h0
  ·rw [e5,b4Q] at hc;obtain ⟨c0,hc0,rfl⟩:=au6.1 hc;obtain ⟨u,h1,h2⟩:=q8 i j c0 hc0;exact ⟨u,h1,h2.ren hι⟩
def R6.ren_in {w:World} {ι:Io} {M:Ms} {σ:List Nat} {k k':Blk} (hk:aQ6 σ k k') (hok:∀r ∈ k.rows,okL σ.length r=true) {l:Loc} (h:R6 w ι M k' l):R6 w (a1a σ ι) M k l:=by
 obtain ⟨e1,e2,e3,e4,e5⟩:=hk;cases l with
 |nil=>
  have h:k'.rows=[]:=h;show k.rows=[];rw [e5] at h;simpa [a8l] using h
 |blk b cap size=>
  obtain ⟨q1,q2,q3,q4,q5,cur,q6,q7,q8⟩:=h;refine ⟨by rw [← e3];exact q1,q2,by rw [e5] at q3;simpa [a8l] using q3,q4,?_,cur,by rw [← e2];exact q6,q7,fun i j c hc=>?_⟩
  ·intro r hr;have:=q5 (a1K σ r) (by rw [e5];exact lbx.2 ⟨r,hr,rfl⟩);rw [S5,lbr] at this;exact this
  ·obtain ⟨u,h1,h2⟩:=q8 i j (a0q σ c) (by rw [e5,b4Q,hc];rfl);obtain ⟨row,r1,r2⟩:=J0 hc;exact ⟨u,h1,aP6 c u (b4v (hok row (lbm r1)) c (lbm r2)) h2⟩
def a4x (σ:List Nat) (n m:Nat):List Nat:=σ++(List.range m).map (n+·)
def V3 {P:Program} {g:FuncId} {args args':List S} {H H' Hs Hs':Hp} {r r':S} (σ:List Nat) (h:e8 P g args Hs r Hs')
 (hargs:args'=args.map (a5W σ)) (hok:args.all (okS σ.length)=true) (hσl:σ.length=Hs.length) (hσn:σ.Nodup)
 (hin:∀i k,Hs[i]? =some k->k.mode=.live/\k.app=false/\(∀ r ∈ k.rows,okL σ.length r=true)/\∃k',H[σ.getD i 0]? =some k'/\aQ6 σ k k')
 (hno:∀k ∈ Hs',k.mode≠.old) (hlen:Hs.length<=Hs'.length)
 (hr:ay8 r=true) (hr':r'=a5W (a4x σ H.length (Hs'.length - Hs.length)) r)
 (hl':H'.length=H.length+(Hs'.length - Hs.length)) (hout:∀i k,Hs'[i]? =some k->∃k',H'[(a4x σ H.length (Hs'.length - Hs.length)).getD i 0]? =some k'/\aQ6 (a4x σ H.length (Hs'.length - Hs.length)) k k')
 (hrest:∀j,j<H.length->j ∉ σ->H'[j]? =H[j]?):e8 P g args' H r' H':=by
 refine ⟨h.1,fun w ι M vals hl hv hH hM hF=>?_⟩;subst hargs;have hσlt:∀i,i<σ.length->σ.getD i 0<H.length:=fun i hi=>by
  obtain ⟨_,_,_,k',hk',_⟩:=hin i Hs[i] (lbf om);exact (lbe.1 hk').1
 have hsub:∀i,i<σ.length->a1a σ ι i=ι (σ.getD i 0):=fun i hi=>by simp [a1a,lbf hi,lbl]
 have hsubn:∀i,σ.length<=i->a1a σ ι i=none:=fun i hi=>by simp [a1a,lbd hi]
 have hget:∀i k,Hs[i]? =some k->i<σ.length:=fun i k hk=>by rw [hσl];exact (lbe.1 hk).1
 have hHs:v4 w (a1a σ ι) M Hs:=by
  refine ⟨?_,?_,?_,?_,?_⟩
  ·intro id k hk hd l hl;obtain ⟨h1,h2,h3,k',hk',hren⟩:=hin id k hk;rw [hsub id (hget id k hk)] at hl;exact (hH.blk _ k' hk' (by rw [hren.1];exact hd) l hl).ren_in hren h3
  ·intro id k hk hm b cap size hl;obtain ⟨h1,h2,h3,k',hk',hren⟩:=hin id k hk;rw [hsub id (hget id k hk)] at hl;exact hH.liv _ k' hk' (by rw [hren.1];exact hm) b cap size hl
  ·intro id k hk hm;obtain ⟨h1,h2,h3,k',hk',hren⟩:=hin id k hk;rw [h1] at hm;cases hm
  ·intro id id' k k2 hk hk2 hm hm2 b cap size cap' size' hl hl2;obtain ⟨h1,h2,h3,k',hk',hren⟩:=hin id k hk;obtain ⟨h1',h2',h3',k2',hk2',hren2⟩:=hin id' k2 hk2;rw [hsub id (hget id k hk)] at hl;rw [hsub id' (hget id' k2 hk2)] at hl2;have:=hH.inj _ _ k' k2' hk' hk2' (by rw [hren.1];exact hm) (by rw [hren2.1];exact hm2) _ _ _ _ _ hl hl2;have hi:=hget id k hk;have hi':=hget id' k2 hk2;rw [lbl,lbl,lbf hi,lbf hi'] at this;simp only [ax5] at this;have hp:=b38.1 hσn;rcases aV8 id id' with hlt|heq|hgt
   ·exact absurd this (hp id id' hi hi' hlt)
   ·exact heq
   ·exact absurd this.symm (hp id' id hi' hi hgt)
  ·intro id id' k k2 hk hk2 hm;obtain ⟨h1,_⟩:=hin id k hk;rw [h1] at hm;cases hm
 have hlive:∀b,a4c (a1a σ ι) Hs b->∃i k,i<σ.length/\H[σ.getD i 0]? =some k/\k.mode=.live/\k.app=false/\∃cap size,ι (σ.getD i 0)=some (.blk b cap size):=by
  rintro b ⟨i,k,cap,size,hk,hm,hi⟩;obtain ⟨h1,h2,h3,k',hk',hren⟩:=hin i k hk;rw [hsub i (hget i k hk)] at hi;exact ⟨i,k',hget i k hk,hk',by rw [hren.1];exact h1,by rw [hren.2.2.2.1];exact h2,cap,size,hi⟩
 have hliveH:∀b,a4c (a1a σ ι) Hs b->a4c ι H b:=fun b hb=>by
  obtain ⟨i,k,_,hk,hm,_,cap,size,hi⟩:=hlive b hb;exact ⟨_,k,cap,size,hk,hm,hi⟩
 have hvals:∀j s,args[j]? =some s->RS w (a1a σ ι) M s (vals.getD j undef):=fun j s hj=>
  bh1 (lbv.1 hok s (lbm hj)) (hv j _ (by rw [lba,hj];rfl))
 have hcall:=h.2 w (a1a σ ι) M vals (by simpa using hl) hvals hHs hM (fun id hid=>hsubn id om);refine Calls.mono hcall ?_;rintro e w' ⟨v,rfl,ι',M',h1,h2,h3,h4,h5⟩;refine ⟨v,rfl,?_⟩;generalize hm:Hs'.length - Hs.length=m at *
 let σ':=a4x σ H.length m
 let ι2:Io:=fun j=>if j<H.length then ι j else ι' (Hs.length+(j - H.length))
 have hσ'l:σ'.length=Hs'.length:=by simp [σ',a4x];omega
 have hσ'1:∀i,i<σ.length->σ'.getD i 0=σ.getD i 0:=fun i hi=>by
  simp only [σ',a4x,lbl,lbb hi]
 have hσ'2:∀i,σ.length<=i->i<Hs'.length->σ'.getD i 0=H.length+(i - σ.length):=fun i hi hi'=>by
  simp only [σ',a4x,lbl];rw [lbc hi,lba,lbh om]
  rfl
 have hι2:∀id l,ι' id=some l->ι2 (σ'.getD id 0)=some l:=fun id l hid=>by
  have hidl:id<Hs'.length:=by
   rcases H6 id Hs'.length with h|h
   ·exact h
   ·rw [h4 id h] at hid;cases hid
  show (if _ then _ else _)=_;by_cases hlt:id<σ.length
  ·rw [hσ'1 id hlt,iA (hσlt id hlt),←hsub id hlt,←h5.same id om];exact hid
  ·rw [hσ'2 id om hidl,iB om,show Hs.length+(H.length+(id - σ.length) - H.length)=id by omega];exact hid
 have hkeepM:∀b,b<w.heap.size->¬M b->w'.heap[b]? =w.heap[b]?:=fun b hb hnm=>h5.keep b hb fun hl=>hnm (a4c.inM hHs hl)
 have hιext:∀id l,ι id=some l->ι2 id=some l:=fun id l hid=>by
  show (if _ then _ else _)=_;rw [iA]
  ·exact hid
  ·rcases H6 id H.length with h|h
   ·exact h
   ·rw [hF id h] at hid;cases hid
 have hcase:∀j k',H'[j]? =some k'->(j<H.length/\j ∉ σ/\H[j]? =some k')\/∃i k,Hs'[i]? =some k/\σ'.getD i 0=j/\aQ6 σ' k k'/\ι2 j=ι' i:=fun j k' hj=>by
  have hjl:=(lbe.1 hj).1;have fromI:∀i,i<Hs'.length->σ'.getD i 0=j->∃i k,Hs'[i]? =some k/\σ'.getD i 0=j/\aQ6 σ' k k'/\ι2 j=ι' i:=fun i hi hij=>by
   obtain ⟨k2,hk2,hren⟩:=hout i Hs'[i] (lbf hi);have hk2':H'[j]? =some k2:=by rw [← hij];exact hk2
   rw [hj] at hk2';injection hk2' with hk2';subst hk2';refine ⟨i,_,lbf hi,hij,hren,?_⟩;show (if _ then _ else _)=_;by_cases hlt:i<σ.length
   ·rw [← hij,hσ'1 i hlt,iA (hσlt i hlt),←hsub i hlt,←h5.same i om]
   ·rw [← hij,hσ'2 i om hi,iB om,show Hs.length+(H.length+(i - σ.length) - H.length)=i by omega]
  by_cases hlt:j<H.length
  ·by_cases hmem:j ∈ σ
   ·obtain ⟨i,hi⟩:=aq1.1 hmem;have hil:=(lbe.1 hi).1;refine .inr (fromI i om ?_);rw [hσ'1 i hil,lbl,hi];rfl
   ·rw [hrest j hlt hmem] at hj;exact .inl ⟨hlt,hmem,hj⟩
  ·refine .inr (fromI (σ.length+(j - H.length)) om ?_);rw [hσ'2 _ om om];omega
 have hold2:∀j,j<H.length->ι2 j=ι j:=fun j hj=>by show (if _ then _ else _)=_;rw [iA hj]
 have hmodeOut:∀j k',j<H.length->j ∉ σ->H[j]? =some k'->k'.mode=.live->∀b cap size,ι j=some (.blk b cap size)->¬a4c (a1a σ ι) Hs b:=fun j k' hjl hjn hk' hm' b cap size hi hb=>by
  obtain ⟨i,k,hil,hk,hkm,_,c,s,hi2⟩:=hlive b hb;have:=hH.inj j _ k' k hk' hk hm' hkm _ _ _ _ _ hi hi2;apply hjn;rw [this,lbl,lbf hil];exact lbE hil
 refine ⟨ι2,M',?_,⟨?_,?_,?_,?_,?_⟩,h3,?_,?_⟩
 ·rw [hr'];exact h1.ren hι2 hr
 ·intro j k' hj hd l hl2;rcases hcase j k' hj with ⟨hjl,hjn,hk'⟩|⟨i,k,hk,hij,hren,hιj⟩
  ·rw [hold2 j hjl] at hl2;have hb:=hH.blk j k' hk' hd l hl2;cases l with
   |nil=>exact hb
   |blk b cap size=>
    obtain ⟨q1,q2,q3,q4,q5,cur,q6,q7,q8⟩:=hb;have hnl:¬a4c (a1a σ ι) Hs b:=by
     intro hb;cases hm':k'.mode with
     |live=>exact hmodeOut j k' hjl hjn hk' hm' b cap size hl2 hb
     |froz=>exact hH.fro j k' hk' hm' _ _ _ hl2 (a4c.inM hHs hb)
     |old=>
      obtain ⟨i,k,hil,hk,hkm,hka,c,s,hi2⟩:=hlive b hb;have:=(hH.old j _ k' k hk' hk hm' hkm _ _ _ _ _ hl2 hi2).1;rw [hka] at this;cases this
     |dead=>exact hd hm'
    refine ⟨q1,q2,q3,q4,q5,cur,(h5.keep b (C1 q6) hnl).trans q6,q7,fun i j c hc=>?_⟩;obtain ⟨u,r1,r2⟩:=q8 i j c hc;exact ⟨u,r1,r2.keep hkeepM h5.mnew hιext⟩
  ·rw [hιj] at hl2;exact (h2.blk i k hk (by rw [← hren.1];exact hd) l hl2).ren hι2 hren
 ·intro j k' hj hm' b cap size hi;rcases hcase j k' hj with ⟨hjl,hjn,hk'⟩|⟨i,k,hk,hij,hren,hιj⟩
  ·rw [hold2 j hjl] at hi;rcases h5.mold b (hH.liv j k' hk' hm' b cap size hi) with h|h
   ·exact h
   ·exact absurd h (hmodeOut j k' hjl hjn hk' hm' b cap size hi)
  ·rw [hιj] at hi;exact h2.liv i k hk (by rw [← hren.1];exact hm') b cap size hi
 ·intro j k' hj hm' b cap size hi hb;rcases hcase j k' hj with ⟨hjl,hjn,hk'⟩|⟨i,k,hk,hij,hren,hιj⟩
  ·rw [hold2 j hjl] at hi;have hlt:b<w.heap.size:=by
    obtain ⟨_,_,_,_,_,cur,q6,_⟩:=hH.blk j k' hk' (by rw [hm'];intro h;cases h) _ hi;exact C1 q6
   rcases h5.mnew b hb with h|h
   ·exact hH.fro j k' hk' hm' b cap size hi h
   ·omega
  ·rw [hιj] at hi;exact h2.fro i k hk (by rw [← hren.1];exact hm') b cap size hi hb
 ·have cross:∀j j' k' i k,j<H.length->j ∉ σ->H[j]? =some k'->k'.mode=.live->Hs'[i]? =some k->k.mode=.live->∀b cap size cap' size',ι j=some (.blk b cap size)->ι' i=some (.blk b cap' size')->j=j':=by
   intro j j' k' i k hjl hjn hk' hm' hk hkm b cap size cap' size' hi hi';have hlt:b<w.heap.size:=by
    obtain ⟨_,_,_,_,_,cur,q6,_⟩:=hH.blk j k' hk' (by rw [hm'];intro h;cases h) _ hi;exact C1 q6
   rcases h5.live b ⟨i,k,cap',size',hk,hkm,hi'⟩ with h|h
   ·exact absurd h (hmodeOut j k' hjl hjn hk' hm' b cap size hi)
   ·omega
  intro j j' k1 k2 hj hj' hm1 hm2 b cap size cap' size' hi hi';rcases hcase j k1 hj with ⟨hjl,hjn,hk1⟩|⟨i,k,hk,hij,hren,hιj⟩<;>rcases hcase j' k2 hj' with ⟨hjl',hjn',hk2⟩|⟨i',k0,hk0,hij',hren',hιj'⟩
  ·rw [hold2 j hjl] at hi;rw [hold2 j' hjl'] at hi';exact hH.inj j j' k1 k2 hk1 hk2 hm1 hm2 _ _ _ _ _ hi hi'
  ·rw [hold2 j hjl] at hi;rw [hιj'] at hi';exact cross j j' k1 i' k0 hjl hjn hk1 hm1 hk0 (by rw [← hren'.1];exact hm2) _ _ _ _ _ hi hi'
  ·rw [hιj] at hi;rw [hold2 j' hjl'] at hi';exact (cross j' j k2 i k hjl' hjn' hk2 hm2 hk (by rw [← hren.1];exact hm1) _ _ _ _ _ hi' hi).symm
  ·rw [hιj] at hi;rw [hιj'] at hi';have:=h2.inj i i' k k0 hk hk0 (by rw [← hren.1];exact hm1) (by rw [← hren'.1];exact hm2) _ _ _ _ _ hi hi';rw [← hij,←hij',this]
 ·intro j j' k1 k2 hj hj' hm1 hm2 b cap size cap' size' hi hi';rcases hcase j k1 hj with ⟨hjl,hjn,hk1⟩|⟨i,k,hk,hij,hren,hιj⟩
  ·rw [hold2 j hjl] at hi;have hlt:b<w.heap.size:=by
    obtain ⟨_,_,_,_,_,cur,q6,_⟩:=hH.blk j k1 hk1 (by rw [hm1];intro h;cases h) _ hi;exact C1 q6
   rcases hcase j' k2 hj' with ⟨hjl',hjn',hk2⟩|⟨i',k0,hk0,hij',hren',hιj'⟩
   ·rw [hold2 j' hjl'] at hi';exact hH.old j j' k1 k2 hk1 hk2 hm1 hm2 _ _ _ _ _ hi hi'
   ·rw [hιj'] at hi';rcases h5.live b ⟨i',k0,cap',size',hk0,by rw [← hren'.1];exact hm2,hi'⟩ with h|h
    ·obtain ⟨i,k,hil,hk,hkm,hka,c,s,hi2⟩:=hlive b h;have:=(hH.old j _ k1 k hk1 hk hm1 hkm _ _ _ _ _ hi hi2).1;rw [hka] at this;cases this
    ·omega
  ·have:k.mode=.old:=by rw [← hren.1];exact hm1
   exact absurd this (hno k (lbm hk))
 ·intro id hid;show (if _ then _ else _)=_;rw [iB om];exact h4 _ om
 ·refine ⟨h5.os,h5.tape,h5.output,h5.size,fun b hb hnl=>h5.keep b hb fun hl=>hnl (hliveH b hl),fun id hid=>hold2 id hid,h5.mnew,fun b hb=>?_,?_,om⟩
  ·rcases h5.mold b hb with h|h
   ·exact .inl h
   ·exact .inr (hliveH b h)
  ·rintro b ⟨j,k',cap,size,hj,hm',hi⟩;rcases hcase j k' hj with ⟨hjl,hjn,hk'⟩|⟨i,k,hk,hij,hren,hιj⟩
   ·rw [hold2 j hjl] at hi;exact .inl ⟨j,k',cap,size,hk',hm',hi⟩
   ·rw [hιj] at hi;rcases h5.live b ⟨i,k,cap,size,hk,by rw [← hren.1];exact hm',hi⟩ with h|h
    ·exact .inl (hliveH b h)
    ·exact .inr h
def v8 {P:Program} {τ:Tab} (hτ:G5 P τ) {n0:Nat} {c:Code} {env:Env} {H:Hp} {Q:AX->Env->Hp->Prop} {σ:Type} (E:σ->Env × Hp) (I:σ->Prop) (μ:σ->Nat) (x0:σ) (ρ0:List (Option Nat))
 (hI:I x0) (h0:Ent n0 ρ0 env H (E x0).1 (E x0).2)
 (round:∀x,I x->a5M P τ n0 c (E x).1 (E x).2 fun a env' H'=>match a with
   |.normal=>∃ρ x',Ent n0 ρ env' H' (E x').1 (E x').2/\I x'/\μ x'<μ x
   |a=>Q a env' H'):Awp P n0 (.loop c) env H Q:=by
 refine a9I (σ:={ x:σ // I x }) (fun x=>E x.1) (fun x=>μ x.1) ⟨x0,hI⟩ ρ0 h0 ?_;rintro ⟨x,hx⟩;refine (t4 hτ c (round x hx)).mono ?_;intro a env' H' h;cases a with
 |normal=>
  obtain ⟨ρ,x',h1,h2,h3⟩:=h;exact ⟨ρ,⟨x',h2⟩,h1,h3⟩
 |exit id=>exact h
 |ret=>exact h
def I0 {x y:Int} (h:x=y) (h1:-9223372036854775808<=y) (h2:y<=9223372036854775807):M8 .i64 x y:=by subst h;exact a3M h1 h2
end
section
open Go.RowKit
set_option maxRecDepth 100000
abbrev w7 (l:LI):Blk:={ mode:=.live,elem:=3,size:=1,rows:=toC (l.map j4),box:=false }
abbrev a1D (id:Nat) (l:LI):S:=.c (.own id 0 l.length true)
def w9 {α:Type} {xs:List α} {f:α->List T} {n:Int} {x:α} {lo:Nat} {K:List C->Prop} (hx:xs[lo+n.toNat]? =some x) (h:K ((f x).map C.t)):∃row,(toC (xs.map f))[lo+n.toNat]? =some row/\K row:=
 ⟨(f x).map C.t,by simp [toC,hx],h⟩
def a2m {a b:Int} {n:Nat} {K:Prop} (h0:0<=a) (h1:a<=b) (h2:b<=1000000) (hn:n<=1000) (k:K):(0<=a/\a<=b/\b*((n:Int)+1)<=140737488355328)/\K:=by
 refine ⟨⟨h0,h1,?_⟩,k⟩;have:b*((n:Int)+1)<=1000000*1001:=a5E h2 om om om;omega
def bg6 {α:Type} {f:α->List T} {xs:List α} {x:α}:(toC (xs.map f)).take xs.length++toC [f x]=toC ((xs++[x]).map f):=by
 rw [lbn zt];simp [toC]
def aw4 {x:Int} (h1:0<=x) (h2:x<18446744073709551616):IntKind.wrap .u64 x=x:=by
 simp only [IntKind.wrap,IntKind.bits,IntKind.signed];simp;omega
def b0K {k:IntKind} (hk:k.bits=64) (a:Int) (j:Nat) (hj:j<=62):(BitVec.ofInt k.bits a &&& BitVec.ofInt k.bits ((2 ^ j - 1:Nat):Int)).toNat=(a % ((2 ^ j:Nat):Int)).toNat:=by
 rw [hk];rw [BitVec.toNat_and,BitVec.toNat_ofInt,BitVec.toNat_ofInt];have hp:(2:Nat) ^ j<=2 ^ 62:=a82 de hj;have h0:0<(2:Nat) ^ j:=Nat.pow_pos de;have e1:((((2 ^ j - 1:Nat):Int)) % ((2 ^ 64:Nat):Int)).toNat=2 ^ j - 1:=by
  rw [as2 om om];simp
 rw [e1,Nat.and_two_pow_sub_one_eq_mod];have hd:(2:Nat) ^ 64=2 ^ j*2 ^ (64 - j):=by rw [← Nat.pow_add];congr 1;omega
 have h2:0<=a % ((2 ^ 64:Nat):Int):=av3 _ de;have e2:((a % ((2 ^ 64:Nat):Int)).toNat % 2 ^ j:Nat)=((a % ((2 ^ 64:Nat):Int)) % ((2 ^ j:Nat):Int)).toNat:=by
  rw [Int.toNat_emod h2 om];rfl
 rw [e2]
 congr 1
 refine Int.emod_emod_of_dvd _ ?_;exact ⟨((2 ^ (64 - j):Nat):Int),by exact_mod_cast hd⟩
def aU1 {a:Int} (j:Nat) (hj:j<=62):IntKind.wrap .u64 (BitVec.ofInt (IntKind.bits .u64) a &&& BitVec.ofInt (IntKind.bits .u64) ((2 ^ j - 1:Nat):Int)).toNat=a % ((2 ^ j:Nat):Int):=by
 rw [b0K rfl a j hj];have hp:(2:Nat) ^ j<=2 ^ 62:=a82 de hj;have h0:0<(2:Nat) ^ j:=Nat.pow_pos de;have h1:0<=a % ((2 ^ j:Nat):Int):=av3 _ om;have h2:a % ((2 ^ j:Nat):Int)<((2 ^ j:Nat):Int):=aS5 _ om;rw [lbZ h1,aw4 h1 om]
def b0S {x:Int} (h1:0<=x) (h2:x<18446744073709551616):M8 .u64 x x:=by unfold M8;exact (aw4 h1 h2).symm
def a1S {α:Type} {l:List α} {f:α->Bool} {k:Nat} {x:α} (h:l[k]? =some x):(l.take (k+1)).any f=((l.take k).any f || f x):=by
 rw [lbG,h];simp
def D3 {α:Type} {l:List α} {f:α->Bool} {k:Nat} {x:α} (h:l[k]? =some x):(l.take (k+1)).all f=((l.take k).all f && f x):=by
 rw [lbG,h];simp
def a5d {α:Type} {l:List α} {f:α->Bool} {k:Nat} {x:α} (h:l[k]? =some x) (hf:f x=true):l.any f=true:=lbw.2 ⟨x,lbm h,hf⟩
def G9 {α:Type} {l:List α} {f:α->Bool} {k:Nat} {x:α} (h:l[k]? =some x) (hf:f x=false):l.all f=false:=by
 rw [← lbQ,lbv];intro h';rw [h' x (lbm h)] at hf;cases hf
def ax6 {x y:T} {H1:Hp} (h:x=y):Fin 0 (.c (.t x)) H1 (.c (.t y)) []:=by subst h;exact p7 (show a9b [] H1 _ _ from m7 (ρ:=[]) (H:=H1) rfl)
def bz1 {n:Nat} {k:SK} {a b:List (List T)} {H1:Hp} (h:a=b) (hk:k=.any):Fin 0 (.c (.t (.sl n k a))) H1 (.c (.t (.sl n .any b))) []:=by subst h hk;exact p7 (show a9b [] H1 _ _ from m7 (ρ:=[]) (H:=H1) rfl)
def aL9 {P:Program} {g:FuncId} {args:List S} {H H':Hp} {r:S} (i:Nat) {n:Nat} (hi:args[i]? =some (.c (.t (.sl n .any [])))) (h1:e8 P g (args.set i (.c (.t (.sl n .nul [])))) H r H')
 (h2:e8 P g (args.set i (.c (.t (.sl n .non [])))) H r H'):e8 P g args H r H':=by
 refine ⟨h1.1,fun w ι M vals hl hr hH hM hF=>?_⟩;have hv:=(hr i _ hi).inv_t;have hil:=(lbe.1 hi).1;have key:∀k:SK,RT w M (.sl n k []) (vals.getD i undef)->∀j s,(args.set i (.c (.t (.sl n k []))))[j]? =some s->RS w ι M s (vals.getD j undef):=fun k hk j s hj=>by
  by_cases hji:i=j
  ·subst hji;rw [List.getElem?_set_self hil] at hj;injection hj with hj;subst hj;exact .c (.t hk)
  ·rw [List.getElem?_set_ne hji] at hj;exact hr j s hj
 generalize hu:vals.getD i undef=u at hv;cases hv with
 |@sl _ _ _ b off cap A f hrow hcap hmax hk hn hA hc hr' hx=>
  cases A with
  |none=>exact h1.2 w ι M vals (by simpa using hl) (key .nul (by rw [hu];exact .sl (b:=b) (off:=off) f hrow hcap hmax zi zi zq hc hr' ⟨(fun _=>rz),(fun h=>nomatch h)⟩)) hH hM hF
  |some a=>exact h2.2 w ι M vals (by simpa using hl) (key .non (by rw [hu];exact .sl (b:=b) (off:=off) f hrow hcap hmax zi zi zq hc hr' ⟨(fun h=>nomatch h),(fun _ h=>nomatch h)⟩)) hH hM hF
def aG7 {P:Program} {g:FuncId} {args:List S} {H:Hp} {n:Nat} {b:Blk} {rows:List (List T)} (h:e8 P g args [] (.c (.own 0 0 n true)) [b]) (hargs:args=args.map (a5W [])) (hok:args.all (okS 0)=true)
 (hm:b.mode=.live) (hb:b.rows=toC rows):e8 P g args H (.c (.own H.length 0 n true)) (H++[b]):=by
 refine V3 [] h hargs hok rfl ao9 zq (by intro k hk;simp at hk;subst hk;rw [hm];simp) zq rfl ?_ zq ?_ ?_
 ·simp [a5W,a0q,a4x]
 ·intro i k hk
  match i,hk with
  |0,hk=>
   simp at hk;subst hk;exact ⟨b,by simp [a4x],E0 hb⟩
 ·intro j hj _;rw [lbb hj]
def b3H {P:Program} {g:FuncId} {args args':List S} {r:S} {H':Hp} (h:e8 P g args' [] r H') (ha:a7S [] (fun _=>False) args args'):e8 P g args [] r H':=by
 refine ⟨h.1,fun w ι M vals hl hv hH hM hf=>?_⟩;obtain ⟨hlen,hget⟩:=a7S.get ha;exact h.2 w ι M vals om (fun j s hj=>by
  obtain ⟨x,hx,hs⟩:=hget j s hj;exact hs.rs hH (fun _ h=>h) (fun _ _ _ _ _ h _ _ _ _=>h.elim) (hv j x hx)) hH hM hf
end
section
def val:LI->Int
 |[]=>0
 |d::r=>d+1048576*val r
def Okd (l:LI):Prop:=∀d ∈ l,0<=d/\d<1048576
def dgF:Nat->Nat->LI
 |0,_=>[]
 |f+1,n=>if n=0 then [] else ((n % 1048576:Nat):Int)::dgF f (n / 1048576)
def dg (n:Nat):LI:=dgF n n
def pw (i:Nat):Int:=1048576 ^ i
def aO6:pw 0=1:=rfl
def L8 (i:Nat):pw (i+1)=pw i*1048576:=Int.pow_succ ..
def N8 (i:Nat):0<pw i:=Int.pow_pos de
def a65 (i j:Nat):pw (i+j)=pw i*pw j:=Int.pow_add ..
def a1c {i j:Nat} (h:i<=j):pw i<=pw j:=by
 obtain ⟨k,rfl⟩:=Nat.exists_eq_add_of_le h;rw [a65];have h1:=N8 i;have h2:=N8 k;have:=lbW (a:=1) (b:=pw k) (c:=pw i) om om;omega
def Okd.nil:Okd []:=fun _ h=>nomatch h
def Okd.cons {d:Int} {l:LI} (h1:0<=d/\d<1048576) (h2:Okd l):Okd (d::l):=by
 intro x hx;rcases lbA.1 hx with rfl|hx
 ·exact h1
 ·exact h2 x hx
def Okd.head {d:Int} {l:LI} (h:Okd (d::l)):0<=d/\d<1048576:=h d zq
def Okd.tail {d:Int} {l:LI} (h:Okd (d::l)):Okd l:=fun x hx=>h x (by simp [hx])
def Okd.take {l:LI} (h:Okd l) (n:Nat):Okd (l.take n):=fun x hx=>h x (af5 hx)
def Okd.drop {l:LI} (h:Okd l) (n:Nat):Okd (l.drop n):=fun x hx=>h x (b1l hx)
def Okd.append {a b:LI} (h:Okd a) (h2:Okd b):Okd (a++b):=fun x hx=>by
 rcases lbz.1 hx with hx|hx
 ·exact h x hx
 ·exact h2 x hx
def Okd.set {l:LI} (h:Okd l) {i:Nat} {x:Int} (hx:0<=x/\x<1048576):Okd (l.set i x):=fun y hy=>by
 rcases b2x hy with hy|rfl
 ·exact h y hy
 ·exact hx
def Okd.get {l:LI} (h:Okd l) {i:Nat} {x:Int} (hx:l[i]? =some x):0<=x/\x<1048576:=h x (lbm hx)
def Okd.zeros (n:Nat):Okd (List.replicate n 0):=fun x hx=>by rw [List.eq_of_mem_replicate hx];decide
def B7 {l:LI} (h:Okd l):0<=val l:=by
 induction l with
 |nil=>simp [val]
 |cons d l ih=>have:=ih h.tail;have:=h.head;simp only [val];omega
def Z8 {l:LI} (h:Okd l):val l<pw l.length:=by
 induction l with
 |nil=>simp [val,pw]
 |cons d l ih=>
  have:=ih h.tail;have:=h.head;simp only [val,lbu,L8];omega
def O6 (a b:LI):val (a++b)=val a+pw a.length*val b:=by
 induction a with
 |nil=>simp [val,pw]
 |cons d a ih=>simp only [a3Z,val,ih,lbu,L8];grind
def a7g (n:Nat):val (List.replicate n 0)=0:=by
 induction n with
 |zero=>rfl
 |succ n ih=>simp [aT2,val,ih]
def a45 (l:LI) (i:Nat) (h:i<=l.length):val l=val (l.take i)+pw i*val (l.drop i):=by
 have:=O6 (l.take i) (l.drop i);rw [lb9] at this;rw [this];rw [lbs,a3j h]
def a7L {l:LI} {i:Nat} {x:Int} (h:l[i]? =some x):val (l.take (i+1))=val (l.take i)+pw i*x:=by
 have hi:i<l.length:=by
  rcases H6 i l.length with h1|h1
  ·exact h1
  ·rw [lbd h1] at h;cases h
 rw [lbG,h,O6,lbs,a3j om];simp [val]
def a3P {l:LI} {i:Nat} {x:Int} (h:l[i]? =some x):val (l.drop i)=x+1048576*val (l.drop (i+1)):=by
 have hi:i<l.length:=by
  rcases H6 i l.length with h1|h1
  ·exact h1
  ·rw [lbd h1] at h;cases h
 rw [a3k hi];rw [lbf hi] at h;injection h with h;rw [h];rfl
def bb1 {l:LI} {i:Nat} {x y:Int} (h:l[i]? =some y):val (l.set i x)=val l+pw i*(x - y):=by
 induction l generalizing i with
 |nil=>simp at h
 |cons d l ih=>
  cases i with
  |zero=>
   simp only [List.getElem?_cons_zero,lb5] at h;subst h;simp [val,pw];omega
  |succ i=>
   simp only [List.getElem?_cons_succ] at h;simp only [List.set_cons_succ,val,ih h,L8];grind
def b7I (f n:Nat) (h:n<=f):dgF f n=dg n:=by
 unfold dg;induction f using Nat.strongRecOn generalizing n with
 |ind f ih=>
  cases f with
  |zero=>cases Nat.le_zero.1 h;rfl
  |succ f=>
   cases n with
   |zero=>rfl
   |succ n=>
    simp only [dgF,Nat.succ_ne_zero,if_false];rw [ih f om _ om,ih n om _ om]
def a0E:dg 0=[]:=rfl
def a8D {n:Nat} (h:0<n):dg n=((n % 1048576:Nat):Int)::dg (n / 1048576):=by
 obtain ⟨m,rfl⟩:∃m,n=m+1:=⟨n - 1,om⟩;show dgF (m+1) (m+1)=_;simp only [dgF,Nat.succ_ne_zero,if_false];rw [b7I _ _ om]
def b2p {P:Nat->Prop} (h0:P 0) (h:∀n,0<n->P (n / 1048576)->P n) (n:Nat):P n:=by
 induction n using Nat.strongRecOn with
 |ind n ih=>
  rcases a4m n with rfl|hn
  ·exact h0
  ·exact h n hn (ih _ om)
def v3 (n:Nat):val (dg n)=n:=by
 induction n using b2p with
 |h0=>rfl
 |h n hn ih=>rw [a8D hn,val,ih];omega
def B5 (n:Nat):Okd (dg n):=by
 induction n using b2p with
 |h0=>exact .nil
 |h n hn ih=>rw [a8D hn];exact .cons om ih
def O4 {n:Nat}:dg n=[]↔n=0:=by
 constructor
 ·intro h;have:=v3 n;rw [h] at this;simp only [val] at this;omega
 ·rintro rfl;rfl
def N1:LI->LI
 |[]=>[]
 |d::r=>if N1 r=[]/\d=0 then [] else d::N1 r
def Q5 {l:LI} (h:Okd l):N1 l=dg (val l).toNat:=by
 induction l with
 |nil=>rfl
 |cons d l ih=>
  have h0:=B7 h.tail;have h1:=h.head;have hv:(val (d::l)).toNat=d.toNat+1048576*(val l).toNat:=by simp only [val];omega
  rw [N1,ih h.tail,hv];split
  ·rename_i hc;have:=O4.1 hc.1;rw [this,hc.2];rfl
  ·rename_i hc;rw [a8D (n:=d.toNat+1048576*(val l).toNat)]
   ·congr 1
    ·omega
    ·congr 1;omega
   ·rcases a4m (val l).toNat with h2|h2
    ·have:d≠0:=fun h3=>hc ⟨by rw [h2];rfl,h3⟩
     omega
    ·omega
def a5f {l:LI} {n:Nat} (h1:∀j x,n<=j->l[j]? =some x->x=0) (h2:∀x,0<n->l[n-1]? =some x->x≠0) (hn:n<=l.length):l.take n=N1 l:=by
 induction l generalizing n with
 |nil=>simp [N1]
 |cons d l ih=>
  cases n with
  |zero=>
   have ht:N1 l=[]:=by
    rw [← ih (n:=0) (fun j x _ hx=>h1 (j+1) x om (by simpa using hx)) (fun x h=>absurd h om) om];rfl
   have hd:d=0:=h1 0 d om zq;simp [N1,ht,hd]
  |succ n=>
   have ht:N1 l=l.take n:=by
    refine (ih (n:=n) (fun j x hj hx=>h1 (j+1) x om (by simpa using hx)) (fun x h hx=>h2 x om ?_) (by simpa using hn)).symm;obtain ⟨m,rfl⟩:∃m,n=m+1:=⟨n - 1,om⟩;simpa using hx
   rw [N1,ht,List.take_succ_cons,iB];rintro ⟨h3,h4⟩;have hn0:n=0:=by
    rcases a4m n with h5|h5
    ·exact h5
    ·have:=congrArg List.length h3;simp only [lbs,a2l,lbu] at this hn;omega
   subst hn0;exact h2 d om zq h4
def P9 {n k:Nat} (h:(n:Int)<pw k):(dg n).length<=k:=by
 induction k generalizing n with
 |zero=>have:n=0:=by simp [pw] at h;omega
        subst this;simp [a0E]
 |succ k ih=>
  rcases a4m n with rfl|hn
  ·simp [a0E]
  ·rw [a8D hn];rw [L8] at h;have:=ih (n:=n / 1048576) om;simp;omega
def al9 {n:Nat} (h:0<n):pw ((dg n).length - 1)<=n:=by
 induction n using b2p with
 |h0=>omega
 |h n hn ih=>
  rw [a8D hn];rcases a4m (n / 1048576) with h1|h1
  ·rw [h1,a0E];simp [pw];omega
  ·have h2:=ih h1;have:(dg (n / 1048576)).length≠0:=by rw [Ne,a1C,O4];omega
   obtain ⟨m,hm⟩:∃m,(dg (n / 1048576)).length=m+1:=⟨(dg (n / 1048576)).length - 1,om⟩;rw [hm] at h2;rw [lbu,hm];simp only [aW9] at h2 ⊢;rw [L8];omega
def T2 (n:Nat):(n:Int)<pw (dg n).length:=by
 have:=Z8 (B5 n);rw [v3] at this;exact this
def t8 {m n:Nat} (h:m<=n):(dg m).length<=(dg n).length:=P9 (by have:=T2 n;omega)
def aO1 {m n:Nat} (h:(dg m).length<(dg n).length):m<n:=by
 rcases H6 m n with h1|h1
 ·exact h1
 ·have:=t8 h1;omega
def Can (l:LI):Prop:=Okd l/\∀x,l[l.length - 1]? =some x->x≠0
def b3C {l:LI} (h:Can l):l=dg (val l).toNat:=by
 rw [← Q5 h.1];have:=a5f (l:=l) (n:=l.length) (fun j x hj hx=>by rw [lbd hj] at hx;cases hx) (fun x _ hx=>h.2 x hx) (lbR _);rw [W6] at this;exact this
def Y3 (n:Nat):Can (dg n):=by
 refine ⟨B5 n,fun x hx h0=>?_⟩;subst h0;have hl:0<(dg n).length:=by
  rcases a4m (dg n).length with h|h
  ·rw [a1C.1 h] at hx;simp at hx
  ·exact h
 have hp:0<n:=by
  rcases a4m n with rfl|h
  ·simp [a0E] at hl
  ·exact h
 have h1:=al9 hp;have h2:=a7L hx;rw [show (dg n).length - 1+1=(dg n).length by omega,W6,v3] at h2;have h3:=Z8 ((B5 n).take ((dg n).length - 1));rw [lbs,a3j om] at h3;omega
def ae5 {a b:LI} (ha:Okd a) (hb:Okd b) (hl:a.length=b.length) {i:Nat} {x y:Int} (hx:a[i]? =some x) (hy:b[i]? =some y)
 (hd:a.drop (i+1)=b.drop (i+1)) (h:x<y):val a<val b:=by
 have hi:i<a.length:=by
  rcases H6 i a.length with h1|h1
  ·exact h1
  ·rw [lbd h1] at hx;cases hx
 have e1:=a45 a i om;have e2:=a45 b i om;rw [a3P hx] at e1;rw [a3P hy] at e2;rw [hd] at e1;have h1:=Z8 (ha.take i);rw [lbs,a3j om] at h1;have h2:=B7 (hb.take i);have h3:=N8 i;have h4:pw i*(x+1048576*val (b.drop (i+1)))+pw i<=pw i*(y+1048576*val (b.drop (i+1))):=by
  have:=lbW (a:=x+1048576*val (b.drop (i+1))+1) (b:=y+1048576*val (b.drop (i+1))) (c:=pw i) om om;rw [aB2 (pw i) _ 1] at this;omega
 omega
def dat (l:LI) (i:Nat):Int:=l.getD i 0
def a2S {l:LI} {i:Nat} {x:Int} (h:l[i]? =some x):dat l i=x:=by unfold dat;rw [lbl,h];rfl
def X3 {l:LI} {i:Nat} (h:l.length<=i):dat l i=0:=by unfold dat;rw [lbl,lbd h];rfl
def Okd.dat {l:LI} (h:Okd l) (i:Nat):0<=dat l i/\dat l i<1048576:=by
 rcases H6 i l.length with h1|h1
 ·rw [a2S (lbf h1)];exact h _ (lbE h1)
 ·rw [X3 h1];decide
def A8 (l:LI) (i:Nat):val (l.take (i+1))=val (l.take i)+pw i*dat l i:=by
 rcases H6 i l.length with h1|h1
 ·rw [a2S (lbf h1)];exact a7L (lbf h1)
 ·rw [X3 h1,lbn om,lbn om];simp
def a7a (n:Int):0<=n % 1048576/\n % 1048576<1048576:=by omega
structure aa3 (a b:LI) (i:Nat) (out:LI) (c:Int):Prop where
 len:out.length=a.length+1
 ok:Okd out
 le:i<=a.length
 zero:∀j,i<=j->dat out j=0
 c0:0<=c
 c1:c<=1
 eq:val out+pw i*c=val (a.take i)+val (b.take i)
def aa3.init (a b:LI):aa3 a b 0 (List.replicate (a.length+1) 0) 0:=
 ⟨zq,.zeros _,G6 _,fun j _=>by unfold dat;rw [lbl,lbk];split<;>rfl,de,de,by rw [a7g];simp [val]⟩
def a7h {l:LI} {i j:Nat} {x:Int} (h:i≠j):dat (l.set i x) j=dat l j:=by
 unfold dat;rw [lbl,lbl,List.getElem?_set_ne h]
def a37 {l:LI} {i:Nat} {x:Int} (hi:i<l.length):val (l.set i x)=val l+pw i*(x - dat l i):=by
 rw [a2S (lbf hi)];exact bb1 (lbf hi)
def aa3.step {a b out:LI} {i:Nat} {c:Int} (h:aa3 a b i out c) (ha:Okd a) (hb:Okd b) (hi:i<a.length):
 aa3 a b (i+1) (out.set i ((c+dat a i+dat b i) % 1048576)) ((c+dat a i+dat b i) / 1048576):=by
 have h1:=ha.dat i;have h2:=hb.dat i;have h3:=h.c0;have h4:=h.c1;have hl:=h.len;refine ⟨by simp [hl],h.ok.set (a7a _),hi,fun j hj=>?_,om,om,?_⟩
 ·rw [a7h om];exact h.zero j om
 ·rw [a37 om,h.zero i (lbR _),A8,A8,L8];have h5:=h.eq;have h6:(c+dat a i+dat b i) % 1048576=c+dat a i+dat b i - 1048576*((c+dat a i+dat b i) / 1048576):=om;rw [h6];grind
def aa3.fin {a b out:LI} {c:Int} (h:aa3 a b a.length out c) (hl:b.length<=a.length):N1 (out.set a.length c)=dg (val a+val b).toNat:=by
 have h1:=h.c0;have h2:=h.c1;have h3:=h.eq;have hl:=h.len;rw [Q5 (h.ok.set om),a37 om,h.zero _ (lbR _)];rw [W6,lbn om] at h3
 congr 2
 grind
structure aC4 (a b:LI) (i:Nat) (out:LI) (c:Int):Prop where
 len:out.length=a.length
 ok:Okd out
 le:i<=a.length
 rest:∀j,i<=j->dat out j=dat a j
 c0:0<=c
 c1:c<=1
 eq:val out - pw i*c=val a - val (b.take i)
def aC4.init {a b:LI} (ha:Okd a):aC4 a b 0 a 0:=⟨rfl,ha,G6 _,fun _ _=>rfl,de,de,by simp [val]⟩
def aC4.step {a b out:LI} {i:Nat} {c:Int} (h:aC4 a b i out c) (ha:Okd a) (hb:Okd b) (hi:i<a.length):
 aC4 a b (i+1) (out.set i ((dat out i - c - dat b i) % 1048576)) ((dat out i - c - dat b i) / 1048576 % 2):=by
 have h1:=h.ok.dat i;have h2:=hb.dat i;have h3:=h.c0;have h4:=h.c1;have hl:=h.len;refine ⟨by simp [hl],h.ok.set (a7a _),hi,fun j hj=>?_,om,om,?_⟩
 ·rw [a7h om];exact h.rest j om
 ·rw [a37 om,A8,L8];have h5:=h.eq;have h6:(dat out i - c - dat b i) % 1048576=dat out i - c - dat b i+1048576*((dat out i - c - dat b i) / 1048576 % 2):=om;rw [h6];grind
def aC4.fin {a b out:LI} {c:Int} (h:aC4 a b a.length out c) (hl:b.length<=a.length) (hv:val b<=val a):N1 out=dg (val a - val b).toNat:=by
 have h1:=h.c0;have h2:=h.c1;have h3:=h.eq;have hlen:=h.len;rw [lbn om] at h3;have h4:=Z8 h.ok;rw [hlen] at h4;rw [Q5 h.ok];rcases a6v 0 c with h5|h5
 ·have:c=1:=by omega
  subst this;omega
 ·have:c=0:=by omega
  subst this
  congr 2;omega
structure ar4 (a b:LI) (i k:Nat) (out:LI) (c:Int):Prop where
 len:out.length=a.length+b.length
 ok:Okd out
 le:k<=b.length
 zero:∀j,i+b.length<=j->dat out j=0
 c0:0<=c
 c1:c<1048576
 eq:val out+pw (i+k)*c=val (a.take i)*val b+pw i*dat a i*val (b.take k)
structure a5T (a b:LI) (i:Nat) (out:LI):Prop where
 len:out.length=a.length+b.length
 ok:Okd out
 le:i<=a.length
 zero:∀j,i+b.length<=j->dat out j=0
 eq:val out=val (a.take i)*val b
def a5T.init (a b:LI):a5T a b 0 (List.replicate (a.length+b.length) 0):=
 ⟨zq,.zeros _,G6 _,fun j _=>by unfold dat;rw [lbl,lbk];split<;>rfl,by rw [a7g];simp [val]⟩
def a5T.start {a b out:LI} {i:Nat} (h:a5T a b i out):ar4 a b i 0 out 0:=
 ⟨h.len,h.ok,G6 _,h.zero,de,de,by rw [h.eq];simp [val]⟩
def a4Z {x y:Int} (hx:0<=x/\x<1048576) (hy:0<=y/\y<1048576):0<=x*y/\x*y<=1048575*1048575:=
 ⟨lb0 hx.1 hy.1,a5E om om hy.1 de⟩
def ar4.step {a b out:LI} {i k:Nat} {c:Int} (h:ar4 a b i k out c) (ha:Okd a) (hb:Okd b) (hi:i<a.length) (hk:k<b.length):
 ar4 a b i (k+1) (out.set (i+k) ((dat out (i+k)+dat a i*dat b k+c) % 1048576)) ((dat out (i+k)+dat a i*dat b k+c) / 1048576):=by
 have h1:=h.ok.dat (i+k);have h2:=a4Z (ha.dat i) (hb.dat k);have h3:=h.c0;have h4:=h.c1;have hl:=h.len;refine ⟨by simp [hl],h.ok.set (a7a _),hk,fun j hj=>?_,om,om,?_⟩
 ·rw [a7h om];exact h.zero j om
 ·rw [a37 om,A8,show i+(k+1)=i+k+1 by omega,L8];have h5:=h.eq;have h6:(dat out (i+k)+dat a i*dat b k+c) % 1048576=dat out (i+k)+dat a i*dat b k+c - 1048576*((dat out (i+k)+dat a i*dat b k+c) / 1048576):=om;rw [h6];have h7:=a65 i k;grind
def ar4.done {a b out:LI} {i:Nat} {c:Int} (h:ar4 a b i b.length out c) (ha:Okd a) (hb:Okd b) (hi:i<a.length):
 a5T a b (i+1) (out.set (i+b.length) (dat out (i+b.length)+c)):=by
 have h3:=h.c0;have h4:=h.c1;have hl:=h.len;have h8:=h.zero _ (lbR _);refine ⟨by simp [hl],h.ok.set om,hi,fun j hj=>?_,?_⟩
 ·rw [a7h om];exact h.zero j om
 ·rw [a37 om,A8];have h5:=h.eq;rw [W6] at h5;grind
def a5T.fin {a b out:LI} (h:a5T a b a.length out):N1 out=dg (val a*val b).toNat:=by
 rw [Q5 h.ok,h.eq,W6]
structure a1H (a:LI) (d:Int) (j:Nat) (out:LI) (r:Int):Prop where
 len:out.length=a.length
 ok:Okd out
 le:j<=a.length
 r0:0<=r
 r1:r<d
 eq:val (a.drop j)=d*val (out.drop j)+r
def a1H.init (a:LI) {d:Int} (hd:0<d):a1H a d a.length (List.replicate a.length 0) 0:=
 ⟨zq,.zeros _,lbR _,de,hd,by simp [val]⟩
def a9i {l:LI} {i:Nat} (h:i<l.length):val (l.drop i)=dat l i+1048576*val (l.drop (i+1)):=by
 rw [a2S (lbf h)];exact a3P (lbf h)
def a92 {l:LI} {i:Nat} {x:Int} (h:i<l.length):dat (l.set i x) i=x:=by
 unfold dat;rw [lbl,List.getElem?_set_self h];rfl
def a1H.step {a out:LI} {d r:Int} {j:Nat} (h:a1H a d (j+1) out r) (ha:Okd a) (hd:0<d):
 a1H a d j (out.set j ((r*1048576+dat a j) / d)) ((r*1048576+dat a j) % d):=by
 have h1:=ha.dat j;have h3:=h.r0;have h4:=h.r1;have hl:=h.len;have hle:=h.le;have h6:0<=(r*1048576+dat a j) / d:=aB3 om om;have h7:(r*1048576+dat a j) / d<1048576:=by
  apply Int.ediv_lt_of_lt_mul hd;have:=lbW (a:=r+1) (b:=d) (c:=1048576) om om;omega
 refine ⟨by simp [hl],h.ok.set ⟨h6,h7⟩,om,av3 _ om,aS5 _ hd,?_⟩;rw [a9i om,a9i (l:=out.set j _) zo,a92 om,List.drop_set_of_lt om,h.eq];have h8:=Int.emod_add_mul_ediv (r*1048576+dat a j) d;grind
def a1H.fin {a out:LI} {d r:Int} (h:a1H a d 0 out r) (ha:Okd a) (hd:0<d):N1 out=dg (val a / d).toNat/\r=val a % d:=by
 have h3:=h.r0;have h4:=h.r1;have h5:=h.eq;simp only [a9e] at h5;rw [Q5 h.ok];have e1:val a / d=val out:=by rw [h5];rw [aq7,Int.add_mul_ediv_left _ _ om,Int.ediv_eq_zero_of_lt h3 h4];omega
 have e2:val a % d=r:=by rw [h5,aq7,Int.add_mul_emod_self_left,as2 h3 h4]
 exact ⟨by rw [e1],e2.symm⟩
structure ai0 (w v:LI) (g:Int) (i:Nat) (out:LI) (c:Int):Prop where
 len:out.length=w.length
 ok:Okd out
 le:i<=w.length
 rest:∀j,i<=j->dat out j=dat w j
 c0:0<=c
 c1:c<1048576
 eq:val out - pw i*c=val w - g*val (v.take i)
def ai0.init {w v:LI} (g:Int) (hw:Okd w):ai0 w v g 0 w 0:=⟨rfl,hw,G6 _,fun _ _=>rfl,de,de,by simp [val]⟩
def ai0.step {w v out:LI} {g:Int} {i:Nat} {c:Int} (h:ai0 w v g i out c) (hv:Okd v) (hg:0<=g/\g<1048576) (hi:i<w.length):
 ai0 w v g (i+1) (out.set i ((dat out i - c - g*dat v i) % 1048576)) (-((dat out i - c - g*dat v i) / 1048576)):=by
 have h1:=h.ok.dat i;have h2:=a4Z hg (hv.dat i);have h3:=h.c0;have h4:=h.c1;have hl:=h.len;refine ⟨by simp [hl],h.ok.set (a7a _),hi,fun j hj=>?_,om,om,?_⟩
 ·rw [a7h om];exact h.rest j om
 ·rw [a37 om,A8,L8];have h5:=h.eq;have h6:(dat out i - c - g*dat v i) % 1048576=dat out i - c - g*dat v i - 1048576*((dat out i - c - g*dat v i) / 1048576):=om;rw [h6];grind
structure a8N (w v:LI) (i:Nat) (out:LI) (c:Int):Prop where
 len:out.length=w.length
 ok:Okd out
 le:i<=w.length
 rest:∀j,i<=j->dat out j=dat w j
 c0:0<=c
 c1:c<=1
 eq:val out+pw i*c=val w+val (v.take i)
def a8N.init {w v:LI} (hw:Okd w):a8N w v 0 w 0:=⟨rfl,hw,G6 _,fun _ _=>rfl,de,de,by simp [val]⟩
def a8N.step {w v out:LI} {i:Nat} {c:Int} (h:a8N w v i out c) (hv:Okd v) (hi:i<w.length):
 a8N w v (i+1) (out.set i ((c+dat out i+dat v i) % 1048576)) ((c+dat out i+dat v i) / 1048576):=by
 have h1:=h.ok.dat i;have h2:=hv.dat i;have h3:=h.c0;have h4:=h.c1;have hl:=h.len;refine ⟨by simp [hl],h.ok.set (a7a _),hi,fun j hj=>?_,om,om,?_⟩
 ·rw [a7h om];exact h.rest j om
 ·rw [a37 om,A8,L8];have h5:=h.eq;have h6:(c+dat out i+dat v i) % 1048576=c+dat out i+dat v i - 1048576*((c+dat out i+dat v i) / 1048576):=om;rw [h6];grind
def ai0.zero {w v out:LI} {g c:Int} (h:ai0 w v g w.length out c) (hl:v.length<=w.length) (hw:Okd w) (hv:Okd v) (hg:0<=g):
 (c=0↔g*val v<=val w)/\(c=0->val out=val w - g*val v):=by
 have h3:=h.c0;have h5:=h.eq;rw [lbn om] at h5;have h6:=Z8 h.ok;have h7:=B7 h.ok;rw [h.len] at h6;have h8:=N8 w.length;have h9:0<c->pw w.length<=pw w.length*c:=fun hc=>by
  have:=lbW (a:=1) (b:=c) (c:=pw w.length) om om;omega
 constructor
 ·constructor
  ·rintro rfl;omega
  ·intro h10;rcases a6v 0 c with h11|h11
   ·have:=h9 h11;omega
   ·omega
 ·rintro rfl;omega
theorem zg {p:Prop} (h:p:=by grind):p:=h
def ai0.back {w v out out':LI} {g c c':Int} (h:ai0 w v g w.length out c) (h':a8N out v w.length out' c') (hl:v.length<=w.length)
 (h1:0<=val w - g*val v+val v) (h2:val w - g*val v+val v<pw w.length):val out'=val w - g*val v+val v:=by
 have h5:=h.eq;have h6:=h'.eq;rw [lbn om] at h5 h6;have h7:=Z8 h'.ok;have h8:=B7 h'.ok;rw [h'.len,h.len] at h7;have h9:=N8 w.length;have e:val out'+pw w.length*(c' - c)=val w - g*val v+val v:=zg;rcases a53 (c' - c) 0 with hc|hc|hc
 ·have:=lbW (a:=c' - c) (b:=-1) (c:=pw w.length) om om;omega
 ·rw [hc] at e;omega
 ·have:=lbW (a:=1) (b:=c' - c) (c:=pw w.length) om om;omega
structure Win (P V W v1 v2 top u2:Int):Prop where
 P0:0<P
 v1l:524288<=v1
 v1u:v1<1048576
 v20:0<=v2
 v2u:v2<1048576
 u20:0<=u2
 u2u:u2<1048576
 t0:0<=top
 tu:top<1048576*1048576
 Vl:P*(v1*1048576+v2)<=V
 Vu:V<P*(v1*1048576+v2)+P
 Wl:P*(top*1048576+u2)<=W
 Wu:W<P*(top*1048576+u2)+P
 lt:W<V*1048576
def Win.V0 {P V W v1 v2 top u2:Int} (h:Win P V W v1 v2 top u2):0<V:=by
 have h1:=h.Vl;have h2:=h.P0;have h3:=h.v1l;have h4:=h.v20;have:=ab0 h2 (b:=v1*1048576+v2) om;omega
structure a0P (V W v1 top g r:Int):Prop where
 g0:0<=g
 gu:g<=2097152
 r0:0<=r
 ru:r<2097152
 eq:g*v1+r=top
 hi:W<(g+1)*V
def a0P.init {P V W v1 v2 top u2:Int} (h:Win P V W v1 v2 top u2):a0P V W v1 top (top / v1) (top % v1):=by
 have h1:=h.v1l;have h2:=h.v1u;have h3:=h.t0;have h4:=h.tu;have h5:=av3 top (b:=v1) om;have h6:=aS5 top (b:=v1) om;have h7:=Int.mul_ediv_add_emod top v1;have h8:0<=top / v1:=aB3 h3 om;have hq:top / v1*v1+top % v1=top:=by rw [a7J];exact h7
 refine ⟨h8,?_,h5,om,hq,?_⟩
 ·have h9:=lbW (a:=524288) (b:=v1) (c:=top / v1) h1 h8;omega
 ·have hW:=h.Wu;have hV:=h.Vl;have hP:=h.P0;have h20:=h.v20;have hu:=h.u2u;have e1:(top / v1+1)*(P*(v1*1048576+v2))<=(top / v1+1)*V:=lbW hV om;have e2:top*1048576+u2+1<=(top / v1+1)*(v1*1048576+v2):=by
   have:0<=(top / v1+1)*v2:=lb0 om h20;have e3:(top / v1+1)*v1≥top+1:=zg;grind
  have e4:=lbW (c:=P) e2 om;grind
def a0P.dec {P V W v1 v2 top u2 g r:Int} (h:Win P V W v1 v2 top u2) (hg:a0P V W v1 top g r) (hc:1048576<=g\/(r<1048576/\r*1048576+u2<g*v2)):
 W<g*V:=by
 have hV0:=h.V0;rcases hc with hc|⟨hr,hc⟩
 ·have:=lbX (a:=1048576) (b:=g) (c:=V) hc om;have:=h.lt;omega
 ·have hW:=h.Wu;have e1:g*(P*(v1*1048576+v2))<=g*V:=lbW h.Vl hg.g0;have e2:top*1048576+u2+1<=g*(v1*1048576+v2):=by
   have:=hg.eq;grind
  have e4:=lbW (c:=P) e2 (U2 h.P0);grind
def a0P.small {P V W v1 v2 top u2 g r:Int} (h:Win P V W v1 v2 top u2) (hg:a0P V W v1 top g r) (hc:1048576<=g):r<1048576:=by
 have h1:=h.Wl;have h2:=h.lt;have h3:=h.Vu;have hP:=h.P0;have e1:P*(top*1048576+u2)<P*((v1*1048576+v2+1)*1048576):=zg;have e2:top*1048576+u2<(v1*1048576+v2+1)*1048576:=b2E e1 (U2 hP);have h4:=h.u20;have h5:=hg.eq;have h6:=lbX (a:=1048576) (b:=g) (c:=v1) hc (by have:=h.v1l;omega);have h7:=h.v2u;omega
def a0P.step {P V W v1 v2 top u2 g r:Int} (h:Win P V W v1 v2 top u2) (hg:a0P V W v1 top g r) (hc:1048576<=g\/(r<1048576/\r*1048576+u2<g*v2))
 (hW0:0<=W):a0P V W v1 top (g - 1) (r+v1):=by
 have h1:=a0P.dec h hg hc;have hV0:=h.V0;have hg0:0<g:=by
  rcases a6v 0 g with h2|h2
  ·exact h2
  ·have:=hg.g0;have:g=0:=om;subst this;omega
 have h2:=hg.gu;have h3:=hg.r0;have h4:=h.v1l;have h5:=h.v1u;have h6:=hg.eq;have h7:r<1048576:=by
  rcases hc with hc|hc
  ·exact a0P.small h hg hc
  ·exact hc.1
 exact ⟨om,om,om,om,by grind,by grind⟩
def a0P.fin {P V W v1 v2 top u2 g r:Int} (h:Win P V W v1 v2 top u2) (hg:a0P V W v1 top g r) (hc:¬(1048576<=g\/(r<1048576/\r*1048576+u2<g*v2)))
 (hP:P*1048576<=V):g<1048576/\g*V<=W+V:=by
 have hg1:g<1048576:=om;refine ⟨hg1,?_⟩;have h0:=hg.g0;have h20:=h.v20;have h2u:=h.v2u;have hu0:=h.u20;have e1:g*v2<=r*1048576+u2:=by
  rcases a6v r 1048576 with hr|hr
  ·omega
  ·have:=a4Z ⟨h0,hg1⟩ ⟨h20,h2u⟩;omega
 have e2:g*(v1*1048576+v2)<=top*1048576+u2:=by
  have:=hg.eq;grind
 have e3:=lbW (c:=P) e2 (U2 h.P0);have e4:g*V<=g*(P*(v1*1048576+v2)+P):=lbW (U2 h.Vu) h0;have e5:g*P<=1048576*P:=lbX (U2 hg1) (U2 h.P0);have hW:=h.Wl;grind
structure Bg where
 sg:Int
 dl:LI
def bz (z:Int):Bg:=⟨z.sign,dg z.natAbs⟩
def inD (d:Int):Bool:=decide (0<=d) && decide (d<=1048575)
def M7 (b:Bg):Bool:=b.dl.all inD && (if b.dl.length=0 then b.sg == 0 else (b.sg == 1 || b.sg == -1) && !(dat b.dl (b.dl.length - 1) == 0))
def bv (b:Bg):Int:=b.sg*val b.dl
def aN7 {l:LI}:l.all inD=true↔Okd l:=by
 simp only [lbv,inD,lbN,lbI];exact ⟨fun h d hd=>by have:=h d hd;omega,fun h d hd=>by have:=h d hd;omega⟩
def a68 (z:Int):bv (bz z)=z:=by
 unfold bv bz;rw [v3];exact ar0 z
def bt6 {b:Bg} (h:M7 b=true):b=bz (bv b):=by
 unfold M7 at h;rw [lbN,aN7] at h;obtain ⟨h1,h2⟩:=h;obtain ⟨sg,dl⟩:=b;simp only at h1 h2;have hv:=B7 h1;by_cases hl:dl.length=0
 ·rw [iA hl] at h2;have:dl=[]:=lbF hl;subst this;have:sg=0:=by simpa using h2
  subst this
  rfl
 ·rw [iB hl,lbN] at h2;have hc:Can dl:=⟨h1,fun x hx=>by rw [a2S hx] at h2;simpa using h2.2⟩;have h3:=b3C hc;have hp:0<val dl:=by
   rcases a6v 0 (val dl) with h4|h4
   ·exact h4
   ·have:val dl=0:=by omega
    rw [this] at h3;rw [h3] at hl;exact absurd rfl hl
  have hs:sg=1\/sg=-1:=by simpa using h2.1
  have ha:(sg*val dl).natAbs=(val dl).toNat:=by
   rcases hs with rfl|rfl<;>omega
  have hg:(sg*val dl).sign=sg:=by
   rcases hs with rfl|rfl
   ·rw [a2g];exact R8 hp
   ·exact a2c om
  unfold bz bv;simp only;rw [ha,hg,←h3]
def a13 (z:Int):M7 (bz z)=true:=by
 unfold M7;rw [lbN,aN7];refine ⟨B5 _,?_⟩;by_cases hl:(bz z).dl.length=0
 ·rw [iA hl];have h0:dg z.natAbs=[]:=lbF hl;have:z=0:=by have:=O4.1 h0;omega
  subst this;rfl
 ·rw [iB hl];have hz:z≠0:=by rintro rfl;exact hl rfl
  have hl0:(dg z.natAbs).length - 1<(dg z.natAbs).length:=by have:(dg z.natAbs).length≠0:=hl;omega
  have h1:=(Y3 z.natAbs).2 _ (lbf hl0);have h2:dat (bz z).dl ((bz z).dl.length - 1)≠0:=by
   show dat (dg z.natAbs) ((dg z.natAbs).length - 1)≠0;rw [a2S (lbf hl0)];exact h1
  rw [lbN];refine ⟨?_,by simpa using h2⟩;show ((z.sign == 1) || (z.sign == -1))=true;rcases a53 z 0 with h|h|h
  ·rw [a2c h];rfl
  ·exact absurd h hz
  ·rw [R8 h];rfl
def af2 {z:Int}:(bz z).sg=z.sign:=rfl
structure Fr where
 p:Bg
 q:Bg
def fz (x:Rat):Fr:=⟨bz x.num,bz x.den⟩
def V8 (f:Fr):Bool:=M7 f.p && M7 f.q && (f.q.sg == 1) && (Int.gcd (bv f.p) (bv f.q) == 1)
def ao1 (x:Rat):V8 (fz x)=true:=by
 unfold V8 fz;simp only [a13,a68,K9,lbN];have hd:=x.den_pos;refine ⟨?_,?_⟩
 ·rw [af2,R8 om];rfl
 ·have:=x.reduced;simp only [Int.gcd,aQ1];rw [this];rfl
def a9Y {p q g:Int} (hq:0<q) (hg:g=Int.gcd p q):fz (Rat.divInt p q)=⟨bz (p / g),bz (q / g)⟩:=by
 unfold fz;rw [Rat.num_divInt,Rat.den_divInt,iB om,R8 hq,a2g,Int.gcd_comm q p,←hg]
 congr 2
 rw [hg];have:((q.natAbs / Int.gcd p q:Nat):Int)=(q.natAbs:Int) / (Int.gcd p q:Int):=zq;rw [this,show (q.natAbs:Int)=q by omega]
structure ai4 (U V N L:Nat) (j:Nat) (u q:LI):Prop where
 lu:u.length=N
 oku:Okd u
 lq:q.length=N - L
 okq:Okd q
 le:j<=N - L
 eq:val (q.drop j)*pw j*V+val u=U
 lt:val u<V*pw j
def ai4.init {U V:Nat} (hV:0<V) (hl:(dg V).length<=(dg U).length+1):ai4 U V ((dg U).length+1) (dg V).length ((dg U).length+1 - (dg V).length) (dg U++[0]) (List.replicate ((dg U).length+1 - (dg V).length) 0):=by
 have h1:=al9 hV;have h2:=T2 U;have hv:val (dg U++[0])=U:=by rw [O6,v3];simp [val]
 have hL:(dg V).length≠0:=by rw [Ne,a1C,O4];omega
 refine ⟨zq,(B5 U).append (by intro x hx;simp at hx;omega),zq,.zeros _,lbR _,?_,?_⟩
 ·rw [lbo zq,hv];simp [val]
 ·rw [hv];have h3:=lbX (a:=pw ((dg V).length - 1)) (b:=V) (c:=pw ((dg U).length+1 - (dg V).length)) h1 (U2 (N8 _));rw [← a65,show (dg V).length - 1+((dg U).length+1 - (dg V).length)=(dg U).length by omega] at h3;omega
def ai4.window {U V N L j:Nat} {u q:LI} (h:ai4 U V N L (j+1) u q) (hL:(dg V).length=L):
 u=u.take j++(u.drop j).take (L+1)++u.drop (j+(L+1))/\((u.drop j).take (L+1)).length=L+1/\(u.take j).length=j/\
 val u=val (u.take j)+pw j*val ((u.drop j).take (L+1))/\val (u.drop (j+(L+1)))=0/\val ((u.drop j).take (L+1))<V*1048576:=by
 have h1:=h.lu;have h2:=h.le;have h3:=h.lt;have hp:=N8 j;have e0:(u.take j).length=j:=zo;have e1:u.drop j=(u.drop j).take (L+1)++u.drop (j+(L+1)):=by rw [← List.drop_drop,lb9]
 have e2:((u.drop j).take (L+1)).length=L+1:=zo;have e3:u=u.take j++(u.drop j).take (L+1)++u.drop (j+(L+1)):=by rw [lbD,←e1,lb9]
 have hv:=a45 u j om;have hw:=O6 ((u.drop j).take (L+1)) (u.drop (j+(L+1)));rw [← e1,e2] at hw;have h4:=B7 (h.oku.take j);have h5:=B7 ((h.oku.drop j).take (L+1));have h6:=B7 (h.oku.drop (j+(L+1)));have hVp:=T2 V;rw [hL] at hVp;have hz:val (u.drop (j+(L+1)))=0:=by
  rcases a6v 0 (val (u.drop (j+(L+1)))) with h7|h7
  ·exfalso;have a1:=lbW (a:=1) (b:=val (u.drop (j+(L+1)))) (c:=pw (L+1)) om (U2 (N8 _));have a2:=lbW (a:=pw (L+1)) (b:=val (u.drop j)) (c:=pw j) om (U2 hp);have a3:=lbX (a:=(V:Int)) (b:=pw L) (c:=pw (j+1)) (U2 hVp) (U2 (N8 _));have a4:pw j*pw (L+1)=pw L*pw (j+1):=by rw [← a65,←a65];congr 1;omega
   omega
  ·omega
 rw [hz,Int.mul_zero,ae1] at hw;rw [hw] at hv;refine ⟨e3,e2,e0,hv,hz,?_⟩;have a5:pw j*val ((u.drop j).take (L+1))<pw j*(V*1048576):=by
  rw [L8] at h3;have:(V:Int)*(pw j*1048576)=pw j*(V*1048576):=zg;omega
 exact b2E a5 (U2 hp)
def aK9 (l:LI):N1 l++List.replicate (l.length - (N1 l).length) 0=l:=by
 induction l with
 |nil=>rfl
 |cons d r ih=>
  rw [N1];split
  ·rename_i h;rw [h.1] at ih;rw [h.2];simp only [a6s,a2l,Nat.sub_zero,lbu,aT2] at ih ⊢;rw [ih]
  ·simp only [a3Z,lbu,Nat.add_sub_add_right];rw [ih]
def a1r (n:Nat) (l:LI):LI:=l++List.replicate (n - l.length) 0
def b4i {l:LI} (h:Okd l) {n:Nat} (hn:l.length=n):l=a1r n (dg (val l).toNat):=by
 subst hn;have:=aK9 l;rw [Q5 h] at this;exact this.symm
def bi6 (n:Nat) (l:LI):val (a1r n l)=val l:=by unfold a1r;rw [O6,a7g];simp
def aL5 {n:Nat} {l:LI} (h:l.length<=n):(a1r n l).length=n:=by unfold a1r;simp;omega
def b89 {n:Nat} {l:LI} (h:Okd l):Okd (a1r n l):=h.append (.zeros _)
def Win.of {v w:LI} {L:Nat} (hv:Okd v) (hw:Okd w) (lv:v.length=L+2) (lw:w.length=L+3) (ht:524288<=dat v (L+1)) (hlt:val w<val v*1048576):
 Win (pw L) (val v) (val w) (dat v (L+1)) (dat v L) (dat w (L+2)*1048576+dat w (L+1)) (dat w L):=by
 have v1:=A8 v (L+1);have v2:=A8 v L;have w1:=A8 w (L+2);have w2:=A8 w (L+1);have w3:=A8 w L;rw [lbn om] at v1 w1;have a1:=B7 (hv.take L);have a2:=Z8 (hv.take L);have a3:=B7 (hw.take L);have a4:=Z8 (hw.take L);rw [lbs,a3j om] at a2 a4;have d1:=hv.dat (L+1);have d2:=hv.dat L;have d3:=hw.dat (L+2);have d4:=hw.dat (L+1);have d5:=hw.dat L;have p1:=L8 L;have p2:=L8 (L+1);have e1:val v=pw L*(dat v (L+1)*1048576+dat v L)+val (v.take L):=zg;have e2:val w=pw L*((dat w (L+2)*1048576+dat w (L+1))*1048576+dat w L)+val (w.take L):=zg;exact ⟨N8 L,ht,om,om,om,om,om,om,om,om,om,om,om,hlt⟩
def ai4.step {U V N L j:Nat} {u q:LI} (h:ai4 U V N L (j+1) u q) (hL:(dg V).length=L) (hV:0<V) {Q:Int} (hQ:0<=Q/\Q<1048576)
 (hr0:0<=val ((u.drop j).take (L+1)) - Q*V) (hr1:val ((u.drop j).take (L+1)) - Q*V<V):
 ai4 U V N L j (u.take j++a1r (L+1) (dg (val ((u.drop j).take (L+1)) - Q*V).toNat)++u.drop (j+(L+1))) (q.set j Q):=by
 obtain ⟨e3,e2,e0,hv,hz,hW⟩:=h.window hL;have h1:=h.lu;have h2:=h.le;have h3:=h.lq;have hVp:=T2 V;rw [hL] at hVp;have hmono:=a1c (Nat.le_succ L);have lp:(dg (val ((u.drop j).take (L+1)) - Q*V).toNat).length<=L+1:=P9 (by have:pw L<=pw (L+1):=hmono;omega);have hpl:=aL5 lp;have hvp:val (a1r (L+1) (dg (val ((u.drop j).take (L+1)) - Q*V).toNat))=val ((u.drop j).take (L+1)) - Q*V:=by
  rw [bi6,v3,lbZ hr0]
 have hu':val (u.take j++a1r (L+1) (dg (val ((u.drop j).take (L+1)) - Q*V).toNat)++u.drop (j+(L+1)))=val (u.take j)+pw j*(val ((u.drop j).take (L+1)) - Q*V):=by
  rw [O6,hz,O6,hvp,e0];simp
 have hp:=N8 j;have hlt:=Z8 (h.oku.take j);rw [e0] at hlt;refine ⟨?_,((h.oku.take j).append (b89 (B5 _))).append (h.oku.drop _),by simp [h3],h.okq.set hQ,om,?_,?_⟩
 ·simp only [lbq,hpl,e0,a3K];omega
 ·rw [hu',a9i zo,a92 om,List.drop_set_of_lt om];have h4:=h.eq;rw [hv,L8] at h4;grind
 ·rw [hu'];have h5:=lbW (a:=val ((u.drop j).take (L+1)) - Q*V) (b:=(V:Int) - 1) (c:=pw j) om om;have h6:pw j*((V:Int) - 1)=V*pw j - pw j:=zg;omega
def ai4.fin {U V N L:Nat} {u q:LI} (h:ai4 U V N L 0 u q) (hV:0<V):val q=(U / V:Nat)/\val u=(U % V:Nat):=by
 have h1:=h.eq;have h2:=h.lt;simp only [a9e,aO6,ax7] at h1 h2;have h3:=B7 h.oku;have h4:=B7 h.okq;obtain ⟨Q,hQ⟩:=a2W h4;obtain ⟨R,hR⟩:=a2W h3;rw [hQ,hR] at h1;rw [hR] at h2;have e:U=R+Q*V:=by
  have:((R+Q*V:Nat):Int)=(U:Int):=by rw [← h1];simp [aq7]
  omega
 have hlt:R<V:=om;rw [hQ,hR,e,Nat.add_mul_div_right _ _ hV,Nat.div_eq_of_lt hlt,Nat.add_mul_mod_self_right,b3X hlt];simp
end
section
open Go.RowKit
theorem St1.zd {p:Prop} [Decidable p] {k:S->Prop} (a:p->k (m9 true)) (b:¬p->k (m9 false)):aC3 p k:=aC3.mk a b
theorem St2.zd {b:Bool} {k:S->Prop} (a:b=true->k (m9 true)) (c:b=false->k (m9 false)):a3D b k:=a3D.mk a c
theorem St1.zz {x:Int} {K:Int->Prop} (k:K x) (h1:-9223372036854775808<=x:=by omega) (h2:x<=9223372036854775807:=by omega):∃n,M8 .i64 x n/\K n:=⟨_,a3M h1 h2,k⟩
theorem St2.zz {n m:Int} {K:Prop} (k:K) (h0:0<=n:=by omega) (h1:n<m:=by omega):(0<=n/\n<m)/\K:=⟨⟨h0,h1⟩,k⟩
theorem St3.zz {ops:List Oper} {K:List Oper->Prop} (k:K ops) (h:a97 ops=true:=by decide +kernel):b6j ops K:=b7K h k
theorem St4.zz {P:Program} {τ:Tab} {env:Env} {H':Hp} {ops:List Oper} {i:Nat} {K:Prop} (k:K) (h:N5 ops i=true:=by decide +kernel) (h2:a0T ops i=[]:=by decide +kernel):N5 ops i=true/\∃L,a0T ops i=L/\a3t P τ ops env H' K L:=ba0 h h2 k
theorem St5.zz {s:S} {B:List Blk} {s':S} {K:Prop} (k:K) (h1:B=[]:=by exact rfl) (h2:s=s':=by exact rfl):(B=[]/\s=s')/\K:=b3W h1 h2 k
theorem St6.zz {α:Type} {xs:List α} {a b:Nat} {K:Prop} (k:K) (h:a=b:=by exact rfl):(xs.length=0\/a=b)/\K:=b8i h k
def bl0 {P:Program} {τ:Tab} {env:Env} {H':Hp} {ops:List Oper} {i:Nat} {K:Prop} (L:List Nat) (k:a3t P τ ops env H' K L) (h:N5 ops i=true:=by decide +kernel) (h2:a0T ops i=L:=by decide +kernel):N5 ops i=true/\∃L,a0T ops i=L/\a3t P τ ops env H' K L:=b6O L h h2 k
theorem qp {P:Program} {g:FuncId} {args:List S} {H:Hp} {r:S} {K:S->List Blk->Prop} {Q:Prop} (c:e8 P g args [] r []) (k:K r []) (h1:args.all S.isT=true:=by exact rfl) (h2:r.isT=true:=by exact rfl):(∃ r B,a0k P g args H r B/\K r B)\/Q:=.inl ⟨_,_,I4 c h1 h2,k⟩
def ac {f:FuncId} {fn:Func} {c:Code} {args:List S} {H:Hp} {s:S} {H':Hp} (hf:Go.Proofs.Tryz.prog.funcs[f]? =some fn) (h:a5M Go.Proofs.Tryz.prog tab H.length c (args++List.replicate (fn.ntmps - args.length) .junk) H fun x env' H1=>match x with
 |.exit _=>False
 | _ => a9q tab fn env' H1 fun r => Fin H.length r H1 s H') (hb : fn.body = some c := by exact rfl) (hn : fn.name ≠ "runtime.NumGoroutine" := by decide) : e8 Go.Proofs.Tryz.prog f args H s H' := b8c g8 hf hb hn h
def Jn (n:Nat):Env:=List.replicate n J
theorem St1.zy {a b c:Prop} (h:a):a43 a b c:=a43.data h
theorem St2.zy {a b:Prop} (h:b):ay4 a b:=ay4.own h
def b0x {a b:Prop} (h:a):ay4 a b:=ay4.data h
theorem St7.zz {k:S->Prop} (h:k (m9 true)):a3D true k:=⟨fun _=>h,fun e=>(by cases e)⟩
theorem St8.zz {k:S->Prop} (h:k (m9 false)):a3D false k:=⟨fun e=>(by cases e),fun _=>h⟩
def lg0 {α:Type} {l:List α} {i:Nat} (h:i<l.length):l[i]? =some l[i]:=lbf h
def lg1 {α:Type} {l:List α} {i:Nat} {a:α} (h:l[i]? =some a):∃h:i<l.length,l[i]=a:=lbe.1 h
def lg2 {α:Type} {l:List α} {i:Nat} {a:α} (h:l[i]? =some a):a ∈ l:=lbm h
def lg3 {α:Type} (l:List α) (i:Nat) (a:α):l.getD i a=l[i]?.getD a:=lbl
def lg4 {α:Type} {l:List α} {i:Nat} (h:l.length<=i):l.take i=l:=lbn h
def lg5 {α:Type} {a:α} {l:List α}:a ∈ a::l:=at3 ..
theorem St1.zx {x:Int} {K:Int->Prop} (k:K x) (h1:-9223372036854775808<=x:=by omega) (h2:x<=9223372036854775807:=by omega):∃n,M8 .i64 x n/\K n:=⟨_,a3M h1 h2,k⟩
theorem St2.zx {n m:Int} {K:Prop} (k:K) (h0:0<=n:=by omega) (h1:n<m:=by omega):(0<=n/\n<m)/\K:=⟨⟨h0,h1⟩,k⟩
theorem St3.zx {ops:List Oper} {K:List Oper->Prop} (k:K ops) (h:a97 ops=true:=by decide +kernel):b6j ops K:=b7K h k
theorem St4.zx {P:Program} {τ:Tab} {env:Env} {H':Hp} {ops:List Oper} {i:Nat} {K:Prop} (k:K) (h:N5 ops i=true:=by decide +kernel) (h2:a0T ops i=[]:=by decide +kernel):N5 ops i=true/\∃L,a0T ops i=L/\a3t P τ ops env H' K L:=ba0 h h2 k
theorem St5.zx {s:S} {B:List Blk} {s':S} {K:Prop} (k:K) (h1:B=[]:=by exact rfl) (h2:s=s':=by exact rfl):(B=[]/\s=s')/\K:=b3W h1 h2 k
theorem St6.zx {α:Type} {xs:List α} {a b:Nat} {K:Prop} (k:K) (h:a=b:=by exact rfl):(xs.length=0\/a=b)/\K:=b8i h k
theorem St7.zx {k:S->Prop} (h:k (m9 true)):a3D true k:=⟨fun _=>h,fun e=>(by cases e)⟩
theorem St8.zx {k:S->Prop} (h:k (m9 false)):a3D false k:=⟨fun e=>(by cases e),fun _=>h⟩
theorem StA.zx {a b c:Prop} (h:a):a43 a b c:=a43.data h
theorem StB.zx {a b:Prop} (h:b):ay4 a b:=ay4.own h
theorem StC.zx {P:Program} {g:FuncId} {args:List S} {H:Hp} {r:S} {K:S->List Blk->Prop} {Q:Prop} (k:K r []) (c:e8 P g args [] r []:=by assumption) (h1:args.all S.isT=true:=by exact rfl) (h2:r.isT=true:=by exact rfl):(∃ r B,a0k P g args H r B/\K r B)\/Q:=qp c k h1 h2
class ZD (p:Prop) (a b:outParam Prop):Prop where
 ou:a->b->p
instance {p:Prop} [Decidable p] {k:S->Prop}:ZD (aC3 p k) (p->k (m9 true)) (¬p->k (m9 false)):=⟨aC3.mk⟩
instance {b:Bool} {k:S->Prop}:ZD (a3D b k) (b=true->k (m9 true)) (b=false->k (m9 false)):=⟨a3D.mk⟩
theorem zD {p a b:Prop} [i:ZD p a b] (h:a) (g:b):p:=i.ou h g
abbrev ec:=e8 Go.Proofs.Tryz.prog
abbrev tT:Nat->Prop:=fun _=>True
abbrev eI:=e7 .i64
abbrev sP (i j k:Nat):S:=S.c (C.ptr i j k)
end
open St1 St2 St3 St4 St5 St6 St7 St8 StA StB StC
set_option maxRecDepth 100000
abbrev bgC (b:Bg):List C:=[.t (ti b.sg),.t (v6 b.dl)]
abbrev bgS (b:Bg):S:=.agg (bgC b)
abbrev bgB (b:Bg):Blk:={ mode:=.live,elem:=84,size:=2,rows:=[bgC b],box:=true }
def a6A (b:Bg):L4 [bgC b]:=by
 intro r hr c hc;simp at hr;subst hr;simp [bgC] at hc;rcases hc with rfl|rfl<;>rfl
def C3 {l:LI} {i:Nat} (h:i<l.length):l[i]? =some (dat l i):=by
 unfold dat;rw [lbl,lbf h];rfl
def a8H {l:LI} (h:0<l.length):l[((l.length:Int) - 1).toNat]? =some (dat l (l.length - 1)):=by
 rw [show ((l.length:Int) - 1).toNat=l.length - 1 by omega];exact C3 om
def a2R {l:LI} {n:Nat} (h:0<n) (hn:n<=l.length):l[((n:Int) - 1).toNat]? =some (dat l (n - 1)):=by
 rw [show ((n:Int) - 1).toNat=n - 1 by omega];exact C3 om
def a4u (b:Bg) (hl:b.dl.length<=1000000):ec 181 [bgS b] [] (m9 (M7 b)) []:=by
 have l2:(b.dl.map j4).length=b.dl.length:=zq;refine ac Tryz.func181 ?_;conv=>whnf
 repeat' (first|refine zx ?_|apply zD<;>intro<;>try omega)<;>conv=>whnf
 refine k5 g8 (fun k=>([J,sP 0 0 0,J,eI b.dl.length,J,J,J,J,J,J,j7 b.dl,eI b.dl.length,eI k]++Jn 32,[bgB b])) b.dl.length (fun k=>(b.dl.take k).all inD=true) [some 0] rfl
  ⟨rfl,rfl,⟨⟨rfl,rfl,rfl,.inl ⟨rfl,a6A b⟩⟩,trivial⟩,⟨rz,g9 zq,m7 rfl,g9 zq,g9 rfl,trivial⟩⟩ ?_
 intro k hk hI;conv=>whnf
 repeat' (first|refine zx ?_|refine j6 (C3 om) ?_|refine K3 om (a8H om) ?_|apply zD<;>intro<;>try omega)<;>conv=>whnf
 all_goals first
  |(have hlt:k<b.dl.length:=by omega
    refine ⟨hlt,?_,[some 0],rfl,rfl,⟨⟨rfl,rfl,rfl,.inl ⟨rfl,a6A b⟩⟩,trivial⟩,rz⟩;rw [D3 (C3 hlt),hI];simp [inD];omega)
  |(have hlt:k<b.dl.length:=by omega
    refine j1 ?_;unfold M7;rw [G9 (C3 hlt) (by simp [inD];omega)];rfl)
  |(have ha:b.dl.all inD=true:=by rw [← hI,lbn om]
    refine j1 ?_;unfold M7;rw [ha];simp_all;done)
def a5n (l:LI) (hl:l.length<=1000000):ec 265 [j7 l] [] (j7 (N1 l)) []:=by
 have l2:(l.map j4).length=l.length:=zq;refine ac Tryz.func265 ?_;conv=>whnf
 repeat' (first|refine zx ?_|apply zD<;>intro<;>try omega)<;>conv=>whnf
 refine v8 g8 (σ:=Nat) (fun n=>([j7 l,J,J,eI n]++Jn 17,[])) (fun n=>n<=l.length/\∀j x,n<=j->l[j]? =some x->x=0) (fun n=>n) l.length []
  ⟨lbR _,fun j x hj hx=>by rw [lbd hj] at hx;cases hx⟩ ⟨rfl,rfl,trivial,⟨m7 rfl,g9 zq,trivial⟩⟩ ?_
 rintro n ⟨hn,hz⟩;have hn:n<=l.length:=hn;conv=>whnf
 repeat' (first|refine zx ?_|refine K3 om (a2R om hn) ?_|refine aI5 om om om ?_|apply zD<;>intro<;>try omega)<;>conv=>whnf
 ·have h0:dat l (n - 1)=0:=by assumption
  have h1:0<n:=om;refine ⟨[],n - 1,⟨rfl,rfl,trivial,⟨rfl,g9 om,trivial⟩⟩,⟨om,fun j x hj hxj=>?_⟩,by show n - 1<n;omega⟩;by_cases hj2:j=n - 1
  ·subst hj2;rw [C3 om] at hxj;injection hxj with hx;rw [← hx];exact h0
  ·exact hz j x om hxj
 all_goals
  have e:l.take n=N1 l:=a5f hz (fun x h0 hx=>by
   first|omega|(rw [C3 om] at hx;injection hx with hx;rw [← hx];assumption)) hn
  refine bz1 ?_ rfl;rw [← e];simp [b4u]
open St1 St2 St3 St4 St5 St6 St7 St8 StA StB StC
set_option maxRecDepth 100000
def bm6 (l:LI) (hl:l.length<=1000000):ec 265 [a1D 0 l] [w7 l] (.c (.own 0 0 (N1 l).length true)) [w7 l]:=by
 refine ac Tryz.func265 ?_;conv=>whnf
 repeat' (first|refine zx ?_|apply zD<;>intro h<;>try omega)<;>conv=>whnf
 refine v8 g8 (σ:=Nat) (fun n=>([a1D 0 l,J,J,eI n]++Jn 17,[w7 l])) (fun n=>n<=l.length/\∀j x,n<=j->l[j]? =some x->x=0) (fun n=>n) l.length [some 0]
  ⟨lbR _,fun j x hj hx=>by rw [lbd hj] at hx;cases hx⟩ ⟨rfl,rfl,⟨i6 rfl rfl rfl rfl rfl,trivial⟩,⟨t5 rfl rfl,g9 rfl,trivial⟩⟩ ?_
 rintro n ⟨hn,hz⟩;have hn:n<=l.length:=hn;have hg:0<n->l[0+((n:Int) - 1).toNat]? =some (dat l (n - 1)):=fun h=>by rw [U8];exact a2R h hn
 conv=>whnf
 repeat' (first|refine zx ?_|refine w9 (hg om) ?_|refine aI5 om om om ?_|apply zD<;>intro h<;>try omega)<;>conv=>whnf
 ·have h0:dat l (n - 1)=0:=by assumption
  have h1:0<n:=om;refine ⟨[some 0],n - 1,⟨rfl,rfl,⟨i6 rfl rfl rfl rfl rfl,trivial⟩,⟨t5 rfl rfl,g9 om,trivial⟩⟩,⟨om,fun j x hj hxj=>?_⟩,by show n - 1<n;omega⟩;by_cases hj2:j=n - 1
  ·subst hj2;rw [C3 om] at hxj;injection hxj with hx;rw [← hx];exact h0
  ·exact hz j x om hxj
 all_goals
  have e:l.take n=N1 l:=a5f hz (fun x h0 hx=>by
   first|omega|(rw [C3 om] at hx;injection hx with hx;rw [← hx];assumption)) hn
  have e2:(N1 l).length=n:=by rw [← e];simp;omega
  exact ⟨⟨[some 0],rfl,rfl,⟨i6 rfl rfl rfl rfl rfl,trivial⟩,⟨rfl,rfl,by rw [e2];omega,fun h=>h⟩⟩⟩
def aS3 {n:Nat} {K:Prop} (h:0<n) (k:K):0<n/\K:=⟨h,k⟩
def aj5 (l:LI) (hl:l.length<=1000000):ec 201 [j7 l] [] (j7 l) []:=by
 have l2:(l.map j4).length=l.length:=zq;cases l with
 |nil=>
  refine aL9 0 rfl ?_ ?_
  ·refine ac Tryz.func201 ?_;conv=>whnf
   repeat' (first|refine zx ?_|apply zD<;>intro h<;>try omega)<;>conv=>whnf
   exact p7 (show a9b [] _ _ _ from rfl)
  ·refine ac Tryz.func201 ?_;conv=>whnf
   repeat' (first|refine zx ?_|refine aS3 zq ?_|refine sl3_ok om om rfl om ?_|refine a1e rfl zt ?_|apply zD<;>intro h<;>try omega)<;>conv=>whnf
   exact N3 rfl zi rfl rfl zt
 |cons a r=>
  refine ac Tryz.func201 ?_;conv=>whnf
  repeat' (first|refine zx ?_|refine aS3 zq ?_|refine sl3_ok om om rfl om ?_|refine a1e rfl (by simp [toC] at *;omega) ?_|apply zD<;>intro h<;>try omega)<;>conv=>whnf
  exact N3 rfl zi rfl rfl zt
def b6H (l:LI) (hl:l.length<=1000000):ec 201 [j7 l] [] (a1D 0 l) [w7 l]:=by
 have l2:(l.map j4).length=l.length:=zq;cases l with
 |nil=>
  refine aL9 0 rfl ?_ ?_
  ·refine ac Tryz.func201 ?_;conv=>whnf
   repeat' (first|refine zx ?_|apply zD<;>intro h<;>try omega)<;>conv=>whnf
   exact ⟨⟨[none],rz⟩⟩
  ·refine ac Tryz.func201 ?_;conv=>whnf
   repeat' (first|refine zx ?_|refine aS3 zq ?_|refine sl3_ok om om rfl om ?_|refine a1e rfl zt ?_|apply zD<;>intro h<;>try omega)<;>conv=>whnf
   exact ⟨⟨[some 0],rfl,rfl,⟨i6 rfl rfl rfl rfl rfl,trivial⟩,⟨rfl,rfl,zt,fun h=>h⟩⟩⟩
 |cons a r=>
  refine ac Tryz.func201 ?_;conv=>whnf
  repeat' (first|refine zx ?_|refine aS3 zq ?_|refine sl3_ok om om rfl om ?_|refine a1e rfl (by simp [toC] at *;omega) ?_|apply zD<;>intro h<;>try omega)<;>conv=>whnf
  exact ⟨⟨[some 0],rfl,rfl,⟨i6 rfl rfl rfl rfl rfl,trivial⟩,⟨rfl,rfl,zt,fun h=>h⟩⟩⟩
def bf0 (x:Int):ec 263 [eI x] [] (m9 false) []:=by
 refine ac Tryz.func263 ?_;conv=>whnf
 repeat' (first|refine zx ?_|apply zD<;>intro<;>try omega)<;>conv=>whnf
 all_goals first|omega|exact j1 rfl
def P6 (x y:Int):Int:=if x<y then -1 else if x > y then 1 else 0
def a5D (x y:Int):ec 188 [eI x,eI y] [] (eI (P6 x y)) []:=by
 refine ac Tryz.func188 ?_;conv=>whnf
 repeat' (first|refine zx ?_|refine qp (bf0 _) ?_|apply zD<;>intro<;>try omega)<;>conv=>whnf
 all_goals first
  |(exfalso;simp_all;done)
  |(refine p9 ?_;unfold P6;split<;>first|omega|(split<;>omega))
def a4T (x y:Int):ec 259 [.c (.t (.sl 1 .full ([x,y].map j4)))] [] (eI (if x=0 then y else x)) []:=by
 refine ac Tryz.func259 ?_;conv=>whnf
 repeat' (first|refine zx ?_|apply zD<;>intro<;>try omega)<;>conv=>whnf
 refine k5 g8 (fun k=>([J,J,J,eI 0,J,J,S.c (C.t (T.sl 1 .full ([x,y].map j4))),eI 2,eI k]++Jn 9,[])) 2 (fun k=>∀v ∈ [x,y].take k,v=0) [] zq
  ⟨rfl,rfl,trivial,⟨rfl,m7 rfl,g9 rfl,g9 rfl,trivial⟩⟩ ?_
 intro k hk hI;conv=>whnf
 repeat' (first|refine zx ?_|apply zD<;>intro<;>try omega)<;>conv=>whnf
 ·have hlt:k<2:=by omega
  obtain ⟨v,hv⟩:∃v,[x,y][k]? =some v:=⟨_,lbf (by simpa using hlt)⟩;refine j6 hv ?_;conv=>whnf
  repeat' (first|refine zx ?_|apply zD<;>intro<;>try omega)<;>conv=>whnf
  ·refine p9 ?_
   match k,hlt with
   |0,_=>simp at hv;subst hv;rw [iB (by assumption)]
   |1,_=>simp at hv;subst hv;rw [iA (hI x zq)]
  ·refine ⟨hlt,?_,[],rz⟩;intro u hu;rw [lbG,hv] at hu;rcases lbz.1 hu with hu|hu
   ·exact hI u hu
   ·simp at hu;subst hu;omega
 ·have h1:=hI x (by rw [lbn zo];simp);have h2:=hI y (by rw [lbn zo];simp);refine p9 ?_;rw [iA h1,h2]
def sgn (s:Int) (l:LI):Bg:=if (N1 l).length=0 then ⟨0,[]⟩ else ⟨s,N1 l⟩
def b1C (s:Int) (l:LI) (hl:l.length<=1000000):ec 191 [eI s,j7 l] [] (bgS (sgn s l)) []:=by
 refine ac Tryz.func191 ?_;conv=>whnf
 repeat' (first|refine zx ?_|refine qp (a5n l hl) ?_|apply zD<;>intro<;>try omega)<;>conv=>whnf
 ·have h0:(N1 l).length=0:=by simp at *;assumption
  unfold sgn;rw [iA h0];exact p7 rz
 ·have h0:¬(N1 l).length=0:=by simp at *;assumption
  unfold sgn;rw [iB h0];exact p7 rz
def O2 (r:Bool) (b:Bg):ec 252 [m9 r,bgS b] [] (.tup [bgS (if r then b else ⟨0,[]⟩),eI (if r then 0 else 1)]) []:=by
 cases r<;>
 ·refine ac Tryz.func252 ?_;conv=>whnf
  repeat' (first|refine zx ?_|apply zD<;>intro<;>try omega)<;>conv=>whnf
  exact p7 rz
open St1 St2 St3 St4 St5 St6 St7 St8 StA StB StC
set_option maxRecDepth 100000
def a4N {x y:Int} (h:x<y):P6 x y=-1:=by unfold P6;rw [iA h]
def al5 {x y:Int} (h:y<x):P6 x y=1:=by unfold P6;rw [iB om,iA h]
def bi3 {x y:Int} (h:x=y):P6 x y=0:=by unfold P6;rw [iB om,iB om]
def b2a {s:Int} {l:LI} (h:Okd l) (hs:s=1\/s=-1\/val l=0):sgn s l=bz (s*val l):=by
 have hv:=B7 h;unfold sgn bz;rw [Q5 h];by_cases h0:val l=0
 ·rw [h0,Int.mul_zero];rfl
 ·have h1:(dg (val l).toNat).length≠0:=by rw [Ne,a1C,O4];omega
  rw [iB h1];rcases hs with rfl|rfl|h2
  ·rw [R8 om]
   congr 2;omega
  ·rw [a2c om]
   congr 2;omega
  ·exact absurd h2 h0
def a49 (a b:LI) (ha:Can a) (hb:Can b) (la:a.length<=1000000) (lb:b.length<=1000000):
 ec 189 [j7 a,j7 b] [] (eI (P6 (val a) (val b))) []:=by
 have l1:(a.map j4).length=a.length:=zq;have l2:(b.map j4).length=b.length:=zq;have key:∀{x y:LI},Can x->Can y->x.length<y.length->val x<val y:=fun {x y} hx hy h=>by
  rw [b3C hx,b3C hy] at h;have:=aO1 h;have:=B7 hx.1;omega
 by_cases hl:a.length=b.length
 ·refine ac Tryz.func189 ?_;conv=>whnf
  repeat' (first|refine zx ?_|apply zD<;>intro h<;>try omega)<;>conv=>whnf
  refine v8 g8 (σ:=Nat) (fun k=>([j7 a,j7 b,J,J,J,eI ((k:Int) - 1)]++Jn 35,[])) (fun k=>k<=a.length/\a.drop k=b.drop k) (fun k=>k) a.length []
   ⟨lbR _,by rw [lbo (lbR _),lbo om]⟩ ⟨rfl,rfl,trivial,⟨m7 rfl,m7 rfl,g9 zq,trivial⟩⟩ ?_
  rintro k ⟨hk,hd⟩;have hk:k<=a.length:=hk;have hd:a.drop k=b.drop k:=hd;conv=>whnf
  repeat' (first|refine zx ?_|refine qp (a5D _ _) ?_|refine K3 om (a2R om hk) ?_|refine K3 om (a2R om (hl ▸ hk)) ?_|apply zD<;>intro h<;>try omega)<;>conv=>whnf
  all_goals first
   |(have hp:0<k:=by omega
     have e:k - 1+1=k:=om;have gx:=C3 (l:=a) (i:=k - 1) om;have gy:=C3 (l:=b) (i:=k - 1) om;refine p9 ?_;rcases a53 (dat a (k - 1)) (dat b (k - 1)) with h|h|h
     ·rw [a4N h,a4N (ae5 ha.1 hb.1 hl gx gy (by rw [e];exact hd) h)]
     ·exfalso;simp_all;done
     ·rw [al5 h,al5 (ae5 hb.1 ha.1 hl.symm gy gx (by rw [e];exact hd.symm) h)])
   |(have hp:0<k:=by omega
     have hq:dat a (k - 1)=dat b (k - 1):=om;refine ⟨[],k - 1,⟨rfl,rfl,trivial,⟨rfl,rfl,g9 om,trivial⟩⟩,⟨om,?_⟩,by show k - 1<k;omega⟩;rw [a3k (by omega:k - 1<a.length),a3k (by omega:k - 1<b.length),show k - 1+1=k by omega,hd]
     congr 1
     have gx:=C3 (l:=a) (i:=k - 1) om;have gy:=C3 (l:=b) (i:=k - 1) om;rw [lbf om] at gx gy;injection gx with gx;injection gy with gy;rw [gx,gy,hq])
   |(have:k=0:=by omega
     subst this;simp only [a9e] at hd;refine p9 ?_;rw [hd,bi3 rfl])
 ·refine ac Tryz.func189 ?_;conv=>whnf
  repeat' (first|refine zx ?_|refine qp (a5D _ _) ?_|apply zD<;>intro h<;>try omega)<;>conv=>whnf
  all_goals first
   |omega
   |(refine p9 ?_
     rcases ar9 hl with h|h
     ·rw [a4N om,a4N (key ha hb h)]
     ·rw [al5 om,al5 (key hb ha h)])
def b5Q (a b:Bg):Int:=if M7 a && M7 b then P6 (bv a) (bv b) else 0
def b3K (x:Int):Can (bz x).dl:=Y3 _
def aX7 (x:Int):val (bz x).dl=x.natAbs:=v3 _
def G4 (x:Int):x.sign=0/\x=0\/x.sign=1/\0<x\/x.sign=-1/\x<0:=by
 rcases a53 x 0 with h|h|h
 ·exact .inr (.inr ⟨a2c h,h⟩)
 ·subst h;exact .inl rz
 ·exact .inr (.inl ⟨R8 h,h⟩)
def b6v {x y:Int} (h:x.sign≠y.sign):P6 x.sign y.sign=P6 x y:=by
 rcases G4 x with ⟨e,h1⟩|⟨e,h1⟩|⟨e,h1⟩<;>rcases G4 y with ⟨f,h2⟩|⟨f,h2⟩|⟨f,h2⟩<;>rw [e,f] at h ⊢<;>unfold P6<;>(repeat' split)<;>omega
def b8m {x y:Int} (h:x.sign=y.sign):x.sign*P6 x.natAbs y.natAbs=P6 x y:=by
 rcases G4 x with ⟨e,h1⟩|⟨e,h1⟩|⟨e,h1⟩<;>rcases G4 y with ⟨f,h2⟩|⟨f,h2⟩|⟨f,h2⟩<;>rw [e,f] at h<;>try omega
 all_goals (rw [e];unfold P6;(repeat' split)<;>omega)
def b8n (x y:Int):-1<=P6 x y/\P6 x y<=1:=by unfold P6;split<;>(try split)<;>omega
def ax8 {b:Bg} (h:M7 b=true):∃z,b=bz z:=⟨_,bt6 h⟩
def b3D (a b:Bg) (la:a.dl.length<=1000000) (lb:b.dl.length<=1000000):
 ec 120 [bgS a,bgS b] [] (eI (b5Q a b)) []:=by
 have r1:=a4u a la;have r2:=a4u b lb;cases ha:M7 a with
 |false=>
  rw [ha] at r1;refine ac Tryz.func120 ?_;conv=>whnf
  repeat' (first|refine zx ?_|apply zD<;>intro<;>try omega)<;>conv=>whnf
  all_goals (first|(exfalso;simp_all;done)|(refine p9 ?_;unfold b5Q;rw [ha];rfl))
 |true=>
  rw [ha] at r1;cases hb:M7 b with
  |false=>
   rw [hb] at r2;refine ac Tryz.func120 ?_;conv=>whnf
   repeat' (first|refine zx ?_|apply zD<;>intro<;>try omega)<;>conv=>whnf
   all_goals (first|(exfalso;simp_all;done)|(refine p9 ?_;unfold b5Q;rw [ha,hb];rfl))
  |true=>
   rw [hb] at r2;obtain ⟨x,rfl⟩:=ax8 ha;obtain ⟨y,rfl⟩:=ax8 hb;have c:=a49 (bz x).dl (bz y).dl (b3K x) (b3K y) la lb;rw [aX7,aX7] at c;have e:b5Q (bz x) (bz y)=P6 x y:=by unfold b5Q;rw [ha,hb,a68,a68];rfl
   rw [e];have hr:=b8n x y;by_cases hs:x.sign=y.sign
   ·have hs':(bz x).sg=(bz y).sg:=hs;have e2:=b8m hs;refine ac Tryz.func120 ?_;conv=>whnf
    repeat' (first|refine zx ?_|refine ⟨_,I0 e2 om om,?_⟩|apply zD<;>intro<;>try omega)<;>conv=>whnf
    all_goals first|omega|(exfalso;simp_all;done)|exact p9 rfl
   ·have hs':(bz x).sg≠(bz y).sg:=hs;refine ac Tryz.func120 ?_;conv=>whnf
    repeat' (first|refine zx ?_|refine qp (a5D _ _) ?_|apply zD<;>intro<;>try omega)<;>conv=>whnf
    all_goals first|omega|(exfalso;simp_all;done)|exact p9 (b6v hs)
def b5i (a:Bg):Bg:=if M7 a then bz (-bv a) else ⟨0,[]⟩
def bA9 (a:Bg) (la:a.dl.length<=1000000):ec 185 [bgS a] [] (bgS (b5i a)) []:=by
 have r1:=a4u a la;cases ha:M7 a with
 |false=>
  rw [ha] at r1;have e:b5i a=⟨0,[]⟩:=by unfold b5i;rw [ha];rfl
  rw [e];refine ac Tryz.func185 ?_;conv=>whnf
  repeat' (first|refine zx ?_|apply zD<;>intro h<;>try omega)<;>conv=>whnf
  all_goals (first|(exfalso;simp_all;done)|exact p7 rz)
 |true=>
  rw [ha] at r1;obtain ⟨x,rfl⟩:=ax8 ha;have e:b5i (bz x)=sgn (0 - (bz x).sg) (bz x).dl:=by
   rw [Int.zero_sub];unfold b5i;rw [ha,b2a (b3K x).1 (by rcases G4 x with ⟨h,h1⟩|⟨h,h1⟩|⟨h,h1⟩<;>rw [af2,h]<;>simp [h1,aX7]),a68,aX7,af2];show bz (-x)=_
   congr 1
   rw [Int.neg_mul,ar0]
  rw [e];have hs:-1<=(bz x).sg/\(bz x).sg<=1:=by rcases G4 x with ⟨h,h1⟩|⟨h,h1⟩|⟨h,h1⟩<;>rw [af2,h]<;>decide
  refine ac Tryz.func185 ?_;conv=>whnf
  repeat' (first|refine zx ?_|refine qp (aj5 _ la) ?_|refine qp (b1C _ _ la) ?_|apply zD<;>intro h<;>try omega)<;>conv=>whnf
  all_goals (first|(exfalso;simp_all;done)|exact p7 rz)
open St1 St2 St3 St4 St5 St6 St7 St8 StA StB StC
set_option maxRecDepth 100000
def a8G {a:Int} (j:Nat) (hj:j<=62):IntKind.wrap .i64 (BitVec.ofInt (IntKind.bits .i64) a &&& BitVec.ofInt (IntKind.bits .i64) ((2 ^ j - 1:Nat):Int)).toNat=a % ((2 ^ j:Nat):Int):=by
 rw [b0K rfl a j hj];have hp:(2:Nat) ^ j<=2 ^ 62:=a82 de hj;have h0:0<(2:Nat) ^ j:=Nat.pow_pos de;have h1:0<=a % ((2 ^ j:Nat):Int):=av3 _ om;have h2:a % ((2 ^ j:Nat):Int)<((2 ^ j:Nat):Int):=aS5 _ om;rw [lbZ h1];exact (show M8 .i64 _ _ from a3M om om).symm
structure aP5 (m n:Int):Prop where
 ok:∀a:Int,a0M .and .i64 a m (a % n)
def a8n:aP5 1048575 1048576:=⟨fun a=>(a8G (a:=a) 20 de).symm⟩
def ar2:aP5 1 2:=⟨fun a=>(a8G (a:=a) 1 de).symm⟩
def at9 (a:Int):b43 .i64 a 20 (a / 1048576):=by
 show a / 1048576=a.fdiv 1048576;exact (Int.fdiv_eq_ediv_of_nonneg _ de).symm
def R5 {l:LI} {i:Nat} {n:Int} {v:Int} (h:0+n.toNat=i):(toC (l.map j4)).set (0+n.toNat) [C.t (ti v)]=toC ((l.set i v).map j4):=by
 rw [h];simp [toC,j4,a5X]
def U5 {l:LI} {n:Int} {i:Nat} (h:n.toNat=i) (hi:i<l.length):l[0+n.toNat]? =some (dat l i):=by rw [U8,h];exact C3 hi
def bA2 (a b:LI) (ha:Okd a) (hb:Okd b) (la:a.length<=400000) (lb:b.length<=400000) (hab:b.length<=a.length):
 ec 260 [j7 a,j7 b] [] (j7 (dg (val a+val b).toNat)) []:=by
 have l1:(a.map j4).length=a.length:=zq;have l2:(b.map j4).length=b.length:=zq;refine ac Tryz.func260 ?_;conv=>whnf
 repeat' (first|refine zx ?_|refine a2m om om om de ?_|apply zD<;>intro h<;>try omega)<;>conv=>whnf
 refine v8 g8 (σ:=Nat × LI × Int) (fun|(k,out,c)=>([j7 a,j7 b,J,J,J,a1D 0 out,eI c]++Jn 13++[j7 a,eI a.length,eI k]++Jn 32,[w7 out])) (fun x=>aa3 a b x.1 x.2.1 x.2.2) (fun x=>a.length - x.1) (0,List.replicate (a.length+1) 0,0) [some 0]
  (aa3.init _ _) ⟨rfl,rfl,⟨i6 rfl rfl rfl ?_ rfl,trivial⟩,⟨m7 rfl,m7 rfl,t5 rfl zq,rfl,m7 rfl,g9 zq,rz⟩⟩ ?_
 ·show List.replicate _ _=_;simp [toC,j4,F4]
 rintro ⟨k,out,c⟩ hI;have hI:aa3 a b k out c:=hI;have hlen:=hI.len;have hle:=hI.le;have hc0:=hI.c0;have hc1:=hI.c1;conv=>whnf
 have hda:=ha.dat k;have hdb:=hb.dat k
 repeat' (first|refine zx ?_|refine j6 (C3 om) ?_|refine S4 om (by show _<((out.length:Nat):Int);omega) ?_|refine w9 (U5 rfl om) ?_|refine ⟨_,aP5.ok (by first|exact a8n|exact ar2) _,?_⟩|refine ⟨de,_,at9 _,?_⟩|apply zD<;>intro h<;>try omega)<;>conv=>whnf
 ·refine ⟨[some 0],(k+1,out.set k ((c+dat a k+dat b k) % 1048576),(c+dat a k+dat b k) / 1048576),⟨rfl,rfl,⟨i6 rfl rfl rfl (R5 om) rfl,trivial⟩,⟨rfl,rfl,t5 rfl zq,rfl,rfl,rfl,g9 om,trivial⟩⟩,hI.step ha hb om,?_⟩;show a.length - (k+1)<a.length - k;omega
 ·have e:dat b k=0:=X3 om;have hst:=hI.step ha hb om;rw [e,ae1] at hst;refine ⟨[some 0],(k+1,out.set k ((c+dat a k) % 1048576),(c+dat a k) / 1048576),⟨rfl,rfl,⟨i6 rfl rfl rfl (R5 om) rfl,trivial⟩,⟨rfl,rfl,t5 rfl zq,rfl,rfl,rfl,g9 om,trivial⟩⟩,hst,?_⟩;show a.length - (k+1)<a.length - k;omega
 ·have hk:k=a.length:=by omega
  subst hk;have hf:=hI.fin om;have t:=a5n (out.set a.length c) zo;rw [hf] at t;refine .inr ⟨_,_,C8 [0] t ⟨a0Y (w6 zq rfl zi rfl (R5 om) zq),trivial⟩ rfl,?_⟩;conv=>whnf
  exact ax6 (by rw [aq7])
def bG3 (a b:LI) (ha:Okd a) (hb:Okd b) (la:a.length<=400000) (lb:b.length<=400000) (hab:a.length<b.length):
 ec 260 [j7 a,j7 b] [] (j7 (dg (val a+val b).toNat)) []:=by
 have l1:(a.map j4).length=a.length:=zq;have l2:(b.map j4).length=b.length:=zq;refine ac Tryz.func260 ?_;conv=>whnf
 repeat' (first|refine zx ?_|refine a2m om om om de ?_|apply zD<;>intro h<;>try omega)<;>conv=>whnf
 refine v8 g8 (σ:=Nat × LI × Int) (fun|(k,out,c)=>([j7 b,j7 a,J,J,J,a1D 0 out,eI c]++Jn 13++[j7 b,eI b.length,eI k]++Jn 32,[w7 out])) (fun x=>aa3 b a x.1 x.2.1 x.2.2) (fun x=>b.length - x.1) (0,List.replicate (b.length+1) 0,0) [some 0]
  (aa3.init _ _) ⟨rfl,rfl,⟨i6 rfl rfl rfl ?_ rfl,trivial⟩,⟨m7 rfl,m7 rfl,t5 rfl zq,rfl,m7 rfl,g9 zq,rz⟩⟩ ?_
 ·show List.replicate _ _=_;simp [toC,j4,F4]
 rintro ⟨k,out,c⟩ hI;have hI:aa3 b a k out c:=hI;have hlen:=hI.len;have hle:=hI.le;have hc0:=hI.c0;have hc1:=hI.c1;conv=>whnf
 have hda:=hb.dat k;have hdb:=ha.dat k
 repeat' (first|refine zx ?_|refine j6 (C3 om) ?_|refine S4 om (by show _<((out.length:Nat):Int);omega) ?_|refine w9 (U5 rfl om) ?_|refine ⟨_,aP5.ok (by first|exact a8n|exact ar2) _,?_⟩|refine ⟨de,_,at9 _,?_⟩|apply zD<;>intro h<;>try omega)<;>conv=>whnf
 ·refine ⟨[some 0],(k+1,out.set k ((c+dat b k+dat a k) % 1048576),(c+dat b k+dat a k) / 1048576),⟨rfl,rfl,⟨i6 rfl rfl rfl (R5 om) rfl,trivial⟩,⟨rfl,rfl,t5 rfl zq,rfl,rfl,rfl,g9 om,trivial⟩⟩,hI.step hb ha om,?_⟩;show b.length - (k+1)<b.length - k;omega
 ·have e:dat a k=0:=X3 om;have hst:=hI.step hb ha om;rw [e,ae1] at hst;refine ⟨[some 0],(k+1,out.set k ((c+dat b k) % 1048576),(c+dat b k) / 1048576),⟨rfl,rfl,⟨i6 rfl rfl rfl (R5 om) rfl,trivial⟩,⟨rfl,rfl,t5 rfl zq,rfl,rfl,rfl,g9 om,trivial⟩⟩,hst,?_⟩;show b.length - (k+1)<b.length - k;omega
 ·have hk:k=b.length:=by omega
  subst hk;have hf:=hI.fin om;have t:=a5n (out.set b.length c) zo;rw [hf] at t;refine .inr ⟨_,_,C8 [0] t ⟨a0Y (w6 zq rfl zi rfl (R5 om) zq),trivial⟩ rfl,?_⟩;conv=>whnf
  exact ax6 (by rw [aq7])
def bJ6 (a b:LI) (ha:Okd a) (hb:Okd b) (la:a.length<=400000) (lb:b.length<=400000):
 ec 260 [j7 a,j7 b] [] (j7 (dg (val a+val b).toNat)) []:=by
 rcases H6 a.length b.length with h|h
 ·exact bG3 a b ha hb la lb h
 ·exact bA2 a b ha hb la lb h
open St1 St2 St3 St4 St5 St6 St7 St8 StA StB StC
set_option maxRecDepth 100000
def bH9 (a b:LI) (ha:Okd a) (hb:Okd b) (la:a.length<=400000) (lb:b.length<=a.length) (hv:val b<=val a):
 ec 261 [j7 a,j7 b] [] (j7 (dg (val a - val b).toNat)) []:=by
 have l1:(a.map j4).length=a.length:=zq;have l2:(b.map j4).length=b.length:=zq;refine ac Tryz.func261 ?_;conv=>whnf
 repeat' (first|refine zx ?_|apply zD<;>intro h<;>try omega)<;>conv=>whnf
 refine .inr ⟨_,_,aG7 (b6H a om) rfl rfl rfl rfl,?_⟩;conv=>whnf
 repeat' (first|refine zx ?_|apply zD<;>intro h<;>try omega)<;>conv=>whnf
 refine v8 g8 (σ:=Nat × LI × Int) (fun|(k,out,c)=>([J,j7 b,J,J,J,a1D 0 out,eI c,J,J,J,J,J,eI a.length,eI k]++Jn 29,[w7 out])) (fun x=>aC4 a b x.1 x.2.1 x.2.2) (fun x=>a.length - x.1) (0,a,0) [some 0]
  (aC4.init ha) ⟨rfl,rfl,⟨i6 rfl rfl rfl rfl rfl,trivial⟩,⟨m7 rfl,t5 rfl rfl,rfl,g9 zq,rz⟩⟩ ?_
 rintro ⟨k,out,c⟩ hI;have hI:aC4 a b k out c:=hI;have hlen:=hI.len;have hle:=hI.le;have hc0:=hI.c0;have hc1:=hI.c1;conv=>whnf
 have hda:=hI.ok.dat k;have hdb:=hb.dat k
 repeat' (first|refine zx ?_|refine j6 (C3 om) ?_|refine S4 om (by show _<((out.length:Nat):Int);omega) ?_|refine w9 (U5 (i:=k) rfl om) ?_|refine ⟨_,aP5.ok (by first|exact a8n|exact ar2) _,?_⟩|refine ⟨de,_,at9 _,?_⟩|apply zD<;>intro h<;>try omega)<;>conv=>whnf
 ·refine ⟨[some 0],(k+1,out.set k ((dat out k - c - dat b k) % 1048576),(dat out k - c - dat b k) / 1048576 % 2),⟨rfl,rfl,⟨i6 rfl rfl rfl (R5 om) rfl,trivial⟩,⟨rfl,t5 rfl zq,rfl,rfl,g9 om,trivial⟩⟩,hI.step ha hb om,?_⟩;show a.length - (k+1)<a.length - k;omega
 ·have e:dat b k=0:=X3 om;have hst:=hI.step ha hb om;rw [e,Int.sub_zero] at hst;refine ⟨[some 0],(k+1,out.set k ((dat out k - c) % 1048576),(dat out k - c) / 1048576 % 2),⟨rfl,rfl,⟨i6 rfl rfl rfl (R5 om) rfl,trivial⟩,⟨rfl,t5 rfl zq,rfl,rfl,g9 om,trivial⟩⟩,hst,?_⟩;show a.length - (k+1)<a.length - k;omega
 ·have hk:k=a.length:=by omega
  subst hk;have hf:=hI.fin om hv;have t:=a5n out om;rw [hf] at t;refine .inr ⟨_,_,C8 [0] t ⟨a0Y (w6 zq rfl zi rfl rfl zq),trivial⟩ rfl,?_⟩;conv=>whnf
  exact ax6 rfl
set_option maxHeartbeats 1000000 in
def bt3 (a b:LI) (ha:Okd a) (hb:Okd b) (la:a.length<=400000) (lb:b.length<=400000):
 ec 264 [j7 a,j7 b] [] (j7 (dg (val a*val b).toNat)) []:=by
 have l1:(a.map j4).length=a.length:=zq;have l2:(b.map j4).length=b.length:=zq;refine ac Tryz.func264 ?_;conv=>whnf
 repeat' (first|refine zx ?_|refine a2m om om om de ?_|apply zD<;>intro h<;>try omega)<;>conv=>whnf
 refine v8 g8 (σ:=Nat × LI) (fun|(i,out)=>([J,j7 b,J,J,J,a1D 0 out]++Jn 12++[j7 a,eI a.length,eI i]++Jn 46,[w7 out])) (fun x=>a5T a b x.1 x.2) (fun x=>a.length - x.1) (0,List.replicate (a.length+b.length) 0) [some 0]
  (a5T.init a b) ⟨rfl,rfl,⟨i6 rfl rfl rfl ?_ rfl,trivial⟩,⟨m7 rfl,t5 rfl zo,m7 rfl,g9 zq,rz⟩⟩ ?_
 ·show List.replicate _ _=_;rw [show ((((a.map j4).length:Nat):Int)+((b.map j4).length:Nat)).toNat=a.length+b.length by omega];simp [toC,j4,F4]
 rintro ⟨i,out⟩ hI;have hI:a5T a b i out:=hI;have hlen:=hI.len;have hle:=hI.le;conv=>whnf
 repeat' (first|refine zx ?_|refine j6 (C3 om) ?_|apply zD<;>intro h<;>try omega)<;>conv=>whnf
 ·have hi:i<a.length:=by omega
  refine v8 g8 (σ:=Nat × LI × Int) (fun|(k,out,c)=>([J,j7 b,J,J,J,a1D 0 out,eI i,eI (dat a i),eI c,J,J,J,J,J,J,J,J,J,j7 a,eI a.length,eI i,J,J,J,J,j7 b,eI b.length,eI k]++Jn 39,[w7 out])) (fun x=>ar4 a b i x.1 x.2.1 x.2.2) (fun x=>b.length - x.1) (0,out,0) [some 0]
   hI.start ⟨rfl,rfl,⟨i6 rfl rfl rfl rfl rfl,trivial⟩,⟨m7 rfl,t5 rfl rfl,rfl,rfl,rfl,m7 rfl,rfl,rfl,m7 rfl,g9 zq,rz⟩⟩ ?_
  rintro ⟨k,out,c⟩ hK;have hK:ar4 a b i k out c:=hK;have hlen:=hK.len;have hle:=hK.le;have hc0:=hK.c0;have hc1:=hK.c1;conv=>whnf
  have hdo:=hK.ok.dat (i+k);have hm:=a4Z (ha.dat i) (hb.dat k);have e1:((i:Int)+k).toNat=i+k:=om;have e2:((i:Int)+b.length).toNat=i+b.length:=om;have e3:((i:Int)+((b.map j4).length:Nat)).toNat=i+b.length:=om;have hz:=hK.zero (i+b.length) (lbR _)
  repeat' (first|refine zx ?_|refine j6 (C3 om) ?_|refine S4 om (by show _<((out.length:Nat):Int);omega) ?_|refine w9 (U5 e1 om) ?_|refine w9 (U5 e3 om) ?_|refine ⟨_,aP5.ok (by first|exact a8n|exact ar2) _,?_⟩|refine ⟨de,_,at9 _,?_⟩|apply zD<;>intro h<;>try omega)<;>conv=>whnf
  ·refine ⟨[some 0],(k+1,out.set (i+k) ((dat out (i+k)+dat a i*dat b k+c) % 1048576),(dat out (i+k)+dat a i*dat b k+c) / 1048576),⟨rfl,rfl,⟨i6 rfl rfl rfl (R5 om) rfl,trivial⟩,⟨rfl,t5 rfl zq,rfl,rfl,rfl,rfl,rfl,rfl,rfl,rfl,g9 om,trivial⟩⟩,hK.step ha hb hi om,?_⟩;show b.length - (k+1)<b.length - k;omega
  ·have hk:k=b.length:=by omega
   subst hk;refine ⟨[some 0],(i+1,out.set (i+b.length) (dat out (i+b.length)+c)),⟨rfl,rfl,⟨i6 rfl rfl rfl (R5 om) rfl,trivial⟩,⟨rfl,t5 rfl zq,rfl,rfl,g9 om,trivial⟩⟩,hK.done ha hb hi,?_⟩;show a.length - (i+1)<a.length - i;omega
 ·have hi:i=a.length:=by omega
  subst hi;have hf:=hI.fin;have t:=a5n out om;rw [hf] at t;refine .inr ⟨_,_,C8 [0] t ⟨a0Y (w6 zq rfl zi rfl rfl zq),trivial⟩ rfl,?_⟩;conv=>whnf
  exact ax6 rfl
set_option maxHeartbeats 1000000 in
def bF8 (a b:LI) (ha:Okd a) (hb:Okd b) (la:a.length<=400000) (lb:b.length<=400000):
 ec 264 [j7 a,j7 b] [] (.c (.own 0 0 (dg (val a*val b).toNat).length true)) [w7 (a1r (a.length+b.length) (dg (val a*val b).toNat))]:=by
 have l1:(a.map j4).length=a.length:=zq;have l2:(b.map j4).length=b.length:=zq;refine ac Tryz.func264 ?_;conv=>whnf
 repeat' (first|refine zx ?_|refine a2m om om om de ?_|apply zD<;>intro h<;>try omega)<;>conv=>whnf
 refine v8 g8 (σ:=Nat × LI) (fun|(i,out)=>([J,j7 b,J,J,J,a1D 0 out]++Jn 12++[j7 a,eI a.length,eI i]++Jn 46,[w7 out])) (fun x=>a5T a b x.1 x.2) (fun x=>a.length - x.1) (0,List.replicate (a.length+b.length) 0) [some 0]
  (a5T.init a b) ⟨rfl,rfl,⟨i6 rfl rfl rfl ?_ rfl,trivial⟩,⟨m7 rfl,t5 rfl zo,m7 rfl,g9 zq,rz⟩⟩ ?_
 ·show List.replicate _ _=_;rw [show ((((a.map j4).length:Nat):Int)+((b.map j4).length:Nat)).toNat=a.length+b.length by omega];simp [toC,j4,F4]
 rintro ⟨i,out⟩ hI;have hI:a5T a b i out:=hI;have hlen:=hI.len;have hle:=hI.le;conv=>whnf
 repeat' (first|refine zx ?_|refine j6 (C3 om) ?_|apply zD<;>intro h<;>try omega)<;>conv=>whnf
 ·have hi:i<a.length:=by omega
  refine v8 g8 (σ:=Nat × LI × Int) (fun|(k,out,c)=>([J,j7 b,J,J,J,a1D 0 out,eI i,eI (dat a i),eI c,J,J,J,J,J,J,J,J,J,j7 a,eI a.length,eI i,J,J,J,J,j7 b,eI b.length,eI k]++Jn 39,[w7 out])) (fun x=>ar4 a b i x.1 x.2.1 x.2.2) (fun x=>b.length - x.1) (0,out,0) [some 0]
   hI.start ⟨rfl,rfl,⟨i6 rfl rfl rfl rfl rfl,trivial⟩,⟨m7 rfl,t5 rfl rfl,rfl,rfl,rfl,m7 rfl,rfl,rfl,m7 rfl,g9 zq,rz⟩⟩ ?_
  rintro ⟨k,out,c⟩ hK;have hK:ar4 a b i k out c:=hK;have hlen:=hK.len;have hle:=hK.le;have hc0:=hK.c0;have hc1:=hK.c1;conv=>whnf
  have hdo:=hK.ok.dat (i+k);have hm:=a4Z (ha.dat i) (hb.dat k);have e1:((i:Int)+k).toNat=i+k:=om;have e2:((i:Int)+b.length).toNat=i+b.length:=om;have e3:((i:Int)+((b.map j4).length:Nat)).toNat=i+b.length:=om;have hz:=hK.zero (i+b.length) (lbR _)
  repeat' (first|refine zx ?_|refine j6 (C3 om) ?_|refine S4 om (by show _<((out.length:Nat):Int);omega) ?_|refine w9 (U5 e1 om) ?_|refine w9 (U5 e3 om) ?_|refine ⟨_,aP5.ok (by first|exact a8n|exact ar2) _,?_⟩|refine ⟨de,_,at9 _,?_⟩|apply zD<;>intro h<;>try omega)<;>conv=>whnf
  ·refine ⟨[some 0],(k+1,out.set (i+k) ((dat out (i+k)+dat a i*dat b k+c) % 1048576),(dat out (i+k)+dat a i*dat b k+c) / 1048576),⟨rfl,rfl,⟨i6 rfl rfl rfl (R5 om) rfl,trivial⟩,⟨rfl,t5 rfl zq,rfl,rfl,rfl,rfl,rfl,rfl,rfl,rfl,g9 om,trivial⟩⟩,hK.step ha hb hi om,?_⟩;show b.length - (k+1)<b.length - k;omega
  ·have hk:k=b.length:=by omega
   subst hk;refine ⟨[some 0],(i+1,out.set (i+b.length) (dat out (i+b.length)+c)),⟨rfl,rfl,⟨i6 rfl rfl rfl (R5 om) rfl,trivial⟩,⟨rfl,t5 rfl zq,rfl,rfl,g9 om,trivial⟩⟩,hK.done ha hb hi,?_⟩;show a.length - (i+1)<a.length - i;omega
 ·have hi:i=a.length:=by omega
  subst hi;have hf:=hI.fin;have t:=bm6 out om;have hp:=aK9 out;rw [hf] at t hp;refine .inr ⟨_,_,t,?_⟩;conv=>whnf
  have hq:a1r (a.length+b.length) (dg (val a*val b).toNat)=out:=by unfold a1r;rw [← hlen];exact hp
  rw [hq];exact ⟨⟨[some 0],rfl,rfl,⟨i6 rfl rfl rfl rfl rfl,trivial⟩,⟨rfl,rfl,rfl,fun h=>h⟩⟩⟩
open St1 St2 St3 St4 St5 St6 St7 St8 StA StB StC
set_option maxRecDepth 100000
def b9w {r:Int} (h0:0<=r) (h1:r<4398046511104):M8 .i64 (r*2 ^ min (20:Int).toNat (IntKind.bits .i64)) (r*1048576):=by
 show M8 .i64 (r*1048576) (r*1048576);exact a3M om om
def bD3 {k:IntKind} (hk:k.bits=64) (R X:Nat) (h1:R<4398046511104) (hx:X<1048576):(BitVec.ofInt k.bits ((R:Int)*1048576) ||| BitVec.ofInt k.bits (X:Int)).toNat=R*1048576+X:=by
 rw [hk,BitVec.toNat_or,BitVec.toNat_ofInt,BitVec.toNat_ofInt];have e1:(((R:Int)*1048576) % ((2 ^ 64:Nat):Int)).toNat=R <<< 20:=by
  rw [Nat.shiftLeft_eq];omega
 have e2:((X:Int) % ((2 ^ 64:Nat):Int)).toNat=X:=om;rw [e1,e2,←Nat.shiftLeft_add_eq_or_of_lt om,Nat.shiftLeft_eq]
def bH0 {r x:Int} (h0:0<=r) (h1:r<4398046511104) (hx0:0<=x) (hx1:x<1048576):a0M .or .i64 (r*1048576) x (r*1048576+x):=by
 obtain ⟨R,rfl⟩:=a2W h0;obtain ⟨X,rfl⟩:=a2W hx0;unfold a0M;simp only;rw [bD3 rfl R X om om];have e:((R*1048576+X:Nat):Int)=(R:Int)*1048576+X:=zq;rw [e];exact (show M8 .i64 ((R:Int)*1048576+X) _ from a3M om om)
def b8G {a b:Int} (h0:0<=a) (h1:a<=9223372036854775807) (hb:0<b):M8 .i64 (a.tdiv b) (a / b):=by
 rw [a59 h0];have h2:0<=a / b:=aB3 h0 om;have h3:a / b<=a:=Int.ediv_le_self _ h0;exact a3M om om
def b69 {l:LI} {n:Nat} (h:0<n) (hn:n<=l.length):l[0+((n:Int) - 1).toNat]? =some (dat l (n - 1)):=by rw [U8];exact a2R h hn
def b57 (a:LI) (d:Int) (ha:Okd a) (la:a.length<=1000000) (hd:0<d) (hd2:d<1048576):
 ec 307 [j7 a,eI d] [] (.tup [j7 (dg (val a / d).toNat),eI (val a % d)]) []:=by
 have l1:(a.map j4).length=a.length:=zq;refine ac Tryz.func307 ?_;conv=>whnf
 repeat' (first|refine zx ?_|refine a2m om om om de ?_|apply zD<;>intro h<;>try omega)<;>conv=>whnf
 refine v8 g8 (σ:=Nat × LI × Int) (fun|(j,out,r)=>([j7 a,eI d,J,J,J,J,a1D 0 out,eI r,eI ((j:Int) - 1)]++Jn 29,[w7 out])) (fun x=>a1H a d x.1 x.2.1 x.2.2) (fun x=>x.1) (a.length,List.replicate a.length 0,0) [some 0]
  (a1H.init a hd) ⟨rfl,rfl,⟨i6 rfl rfl rfl ?_ rfl,trivial⟩,⟨m7 rfl,rfl,t5 rfl zq,rfl,g9 zq,trivial⟩⟩ ?_
 ·show List.replicate _ _=_;simp [toC,j4,F4]
 rintro ⟨j,out,r⟩ hI;have hI:a1H a d j out r:=hI;have hlen:=hI.len;have hle:=hI.le;have hr0:=hI.r0;have hr1:=hI.r1;have hda:=ha.dat (j - 1);conv=>whnf
 repeat' (first|refine zx ?_|refine K3 om (a2R om hle) ?_|refine S4 om (by show _<((out.length:Nat):Int);omega) ?_|refine w9 (b69 om om) ?_|refine ⟨de,_,b9w om om,?_⟩|refine ⟨_,bH0 om om om om,?_⟩|refine ⟨om,_,b8G om om om,?_⟩|refine an4 om ?_|apply zD<;>intro h<;>try omega)<;>conv=>whnf
 ·obtain ⟨j,rfl⟩:∃i,j=i+1:=⟨j - 1,om⟩;simp only [aW9] at *;have hst:=hI.step ha hd;rw [← a6j om] at hst;refine ⟨[some 0],(j,out.set j ((r*1048576+dat a j) / d),(r*1048576+dat a j).tmod d),⟨rfl,rfl,⟨i6 rfl rfl rfl (R5 om) rfl,trivial⟩,⟨rfl,rfl,t5 rfl zq,rfl,g9 om,trivial⟩⟩,hst,?_⟩;show j<j+1;omega
 ·have hj:j=0:=by omega
  subst hj;obtain ⟨hf,hr⟩:=hI.fin ha hd;have t:=a5n out om;rw [hf] at t;refine .inr ⟨_,_,C8 [0] t ⟨a0Y (w6 zq rfl zi rfl rfl zq),trivial⟩ rfl,?_⟩;conv=>whnf
  repeat' (first|refine zx ?_|apply zD<;>intro h<;>try omega)<;>conv=>whnf
  exact p7 ⟨rfl,g9 hr,trivial⟩
open St1 St2 St3 St4 St5 St6 St7 St8 StA StB StC
set_option maxRecDepth 100000
def b45 {pre out post:LI} {k:Nat} (h:k<out.length):(pre++out++post)[pre.length+(k:Int).toNat]? =some (dat out k):=by
 rw [lbD,lbc om,show pre.length+(k:Int).toNat - pre.length=k by omega,lbb h];exact C3 h
def a9B {pre out post:LI} {k:Nat} {v:Int} (h:k<out.length):(toC ((pre++out++post).map j4)).set (pre.length+(k:Int).toNat) [C.t (ti v)]=toC ((pre++out.set k v++post).map j4):=by
 have e:(pre++out++post).set (pre.length+k) v=pre++out.set k v++post:=by
  rw [lbD,List.set_append_right _ _ om,show pre.length+k - pre.length=k by omega,b4s _ _ h,lbD]
 rw [← e];show (toC ((pre++out++post).map j4)).set (pre.length+k) _=_;simp [toC,j4,a5X]
def a0B (w v g:Int):Int:=if g*v<=w then g else g - 1
def b8v (pre w post v:LI) (g:Int) (hw:Okd w) (hv:Okd v) (lw:w.length<=1000000) (lv:v.length<=w.length) (hg:0<=g/\g<1048576) (hgv:g*val v<=val w+val v):
 ec 308 [.c (.own 0 pre.length w.length false),j7 v,eI g] [w7 (pre++w++post)] (eI (a0B (val w) (val v) g))
  [w7 (pre++a1r w.length (dg (val w - a0B (val w) (val v) g*val v).toNat)++post)]:=by
 have l1:(v.map j4).length=v.length:=zq;refine ac Tryz.func308 ?_;conv=>whnf
 repeat' (first|refine zx ?_|apply zD<;>intro h<;>try omega)<;>conv=>whnf
 refine v8 g8 (σ:=Nat × LI × Int) (fun|(k,out,c)=>([S.c (C.own 0 pre.length w.length false),j7 v,eI g,J,J,J,J,eI c,J,J,J,J,J,eI w.length,eI k]++Jn 63,[w7 (pre++out++post)])) (fun x=>ai0 w v g x.1 x.2.1 x.2.2) (fun x=>w.length - x.1) (0,w,0) [some 0]
  (ai0.init g hw) ⟨rfl,rfl,⟨i6 rfl rfl rfl rfl rfl,trivial⟩,⟨⟨rfl,rfl,rfl,fun h=>h⟩,m7 rfl,rz⟩⟩ ?_
 rintro ⟨k,out,c⟩ hI;have hI:ai0 w v g k out c:=hI;have hlen:=hI.len;have hle:=hI.le;have hc0:=hI.c0;have hc1:=hI.c1;have hdo:=hI.ok.dat k;have hm:=a4Z hg (hv.dat k);conv=>whnf
 repeat' (first|refine zx ?_|refine j6 (C3 om) ?_|refine w9 (b45 om) ?_|refine ⟨_,aP5.ok (by first|exact a8n|exact ar2) _,?_⟩|refine ⟨de,_,at9 _,?_⟩|apply zD<;>intro h<;>try omega)<;>conv=>whnf
 ·have hst:=hI.step hv hg om;refine ⟨[some 0],(k+1,out.set k ((dat out k - c - g*dat v k) % 1048576),-((dat out k - c - g*dat v k) / 1048576)),⟨rfl,rfl,⟨i6 rfl rfl rfl (a9B om) rfl,trivial⟩,⟨⟨rfl,rfl,rfl,fun h=>h⟩,rfl,rfl,g9 (Int.zero_sub _),rfl,g9 om,trivial⟩⟩,hst,?_⟩;show w.length - (k+1)<w.length - k;omega
 ·have hst:=hI.step hv hg om;rw [X3 (l:=v) (i:=k) om,Int.mul_zero,Int.sub_zero] at hst;refine ⟨[some 0],(k+1,out.set k ((dat out k - c) % 1048576),-((dat out k - c) / 1048576)),⟨rfl,rfl,⟨i6 rfl rfl rfl (a9B om) rfl,trivial⟩,⟨⟨rfl,rfl,rfl,fun h=>h⟩,rfl,rfl,g9 (Int.zero_sub _),rfl,g9 om,trivial⟩⟩,hst,?_⟩;show w.length - (k+1)<w.length - k;omega
 ·have hk:k=w.length:=by omega
  subst hk;have hc:c=0:=by assumption
  obtain ⟨h1,h2⟩:=hI.zero lv hw hv hg.1;have hq:a0B (val w) (val v) g=g:=by unfold a0B;rw [iA (h1.1 hc)]
  rw [hq,←h2 hc,←b4i hI.ok hlen];exact ⟨⟨[some 0],rfl,rfl,⟨i6 rfl rfl rfl rfl rfl,trivial⟩,rfl⟩⟩
 ·have hk:k=w.length:=by omega
  subst hk;have hc:¬c=0:=by assumption
  obtain ⟨h1,h2⟩:=hI.zero lv hw hv hg.1;have hlt:¬g*val v<=val w:=fun h=>hc (h1.2 h)
  have hq:a0B (val w) (val v) g=g - 1:=by unfold a0B;rw [iB hlt]
  have hvl:=Z8 hv;have hpw:=a1c lv;rw [hq];refine v8 g8 (σ:=Nat × LI × Int) (fun|(k,o,c)=>([S.c (C.own 0 pre.length w.length false),j7 v,eI g,J,J,J,J,J,J,J,eI c]++Jn 37++[eI w.length,eI k]++Jn 28,[w7 (pre++o++post)])) (fun x=>a8N out v x.1 x.2.1 x.2.2) (fun x=>w.length - x.1) (0,out,0) [some 0]
   (a8N.init hI.ok) ⟨rfl,rfl,⟨i6 rfl rfl rfl rfl rfl,trivial⟩,⟨⟨rfl,rfl,rfl,fun h=>h⟩,m7 rfl,rz⟩⟩ ?_
  rintro ⟨k,o,c'⟩ hB;have hB:a8N out v k o c':=hB;have hlen2:=hB.len;have hle2:=hB.le;have hb0:=hB.c0;have hb1:=hB.c1;have hdo:=hB.ok.dat k;have hdv:=hv.dat k;conv=>whnf
  repeat' (first|refine zx ?_|refine j6 (C3 om) ?_|refine w9 (b45 om) ?_|refine ⟨_,aP5.ok (by first|exact a8n|exact ar2) _,?_⟩|refine ⟨de,_,at9 _,?_⟩|apply zD<;>intro h<;>try omega)<;>conv=>whnf
  ·have hst:=hB.step hv om;refine ⟨[some 0],(k+1,o.set k ((c'+dat o k+dat v k) % 1048576),(c'+dat o k+dat v k) / 1048576),⟨rfl,rfl,⟨i6 rfl rfl rfl (a9B om) rfl,trivial⟩,⟨⟨rfl,rfl,rfl,fun h=>h⟩,rfl,rfl,rfl,rfl,g9 om,trivial⟩⟩,hst,?_⟩;show w.length - (k+1)<w.length - k;omega
  ·have hst:=hB.step hv om;rw [X3 (l:=v) (i:=k) om,ae1] at hst;refine ⟨[some 0],(k+1,o.set k ((c'+dat o k) % 1048576),(c'+dat o k) / 1048576),⟨rfl,rfl,⟨i6 rfl rfl rfl (a9B om) rfl,trivial⟩,⟨⟨rfl,rfl,rfl,fun h=>h⟩,rfl,rfl,rfl,rfl,g9 om,trivial⟩⟩,hst,?_⟩;show w.length - (k+1)<w.length - k;omega
  ·have hk:k=w.length:=by omega
   subst hk;have e:=hI.back hB lv om om;have e2:val w - (g - 1)*val v=val w - g*val v+val v:=by rw [Int.sub_mul];omega
   rw [e2,←e,←b4i hB.ok om];exact ⟨⟨[some 0],rfl,rfl,⟨i6 rfl rfl rfl rfl rfl,trivial⟩,rfl⟩⟩
open St1 St2 St3 St4 St5 St6 St7 St8 StA StB StC
set_option maxRecDepth 100000
abbrev b3i (m n:Nat):S:=.tup [j7 (dg (m / n)),j7 (dg (m % n))]
def bu7 (m n:Nat) (hn:0<n) (h:m<n) (lm:(dg m).length<=400000) (ln:(dg n).length<=400000):
 ec 253 [j7 (dg m),j7 (dg n)] [] (b3i m n) []:=by
 have c:=a49 (dg m) (dg n) (Y3 m) (Y3 n) om om;rw [v3,v3,a4N om] at c;have e1:m / n=0:=Nat.div_eq_of_lt h;have e2:m % n=m:=b3X h;unfold b3i;rw [e1,e2,a0E];refine ac Tryz.func253 ?_;conv=>whnf
 repeat' (first|refine zx ?_|refine qp (aj5 _ om) ?_|apply zD<;>intro h<;>try omega)<;>conv=>whnf
 exact p7 rz
def bx4 (m n:Nat) (hn:0<n) (h:n<=m) (hl:(dg n).length=1) (lm:(dg m).length<=400000):
 ec 253 [j7 (dg m),j7 (dg n)] [] (b3i m n) []:=by
 have l2:((dg n).map j4).length=(dg n).length:=zq;have c:=a49 (dg m) (dg n) (Y3 m) (Y3 n) om om;rw [v3,v3] at c;have hc:0<=P6 m n:=by unfold P6;split<;>(try split)<;>omega
 have hn2:=T2 n;rw [hl] at hn2;have hn3:(n:Int)<1048576:=by simpa [pw] using hn2
 have hd:dg n=[(n:Int)]:=by
  rw [a8D hn,show n / 1048576=0 by omega,show n % 1048576=n by omega];rfl
 have sh:=b57 (dg m) n (B5 m) om om hn3;rw [v3] at sh;have e1:((m:Int) / n).toNat=m / n:=by rw [← Int.natCast_ediv];rfl
 have e2:(m:Int) % n=((m % n:Nat):Int):=zq;rw [e1,e2] at sh;have hr:m % n<n:=a9y _ hn;have t:=a5n [((m % n:Nat):Int)] zq;rw [Q5 (by intro x hx;simp at hx;omega)] at t;have e3:(val [((m % n:Nat):Int)]).toNat=m % n:=by simp only [val];omega
 rw [e3] at t;refine ac Tryz.func253 ?_;conv=>whnf
 repeat' (first|refine zx ?_|refine K3 (x:=(n:Int)) om (by rw [hd];rfl) ?_|refine .inl ⟨_,_,a07 t ⟨a0Y (a8i rfl),trivial⟩ rfl,?_⟩|apply zD<;>intro h<;>try omega)<;>conv=>whnf
 all_goals (first|omega|exact p7 rz)
open St1 St2 St3 St4 St5 St6 St7 St8 StA StB StC
def bz8 {n k:Nat} {top:Int} (hn:0<n) (ht:dat (dg n) ((dg n).length - 1)=top) (hk:k<=19) (h1:top*2 ^ k<1048576) (h2:¬top*2 ^ k<524288):
 (dg (n*2 ^ k)).length=(dg n).length/\524288<=dat (dg (n*2 ^ k)) ((dg n).length - 1):=by
 have hl:(dg n).length≠0:=by rw [Ne,a1C,O4];omega
 obtain ⟨l,hl'⟩:∃l,(dg n).length=l+1:=⟨(dg n).length - 1,om⟩;rw [hl',aW9] at ht ⊢;have e1:=A8 (dg n) l;rw [lbn om,v3,ht] at e1;have a1:=B7 ((B5 n).take l);have a2:=Z8 ((B5 n).take l);rw [lbs,a3j om] at a2;have t0:=(B5 n).dat l;rw [ht] at t0;obtain ⟨T,rfl⟩:=a2W t0.1;have hp:(0:Int)<2 ^ k:=Int.pow_pos de;have hpp:=N8 l;have e2:(2:Int) ^ k*2 ^ (20 - k)=1048576:=by rw [← Int.pow_add,show k+(20 - k)=20 by omega];rfl
 have h3:(T:Int)<2 ^ (20 - k):=by
  refine b2E (a:=(2:Int) ^ k) ?_ (U2 hp);rw [e2,a7J];exact h1
 have h4:((T:Int)+1)*2 ^ k<=1048576:=by
  have:=lbW (a:=(T:Int)+1) (b:=2 ^ (20 - k)) (c:=2 ^ k) om (U2 hp);rw [e2,a7J] at this;exact this
 have hV:(((n*2 ^ k:Nat)):Int)=n*2 ^ k:=zq;have h5:((n*2 ^ k:Nat):Int)<pw (l+1):=by
  rw [hV,L8];have b1:(n:Int)+1<=pw l*(T+1):=by rw [aB2];omega
  have b2:=lbX (c:=(2:Int) ^ k) b1 (U2 hp);have b3:=lbW (c:=pw l) h4 (U2 hpp);rw [← Int.mul_assoc] at b3;rw [Int.add_mul] at b2;omega
 have h6:pw l*524288<=((n*2 ^ k:Nat):Int):=by
  rw [hV];have b1:pw l*T<=(n:Int):=om;have b2:=lbX (c:=(2:Int) ^ k) b1 (U2 hp);have b3:=lbW (a:=524288) (b:=(T:Int)*2 ^ k) (c:=pw l) om (U2 hpp);rw [← Int.mul_assoc] at b3;omega
 have h7:(dg (n*2 ^ k)).length=l+1:=by
  have c1:=P9 h5;rcases H6 (dg (n*2 ^ k)).length (l+1) with c2|c2
  ·have c3:=T2 (n*2 ^ k);have c4:=a1c (show (dg (n*2 ^ k)).length<=l by omega);omega
  ·omega
 refine ⟨h7,?_⟩;have f1:=A8 (dg (n*2 ^ k)) l;rw [lbn om,v3] at f1;have f2:=Z8 ((B5 (n*2 ^ k)).take l);rw [lbs,a3j om] at f2;rcases a6v (dat (dg (n*2 ^ k)) l) 524288 with c|c
 ·exfalso;have:=lbW (a:=dat (dg (n*2 ^ k)) l+1) (b:=524288) (c:=pw l) om (U2 hpp);rw [aB2] at this;omega
 ·exact c
set_option maxRecDepth 100000
set_option maxHeartbeats 8000000
open Go.RowKit
open St1 St2 St3 St4 St5 St6 St7 St8 StA StB StC
def b8V {a a' b b':Nat} {x y:S} (h1:a=a') (h2:b=b'):[S.c (.own 0 a b false),x,y]=[S.c (.own 0 a' b' false),x,y]:=by rw [h1,h2]
def b1U {V W v1 top g r:Int} (hG:a0P V W v1 top g r) (hV:0<V) (hW:0<=W) (h1:g<1048576) (h2:g*V<=W+V):
 0<=a0B W V g/\a0B W V g<1048576/\0<=W - a0B W V g*V/\W - a0B W V g*V<V:=by
 have h3:=hG.hi;have h4:=hG.g0;rw [Int.add_mul,a2g] at h3;unfold a0B;by_cases hc:g*V<=W
 ·rw [iA hc];omega
 ·rw [iB hc,Int.sub_mul,a2g];have:g≠0:=by rintro rfl;simp at hc;omega
  omega
theorem zu {p:Prop} (h:p:=by simp [toC];omega):p:=h
def bw6 (m n:Nat) (hn:0<n) (hmn:n<=m) (hl:2<=(dg n).length) (lm:(dg m).length<=300000) (ln:(dg n).length<=300000):
 ec 253 [j7 (dg m),j7 (dg n)] [] (b3i m n) []:=by
 have l1:((dg m).map j4).length=(dg m).length:=zq;have l2:((dg n).map j4).length=(dg n).length:=zq;have c:=a49 (dg m) (dg n) (Y3 m) (Y3 n) om om;rw [v3,v3] at c;have hc:0<=P6 m n:=by unfold P6;split<;>(try split)<;>omega
 have ht0:=(B5 n).dat ((dg n).length - 1);have ht1:dat (dg n) ((dg n).length - 1)≠0:=(Y3 n).2 _ (C3 om);generalize htop:dat (dg n) ((dg n).length - 1)=top at ht0 ht1;refine ac Tryz.func253 ?_;conv=>whnf
 repeat' (first|refine zx ?_|apply zD<;>intro h<;>try omega)<;>conv=>whnf
 refine v8 g8 (σ:=Nat) (fun k=>([j7 (dg m),j7 (dg n),J,J,J,J,J,J,eI (2 ^ k)]++Jn 161,[])) (fun k=>k<=19/\top*2 ^ k<1048576) (fun k=>20 - k) 0 []
  ⟨om,om⟩ ⟨rfl,rfl,trivial,⟨m7 rfl,m7 rfl,rz⟩⟩ ?_
 rintro k ⟨hk1,hk2⟩;have hk1:k<=19:=hk1;have hk2:top*2 ^ k<1048576:=hk2;have hp0:(0:Int)<2 ^ k:=Int.pow_pos de;have hpt:0<top*2 ^ k:=ab0 om hp0;have hpk:(2:Int) ^ k<=524288:=by
  have:=a82 (n:=2) de hk1;have e:((2 ^ k:Nat):Int)=2 ^ k:=zq;omega
 have hgl:(dg n)[(((((dg n).map j4).length:Nat):Int) - 1).toNat]? =some top:=by rw [l2,←htop];exact a8H om
 conv=>whnf
 repeat' (first|refine zx ?_|refine K3 om hgl ?_|apply zD<;>intro h<;>try omega)<;>conv=>whnf
 ·have hlt:top*2 ^ k<524288:=by omega
  refine ⟨[],k+1,⟨rfl,rfl,trivial,⟨rfl,rfl,g9 (Int.pow_succ _ _).symm,trivial⟩⟩,⟨?_,?_⟩,?_⟩
  ·rcases H6 k 19 with h1|h1
   ·exact h1
   ·have:k=19:=by omega
    subst this;omega
  ·rw [Int.pow_succ,←Int.mul_assoc];omega
  ·show 20 - (k+1)<20 - k;omega
 ·have hsh:Okd [(2:Int) ^ k]:=by intro x hx;simp at hx;omega
  have mu:=bF8 (dg m) [2 ^ k] (B5 m) hsh om zq;have mv:=bt3 (dg n) [2 ^ k] (B5 n) hsh om zq;have ev:val [(2:Int) ^ k]=2 ^ k:=by simp [val]
  rw [ev,v3] at mu mv;generalize hU:((m:Int)*2 ^ k).toNat=U at mu;generalize hV:((n:Int)*2 ^ k).toNat=V at mv;refine .inr ⟨_,_,aG7 (b3H mu ⟨aY2,a0Y (a8i rfl),trivial⟩) rfl rfl rfl rfl,?_⟩;conv=>whnf
  have hVe:V=n*2 ^ k:=by
   have e:((n:Int)*2 ^ k)=((n*2 ^ k:Nat):Int):=zq;rw [← hV,e];exact lbY _
  have hUe:U=m*2 ^ k:=by
   have e:((m:Int)*2 ^ k)=((m*2 ^ k:Nat):Int):=zq;rw [← hU,e];exact lbY _
  obtain ⟨lV,hvt⟩:=bz8 hn htop hk1 hk2 h;rw [← hVe] at lV hvt;have hp1:0<2 ^ k:=Nat.pow_pos de;have lU3:(dg m).length<=(dg U).length:=t8 (by rw [hUe];exact aI4 m hp1);have lU2:(dg U).length<=(dg m).length+1:=P9 (by
   have h1:=T2 m;rw [L8,hUe];have h2:=lbW (a:=2 ^ k) (b:=1048576) (c:=(m:Int)+1) om om;have h3:(((m*2 ^ k:Nat)):Int)=m*2 ^ k:=zq;rw [Int.add_mul] at h2;omega)
  have lU1:(a1r ((dg m).length+[(2:Int) ^ k].length) (dg U)).length<=300001:=by rw [aL5 (by simpa using lU2)];simp;omega
  have l3:((dg V).map j4).length=(dg V).length:=zq;have lmn:(dg n).length<=(dg m).length:=t8 hmn;have l4:(toC [[T.atm (Value.int .i64 0)]]).length=1:=rfl
  repeat' (first|refine zx ?_|refine z6 (by simp [toC,a1r]) zu ?_|refine .inl ⟨_,_,a07 mv ⟨aY2,a0Y (a8i rfl),trivial⟩ rfl,?_⟩|refine a2m om om om de ?_|apply zD<;>intro h<;>try omega)<;>conv=>whnf
  have hV0:0<V:=by rw [hVe];exact Nat.mul_pos hn hp1
  refine v8 g8 (σ:=Nat × LI × LI) (fun|(j,u,q)=>(Jn 8++[eI (2 ^ k),a1D 0 u,j7 (dg V),eI (dg V).length,a1D 1 q,eI ((j:Int) - 1)]++Jn 156,[w7 u,w7 q])) (fun x=>ai4 U V ((dg U).length+1) (dg V).length x.1 x.2.1 x.2.2) (fun x=>x.1)
   ((dg U).length+1 - (dg V).length,dg U++[0],List.replicate ((dg U).length+1 - (dg V).length) 0) [some 1,some 2]
   (ai4.init hV0 om) ⟨rfl,rfl,⟨i6 rfl rfl rfl ?_ rfl,i6 rfl rfl rfl ?_ rfl,trivial⟩,⟨rfl,t5 rfl ?_,m7 rfl,g9 om,t5 rfl ?_,g9 ?_,trivial⟩⟩ ?_
  ·simp [toC,F8,a1r,lbC,List.take_append,j4]
  ·show List.replicate _ _=_;simp [toC,j4,F4]
  ·simp [toC]
  ·simp [toC]
  ·simp [toC]
  rintro ⟨j,u,q⟩ hD;have hD:ai4 U V ((dg U).length+1) (dg V).length j u q:=hD;have hlu:=hD.lu;have hlq:=hD.lq;have hle:=hD.le;have hdt:0<j->dat u (j - 1+(dg V).length)=dat u (j - 1+(dg V).length):=fun _=>rfl
  have gu0:0<j->u[0+(((j:Int) - 1)+(dg V).length).toNat]? =some (dat u (j - 1+(dg V).length)):=fun h=>U5 om om
  have gu1:0<j->u[0+(((j:Int) - 1)+(dg V).length - 1).toNat]? =some (dat u (j - 1+(dg V).length - 1)):=fun h=>U5 om om
  have d0:=hD.oku.dat (j - 1+(dg V).length);have d1:=hD.oku.dat (j - 1+(dg V).length - 1);have dv:=(B5 V).dat ((dg V).length - 1);have hvt2:524288<=dat (dg V) ((dg V).length - 1):=by rw [lV];exact hvt
  conv=>whnf
  repeat' (first|refine zx ?_|refine S4 om (by show _<((u.length:Nat):Int);omega) ?_|refine w9 (gu0 om) ?_|refine w9 (gu1 om) ?_|refine ⟨de,_,b9w om om,?_⟩|refine ⟨_,bH0 om om om om,?_⟩|refine K3 om (a8H om) ?_|refine ⟨om,_,b8G om om om,?_⟩|refine an4 om ?_|apply zD<;>intro h<;>try omega)<;>conv=>whnf
  ·have hj:0<j:=by omega
   obtain ⟨i,rfl⟩:∃i,j=i+1:=⟨j - 1,om⟩;simp only [aW9] at *;obtain ⟨L,hL⟩:∃L,(dg V).length=L+2:=⟨(dg V).length - 2,om⟩;obtain ⟨w3,w2,w0,wv,wz,wlt⟩:=hD.window rfl;generalize hw:(u.drop i).take ((dg V).length+1)=w at w3 w2 wv wlt;have hwo:Okd w:=by rw [← hw];exact (hD.oku.drop i).take _
   have dw:∀t,t<=(dg V).length->dat w t=dat u (i+t):=fun t ht=>by
    rw [← hw];unfold dat;rw [lbl,lbi,iA om,lbj,←lbl]
   have win:=Win.of (B5 V) hwo hL om (by rw [hL] at hvt2;exact hvt2) (by rw [v3];exact wlt);rw [dw (L+2) om,dw (L+1) om,dw L om,v3] at win;have eL1:(dg V).length - 1=L+1:=om;have eu0:i+(L+2)=i+(dg V).length:=om;have eu1:i+(L+1)=i+(dg V).length - 1:=om;rw [eu0,eu1] at win;generalize ht:dat u (i+(dg V).length)*1048576+dat u (i+(dg V).length - 1)=top2 at win;have win':=win;have ht0:=win.t0;refine v8 g8 (σ:=Int × Int) (fun|(g,r)=>(Jn 8++[eI (2 ^ k),a1D 0 u,j7 (dg V),eI (dg V).length,a1D 1 q,eI i,J,eI g,eI r]++Jn 153,[w7 u,w7 q])) (fun x=>a0P V (val w) (dat (dg V) (L+1)) top2 x.1 x.2) (fun x=>x.1.toNat)
    (top2 / dat (dg V) (L+1),top2 % dat (dg V) (L+1)) [some 0,some 1]
    (a0P.init win) ⟨rfl,rfl,⟨i6 rfl rfl rfl rfl rfl,i6 rfl rfl rfl rfl rfl,trivial⟩,⟨rfl,t5 rfl rfl,m7 rfl,rfl,t5 rfl rfl,g9 om,g9 ?_,g9 ?_,trivial⟩⟩ ?_
   ·rw [eL1]
   ·rw [eL1,a6j ht0]
   rintro ⟨g,r⟩ hG;have hG:a0P V (val w) (dat (dg V) (L+1)) top2 g r:=hG;have hg0:=hG.g0;have hgu:=hG.gu;have hr0:=hG.r0;have hru:=hG.ru;have dv2:=(B5 V).dat L;have dv1:=(B5 V).dat (L+1);have du2:=hD.oku.dat (i+L);have hgm:0<=g*dat (dg V) L/\g*dat (dg V) L<=2097152*1048576:=⟨lb0 hg0 dv2.1,a5E hgu om dv2.1 om⟩;have gv2:(dg V)[((((dg V).length:Nat):Int) - 2).toNat]? =some (dat (dg V) L):=by rw [show ((((dg V).length:Nat):Int) - 2).toNat=L by omega];exact C3 om
   have gv1:(dg V)[((((dg V).length:Nat):Int) - 1).toNat]? =some (dat (dg V) (L+1)):=by rw [show ((((dg V).length:Nat):Int) - 1).toNat=L+1 by omega];exact C3 om
   have gu2:u[0+((i:Int)+((dg V).length:Nat) - 2).toNat]? =some (dat u (i+L)):=U5 om om;conv=>whnf
   repeat' (first|refine zx ?_|refine S4 om (by show _<((u.length:Nat):Int);omega) ?_|refine K3 om gv2 ?_|refine K3 om gv1 ?_|refine w9 gu2 ?_|refine ⟨de,_,b9w om om,?_⟩|refine ⟨_,bH0 om om om om,?_⟩|refine aI5 om om (by show _<=((u.length:Nat):Int);omega) ?_|apply zD<;>intro h<;>try omega)<;>conv=>whnf
   ·have hgc:1048576<=g:=by omega
    have hst:=a0P.step win hG (.inl hgc) (B7 hwo);exact ⟨[some 0,some 1],(g - 1,r+dat (dg V) (L+1)),⟨rfl,rfl,⟨i6 rfl rfl rfl rfl rfl,i6 rfl rfl rfl rfl rfl,trivial⟩,⟨rfl,t5 rfl rfl,rfl,rfl,t5 rfl rfl,rz⟩⟩,hst,by have:=hst.g0;show (g - 1).toNat<g.toNat;omega⟩
   ·have hgc:r<1048576/\r*1048576+dat u (i+L)<g*dat (dg V) L:=by omega
    have hst:=a0P.step win hG (.inr hgc) (B7 hwo);exact ⟨[some 0,some 1],(g - 1,r+dat (dg V) (L+1)),⟨rfl,rfl,⟨i6 rfl rfl rfl rfl rfl,i6 rfl rfl rfl rfl rfl,trivial⟩,⟨rfl,t5 rfl rfl,rfl,rfl,t5 rfl rfl,rz⟩⟩,hst,by have:=hst.g0;show (g - 1).toNat<g.toNat;omega⟩
   all_goals
    have hgc:¬(1048576<=g\/(r<1048576/\r*1048576+dat u (i+L)<g*dat (dg V) L)):=om;obtain ⟨hg1,hgV⟩:=a0P.fin win hG hgc (by
     have h1:=win.Vl;have h3:=win.v1l;have h2:=lbW (a:=1048576) (b:=dat (dg V) (L+1)*1048576+dat (dg V) L) om (U2 win.P0);omega)
    have st:=b8v (u.take i) w (u.drop (i+((dg V).length+1))) (dg V) g hwo (B5 V) om om ⟨hg0,hg1⟩ (by rw [v3];exact hgV);rw [v3] at st;obtain ⟨q0,q1,q2,q3⟩:=b1U hG om (B7 hwo) hg1 hgV;have hds:=hD.step rfl hV0 ⟨q0,q1⟩ (by rw [hw];exact q2) (by rw [hw];exact q3);rw [hw] at hds;generalize a0B (val w) V g=Q at st q0 q1 q2 q3 hds;rw [← w3,w2] at st;generalize hu':u.take i++a1r ((dg V).length+1) (dg (val w - Q*V).toNat)++u.drop (i+((dg V).length+1))=u' at st hds;refine .inr ⟨_,_,V3 (H':=[w7 u',w7 q]) [0] st (b8V (by rw [w0];omega) om) rfl rfl de ?_ zq zq rfl rfl rfl ?_ ?_,?_⟩
    ·intro i k hk
     match i,hk with
     |0,hk=>
      injection hk with hk;subst hk;exact ⟨rfl,rfl,a5z _,_,rfl,E0 rfl⟩
    ·intro i k hk
     match i,hk with
     |0,hk=>
      injection hk with hk;subst hk;exact ⟨_,rfl,E0 rfl⟩
    ·intro j hj hn
     match j,hj with
     |0,_=>simp at hn
     |1,_=>rfl
    conv=>whnf
    have hlu':=hds.lu;refine zz ?_;conv=>whnf
    repeat' (first|refine zx ?_|refine w9 (U5 rfl om) ?_|apply zD<;>intro h<;>try omega)<;>conv=>whnf
    exact ⟨[some 0,some 1],(i,u',q.set i Q),⟨rfl,rfl,⟨i6 rfl rfl rfl rfl rfl,i6 rfl rfl rfl (R5 (i:=i) (n:=(i:Int)) zq) rfl,trivial⟩,⟨rfl,t5 rfl (hlu.trans hlu'.symm),rfl,rfl,t5 rfl zq,rz⟩⟩,hds,by show i<i+1;omega⟩
  ·have hj:j=0:=by omega
   subst hj;obtain ⟨fq,fu⟩:=hD.fin hV0;have tu:=a5n u om;rw [Q5 hD.oku,fu,lbY] at tu;have tq:=a5n q om;rw [Q5 hD.okq,fq,lbY] at tq;have lUV:(dg (U % V)).length<=(dg U).length:=t8 (Nat.mod_le _ _);have sh:=b57 (dg (U % V)) (2 ^ k) (B5 _) om om om;have e1:U % V / 2 ^ k=m % n:=by rw [hUe,hVe,Nat.mul_mod_mul_right,Nat.mul_div_cancel _ hp1]
   have e2:U / V=m / n:=by rw [hUe,hVe,Nat.mul_div_mul_right _ _ hp1]
   have e3:((U % V:Nat):Int) / 2 ^ k=((m % n:Nat):Int):=by rw [← e1];simp
   rw [v3,e3,lbY] at sh;rw [e2] at tq;refine .inr ⟨_,_,C8 [0] tu ⟨a0Y (w6 zq rfl zi rfl rfl zq),trivial⟩ rfl,?_⟩;conv=>whnf
   repeat' (first|refine zx ?_|apply zD<;>intro h<;>try omega)<;>conv=>whnf
   refine .inr ⟨_,_,C8 [1] tq ⟨a0Y (w6 zq rfl zi rfl rfl zq),trivial⟩ rfl,?_⟩;conv=>whnf
   exact p7 rz
def bs7 (m n:Nat) (hn:0<n) (lm:(dg m).length<=300000) (ln:(dg n).length<=300000):
 ec 253 [j7 (dg m),j7 (dg n)] [] (b3i m n) []:=by
 rcases H6 m n with h|h
 ·exact bu7 m n hn h om om
 ·have h1:(dg n).length≠0:=by rw [Ne,a1C,O4];omega
  by_cases hl:(dg n).length=1
  ·exact bx4 m n hn h hl om
  ·exact bw6 m n hn h om lm ln
def bl (z:Int):Nat:=(dg z.natAbs).length
def a5q (m n:Nat):(dg (m+n)).length<=max (dg m).length (dg n).length+1:=by
 refine P9 ?_;have h1:=T2 m;have h2:=T2 n;have h3:=a1c (Nat.le_max_left (dg m).length (dg n).length);have h4:=a1c (Nat.le_max_right (dg m).length (dg n).length);rw [L8];omega
def a5l (m n:Nat):(dg (m*n)).length<=(dg m).length+(dg n).length:=by
 refine P9 ?_;have h1:=T2 m;have h2:=T2 n;rw [a65];have h3:(m:Int)*n<=m*(pw (dg n).length):=lbW om om;have h4:(m:Int)*pw (dg n).length<pw (dg m).length*pw (dg n).length:=Int.mul_lt_mul_of_pos_right h1 (N8 _);have h5:((m*n:Nat):Int)=m*n:=zq;omega
def Y4 (x:Int):bl (-x)=bl x:=by unfold bl;rw [a2h]
def a8p (x y:Int):bl (x+y)<=max (bl x) (bl y)+1:=lbS (t8 (Int.natAbs_add_le x y)) (a5q _ _)
def I2 (x y:Int):bl (x*y)<=bl x+bl y:=by unfold bl;rw [a3r];exact a5l _ _
def a58 {x y:Int} (h:x.natAbs<=y.natAbs):bl x<=bl y:=t8 h
def T4 {x:Int} (h0:-9223372036854775808<=x) (h1:x<=9223372036854775807):bl x<=4:=P9 (by simp only [pw];omega)
def w5 {x:Int} (h0:-1048575<=x) (h1:x<=1048575):bl x<=1:=P9 (by simp only [pw];omega)
def ab2 (x y:Int) {n:Nat} (lx:bl x<=n) (ly:bl y<=n):bl (Int.gcd x y)<=n:=by
 by_cases h:x=0
 ·subst h;unfold bl at *;rw [Int.gcd_zero_left];simpa using ly
 ·refine lbS (t8 ?_) lx;simp only [aQ1];exact Int.gcd_le_natAbs_left y h
def rl (x:Rat):Nat:=max (bl x.num) (bl x.den)
def K6 (x:Rat):bl x.num<=rl x:=Nat.le_max_left _ _
def J9 (x:Rat):bl x.den<=rl x:=Nat.le_max_right _ _
def X4 {p q:Int} (hq:q≠0):rl (Rat.divInt p q)<=max (bl p) (bl q):=by
 unfold rl;rw [Rat.num_divInt,Rat.den_divInt,iB hq];have h1:bl (q.sign*p / (q.gcd p:Nat))<=bl p:=a58 (by
  refine lbS (b3f _ _) ?_;rw [a3r];have:q.sign.natAbs=1:=by
   rcases a53 q 0 with h|h|h
   ·rw [a2c h];rfl
   ·exact absurd h hq
   ·rw [R8 h];rfl
  rw [this,Nat.one_mul];exact lbR _)
 have h2:bl ((q.natAbs / q.gcd p:Nat):Int)<=bl q:=a58 (by simp only [aQ1];exact Nat.div_le_self _ _);omega
def al1 (x y:Rat):x+y=Rat.divInt (x.num*y.den+y.num*x.den) (x.den*y.den):=by rw [Rat.add_def',←Rat.divInt_ofNat,a3R]
def aQ2 (x y:Rat):x*y=Rat.divInt (x.num*y.num) (x.den*y.den):=by rw [Rat.mul_def',←Rat.divInt_ofNat,a3R]
def bd9 (x y:Rat):x / y=Rat.divInt (x.num*y.den) (x.den*y.num):=by
 rw [ad8,Rat.inv_def];conv=>lhs;rw [← Rat.num_divInt_den x]
 rw [Rat.divInt_mul_divInt]
def b2N (x:Rat):(x.den:Int)≠0:=by have:=x.den_pos;omega
def am3 (x y:Rat):(x.den:Int)*y.den≠0:=Int.mul_ne_zero (b2N x) (b2N y)
def a40 (x y:Rat):rl (x+y)<=rl x+rl y+1:=by
 rw [al1];have h1:=a8p (x.num*y.den) (y.num*x.den);have h2:=I2 x.num y.den;have h3:=I2 y.num x.den;have h4:=I2 x.den y.den;have:=X4 (p:=x.num*y.den+y.num*x.den) (am3 x y);unfold rl at *;omega
def a39 (x:Rat):rl (-x)=rl x:=by unfold rl;rw [ax3,Rat.neg_den,Y4]
def aT3 (x y:Rat):rl (x - y)<=rl x+rl y+1:=by rw [b3F];have:=a40 x (-y);rw [a39] at this;exact this
def aW5 (x y:Rat):rl (x*y)<=rl x+rl y:=by
 rw [aQ2];have h2:=I2 x.num y.num;have h4:=I2 x.den y.den;have:=X4 (p:=x.num*y.num) (am3 x y);unfold rl at *;omega
def a0G (n:Int):rl (n:Rat)=max (bl n) 1:=by unfold rl;rw [a85,ap8];rfl
def a8x (x y:Rat):Int:=if x<y then -1 else if y<x then 1 else 0
def b9B {x:Rat}:x.num<0↔x<0:=by rw [Rat.lt_iff];simp
def b82 {x:Rat}:0<x.num↔0<x:=by rw [Rat.lt_iff];simp
def sgR (x:Rat):Int:=if x<0 then -1 else if 0<x then 1 else 0
def a9w (x:Rat):x.num.sign=sgR x:=by
 unfold sgR;by_cases h:x<0
 ·rw [iA h,a2c (b9B.2 h)]
 ·rw [iB h];by_cases h2:0<x
  ·rw [iA h2,R8 (b82.2 h2)]
  ·rw [iB h2];have h3:¬x.num<0:=fun e=>h (b9B.1 e)
   have h4:¬0<x.num:=fun e=>h2 (b82.1 e)
   rw [show x.num=0 by omega];rfl
set_option maxHeartbeats 1000000
def b9a (m n:Nat) (lm:(dg m).length<=300000) (ln:(dg n).length<=300000):
 ec 260 [j7 (dg m),j7 (dg n)] [] (j7 (dg (m+n))) []:=by
 have h:=bJ6 (dg m) (dg n) (B5 m) (B5 n) om om;rw [v3,v3,show ((m:Int)+n).toNat=m+n by omega] at h;exact h
def an9 (m n:Nat) (lm:(dg m).length<=300000) (h:n<=m):
 ec 261 [j7 (dg m),j7 (dg n)] [] (j7 (dg (m - n))) []:=by
 have h:=bH9 (dg m) (dg n) (B5 m) (B5 n) om (t8 h) (by rw [v3,v3];omega);rw [v3,v3,show ((m:Int) - n).toNat=m - n by omega] at h;exact h
def bz9 (m n:Nat) (lm:(dg m).length<=300000) (ln:(dg n).length<=300000):
 ec 264 [j7 (dg m),j7 (dg n)] [] (j7 (dg (m*n))) []:=by
 have h:=bt3 (dg m) (dg n) (B5 m) (B5 n) om om;rw [v3,v3,show ((m:Int)*n).toNat=m*n by rw [← a3R];rfl] at h;exact h
def bz6 (m n:Nat) (lm:(dg m).length<=300000) (ln:(dg n).length<=300000):
 ec 189 [j7 (dg m),j7 (dg n)] [] (eI (P6 m n)) []:=by
 have h:=a49 (dg m) (dg n) (Y3 m) (Y3 n) om om;rw [v3,v3] at h;exact h
def D8 (s:Int) (k:Nat) (h:s=1\/s=-1\/k=0) (lk:(dg k).length<=700000):
 ec 191 [eI s,j7 (dg k)] [] (bgS (bz (s*k))) []:=by
 have e:=b1C s (dg k) om;rw [b2a (B5 k) (by rw [v3];omega),v3] at e;exact e
def Sg (s:Int) (m:Nat):Prop:=(s=0/\m=0)\/(s=1/\0<m)\/(s=-1/\0<m)
def a7R (x:Int):Sg x.sign x.natAbs:=by
 rcases G4 x with ⟨e,h1⟩|⟨e,h1⟩|⟨e,h1⟩
 ·exact .inl ⟨e,om⟩
 ·exact .inr (.inl ⟨e,om⟩)
 ·exact .inr (.inr ⟨e,om⟩)
def a91 {s:Int} {m:Nat} (h:Sg s m):bz (s*m)=⟨s,dg m⟩:=by
 rcases h with ⟨rfl,rfl⟩|⟨rfl,h⟩|⟨rfl,h⟩
 ·rfl
 ·unfold bz;rw [a2g,R8 om];rfl
 ·unfold bz;rw [a2c om];congr 2;omega
def a2X (s:Int) (m:Nat) (h:Sg s m) (lm:(dg m).length<=300000):ec 181 [bgS ⟨s,dg m⟩] [] (m9 true) []:=by
 have:=a4u ⟨s,dg m⟩ (show (dg m).length<=1000000 by omega);rw [← a91 h,a13,a91 h] at this;exact this
def a7X {b b':Bg} {e:Int} {H1:Hp} (h:b=b'):Fin 0 (.tup [bgS b,eI e]) H1 (.tup [bgS b',eI e]) []:=by
 subst h;exact p7 rz
def M4 {a b c d:Nat} (h:a<=max b c+1) (h2:max b c+1<=d):a<=d:=lbS h h2
def bx8 (s t:Int) (m n:Nat) (hs:Sg s m) (ht:Sg t n) (lm:(dg m).length<=200000) (ln:(dg n).length<=200000):
 ec 186 [bgS ⟨s,dg m⟩,bgS ⟨t,dg n⟩] [] (.tup [bgS (bz (s*m+t*n)),eI 0]) []:=by
 have r1:=a2X s m hs om;have r2:=a2X t n ht om;have ad:=b9a m n om om;have c:=bz6 m n om om;have ls:=a5q m n;have fin:∀(z:Int) (H1:Hp),z=s*m+t*n->Fin 0 (.tup [bgS (if true then bz z else ⟨0,[]⟩),eI 0]) H1 (.tup [bgS (bz (s*m+t*n)),eI 0]) []:=fun z H1 h=>a7X (by rw [h];rfl)
 rcases hs with ⟨rfl,rfl⟩|⟨rfl,h1⟩|⟨rfl,h1⟩<;>rcases ht with ⟨rfl,rfl⟩|⟨rfl,h2⟩|⟨rfl,h2⟩
 case inl.inl=>
  have sg:=D8 (0) _ om (M4 ls om);have co:=a4T (0) (0);refine ac Tryz.func186 ?_;conv=>whnf
  repeat' (first|refine zx ?_|refine qp (O2 true _) ?_|refine ⟨_,I0 (y:=0) rfl de de,?_⟩|apply zD<;>intro h<;>try omega)<;>conv=>whnf
  all_goals first|omega|exact fin _ _ om
 case inl.inr.inl=>
  have sg:=D8 (1) _ om (M4 ls om);have co:=a4T (0) (1);refine ac Tryz.func186 ?_;conv=>whnf
  repeat' (first|refine zx ?_|refine qp (O2 true _) ?_|refine ⟨_,I0 (y:=0) rfl de de,?_⟩|apply zD<;>intro h<;>try omega)<;>conv=>whnf
  all_goals first|omega|exact fin _ _ om
 case inl.inr.inr=>
  have sg:=D8 (-1) _ om (M4 ls om);have co:=a4T (0) (-1);refine ac Tryz.func186 ?_;conv=>whnf
  repeat' (first|refine zx ?_|refine qp (O2 true _) ?_|refine ⟨_,I0 (y:=0) rfl de de,?_⟩|apply zD<;>intro h<;>try omega)<;>conv=>whnf
  all_goals first|omega|exact fin _ _ om
 case inr.inl.inl=>
  have sg:=D8 (1) _ om (M4 ls om);have co:=a4T (1) (0);refine ac Tryz.func186 ?_;conv=>whnf
  repeat' (first|refine zx ?_|refine qp (O2 true _) ?_|refine ⟨_,I0 (y:=0) rfl de de,?_⟩|apply zD<;>intro h<;>try omega)<;>conv=>whnf
  all_goals first|omega|exact fin _ _ om
 case inr.inr.inl=>
  have sg:=D8 (-1) _ om (M4 ls om);have co:=a4T (-1) (0);refine ac Tryz.func186 ?_;conv=>whnf
  repeat' (first|refine zx ?_|refine qp (O2 true _) ?_|refine ⟨_,I0 (y:=0) rfl de de,?_⟩|apply zD<;>intro h<;>try omega)<;>conv=>whnf
  all_goals first|omega|exact fin _ _ om
 case inr.inl.inr.inl=>
  have sg:=D8 (1) _ om (M4 ls om);have co:=a4T (1) (1);refine ac Tryz.func186 ?_;conv=>whnf
  repeat' (first|refine zx ?_|refine qp (O2 true _) ?_|refine ⟨_,I0 (y:=1) rfl de de,?_⟩|apply zD<;>intro h<;>try omega)<;>conv=>whnf
  all_goals first|omega|exact fin _ _ om
 case inr.inr.inr.inr=>
  have sg:=D8 (-1) _ om (M4 ls om);have co:=a4T (-1) (-1);refine ac Tryz.func186 ?_;conv=>whnf
  repeat' (first|refine zx ?_|refine qp (O2 true _) ?_|refine ⟨_,I0 (y:=1) rfl de de,?_⟩|apply zD<;>intro h<;>try omega)<;>conv=>whnf
  all_goals first|omega|exact fin _ _ om
 case inr.inl.inr.inr=>
  rcases H6 m n with hmn|hmn
  ·rw [a4N om] at c;have l3:=t8 (a5A n m);refine ac Tryz.func186 ?_;conv=>whnf
   repeat' (first|refine zx ?_|refine qp (an9 n m om om) ?_|refine qp (D8 (-1) (n - m) om om) ?_|refine qp (O2 true _) ?_|refine ⟨_,I0 (y:=-1) rfl de de,?_⟩|apply zD<;>intro h<;>try omega)<;>conv=>whnf
   all_goals first|omega|exact fin _ _ om
  ·have hc:0<=P6 m n:=by unfold P6;split<;>(try split)<;>omega
   have l3:=t8 (a5A m n);refine ac Tryz.func186 ?_;conv=>whnf
   repeat' (first|refine zx ?_|refine qp (an9 m n om om) ?_|refine qp (D8 (1) (m - n) om om) ?_|refine qp (O2 true _) ?_|refine ⟨_,I0 (y:=-1) rfl de de,?_⟩|apply zD<;>intro h<;>try omega)<;>conv=>whnf
   all_goals first|omega|exact fin _ _ om
 case inr.inr.inr.inl=>
  rcases H6 m n with hmn|hmn
  ·rw [a4N om] at c;have l3:=t8 (a5A n m);refine ac Tryz.func186 ?_;conv=>whnf
   repeat' (first|refine zx ?_|refine qp (an9 n m om om) ?_|refine qp (D8 (1) (n - m) om om) ?_|refine qp (O2 true _) ?_|refine ⟨_,I0 (y:=-1) rfl de de,?_⟩|apply zD<;>intro h<;>try omega)<;>conv=>whnf
   all_goals first|omega|exact fin _ _ om
  ·have hc:0<=P6 m n:=by unfold P6;split<;>(try split)<;>omega
   have l3:=t8 (a5A m n);refine ac Tryz.func186 ?_;conv=>whnf
   repeat' (first|refine zx ?_|refine qp (an9 m n om om) ?_|refine qp (D8 (-1) (m - n) om om) ?_|refine qp (O2 true _) ?_|refine ⟨_,I0 (y:=-1) rfl de de,?_⟩|apply zD<;>intro h<;>try omega)<;>conv=>whnf
   all_goals first|omega|exact fin _ _ om
def sgm (x:Int):x.sign*x.natAbs=x:=ar0 x
def a6R (x:Int) (lx:bl x<=300000):ec 181 [bgS (bz x)] [] (m9 true) []:=a2X _ _ (a7R x) lx
def by7 (x y:Int) (lx:bl x<=200000) (ly:bl y<=200000):ec 186 [bgS (bz x),bgS (bz y)] [] (.tup [bgS (bz (x+y)),eI 0]) []:=by
 have h:=bx8 _ _ _ _ (a7R x) (a7R y) lx ly;rw [sgm,sgm] at h;exact h
def aa9 (x:Int) (lx:bl x<=300000):ec 185 [bgS (bz x)] [] (bgS (bz (-x))) []:=by
 have h:=bA9 (bz x) (show bl x<=1000000 by omega);unfold b5i at h;rw [a13,a68] at h;exact h
abbrev bg2 (s:Int) (l:LI):S:=.agg [.t (ti s),.t (v6 l)]
def bE6 (s t:Int) (m n:Nat) (hs:Sg s m) (ht:Sg t n) (lm:(dg m).length<=200000) (ln:(dg n).length<=200000):
 ec 190 [bgS ⟨s,dg m⟩,bgS ⟨t,dg n⟩] [] (.tup [bgS (bz ((s*t)*(m*n:Nat))),eI 0]) []:=by
 have r1:=a2X s m hs om;have r2:=a2X t n ht om;have mu:=bz9 m n om om;have ls:=a5l m n;have hst:-1<=s*t/\s*t<=1/\(s*t=1\/s*t=-1\/m*n=0):=by
  rcases hs with ⟨rfl,rfl⟩|⟨rfl,h1⟩|⟨rfl,h1⟩<;>rcases ht with ⟨rfl,rfl⟩|⟨rfl,h2⟩|⟨rfl,h2⟩<;>simp
 obtain ⟨q1,q2,q3⟩:=hst;have sg:=D8 (s*t) (m*n) q3 om;have ck:=O2 true (bz ((s*t)*(m*n:Nat)));refine ac Tryz.func190 ?_;conv=>whnf
 repeat' (first|refine zx ?_|refine ⟨_,I0 (y:=s*t) rfl om om,?_⟩|apply zD<;>intro<;>try omega)<;>conv=>whnf
 all_goals first|(exfalso;simp_all;done)|exact a7X rfl
def bB6 (x y:Int) (lx:bl x<=200000) (ly:bl y<=200000):ec 190 [bgS (bz x),bgS (bz y)] [] (.tup [bgS (bz (x*y)),eI 0]) []:=by
 have h:=bE6 _ _ _ _ (a7R x) (a7R y) lx ly;have e:(x.sign*y.sign)*((x.natAbs*y.natAbs:Nat):Int)=x*y:=by
  rw [a3R];have h1:=sgm x;have h2:=sgm y;grind
 rw [e] at h;exact h
def b2w (x y:Int) (lx:bl x<=300000) (ly:bl y<=300000):ec 120 [bgS (bz x),bgS (bz y)] [] (eI (P6 x y)) []:=by
 have h:=b3D (bz x) (bz y) (show bl x<=1000000 by omega) (show bl y<=1000000 by omega);unfold b5Q at h;rw [a13,a13,a68,a68] at h;exact h
def b47 {b b' c c':Bg} {e:Int} {H1:Hp} (h:b=b') (h2:c=c'):Fin 0 (.tup [bgS b,bgS c,eI e]) H1 (.tup [bgS b',bgS c',eI e]) []:=by
 subst h h2;exact p7 rz
def bH2 (s:Int) (m n:Nat) (hs:Sg s m) (hn:0<n) (lm:(dg m).length<=200000) (ln:(dg n).length<=200000):
 ec 262 [bgS ⟨s,dg m⟩,bgS ⟨1,dg n⟩] [] (.tup [bgS (bz (s*m / n)),bgS (bz (s*m % n)),eI 0]) []:=by
 show ec 262 [bg2 s (dg m),bg2 1 (dg n)] [] _ [];have r1:=a2X s m hs om;have r2:=a2X 1 n (.inr (.inl ⟨rfl,hn⟩)) om;have dv:=bs7 m n hn om om;have lq:=t8 (Nat.div_le_self m n);have hr:=a9y m hn;have lr:=t8 (a9M hr);have lr2:((dg (m % n)).map j4).length=(dg (m % n)).length:=zq;have hz:(dg (m % n)).length=0↔m % n=0:=by rw [a1C,O4]
 have hm:=b4z m n;have fin:∀(a b:Int) (H1:Hp),a=s*m / n->b=s*m % n->Fin 0 (.tup [bgS (bz a),bgS (bz b),eI 0]) H1 (.tup [bgS (bz (s*m / n)),bgS (bz (s*m % n)),eI 0]) []:=fun a b H1 h1 h2=>b47 (by rw [h1]) (by rw [h2])
 rcases hs with ⟨rfl,rfl⟩|⟨rfl,h1⟩|⟨rfl,h1⟩
 ·have s1:=D8 0 (0 / n) zq om;have s2:=D8 0 (0 % n) zq om;refine ac Tryz.func262 ?_;conv=>whnf
  repeat' (first|refine zx ?_|refine ⟨_,I0 (y:=0) rfl de de,?_⟩|apply zD<;>intro h<;>try omega)<;>conv=>whnf
  all_goals first|omega|exact fin _ _ _ (by first|rfl|simp) (by first|rfl|simp)
 ·have s1:=D8 1 (m / n) zq om;have s2:=D8 1 (m % n) zq om;refine ac Tryz.func262 ?_;conv=>whnf
  repeat' (first|refine zx ?_|refine ⟨_,I0 (y:=1) rfl de de,?_⟩|apply zD<;>intro h<;>try omega)<;>conv=>whnf
  all_goals first|omega|exact fin _ _ _ (by first|rfl|simp) (by first|rfl|simp)
 ·by_cases h0:m % n=0
  ·have hz0:=hz.2 h0;have s1:=D8 (-1) (m / n) zq om;have s2:=D8 (-1) (m % n) zq om;have e1:-1*((m / n:Nat):Int)=-1*(m:Int) / n:=by
    have e:(m:Int)=n*(m / n:Nat):=by rw [← a3R];congr 1;omega
    rw [e,show -1*((n:Int)*(m / n:Nat))=n*(-1*(m / n:Nat)) by grind,aN6 _ om]
   have e2:-1*((m % n:Nat):Int)=-1*(m:Int) % n:=by
    have e:(m:Int)=n*(m / n:Nat):=by rw [← a3R];congr 1;omega
    rw [h0,e,show -1*((n:Int)*(m / n:Nat))=n*(-1*(m / n:Nat)) by grind,Int.mul_emod_right];simp
   refine ac Tryz.func262 ?_;conv=>whnf
   repeat' (first|refine zx ?_|refine ⟨_,I0 (y:=-1) rfl de de,?_⟩|apply zD<;>intro h<;>try omega)<;>conv=>whnf
   all_goals first|omega|exact fin _ _ _ e1 e2
  ·have hz0:(dg (m % n)).length≠0:=fun h=>h0 (hz.1 h)
   have one:dg 1=[1]:=rfl;have ad:=b9a (m / n) 1 om (by simp [one]);have sb:=an9 n (m % n) om om;have l1:=a5q (m / n) 1;have l2:=t8 (a5A n (m % n));have s1:=D8 (-1) (m / n+1) zq (by rw [one] at l1;simp at l1;omega);have s2:=D8 1 (n - m % n) zq om;have key:(-1*(m:Int))=(n - m % n:Nat)+n*(-1*((m / n+1:Nat):Int)):=by
    have e:(m:Int)=n*(m / n:Nat)+(m % n:Nat):=by rw [← a3R];omega
    have e2:((n - m % n:Nat):Int)=n - (m % n:Nat):=om;have e3:((m / n+1:Nat):Int)=(m / n:Nat)+1:=om;rw [e2,e3];grind
   have e1:-1*((m / n+1:Nat):Int)=-1*(m:Int) / n:=by
    rw [key,Int.add_mul_ediv_left _ _ om,Int.ediv_eq_zero_of_lt om om];simp
   have e2:1*((n - m % n:Nat):Int)=-1*(m:Int) % n:=by
    rw [key,Int.add_mul_emod_self_left,as2 om om];simp
   refine ac Tryz.func262 ?_;conv=>whnf
   repeat' (first|refine zx ?_|refine .inl ⟨_,_,a07 ad ⟨aY2,a0Y (a8i rfl),trivial⟩ rfl,?_⟩|refine ⟨_,I0 (y:=-1) rfl de de,?_⟩|apply zD<;>intro h<;>try omega)<;>conv=>whnf
   all_goals first|omega|exact fin _ _ _ e1 e2
def aO3 (x y:Int) (hy:0<y) (lx:bl x<=200000) (ly:bl y<=200000):ec 262 [bgS (bz x),bgS (bz y)] [] (.tup [bgS (bz (x / y)),bgS (bz (x % y)),eI 0]) []:=by
 have h:=bH2 _ _ y.natAbs (a7R x) om lx ly;rw [sgm,show (y.natAbs:Int)=y by omega] at h;unfold bz at *;rw [R8 hy];exact h
abbrev a6d:Blk:={ mode:=.live,elem:=84,size:=2,rows:=[[F4 (.int .i64 0),F4 (.slice none 0 0)]],box:=true }
def V9:L4 [[F4 (.int .i64 0),F4 (.slice none 0 0)]]:=by
 intro r hr c hc;simp at hr;subst hr;simp at hc;rcases hc with rfl|rfl<;>rfl
structure bm5 (x y:Int) (X Y:Nat):Prop where
 g:Nat.gcd X Y=Nat.gcd x.natAbs y.natAbs
 lx:(dg X).length<=200000
 ly:(dg Y).length<=200000
def b3h (x y:Int) (lx:bl x<=200000) (ly:bl y<=200000):ec 182 [bgS (bz x),bgS (bz y)] [] (.tup [bgS (bz (Int.gcd x y)),eI 0]) []:=by
 have r1:=a6R x om;have r2:=a6R y om;have cl:=aj5 (bz x).dl (show bl x<=1000000 by omega);refine ac Tryz.func182 ?_;conv=>whnf
 repeat' (first|refine zx ?_|apply zD<;>intro<;>try omega)<;>conv=>whnf
 all_goals first|(exfalso;simp_all;done)|skip
 refine v8 g8 (σ:=Nat × Nat) (fun|(X,Y)=>([J,J,J,J,sP 0 0 0,J,j7 (dg X),j7 (dg Y)]++Jn 36,[a6d])) (fun s=>bm5 x y s.1 s.2) (fun s=>s.2) (x.natAbs,y.natAbs) [some 2]
  ⟨rfl,lx,ly⟩ ⟨rfl,rfl,⟨⟨rfl,rfl,rfl,.inl ⟨rfl,V9⟩⟩,trivial⟩,rz⟩ ?_
 rintro ⟨X,Y⟩ hI;have hI:bm5 x y X Y:=hI;obtain ⟨g1,g2,g3⟩:=hI;have l2:((dg Y).map j4).length=(dg Y).length:=zq;conv=>whnf
 by_cases hY:0<Y
 ·have hp:(dg Y).length≠0:=by rw [Ne,a1C,O4];omega
  have dv:=bs7 X Y hY om om
  repeat' (first|refine zx ?_|apply zD<;>intro<;>try omega)<;>conv=>whnf
  all_goals first|omega|skip
  exact ⟨[some 0],(Y,X % Y),⟨rfl,rfl,⟨⟨rfl,rfl,rfl,.inl ⟨rfl,V9⟩⟩,trivial⟩,rz⟩,⟨by rw [← g1,Nat.gcd_comm Y,←Nat.gcd_rec,Nat.gcd_comm],g3,lbS (t8 (a9M (a9y X hY))) g3⟩,a9y X hY⟩
 ·have hY:Y=0:=by omega
  subst hY;have hp:(dg 0).length=0:=rfl;have c2:=aj5 (dg X) om;have s1:=D8 1 X zq om;have ck:=O2 true (bz (1*X))
  repeat' (first|refine zx ?_|apply zD<;>intro<;>try omega)<;>conv=>whnf
  all_goals first|omega|skip
  refine a7X ?_;rw [a2g,show X=Int.gcd x y by rw [Int.gcd,←g1,Nat.gcd_zero_right]]
  rfl
def a2G {x y:Int} (h:x % 18446744073709551616=y):M8 .u64 x y:=by
 unfold M8;simp only [IntKind.wrap,IntKind.bits,IntKind.signed];simp;omega
def b4h (a:Int):a0M .and .u64 a 1048575 (a % 1048576):=(aU1 (a:=a) 20 de).symm
def b9N (a:Int):b43 .u64 a 20 (a / 1048576):=by
 show a / 1048576=a.fdiv 1048576;exact (Int.fdiv_eq_ediv_of_nonneg _ de).symm
structure OfI (n:Int) (acc:LI) (u:Nat):Prop where
 eq:acc++dg u=dg n.natAbs
def OfI.len {n:Int} {acc:LI} {u:Nat} (h:OfI n acc u) (h0:-9223372036854775808<=n) (h1:n<=9223372036854775807):acc.length<=4:=by
 have h2:(dg n.natAbs).length<=4:=P9 (by simp only [pw];omega);have h3:=congrArg List.length h.eq;simp at h3;omega
def OfI.step {n:Int} {acc:LI} {u:Nat} (h:OfI n acc u) (hu:0<u):OfI n (acc++[(u:Int) % 1048576]) (u / 1048576):=by
 refine ⟨?_⟩;rw [← h.eq,a8D hu];simp
def OfI.le {n:Int} {acc:LI} {u:Nat} (h:OfI n acc u):u<=n.natAbs:=by
 have h1:=congrArg val h.eq;rw [O6,v3,v3] at h1;have h2:Okd acc:=fun x hx=>B5 n.natAbs x (by rw [← h.eq];simp [hx])
 have h3:=B7 h2;have h4:=N8 acc.length;have h5:=lbX (a:=1) (b:=pw acc.length) (c:=(u:Int)) om om;omega
def a36 {xs:LI} {x:Int}:(toC (xs.map j4)).take xs.length++toC [[ti x]]=toC ((xs++[x]).map j4):=bg6 (f:=j4)
def b4w (n:Int) (h0:-9223372036854775808<=n) (h1:n<=9223372036854775807):ec 122 [eI n] [] (bgS (bz n)) []:=by
 by_cases hn:n<0
 ·refine ac Tryz.func122 ?_;conv=>whnf
  repeat' (first|refine zx ?_|refine ⟨_,a2G (y:=n+18446744073709551616) om,?_⟩|refine ⟨_,a2G (y:=(n.natAbs:Int)) om,?_⟩|apply zD<;>intro h<;>try omega)<;>conv=>whnf
  refine v8 g8 (σ:=LI × Nat) (fun|(acc,u)=>([J,J,sP 0 0 0,eI (-1),e7 .u64 u,a1D 1 acc]++Jn 19,[a6d,w7 acc])) (fun s=>OfI n s.1 s.2) (fun s=>s.2) ([],n.natAbs) [some 0,none]
   ⟨rfl⟩ ⟨rfl,rfl,⟨⟨rfl,rfl,rfl,.inl ⟨rfl,V9⟩⟩,rz⟩,⟨rz,rfl,g9 om,rz⟩⟩ ?_
  rintro ⟨acc,u⟩ hI;have hI:OfI n acc u:=hI;have hl:=hI.len h0 h1;have hu:=hI.le;conv=>whnf
  repeat' (first|refine zx ?_|refine ⟨_,b4h _,?_⟩|refine ⟨de,_,b9N _,?_⟩|refine z6 zt zu ?_|refine ⟨_,a2G om,?_⟩|apply zD<;>intro h<;>try omega)<;>conv=>whnf
  ·refine ⟨[some 0,some 2],(acc++[(u:Int) % 1048576],u / 1048576),⟨rfl,rfl,⟨⟨rfl,rfl,rfl,.inl ⟨rfl,V9⟩⟩,i6 rfl rfl rfl a36 rfl,trivial⟩,⟨rz,rfl,g9 zq,t5 rfl zt,trivial⟩⟩,hI.step om,by show u / 1048576<u;omega⟩
  ·have h0u:u=0:=by omega
   subst h0u;have e:acc=dg n.natAbs:=by have:=hI.eq;rw [a0E,Z3] at this;exact this
   have sg:=D8 (-1) n.natAbs om (by rw [← e];omega);rw [← e,show (-1)*(n.natAbs:Int)=n by omega] at sg;refine .inr ⟨_,_,C8 [1] sg ⟨aY2,a0Y (w6 zq rfl zi rfl rfl zq),trivial⟩ rfl,?_⟩;conv=>whnf
   exact p7 rz
 ·refine ac Tryz.func122 ?_;conv=>whnf
  repeat' (first|refine zx ?_|refine ⟨_,a2G (y:=(n.natAbs:Int)) om,?_⟩|apply zD<;>intro h<;>try omega)<;>conv=>whnf
  refine v8 g8 (σ:=LI × Nat) (fun|(acc,u)=>([J,J,sP 0 0 0,eI 1,e7 .u64 u,a1D 1 acc]++Jn 19,[a6d,w7 acc])) (fun s=>OfI n s.1 s.2) (fun s=>s.2) ([],n.natAbs) [some 0,none]
   ⟨rfl⟩ ⟨rfl,rfl,⟨⟨rfl,rfl,rfl,.inl ⟨rfl,V9⟩⟩,rz⟩,⟨rz,rfl,g9 om,rz⟩⟩ ?_
  rintro ⟨acc,u⟩ hI;have hI:OfI n acc u:=hI;have hl:=hI.len h0 h1;have hu:=hI.le;conv=>whnf
  repeat' (first|refine zx ?_|refine ⟨_,b4h _,?_⟩|refine ⟨de,_,b9N _,?_⟩|refine z6 zt zu ?_|refine ⟨_,a2G om,?_⟩|apply zD<;>intro h<;>try omega)<;>conv=>whnf
  ·refine ⟨[some 0,some 2],(acc++[(u:Int) % 1048576],u / 1048576),⟨rfl,rfl,⟨⟨rfl,rfl,rfl,.inl ⟨rfl,V9⟩⟩,i6 rfl rfl rfl a36 rfl,trivial⟩,⟨rz,rfl,g9 zq,t5 rfl zt,trivial⟩⟩,hI.step om,by show u / 1048576<u;omega⟩
  ·have h0u:u=0:=by omega
   subst h0u;have e:acc=dg n.natAbs:=by have:=hI.eq;rw [a0E,Z3] at this;exact this
   have sg:=D8 (1) n.natAbs om (by rw [← e];omega);rw [← e,show (1)*(n.natAbs:Int)=n by omega] at sg;refine .inr ⟨_,_,C8 [1] sg ⟨aY2,a0Y (w6 zq rfl zi rfl rfl zq),trivial⟩ rfl,?_⟩;conv=>whnf
   exact p7 rz
def aV4 (i:Nat):pw i=((2 ^ (20*i):Nat):Int):=by
 unfold pw;rw [show (1048576:Int)=((2 ^ 20:Nat):Int) by decide,←Int.natCast_pow,←Nat.pow_mul]
def bP3 {d:Int} {i:Nat} {b:Int} (hi:i<=3) (h:0<=d) (h2:d*pw i<18446744073709551616) (hb:b=20*i):M8 .u64 (d*2 ^ min b.toNat (IntKind.bits .u64)) (d*pw i):=by
 have e:min b.toNat (IntKind.bits .u64)=20*i:=by show min b.toNat 64=_;omega
 have hp:=N8 i;have h3:0<=d*pw i:=lb0 h om;rw [e,show (2:Int) ^ (20*i)=pw i by rw [aV4];simp];exact b0S h3 h2
def oru {u d:Int} {i:Nat} (hu:0<=u) (hu2:u<pw i) (h:0<=d) (h2:u+d*pw i<18446744073709551616):a0M .or .u64 u (d*pw i) (u+d*pw i):=by
 obtain ⟨U,rfl⟩:=a2W hu;obtain ⟨D,rfl⟩:=a2W h;have hp:=N8 i;have e2:(U:Int)+D*pw i=((U+2 ^ (20*i)*D:Nat):Int):=by rw [aV4];simp [a7J]
 have e3:(D:Int)*pw i=((2 ^ (20*i)*D:Nat):Int):=by rw [aV4];simp [a7J]
 rw [e2] at h2;have hU:U<2 ^ (20*i):=by rw [aV4] at hu2;omega
 have k1:(BitVec.ofInt (IntKind.bits .u64) (U:Int) ||| BitVec.ofInt (IntKind.bits .u64) ((2 ^ (20*i)*D:Nat):Int)).toNat=U+2 ^ (20*i)*D:=by
  show (BitVec.ofInt 64 _ ||| BitVec.ofInt 64 _).toNat=_;rw [BitVec.toNat_or,BitVec.toNat_ofInt,BitVec.toNat_ofInt];rw [as2 om om,as2 om om,lbY,lbY,Nat.or_comm,←Nat.two_pow_add_eq_or_of_lt hU,aJ8]
 rw [e2,e3];unfold a0M;simp only;rw [k1];exact (aw4 om h2).symm
structure b3I (n:Nat) (k:Nat) (u:Int):Prop where
 eq:u=val ((dg n).take k)
 le:k<=(dg n).length
 lt:k=4->u<9*1152921504606846976
def b3I.rng {n k:Nat} {u:Int} (h:b3I n k u):0<=u/\u<pw k:=by
 have h1:=B7 ((B5 n).take k);have h2:=Z8 ((B5 n).take k);rw [lbs,a3j h.le,←h.eq] at h2;rw [← h.eq] at h1;exact ⟨h1,h2⟩
def b3I.step {n k:Nat} {u:Int} (h:b3I n k u) (hk:k<(dg n).length) (hd:k=3->dat (dg n) k<=8):b3I n (k+1) (u+dat (dg n) k*pw k):=by
 have hr:=h.rng;refine ⟨by rw [A8,h.eq,a7J],hk,fun h4=>?_⟩;have:k=3:=om;subst this;have:=hd rfl;simp only [pw] at hr ⊢;omega
def bC9 {k:Nat} (h:k<=3):pw k<=1152921504606846976:=by
 have:=a1c h;simp only [pw] at this ⊢;omega
def bA0 {k:Nat} (h:k<=2):pw k<=1099511627776:=by
 have:=a1c h;simp only [pw] at this ⊢;omega
def aU9 {a a':Int} {b b':Bool} {k:IntKind} {H1:Hp} (h:a=a') (h2:b=b'):Fin 0 (.tup [e7 k a,m9 b]) H1 (.tup [e7 k a',m9 b']) []:=by
 subst h h2;exact p7 rz
def b3s {x:Int} (h1:9223372036854775808<=x) (h2:x<18446744073709551616):M8 .i64 x (x - 18446744073709551616):=by
 unfold M8;simp only [IntKind.wrap,IntKind.bits,IntKind.signed];simp;omega
abbrev ad0 (x:Int):Prop:=-9223372036854775808<=x/\x<=9223372036854775807
def bv8 (x:Int) (lx:bl x<=200000):ec 254 [bgS (bz x)] [] (.tup [eI (if ad0 x then x else 0),m9 (decide (ad0 x))]) []:=by
 have r1:=a6R x om;have l1:((bz x).dl.map j4).length=(dg x.natAbs).length:=by simp [bz]
 have l2:(bz x).dl=dg x.natAbs:=rfl;have hlast:∀k:Nat,k<(dg x.natAbs).length->pw k<=x.natAbs:=fun k hk=>Int.le_trans (a1c om) (al9 (by
  rcases a4m x.natAbs with h|h
  ·rw [h,a0E] at hk;simp at hk
  ·exact h))
 refine ac Tryz.func254 ?_;conv=>whnf
 repeat' (first|refine zx ?_|apply zD<;>intro h<;>try omega)<;>conv=>whnf
 ·have hl:4<(dg x.natAbs).length:=by omega
  have:=hlast 4 hl;simp only [pw] at this;have hn:¬ad0 x:=by unfold ad0;omega
  exact aU9 (by rw [iB hn]) (by simp [hn])
 ·refine v8 g8 (σ:=Nat × Int) (fun|(k,u)=>([J,sP 0 0 0,J,J,e7 .u64 u]++Jn 12++[j7 (dg x.natAbs),eI (dg x.natAbs).length,eI k]++Jn 39,[bgB (bz x)])) (fun s=>b3I x.natAbs s.1 s.2) (fun s=>(dg x.natAbs).length - s.1) (0,0) [some 0]
   ⟨by simp [val],om,om⟩ ⟨rfl,rfl,⟨⟨rfl,rfl,rfl,.inl ⟨rfl,a6A _⟩⟩,trivial⟩,⟨rz,rfl,m7 rfl,g9 om,rz⟩⟩ ?_
  rintro ⟨k,u⟩ hI;have hI:b3I x.natAbs k u:=hI;have hr:=hI.rng;have hle:=hI.le;have hd:=(B5 x.natAbs).dat k;have hp:=N8 k;have hp3:k<=3->pw k<=1152921504606846976:=bC9;have hdm:0<=dat (dg x.natAbs) k*pw k:=lb0 hd.1 om;have l3:((dg x.natAbs).map j4).length=(dg x.natAbs).length:=zq;have hp2:k<=2->pw k<=1099511627776:=bA0;have hA:k<=3->(k=3->dat (dg x.natAbs) k<=8)->u+dat (dg x.natAbs) k*pw k<18446744073709551616:=fun h3 h8=>by
   by_cases hk:k=3
   ·have:=lbX (c:=pw k) (h8 hk) om;have:=hp3 h3;omega
   ·have:=lbX (c:=pw k) (show dat (dg x.natAbs) k<=1048575 by omega) om;have:=hp2 om;omega
  have hE:k=(dg x.natAbs).length->u=x.natAbs:=fun h=>by
   have:=hI.eq;rw [h,lbn (lbR _),v3] at this;exact this
  have hs:=G4 x;have hsg:(bz x).sg=x.sign:=rfl;conv=>whnf
  repeat' (first|refine zx ?_|refine j6 (C3 om) ?_|refine ⟨_,b0S om om,?_⟩|refine ⟨om,_,bP3 (i:=k) om om om om,?_⟩|refine ⟨_,oru om om om om,?_⟩|refine ⟨_,a2G (y:=18446744073709551616 - u) om,?_⟩|refine ⟨_,b3s om om,?_⟩|apply zD<;>intro h<;>try omega)<;>conv=>whnf
  ·have hk:k=3:=by omega
   have h8:9<=dat (dg x.natAbs) k:=om;have h1:=A8 (dg x.natAbs) k;have h4:val (dg x.natAbs)=val ((dg x.natAbs).take (k+1)):=by rw [lbn om]
   rw [v3] at h4;have h5:=B7 ((B5 x.natAbs).take k);have h6:=lbW (a:=9) (b:=dat (dg x.natAbs) k) (c:=pw k) h8 om;have h7:pw k=1152921504606846976:=by rw [hk];rfl
   have hn:¬ad0 x:=by unfold ad0;omega
   exact aU9 (by rw [iB hn]) (by simp [hn])
  ·have hst:=hI.step om om;exact ⟨[some 0],(k+1,u+dat (dg x.natAbs) k*pw k),⟨rfl,rfl,⟨⟨rfl,rfl,rfl,.inl ⟨rfl,a6A _⟩⟩,trivial⟩,⟨rz,rfl,rfl,rfl,g9 om,trivial⟩⟩,hst,by show (dg x.natAbs).length - (k+1)<(dg x.natAbs).length - k;omega⟩
  ·have hst:=hI.step om om;exact ⟨[some 0],(k+1,u+dat (dg x.natAbs) k*pw k),⟨rfl,rfl,⟨⟨rfl,rfl,rfl,.inl ⟨rfl,a6A _⟩⟩,trivial⟩,⟨rz,rfl,rfl,rfl,g9 om,trivial⟩⟩,hst,by show (dg x.natAbs).length - (k+1)<(dg x.natAbs).length - k;omega⟩
  all_goals
   have hu:=hE om;first
    |(have hn:ad0 x:=by unfold ad0;omega
      exact aU9 (by rw [iA hn];omega) (by simp [hn]))
    |(have hn:¬ad0 x:=by unfold ad0;omega
      exact aU9 (by rw [iB hn]) (by simp [hn]))
def a8h (l:LI) (hl:l.length<=1000000):ec 329 [j7 l] [] (j7 (N1 l)) []:=by
 have l2:(l.map j4).length=l.length:=zq;refine ac Tryz.func329 ?_;conv=>whnf
 repeat' (first|refine zx ?_|apply zD<;>intro h<;>try omega)<;>conv=>whnf
 refine v8 g8 (σ:=Nat) (fun n=>([j7 l,J,J,eI n]++Jn 19,[])) (fun n=>n<=l.length/\∀j x,n<=j->l[j]? =some x->x=0) (fun n=>n) l.length []
  ⟨lbR _,fun j x hj hx=>by rw [lbd hj] at hx;cases hx⟩ ⟨rfl,rfl,trivial,⟨m7 rfl,g9 zq,trivial⟩⟩ ?_
 rintro n ⟨hn,hz⟩;have hn:n<=l.length:=hn;conv=>whnf
 repeat' (first|refine zz ?_|refine a43.own ?_|refine K3 om (a2R om hn) ?_|refine aI5 om om om ?_|refine z6 zt zu ?_|apply zD<;>intro h<;>try omega|refine zy ?_|fail)<;>conv=>whnf
 ·have h0:dat l (n - 1)=0:=by assumption
  have h1:0<n:=om;refine ⟨[],n - 1,⟨rfl,rfl,trivial,⟨rfl,g9 om,trivial⟩⟩,⟨om,fun j x hj hxj=>?_⟩,by show n - 1<n;omega⟩;by_cases hj2:j=n - 1
  ·subst hj2;rw [C3 om] at hxj;injection hxj with hx;rw [← hx];exact h0
  ·exact hz j x om hxj
 all_goals
  have e:l.take n=N1 l:=a5f hz (fun x h0 hx=>by
   first|omega|(rw [C3 om] at hx;injection hx with hx;rw [← hx];assumption)) hn
  rw [← e];refine N3 rfl zi rfl ?_ ?_
  ·simp [toC,F8,b4u]
  ·simp [toC]
def bx6 (s:Int) (l:LI) (hl:l.length<=1000000):ec 300 [eI s,j7 l] [] (bgS (sgn s l)) []:=by
 refine ac Tryz.func300 ?_;conv=>whnf
 repeat' (first|refine zx ?_|refine qp (a8h l hl) ?_|apply zD<;>intro<;>try omega)<;>conv=>whnf
 ·have h0:(N1 l).length=0:=by simp at *;assumption
  unfold sgn;rw [iA h0];exact p7 rz
 ·have h0:¬(N1 l).length=0:=by simp at *;assumption
  unfold sgn;rw [iB h0];exact p7 rz
def P4 (s:Int) (k:Nat) (h:s=1\/s=-1\/k=0) (lk:(dg k).length<=700000):
 ec 300 [eI s,j7 (dg k)] [] (bgS (bz (s*k))) []:=by
 have e:=bx6 s (dg k) om;rw [b2a (B5 k) (by rw [v3];omega),v3] at e;exact e
def a7l (l:LI) (i:Nat) (hl:l.length<=1000000):ec 330 [j7 l,eI i] [] (eI (dat l i)) []:=by
 have l2:(l.map j4).length=l.length:=zq;refine ac Tryz.func330 ?_;conv=>whnf
 repeat' (first|refine zx ?_|refine j6 (C3 om) ?_|apply zD<;>intro<;>try omega)<;>conv=>whnf
 all_goals first|exact p9 rfl|exact p9 (X3 om).symm
def a72 (l:LI) (i:Nat):val (l.drop i)=dat l i+1048576*val (l.drop (i+1)):=by
 by_cases h:i<l.length
 ·exact a9i h
 ·rw [lbo om,lbo om,X3 om];rfl
def aA3 (l:LI) (i:Nat):val l=val (l.take i)+pw i*val (l.drop i):=by
 by_cases h:i<=l.length
 ·exact a45 l i h
 ·rw [lbo om,lbn om];simp [val]
def a9c {l:LI} (h:Okd l) (i:Nat):0<=val (l.take i)/\val (l.take i)<pw i:=by
 refine ⟨B7 (h.take i),?_⟩;have h1:=Z8 (h.take i);have h2:=a1c (i:=(l.take i).length) (j:=i) zo;omega
def b0I {a b:LI} (ha:Okd a) (hb:Okd b) {i:Nat} (h:val (a.drop (i+1))=val (b.drop (i+1))) (hd:dat a i<dat b i):val a<val b:=by
 rw [aA3 a i,aA3 b i,a72 a i,a72 b i,h];have h1:=a9c ha i;have h2:=a9c hb i;have hp:=N8 i;have h3:=lbW (a:=dat a i+1048576*val (b.drop (i+1))+1) (b:=dat b i+1048576*val (b.drop (i+1))) (c:=pw i) om om;rw [aB2 _ _ (1:Int)] at h3;omega
def a7F (l:LI):val (l.drop 0)=val l:=by rw [a9e]
structure aB5 (a b:LI) (i:Nat) (out:LI) (c:Int):Prop where
 len:out.length=i
 ok:Okd out
 le:i<=a.length
 c0:0<=c
 c1:c<=1
 eq:val out - pw i*c=val (a.take i) - val (b.take i)
def aB5.init (a b:LI):aB5 a b 0 [] 0:=⟨rfl,.nil,G6 _,de,de,by simp [val]⟩
def aB5.step {a b out:LI} {i:Nat} {c n c':Int} (h:aB5 a b i out c) (ha:Okd a) (hb:Okd b) (hi:i<a.length) (hn:n=dat a i - dat b i - c+1048576*c') (h0:0<=n/\n<1048576) (hc:0<=c'/\c'<=1):
 aB5 a b (i+1) (out++[n]) c':=by
 refine ⟨by simp [h.len],h.ok.append (Okd.cons h0 .nil),hi,hc.1,hc.2,?_⟩;rw [O6,h.len,A8,A8,L8];have:=h.eq;simp only [val];rw [hn];grind
def aB5.fin {a b out:LI} {c:Int} (h:aB5 a b a.length out c) (ha:Okd a) (hb:Okd b) (hl:b.length<=a.length) (hv:val b<=val a):N1 out=dg (val a - val b).toNat:=by
 have h1:=h.eq;rw [lbn (lbR _),lbn hl] at h1;have h2:=Z8 h.ok;rw [h.len] at h2;have hc:c=0:=by
  have:=h.c0;have:=h.c1;rcases a6v 0 c with h3|h3
  ·have:c=1:=by omega
   subst this;omega
  ·omega
 subst hc;rw [Q5 h.ok]
 congr 2
 simp at h1;exact h1
structure bk6 (a b:LI) (i k:Nat) (out:LI) (c:Int):Prop where
 out:(ar4 a b i k out c/\k<=b.length)\/(k=b.length+1/\c=0/\a5T a b (i+1) out)
def bb5 {l:LI} {i:Nat}:l.set i (dat l i)=l:=by
 by_cases h:i<l.length
 ·apply a0R;intro j;by_cases hj:i=j
  ·subst hj;rw [List.getElem?_set_self h];unfold dat;rw [lbl,lbf h];rfl
  ·rw [List.getElem?_set_ne hj]
 ·rw [List.set_eq_of_length_le om]
def bk6.exit {a b out:LI} {i k:Nat} {c:Int} (h:bk6 a b i k out c) (ha:Okd a) (hb:Okd b) (hi:i<a.length) (hk:b.length<=k) (hc:c<=0):a5T a b (i+1) out:=by
 rcases h.out with ⟨h1,h2⟩|⟨h1,h2,h3⟩
 ·have hk:k=b.length:=by omega
  subst hk;have hc:c=0:=by have:=h1.c0;omega
  subst hc;have:=h1.done ha hb hi;rw [ae1,bb5] at this;exact this
 ·exact h3
def b83 {r d:Nat} {x:Int} (hx:0<=x/\x<1048576):N1 (x::dg r)=dg (r*1048576+x.toNat):=by
 rw [Q5 (Okd.cons hx (B5 r))]
 congr 1
 simp only [val,v3];omega
def b9A (a b:LI) (ha:Okd a) (hb:Okd b) (la:a.length<=1000000) (lb:b.length<=1000000):ec 304 [j7 a,j7 b] [] (m9 (decide (val a<val b))) []:=by
 have l1:(a.map j4).length=a.length:=zq;have l2:(b.map j4).length=b.length:=zq;refine ac Tryz.func304 ?_;conv=>whnf
 repeat' (first|refine zx ?_|refine ⟨_,I0 (y:=((max a.length b.length:Nat):Int) - 1) (by simp only [cond];split<;>omega) om om,?_⟩|apply zD<;>intro h<;>try omega)<;>conv=>whnf
 refine v8 g8 (σ:=Nat) (fun k=>([j7 a,j7 b,J,J,J,eI ((k:Int) - 1)]++Jn 24,[])) (fun k=>k<=1000000/\val (a.drop k)=val (b.drop k)) (fun k=>k) (max a.length b.length) []
  ⟨om,by rw [lbo om,lbo om]⟩ ⟨rfl,rfl,trivial,⟨m7 rfl,m7 rfl,rz⟩⟩ ?_
 rintro k ⟨hk,hd⟩;have hk:k<=1000000:=hk;have hd:val (a.drop k)=val (b.drop k):=hd;by_cases h0:0<k
 ·obtain ⟨i,rfl⟩:∃i,k=i+1:=⟨k - 1,om⟩;have d1:=a7l a i la;have d2:=a7l b i lb;have ei:(((i+1:Nat):Int) - 1)=i:=om;rw [ei];conv=>whnf
  repeat' (first|refine zx ?_|apply zD<;>intro h<;>try omega)<;>conv=>whnf
  ·have h:=b0I ha hb hd (by assumption);exact j1 (by simp [h])
  ·have h:=b0I hb ha hd.symm om;exact j1 zo
  ·have he:dat a i=dat b i:=by omega
   refine ⟨[],i,rz,⟨om,?_⟩,by show i<i+1;omega⟩;rw [a72 a i,a72 b i,he,hd]
 ·obtain rfl:k=0:=by omega
  rw [a7F,a7F] at hd;conv=>whnf
  repeat' (first|refine zx ?_|apply zD<;>intro h<;>try omega)<;>conv=>whnf
  all_goals first|omega|exact j1 zo
def b56 (a b:LI) (ha:Okd a) (hb:Okd b) (la:a.length<=400000) (lb:b.length<=a.length) (hv:val b<=val a):
 ec 328 [j7 a,j7 b] [] (j7 (dg (val a - val b).toNat)) []:=by
 have l1:(a.map j4).length=a.length:=zq;have l2:(b.map j4).length=b.length:=zq;refine ac Tryz.func328 ?_;conv=>whnf
 repeat' (first|refine zx ?_|apply zD<;>intro h<;>try omega)<;>conv=>whnf
 refine v8 g8 (σ:=Nat × LI × Int) (fun|(k,out,c)=>([j7 a,j7 b,J,J,J,a1D 0 out,eI c,eI k]++Jn 27,[w7 out])) (fun x=>aB5 a b x.1 x.2.1 x.2.2) (fun x=>a.length - x.1) (0,[],0) [none]
  (aB5.init a b) ⟨rfl,rfl,rz,⟨m7 rfl,m7 rfl,rz⟩⟩ ?_
 rintro ⟨k,out,c⟩ hI;have hI:aB5 a b k out c:=hI;have hlen:=hI.len;have hle:=hI.le;have hc0:=hI.c0;have hc1:=hI.c1;have hda:=ha.dat k;have hdb:=hb.dat k;have d2:=a7l b k om;conv=>whnf
 repeat' (first|refine zx ?_|refine j6 (C3 om) ?_|refine z6 zt zu ?_|apply zD<;>intro h<;>try omega)<;>conv=>whnf
 ·have hst:=hI.step ha hb (n:=dat a k - dat b k - c+1048576) (c':=1) om om om om;refine ⟨[some 1],(k+1,out++[dat a k - dat b k - c+1048576],1),⟨rfl,rfl,⟨i6 rfl rfl rfl a36 rfl,trivial⟩,⟨rfl,rfl,t5 rfl zt,rfl,g9 om,trivial⟩⟩,hst,?_⟩;show a.length - (k+1)<a.length - k;omega
 ·have hst:=hI.step ha hb (n:=dat a k - dat b k - c) (c':=0) om om om om;refine ⟨[some 1],(k+1,out++[dat a k - dat b k - c],0),⟨rfl,rfl,⟨i6 rfl rfl rfl a36 rfl,trivial⟩,⟨rfl,rfl,t5 rfl zt,rfl,g9 om,trivial⟩⟩,hst,?_⟩;show a.length - (k+1)<a.length - k;omega
 ·have hk:k=a.length:=by omega
  subst hk;have hf:=hI.fin ha hb lb hv;have t:=a8h out om;rw [hf] at t;refine .inr ⟨_,_,C8 [0] t ⟨a0Y (w6 zq rfl zi rfl rfl zq),trivial⟩ rfl,?_⟩;conv=>whnf
  exact ax6 rfl
def bt8 {a:Int} (h:0<=a):a.tmod 1048576=a % 1048576:=a6j h
def b4r (a b:LI) (ha:Okd a) (hb:Okd b) (la:a.length<=400000) (lb:b.length<=400000):
 ec 302 [j7 a,j7 b] [] (j7 (dg (val a*val b).toNat)) []:=by
 have l1:(a.map j4).length=a.length:=zq;have l2:(b.map j4).length=b.length:=zq;refine ac Tryz.func302 ?_;conv=>whnf
 repeat' (first|refine zx ?_|refine a2m om om om de ?_|apply zD<;>intro h<;>try omega)<;>conv=>whnf
 refine v8 g8 (σ:=Nat × LI) (fun|(i,out)=>([j7 a,j7 b,J,J,J,a1D 0 out,eI i]++Jn 53,[w7 out])) (fun x=>a5T a b x.1 x.2) (fun x=>a.length - x.1) (0,List.replicate (a.length+b.length) 0) [some 0]
  (a5T.init a b) ⟨rfl,rfl,⟨i6 rfl rfl rfl ?_ rfl,trivial⟩,⟨m7 rfl,m7 rfl,t5 rfl zo,rz⟩⟩ ?_
 ·show List.replicate _ _=_;rw [show ((((a.map j4).length:Nat):Int)+((b.map j4).length:Nat)).toNat=a.length+b.length by omega];simp [toC,j4,F4]
 rintro ⟨i,out⟩ hI;have hI:a5T a b i out:=hI;have hlen:=hI.len;have hle:=hI.le;conv=>whnf
 repeat' (first|refine zx ?_|apply zD<;>intro h<;>try omega)<;>conv=>whnf
 ·have hi:i<a.length:=by omega
  refine v8 g8 (σ:=Nat × LI × Int) (fun|(k,out,c)=>([j7 a,j7 b,J,J,J,a1D 0 out,eI i,eI c,eI k]++Jn 51,[w7 out])) (fun x=>bk6 a b i x.1 x.2.1 x.2.2) (fun x=>b.length+1 - x.1) (0,out,0) [some 0]
   ⟨.inl ⟨hI.start,G6 _⟩⟩ ⟨rfl,rfl,⟨i6 rfl rfl rfl rfl rfl,trivial⟩,⟨m7 rfl,m7 rfl,t5 rfl rfl,rz⟩⟩ ?_
  rintro ⟨k,out,c⟩ hT;have hT:bk6 a b i k out c:=hT;have hdb:=hb.dat k;have hda:=ha.dat i;have hm:=a4Z (ha.dat i) (hb.dat k);have d2:=a7l b k om;have e1:((i:Int)+k).toNat=i+k:=om;rcases hT.out with ⟨hK,hkb⟩|⟨hk1,hc,hM⟩
  ·have hlen:=hK.len;have hc0:=hK.c0;have hc1:=hK.c1;have hdo:=hK.ok.dat (i+k);have hz:k=b.length->dat out (i+k)=0/\dat b k=0:=fun h=>⟨hK.zero _ om,X3 om⟩
   have hzm:k=b.length->dat a i*dat b k=0:=fun h=>by rw [(hz h).2,Int.mul_zero]
   conv=>whnf
   repeat' (first|refine zx ?_|refine j6 (C3 om) ?_|refine S4 om (by show _<((out.length:Nat):Int);omega) ?_|refine w9 (U5 e1 om) ?_|refine ⟨de,_,b8G om om de,?_⟩|refine an4 de ?_|apply zD<;>intro h<;>try omega)<;>conv=>whnf
   all_goals have hn:0<=dat out (i+k)+dat a i*dat b k+c:=om
   ·have hst:=hK.step ha hb hi om;refine ⟨[some 0],(k+1,out.set (i+k) ((dat out (i+k)+dat a i*dat b k+c) % 1048576),(dat out (i+k)+dat a i*dat b k+c) / 1048576),⟨rfl,rfl,⟨i6 rfl rfl rfl ?_ rfl,trivial⟩,⟨rfl,rfl,t5 rfl zq,rz⟩⟩,⟨.inl ⟨hst,om⟩⟩,?_⟩
    ·rw [← bt8 hn];exact R5 om
    ·show b.length+1 - (k+1)<b.length+1 - k;omega
   ·have hkb2:k=b.length:=by omega
    obtain ⟨z1,z2⟩:=hz hkb2;have z3:=hzm hkb2;have en:dat out (i+k)+dat a i*dat b k+c=c:=om;have hdone:=hK;rw [hkb2] at hdone;have hdone:=hdone.done ha hb hi;rw [← hkb2] at hdone;refine ⟨[some 0],(k+1,out.set (i+k) ((dat out (i+k)+dat a i*dat b k+c) % 1048576),(dat out (i+k)+dat a i*dat b k+c) / 1048576),⟨rfl,rfl,⟨i6 rfl rfl rfl ?_ rfl,trivial⟩,⟨rfl,rfl,t5 rfl zq,rz⟩⟩,⟨.inr ⟨by show k+1=b.length+1;omega,by show (dat out (i+k)+dat a i*dat b k+c) / 1048576=0;omega,?_⟩⟩,?_⟩
    ·rw [← bt8 hn];exact R5 om
    ·have e2:(dat out (i+k)+dat a i*dat b k+c) % 1048576=dat out (i+k)+c:=by omega
     rw [e2];exact hdone
    ·show b.length+1 - (k+1)<b.length+1 - k;omega
   ·have hx:=hT.exit ha hb hi om om;exact ⟨[some 0],(i+1,out),⟨rfl,rfl,⟨i6 rfl rfl rfl rfl rfl,trivial⟩,⟨rfl,rfl,t5 rfl rfl,g9 om,trivial⟩⟩,hx,by show a.length - (i+1)<a.length - i;omega⟩
  ·have hlen:=hM.len;have hx:=hT.exit ha hb hi om om;conv=>whnf
   repeat' (first|refine zx ?_|apply zD<;>intro h<;>try omega)<;>conv=>whnf
   all_goals first|omega|exact ⟨[some 0],(i+1,out),⟨rfl,rfl,⟨i6 rfl rfl rfl rfl rfl,trivial⟩,⟨rfl,rfl,t5 rfl rfl,g9 om,trivial⟩⟩,hx,by show a.length - (i+1)<a.length - i;omega⟩
 ·have hi:i=a.length:=by omega
  subst hi;have hf:=hI.fin;have t:=a8h out om;rw [hf] at t;refine .inr ⟨_,_,C8 [0] t ⟨a0Y (w6 zq rfl zi rfl rfl zq),trivial⟩ rfl,?_⟩;conv=>whnf
  exact ax6 rfl
def b0J (m n:Nat) (lm:(dg m).length<=300000) (ln:(dg n).length<=300000):
 ec 302 [j7 (dg m),j7 (dg n)] [] (j7 (dg (m*n))) []:=by
 have h:=b4r (dg m) (dg n) (B5 m) (B5 n) om om;rw [v3,v3,show ((m:Int)*n).toNat=m*n by rw [← a3R];rfl] at h;exact h
def b7L (m n:Nat) (hn:0<n) (lm:(dg m).length<=200000) (ln:(dg n).length<=200000):
 ec 305 [j7 (dg m),j7 (dg n)] [] (b3i m n) []:=by
 have l1:((dg m).map j4).length=(dg m).length:=zq;have l2:((dg n).map j4).length=(dg n).length:=zq;refine ac Tryz.func305 ?_;conv=>whnf
 repeat' (first|refine zx ?_|refine a2m om om om de ?_|apply zD<;>intro h<;>try omega)<;>conv=>whnf
 refine v8 g8 (σ:=Nat × LI × Nat) (fun|(j,q,r)=>([j7 (dg m),j7 (dg n),J,J,J,J,a1D 0 q,j7 (dg r),eI ((j:Int) - 1)]++Jn 51,[w7 q])) (fun x=>a1H (dg m) n x.1 x.2.1 x.2.2) (fun x=>x.1) ((dg m).length,List.replicate (dg m).length 0,0) [some 0]
  (a1H.init _ om) ⟨rfl,rfl,⟨i6 rfl rfl rfl ?_ rfl,trivial⟩,⟨m7 rfl,m7 rfl,t5 rfl zq,rfl,g9 om,trivial⟩⟩ ?_
 ·show List.replicate _ _=_;simp [toC,j4,F4]
 rintro ⟨j,q,r⟩ hI;have hI:a1H (dg m) n j q r:=hI;have hlen:=hI.len;have hle:=hI.le;have hr1:=hI.r1;by_cases hj:0<j
 ·obtain ⟨i,rfl⟩:∃i,j=i+1:=⟨j - 1,om⟩;have ei:(((i+1:Nat):Int) - 1)=i:=om;have hda:=(B5 m).dat i;obtain ⟨y,hy⟩:=a2W hda.1;have lr:=t8 (show r<=n by omega);have lm2:i<(dg m).length:=om;generalize hR:r*1048576+y=R;have hRn:R<n*1048576:=by
   have:=lbU 1048576 (show r+1<=n by omega);rw [X0] at this;omega
  have lR:(dg R).length<=(dg n).length+1:=P9 (by
   have h1:=T2 n;rw [L8];have h2:=lbX (a:=(n:Int)+1) (b:=pw (dg n).length) (c:=1048576) om de;omega)
  have tr:=a8h (dat (dg m) i::dg r) zo;rw [b83 (d:=n) hda,hy,lbY,hR] at tr;conv=>whnf
  repeat' (first|refine zz ?_|refine a43.own ?_|refine N4 ei (C3 om) ?_|refine z6 (by simp [toC,F8]) zu ?_|refine .inr ⟨_,_,C8 [2] tr ⟨a0Y (w6 zq rfl zi rfl (by simp [toC,F8,j4,hy]) (by simp [toC,aJ8])),trivial⟩ rfl,?_⟩|apply zD<;>intro h<;>try omega|refine zy ?_|fail)<;>conv=>whnf
  refine v8 g8 (σ:=Nat × Nat) (fun|(lo,hi)=>([j7 (dg m),j7 (dg n),J,J,J,J,a1D 0 q,j7 (dg R),eI i,eI lo,eI hi]++Jn 49,[w7 q])) (fun x=>x.1*n<=R/\R<x.2*n/\x.1<x.2/\x.2<=1048576) (fun x=>x.2 - x.1) (0,1048576) [some 0]
   ⟨zq,by show R<1048576*n;rw [af1];exact hRn,de,de⟩ ⟨rfl,rfl,⟨i6 rfl rfl rfl rfl rfl,trivial⟩,⟨rfl,rfl,t5 rfl rfl,rfl,g9 ei,rz⟩⟩ ?_
  rintro ⟨lo,hi⟩ ⟨i1,i2,i3,i4⟩;have i1:lo*n<=R:=i1;have i2:R<hi*n:=i2;have i3:lo<hi:=i3;have i4:hi<=1048576:=i4;have ln1:(dg n).length<=200000:=ln;by_cases hc:1<hi - lo
  ·have hmid:(((lo:Int)+hi) / 2)=(((lo+hi) / 2:Nat):Int):=by omega
   generalize hM:(lo+hi) / 2=mid at hmid;have tm:=b4r (dg n) [(mid:Int)] (B5 n) (by intro x hx;simp at hx;omega) om zq;have e0:val [(mid:Int)]=mid:=by simp [val]
   rw [e0,v3,show ((n:Int)*mid).toNat=n*mid by rw [← a3R];rfl] at tm;have lnm:(dg (n*mid)).length<=(dg n).length+1:=lbS (a5l _ _) (by have:=w5 (x:=(mid:Int)) om om;simp only [bl,aQ1] at this;omega);have ls:=b9A (dg R) (dg (n*mid)) (B5 _) (B5 _) om om;rw [v3,v3] at ls;conv=>whnf
   repeat' (first|refine zx ?_|refine qp (a59 om) ?_|refine ⟨de,_,I0 (y:=(mid:Int)) (by rw [a59 om];exact hmid) om om,?_⟩|refine .inl ⟨_,_,a07 tm ⟨aY2,a0Y (a8i rfl),trivial⟩ rfl,?_⟩|apply zD<;>intro h<;>try omega)<;>conv=>whnf
   ·have hlt:R<n*mid:=Int.ofNat_lt.1 (lbL (by assumption));exact ⟨[some 0],(lo,mid),⟨rfl,rfl,⟨i6 rfl rfl rfl rfl rfl,trivial⟩,⟨rfl,rfl,t5 rfl rfl,rz⟩⟩,⟨i1,by show R<mid*n;rw [af1];exact hlt,by show lo<mid;omega,by show mid<=1048576;omega⟩,by show mid - lo<hi - lo;omega⟩
   ·have hlt:n*mid<=R:=Nat.not_lt.1 (fun h=>absurd (Int.ofNat_lt.2 h) (lbM (by assumption)));exact ⟨[some 0],(mid,hi),⟨rfl,rfl,⟨i6 rfl rfl rfl rfl rfl,trivial⟩,⟨rfl,rfl,t5 rfl rfl,rz⟩⟩,⟨by show mid*n<=R;rw [af1];exact hlt,i2,by show mid<hi;omega,i4⟩,by show hi - mid<hi - lo;omega⟩
  ·obtain rfl:hi=lo+1:=by omega
   have hq:R / n=lo:=by
    rw [Nat.div_eq_iff hn];rw [X0] at i2;omega
   have hm2:=b4z R n;rw [hq] at hm2;have hrm:=a9y R hn;have tl:=a8h [(lo:Int)] zq;rw [Q5 (by intro x hx;simp at hx;omega),show (val [(lo:Int)]).toNat=lo by simp [val]] at tl;have llo:(dg lo).length<=1:=by have:=w5 (x:=(lo:Int)) om om;simpa [bl] using this
   have tt:=b0J n lo om om;have mi:=b56 (dg R) (dg (n*lo)) (B5 _) (B5 _) om (t8 om) (by rw [v3,v3];omega);rw [v3,v3,show ((R:Int) - ((n*lo:Nat):Int)).toNat=R % n by omega] at mi;have hst:=hI.step (B5 m) om;have c1:((r:Int)*1048576+dat (dg m) i)=(R:Int):=by rw [hy,←hR];simp
   rw [c1] at hst;have c2:(R:Int) / n=(lo:Int):=by rw [← hq];simp
   have c3:(R:Int) % n=((R % n:Nat):Int):=zq;rw [c2,c3] at hst;have gq:q[0+(i:Int).toNat]? =some (dat q i):=U5 om om;conv=>whnf
   repeat' (first|refine zx ?_|refine .inl ⟨_,_,a07 tl ⟨a0Y (a8i rfl),trivial⟩ rfl,?_⟩|refine S4 om (by show _<((q.length:Nat):Int);omega) ?_|refine w9 gq ?_|apply zD<;>intro h<;>try omega)<;>conv=>whnf
   all_goals try omega
   refine ⟨[some 0],(i,q.set i lo,R % n),⟨rfl,rfl,⟨i6 rfl rfl rfl (R5 om) rfl,trivial⟩,⟨rfl,rfl,t5 rfl zq,rfl,g9 om,trivial⟩⟩,hst,by show i<i+1;omega⟩
 ·obtain rfl:j=0:=by omega
  obtain ⟨f1,f2⟩:=hI.fin (B5 m) om;have tq:=a8h q (by have:=hI.len;omega);rw [f1,v3,show ((m:Int) / n).toNat=m / n by rw [← Int.natCast_ediv];rfl] at tq;rw [v3] at f2;have f3:r=m % n:=by
   have:(m:Int) % n=((m % n:Nat):Int):=zq;omega
  subst f3;conv=>whnf
  repeat' (first|refine zx ?_|refine .inr ⟨_,_,C8 [0] tq ⟨a0Y (w6 zq rfl zi rfl rfl zq),trivial⟩ rfl,?_⟩|apply zD<;>intro h<;>try omega)<;>conv=>whnf
  all_goals try omega
  exact p7 rz
abbrev frC (f:Fr):List C:=[.t (ti f.p.sg),.t (v6 f.p.dl),.t (ti f.q.sg),.t (v6 f.q.dl)]
abbrev frS (f:Fr):S:=.agg (frC f)
def bM5 (x:Int) (lx:bl x<=200000):ec 183 [bgS (bz x)] [] (m9 (x == 1)) []:=by
 have i:=bv8 x lx;by_cases h:ad0 x
 ·rw [iA h,show decide (ad0 x)=true by simp [h]] at i;refine ac Tryz.func183 ?_;conv=>whnf
  repeat' (first|refine zx ?_|apply zD<;>intro h<;>try omega)<;>conv=>whnf
  all_goals (refine j1 ?_;simp;omega)
 ·rw [iB h,show decide (ad0 x)=false by simp [h]] at i;have hx:x≠1:=by rintro rfl;exact h de
  refine ac Tryz.func183 ?_;conv=>whnf
  repeat' (first|refine zx ?_|apply zD<;>intro h<;>try omega)<;>conv=>whnf
  all_goals (refine j1 ?_;simp;omega)
def b13 (f:Fr) (lp:f.p.dl.length<=200000) (lq:f.q.dl.length<=200000):ec 114 [frS f] [] (m9 (V8 f)) []:=by
 obtain ⟨p,q⟩:=f;simp only at lp lq;have r1:=a4u p om;have r2:=a4u q om;cases hp:M7 p with
 |false=>
  rw [hp] at r1;refine ac Tryz.func114 ?_;conv=>whnf
  repeat' (first|refine zx ?_|apply zD<;>intro<;>try omega)<;>conv=>whnf
  all_goals (first|(exfalso;simp_all;done)|(refine j1 ?_;unfold V8;simp [hp]))
 |true=>
  rw [hp] at r1;cases hq:M7 q with
  |false=>
   rw [hq] at r2;refine ac Tryz.func114 ?_;conv=>whnf
   repeat' (first|refine zx ?_|apply zD<;>intro<;>try omega)<;>conv=>whnf
   all_goals (first|(exfalso;simp_all;done)|(refine j1 ?_;unfold V8;simp [hq]))
  |true=>
   rw [hq] at r2;obtain ⟨x,rfl⟩:=ax8 hp;obtain ⟨y,rfl⟩:=ax8 hq;have g:=b3h x y lp lq;have o:=bM5 (Int.gcd x y) (ab2 x y lp lq);refine ac Tryz.func114 ?_;conv=>whnf
   repeat' (first|refine zx ?_|apply zD<;>intro<;>try omega)<;>conv=>whnf
   all_goals (refine j1 ?_;unfold V8;simp only [a13,a68,K9];symm;simp_all<;>omega)
def a2u (x y:Int) (lx:bl x<=200000) (ly:bl y<=200000):ec 121 [bgS (bz x),bgS (bz y)] [] (bgS (bz (x*y))) []:=by
 have mu:=bB6 x y lx ly;refine ac Tryz.func121 ?_;conv=>whnf
 repeat' (first|refine zx ?_|apply zD<;>intro<;>try omega)<;>conv=>whnf
 exact p7 rz
def a0H {f f':Fr} {e:Int} {H1:Hp} (h:f=f'):Fin 0 (.tup [frS f,eI e]) H1 (.tup [frS f',eI e]) []:=by
 subst h;exact p7 rz
def aO5 (p q:Int) (hq:q≠0) (lp:bl p<=200000) (lq:bl q<=200000):ec 187 [bgS (bz p),bgS (bz q)] [] (.tup [frS (fz (Rat.divInt p q)),eI 0]) []:=by
 have r1:=a6R p om;have r2:=a6R q om;have hs:=G4 q;have hsg:(bz q).sg=q.sign:=rfl;by_cases h:q<0
 ·have n1:=aa9 p om;have n2:=aa9 q om;have lg:=ab2 (-p) (-q) (by rw [Y4];exact lp) (by rw [Y4];exact lq);have hg:0<(Int.gcd (-p) (-q):Int):=by have:=b2b (-p) (b:=-q) om;omega
  have g:=b3h (-p) (-q) (by rw [Y4];exact lp) (by rw [Y4];exact lq);have d1:=aO3 (-p) _ hg (by rw [Y4];exact lp) lg;have d2:=aO3 (-q) _ hg (by rw [Y4];exact lq) lg;have e:=a9Y (p:=-p) (q:=-q) om rfl;rw [Rat.neg_divInt_neg] at e;refine ac Tryz.func187 ?_;conv=>whnf
  repeat' (first|refine zx ?_|apply zD<;>intro h<;>try omega)<;>conv=>whnf
  all_goals first|(exfalso;simp_all;done)|omega|exact a0H e.symm
 ·have lg:=ab2 p q lp lq;have hg:0<(Int.gcd p q:Int):=by have:=b2b p (b:=q) om;omega
  have g:=b3h p q lp lq;have d1:=aO3 p _ hg lp lg;have d2:=aO3 q _ hg lq lg;have e:=a9Y (p:=p) (q:=q) om rfl;refine ac Tryz.func187 ?_;conv=>whnf
  repeat' (first|refine zx ?_|apply zD<;>intro h<;>try omega)<;>conv=>whnf
  all_goals first|omega|(exfalso;simp_all;done)|exact a0H e.symm
def P1 (x:Rat) (lx:rl x<=200000):ec 114 [frS (fz x)] [] (m9 true) []:=by
 have h:=b13 (fz x) (lbS (K6 x) lx) (lbS (J9 x) lx);rw [ao1] at h;exact h
def a8E (x y:Rat) (lx:rl x<=60000) (ly:rl y<=60000):ec 119 [frS (fz x),frS (fz y)] [] (.tup [frS (fz (x+y)),eI 0]) []:=by
 have r1:=P1 x om;have r2:=P1 y om;have x1:=K6 x;have x2:=J9 x;have y1:=K6 y;have y2:=J9 y;have l1:=I2 x.num y.den;have l2:=I2 y.num x.den;have l3:=I2 x.den y.den;have l4:=a8p (x.num*y.den) (y.num*x.den);have t1:=a2u x.num y.den om om;have t2:=a2u y.num x.den om om;have t3:=a2u x.den y.den om om;have a:=by7 (x.num*y.den) (y.num*x.den) om om;have n:=aO5 (x.num*y.den+y.num*x.den) (x.den*y.den) (am3 x y) om om;rw [← al1] at n;refine ac Tryz.func119 ?_;conv=>whnf
 repeat' (first|refine zx ?_|refine bl0 [13] ?_|apply zD<;>intro<;>try omega)<;>conv=>whnf
 all_goals first|(exfalso;simp_all;done)|exact a0H rfl
def b9c (x y:Rat) (lx:rl x<=60000) (ly:rl y<=60000):ec 118 [frS (fz x),frS (fz y)] [] (.tup [frS (fz (x - y)),eI 0]) []:=by
 have r1:=P1 x om;have r2:=P1 y om;have y1:=K6 y;have n:=aa9 y.num om;have a:=a8E x (-y) lx (by rw [a39];exact ly);rw [← b3F] at a;have e:fz (-y)=⟨bz (-y.num),bz y.den⟩:=rfl;rw [e] at a;refine ac Tryz.func118 ?_;conv=>whnf
 repeat' (first|refine zx ?_|apply zD<;>intro<;>try omega)<;>conv=>whnf
 all_goals first|(exfalso;simp_all;done)|exact a0H rfl
def b3k (x y:Rat) (lx:rl x<=60000) (ly:rl y<=60000):ec 233 [frS (fz x),frS (fz y)] [] (.tup [frS (fz (x*y)),eI 0]) []:=by
 have r1:=P1 x om;have r2:=P1 y om;have x1:=K6 x;have x2:=J9 x;have y1:=K6 y;have y2:=J9 y;have l1:=I2 x.num y.num;have l3:=I2 x.den y.den;have t1:=a2u x.num y.num om om;have t3:=a2u x.den y.den om om;have n:=aO5 (x.num*y.num) (x.den*y.den) (am3 x y) om om;rw [← aQ2] at n;refine ac Tryz.func233 ?_;conv=>whnf
 repeat' (first|refine zx ?_|apply zD<;>intro<;>try omega)<;>conv=>whnf
 all_goals first|(exfalso;simp_all;done)|exact a0H rfl
def b98 (x y:Rat):P6 (x.num*y.den) (y.num*x.den)=a8x x y:=by
 unfold P6 a8x;simp only [← Rat.lt_iff]
def aA6 (x y:Rat) (lx:rl x<=60000) (ly:rl y<=60000):ec 54 [frS (fz x),frS (fz y)] [] (eI (a8x x y)) []:=by
 have r1:=P1 x om;have r2:=P1 y om;have x1:=K6 x;have x2:=J9 x;have y1:=K6 y;have y2:=J9 y;have l1:=I2 x.num y.den;have l2:=I2 y.num x.den;have t1:=a2u x.num y.den om om;have t2:=a2u y.num x.den om om;have c:=b2w (x.num*y.den) (y.num*x.den) om om;rw [b98] at c;refine ac Tryz.func54 ?_;conv=>whnf
 repeat' (first|refine zx ?_|apply zD<;>intro<;>try omega)<;>conv=>whnf
 all_goals first|(exfalso;simp_all;done)|exact p9 rfl
def a2q (x:Rat) (lx:rl x<=60000):ec 56 [frS (fz x)] [] (eI (sgR x)) []:=by
 have r1:=P1 x om;refine ac Tryz.func56 ?_;conv=>whnf
 repeat' (first|refine zx ?_|apply zD<;>intro<;>try omega)<;>conv=>whnf
 all_goals first|(exfalso;simp_all;done)|exact p9 (a9w x)
def bL9 (p q:Int) (hq:q≠0) (p0:-9223372036854775808<=p) (p1:p<=9223372036854775807) (q0:-9223372036854775808<=q) (q1:q<=9223372036854775807):
 ec 248 [eI p,eI q] [] (.tup [frS (fz (Rat.divInt p q)),eI 0]) []:=by
 have l1:=T4 p0 p1;have l2:=T4 q0 q1;have o1:=b4w p p0 p1;have o2:=b4w q q0 q1;have n:=aO5 p q hq om om;refine ac Tryz.func248 ?_;conv=>whnf
 repeat' (first|refine zx ?_|apply zD<;>intro<;>try omega)<;>conv=>whnf
 all_goals exact a0H rfl
def bC4 (n:Int):fz (n:Rat)=⟨bz n,bz 1⟩:=by unfold fz;rw [a85,ap8];rfl
def U1 (n:Int) (p0:-9223372036854775808<=n) (p1:n<=9223372036854775807):ec 55 [eI n] [] (frS (fz (n:Rat))) []:=by
 have o1:=b4w n p0 p1;have o2:=b4w 1 de de;rw [bC4];refine ac Tryz.func55 ?_;conv=>whnf
 repeat' (first|refine zx ?_|apply zD<;>intro<;>try omega)<;>conv=>whnf
 all_goals exact p7 rz
def as6 (x:Int) (lx:bl x<=200000):ec 322 [bgS (bz x)] [] (bgS (bz x)) []:=by
 have n1:=aa9 x om;have n2:=aa9 (-x) (by rw [Y4];omega);rw [Int.neg_neg] at n2;refine ac Tryz.func322 ?_;conv=>whnf
 repeat' (first|refine zx ?_|apply zD<;>intro<;>try omega)<;>conv=>whnf
 all_goals exact p7 rz
def a4Q (b:Bg) (hl:b.dl.length<=1000000):ec 243 [bgS b] [] (m9 (M7 b)) []:=by
 have l2:(b.dl.map j4).length=b.dl.length:=zq
 (refine ac Tryz.func243 ?_;(conv=>whnf);repeat ((first|refine b0x ?_|refine zy ?_);conv=>whnf))
 repeat' (first|refine zx ?_|apply zD<;>intro h<;>try omega)<;>conv=>whnf
 refine k5 g8 (fun k=>([J,S.c (C.t (T.ptr [ti b.sg,v6 b.dl])),J,eI k]++Jn 52,[])) b.dl.length (fun k=>(b.dl.take k).all inD=true) [] rfl
  ⟨rfl,rfl,trivial,⟨m7 rfl,rz⟩⟩ ?_
 intro k hk hI;by_cases hlt:k<b.dl.length
 ·conv=>whnf
  repeat' (first|refine zx ?_|refine j6 (C3 om) ?_|apply zD<;>intro h<;>try omega)<;>conv=>whnf
  all_goals first|omega|exact ⟨hlt,by rw [D3 (C3 hlt),hI];simp [inD];omega,[],rz⟩|(refine j1 ?_;unfold M7;rw [G9 (C3 hlt) (by simp [inD];omega)];rfl)
 ·have hke:k=b.dl.length:=by omega
  subst hke;have ha:b.dl.all inD=true:=by rw [← hI,lbn om]
  have hgl:0<b.dl.length->b.dl[((((b.dl.map j4).length:Nat):Int) - 1).toNat]? =some (dat b.dl (b.dl.length - 1)):=fun h=>by rw [l2];exact a8H h
  conv=>whnf
  repeat' (first|refine zx ?_|refine K3 om (hgl om) ?_|apply zD<;>intro h<;>try omega)<;>conv=>whnf
  all_goals first|omega|(exfalso;simp_all;done)|(exfalso;simp_all;omega)|skip
  all_goals
   refine j1 ?_;unfold M7;rw [ha];by_cases hz:b.dl.length=0
   ·rw [iA hz];simp_all<;>omega
   ·rw [iB hz];simp_all<;>omega
def a1U (x:Int) (lx:bl x<=300000):ec 243 [bgS (bz x)] [] (m9 true) []:=by
 have:=a4Q (bz x) (show bl x<=1000000 by omega);rw [a13] at this;exact this
def b5B (n:Int) (h0:-9223372036854775808<=n) (h1:n<=9223372036854775807):ec 230 [eI n] [] (bgS (bz n)) []:=by
 rcases a53 n 0 with hn|hn|hn
 ·refine ac Tryz.func230 ?_;conv=>whnf
  repeat' (first|refine zx ?_|apply zD<;>intro h<;>try omega)<;>conv=>whnf
  all_goals try omega
  refine v8 g8 (σ:=LI × Nat) (fun|(acc,u)=>([eI (- (u:Int)),J,sP 0 0 0,eI (-1),a1D 1 acc]++Jn 23,[a6d,w7 acc])) (fun s=>OfI n s.1 s.2) (fun s=>s.2) ([],n.natAbs) [some 0,none]
   ⟨rfl⟩ ⟨rfl,rfl,⟨⟨rfl,rfl,rfl,.inl ⟨rfl,V9⟩⟩,rz⟩,⟨g9 om,rz⟩⟩ ?_
  rintro ⟨acc,u⟩ hI;have hI:OfI n acc u:=hI;have hl:=hI.len h0 h1;have hu:=hI.le;have hm:(- (u:Int)).tmod 1048576=- ((u:Int) % 1048576):=by
   first|exact a6j om|(rw [Int.neg_tmod,a6j om])
  have hd:(- (u:Int)).tdiv 1048576=- ((u / 1048576:Nat):Int):=by
   first|(rw [a59 om];simp;done)|(rw [Int.neg_tdiv,a59 om];simp)
  by_cases hu0:0<u
  ·have hst:=hI.step hu0;conv=>whnf
   repeat' (first|refine zx ?_|refine z6 zt zu ?_|refine ⟨de,_,I0 hd om om,?_⟩|refine an4 de ?_|apply zD<;>intro h<;>try omega)<;>conv=>whnf
   all_goals try omega
   all_goals
    refine ⟨[some 0,some 2],(acc++[(u:Int) % 1048576],u / 1048576),⟨rfl,rfl,⟨⟨rfl,rfl,rfl,.inl ⟨rfl,V9⟩⟩,i6 rfl rfl rfl ?_ rfl,trivial⟩,⟨g9 rfl,rz,rfl,t5 rfl zt,trivial⟩⟩,hst,by show u / 1048576<u;omega⟩;have e:∀y:Int,y=(u:Int) % 1048576->(toC (acc.map j4)).take acc.length++toC [[ti y]]=toC ((acc++[(u:Int) % 1048576]).map j4):=fun y hy=>by rw [hy];exact a36
    exact e _ om
  ·have h0u:u=0:=by omega
   subst h0u;have e:acc=dg n.natAbs:=by have:=hI.eq;rw [a0E,Z3] at this;exact this
   have sg:=P4 (-1) n.natAbs om (by rw [← e];omega);rw [← e,show (-1)*(n.natAbs:Int)=n by omega] at sg;conv=>whnf
   repeat' (first|refine zx ?_|refine .inr ⟨_,_,C8 [1] sg ⟨aY2,a0Y (w6 zq rfl zi rfl rfl zq),trivial⟩ rfl,?_⟩|apply zD<;>intro h<;>try omega)<;>conv=>whnf
   all_goals try omega
   exact p7 rz
 ·subst hn;refine ac Tryz.func230 ?_;conv=>whnf
  repeat' (first|refine zx ?_|apply zD<;>intro h<;>try omega)<;>conv=>whnf
  all_goals first|omega|exact p7 rz
 ·refine ac Tryz.func230 ?_;conv=>whnf
  repeat' (first|refine zx ?_|apply zD<;>intro h<;>try omega)<;>conv=>whnf
  all_goals try omega
  refine v8 g8 (σ:=LI × Nat) (fun|(acc,u)=>([eI ((u:Int)),J,sP 0 0 0,eI (1),a1D 1 acc]++Jn 23,[a6d,w7 acc])) (fun s=>OfI n s.1 s.2) (fun s=>s.2) ([],n.natAbs) [some 0,none]
   ⟨rfl⟩ ⟨rfl,rfl,⟨⟨rfl,rfl,rfl,.inl ⟨rfl,V9⟩⟩,rz⟩,⟨g9 om,rz⟩⟩ ?_
  rintro ⟨acc,u⟩ hI;have hI:OfI n acc u:=hI;have hl:=hI.len h0 h1;have hu:=hI.le;have hm:((u:Int)).tmod 1048576=((u:Int) % 1048576):=by
   first|exact a6j om|(rw [Int.neg_tmod,a6j om])
  have hd:((u:Int)).tdiv 1048576=((u / 1048576:Nat):Int):=by
   first|(rw [a59 om];simp;done)|(rw [Int.neg_tdiv,a59 om];simp)
  by_cases hu0:0<u
  ·have hst:=hI.step hu0;conv=>whnf
   repeat' (first|refine zx ?_|refine z6 zt zu ?_|refine ⟨de,_,I0 hd om om,?_⟩|refine an4 de ?_|apply zD<;>intro h<;>try omega)<;>conv=>whnf
   all_goals try omega
   all_goals
    refine ⟨[some 0,some 2],(acc++[(u:Int) % 1048576],u / 1048576),⟨rfl,rfl,⟨⟨rfl,rfl,rfl,.inl ⟨rfl,V9⟩⟩,i6 rfl rfl rfl ?_ rfl,trivial⟩,⟨g9 rfl,rz,rfl,t5 rfl zt,trivial⟩⟩,hst,by show u / 1048576<u;omega⟩;have e:∀y:Int,y=(u:Int) % 1048576->(toC (acc.map j4)).take acc.length++toC [[ti y]]=toC ((acc++[(u:Int) % 1048576]).map j4):=fun y hy=>by rw [hy];exact a36
    exact e _ om
  ·have h0u:u=0:=by omega
   subst h0u;have e:acc=dg n.natAbs:=by have:=hI.eq;rw [a0E,Z3] at this;exact this
   have sg:=P4 (1) n.natAbs om (by rw [← e];omega);rw [← e,show (1)*(n.natAbs:Int)=n by omega] at sg;conv=>whnf
   repeat' (first|refine zx ?_|refine .inr ⟨_,_,C8 [1] sg ⟨aY2,a0Y (w6 zq rfl zi rfl rfl zq),trivial⟩ rfl,?_⟩|apply zD<;>intro h<;>try omega)<;>conv=>whnf
   all_goals try omega
   exact p7 rz
def b8g (x y:Int) (lx:bl x<=200000) (ly:bl y<=200000):ec 244 [bgS (bz x),bgS (bz y)] [] (.tup [bgS (bz (Int.gcd x y)),eI 0]) []:=by
 have r1:=a1U x om;have r2:=a1U y om;refine ac Tryz.func244 ?_;conv=>whnf
 repeat' (first|refine zx ?_|apply zD<;>intro<;>try omega)<;>conv=>whnf
 all_goals first|(exfalso;simp_all;done)|skip
 refine v8 g8 (σ:=Nat × Nat) (fun|(X,Y)=>([J,J,J,J,sP 0 0 0,J,j7 (dg X),j7 (dg Y)]++Jn 28,[a6d])) (fun s=>bm5 x y s.1 s.2) (fun s=>s.2) (x.natAbs,y.natAbs) [some 2]
  ⟨rfl,lx,ly⟩ ⟨rfl,rfl,⟨⟨rfl,rfl,rfl,.inl ⟨rfl,V9⟩⟩,trivial⟩,rz⟩ ?_
 rintro ⟨X,Y⟩ hI;have hI:bm5 x y X Y:=hI;obtain ⟨g1,g2,g3⟩:=hI;have l2:((dg Y).map j4).length=(dg Y).length:=zq;by_cases hY:0<Y
 ·have hp:(dg Y).length≠0:=by rw [Ne,a1C,O4];omega
  have dv:=b7L X Y hY om om;conv=>whnf
  repeat' (first|refine zx ?_|apply zD<;>intro<;>try omega)<;>conv=>whnf
  all_goals first|omega|exact ⟨[some 0],(Y,X % Y),⟨rfl,rfl,⟨⟨rfl,rfl,rfl,.inl ⟨rfl,V9⟩⟩,trivial⟩,rz⟩,⟨by rw [← g1,Nat.gcd_comm Y,←Nat.gcd_rec,Nat.gcd_comm],g3,lbS (t8 (a9M (a9y X hY))) g3⟩,a9y X hY⟩
 ·have hY:Y=0:=by omega
  subst hY;have hp:(dg 0).length=0:=rfl;have s1:=P4 1 X zq om;conv=>whnf
  repeat' (first|refine zx ?_|apply zD<;>intro<;>try omega)<;>conv=>whnf
  all_goals first|omega|skip
  refine a7X ?_;rw [a2g,show X=Int.gcd x y by rw [Int.gcd,←g1,Nat.gcd_zero_right]]
def bt4 (x y:Int) (hy:0<y) (hxy:x % y=0) (lx:bl x<=200000) (ly:bl y<=200000):ec 299 [bgS (bz x),bgS (bz y)] [] (.tup [bgS (bz (x / y)),bgS (bz 0),eI 0]) []:=by
 have r1:=a1U x om;have r2:=a1U y om;have hys:(bz y).sg=1:=by rw [af2,R8 hy]
 have ov:=b7L x.natAbs y.natAbs om lx ly;have hmod:x.natAbs % y.natAbs=0:=by
  have:=Int.natAbs_dvd_natAbs.2 (Int.dvd_of_emod_eq_zero hxy);exact Nat.mod_eq_zero_of_dvd this
 have lq:=t8 (Nat.div_le_self x.natAbs y.natAbs);have hsg:(bz x).sg=x.sign:=rfl;have hs:=G4 x;have hq:x.sign*((x.natAbs / y.natAbs:Nat):Int)=x / y:=by
  obtain ⟨k,hk⟩:=Int.dvd_of_emod_eq_zero hxy;subst hk;have hk2:(y*k) / y=k:=aN6 _ om;rw [hk2,a3r,Nat.mul_div_cancel_left _ om,Int.sign_mul,R8 hy,a2g];exact ar0 k
 have s1:=P4 x.sign (x.natAbs / y.natAbs) (by
  rcases hs with ⟨h,h1⟩|⟨h,h1⟩|⟨h,h1⟩
  ·right;right;subst h1;simp
  ·exact .inl h
  ·exact .inr (.inl h)) (by unfold bl at lx;omega)
 rw [hq] at s1;have s2:=P4 x.sign 0 zq (by rw [a0E];simp);rw [show x.sign*((0:Nat):Int)=0 by simp] at s2;have hmul:x.sign*1=x.sign:=ax7 _;have hd0:((dg (x.natAbs % y.natAbs)).map j4).length=0:=by rw [hmod,a0E];rfl
 unfold b3i at ov;rw [hmod] at ov hd0;refine ac Tryz.func299 ?_;conv=>whnf
 repeat' (first|refine zx ?_|refine qp (hys,hsg) ?_|refine ⟨_,I0 (y:=x.sign) (by rw [hys,hsg];exact hmul) om om,?_⟩|apply zD<;>intro h<;>try omega)<;>conv=>whnf
 all_goals first|omega|(exfalso;simp_all;done)|exact b47 rfl rfl
def b0H (p q:Int) (hq:0<q) (lp:bl p<=200000) (lq:bl q<=200000):ec 229 [bgS (bz p),bgS (bz q)] [] (.tup [frS (fz (Rat.divInt p q)),eI 0]) []:=by
 have r1:=a1U p om;have r2:=a1U q om;have hsg:(bz q).sg=1:=by rw [af2,R8 hq]
 have lg:=ab2 p q lp lq;have hg:0<(Int.gcd p q:Int):=by have:=b2b p (b:=q) om;omega
 have g:=b8g p q lp lq;have d1:=bt4 p _ hg (Int.emod_eq_zero_of_dvd (Int.gcd_dvd_left ..)) lp lg;have d2:=bt4 q _ hg (Int.emod_eq_zero_of_dvd (Int.gcd_dvd_right ..)) lq lg;have e:=a9Y (p:=p) (q:=q) om rfl;refine ac Tryz.func229 ?_;conv=>whnf
 repeat' (first|refine zx ?_|apply zD<;>intro<;>try omega)<;>conv=>whnf
 all_goals first|omega|(exfalso;simp_all;done)|exact a0H e.symm
def bB9 (p q:Int) (hq:0<q) (p0:-9223372036854775808<=p) (p1:p<=9223372036854775807) (q1:q<=9223372036854775807):
 ec 150 [eI p,eI q] [] (.tup [frS (fz (Rat.divInt p q)),eI 0]) []:=by
 have l1:=T4 p0 p1;have l2:=T4 (x:=q) om q1;have o1:=b5B p p0 p1;have o2:=b5B q om q1;have n:=b0H p q hq om om;refine ac Tryz.func150 ?_;conv=>whnf
 repeat' (first|refine zx ?_|apply zD<;>intro<;>try omega)<;>conv=>whnf
 all_goals exact a0H rfl
def a5S (n:Int) (p0:-9223372036854775808<=n) (p1:n<=9223372036854775807):ec 81 [eI n] [] (frS (fz (n:Rat))) []:=by
 have o:=bB9 n 1 de p0 p1 de;have e:Rat.divInt n 1=(n:Rat):=by rw [a80];simp;grind
 rw [e] at o;refine ac Tryz.func81 ?_;conv=>whnf
 repeat' (first|refine zx ?_|apply zD<;>intro<;>try omega)<;>conv=>whnf
 all_goals exact p7 rz
structure aB8 (a b:LI) (i:Nat) (out:LI) (c:Int):Prop where
 len:out.length=i
 ok:Okd out
 le:i<=max a.length b.length+1
 top:i=max a.length b.length+1->c=0
 c0:0<=c
 c1:c<=1
 eq:val out+pw i*c=val (a.take i)+val (b.take i)
def aB8.init (a b:LI):aB8 a b 0 [] 0:=⟨rfl,.nil,G6 _,fun _=>rfl,de,de,by simp [val]⟩
def aB8.step {a b out:LI} {i:Nat} {c:Int} (h:aB8 a b i out c) (ha:Okd a) (hb:Okd b) (hi:i<a.length\/i<b.length\/0<c):
 aB8 a b (i+1) (out++[(dat a i+dat b i+c) % 1048576]) ((dat a i+dat b i+c) / 1048576):=by
 have h1:=ha.dat i;have h2:=hb.dat i;have h3:=h.c0;have h4:=h.c1;have hl:=h.le;have ht:=h.top;have hi2:i<=max a.length b.length:=by
  rcases H6 (max a.length b.length) i with h5|h5
  ·have:=ht om;omega
  ·exact h5
 refine ⟨by simp [h.len],h.ok.append (Okd.cons (a7a _) .nil),om,fun e=>?_,om,om,?_⟩
 ·have e1:dat a i=0:=X3 om;have e2:dat b i=0:=X3 om;rw [e1,e2];omega
 ·rw [O6,h.len,A8,A8,L8];have h5:=h.eq;have h6:(dat a i+dat b i+c) % 1048576=dat a i+dat b i+c - 1048576*((dat a i+dat b i+c) / 1048576):=om;simp only [val];rw [h6];grind
def aB8.fin {a b out:LI} {i:Nat} {c:Int} (h:aB8 a b i out c) (la:a.length<=i) (lb:b.length<=i) (hc:c<=0):N1 out=dg (val a+val b).toNat:=by
 have h1:=h.eq;have h2:=h.c0;obtain rfl:c=0:=om;rw [lbn la,lbn lb] at h1;rw [Q5 h.ok]
 congr 2
 grind
def bE8 (a b:LI) (ha:Okd a) (hb:Okd b) (la:a.length<=400000) (lb:b.length<=400000):
 ec 327 [j7 a,j7 b] [] (j7 (dg (val a+val b).toNat)) []:=by
 have l1:(a.map j4).length=a.length:=zq;have l2:(b.map j4).length=b.length:=zq;refine ac Tryz.func327 ?_;conv=>whnf
 repeat' (first|refine zx ?_|apply zD<;>intro h<;>try omega)<;>conv=>whnf
 refine v8 g8 (σ:=Nat × LI × Int) (fun|(k,out,c)=>([j7 a,j7 b,J,J,J,a1D 0 out,eI c,eI k]++Jn 35,[w7 out])) (fun x=>aB8 a b x.1 x.2.1 x.2.2) (fun x=>max a.length b.length+1 - x.1) (0,[],0) [none]
  (aB8.init a b) ⟨rfl,rfl,rz,⟨m7 rfl,m7 rfl,rz⟩⟩ ?_
 rintro ⟨k,out,c⟩ hI;have hI:aB8 a b k out c:=hI;have hlen:=hI.len;have hle:=hI.le;have hc0:=hI.c0;have hc1:=hI.c1;have hda:=ha.dat k;have hdb:=hb.dat k;have d1:=a7l a k om;have d2:=a7l b k om;have hm:(dat a k+dat b k+c).tmod 1048576=(dat a k+dat b k+c) % 1048576:=a6j om;have hd:(dat a k+dat b k+c).tdiv 1048576=(dat a k+dat b k+c) / 1048576:=a59 om;by_cases hgo:k<a.length\/k<b.length\/0<c
 ·have hst:=hI.step ha hb hgo;have hk2:=hst.le;conv=>whnf
  repeat' (first|refine zx ?_|refine z6 zt zu ?_|refine ⟨de,_,I0 hd om om,?_⟩|refine an4 de ?_|apply zD<;>intro h<;>try omega)<;>conv=>whnf
  all_goals try omega
  all_goals
   refine ⟨[some 1],(k+1,out++[(dat a k+dat b k+c) % 1048576],(dat a k+dat b k+c) / 1048576),⟨rfl,rfl,⟨i6 rfl rfl rfl ?_ rfl,trivial⟩,⟨rfl,rfl,t5 rfl zt,rfl,g9 om,trivial⟩⟩,hst,?_⟩
   ·have e:∀y:Int,y=(dat a k+dat b k+c) % 1048576->(toC (out.map j4)).take out.length++toC [[ti y]]=toC ((out++[(dat a k+dat b k+c) % 1048576]).map j4):=fun y hy=>by rw [hy];exact a36
    exact e _ om
   ·show max a.length b.length+1 - (k+1)<max a.length b.length+1 - k;omega
 ·have hf:=hI.fin om om om;have t:=a8h out om;rw [hf] at t;conv=>whnf
  repeat' (first|refine zx ?_|refine .inr ⟨_,_,C8 [0] t ⟨a0Y (w6 zq rfl zi rfl rfl zq),trivial⟩ rfl,?_⟩|apply zD<;>intro h<;>try omega)<;>conv=>whnf
  all_goals first|omega|exact ax6 rfl
def bf2 (m n:Nat) (lm:(dg m).length<=300000) (ln:(dg n).length<=300000):ec 327 [j7 (dg m),j7 (dg n)] [] (j7 (dg (m+n))) []:=by
 have h:=bE8 (dg m) (dg n) (B5 m) (B5 n) om om;rw [v3,v3,show ((m:Int)+n).toNat=m+n by omega] at h;exact h
def a9D (m n:Nat) (lm:(dg m).length<=300000) (h:n<=m):ec 328 [j7 (dg m),j7 (dg n)] [] (j7 (dg (m - n))) []:=by
 have h:=b56 (dg m) (dg n) (B5 m) (B5 n) om (t8 h) (by rw [v3,v3];omega);rw [v3,v3,show ((m:Int) - n).toNat=m - n by omega] at h;exact h
def b4Z (m n:Nat) (lm:(dg m).length<=300000) (ln:(dg n).length<=300000):ec 304 [j7 (dg m),j7 (dg n)] [] (m9 (decide (m<n))) []:=by
 have h:=b9A (dg m) (dg n) (B5 m) (B5 n) om om;rw [v3,v3,show decide ((m:Int)<n)=decide (m<n) by simp] at h;exact h
def bq2 (s:Int) (m:Nat) (h:Sg s m) (lm:(dg m).length<=300000):ec 243 [bgS ⟨s,dg m⟩] [] (m9 true) []:=by
 have:=a4Q ⟨s,dg m⟩ (show (dg m).length<=1000000 by omega);rw [← a91 h,a13,a91 h] at this;exact this
def a5Z (x:Int) (lx:bl x<=300000):ec 242 [bgS (bz x)] [] (bgS (bz (-x))) []:=by
 have r:=a1U x lx;have hs:=G4 x;have hsg:(bz x).sg=x.sign:=rfl;have sg:=P4 (0 - (bz x).sg) x.natAbs om (by unfold bl at lx;omega);rw [show (0 - (bz x).sg)*(x.natAbs:Int)=-x by rw [hsg];have:=sgm x;grind] at sg;refine ac Tryz.func242 ?_;conv=>whnf
 repeat' (first|refine zx ?_|apply zD<;>intro<;>try omega)<;>conv=>whnf
 all_goals first|(exfalso;simp_all;done)|exact p7 rz
end Go.Proofs.YtikokmdpigploaaGreat
