/- Part 4. -/
import Derived.Test.YtbcdidimaioapaaGreatChecked
import Derived.WalkLawsBesides
import Derived.Deep.AppendLies
import Derived.Test.YtbcdidimaioapaaGreatRl2
namespace Go.Proofs.YtbcdidimaioapaaGreat
set_option maxRecDepth 100000
open Go.RowKit
set_option linter.all false
set_option maxHeartbeats 8000000
def a6F:T->T->T
 |.sl s .any _,.sl s0 k r=>match k with
  |.nil=>.sl s .any []
  |_=>.sl s0 .any r
 |_,x=>x
def RT.weak {w:World} {M:Ms} {x y:T} {v:Value} (h:a6F y x=y) (hr:RT w M x v):RT w M y v:=by
 unfold a6F at h;split at h
 ·split at h
  ·rw [← h];cases hr with
   |sl f hrow hcap hmax hk hn hA hc hr=>
    obtain ⟨rfl,rfl,rfl⟩:=hn rfl;exact .sl (b:=0) (off:=0) (fun _ _=>undef) zq hcap hmax zi zi zq (by simp [at2]) (by simp [at2])
  ·rw [← h];cases hr with
   |sl f hrow hcap hmax hk hn hA hc hr=>exact .sl f hrow hcap hmax zi zi hA hc hr
 ·rw [← h];exact hr
def a1Q (x:T):a6F x x=x:=by
 cases x with
 |sl s k r=>cases k<;>rfl
 |_=>rfl
def am4 {x y:T} (h:x=y):a6F y x=y:=by subst h;exact a1Q x
mutual
def VC (H:Hp) (p:Nat->Prop):C->T->Prop
 |.t x,y=>a6F y x=y
 |.ptr id r o,y=>match y with
  |.ptr cells=>p id/\∃k row,H[id]? =some k/\¬k.mode.gone/\k.rows[r]? =some row/\row.drop o=cells.map C.t
  |_=>False
 |.own id lo len _,y=>match y with
  |.sl size .any rows=>p id/\∃k,H[id]? =some k/\¬k.mode.gone/\k.size=size/\lo+len<=k.rows.length/\(k.rows.drop lo).take len=toC rows
  |_=>False
 |.fn f caps,y=>match y with
  |.fn f' caps'=>f=f'/\VL H p caps caps'
  |_=>False
def VL (H:Hp) (p:Nat->Prop):List C->List T->Prop
 |[],ys=>ys=[]
 |x::r,ys=>match ys with
  |[]=>False
  |y::r'=>VC H p x y/\VL H p r r'
end
def bH4 {rows:List (List T)} {i j:Nat} {c:T} (h:at2 rows i j=some c):at2 (toC rows) i j=some (.t c):=by
 have ⟨row,h1,h2⟩:=J4 h;exact G5 (row:=row.map C.t) (by simp [toC,h1]) (by simp [h2])
mutual
def VC.rt {H:Hp} {p:Nat->Prop} {w:World} {ι:Io} {M M':Ms} (hH:v5 w ι M H) (hM:∀b,M' b->M b) (hp:∀id k b cap size,p id->H[id]? =some k->¬k.mode.gone->ι id=some (.blk b cap size)->¬M' b):
 ∀(x:C) (y:T) (v:Value),VC H p x y->RC w ι M x v->RT w M' y v
 |.t x,y,v,h,hr=>by
  have h:a6F y x=y:=by simpa only [VC] using h
  cases hr with
  |t hr=>exact (hr.weak h).keep (fun _ _ _=>rfl) (fun b hb=>.inl (hM b hb))
 |.ptr id r o,y,v,h,hr=>by
  cases y with
  |ptr cells=>
   simp only [VC] at h;have ⟨hpi,k,row,hk,hd,hrow,hc⟩:=h;cases hr with
   |@ptr _ _ _ b cap size hi=>
    have hb:=(hH.blk id k hk (fun e=>hd (by rw [e];trivial)) _ hi).row hrow;have hnm:=hp id k b cap size hpi hk hd hi;have hat:∀(j:Nat) (c:T),cells[j]? =some c->row[o+j]? =some (.t c):=fun j c hj=>by
     have:(row.drop o)[j]? =some (.t c):=by rw [hc,lba,hj];rfl
     rwa [lbj] at this
    refine .ptr (fun j=>(w.cell? ⟨b,r*size+o+j,none⟩).getD undef) (fun j c hj=>?_) (fun j c hj=>?_)
    ·have ⟨u,h1,h2⟩:=hb _ _ (hat j c hj);rw [a3w,h1];exact ⟨rfl,hnm⟩
    ·have ⟨u,h1,h2⟩:=hb _ _ (hat j c hj);rw [a3w,h1];cases h2 with
     |t h2=>exact h2.keep (fun _ _ _=>rfl) (fun b hb=>.inl (hM b hb))
  |_=>simp only [VC] at h
 |.own id lo len app,y,v,h,hr=>by
  cases y with
  |sl size sk rows=>
   cases sk with
   |any=>
    simp only [VC] at h;have ⟨hpi,k,hk,hd,hsz,hl,hc⟩:=h;have hlen:rows.length=len:=by
     have:=congrArg List.length hc;simp [toC] at this;omega
    cases hr with
    |@own _ _ _ _ b cap sz A cap' hi q1 q2 q3 q4 q5=>
     have hbr:=hH.blk id k hk (fun e=>hd (by rw [e];trivial)) _ hi;have ⟨r1,r2,r3,r4,r5,cur,r6,r7,r8⟩:=hbr;have hnm:=hp id k b cap sz hpi hk hd hi;have hse:sz=size:=by rw [← hsz,r1]
     subst hse;have hat:∀(i j:Nat) (c:T),at2 rows i j=some c->∃u,cur[(lo+i)*sz+j]? =some u/\RT w M' c u:=fun i j c hij=>by
      have h1:=bH4 hij;rw [← hc] at h1;have ⟨row,s1,s2⟩:=J4 h1;rw [lbi] at s1;split at s1
      ·rw [lbj] at s1;have ⟨u,t1,t2⟩:=r8 _ _ _ (G5 s1 s2);refine ⟨u,t1,?_⟩;cases t2 with
       |t t2=>exact t2.keep (fun _ _ _=>rfl) (fun b hb=>.inl (hM b hb))
      ·cases s1
     subst hlen;refine .sl (b:=b) (off:=lo*sz) (fun i j=>cur.getD ((lo+i)*sz+j) undef) ?_ q3 q4 zi zi (fun hne=>q2 (a7N.2 hne)) ?_ ?_
     ·intro r hr';have:r.map C.t ∈ toC rows:=lbx.2 ⟨r,hr',rfl⟩;rw [← hc] at this;have:=r5 _ (b1G (ah1 this));simpa using this
     ·intro i j c hij;have ⟨u,t1,t2⟩:=hat i j c hij;refine ⟨?_,hnm⟩;rw [show lo*sz+(i*sz+j)=(lo+i)*sz+j by rw [Y3];omega];simp [World.cell?,r6,t1]
     ·intro i j c hij;have ⟨u,t1,t2⟩:=hat i j c hij;have:cur.getD ((lo+i)*sz+j) undef=u:=by simp [t1]
      show RT w M' c (cur.getD ((lo+i)*sz+j) undef);rw [this];exact t2
    |nil hi=>
     have hr0:rows=[]:=lbF hlen;subst hr0;exact .sl (b:=0) (off:=0) (fun _ _=>undef) zq zq (by unfold maxLen;omega) zq zq zq (by simp [at2]) (by simp [at2])
   |_=>simp only [VC] at h
  |_=>simp only [VC] at h
 |.fn f caps,y,v,h,hr=>by
  cases y with
  |fn f' caps'=>
   simp only [VC] at h;obtain ⟨rfl,h⟩:=h;cases hr with
   |fn vs hl hr=>
    have ⟨h1,h2⟩:=VL.rt hH hM hp caps caps' h;exact .fn vs om fun j c hj=>by
     have hlt:=(lbe.1 hj).1;exact h2 j _ c _ (lbf om) hj (hr j _ (lbf om))
  |_=>simp only [VC] at h
def VL.rt {H:Hp} {p:Nat->Prop} {w:World} {ι:Io} {M M':Ms} (hH:v5 w ι M H) (hM:∀b,M' b->M b) (hp:∀id k b cap size,p id->H[id]? =some k->¬k.mode.gone->ι id=some (.blk b cap size)->¬M' b):
 ∀(xs:List C) (ys:List T),VL H p xs ys->xs.length=ys.length/\∀(j:Nat) (x:C) (y:T) (v:Value),xs[j]? =some x->ys[j]? =some y->RC w ι M x v->RT w M' y v
 |[],ys,h=>by
  simp only [VL] at h;subst h;exact ⟨rfl,zq⟩
 |x::r,ys,h=>by
  cases ys with
  |nil=>simp only [VL] at h
  |cons y r'=>
   simp only [VL] at h;have ⟨h1,h2⟩:=VL.rt hH hM hp r r' h.2;refine ⟨by simp [h1],fun j x' y' v hx hy hr=>?_⟩;cases j with
   |zero=>simp at hx hy;subst hx hy;exact VC.rt hH hM hp x y v h.1 hr
   |succ j=>exact h2 j x' y' v (by simpa using hx) (by simpa using hy) hr
end
def av7 {H:Hp} {p:Nat->Prop} {x y:T} (h:a6F y x=y):VC H p (.t x) y:=by simpa only [VC] using h
def as9 {H:Hp} {p:Nat->Prop} {id r o:Nat} {k:Blk} {row:List C} {cells:List T} (hp:p id) (hk:H[id]? =some k) (hd:¬k.mode.gone) (hr:k.rows[r]? =some row) (hc:row.drop o=cells.map C.t):VC H p (.ptr id r o) (.ptr cells):=by
 simp only [VC];exact ⟨hp,k,row,hk,hd,hr,hc⟩
def bC2 {H:Hp} {p:Nat->Prop} {id lo len:Nat} {app:Bool} {size:Nat} {k:Blk} {rows:List (List T)} (hp:p id) (hk:H[id]? =some k) (hd:¬k.mode.gone) (hs:k.size=size) (hl:lo+len<=k.rows.length) (hc:(k.rows.drop lo).take len=toC rows):VC H p (.own id lo len app) (.sl size .any rows):=by
 simp only [VC];exact ⟨hp,k,hk,hd,hs,hl,hc⟩
def v7 {H:Hp} {p:Nat->Prop} {id len:Nat} {app:Bool} {size:Nat} {k:Blk} {rows:List (List T)} (hp:p id) (hk:H[id]? =some k) (hd:¬k.mode.gone) (hs:k.size=size) (hc:k.rows=toC rows) (hl:len=rows.length):VC H p (.own id 0 len app) (.sl size .any rows):=
 bC2 hp hk hd hs (by rw [hc,hl];simp [toC]) (by rw [hc,hl,a9m,lbn zt])
def bf7 {H:Hp} {p:Nat->Prop}:VL H p [] []:=by simp only [VL]
def a7e {H:Hp} {p:Nat->Prop} {x:C} {y:T} {xs:List C} {ys:List T} (h:VC H p x y) (hs:VL H p xs ys):VL H p (x::xs) (y::ys):=by simp only [VL];exact ⟨h,hs⟩
def bU0 {H:Hp} {p:Nat->Prop} {f:Fn} {xs:List C} {ys:List T} (h:VL H p xs ys):VC H p (.fn f xs) (.fn f ys):=by simp only [VC,true_and];exact h
def VS (H:Hp) (p:Nat->Prop):S->S->Prop
 |_,.junk=>True
 |.c x,.c (.t y)=>VC H p x y
 |.agg xs,.agg ys=>∃ts,ys=ts.map C.t/\VL H p xs ts
 |_,_=>False
def a2f {H:Hp} {p:Nat->Prop} {x:C} {y:T} (h:VC H p x y):VS H p (.c x) (.c (.t y)):=h
def bF7 {H:Hp} {p:Nat->Prop} {xs:List C} {ts:List T} (h:VL H p xs ts):VS H p (.agg xs) (.agg (ts.map C.t)):=⟨ts,rfl,h⟩
def VS.rs {H:Hp} {p:Nat->Prop} {w:World} {ι ι':Io} {M M':Ms} (hH:v5 w ι M H) (hM:∀b,M' b->M b) (hp:∀id k b cap size,p id->H[id]? =some k->¬k.mode.gone->ι id=some (.blk b cap size)->¬M' b)
 {x y:S} {v:Value} (h:VS H p x y) (hr:RS w ι M x v):RS w ι' M' y v:=by
 unfold VS at h;split at h
 ·exact .junk
 ·cases hr with
  |c hr=>exact .c (.t (VC.rt hH hM hp _ _ _ h hr))
 ·obtain ⟨ts,rfl,h⟩:=h;cases hr with
  |agg vs hl hr=>
   have ⟨h1,h2⟩:=VL.rt hH hM hp _ _ h;refine .agg vs zo fun j c hj=>?_
   rw [lba] at hj;cases hj':ts[j]? with
   |none=>rw [hj'] at hj;cases hj
   |some c'=>
    rw [hj'] at hj;injection hj with hj;subst hj;have hlt:=(lbe.1 hj').1;exact .t (h2 j _ c' _ (lbf om) hj' (hr j _ (lbf om)))
 ·exact h.elim
def a7X (H:Hp) (p:Nat->Prop):List S->List S->Prop
 |[],[]=>True
 |x::r,y::r'=>VS H p x y/\a7X H p r r'
 |_,_=>False
def a7X.get {H:Hp} {p:Nat->Prop}:∀{xs ys:List S},a7X H p xs ys->xs.length=ys.length/\∀(j:Nat) (y:S),ys[j]? =some y->∃x,xs[j]? =some x/\VS H p x y
 |[],[],_=>⟨rfl,zq⟩
 |x::r,y::r',h=>by
  have ⟨h1,h2⟩:=a7X.get h.2;refine ⟨by simp [h1],fun j y' hj=>?_⟩;cases j with
  |zero=>simp at hj;subst hj;exact ⟨x,rfl,h.1⟩
  |succ j=>simpa using h2 j y' (by simpa using hj)
 |[],_::_,h=>h.elim
 |_::_,[],h=>h.elim
def C.isT:C->Bool
 |.t _=>true
 |_=>false
def S.isT:S->Bool
 |.junk=>true
 |.c x=>x.isT
 |.agg cs=>cs.all C.isT
 |.tup ss=>ss.all fun s=>match s with
  |.c x=>x.isT
  |.agg cs=>cs.all C.isT
  |.junk=>true
  |.tup _=>false
def RC.tree {w:World} {ι ι':Io} {M:Ms} {x:C} {v:Value} (h:x.isT=true) (hr:RC w ι M x v):RC w ι' M x v:=by
 cases hr<;>first|exact .t ‹_›|cases h
def RS.tree1 {w:World} {ι ι':Io} {M:Ms} {s:S} {v:Value} (h:(match s with|.c x=>x.isT|.agg cs=>cs.all C.isT|.junk=>true|.tup _=>false)=true) (hr:RS w ι M s v):RS w ι' M s v:=by
 cases hr with
 |junk=>exact .junk
 |c hr=>exact .c (hr.tree h)
 |agg vs hl hr=>exact .agg vs hl fun j c hj=>(hr j c hj).tree (lbv.1 h c (lbm hj))
 |tup vs hl hr=>cases h
def RS.tree {w:World} {ι ι':Io} {M:Ms} {s:S} {v:Value} (h:s.isT=true) (hr:RS w ι M s v):RS w ι' M s v:=by
 cases hr with
 |junk=>exact .junk
 |c hr=>exact .c (hr.tree h)
 |agg vs hl hr=>exact .agg vs hl fun j c hj=>(hr j c hj).tree (lbv.1 h c (lbm hj))
 |tup vs hl hr=>exact .tup vs hl fun j s hj=>(hr j s hj).tree1 (lbv.1 h s (lbm hj))
theorem zB {p:Prop} (h:p:=by rintro ⟨id,k,_,_,hk,_⟩;simp at hk):p:=h
def I8 {P:Program} {g:FuncId} {args:List S} {H:Hp} {r:S} (h:e8 P g args [] r []) (ha:args.all S.isT=true) (hr:r.isT=true):a0x P g args H r []:=by
 refine ⟨h.1,fun w ι M vals hl hv hH hM hf=>?_⟩;have:=h.2 w (fun _=>none) M vals hl (fun j s hj=>(hv j s hj).tree (lbv.1 ha s (lbm hj)))
  ⟨zq,zq,zq,zq,zq⟩ hM (fun _ _=>rfl)
 refine Calls.mono this ?_;rintro e w' ⟨v,rfl,ι',M',h1,h2,h3,h4,h5⟩;refine ⟨v,rfl,P4.of_none ?_ ?_⟩
 ·refine RS.keep (ι:=ι) (M:=M') (fun _ _ _=>rfl) (fun b hb=>?_) (fun _ _ h=>h) (h1.tree hr);rcases h5.mold b hb with h|⟨id,k,_,_,hk,_⟩
  ·exact .inl h
  ·simp at hk
 ·exact ⟨h5.os,h5.tape,h5.output,h5.size,fun b hb=>h5.keep b hb zB⟩
def Awp.mono {P:Program} {n0:Nat} {c:Code} {env:Env} {H:Hp} {Q Q':AX->Env->Hp->Prop} (h:Awp P n0 c env H Q) (hq:∀a env H,Q a env H->Q' a env H):Awp P n0 c env H Q':=
 ⟨fun w0 ι0 M0 H0 a w hn hM hs=>wp_mono (h.out w0 ι0 M0 H0 a w hn hM hs) (by rintro e a' w' ⟨x,env',H',h1,h2,h3⟩;exact ⟨x,env',H',h1,hq _ _ _ h2,h3⟩)⟩
def a3U {x:Int} (h1:-9223372036854775808<=x) (h2:x<=9223372036854775807):N1 .i64 x x:=by
 unfold N1;exact (IntWalk.i64_in x ⟨h1,om⟩).symm
def L2:List (Option Nat)->Nat->Bool
 |[],_=>true
 |some m::r,n=>!(Nat.beq m n) && L2 r n
 |none::r,n=>L2 r n
def bw2 (ρ:List (Option Nat)) (x y:C):Prop:=
 match y with
 |.t y=>match x with
  |.t x=>x=y
  |_=>False
 |.ptr id' r' o'=>match x with
  |.ptr id r o=>ρ[id']? =some (some id)/\r=r'/\o=o'
  |_=>False
 |_=>False
def aM7 (ρ:List (Option Nat)):List C->List C->Prop
 |[],[]=>True
 |x::r,y::r'=>bw2 ρ x y/\aM7 ρ r r'
 |_,_=>False
def b6K (ρ:List (Option Nat)) (H:Hp) (x y:C):Prop:=
 match y with
 |.t y=>match x with
  |.t x=>a6F y x=y
  |x=>VC H (fun id=>L2 ρ id=true) x y
 |.own id' lo' len' app'=>match x with
  |.t (.sl _ .nil _)=>ρ[id']? =some none/\lo'=0/\len'=0
  |.t (.sl _ .full [])=>ρ[id']? =some none/\lo'=0/\len'=0
  |.own id lo len app=>ρ[id']? =some (some id)/\lo=lo'/\len=len'/\(app'=true->app=true)
  |_=>False
 |.ptr id' r' o'=>match x with
  |.ptr id r o=>ρ[id']? =some (some id)/\r=r'/\o=o'
  |_=>False
 |.fn f' caps'=>match x with
  |.fn f caps=>f=f'/\aM7 ρ caps caps'
  |_=>False
def a5c (ρ:List (Option Nat)) (H:Hp):List C->List C->Prop
 |[],[]=>True
 |x::r,y::r'=>b6K ρ H x y/\a5c ρ H r r'
 |_,_=>False
def a7H (ρ:List (Option Nat)) (H:Hp) (s:S) (s':S):Prop:=
 match s' with
 |.junk=>True
 |.c y=>match s with
  |.c x=>b6K ρ H x y
  |_=>False
 |.agg cs'=>match s with
  |.agg cs=>a5c ρ H cs cs'
  |_=>False
 |.tup _=>False
def a0A (ρ:List (Option Nat)) (H:Hp):Env->Env->Prop
 |[],[]=>True
 |s::r,s'::r'=>match s' with
  |.junk=>a0A ρ H r r'
  |s'=>a7H ρ H s s'/\a0A ρ H r r'
 |_,_=>False
def L6 (rows:List (List C)):Prop:=∀r ∈ rows,∀c ∈ r,c.isT=true
def a4Y (ρ:List (Option Nat)) (H:Hp):List (List C)->List (List C)->Prop
 |[],[]=>True
 |x::r,y::r'=>a5c ρ H x y/\a4Y ρ H r r'
 |_,_=>False
def a45 (k k':Blk):Bool:=match k.mode,k'.mode with
 |.live,.live=>cond k.app k'.app true
 |.live,.old=>k.app
 |.froz,.froz=>true
 |.old,.old=>true
 |.dead,.dead=>true
 |_,_=>false
def a09 {k k':Blk} (h:a45 k k'=true):(k'.mode≠.dead->k.mode≠.dead)/\(k'.mode=.live->k.mode=.live/\(k.app=true->k'.app=true))/\(k'.mode=.froz->k.mode=.froz)/\
 (k'.mode=.old->k.mode=.old\/(k.mode=.live/\k.app=true)):=by
 unfold a45 at h;cases h1:k.mode<;>cases h2:k'.mode<;>rw [h1,h2] at h<;>simp at h ⊢
 ·intro ha;rw [ha] at h;simpa using h
 ·exact h
def a3o (ρ:List (Option Nat)) (H:Hp) (k k':Blk):Prop:=
 a45 k k'=true/\k.elem=k'.elem/\k.size=k'.size/\((k.rows=k'.rows/\L6 k.rows)\/a4Y ρ H k.rows k'.rows)
def a4w (ρ:List (Option Nat)) (H:Hp):List (Option Nat)->Hp->Prop
 |[],[]=>True
 |x::r,k'::r'=>(match x with
  |none=>k'.rows=[]/\k'.mode=.live
  |some id=>match H[id]? with
   |some k=>a3o ρ H k k'
   |none=>False)/\a4w ρ H r r'
 |_,_=>False
def a5Y:Nat->List (Option Nat)->Hp->Bool
 |n,x::r,k::H=>(match x,k.mode with
  |_,.old=>false
  |some m,_=>Nat.beq m n
  |none,_=>false) || a5Y n r H
 |_,_,_=>false
def Z5:List (Option Nat)->Hp->Bool
 |none::r,_::H=>Z5 r H
 |some n::r,k::H=>(match k.mode with
  |.old=>true
  |_=>!(a5Y n r H)) && Z5 r H
 |_,_=>true
def a3d (ρ:List (Option Nat)):Nat->Bool
 |0=>true
 |n+1=>(match ρ[n]? with|some (some m)=>Nat.beq m n|_=>false) && a3d ρ n
def Ent (n0:Nat) (ρ:List (Option Nat)) (env:Env) (H:Hp) (env':Env) (H':Hp):Prop:=
 a3d ρ n0=true/\Z5 ρ H'=true/\a4w ρ H ρ H'/\a0A ρ H env env'
def X2 (ρ:List (Option Nat)) (ι:Io):Io:=fun id=>match ρ[id]? with
 |some (some j)=>ι j
 |some none=>some .nil
 |none=>none
def a9s (ρ:List (Option Nat)) (H:Hp) (ι:Io) (M:Ms):Ms:=fun b=>M b/\¬∃id k cap size,L2 ρ id=true/\H[id]? =some k/\¬k.mode.gone/\ι id=some (.blk b cap size)
def aN6:∀{ρ:List (Option Nat)} {i n:Nat},ρ[i]? =some (some n)->L2 ρ n=true->False
 |[],i,n,h,_=>by simp at h
 |x::r,i,n,h,hn=>by
  have hr:L2 r n=true:=by cases x<;>simp [L2] at hn<;>first|exact hn|exact hn.2
  cases i with
  |zero=>
   simp at h;subst h;simp [L2] at hn
  |succ i=>exact aN6 (by simpa using h) hr
def RC.sub {w:World} {ι:Io} {M M':Ms} (hM:∀b,M' b->M b) {x:C} {v:Value} (h:RC w ι M x v):RC w ι M' x v:=h.keep (fun _ _ _=>rfl) (fun b hb=>.inl (hM b hb)) (fun _ _ h=>h)
def bw2.rc {w:World} {ι:Io} {M:Ms} {ρ:List (Option Nat)} {H:Hp} {x y:C} {v:Value} (h:bw2 ρ x y) (hr:RC w ι M x v):RC w (X2 ρ ι) (a9s ρ H ι M) y v:=by
 cases y with
 |t y=>
  cases x with
  |t x=>
   have h:x=y:=h;subst h;cases hr with
   |t hr=>exact .t (hr.keep (fun _ _ _=>rfl) fun b hb=>.inl hb.1)
  |_=>exact False.elim h
 |ptr id' r' o'=>
  cases x with
  |ptr id r o=>
   obtain ⟨h1,rfl,rfl⟩:=h;cases hr with
   |ptr hi=>exact .ptr (by unfold X2;rw [h1];exact hi)
  |_=>exact False.elim h
 |own _ _ _ _=>exact False.elim h
 |fn _ _=>exact False.elim h
def aM7.get {ρ:List (Option Nat)}:∀{xs ys:List C},aM7 ρ xs ys->xs.length=ys.length/\∀(j:Nat) (x y:C),xs[j]? =some x->ys[j]? =some y->bw2 ρ x y
 |[],[],_=>⟨rfl,zq⟩
 |x::xs,y::ys,h=>by
  have ⟨h1,h2⟩:=aM7.get h.2;refine ⟨by simp [h1],fun j x' y' hx hy=>?_⟩;cases j with
  |zero=>simp at hx hy;subst hx hy;exact h.1
  |succ j=>exact h2 j x' y' (by simpa using hx) (by simpa using hy)
 |[],_::_,h=>h.elim
 |_::_,[],h=>h.elim
def b6K.rc {w:World} {ι:Io} {M:Ms} {ρ:List (Option Nat)} {H:Hp} (hH:v5 w ι M H) {x y:C} {v:Value} (h:b6K ρ H x y) (hr:RC w ι M x v):RC w (X2 ρ ι) (a9s ρ H ι M) y v:=by
 cases y with
 |t y=>
  have h:VC H (fun id=>L2 ρ id=true) x y:=by cases x<;>first|exact h|(simp only [VC];exact h)
  refine .t (VC.rt hH (fun b hb=>hb.1) ?_ x y v h hr);intro id k b cap size hp hk hd hi hb;exact hb.2 ⟨id,k,cap,size,hp,hk,hd,hi⟩
 |own id' lo' len' app'=>
  cases x with
  |t x=>
   cases x with
   |sl size k rows=>
    cases k with
    |nil=>
     obtain ⟨h1,rfl,rfl⟩:=h;cases hr with
     |t hr=>cases hr with
      |sl f hrow hcap hmax hk hn hA hc hr=>
       obtain ⟨rfl,rfl,rfl⟩:=hn rfl;exact .nil (by unfold X2;rw [h1])
    |full=>
     cases rows with
     |nil=>
      obtain ⟨h1,rfl,rfl⟩:=h;cases hr with
      |t hr=>cases hr with
       |sl f hrow hcap hmax hk hn hA hc hr=>
        obtain rfl:=hk rfl;exact .nil (by unfold X2;rw [h1])
     |cons _ _=>exact False.elim h
    |any=>exact False.elim h
    |nul=>exact False.elim h
    |non=>exact False.elim h
   |_=>exact False.elim h
  |own id lo len app=>
   obtain ⟨h1,rfl,rfl,happ⟩:=h;cases hr with
   |own hi q1 q2 q3 q4 q5=>exact .own (by unfold X2;rw [h1];exact hi) q1 q2 q3 q4 (fun h=>q5 (happ h))
   |nil hi=>exact .nil (by unfold X2;rw [h1];exact hi)
  |_=>exact False.elim h
 |ptr id' r' o'=>
  cases x with
  |ptr id r o=>
   obtain ⟨h1,rfl,rfl⟩:=h;cases hr with
   |ptr hi=>exact .ptr (by unfold X2;rw [h1];exact hi)
  |_=>exact False.elim h
 |fn f' caps'=>
  cases x with
  |fn f caps=>
   obtain ⟨rfl,h⟩:=h;have ⟨h1,h2⟩:=aM7.get h;cases hr with
   |fn vs hl hr=>
    refine .fn vs om fun j c hj=>?_
    have hlt:=(lbe.1 hj).1;exact (h2 j _ c (lbf om) hj).rc (hr j _ (lbf om))
  |_=>exact False.elim h
section
variable {w:World} {ι:Io} {M:Ms} {ρ:List (Option Nat)} {H:Hp} (hH:v5 w ι M H)
include hH
def a5c.rc:∀{xs ys:List C},a5c ρ H xs ys->xs.length=ys.length/\∀(j:Nat) (x y:C) (v:Value),xs[j]? =some x->ys[j]? =some y->RC w ι M x v->RC w (X2 ρ ι) (a9s ρ H ι M) y v
 |[],[],_=>⟨rfl,zq⟩
 |x::xs,y::ys,h=>by
  have ⟨h1,h2⟩:=a5c.rc h.2;refine ⟨by simp [h1],fun j x' y' v hx hy hr=>?_⟩;cases j with
  |zero=>simp at hx hy;subst hx hy;exact h.1.rc hH hr
  |succ j=>exact h2 j x' y' v (by simpa using hx) (by simpa using hy) hr
 |[],_::_,h=>h.elim
 |_::_,[],h=>h.elim
def a7H.rs {s s':S} {v:Value} (h:a7H ρ H s s') (hr:RS w ι M s v):RS w (X2 ρ ι) (a9s ρ H ι M) s' v:=by
 unfold a7H at h;split at h
 ·exact .junk
 ·split at h
  ·exact .c (b6K.rc hH h hr.inv_c)
  ·exact h.elim
 ·split at h
  ·cases hr with
   |agg vs hl hr=>
    have ⟨h1,h2⟩:=a5c.rc hH h;refine .agg vs om fun j c hj=>?_
    have hlt:=(lbe.1 hj).1;exact h2 j _ c _ (lbf om) hj (hr j _ (lbf om))
  ·exact h.elim
 ·exact h.elim
omit hH in
def a0A.rel:∀{env env':Env},a0A ρ H env env'->env.length=env'.length/\∀(t:Nat) (s':S),env'[t]? =some s'->∃s,env[t]? =some s/\a7H ρ H s s'
 |[],[],_=>⟨rfl,zq⟩
 |s::r,s'::r',h=>by
  have h':a7H ρ H s s'/\a0A ρ H r r':=by
   cases s' with
   |junk=>exact ⟨trivial,h⟩
   |_=>exact h
  have ⟨h1,h2⟩:=a0A.rel h'.2;refine ⟨by simp [h1],fun t s'' ht=>?_⟩;cases t with
  |zero=>simp at ht;subst ht;exact ⟨s,rfl,h'.1⟩
  |succ t=>simpa using h2 t s'' (by simpa using ht)
 |[],_::_,h=>h.elim
 |_::_,[],h=>h.elim
def a4Y.rc:∀{xs ys:List (List C)},a4Y ρ H xs ys->xs.length=ys.length/\(∀ n,(∀ r ∈ xs,r.length=n)->∀r ∈ ys,r.length=n)/\
 ∀(i j:Nat) (y:C),at2 ys i j=some y->∃x,at2 xs i j=some x/\∀v,RC w ι M x v->RC w (X2 ρ ι) (a9s ρ H ι M) y v
 |[],[],_=>⟨rfl,zq,by simp [at2]⟩
 |x::xs,y::ys,h=>by
  have ⟨h1,h2,h3⟩:=a4Y.rc h.2;have ⟨q1,q2⟩:=a5c.rc hH h.1;refine ⟨by simp [h1],fun n hn r hr=>?_,fun i j y' hy=>?_⟩
  ·rcases lbA.1 hr with rfl|hr
   ·rw [← q1];exact hn x zq
   ·exact h2 n (fun r hr=>hn r (by simp [hr])) r hr
  ·have ⟨row,r1,r2⟩:=J4 hy;cases i with
   |zero=>
    simp at r1;subst r1;have hlt:=(lbe.1 r2).1;exact ⟨_,G5 rfl (lbf om),fun v hv=>q2 j _ _ v (lbf om) r2 hv⟩
   |succ i=>
    have ⟨x',s1,s2⟩:=h3 i j y' (G5 (by simpa using r1) r2);have ⟨row',t1,t2⟩:=J4 s1;exact ⟨x',G5 (by simpa using t1) t2,s2⟩
 |[],_::_,h=>h.elim
 |_::_,[],h=>h.elim
end
def a4w.get {ρ:List (Option Nat)} {H:Hp}:∀{r:List (Option Nat)} {H':Hp},a4w ρ H r H'->r.length=H'.length/\∀(id:Nat) (k':Blk),H'[id]? =some k'->
 (r[id]? =some none/\k'.rows=[]/\k'.mode=.live)\/∃j k,r[id]? =some (some j)/\H[j]? =some k/\a3o ρ H k k'
 |[],[],_=>⟨rfl,zq⟩
 |x::r,k::H',h=>by
  have ⟨h1,h2⟩:=a4w.get h.2;refine ⟨by simp [h1],fun id k' hk=>?_⟩;cases id with
  |zero=>
   simp at hk;subst hk;have hx:=h.1;cases x with
   |none=>exact .inl ⟨rfl,hx⟩
   |some j=>
    refine .inr ⟨j,?_⟩;simp only at hx;split at hx
    ·rename_i k0 hk0;exact ⟨k0,rfl,hk0,hx⟩
    ·exact hx.elim
  |succ id=>simpa using h2 id k' (by simpa using hk)
 |[],_::_,h=>h.elim
 |_::_,[],h=>h.elim
def aO6:∀{r:List (Option Nat)} {H:Hp} {n j:Nat} {k:Blk},a5Y n r H=false->r[j]? =some (some n)->H[j]? =some k->k.mode=.old
 |[],_,n,j,k,_,h,_=>by simp at h
 |x::r,[],n,j,k,_,_,h=>by simp at h
 |x::r,k0::H,n,0,k,hs,h,hk=>by
  simp at h hk;subst h hk;simp only [a5Y,a2t] at hs;cases hm:k0.mode with
  |old=>rfl
  |_=>rw [hm] at hs;simp at hs
 |x::r,k0::H,n,j+1,k,hs,h,hk=>by
  simp only [a5Y,a2t] at hs;exact aO6 hs.2 (by simpa using h) (by simpa using hk)
def aL1:∀{l:List (Option Nat)} {H:Hp},Z5 l H=true->∀(i j n:Nat) (k k':Blk),l[i]? =some (some n)->l[j]? =some (some n)->H[i]? =some k->H[j]? =some k'->k.mode≠.old->k'.mode≠.old->i=j
 |[],_,_,i,j,n,k,k',h,_,_,_,_,_=>by simp at h
 |x::r,[],_,i,j,n,k,k',_,_,h,_,_,_=>by simp at h
 |x::r,k0::H,hn,i,j,n,k,k',hi,hj,hk,hk',ho,ho'=>by
  have hr:Z5 r H=true:=by
   cases x with
   |none=>exact hn
   |some m=>simp only [Z5,lbN] at hn;exact hn.2
  have hx:∀(q:Nat) (kq:Blk),x=some n->k0.mode≠.old->r[q]? =some (some n)->H[q]? =some kq->kq.mode=.old:=fun q kq hxn h0 hq hkq=>by
   subst hxn;simp only [Z5,lbN] at hn;have h1:=hn.1;have:a5Y n r H=false:=by
    cases hm:k0.mode with
    |old=>exact absurd hm h0
    |_=>simpa using h1
   exact aO6 this hq hkq
  cases i with
  |zero=>cases j with
   |zero=>rfl
   |succ j=>
    simp at hi hj hk hk';subst hk;exact absurd (hx j k' hi ho hj hk') ho'
  |succ i=>cases j with
   |zero=>
    simp at hi hj hk hk';subst hk';exact absurd (hx i k hj ho' hi hk) ho
   |succ j=>
    simp at hi hj hk hk';rw [aL1 hr i j n k k' hi hj hk hk' ho ho']
def aa1 {ρ:List (Option Nat)}:∀{n:Nat},a3d ρ n=true->∀i,i<n->ρ[i]? =some (some i)
 |0,_,i,h=>om
 |n+1,hk,i,h=>by
  simp only [a3d,lbN] at hk;by_cases hi:i=n
  ·subst hi;have:=hk.1;split at this
   ·rename_i m hm;rw [hm,a1A this]
   ·cases this
  ·exact aa1 hk.2 i om
def aC4 {w:World} {ι ι':Io} {M M':Ms} (hM:∀b,M' b->M b) {rows:List (List C)} (h:L6 rows) {i j:Nat} {c:C} (hc:at2 rows i j=some c) {u:Value} (hr:RC w ι M c u):RC w ι' M' c u:=by
 have ⟨row,h1,h2⟩:=J4 hc;exact (hr.tree (h row (lbm h1) c (lbm h2))).sub hM
def a4w.all {n0:Nat} {ρ:List (Option Nat)} {H H':Hp} (h1:a3d ρ n0=true) (h2:Z5 ρ H'=true) (h3:a4w ρ H ρ H') {w0:World} {ι0:Io} {M0:Ms} {H0:Hp} {w:World} {ι:Io} {M:Ms} (hn:H0.length=n0) (hM0:MB w0 M0)
 (hH:v5 w ι M H) (hst:a4n w0 ι0 M0 H0 w ι M H):v5 w (X2 ρ ι) (a9s ρ H ι M) H'/\a17 (X2 ρ ι) H'.length/\a4n w0 ι0 M0 H0 w (X2 ρ ι) (a9s ρ H ι M) H':=by
 have ⟨hl,hg0⟩:=a4w.get h3;have hg:∀(id:Nat) (k':Blk),H'[id]? =some k'->(ρ[id]? =some none/\k'.rows=[]/\k'.mode=.live)\/∃j k,ρ[id]? =some (some j)/\H[j]? =some k/\a45 k k'=true/\k.elem=k'.elem/\k.size=k'.size/\
  ((k.rows=k'.rows/\L6 k.rows)\/a4Y ρ H k.rows k'.rows):=fun id k' hk=>by
  rcases hg0 id k' hk with h|⟨j,k,q1,q2,q3,q4,q5,q6⟩
  ·exact .inl h
  ·exact .inr ⟨j,k,q1,q2,q3,q4,q5,q6⟩
 have hlen:∀{k k':Blk},((k.rows=k'.rows/\L6 k.rows)\/a4Y ρ H k.rows k'.rows)->k.rows.length=k'.rows.length:=fun h=>by
  rcases h with h|h
  ·rw [h.1]
  ·exact (a4Y.rc hH h).1
 have hsub:∀b,a9s ρ H ι M b->M b:=fun b hb=>hb.1
 have hren:∀id j,ρ[id]? =some (some j)->X2 ρ ι id=ι j:=fun id j hj=>by unfold X2;rw [hj]
 have hnil:∀id,ρ[id]? =some none->X2 ρ ι id=some .nil:=fun id hj=>by unfold X2;rw [hj]
 have hle:H0.length<=H'.length:=by
  rw [← hl,hn];rcases I0 ρ.length n0 with hlt|hge
  ·have:=aa1 h1 ρ.length hlt;simp at this
  ·exact hge
 refine ⟨⟨?_,?_,?_,?_,?_⟩,?_,⟨hst.os,hst.tape,hst.output,hst.size,hst.keep,?_,fun b hb=>hst.mnew b hb.1,?_,?_,hle⟩⟩
 ·intro id k' hk hd l hll;rcases hg id k' hk with ⟨q1,q2,q3⟩|⟨j,k,q1,q2,q3,q4,q5,q6⟩
  ·rw [hnil id q1] at hll;injection hll with hll;subst hll;exact q2
  ·rw [hren id j q1] at hll;have hb:=hH.blk j k q2 ((a09 q3).1 hd) l hll;cases l with
   |nil=>
    have hb':k.rows=[]:=hb;show k'.rows=[];rcases q6 with ⟨q6,_⟩|q6
    ·rw [← q6,hb']
    ·rw [hb'] at q6;cases hr:k'.rows with
     |nil=>rfl
     |cons y ys=>rw [hr] at q6;exact q6.elim
   |blk b cap size=>
    have ⟨r1,r2,r3,r4,r5,cur,r6,r7,r8⟩:=hb;rcases q6 with ⟨q6,q7⟩|q6
    ·refine ⟨by rw [← q5];exact r1,r2,by rw [← q6];exact r3,r4,by rw [← q6];exact r5,cur,by rw [← q4];exact r6,r7,fun i j c hc=>?_⟩;rw [← q6] at hc;have ⟨u,s1,s2⟩:=r8 i j c hc;exact ⟨u,s1,aC4 hsub q7 hc s2⟩
    ·have ⟨t1,t2,t3⟩:=a4Y.rc hH q6;refine ⟨by rw [← q5];exact r1,r2,by rw [← t1];exact r3,r4,t2 size r5,cur,by rw [← q4];exact r6,r7,fun i j c hc=>?_⟩;have ⟨x,u1,u2⟩:=t3 i j c hc;have ⟨u,s1,s2⟩:=r8 i j x u1;exact ⟨u,s1,u2 u s2⟩
 ·intro id k' hk hm b cap size hi;rcases hg id k' hk with ⟨q1,q2,q3⟩|⟨j,k,q1,q2,q3,q4,q5,q6⟩
  ·rw [hnil id q1] at hi;cases hi
  ·rw [hren id j q1] at hi;have hkl:k.mode=.live:=((a09 q3).2.1 hm).1;have hMb:=hH.liv j k q2 hkl b cap size hi;refine ⟨hMb,?_⟩;rintro ⟨id2,k2,cap2,size2,n1,n2,n3,n4⟩;cases hm2:k2.mode with
   |live=>
    have:=hH.inj j id2 k k2 q2 n2 hkl hm2 _ _ _ _ _ hi n4;subst this;exact aN6 q1 n1
   |froz=>exact hH.fro id2 k2 n2 hm2 _ _ _ n4 hMb
   |old=>exact n3 (by rw [hm2];trivial)
   |dead=>exact n3 (by rw [hm2];trivial)
 ·intro id k' hk hm b cap size hi;rcases hg id k' hk with ⟨q1,q2,q3⟩|⟨j,k,q1,q2,q3,q4,q5,q6⟩
  ·rw [hnil id q1] at hi;cases hi
  ·rw [hren id j q1] at hi;exact fun hb=>hH.fro j k q2 ((a09 q3).2.2.1 hm) b cap size hi hb.1
 ·intro id id' k k' hk hk' hm hm' b cap size cap' size' hi hi';rcases hg id k hk with ⟨q1,q2,q3⟩|⟨j,k1,q1,q2,q3,q4,q5,q6⟩
  ·rw [hnil id q1] at hi;cases hi
  ·rcases hg id' k' hk' with ⟨q1',q2',q3'⟩|⟨j',k1',q1',q2',q3',q4',q5',q6'⟩
   ·rw [hnil id' q1'] at hi';cases hi'
   ·rw [hren id j q1] at hi;rw [hren id' j' q1'] at hi';have:=hH.inj j j' k1 k1' q2 q2' ((a09 q3).2.1 hm).1 ((a09 q3').2.1 hm').1 _ _ _ _ _ hi hi';subst this;exact aL1 h2 id id' j k k' q1 q1' hk hk' (by rw [hm];intro h;cases h) (by rw [hm'];intro h;cases h)
 ·intro id id' k k' hk hk' hm hm' b cap size cap' size' hi hi';rcases hg id k hk with ⟨q1,q2,q3⟩|⟨j,k1,q1,q2,q3,q4,q5,q6⟩
  ·rw [hnil id q1] at hi;cases hi
  ·rcases hg0 id' k' hk' with ⟨q1',q2',q3'⟩|⟨j',k1',q1',q2',q3',q4',q5',q6'⟩
   ·rw [hnil id' q1'] at hi';cases hi'
   ·rw [hren id j q1] at hi;rw [hren id' j' q1'] at hi';have ⟨hl1,s2⟩:=(a09 q3').2.1 hm';rcases (a09 q3).2.2.2 hm with ho|⟨ho,ha⟩
    ·have ⟨t1,t2,t3⟩:=hH.old j j' k1 k1' q2 q2' ho hl1 _ _ _ _ _ hi hi';exact ⟨s2 t1,t2,by rw [← hlen q6,←hlen q6'];exact t3⟩
    ·have hjj:=hH.inj j j' k1 k1' q2 q2' ho hl1 _ _ _ _ _ hi hi';subst hjj;rw [q2] at q2';injection q2' with q2';subst q2';rw [hi] at hi';injection hi' with hi';injection hi' with _ _ hi';exact ⟨s2 ha,hi',by rw [← hlen q6,←hlen q6'];exact lbR _⟩
 ·intro id hid;unfold X2;rw [lbd om]
 ·intro id hid;rw [hren id id (aa1 h1 id om)];exact hst.same id hid
 ·intro b hb;rcases hst.mold b hb with h|h
  ·by_cases hx:∃id k cap size,L2 ρ id=true/\H[id]? =some k/\¬k.mode.gone/\ι id=some (.blk b cap size)
   ·have ⟨id,k,cap,size,n1,n2,n3,n4⟩:=hx;refine .inr ?_;have hlive:k.mode=.live:=by
     cases hm:k.mode with
     |live=>rfl
     |froz=>exact absurd h (hH.fro id k n2 hm _ _ _ n4)
     |old=>exact absurd (by rw [hm];trivial) n3
     |dead=>exact absurd (by rw [hm];trivial) n3
    rcases hst.live b ⟨id,k,cap,size,n2,hlive,n4⟩ with h'|h'
    ·exact h'
    ·have:=hM0 b hb;omega
   ·exact .inl ⟨h,hx⟩
  ·exact .inr h
 ·rintro b ⟨id,k',cap,size,hk,hm,hi⟩;rcases hg id k' hk with ⟨q1,q2,q3⟩|⟨j,k,q1,q2,q3,q4,q5,q6⟩
  ·rw [hnil id q1] at hi;cases hi
  ·rw [hren id j q1] at hi;exact hst.live b ⟨j,k,cap,size,q2,((a09 q3).2.1 hm).1,hi⟩
def Ent.sim {n0:Nat} {ρ:List (Option Nat)} {env env':Env} {H H':Hp} (h:Ent n0 ρ env H env' H') {w0:World} {ι0:Io} {M0:Ms} {H0:Hp} {a:Act} {w:World} (hn:H0.length=n0) (hM0:MB w0 M0)
 (hs:Sim w0 ι0 M0 H0 a w env H):Sim w0 ι0 M0 H0 a w env' H':=by
 have ⟨h1,h2,h3,h4⟩:=h;have ⟨ι,M,hd,hsz,he,hH,hM,hF,hst⟩:=hs;have ⟨hel,heg⟩:=a0A.rel h4;have ⟨q1,q2,q3⟩:=a4w.all h1 h2 h3 hn hM0 hH hst;refine ⟨X2 ρ ι,_,hd,om,fun t s' ht=>?_,q1,fun b hb=>hM b hb.1,q2,q3⟩;have ⟨s,q1,q2⟩:=heg t s' ht;exact q2.rs hH (he t s q1)
def a9j (ρ:List (Option Nat)) (H:Hp) (s s':S):Prop:=
 match s' with
 |.tup ss'=>match s with
  |.tup ss=>a0A ρ H ss ss'
  |_=>False
 |s'=>a7H ρ H s s'
structure Fin (n0:Nat) (r:S) (H1:Hp) (s:S) (H':Hp):Prop where
 out:∃ρ,a3d ρ n0=true/\Z5 ρ H'=true/\a4w ρ H1 ρ H'/\a9j ρ H1 r s
def a9j.rs {w:World} {ι:Io} {M:Ms} {ρ:List (Option Nat)} {H:Hp} (hH:v5 w ι M H) {s s':S} {v:Value} (h:a9j ρ H s s') (hr:RS w ι M s v):RS w (X2 ρ ι) (a9s ρ H ι M) s' v:=by
 cases s' with
 |tup ss'=>
  cases s with
  |tup ss=>
   cases hr with
   |tup vs hl hr=>
    have ⟨h1,h2⟩:=a0A.rel h;refine .tup vs om fun j s hj=>?_
    have ⟨s0,q1,q2⟩:=h2 j s hj;exact q2.rs hH (hr j s0 q1)
  |_=>exact False.elim h
 |_=>exact a7H.rs hH h hr
def n8 {r s:S} {H1:Hp} (h:a9j [] H1 r s):Fin 0 r H1 s []:=⟨[],rfl,rfl,trivial,h⟩
def b8Z {P : Program} {τ : Tab} (hτ : G7 P τ) {f : FuncId} {fn : Func} {c : Code} {args : List S} {H : Hp} {s : S} {H' : Hp} (hf : P.funcs[f]? = some fn) (hb : fn.body = some c) (hn : fn.name ≠ "runtime.NumGoroutine")
    (h:a5V P τ H.length c (args++List.replicate (fn.ntmps - args.length) .junk) H fun x env' H1=>match x with
      |.exit _=>False
      |_=>a9x τ fn env' H1 fun r=>Fin H.length r H1 s H'):e8 P f args H s H':=by
  refine ⟨⟨fn,hf,by rw [hb];rfl,hn⟩,fun w ι M vals hl hr hH hM hF=>?_⟩;refine calls_of_wp hf hb ?_;have hi:=Sim.init hl hr hH hM hF (fn.ntmps - args.length);have:=(t4 hτ c h).out w ι M H _ w rfl hM hi;have e:vals.toArray.size=args.length:=by simpa using hl
  rw [e];refine wp_mono this ?_;rintro e a' w' ⟨x,env',H1,rfl,hq,ι',M',hd,hsz,he,hH',hM',hF',hst⟩;have key:(a9x τ fn env' H1 fun r=>Fin H.length r H1 s H')->a'.defers=[]/\∃v,(results fn a'.tmps).run P w'=.ok v w'/\∃v',Ending.returned v=.returned v'/\K7 w ι M H s H' v' w':=by
   intro hq;refine ⟨hd,?_⟩;have ⟨l,hk,vs,h1,h2,h3⟩:=a8O hτ he hH' fn.results.toList hq;have hrun:∃v,(results fn a'.tmps).run P w'=.ok v w'/\v=(if h:vs.length=1 then vs[0] else .tuple vs.toArray):=by
    refine ⟨_,?_,rfl⟩;unfold results;rw [Array.mapM_eq_mapM_toList,Sem.run_bind,Sem.run_map];refine (congrArg (fun r=>Result.andThen (Result.andThen r _) _) h1).trans ?_;simp
   obtain ⟨v,hv1,rfl⟩:=hrun;refine ⟨_,hv1,_,rfl,?_⟩;have hsr:∃r,RS w' ι' M' r (if h:vs.length=1 then vs[0] else .tuple vs.toArray)/\Fin H.length r H1 s H':=by
    match l,hk,h2,h3 with
    |[s1],hk,h2,h3=>
     refine ⟨s1,?_,hk⟩;rw [dif_pos (by simpa using h2)];have:=h3 0 s1 rfl;rw [lbl,lbf (by simp at h2;omega)] at this;exact this
    |[],hk,h2,h3=>
     refine ⟨_,?_,hk⟩;rw [dif_neg (by simp at h2;simp [h2])];exact .tup vs h2 h3
    |s1::s2::r,hk,h2,h3=>
     refine ⟨_,?_,hk⟩;rw [dif_neg (by simp at h2;omega)];exact .tup vs h2 h3
   have ⟨r,h4,ρ,f1,f2,f3,f4⟩:=hsr;have ⟨g1,g2,g3⟩:=a4w.all f1 f2 f3 rfl hM hH' hst;exact ⟨X2 ρ ι',_,f4.rs hH' h4,g1,fun b hb=>hM' b hb.1,g2,g3⟩
  cases x with
  |normal=>exact key hq
  |ret=>exact key hq
  |exit id=>exact hq.elim
def a2J (p:Nat->Prop) (h:∃n,p n):∃n,p n/\∀m,p m->n<=m:=by
 have ⟨n,hn⟩:=h;induction n using Nat.strongRecOn with
 |_ n ih=>
  by_cases hex:∃m,m<n/\p m
  ·have ⟨m,hm,hp⟩:=hex;exact ih m hm hp
  ·exact ⟨n,hn,fun m hm=>aX4 fun hlt=>hex ⟨m,hlt,hm⟩⟩
def a9Q {P:Program} {n0:Nat} {c:Code} {env:Env} {H:Hp} {Q:AX->Env->Hp->Prop} {σ:Type} (E:σ->Env × Hp) (μ:σ->Nat) (x0:σ) (ρ0:List (Option Nat))
 (h0:Ent n0 ρ0 env H (E x0).1 (E x0).2)
 (round:∀x,Awp P n0 c (E x).1 (E x).2 fun a env' H'=>match a with
   |.normal=>∃ρ x',Ent n0 ρ env' H' (E x').1 (E x').2/\μ x'<μ x
   |a=>Q a env' H'):Awp P n0 (.loop c) env H Q:=by
 refine ⟨fun w0 ι0 M0 H0 a w hn hM hs=>?_⟩;have hs0:=h0.sim hn hM hs
 let I:Act->World->Prop:=fun a w=>∃x,Sim w0 ι0 M0 H0 a w (E x).1 (E x).2
 let J:Act->World->Nat->Prop:=fun a w n=>∃x,μ x=n/\Sim w0 ι0 M0 H0 a w (E x).1 (E x).2
 have hJ:∀a w,I a w->∃n,J a w n:=fun a w ⟨x,hx⟩=>⟨μ x,x,rfl,hx⟩
 classical
 let m:Act->World->Nat:=fun a w=>if h:∃n,J a w n then Classical.choose (a2J _ h) else 0
 have hmin:∀a w x,Sim w0 ι0 M0 H0 a w (E x).1 (E x).2->m a w<=μ x:=fun a w x hx=>by
  have h:∃n,J a w n:=⟨μ x,x,rfl,hx⟩;show (if h:∃n,J a w n then Classical.choose (a2J _ h) else 0)<=μ x;rw [dif_pos h];exact (a8k (a2J _ h)).2 _ ⟨x,rfl,hx⟩
 refine wp_loop I m ⟨x0,hs0⟩ fun a w hI=>?_
 have hex:=hJ a w hI;have hm:m a w=Classical.choose (a2J _ hex):=by
  show (if h:∃n,J a w n then Classical.choose (a2J _ h) else 0)=_;rw [dif_pos hex]
 have ⟨x,hx1,hx2⟩:=(a8k (a2J _ hex)).1;have hr:=(round x).out w0 ι0 M0 H0 a w hn hM hx2;refine wp_mono hr ?_;rintro e a' w' ⟨ax,env',H',rfl,hq,hs'⟩;cases ax with
 |normal=>
  have ⟨ρ,x',h1,h2⟩:=hq;have hs2:=h1.sim hn hM hs';refine ⟨⟨x',hs2⟩,?_⟩;have:=hmin a' w' x' hs2;omega
 |exit id=>exact ⟨_,env',H',rfl,hq,hs'⟩
 |ret=>exact ⟨_,env',H',rfl,hq,hs'⟩
def k6 {P:Program} {τ:Tab} (hτ:G7 P τ) {n0:Nat} {c:Code} {env:Env} {H:Hp} {Q:AX->Env->Hp->Prop} (E:Nat->Env × Hp) (n:Nat) (I:Nat->Prop) (ρ0:List (Option Nat))
 (hI:I 0) (h0:Ent n0 ρ0 env H (E 0).1 (E 0).2)
 (round:∀k,k<=n->I k->a5V P τ n0 c (E k).1 (E k).2 fun a env' H'=>match a with
   |.normal=>k<n/\I (k+1)/\∃ρ,Ent n0 ρ env' H' (E (k+1)).1 (E (k+1)).2
   |a=>Q a env' H'):Awp P n0 (.loop c) env H Q:=by
 refine a9Q (σ:={ k:Nat // k<=n/\I k }) (fun k=>E k.1) (fun k=>n - k.1) ⟨0,G0 _,hI⟩ ρ0 h0 ?_;rintro ⟨k,hk,hi⟩;refine (t4 hτ c (round k hk hi)).mono ?_;intro a env' H' h;cases a with
 |normal=>
  have ⟨h1,h2,ρ,h3⟩:=h;exact ⟨ρ,⟨k+1,h1,h2⟩,h3,by show n - (k+1)<n - k;omega⟩
 |exit id=>exact h
 |ret=>exact h
def T8 {n m:Int} {K:Prop} (h0:0<=n) (h1:n<m) (k:K):(0<=n/\n<m)/\K:=⟨⟨h0,h1⟩,k⟩
def j4 {α:Type} {xs:List α} {f:α->List T} {k:Nat} {x:α} {K:List T->Prop} (hx:xs[k]? =some x) (h:K (f x)):∃row,0<=(k:Int)/\(xs.map f)[(k:Int).toNat]? =some row/\K row:=
 ⟨f x,om,by simp [hx],h⟩
def K6 {α:Type} {xs:List α} {f:α->List T} {n:Int} {x:α} {K:List T->Prop} (h0:0<=n) (hx:xs[n.toNat]? =some x) (h:K (f x)):∃row,0<=n/\(xs.map f)[n.toNat]? =some row/\K row:=
 ⟨f x,h0,by simp [hx],h⟩
def T.flat:T->Bool
 |.atm _=>true
 |_=>false
def C.flat:C->Bool
 |.t x=>x.flat
 |_=>false
def S.flat:S->Bool
 |.junk=>true
 |.c x=>x.flat
 |.agg cs=>cs.all C.flat
 |.tup ss=>ss.all fun s=>match s with
  |.c x=>x.flat
  |.agg cs=>cs.all C.flat
  |.junk=>true
  |.tup _=>false
def RC.flat {w:World} {ι ι':Io} {M M':Ms} {x:C} {v:Value} (h:x.flat=true) (hr:RC w ι M x v):RC w ι' M' x v:=by
 cases hr with
 |t hr=>cases hr with
  |atm hv=>exact .t (.atm hv)
  |_=>cases h
 |_=>cases h
def RS.flat1 {w:World} {ι ι':Io} {M M':Ms} {s:S} {v:Value} (h:(match s with|.c x=>x.flat|.agg cs=>cs.all C.flat|.junk=>true|.tup _=>false)=true) (hr:RS w ι M s v):RS w ι' M' s v:=by
 cases hr with
 |junk=>exact .junk
 |c hr=>exact .c (hr.flat h)
 |agg vs hl hr=>exact .agg vs hl fun j c hj=>(hr j c hj).flat (lbv.1 h c (lbm hj))
 |tup vs hl hr=>cases h
def RS.flat {w:World} {ι ι':Io} {M M':Ms} {s:S} {v:Value} (h:s.flat=true) (hr:RS w ι M s v):RS w ι' M' s v:=by
 cases hr with
 |junk=>exact .junk
 |c hr=>exact .c (hr.flat h)
 |agg vs hl hr=>exact .agg vs hl fun j c hj=>(hr j c hj).flat (lbv.1 h c (lbm hj))
 |tup vs hl hr=>exact .tup vs hl fun j s hj=>(hr j s hj).flat1 (lbv.1 h s (lbm hj))
def v5.none {w:World} {M:Ms}:v5 w (fun _=>Option.none) M []:=⟨zq,zq,zq,zq,zq⟩
def a1W {P:Program} {g:FuncId} {args args':List S} {H:Hp} {r:S} (h:e8 P g args' [] r []) (ha:a7X H (fun _=>False) args args') (hr:r.isT=true):a0x P g args H r []:=by
 refine ⟨h.1,fun w ι M vals hl hv hH hM hf=>?_⟩;have ⟨hlen,hget⟩:=a7X.get ha;have:=h.2 w (fun _=>none) M vals om (fun j s hj=>by
  have ⟨x,hx,hs⟩:=hget j s hj;exact hs.rs hH (fun _ h=>h) (fun _ _ _ _ _ h _ _ _ _=>h.elim) (hv j x hx))
  .none hM (fun _ _=>rfl)
 refine Calls.mono this ?_;rintro e w' ⟨v,rfl,ι',M',h1,h2,h3,h4,h5⟩;refine ⟨v,rfl,P4.of_none ?_ ?_⟩
 ·refine RS.keep (ι:=ι) (M:=M') (fun _ _ _=>rfl) (fun b hb=>?_) (fun _ _ h=>h) (h1.tree hr);rcases h5.mold b hb with h|⟨id,k,_,_,hk,_⟩
  ·exact .inl h
  ·simp at hk
 ·exact ⟨h5.os,h5.tape,h5.output,h5.size,fun b hb=>h5.keep b hb zB⟩
def aW0 (fr:List Nat) (n:Nat) (k:Blk):Blk:=match fr.any (Nat.beq n),k.mode with
 |true,.live=>{ k with mode:=.froz }
 |_,_=>k
def a3E (fr:List Nat):Nat->Hp->Hp
 |_,[]=>[]
 |n,k::r=>aW0 fr n k::a3E fr (n+1) r
abbrev bg0 (fr:List Nat) (H:Hp):Hp:=a3E fr 0 H
def ah4 (fr:List Nat):∀(H:Hp) (n i:Nat),(a3E fr n H)[i]? =(H[i]?).map (aW0 fr (n+i))
 |[],n,i=>by simp [a3E]
 |k::r,n,0=>by simp [a3E]
 |k::r,n,i+1=>by simp [a3E,ah4 fr r (n+1) i,show n+1+i=n+(i+1) by omega]
def a2V (fr:List Nat):∀(H:Hp) (n:Nat),(a3E fr n H).length=H.length
 |[],n=>rfl
 |k::r,n=>by simp [a3E,a2V fr r (n+1)]
def a0i {fr:List Nat} {H:Hp} {id:Nat} {k':Blk} (h:(bg0 fr H)[id]? =some k'):∃k,H[id]? =some k/\k'.elem=k.elem/\k'.size=k.size/\k'.rows=k.rows/\
 ((k'=k/\(id ∉ fr\/k.mode≠.live))\/(id ∈ fr/\k.mode=.live/\k'.mode=.froz)):=by
 rw [ah4,W7] at h;cases hk:H[id]? with
 |none=>rw [hk] at h;cases h
 |some k=>
  rw [hk] at h;injection h with h;refine ⟨k,rfl,?_⟩;subst h;unfold aW0;split
  ·rename_i h1 h2;have ⟨x,hx,hb⟩:=lbw.1 h1;have:=a1A hb;subst this;exact ⟨rfl,rfl,rfl,.inr ⟨hx,h2,rfl⟩⟩
  ·rename_i h1;refine ⟨rfl,rfl,rfl,.inl ⟨rfl,?_⟩⟩;by_cases hm:k.mode=.live
   ·refine .inl fun hi=>h1 ?_ hm
    exact lbw.2 ⟨id,hi,zq⟩
   ·exact .inr hm
def C9 {P:Program} {g:FuncId} {args args':List S} {H:Hp} {r:S} (fr:List Nat) (h:e8 P g args' [] r []) (ha:a7X H (· ∈ fr) args args') (hr:r.isT=true):e8 P g args H r (bg0 fr H):=by
 refine ⟨h.1,fun w ι M vals hl hv hH hM hf=>?_⟩;have ⟨hlen,hget⟩:=a7X.get ha
 let M0:Ms:=fun b=>M b/\¬∃id k cap size,id ∈ fr/\H[id]? =some k/\k.mode=.live/\ι id=some (.blk b cap size)
 have hM0:∀b,M0 b->M b:=fun b hb=>hb.1
 have:=h.2 w (fun _=>none) M0 vals om (fun j s hj=>by
  have ⟨x,hx,hs⟩:=hget j s hj;refine hs.rs hH hM0 ?_ (hv j x hx);intro id k b cap size hp hk hd hi hb;cases hm:k.mode with
  |live=>exact hb.2 ⟨id,k,cap,size,hp,hk,hm,hi⟩
  |froz=>exact hH.fro id k hk hm b cap size hi hb.1
  |old=>exact hd (by rw [hm];trivial)
  |dead=>exact hd (by rw [hm];trivial))
  .none (fun b hb=>hM b hb.1) (fun _ _=>rfl)
 refine Calls.mono this ?_;rintro e w' ⟨v,rfl,ι',M',h1,h2,h3,h4,h5⟩;have hkeep:∀b,b<w.heap.size->w'.heap[b]? =w.heap[b]?:=fun b hb=>h5.keep b hb zB
 have hold:∀b,M0 b->M' b:=fun b hb=>by
  rcases h5.mold b hb with h|⟨id,k,_,_,hk,_⟩
  ·exact h
  ·simp at hk
 refine ⟨v,rfl,ι,M',?_,⟨?_,?_,?_,?_,?_⟩,h3,?_,?_⟩
 ·exact h1.tree hr
 ·intro id k' hk' hd l hll;have ⟨k,hk,e1,e2,e3,hc⟩:=a0i hk';have hd':k.mode≠.dead:=by
   rcases hc with ⟨rfl,_⟩|⟨_,h,_⟩
   ·exact hd
   ·rw [h];intro h;cases h
  have hb:=hH.blk id k hk hd' l hll;cases l with
  |nil=>show k'.rows=[];rw [e3];exact hb
  |blk b cap size=>
   have ⟨q1,q2,q3,q4,q5,cur,q6,q7,q8⟩:=hb;refine ⟨by rw [e2];exact q1,q2,by rw [e3];exact q3,q4,by rw [e3];exact q5,cur,by rw [e1];exact (hkeep b (C2 q6)).trans q6,q7,fun i j c hc=>?_⟩;rw [e3] at hc;have ⟨u,hu,hr⟩:=q8 i j c hc;refine ⟨u,hu,hr.keep (fun b hb _=>hkeep b hb) (fun b hb=>?_) (fun _ _ h=>h)⟩;rcases h5.mnew b hb with h|h
   ·exact .inl h.1
   ·exact .inr h
 ·intro id k' hk' hl' b cap size hi;have ⟨k,hk,e1,e2,e3,hc⟩:=a0i hk';rcases hc with ⟨rfl,hc⟩|⟨_,_,h⟩
  ·refine hold b ⟨hH.liv id k' hk hl' b cap size hi,?_⟩;rintro ⟨id2,k2,cap2,size2,n1,n2,n3,n4⟩;have:=hH.inj id id2 k' k2 hk n2 hl' n3 _ _ _ _ _ hi n4;subst this;rcases hc with hc|hc
   ·exact hc n1
   ·exact hc hl'
  ·rw [h] at hl';cases hl'
 ·intro id k' hk' hl' b cap size hi hb;have ⟨k,hk,e1,e2,e3,hc⟩:=a0i hk';have hlt:b<w.heap.size:=by
   have hd:k.mode≠.dead:=by
    rcases hc with ⟨rfl,_⟩|⟨_,h,_⟩
    ·rw [hl'];intro h;cases h
    ·rw [h];intro h;cases h
   have ⟨_,_,_,_,_,cur,q6,_⟩:=hH.blk id k hk hd _ hi;exact C2 q6
  rcases h5.mnew b hb with h|h
  ·rcases hc with ⟨rfl,_⟩|⟨n1,n2,_⟩
   ·exact hH.fro id k' hk hl' b cap size hi h.1
   ·exact h.2 ⟨id,k,cap,size,n1,hk,n2,hi⟩
  ·omega
 ·intro id id' k1 k2 hk1 hk2 hm1 hm2;have ⟨k,hk,e1,e2,e3,hc⟩:=a0i hk1;have ⟨k',hk',e1',e2',e3',hc'⟩:=a0i hk2;rcases hc with ⟨rfl,_⟩|⟨_,_,h⟩
  ·rcases hc' with ⟨rfl,_⟩|⟨_,_,h⟩
   ·exact hH.inj id id' _ _ hk hk' hm1 hm2
   ·rw [h] at hm2;cases hm2
  ·rw [h] at hm1;cases hm1
 ·intro id id' k1 k2 hk1 hk2 hm1 hm2;have ⟨k,hk,e1,e2,e3,hc⟩:=a0i hk1;have ⟨k',hk',e1',e2',e3',hc'⟩:=a0i hk2;rcases hc with ⟨rfl,_⟩|⟨_,_,h⟩
  ·rcases hc' with ⟨rfl,_⟩|⟨_,_,h⟩
   ·exact hH.old id id' _ _ hk hk' hm1 hm2
   ·rw [h] at hm2;cases hm2
  ·rw [h] at hm1;cases hm1
 ·rw [a2V];exact hf
 ·refine ⟨h5.os,h5.tape,h5.output,h5.size,fun b hb _=>hkeep b hb,fun _ _=>rfl,?_,?_,?_,by rw [a2V];exact lbR _⟩
  ·intro b hb;rcases h5.mnew b hb with h|h
   ·exact .inl h.1
   ·exact .inr h
  ·intro b hb;by_cases hx:∃id k cap size,id ∈ fr/\H[id]? =some k/\k.mode=.live/\ι id=some (.blk b cap size)
   ·have ⟨id,k,cap,size,n1,n2,n3,n4⟩:=hx;exact .inr ⟨id,k,cap,size,n2,n3,n4⟩
   ·exact .inl (hold b ⟨hb,hx⟩)
  ·rintro b ⟨id,k',cap,size,hk',hl',hi⟩;have ⟨k,hk,e1,e2,e3,hc⟩:=a0i hk';rcases hc with ⟨rfl,_⟩|⟨_,_,h⟩
   ·exact .inl ⟨id,k',cap,size,hk,hl',hi⟩
   ·rw [h] at hl';cases hl'
def v8 {len m n b:Nat} {K:Prop} (h1:len<=m) (h2:(len+n)*b<=140737488355328) (k:K):(len<=m/\(len+n)*b<=140737488355328)/\K:=⟨⟨h1,h2⟩,k⟩
def b95 {α:Type} {xs:List α} {a b:Nat} {K:Prop} (h:a=b) (k:K):(xs.length=0\/a=b)/\K:=⟨.inr h,k⟩
def b1h {rows:List (List T)} {r:List T}:(toC rows).take rows.length++toC [r]=toC (rows++[r]):=by
 rw [lbn zt];simp [toC]
def b8v {ops:List Oper} {K:List Oper->Prop} (h:a9f ops=true) (k:K ops):b6S ops K:=⟨⟨none,rfl,h,k⟩⟩
def ax8 {ops:List Oper} {K:List Oper->Prop} (π:List Nat) (h:a9f (a0M π ops)=true) (h2:aP0 π ops.length=true) (k:K (a0M π ops)):b6S ops K:=⟨⟨some π,h2,h,k⟩⟩
def bf8 {P:Program} {τ:Tab} {env:Env} {H':Hp} {ops:List Oper} {i:Nat} {K:Prop} (h:N8 ops i=true) (h2:a18 ops i=[]) (k:K):N8 ops i=true/\∃L,a18 ops i=L/\a3C P τ ops env H' K L:=⟨h,[],h2,k⟩
def b7r {P:Program} {τ:Tab} {env:Env} {H':Hp} {ops:List Oper} {i:Nat} {K:Prop} (L:List Nat) (h:N8 ops i=true) (h2:a18 ops i=L) (k:a3C P τ ops env H' K L):N8 ops i=true/\∃L,a18 ops i=L/\a3C P τ ops env H' K L:=⟨h,L,h2,k⟩
def b4d {s:S} {B:List Blk} {s':S} {K:Prop} (h1:B=[]) (h2:s=s') (k:K):(B=[]/\s=s')/\K:=⟨⟨h1,h2⟩,k⟩
def b7E {rl xl sz ds b:Nat} {K:Prop} (h1:0<xl) (h2:sz=ds) (h3:(rl+xl)*b<=140737488355328) (k:K):((rl=0\/(0<xl/\sz=ds))/\(rl+xl)*b<=140737488355328)/\K:=⟨⟨.inr ⟨h1,h2⟩,h3⟩,k⟩
def R9 {rl xl sz ds b:Nat} {K:Prop} (h1:rl=0) (h3:(rl+xl)*b<=140737488355328) (k:K):((rl=0\/(0<xl/\sz=ds))/\(rl+xl)*b<=140737488355328)/\K:=⟨⟨.inl h1,h3⟩,k⟩
def N7 {α:Type} {xs:List α} {f:α->List T} {n:Int} {k:Nat} {x:α} {K:List T->Prop} (e:n=k) (hx:xs[k]? =some x) (h:K (f x)):∃row,0<=n/\(xs.map f)[n.toNat]? =some row/\K row:=by
 subst e;exact j4 hx h
def ap2 {a b:Int} {K:Prop} (h:a≠b) (k:K):a≠b/\K:=⟨h,k⟩
def aK3 {l h m:Int} {K:Prop} (h1:0<=l) (h2:l<=h) (h3:h<=m) (k:K):(0<=l/\l<=h/\h<=m)/\K:=⟨⟨h1,h2,h3⟩,k⟩
def N6 {id len:Nat} {app:Bool} {H1:Hp} {rows:List (List T)} {size:Nat} {k:Blk} (hk:H1[id]? =some k) (hd:¬k.mode.gone) (hs:k.size=size) (hc:k.rows=toC rows) (hl:len=rows.length):
 Fin 0 (.c (.own id 0 len app)) H1 (.c (.t (.sl size .any rows))) []:=n8 (show VC H1 _ _ _ from v7 rfl hk hd hs hc hl)
def t6 {ρ:List (Option Nat)} {H:Hp} {id id' len len':Nat} (h:ρ[id']? =some (some id)) (hl:len=len'):a7H ρ H (.c (.own id 0 len true)) (.c (.own id' 0 len' true)):=⟨h,rfl,hl,fun h=>h⟩
def j2 (rows:List (List T)):L6 (toC rows):=by
 intro r hr c hc;obtain ⟨r',_,rfl⟩:=lbx.1 hr;obtain ⟨c',_,rfl⟩:=lbx.1 hc
 rfl
def i6 {ρ:List (Option Nat)} {H:Hp} {k k':Blk} {rows:List (List T)} (h1:a45 k k'=true) (h2:k.elem=k'.elem) (h3:k.size=k'.size) (h4:k.rows=toC rows) (h5:k'.rows=toC rows):a3o ρ H k k':=
 ⟨h1,h2,h3,.inl ⟨h4.trans h5.symm,h4 ▸ j2 rows⟩⟩
def b8o {H:Hp} {p:Nat->Prop}:∀ts:List T,VL H p (ts.map C.t) ts
 |[]=>bf7
 |t::r=>a7e (av7 (a1Q t)) (b8o r)
def bA0 {H:Hp} {p:Nat->Prop} (ts:List T):VS H p (.agg (ts.map C.t)) (.agg (ts.map C.t)):=bF7 (b8o ts)
def aZ8 {H:Hp} {p:Nat->Prop} {x:T}:VS H p (.c (.t x)) (.c (.t x)):=a2f (av7 (a1Q x))
abbrev vS:Value:=.slice none 0 0
abbrev vI:Value:=.int .i64 0
abbrev tF:Option TD:=some ⟨.bas,false,1,8,[.nilFunc]⟩
abbrev tS (n:Nat):Option TD:=some ⟨.slice n,false,1,24,[vS]⟩
def bU9:List (Option TD):=[none,tF,some ⟨.int .i64,false,1,8,[vI]⟩,some ⟨.int .i64,false,1,8,[vI]⟩,some ⟨.bool,false,1,1,[.bool false]⟩,some ⟨.int .u8,false,1,1,[.int .u8 0]⟩,some ⟨.int .u8,false,1,1,[.int .u8 0]⟩,some ⟨.struct [(0,1,false),(1,1,false),(2,1,false),(3,1,false)],true,4,24,[vI,vI,.bool false,.int .u8 0]⟩,some ⟨.struct [(0,1,false),(1,1,false),(2,1,false),(3,1,false)],true,4,24,[vI,vI,.bool false,.int .u8 0]⟩,none,none,none,some ⟨.int .u64,false,1,8,[.int .u64 0]⟩,none,none,some ⟨.bas,false,1,8,[.pointer none]⟩,some ⟨.bas,false,1,8,[.pointer none]⟩,some ⟨.bas,false,1,8,[.pointer none]⟩,some ⟨.struct [(0,1,false)],true,1,8,[.pointer none]⟩,some ⟨.struct [(0,1,false)],true,1,8,[.pointer none]⟩,none,some ⟨.int .i32,false,1,4,[.int .i32 0]⟩,tS 51,tS 53,tS 107,tS 109,tS 111,some ⟨.struct [(0,1,false),(1,1,false),(2,1,false),(3,1,false),(4,1,false),(5,1,false),(6,1,false),(7,1,false)],true,8,144,[vI,vI,vI,vS,vS,vS,vS,vS]⟩,some ⟨.struct [(0,1,false),(1,1,false),(2,1,false),(3,1,false),(4,1,false),(5,1,false),(6,1,false),(7,1,false)],true,8,144,[vI,vI,vI,vS,vS,vS,vS,vS]⟩,tS 55,tS 60,some ⟨.struct [(0,8,false),(8,1,false),(9,1,false)],true,10,192,[vI,vI,vI,vS,vS,vS,vS,vS,vS,vS]⟩,some ⟨.struct [(0,8,false),(8,1,false),(9,1,false)],true,10,192,[vI,vI,vI,vS,vS,vS,vS,vS,vS,vS]⟩,tS 3,tF,tF,some ⟨.int .i64,false,1,8,[vI]⟩,none,tF,none,tF,tF,tF,tF,tS 33,none,tF,tS 32,tF,tF,some ⟨.struct [(0,1,false),(1,1,false),(2,1,false)],true,3,24,[vI,vI,vI]⟩,some ⟨.struct [(0,1,false),(1,1,false),(2,1,false)],true,3,24,[vI,vI,vI]⟩,some ⟨.struct [(0,1,false),(1,1,false),(2,1,false),(3,1,false),(4,1,false),(5,1,false)],true,6,48,[vI,vI,vI,vI,vI,.bool false]⟩,some ⟨.struct [(0,1,false),(1,1,false),(2,1,false),(3,1,false),(4,1,false),(5,1,false)],true,6,48,[vI,vI,vI,vI,vI,.bool false]⟩,some ⟨.struct [(0,1,false),(1,1,false),(2,1,false)],true,3,24,[vI,vI,vI]⟩,some ⟨.struct [(0,1,false),(1,1,false),(2,1,false)],true,3,24,[vI,vI,vI]⟩,tF,tF,tF,some ⟨.struct [(0,1,false),(1,1,false)],true,2,16,[vI,vI]⟩,some ⟨.struct [(0,1,false),(1,1,false)],true,2,16,[vI,vI]⟩,tF,tF,tF,tS 91,some ⟨.struct [(0,1,false),(1,1,false)],true,2,32,[vI,vS]⟩,some ⟨.struct [(0,1,false),(1,1,false)],true,2,32,[vI,vS]⟩,none,tF,tF,tF,tF,none,tF,tF,tF,tF,tF,tF,tF,tF,tF,tF,tF,tF,tS 118,some ⟨.struct [(0,1,false),(1,1,false)],true,2,32,[vI,vS]⟩,some ⟨.struct [(0,1,false),(1,1,false)],true,2,32,[vI,vS]⟩,some ⟨.struct [(0,2,false),(2,2,false)],true,4,64,[vI,vS,vI,vS]⟩,some ⟨.struct [(0,2,false),(2,2,false)],true,4,64,[vI,vS,vI,vS]⟩,some ⟨.struct [(0,1,false),(1,1,false),(2,4,false)],true,6,96,[vS,vI,vI,vS,vI,vS]⟩,some ⟨.struct [(0,1,false),(1,1,false),(2,4,false)],true,6,96,[vS,vI,vI,vS,vI,vS]⟩,tF,none,tF,tF,tF,tS 89,some ⟨.struct [(0,1,false),(1,4,false),(5,1,false),(6,1,false),(7,1,false)],true,8,144,[vI,vI,vS,vI,vS,vS,vS,vS]⟩,some ⟨.struct [(0,1,false),(1,4,false),(5,1,false),(6,1,false),(7,1,false)],true,8,144,[vI,vI,vS,vI,vS,vS,vS,vS]⟩,none,tF,some ⟨.arr 2 3,true,2,16,[vI,vI]⟩,tS 102,tF,tF,some ⟨.struct [(0,1,false),(1,1,false),(2,1,false),(3,1,false),(4,1,false),(5,1,false)],true,6,48,[vI,vI,vI,vI,vI,vI]⟩,some ⟨.struct [(0,1,false),(1,1,false),(2,1,false),(3,1,false),(4,1,false),(5,1,false)],true,6,48,[vI,vI,vI,vI,vI,vI]⟩,some ⟨.struct [(0,1,false),(1,1,false)],true,2,16,[vI,vI]⟩,some ⟨.struct [(0,1,false),(1,1,false)],true,2,16,[vI,vI]⟩,some ⟨.struct [(0,1,false),(1,1,false),(2,1,false),(3,1,false)],true,4,32,[vI,vI,vI,vI]⟩,some ⟨.struct [(0,1,false),(1,1,false),(2,1,false),(3,1,false)],true,4,32,[vI,vI,vI,vI]⟩,tS 116,none,tF,some ⟨.struct [(0,1,false),(1,1,false),(2,1,false),(3,1,false),(4,1,false)],true,5,88,[vI,vI,vS,vS,vS]⟩,some ⟨.struct [(0,1,false),(1,1,false),(2,1,false),(3,1,false),(4,1,false)],true,5,88,[vI,vI,vS,vS,vS]⟩,some ⟨.struct [(0,1,false),(1,4,false)],true,5,72,[vI,vI,vS,vI,vS]⟩,some ⟨.struct [(0,1,false),(1,4,false)],true,5,72,[vI,vI,vS,vI,vS]⟩,tF,tS 123,tF,some ⟨.struct [(0,4,false),(4,1,false),(5,1,false),(6,1,false)],true,7,104,[vI,vS,vI,vS,.bool false,vS,vI]⟩,some ⟨.struct [(0,4,false),(4,1,false),(5,1,false),(6,1,false)],true,7,104,[vI,vS,vI,vS,.bool false,vS,vI]⟩,tF,tF,tF,tF,tF,tF,tF,tF,tF,none,tF,tF,tF,tF,tF,tF,none,tF,tF,some ⟨.bas,false,1,8,[.pointer none]⟩,tF,none,tF,tF,tF,none,tF,tF,tF,tF,tF,tF,tF,tF,tF,tF,tF,tF,tF,tF,none,tF,tF,tF,tF,tF,tF,tF,tS 87,tS 172,some ⟨.struct [(0,1,false),(1,1,false),(2,1,false),(3,2,false),(5,1,false),(6,1,false),(7,1,false),(8,1,false),(9,1,false),(10,2,false)],true,12,256,[vS,vS,vS,vI,vS,vS,vS,vS,vS,vS,vI,vS]⟩,some ⟨.struct [(0,1,false),(1,1,false),(2,1,false),(3,2,false),(5,1,false),(6,1,false),(7,1,false),(8,1,false),(9,1,false),(10,2,false)],true,12,256,[vS,vS,vS,vI,vS,vS,vS,vS,vS,vS,vI,vS]⟩,tF,tF,tF,tF,tF,tF,tF,tF,tF,tF,tF,some ⟨.int .u64,false,1,8,[.int .u64 0]⟩,some ⟨.int .u64,false,1,8,[.int .u64 0]⟩,tF,some ⟨.bas,false,1,8,[.pointer none]⟩,tF,tF,tF,tF,tF,tF,none,tF,tF,none,tF,tF,tF,tF,tF,tF,tF,tF,tS 216,tS 229,some ⟨.struct [(0,1,false),(1,1,false),(2,1,false),(3,1,false),(4,1,false),(5,1,false)],true,6,128,[vI,vS,vS,vS,vS,vS]⟩,some ⟨.struct [(0,1,false),(1,1,false),(2,1,false),(3,1,false),(4,1,false),(5,1,false)],true,6,128,[vI,vS,vS,vS,vS,vS]⟩,tF,tF,some ⟨.struct [(0,4,false),(4,1,false)],true,5,88,[vI,vS,vI,vS,vS]⟩,some ⟨.struct [(0,4,false),(4,1,false)],true,5,88,[vI,vS,vI,vS,vS]⟩,tF,tF,tF,tF,tF,none,tF,tF,tF,tF,tF,some ⟨.struct [(0,1,false),(1,1,false)],true,2,16,[vI,.bool false]⟩,some ⟨.struct [(0,1,false),(1,1,false)],true,2,16,[vI,.bool false]⟩,some ⟨.bas,false,1,8,[.pointer none]⟩,tF,tF,tF,tF,none,tF,tF,tF,none,none,some ⟨.arr 0 16,true,0,0,[]⟩,some ⟨.struct [(0,0,false)],true,0,0,[]⟩,some ⟨.struct [(0,0,false)],true,0,0,[]⟩,some ⟨.int .u32,false,1,4,[.int .u32 0]⟩,some ⟨.int .u8,false,1,1,[.int .u8 0]⟩,some ⟨.int .u8,false,1,1,[.int .u8 0]⟩,tF,some ⟨.bas,false,1,8,[.pointer none]⟩,some ⟨.int .i32,false,1,4,[.int .i32 0]⟩,some ⟨.int .i32,false,1,4,[.int .i32 0]⟩,some ⟨.struct [(0,1,false),(1,1,false),(2,1,false),(3,1,false),(4,1,false),(5,1,false),(6,1,false),(7,1,false),(8,1,false),(9,1,false),(10,1,false)],true,11,48,[.int .u64 0,.int .u64 0,.int .u32 0,.int .u8 0,.int .u8 0,.int .u8 0,.int .u8 0,.nilFunc,.pointer none,.int .i32 0,.int .i32 0]⟩,some ⟨.struct [(0,1,false),(1,1,false),(2,1,false),(3,1,false),(4,1,false),(5,1,false),(6,1,false),(7,1,false),(8,1,false),(9,1,false),(10,1,false)],true,11,48,[.int .u64 0,.int .u64 0,.int .u32 0,.int .u8 0,.int .u8 0,.int .u8 0,.int .u8 0,.nilFunc,.pointer none,.int .i32 0,.int .i32 0]⟩,tF,none]
def tab:Tab:=fun t=>bU9.getD t none
def tq {P:Program} {t:TypeId} {d:TD} (h1:bE2 P t=some d.k:=by kernel_rfl) (h2:d.agg=bR2 d.k:=by rfl) (h3:(P.info? t).map (fun i=>(i.zero.map (·.cells.toList),i.size,i.bytes))=some (some d.zero,d.size,d.bytes):=by kernel_rfl) (h4:d.zero.all (·.oneCell')=true:=by rfl) (h5:d.zero.length=d.size:=by rfl):aQ3 P t d:=bP4 h1 h2 h3 h4 h5
theorem zr {p:Prop} (h:p:=by kernel_rfl):p:=h
def g8:G7 Tryz.prog tab:=be6 (l:=bU9) zr ⟨tq,tq,tq,tq,tq,tq,tq,tq,tq,tq,tq,tq,tq,tq,tq,tq,tq,tq,tq,tq,tq,tq,tq,tq,tq,tq,tq,tq,tq,tq,tq,tq,tq,tq,tq,tq,tq,tq,tq,tq,tq,tq,tq,tq,tq,tq,tq,tq,tq,tq,tq,tq,tq,tq,tq,tq,tq,tq,tq,tq,tq,tq,tq,tq,tq,tq,tq,tq,tq,tq,tq,tq,tq,tq,tq,tq,tq,tq,tq,tq,tq,tq,tq,tq,tq,tq,tq,tq,tq,tq,tq,tq,tq,tq,tq,tq,tq,tq,tq,tq,tq,tq,tq,tq,tq,tq,tq,tq,tq,tq,tq,tq,tq,tq,tq,tq,tq,tq,tq,tq,tq,tq,tq,tq,tq,tq,tq,tq,tq,tq,tq,tq,tq,tq,tq,tq,tq,tq,tq,tq,tq,tq,tq,tq,tq,tq,tq,tq,tq,tq,tq,tq,tq,tq,tq,tq,tq,tq,tq,tq,tq,tq,tq,tq,tq,tq,tq,tq,tq,tq,tq,tq,tq,tq,tq,tq,tq,tq,tq,tq,tq,tq,tq,tq,tq,tq,tq,tq,tq,tq,tq,tq,tq,tq,tq,tq,tq,tq,tq,tq,tq,tq,tq,tq,tq,tq,tq,tq,tq,tq,tq,tq,tq,tq,tq,tq,tq,tq,tq,tq,tq,tq,tq,tq,tq,tq,tq,tq,trivial⟩
structure a0y where
 kind:Int
 hh:Int
 mat:Int
structure C6 where
 day:Int
 src:Int
 dst:Int
 scale:Int
 reading:Int
 all:Bool
structure Q3 where
 scale:Int
 since:Int
 till:Int
 grams:Int
 permille:Int
 drift:Int
structure J5 where
 scale:Int
 since:Int
structure a2w where
 move:Int
 mat:Int
 least:Int
 most:Int
structure Ev where
 mats:Int
 hhs:Int
 scs:Int
 places:List a0y
 moves:List C6
 certs:List Q3
 recalls:List J5
 purities:List a2w
def Rd {α:Type} (k:Nat) (f:α->List Value) (w:World) (A:Option Addr) (n:Nat) (xs:List α):Prop:=
 n=xs.length/\(0<n->∃b off,A=some ⟨b,off,none⟩/\∀i x,xs[i]? =some x->∀j u,(f x)[j]? =some u->w.cell? ⟨b,off+(i*k+j),none⟩=some u)
section
variable {α:Type} {k:Nat} {f:α->List Value} {w w':World} {A:Option Addr} {n:Nat} {xs:List α}
def Rd.nil (A:Option Addr):Rd k f w A 0 ([]:List α):=⟨rfl,fun h=>absurd h om⟩
def Rd.len (h:Rd k f w A n xs):n=xs.length:=h.1
end
section
variable {w w':World} {m h s:Int} {A1 A2 A3 A4 A5:Option Addr} {n1 n2 n3 n4 n5:Nat} {e:Ev}
end
def idx (a b:Int):Bool:=decide (0<=a) && decide (a<b)
def btw (n lo hi:Int):Bool:=decide (lo<=n) && decide (n<=hi)
def b4z (a b:Int):btw a 0 (b - 1)=idx a b:=by
 unfold btw idx;have:decide (a<=b - 1)=decide (a<b):=zo;rw [this]
def aQ9 {a b:Int}:idx a b=true↔0<=a/\a<b:=by simp [idx]
def a0q {a b c:Int}:btw a b c=true↔b<=a/\a<=c:=by simp [btw]
def a3x (e:Ev):Bool:=
 decide (6<e.mats) || decide (100<e.hhs) || decide (30<e.scs) || decide (100<e.places.length) || decide (200<e.moves.length) ||
  decide (100<e.certs.length) || decide (30<e.recalls.length) || decide (200<e.purities.length)
def a0O (e:Ev) (p:a0y):Bool:=
 idx p.kind 7 && (if p.kind=0 then idx p.hh e.hhs && idx p.mat e.mats else decide (p.hh=-1) && decide (p.mat=-1))
def O2 (e:Ev) (i:Int):Int:=((e.places[i.toNat]?).map (·.kind)).getD (-1)
def P1 (e:Ev) (m:C6):Bool:=
 idx m.src e.places.length && idx m.dst e.places.length && decide (m.src≠m.dst) && decide (O2 e m.src≠5) && decide (O2 e m.src≠6) &&
  !(decide (O2 e m.src=0) && m.all) && decide (O2 e m.dst≠0) && (if m.scale=-1 then decide (m.reading=0) else idx m.scale e.scs && btw m.reading 0 1099511627776)
def a54 (e:Ev) (c:Q3):Bool:=
 decide (0<=c.since) && decide (c.since<=c.till) && decide (c.till<=100000) && idx c.scale e.scs && btw c.grams 0 1099511627776 && btw c.permille 0 1000 && btw c.drift 0 10000000
def a1m (e:Ev) (r:J5):Bool:=idx r.scale e.scs && btw r.since 0 100000
def a1g (e:Ev) (p:a2w):Bool:=
 idx p.move e.moves.length && idx p.mat e.mats && decide (0<=p.least) && decide (p.least<=p.most) && decide (p.most<=1000)
def a0X (e:Ev):Bool:=e.certs.all (a54 e) && e.recalls.all (a1m e) && e.purities.all (a1g e)
def E9 (e:Ev):Int->List C6->Int
 |_,[]=>0
 |last,m::r=>if m.day<last\/100000<m.day then 17 else if P1 e m then E9 e m.day r else 1
def I4 (e:Ev):Int:=
 if a3x e then 6 else if e.mats<1\/e.hhs<0\/e.scs<0\/e.places.all (a0O e)=false then 1
 else if E9 e 0 e.moves≠0 then E9 e 0 e.moves else if a0X e then 0 else 1
def aO4 {e:Ev} {i:Nat} {p:a0y} (h:e.places[i]? =some p):O2 e (i:Int)=p.kind:=by
 simp [O2,h]
def aF4 {e:Ev} {l:List C6}:∀{last:Int},E9 e last l=0->∀m ∈ l,P1 e m=true:=by
 induction l with
 |nil=>intro last _ m hm;cases hm
 |cons m r ih=>
  intro last h x hx;unfold E9 at h;split at h
  ·simp at h
  ·split at h
   ·rename_i hmk;rcases lbA.1 hx with rfl|hx
    ·exact hmk
    ·exact ih h x hx
   ·simp at h
def a8p {e:Ev} (h:I4 e=0):a3x e=false/\1<=e.mats/\0<=e.hhs/\0<=e.scs/\e.places.all (a0O e)=true/\E9 e 0 e.moves=0/\a0X e=true:=by
 unfold I4 at h;by_cases h1:a3x e=true
 ·rw [iB h1] at h;simp at h
 rw [iC h1] at h;by_cases h2:e.mats<1\/e.hhs<0\/e.scs<0\/e.places.all (a0O e)=false
 ·rw [iB h2] at h;simp at h
 rw [iC h2] at h;by_cases h3:E9 e 0 e.moves≠0
 ·rw [iB h3] at h;exact absurd h h3
 rw [iC h3] at h;by_cases h4:a0X e=true
 ·refine ⟨by simpa using h1,om,om,om,?_,by simpa using h3,h4⟩;rw [← Bool.not_eq_false];exact fun hq=>h2 (.inr (.inr (.inr hq)))
 ·rw [iC h4] at h;simp at h
def T2 {e:Ev} (h:I4 e=0) {m:C6} (hm:m ∈ e.moves):P1 e m=true:=aF4 (a8p h).2.2.2.2.2.1 m hm
def a1H {e:Ev} {m:C6} (h:P1 e m=true):0<=m.src/\m.src<e.places.length:=by
 simp [P1] at h;exact aQ9.1 h.1.1.1.1.1.1.1
def ay0 {e:Ev} {m:C6} (h:P1 e m=true):0<=m.dst/\m.dst<e.places.length:=by
 simp [P1] at h;exact aQ9.1 h.1.1.1.1.1.1.2
def B7 {α:Type} (p:Nat->α->Bool):Nat->List α->LI
 |_,[]=>[]
 |k,m::r=>if p k m then (k:Int)::B7 p (k+1) r else B7 p (k+1) r
def X4 {α:Type} (p:Nat->α->Bool) (l:List α) (k:Nat):LI:=B7 p 0 (l.take k)
def ak0 {α:Type} (p:Nat->α->Bool) (a b:List α):∀k,B7 p k (a++b)=B7 p k a++B7 p (k+a.length) b:=by
 induction a with
 |nil=>intro k;simp [B7]
 |cons m r ih=>
  intro k;simp only [a47,B7,ih,lbu];rw [show k+1+r.length=k+(r.length+1) from by omega];split<;>simp
def ag1 {α:Type} (p:Nat->α->Bool) {l:List α} {k:Nat} {x:α} (h:l[k]? =some x):X4 p l (k+1)=X4 p l k++(if p k x then [(k:Int)] else []):=by
 have ⟨hk,hx⟩:=lbe.1 h;unfold X4;rw [aT0 hk,ak0,hx];have:(l.take k).length=k:=zo;rw [this];simp only [B7,W7]
def a5u {α:Type} (p:Nat->α->Bool) {l:List α} {k:Nat} {x:α} (h:l[k]? =some x) (hp:p k x=true):X4 p l (k+1)=X4 p l k++[(k:Int)]:=by
 rw [ag1 p h,iB hp]
def a2O {α:Type} (p:Nat->α->Bool) {l:List α} {k:Nat} {x:α} (h:l[k]? =some x) (hp:p k x=false):X4 p l (k+1)=X4 p l k:=by
 rw [ag1 p h,iC (by simp [hp])];simp
def at9 {α:Type} (p:Nat->α->Bool) {l:List α} {k:Nat} (h:l.length<=k):X4 p l k=B7 p 0 l:=by
 unfold X4;rw [lbn h]
def as2 {α:Type} {p q:Nat->α->Bool} (l:List α) (N:Nat) (h:∀k m,k<N->p k m=q k m):∀k,k+l.length<=N->B7 p k l=B7 q k l:=by
 induction l with
 |nil=>intro k _;rfl
 |cons m r ih=>
  intro k hk;simp only [lbu] at hk;simp only [B7,h k m om,ih (k+1) om]
def ak2 {α:Type} (p:Nat->α->Bool) (l:List α):∀k,(B7 p k l).length<=l.length:=by
 induction l with
 |nil=>intro k;simp [B7]
 |cons m r ih=>
  intro k;have:=ih (k+1);simp only [B7];split<;>simp<;>omega
def a7K {α:Type} (p:Nat->α->Bool) (l:List α) (k:Nat):(X4 p l k).length<=k:=by
 have:=ak2 p (l.take k) 0;have h2:(l.take k).length<=k:=List.length_take_le _ _;unfold X4;omega
def a5D (e:Ev) (hh mat lo hi:Int) (m:C6):Bool:=
 match e.places[m.src.toNat]? with
 |some p=>decide (p.kind=0) && decide (p.hh=hh) && (decide (mat=-1) || decide (p.mat=mat)) && btw m.day lo hi
 |none=>false
def J6 (e:Ev) (hh mat lo hi:Int):LI:=if I4 e=0 then B7 (fun _ m=>a5D e hh mat lo hi m) 0 e.moves else []
structure Ev.Sized (e:Ev):Prop where
 s1:e.places.length<=1000000
 s2:e.moves.length<=1000000
 s3:e.certs.length<=1000000
 s4:e.recalls.length<=1000000
 s5:e.purities.length<=1000000
abbrev ti (n:Int):T:=.atm (.int .i64 n)
abbrev tb (b:Bool):T:=.atm (.bool b)
def a0y.row (p:a0y):List T:=[ti p.kind,ti p.hh,ti p.mat]
def C6.row (m:C6):List T:=[ti m.day,ti m.src,ti m.dst,ti m.scale,ti m.reading,tb m.all]
def Q3.row (c:Q3):List T:=[ti c.scale,ti c.since,ti c.till,ti c.grams,ti c.permille,ti c.drift]
def J5.row (r:J5):List T:=[ti r.scale,ti r.since]
def a2w.row (p:a2w):List T:=[ti p.move,ti p.mat,ti p.least,ti p.most]
def j3 (n:Int):List T:=[ti n]
abbrev a7D (l:List a0y):T:=.sl 3 .any (l.map a0y.row)
abbrev a5q (l:List C6):T:=.sl 6 .any (l.map C6.row)
abbrev a1L (l:List Q3):T:=.sl 6 .any (l.map Q3.row)
abbrev S2 (l:List J5):T:=.sl 2 .any (l.map J5.row)
abbrev a2Q (l:List a2w):T:=.sl 4 .any (l.map a2w.row)
abbrev w5 (l:LI):T:=.sl 1 .any (l.map j3)
def evC (e:Ev):List C:=[.t (ti e.mats),.t (ti e.hhs),.t (ti e.scs),.t (a7D e.places),.t (a5q e.moves),.t (a1L e.certs),.t (S2 e.recalls),.t (a2Q e.purities)]
def evT (e:Ev):List T:=[ti e.mats,ti e.hhs,ti e.scs,a7D e.places,a5q e.moves,a1L e.certs,S2 e.recalls,a2Q e.purities]
abbrev evS (e:Ev):S:=.agg (evC e)
abbrev j7 (l:LI):S:=.c (.t (w5 l))
def a0y.cs (p:a0y):List C:=p.row.map .t
def C6.cs (m:C6):List C:=m.row.map .t
abbrev b5M (m:C6):S:=.agg m.cs
abbrev evB (e:Ev):Blk:=D8 28 8 [evC e] true
def j6 {a b:Bool} {H1:Hp} (h:a=b):Fin 0 (n7 a) H1 (n7 b) []:=n8 (by subst h;exact rfl)
def p9 {a b:Int} {k:IntKind} {H1:Hp} (h:a=b):Fin 0 (e7 k a) H1 (e7 k b) []:=n8 (by subst h;exact rfl)
def m9 {x y:T} {ρ:List (Option Nat)} {H:Hp} (h:x=y):a7H ρ H (.c (.t x)) (.c (.t y)):=am4 h
def g9 {a b:Int} {k:IntKind} {ρ:List (Option Nat)} {H:Hp} (h:a=b):a7H ρ H (e7 k a) (e7 k b):=by subst h;exact rfl
def F3 (e:Ev):L6 [evC e]:=by simp [L6,evC,C.isT]
def bV0 {H:Hp} {p:Nat->Prop} (e:Ev):VS H p (evS e) (evS e):=bA0 (evT e)
mutual
def a0C (σ:List Nat):C->C
 |.t x=>.t x
 |.ptr id r o=>.ptr (σ.getD id 0) r o
 |.own id lo len app=>.own (σ.getD id 0) lo len app
 |.fn f caps=>.fn f (a1X σ caps)
def a1X (σ:List Nat):List C->List C
 |[]=>[]
 |x::r=>a0C σ x::a1X σ r
end
def a65 (σ:List Nat):S->S
 |.junk=>.junk
 |.c x=>.c (a0C σ x)
 |.agg cs=>.agg (a1X σ cs)
 |.tup ss=>.tup (ss.map fun s=>match s with
  |.c x=>.c (a0C σ x)
  |.agg cs=>.agg (a1X σ cs)
  |s=>s)
mutual
def okC (n:Nat):C->Bool
 |.t _=>true
 |.ptr id _ _=>Nat.blt id n
 |.own id _ _ _=>Nat.blt id n
 |.fn _ caps=>okL n caps
def okL (n:Nat):List C->Bool
 |[]=>true
 |x::r=>okC n x && okL n r
end
def okS (n:Nat):S->Bool
 |.junk=>true
 |.c x=>okC n x
 |.agg cs=>okL n cs
 |.tup _=>false
def T9 (σ:List Nat):∀l,a1X σ l=l.map (a0C σ)
 |[]=>by simp [a1X]
 |x::r=>by simp [a1X,T9 σ r]
def b4X {n:Nat}:∀{l:List C},okL n l=true->∀c ∈ l,okC n c=true
 |[],_,c,h=>by cases h
 |x::r,h,c,hc=>by
  simp only [okL,lbN] at h;rcases lbA.1 hc with rfl|hc
  ·exact h.1
  ·exact b4X h.2 c hc
def aw6 {σ:List Nat} {x:C} (h:x.isT=true):a0C σ x=x:=by
 cases x<;>first|rfl|cases h
def a1p (σ:List Nat) (ι:Io):Io:=fun id=>(σ[id]?).bind ι
mutual
def aR6 {w:World} {ι:Io} {M:Ms} {σ:List Nat}:∀(x:C) (v:Value),okC σ.length x=true->RC w ι M (a0C σ x) v->RC w (a1p σ ι) M x v
 |.t x,v,_,h=>by
  simp only [a0C] at h;cases h with
  |t h=>exact .t h
 |.ptr id r o,v,hk,h=>by
  simp only [a0C] at h;have hlt:id<σ.length:=by simpa [okC,a1o] using hk
  have e:a1p σ ι id=ι (σ.getD id 0):=by simp [a1p,lbf hlt,lbl]
  cases h with
  |ptr h=>exact .ptr (e.trans h)
 |.own id lo len app,v,hk,h=>by
  simp only [a0C] at h;have hlt:id<σ.length:=by simpa [okC,a1o] using hk
  have e:a1p σ ι id=ι (σ.getD id 0):=by simp [a1p,lbf hlt,lbl]
  cases h with
  |own h h1 h2 h3 h4 h5=>exact .own (e.trans h) h1 h2 h3 h4 h5
  |nil h=>exact .nil (e.trans h)
 |.fn f caps,v,hk,h=>by
  simp only [a0C] at h;cases h with
  |fn vs hl hr=>
   rw [T9,lbr] at hl;refine .fn vs hl fun j c hj=>?_
   exact aX8 caps (by simpa [okC] using hk) c (lbm hj) _ (hr j _ (by rw [T9,lba,hj];rfl))
def aX8 {w:World} {ι:Io} {M:Ms} {σ:List Nat}:∀(l:List C),okL σ.length l=true->∀c ∈ l,∀v,RC w ι M (a0C σ c) v->RC w (a1p σ ι) M c v
 |[],_,c,h,_,_=>by cases h
 |x::r,hk,c,hc,v,h=>by
  simp only [okL,lbN] at hk;rcases lbA.1 hc with hcx|hc
  ·rw [hcx] at h ⊢;exact aR6 x v hk.1 h
  ·exact aX8 r hk.2 c hc v h
end
def bo1 {w:World} {ι:Io} {M:Ms} {σ:List Nat} {s:S} {v:Value} (hk:okS σ.length s=true) (h:RS w ι M (a65 σ s) v):RS w (a1p σ ι) M s v:=by
 cases s with
 |junk=>exact .junk
 |c x=>cases h with
  |c h=>exact .c (aR6 x v hk h)
 |agg cs=>
  have h:RS w ι M (.agg (a1X σ cs)) v:=h;cases h with
  |agg vs hl hr=>
   rw [T9,lbr] at hl;refine .agg vs hl fun j c hj=>?_
   exact aX8 cs hk c (lbm hj) _ (hr j _ (by rw [T9,lba,hj];rfl))
 |tup ss=>cases hk
def RC.ren {w:World} {ι ι':Io} {M:Ms} {σ:List Nat} (hι:∀id l,ι id=some l->ι' (σ.getD id 0)=some l) {x:C} {v:Value} (h:RC w ι M x v):RC w ι' M (a0C σ x) v:=by
 induction h with
 |t h=>simp only [a0C];exact .t h
 |ptr h=>simp only [a0C];exact .ptr (hι _ _ h)
 |own h h1 h2 h3 h4 h5=>simp only [a0C];exact .own (hι _ _ h) h1 h2 h3 h4 h5
 |nil h=>simp only [a0C];exact .nil (hι _ _ h)
 |fn vs hl hr ih=>
  simp only [a0C];refine .fn vs (by rw [T9,lbr];exact hl) fun j c hj=>?_
  rw [T9,lba] at hj;obtain ⟨c0,hc0,rfl⟩:=ax0.1 hj;exact ih j c0 hc0
def RS.ren1 {w:World} {ι ι':Io} {M:Ms} {σ:List Nat} (hι:∀id l,ι id=some l->ι' (σ.getD id 0)=some l) {x:List C} {v:Value} (h:RS w ι M (.agg x) v):RS w ι' M (.agg (a1X σ x)) v:=by
 cases h with
 |agg vs hl hr=>
  refine .agg vs (by rw [T9,lbr];exact hl) fun j c hj=>?_
  rw [T9,lba] at hj;obtain ⟨c0,hc0,rfl⟩:=ax0.1 hj;exact (hr j c0 hc0).ren hι
def bO3:S->Bool
 |.tup _=>false
 |_=>true
def aA9:S->Bool
 |.tup ss=>ss.all bO3
 |_=>true
def RS.ren {w:World} {ι ι':Io} {M:Ms} {σ:List Nat} (hι:∀id l,ι id=some l->ι' (σ.getD id 0)=some l) {s:S} {v:Value} (hs:aA9 s=true) (h:RS w ι M s v):RS w ι' M (a65 σ s) v:=by
 cases s with
 |junk=>exact .junk
 |c x=>cases h with
  |c h=>exact .c (h.ren hι)
 |agg cs=>exact RS.ren1 hι h
 |tup ss=>
  cases h with
  |tup vs hl hr=>
   refine .tup vs (by simpa using hl) fun j s hj=>?_
   rw [lba] at hj;obtain ⟨s0,hs0,rfl⟩:=ax0.1 hj;have h0:=hr j s0 hs0;have hno:=lbv.1 hs s0 (lbm hs0);cases s0 with
   |junk=>exact .junk
   |c x=>cases h0 with
    |c h=>exact .c (h.ren hι)
   |agg cs=>exact RS.ren1 hι h0
   |tup _=>cases hno
def a8q (σ:List Nat) (rows:List (List C)):List (List C):=rows.map (a1X σ)
def b7R {σ:List Nat} (rows:List (List T)):a8q σ (toC rows)=toC rows:=by
 unfold a8q toC;rw [a75];apply lbp;intro r _;show a1X σ (r.map C.t)=r.map C.t;rw [T9,a75];apply lbp;intro c _;simp [a0C]
def b5p {σ:List Nat} {rows:List (List C)} {i j:Nat}:at2 (a8q σ rows) i j=(at2 rows i j).map (a0C σ):=by
 unfold at2 a8q;rw [lba];cases rows[i]? with
 |none=>rfl
 |some r=>simp [T9]
def aS5 (σ:List Nat) (k k':Blk):Prop:=k'.mode=k.mode/\k'.elem=k.elem/\k'.size=k.size/\k'.app=k.app/\k'.rows=a8q σ k.rows
def E5 {σ:List Nat} {k:Blk} {rows:List (List T)} (h:k.rows=toC rows):aS5 σ k k:=⟨rfl,rfl,rfl,rfl,by rw [h,b7R]⟩
def bb9 {n:Nat}:∀l:List T,okL n (l.map C.t)=true
 |[]=>by simp [okL]
 |x::r=>by simp [okL,okC,bb9 r]
def a5I {n:Nat} (rows:List (List T)):∀r ∈ toC rows,okL n r=true:=by
 intro r hr;obtain ⟨r',_,rfl⟩:=lbx.1 hr;exact bb9 r'
def S7.ren {w:World} {ι ι':Io} {M:Ms} {σ:List Nat} (hι:∀id l,ι id=some l->ι' (σ.getD id 0)=some l) {k k':Blk} (hk:aS5 σ k k') {l:Loc} (h:S7 w ι M k l):S7 w ι' M k' l:=by
 have ⟨e1,e2,e3,e4,e5⟩:=hk;cases l with
 |nil=>
  have h:k.rows=[]:=h;show k'.rows=[];rw [e5,h];rfl
 |blk b cap size=>
  have ⟨q1,q2,q3,q4,q5,cur,q6,q7,q8⟩:=h;refine ⟨by rw [e3];exact q1,q2,by rw [e5];simpa [a8q] using q3,q4,?_,cur,by rw [e2];exact q6,q7,fun i j c hc=>?_⟩
  ·intro r hr;rw [e5] at hr;obtain ⟨r0,h0,rfl⟩:=lbx.1 hr;rw [T9,lbr];exact q5 r0 h0
  ·rw [e5,b5p] at hc;obtain ⟨c0,hc0,rfl⟩:=ax0.1 hc;have ⟨u,h1,h2⟩:=q8 i j c0 hc0;exact ⟨u,h1,h2.ren hι⟩
def S7.ren_in {w:World} {ι:Io} {M:Ms} {σ:List Nat} {k k':Blk} (hk:aS5 σ k k') (hok:∀r ∈ k.rows,okL σ.length r=true) {l:Loc} (h:S7 w ι M k' l):S7 w (a1p σ ι) M k l:=by
 have ⟨e1,e2,e3,e4,e5⟩:=hk;cases l with
 |nil=>
  have h:k'.rows=[]:=h;show k.rows=[];rw [e5] at h;simpa [a8q] using h
 |blk b cap size=>
  have ⟨q1,q2,q3,q4,q5,cur,q6,q7,q8⟩:=h;refine ⟨by rw [← e3];exact q1,q2,by rw [e5] at q3;simpa [a8q] using q3,q4,?_,cur,by rw [← e2];exact q6,q7,fun i j c hc=>?_⟩
  ·intro r hr;have:=q5 (a1X σ r) (by rw [e5];exact lbx.2 ⟨r,hr,rfl⟩);rw [T9,lbr] at this;exact this
  ·have ⟨u,h1,h2⟩:=q8 i j (a0C σ c) (by rw [e5,b5p,hc];rfl);have ⟨row,r1,r2⟩:=J4 hc;exact ⟨u,h1,aR6 c u (b4X (hok row (lbm r1)) c (lbm r2)) h2⟩
def a4E (σ:List Nat) (n m:Nat):List Nat:=σ++(List.range m).map (n+·)
def W9 {P:Program} {g:FuncId} {args args':List S} {H H' Hs Hs':Hp} {r r':S} (σ:List Nat) (h:e8 P g args Hs r Hs')
 (hargs:args'=args.map (a65 σ)) (hok:args.all (okS σ.length)=true) (hσl:σ.length=Hs.length) (hσn:σ.Nodup)
 (hin:∀i k,Hs[i]? =some k->k.mode=.live/\k.app=false/\(∀ r ∈ k.rows,okL σ.length r=true)/\∃k',H[σ.getD i 0]? =some k'/\aS5 σ k k')
 (hno:∀k ∈ Hs',k.mode≠.old) (hlen:Hs.length<=Hs'.length)
 (hr:aA9 r=true) (hr':r'=a65 (a4E σ H.length (Hs'.length - Hs.length)) r)
 (hl':H'.length=H.length+(Hs'.length - Hs.length)) (hout:∀i k,Hs'[i]? =some k->∃k',H'[(a4E σ H.length (Hs'.length - Hs.length)).getD i 0]? =some k'/\aS5 (a4E σ H.length (Hs'.length - Hs.length)) k k')
 (hrest:∀j,j<H.length->j ∉ σ->H'[j]? =H[j]?):e8 P g args' H r' H':=by
 refine ⟨h.1,fun w ι M vals hl hv hH hM hF=>?_⟩;subst hargs;have hσlt:∀i,i<σ.length->σ.getD i 0<H.length:=fun i hi=>by
  have ⟨_,_,_,k',hk',_⟩:=hin i Hs[i] (lbf om);exact (lbe.1 hk').1
 have hsub:∀i,i<σ.length->a1p σ ι i=ι (σ.getD i 0):=fun i hi=>by simp [a1p,lbf hi,lbl]
 have hsubn:∀i,σ.length<=i->a1p σ ι i=none:=fun i hi=>by simp [a1p,lbd hi]
 have hget:∀i k,Hs[i]? =some k->i<σ.length:=fun i k hk=>by rw [hσl];exact (lbe.1 hk).1
 have hHs:v5 w (a1p σ ι) M Hs:=by
  refine ⟨?_,?_,?_,?_,?_⟩
  ·intro id k hk hd l hl;have ⟨h1,h2,h3,k',hk',hren⟩:=hin id k hk;rw [hsub id (hget id k hk)] at hl;exact (hH.blk _ k' hk' (by rw [hren.1];exact hd) l hl).ren_in hren h3
  ·intro id k hk hm b cap size hl;have ⟨h1,h2,h3,k',hk',hren⟩:=hin id k hk;rw [hsub id (hget id k hk)] at hl;exact hH.liv _ k' hk' (by rw [hren.1];exact hm) b cap size hl
  ·intro id k hk hm;have ⟨h1,h2,h3,k',hk',hren⟩:=hin id k hk;rw [h1] at hm;cases hm
  ·intro id id' k k2 hk hk2 hm hm2 b cap size cap' size' hl hl2;have ⟨h1,h2,h3,k',hk',hren⟩:=hin id k hk;have ⟨h1',h2',h3',k2',hk2',hren2⟩:=hin id' k2 hk2;rw [hsub id (hget id k hk)] at hl;rw [hsub id' (hget id' k2 hk2)] at hl2;have:=hH.inj _ _ k' k2' hk' hk2' (by rw [hren.1];exact hm) (by rw [hren2.1];exact hm2) _ _ _ _ _ hl hl2;have hi:=hget id k hk;have hi':=hget id' k2 hk2;rw [lbl,lbl,lbf hi,lbf hi'] at this;simp only [az7] at this;have hp:=b3p.1 hσn;rcases aX6 id id' with hlt|heq|hgt
   ·exact absurd this (hp id id' hi hi' hlt)
   ·exact heq
   ·exact absurd this.symm (hp id' id hi' hi hgt)
  ·intro id id' k k2 hk hk2 hm;have ⟨h1,_⟩:=hin id k hk;rw [h1] at hm;cases hm
 have hlive:∀b,a4k (a1p σ ι) Hs b->∃i k,i<σ.length/\H[σ.getD i 0]? =some k/\k.mode=.live/\k.app=false/\∃cap size,ι (σ.getD i 0)=some (.blk b cap size):=by
  rintro b ⟨i,k,cap,size,hk,hm,hi⟩;have ⟨h1,h2,h3,k',hk',hren⟩:=hin i k hk;rw [hsub i (hget i k hk)] at hi;exact ⟨i,k',hget i k hk,hk',by rw [hren.1];exact h1,by rw [hren.2.2.2.1];exact h2,cap,size,hi⟩
 have hliveH:∀b,a4k (a1p σ ι) Hs b->a4k ι H b:=fun b hb=>by
  have ⟨i,k,_,hk,hm,_,cap,size,hi⟩:=hlive b hb;exact ⟨_,k,cap,size,hk,hm,hi⟩
 have hvals:∀j s,args[j]? =some s->RS w (a1p σ ι) M s (vals.getD j undef):=fun j s hj=>
  bo1 (lbv.1 hok s (lbm hj)) (hv j _ (by rw [lba,hj];rfl))
 have hcall:=h.2 w (a1p σ ι) M vals (by simpa using hl) hvals hHs hM (fun id hid=>hsubn id om);refine Calls.mono hcall ?_;rintro e w' ⟨v,rfl,ι',M',h1,h2,h3,h4,h5⟩;refine ⟨v,rfl,?_⟩;generalize hm:Hs'.length - Hs.length=m at *
 let σ':=a4E σ H.length m
 let ι2:Io:=fun j=>if j<H.length then ι j else ι' (Hs.length+(j - H.length))
 have hσ'l:σ'.length=Hs'.length:=by simp [σ',a4E];omega
 have hσ'1:∀i,i<σ.length->σ'.getD i 0=σ.getD i 0:=fun i hi=>by
  simp only [σ',a4E,lbl,lbb hi]
 have hσ'2:∀i,σ.length<=i->i<Hs'.length->σ'.getD i 0=H.length+(i - σ.length):=fun i hi hi'=>by
  simp only [σ',a4E,lbl];rw [lbc hi,lba,lbh om]
  rfl
 have hι2:∀id l,ι' id=some l->ι2 (σ'.getD id 0)=some l:=fun id l hid=>by
  have hidl:id<Hs'.length:=by
   rcases I0 id Hs'.length with h|h
   ·exact h
   ·rw [h4 id h] at hid;cases hid
  show (if _ then _ else _)=_;by_cases hlt:id<σ.length
  ·rw [hσ'1 id hlt,iB (hσlt id hlt),←hsub id hlt,←h5.same id om];exact hid
  ·rw [hσ'2 id om hidl,iC om,show Hs.length+(H.length+(id - σ.length) - H.length)=id by omega];exact hid
 have hkeepM:∀b,b<w.heap.size->¬M b->w'.heap[b]? =w.heap[b]?:=fun b hb hnm=>h5.keep b hb fun hl=>hnm (a4k.inM hHs hl)
 have hιext:∀id l,ι id=some l->ι2 id=some l:=fun id l hid=>by
  show (if _ then _ else _)=_;rw [iB]
  ·exact hid
  ·rcases I0 id H.length with h|h
   ·exact h
   ·rw [hF id h] at hid;cases hid
 have hcase:∀j k',H'[j]? =some k'->(j<H.length/\j ∉ σ/\H[j]? =some k')\/∃i k,Hs'[i]? =some k/\σ'.getD i 0=j/\aS5 σ' k k'/\ι2 j=ι' i:=fun j k' hj=>by
  have hjl:=(lbe.1 hj).1;have fromI:∀i,i<Hs'.length->σ'.getD i 0=j->∃i k,Hs'[i]? =some k/\σ'.getD i 0=j/\aS5 σ' k k'/\ι2 j=ι' i:=fun i hi hij=>by
   have ⟨k2,hk2,hren⟩:=hout i Hs'[i] (lbf hi);have hk2':H'[j]? =some k2:=by rw [← hij];exact hk2
   rw [hj] at hk2';injection hk2' with hk2';subst hk2';refine ⟨i,_,lbf hi,hij,hren,?_⟩;show (if _ then _ else _)=_;by_cases hlt:i<σ.length
   ·rw [← hij,hσ'1 i hlt,iB (hσlt i hlt),←hsub i hlt,←h5.same i om]
   ·rw [← hij,hσ'2 i om hi,iC om,show Hs.length+(H.length+(i - σ.length) - H.length)=i by omega]
  by_cases hlt:j<H.length
  ·by_cases hmem:j ∈ σ
   ·have ⟨i,hi⟩:=as3.1 hmem;have hil:=(lbe.1 hi).1;refine .inr (fromI i om ?_);rw [hσ'1 i hil,lbl,hi];rfl
   ·rw [hrest j hlt hmem] at hj;exact .inl ⟨hlt,hmem,hj⟩
  ·refine .inr (fromI (σ.length+(j - H.length)) om ?_);rw [hσ'2 _ om om];omega
 have hold2:∀j,j<H.length->ι2 j=ι j:=fun j hj=>by show (if _ then _ else _)=_;rw [iB hj]
 have hmodeOut:∀j k',j<H.length->j ∉ σ->H[j]? =some k'->k'.mode=.live->∀b cap size,ι j=some (.blk b cap size)->¬a4k (a1p σ ι) Hs b:=fun j k' hjl hjn hk' hm' b cap size hi hb=>by
  have ⟨i,k,hil,hk,hkm,_,c,s,hi2⟩:=hlive b hb;have:=hH.inj j _ k' k hk' hk hm' hkm _ _ _ _ _ hi hi2;apply hjn;rw [this,lbl,lbf hil];exact lbE hil
 refine ⟨ι2,M',?_,⟨?_,?_,?_,?_,?_⟩,h3,?_,?_⟩
 ·rw [hr'];exact h1.ren hι2 hr
 ·intro j k' hj hd l hl2;rcases hcase j k' hj with ⟨hjl,hjn,hk'⟩|⟨i,k,hk,hij,hren,hιj⟩
  ·rw [hold2 j hjl] at hl2;have hb:=hH.blk j k' hk' hd l hl2;cases l with
   |nil=>exact hb
   |blk b cap size=>
    have ⟨q1,q2,q3,q4,q5,cur,q6,q7,q8⟩:=hb;have hnl:¬a4k (a1p σ ι) Hs b:=by
     intro hb;cases hm':k'.mode with
     |live=>exact hmodeOut j k' hjl hjn hk' hm' b cap size hl2 hb
     |froz=>exact hH.fro j k' hk' hm' _ _ _ hl2 (a4k.inM hHs hb)
     |old=>
      have ⟨i,k,hil,hk,hkm,hka,c,s,hi2⟩:=hlive b hb;have:=(hH.old j _ k' k hk' hk hm' hkm _ _ _ _ _ hl2 hi2).1;rw [hka] at this;cases this
     |dead=>exact hd hm'
    refine ⟨q1,q2,q3,q4,q5,cur,(h5.keep b (C2 q6) hnl).trans q6,q7,fun i j c hc=>?_⟩;have ⟨u,r1,r2⟩:=q8 i j c hc;exact ⟨u,r1,r2.keep hkeepM h5.mnew hιext⟩
  ·rw [hιj] at hl2;exact (h2.blk i k hk (by rw [← hren.1];exact hd) l hl2).ren hι2 hren
 ·intro j k' hj hm' b cap size hi;rcases hcase j k' hj with ⟨hjl,hjn,hk'⟩|⟨i,k,hk,hij,hren,hιj⟩
  ·rw [hold2 j hjl] at hi;rcases h5.mold b (hH.liv j k' hk' hm' b cap size hi) with h|h
   ·exact h
   ·exact absurd h (hmodeOut j k' hjl hjn hk' hm' b cap size hi)
  ·rw [hιj] at hi;exact h2.liv i k hk (by rw [← hren.1];exact hm') b cap size hi
 ·intro j k' hj hm' b cap size hi hb;rcases hcase j k' hj with ⟨hjl,hjn,hk'⟩|⟨i,k,hk,hij,hren,hιj⟩
  ·rw [hold2 j hjl] at hi;have hlt:b<w.heap.size:=by
    have ⟨_,_,_,_,_,cur,q6,_⟩:=hH.blk j k' hk' (by rw [hm'];intro h;cases h) _ hi;exact C2 q6
   rcases h5.mnew b hb with h|h
   ·exact hH.fro j k' hk' hm' b cap size hi h
   ·omega
  ·rw [hιj] at hi;exact h2.fro i k hk (by rw [← hren.1];exact hm') b cap size hi hb
 ·have cross:∀j j' k' i k,j<H.length->j ∉ σ->H[j]? =some k'->k'.mode=.live->Hs'[i]? =some k->k.mode=.live->∀b cap size cap' size',ι j=some (.blk b cap size)->ι' i=some (.blk b cap' size')->j=j':=by
   intro j j' k' i k hjl hjn hk' hm' hk hkm b cap size cap' size' hi hi';have hlt:b<w.heap.size:=by
    have ⟨_,_,_,_,_,cur,q6,_⟩:=hH.blk j k' hk' (by rw [hm'];intro h;cases h) _ hi;exact C2 q6
   rcases h5.live b ⟨i,k,cap',size',hk,hkm,hi'⟩ with h|h
   ·exact absurd h (hmodeOut j k' hjl hjn hk' hm' b cap size hi)
   ·omega
  intro j j' k1 k2 hj hj' hm1 hm2 b cap size cap' size' hi hi';rcases hcase j k1 hj with ⟨hjl,hjn,hk1⟩|⟨i,k,hk,hij,hren,hιj⟩<;>rcases hcase j' k2 hj' with ⟨hjl',hjn',hk2⟩|⟨i',k0,hk0,hij',hren',hιj'⟩
  ·rw [hold2 j hjl] at hi;rw [hold2 j' hjl'] at hi';exact hH.inj j j' k1 k2 hk1 hk2 hm1 hm2 _ _ _ _ _ hi hi'
  ·rw [hold2 j hjl] at hi;rw [hιj'] at hi';exact cross j j' k1 i' k0 hjl hjn hk1 hm1 hk0 (by rw [← hren'.1];exact hm2) _ _ _ _ _ hi hi'
  ·rw [hιj] at hi;rw [hold2 j' hjl'] at hi';exact (cross j' j k2 i k hjl' hjn' hk2 hm2 hk (by rw [← hren.1];exact hm1) _ _ _ _ _ hi' hi).symm
  ·rw [hιj] at hi;rw [hιj'] at hi';have:=h2.inj i i' k k0 hk hk0 (by rw [← hren.1];exact hm1) (by rw [← hren'.1];exact hm2) _ _ _ _ _ hi hi';rw [← hij,←hij',this]
 ·intro j j' k1 k2 hj hj' hm1 hm2 b cap size cap' size' hi hi';rcases hcase j k1 hj with ⟨hjl,hjn,hk1⟩|⟨i,k,hk,hij,hren,hιj⟩
  ·rw [hold2 j hjl] at hi;have hlt:b<w.heap.size:=by
    have ⟨_,_,_,_,_,cur,q6,_⟩:=hH.blk j k1 hk1 (by rw [hm1];intro h;cases h) _ hi;exact C2 q6
   rcases hcase j' k2 hj' with ⟨hjl',hjn',hk2⟩|⟨i',k0,hk0,hij',hren',hιj'⟩
   ·rw [hold2 j' hjl'] at hi';exact hH.old j j' k1 k2 hk1 hk2 hm1 hm2 _ _ _ _ _ hi hi'
   ·rw [hιj'] at hi';rcases h5.live b ⟨i',k0,cap',size',hk0,by rw [← hren'.1];exact hm2,hi'⟩ with h|h
    ·have ⟨i,k,hil,hk,hkm,hka,c,s,hi2⟩:=hlive b h;have:=(hH.old j _ k1 k hk1 hk hm1 hkm _ _ _ _ _ hi hi2).1;rw [hka] at this;cases this
    ·omega
  ·have:k.mode=.old:=by rw [← hren.1];exact hm1
   exact absurd this (hno k (lbm hk))
 ·intro id hid;show (if _ then _ else _)=_;rw [iC om];exact h4 _ om
 ·refine ⟨h5.os,h5.tape,h5.output,h5.size,fun b hb hnl=>h5.keep b hb fun hl=>hnl (hliveH b hl),fun id hid=>hold2 id hid,h5.mnew,fun b hb=>?_,?_,om⟩
  ·rcases h5.mold b hb with h|h
   ·exact .inl h
   ·exact .inr (hliveH b h)
  ·rintro b ⟨j,k',cap,size,hj,hm',hi⟩;rcases hcase j k' hj with ⟨hjl,hjn,hk'⟩|⟨i,k,hk,hij,hren,hιj⟩
   ·rw [hold2 j hjl] at hi;exact .inl ⟨j,k',cap,size,hk',hm',hi⟩
   ·rw [hιj] at hi;rcases h5.live b ⟨i,k,cap,size,hk,by rw [← hren.1];exact hm',hi⟩ with h|h
    ·exact .inl (hliveH b h)
    ·exact .inr h
def w7 {P:Program} {τ:Tab} (hτ:G7 P τ) {n0:Nat} {c:Code} {env:Env} {H:Hp} {Q:AX->Env->Hp->Prop} {σ:Type} (E:σ->Env × Hp) (I:σ->Prop) (μ:σ->Nat) (x0:σ) (ρ0:List (Option Nat))
 (hI:I x0) (h0:Ent n0 ρ0 env H (E x0).1 (E x0).2)
 (round:∀x,I x->a5V P τ n0 c (E x).1 (E x).2 fun a env' H'=>match a with
   |.normal=>∃ρ x',Ent n0 ρ env' H' (E x').1 (E x').2/\I x'/\μ x'<μ x
   |a=>Q a env' H'):Awp P n0 (.loop c) env H Q:=by
 refine a9Q (σ:={ x:σ // I x }) (fun x=>E x.1) (fun x=>μ x.1) ⟨x0,hI⟩ ρ0 h0 ?_;rintro ⟨x,hx⟩;refine (t4 hτ c (round x hx)).mono ?_;intro a env' H' h;cases a with
 |normal=>
  have ⟨ρ,x',h1,h2,h3⟩:=h;exact ⟨ρ,⟨x',h2⟩,h1,h3⟩
 |exit id=>exact h
 |ret=>exact h
def I3 {x y:Int} (h:x=y) (h1:-9223372036854775808<=y) (h2:y<=9223372036854775807):N1 .i64 x y:=by subst h;exact a3U h1 h2
abbrev y3 (l:LI):Blk:={ mode:=.live,elem:=3,size:=1,rows:=toC (l.map j3),box:=false }
abbrev a1P (id:Nat) (l:LI):S:=.c (.own id 0 l.length true)
def z6 {α:Type} {xs:List α} {f:α->List T} {n:Int} {x:α} {lo:Nat} {K:List C->Prop} (hx:xs[lo+n.toNat]? =some x) (h:K ((f x).map C.t)):∃row,(toC (xs.map f))[lo+n.toNat]? =some row/\K row:=
 ⟨(f x).map C.t,by simp [toC,hx],h⟩
def a2y {a b:Int} {n:Nat} {K:Prop} (h0:0<=a) (h1:a<=b) (h2:b<=1000000) (hn:n<=1000) (k:K):(0<=a/\a<=b/\b*((n:Int)+1)<=140737488355328)/\K:=by
 refine ⟨⟨h0,h1,?_⟩,k⟩;have:b*((n:Int)+1)<=1000000*1001:=a5N h2 om om om;omega
def bn5 {α:Type} {f:α->List T} {xs:List α} {x:α}:(toC (xs.map f)).take xs.length++toC [f x]=toC ((xs++[x]).map f):=by
 rw [lbn zt];simp [toC]
def ay5 {x:Int} (h1:0<=x) (h2:x<18446744073709551616):IntKind.wrap .u64 x=x:=by
 simp only [IntKind.wrap,IntKind.bits,IntKind.signed];simp;omega
def b17 {k:IntKind} (hk:k.bits=64) (a:Int) (j:Nat) (hj:j<=62):(BitVec.ofInt k.bits a &&& BitVec.ofInt k.bits ((2 ^ j - 1:Nat):Int)).toNat=(a % ((2 ^ j:Nat):Int)).toNat:=by
 rw [hk];rw [BitVec.toNat_and,BitVec.toNat_ofInt,BitVec.toNat_ofInt];have hp:(2:Nat) ^ j<=2 ^ 62:=a86 de hj;have h0:0<(2:Nat) ^ j:=Nat.pow_pos de;have e1:((((2 ^ j - 1:Nat):Int)) % ((2 ^ 64:Nat):Int)).toNat=2 ^ j - 1:=by
  rw [au7 om om];simp
 rw [e1,Nat.and_two_pow_sub_one_eq_mod];have hd:(2:Nat) ^ 64=2 ^ j*2 ^ (64 - j):=by rw [← Nat.pow_add];congr 1;omega
 have h2:0<=a % ((2 ^ 64:Nat):Int):=ax7 _ de;have e2:((a % ((2 ^ 64:Nat):Int)).toNat % 2 ^ j:Nat)=((a % ((2 ^ 64:Nat):Int)) % ((2 ^ j:Nat):Int)).toNat:=by
  rw [Int.toNat_emod h2 om];rfl
 rw [e2]
 congr 1
 refine Int.emod_emod_of_dvd _ ?_;exact ⟨((2 ^ (64 - j):Nat):Int),by exact_mod_cast hd⟩
def aV9 {a:Int} (j:Nat) (hj:j<=62):IntKind.wrap .u64 (BitVec.ofInt (IntKind.bits .u64) a &&& BitVec.ofInt (IntKind.bits .u64) ((2 ^ j - 1:Nat):Int)).toNat=a % ((2 ^ j:Nat):Int):=by
 rw [b17 rfl a j hj];have hp:(2:Nat) ^ j<=2 ^ 62:=a86 de hj;have h0:0<(2:Nat) ^ j:=Nat.pow_pos de;have h1:0<=a % ((2 ^ j:Nat):Int):=ax7 _ om;have h2:a % ((2 ^ j:Nat):Int)<((2 ^ j:Nat):Int):=aU5 _ om;rw [lbZ h1,ay5 h1 om]
def b1f {x:Int} (h1:0<=x) (h2:x<18446744073709551616):N1 .u64 x x:=by unfold N1;exact (ay5 h1 h2).symm
def a24 {α:Type} {l:List α} {f:α->Bool} {k:Nat} {x:α} (h:l[k]? =some x):(l.take (k+1)).any f=((l.take k).any f || f x):=by
 rw [lbG,h];simp
def D5 {α:Type} {l:List α} {f:α->Bool} {k:Nat} {x:α} (h:l[k]? =some x):(l.take (k+1)).all f=((l.take k).all f && f x):=by
 rw [lbG,h];simp
def a5k {α:Type} {l:List α} {f:α->Bool} {k:Nat} {x:α} (h:l[k]? =some x) (hf:f x=true):l.any f=true:=lbw.2 ⟨x,lbm h,hf⟩
def H3 {α:Type} {l:List α} {f:α->Bool} {k:Nat} {x:α} (h:l[k]? =some x) (hf:f x=false):l.all f=false:=by
 rw [← lbQ,lbv];intro h';rw [h' x (lbm h)] at hf;cases hf
def az8 {x y:T} {H1:Hp} (h:x=y):Fin 0 (.c (.t x)) H1 (.c (.t y)) []:=by subst h;exact n8 (show a9j [] H1 _ _ from m9 (ρ:=[]) (H:=H1) rfl)
def b8s {n:Nat} {k:SK} {a b:List (List T)} {H1:Hp} (h:a=b) (hk:k=.any):Fin 0 (.c (.t (.sl n k a))) H1 (.c (.t (.sl n .any b))) []:=by subst h hk;exact n8 (show a9j [] H1 _ _ from m9 (ρ:=[]) (H:=H1) rfl)
def aN9 {P:Program} {g:FuncId} {args:List S} {H H':Hp} {r:S} (i:Nat) {n:Nat} (hi:args[i]? =some (.c (.t (.sl n .any [])))) (h1:e8 P g (args.set i (.c (.t (.sl n .nul [])))) H r H')
 (h2:e8 P g (args.set i (.c (.t (.sl n .non [])))) H r H'):e8 P g args H r H':=by
 refine ⟨h1.1,fun w ι M vals hl hr hH hM hF=>?_⟩;have hv:=(hr i _ hi).inv_t;have hil:=(lbe.1 hi).1;have key:∀k:SK,RT w M (.sl n k []) (vals.getD i undef)->∀j s,(args.set i (.c (.t (.sl n k []))))[j]? =some s->RS w ι M s (vals.getD j undef):=fun k hk j s hj=>by
  by_cases hji:i=j
  ·subst hji;rw [List.getElem?_set_self hil] at hj;injection hj with hj;subst hj;exact .c (.t hk)
  ·rw [List.getElem?_set_ne hji] at hj;exact hr j s hj
 generalize hu:vals.getD i undef=u at hv;cases hv with
 |@sl _ _ _ b off cap A f hrow hcap hmax hk hn hA hc hr' hx=>
  cases A with
  |none=>exact h1.2 w ι M vals (by simpa using hl) (key .nul (by rw [hu];exact .sl (b:=b) (off:=off) f hrow hcap hmax zi zi zq hc hr' ⟨(fun _=>rz),(fun h=>nomatch h)⟩)) hH hM hF
  |some a=>exact h2.2 w ι M vals (by simpa using hl) (key .non (by rw [hu];exact .sl (b:=b) (off:=off) f hrow hcap hmax zi zi zq hc hr' ⟨(fun h=>nomatch h),(fun _ h=>nomatch h)⟩)) hH hM hF
def aI4 {P:Program} {g:FuncId} {args:List S} {H:Hp} {n:Nat} {b:Blk} {rows:List (List T)} (h:e8 P g args [] (.c (.own 0 0 n true)) [b]) (hargs:args=args.map (a65 [])) (hok:args.all (okS 0)=true)
 (hm:b.mode=.live) (hb:b.rows=toC rows):e8 P g args H (.c (.own H.length 0 n true)) (H++[b]):=by
 refine W9 [] h hargs hok rfl aq7 zq (by intro k hk;simp at hk;subst hk;rw [hm];simp) zq rfl ?_ zq ?_ ?_
 ·simp [a65,a0C,a4E]
 ·intro i k hk
  match i,hk with
  |0,hk=>
   simp at hk;subst hk;exact ⟨b,by simp [a4E],E5 hb⟩
 ·intro j hj _;rw [lbb hj]
def b3X {P:Program} {g:FuncId} {args args':List S} {r:S} {H':Hp} (h:e8 P g args' [] r H') (ha:a7X [] (fun _=>False) args args'):e8 P g args [] r H':=by
 refine ⟨h.1,fun w ι M vals hl hv hH hM hf=>?_⟩;have ⟨hlen,hget⟩:=a7X.get ha;exact h.2 w ι M vals om (fun j s hj=>by
  have ⟨x,hx,hs⟩:=hget j s hj;exact hs.rs hH (fun _ h=>h) (fun _ _ _ _ _ h _ _ _ _=>h.elim) (hv j x hx)) hH hM hf
def val:LI->Int
 |[]=>0
 |d::r=>d+1048576*val r
def Okd (l:LI):Prop:=∀d ∈ l,0<=d/\d<1048576
def dgF:Nat->Nat->LI
 |0,_=>[]
 |f+1,n=>if n=0 then [] else ((n % 1048576:Nat):Int)::dgF f (n / 1048576)
def dg (n:Nat):LI:=dgF n n
def pw (i:Nat):Int:=1048576 ^ i
def aQ6:pw 0=1:=rfl
def M3 (i:Nat):pw (i+1)=pw i*1048576:=Int.pow_succ ..
def O1 (i:Nat):0<pw i:=Int.pow_pos de
def a6f (i j:Nat):pw (i+j)=pw i*pw j:=Int.pow_add ..
def a1r {i j:Nat} (h:i<=j):pw i<=pw j:=by
 obtain ⟨k,rfl⟩:=Nat.exists_eq_add_of_le h;rw [a6f];have h1:=O1 i;have h2:=O1 k;have:=lbW (a:=1) (b:=pw k) (c:=pw i) om om;omega
def Okd.nil:Okd []:=fun _ h=>nomatch h
def Okd.cons {d:Int} {l:LI} (h1:0<=d/\d<1048576) (h2:Okd l):Okd (d::l):=by
 intro x hx;rcases lbA.1 hx with rfl|hx
 ·exact h1
 ·exact h2 x hx
def Okd.head {d:Int} {l:LI} (h:Okd (d::l)):0<=d/\d<1048576:=h d zq
def Okd.tail {d:Int} {l:LI} (h:Okd (d::l)):Okd l:=fun x hx=>h x (by simp [hx])
def Okd.take {l:LI} (h:Okd l) (n:Nat):Okd (l.take n):=fun x hx=>h x (ah1 hx)
def Okd.drop {l:LI} (h:Okd l) (n:Nat):Okd (l.drop n):=fun x hx=>h x (b1G hx)
def Okd.append {a b:LI} (h:Okd a) (h2:Okd b):Okd (a++b):=fun x hx=>by
 rcases lbz.1 hx with hx|hx
 ·exact h x hx
 ·exact h2 x hx
def Okd.set {l:LI} (h:Okd l) {i:Nat} {x:Int} (hx:0<=x/\x<1048576):Okd (l.set i x):=fun y hy=>by
 rcases b2Q hy with hy|rfl
 ·exact h y hy
 ·exact hx
def Okd.get {l:LI} (h:Okd l) {i:Nat} {x:Int} (hx:l[i]? =some x):0<=x/\x<1048576:=h x (lbm hx)
def Okd.zeros (n:Nat):Okd (List.replicate n 0):=fun x hx=>by rw [List.eq_of_mem_replicate hx];decide
def B8 {l:LI} (h:Okd l):0<=val l:=by
 induction l with
 |nil=>simp [val]
 |cons d l ih=>have:=ih h.tail;have:=h.head;simp only [val];omega
def a0a {l:LI} (h:Okd l):val l<pw l.length:=by
 induction l with
 |nil=>simp [val,pw]
 |cons d l ih=>
  have:=ih h.tail;have:=h.head;simp only [val,lbu,M3];omega
def P3 (a b:LI):val (a++b)=val a+pw a.length*val b:=by
 induction a with
 |nil=>simp [val,pw]
 |cons d a ih=>simp only [a47,val,ih,lbu,M3];grind
def a7o (n:Nat):val (List.replicate n 0)=0:=by
 induction n with
 |zero=>rfl
 |succ n ih=>simp [aV3,val,ih]
def a4d (l:LI) (i:Nat) (h:i<=l.length):val l=val (l.take i)+pw i*val (l.drop i):=by
 have:=P3 (l.take i) (l.drop i);rw [lb9] at this;rw [this];rw [lbs,a3q h]
def a7R {l:LI} {i:Nat} {x:Int} (h:l[i]? =some x):val (l.take (i+1))=val (l.take i)+pw i*x:=by
 have hi:i<l.length:=by
  rcases I0 i l.length with h1|h1
  ·exact h1
  ·rw [lbd h1] at h;cases h
 rw [lbG,h,P3,lbs,a3q om];simp [val]
def a3X {l:LI} {i:Nat} {x:Int} (h:l[i]? =some x):val (l.drop i)=x+1048576*val (l.drop (i+1)):=by
 have hi:i<l.length:=by
  rcases I0 i l.length with h1|h1
  ·exact h1
  ·rw [lbd h1] at h;cases h
 rw [a3r hi];rw [lbf hi] at h;injection h with h;rw [h];rfl
def bh2 {l:LI} {i:Nat} {x y:Int} (h:l[i]? =some y):val (l.set i x)=val l+pw i*(x - y):=by
 induction l generalizing i with
 |nil=>simp at h
 |cons d l ih=>
  cases i with
  |zero=>
   simp only [List.getElem?_cons_zero,lb5] at h;subst h;simp [val,pw];omega
  |succ i=>
   simp only [List.getElem?_cons_succ] at h;simp only [List.set_cons_succ,val,ih h,M3];grind
def b8t (f n:Nat) (h:n<=f):dgF f n=dg n:=by
 unfold dg;induction f using Nat.strongRecOn generalizing n with
 |ind f ih=>
  cases f with
  |zero=>cases Nat.le_zero.1 h;rfl
  |succ f=>
   cases n with
   |zero=>rfl
   |succ n=>
    simp only [dgF,Nat.succ_ne_zero,if_false];rw [ih f om _ om,ih n om _ om]
def a0Q:dg 0=[]:=rfl
def a8G {n:Nat} (h:0<n):dg n=((n % 1048576:Nat):Int)::dg (n / 1048576):=by
 obtain ⟨m,rfl⟩:∃m,n=m+1:=⟨n - 1,om⟩;show dgF (m+1) (m+1)=_;simp only [dgF,Nat.succ_ne_zero,if_false];rw [b8t _ _ om]
def b2J {P:Nat->Prop} (h0:P 0) (h:∀n,0<n->P (n / 1048576)->P n) (n:Nat):P n:=by
 induction n using Nat.strongRecOn with
 |ind n ih=>
  rcases a4t n with rfl|hn
  ·exact h0
  ·exact h n hn (ih _ om)
def v4 (n:Nat):val (dg n)=n:=by
 induction n using b2J with
 |h0=>rfl
 |h n hn ih=>rw [a8G hn,val,ih];omega
def B6 (n:Nat):Okd (dg n):=by
 induction n using b2J with
 |h0=>exact .nil
 |h n hn ih=>rw [a8G hn];exact .cons om ih
def O8 {n:Nat}:dg n=[]↔n=0:=by
 constructor
 ·intro h;have:=v4 n;rw [h] at this;simp only [val] at this;omega
 ·rintro rfl;rfl
def N4:LI->LI
 |[]=>[]
 |d::r=>if N4 r=[]/\d=0 then [] else d::N4 r
def R5 {l:LI} (h:Okd l):N4 l=dg (val l).toNat:=by
 induction l with
 |nil=>rfl
 |cons d l ih=>
  have h0:=B8 h.tail;have h1:=h.head;have hv:(val (d::l)).toNat=d.toNat+1048576*(val l).toNat:=by simp only [val];omega
  rw [N4,ih h.tail,hv];split
  ·rename_i hc;have:=O8.1 hc.1;rw [this,hc.2];rfl
  ·rename_i hc;rw [a8G (n:=d.toNat+1048576*(val l).toNat)]
   ·congr 1
    ·omega
    ·congr 1;omega
   ·rcases a4t (val l).toNat with h2|h2
    ·have:d≠0:=fun h3=>hc ⟨by rw [h2];rfl,h3⟩
     omega
    ·omega
def a5n {l:LI} {n:Nat} (h1:∀j x,n<=j->l[j]? =some x->x=0) (h2:∀x,0<n->l[n-1]? =some x->x≠0) (hn:n<=l.length):l.take n=N4 l:=by
 induction l generalizing n with
 |nil=>simp [N4]
 |cons d l ih=>
  cases n with
  |zero=>
   have ht:N4 l=[]:=by
    rw [← ih (n:=0) (fun j x _ hx=>h1 (j+1) x om (by simpa using hx)) (fun x h=>absurd h om) om];rfl
   have hd:d=0:=h1 0 d om zq;simp [N4,ht,hd]
  |succ n=>
   have ht:N4 l=l.take n:=by
    refine (ih (n:=n) (fun j x hj hx=>h1 (j+1) x om (by simpa using hx)) (fun x h hx=>h2 x om ?_) (by simpa using hn)).symm;obtain ⟨m,rfl⟩:∃m,n=m+1:=⟨n - 1,om⟩;simpa using hx
   rw [N4,ht,List.take_succ_cons,iC];rintro ⟨h3,h4⟩;have hn0:n=0:=by
    rcases a4t n with h5|h5
    ·exact h5
    ·have:=congrArg List.length h3;simp only [lbs,a15,lbu] at this hn;omega
   subst hn0;exact h2 d om zq h4
def Q8 {n k:Nat} (h:(n:Int)<pw k):(dg n).length<=k:=by
 induction k generalizing n with
 |zero=>have:n=0:=by simp [pw] at h;omega
        subst this;simp [a0Q]
 |succ k ih=>
  rcases a4t n with rfl|hn
  ·simp [a0Q]
  ·rw [a8G hn];rw [M3] at h;have:=ih (n:=n / 1048576) om;simp;omega
def an7 {n:Nat} (h:0<n):pw ((dg n).length - 1)<=n:=by
 induction n using b2J with
 |h0=>omega
 |h n hn ih=>
  rw [a8G hn];rcases a4t (n / 1048576) with h1|h1
  ·rw [h1,a0Q];simp [pw];omega
  ·have h2:=ih h1;have:(dg (n / 1048576)).length≠0:=by rw [Ne,a0B,O8];omega
   obtain ⟨m,hm⟩:∃m,(dg (n / 1048576)).length=m+1:=⟨(dg (n / 1048576)).length - 1,om⟩;rw [hm] at h2;rw [lbu,hm];simp only [aY7] at h2 ⊢;rw [M3];omega
def U3 (n:Nat):(n:Int)<pw (dg n).length:=by
 have:=a0a (B6 n);rw [v4] at this;exact this
def t9 {m n:Nat} (h:m<=n):(dg m).length<=(dg n).length:=Q8 (by have:=U3 n;omega)
def aQ2 {m n:Nat} (h:(dg m).length<(dg n).length):m<n:=by
 rcases I0 m n with h1|h1
 ·exact h1
 ·have:=t9 h1;omega
def Can (l:LI):Prop:=Okd l/\∀x,l[l.length - 1]? =some x->x≠0
def b3S {l:LI} (h:Can l):l=dg (val l).toNat:=by
 rw [← R5 h.1];have:=a5n (l:=l) (n:=l.length) (fun j x hj hx=>by rw [lbd hj] at hx;cases hx) (fun x _ hx=>h.2 x hx) (lbR _);rw [X9] at this;exact this
def Z6 (n:Nat):Can (dg n):=by
 refine ⟨B6 n,fun x hx h0=>?_⟩;subst h0;have hl:0<(dg n).length:=by
  rcases a4t (dg n).length with h|h
  ·rw [a0B.1 h] at hx;simp at hx
  ·exact h
 have hp:0<n:=by
  rcases a4t n with rfl|h
  ·simp [a0Q] at hl
  ·exact h
 have h1:=an7 hp;have h2:=a7R hx;rw [show (dg n).length - 1+1=(dg n).length by omega,X9,v4] at h2;have h3:=a0a ((B6 n).take ((dg n).length - 1));rw [lbs,a3q om] at h3;omega
def ag0 {a b:LI} (ha:Okd a) (hb:Okd b) (hl:a.length=b.length) {i:Nat} {x y:Int} (hx:a[i]? =some x) (hy:b[i]? =some y)
 (hd:a.drop (i+1)=b.drop (i+1)) (h:x<y):val a<val b:=by
 have hi:i<a.length:=by
  rcases I0 i a.length with h1|h1
  ·exact h1
  ·rw [lbd h1] at hx;cases hx
 have e1:=a4d a i om;have e2:=a4d b i om;rw [a3X hx] at e1;rw [a3X hy] at e2;rw [hd] at e1;have h1:=a0a (ha.take i);rw [lbs,a3q om] at h1;have h2:=B8 (hb.take i);have h3:=O1 i;have h4:pw i*(x+1048576*val (b.drop (i+1)))+pw i<=pw i*(y+1048576*val (b.drop (i+1))):=by
  have:=lbW (a:=x+1048576*val (b.drop (i+1))+1) (b:=y+1048576*val (b.drop (i+1))) (c:=pw i) om om;rw [aD1 (pw i) _ 1] at this;omega
 omega
def dat (l:LI) (i:Nat):Int:=l.getD i 0
def a32 {l:LI} {i:Nat} {x:Int} (h:l[i]? =some x):dat l i=x:=by unfold dat;rw [lbl,h];rfl
def Y6 {l:LI} {i:Nat} (h:l.length<=i):dat l i=0:=by unfold dat;rw [lbl,lbd h];rfl
def Okd.dat {l:LI} (h:Okd l) (i:Nat):0<=dat l i/\dat l i<1048576:=by
 rcases I0 i l.length with h1|h1
 ·rw [a32 (lbf h1)];exact h _ (lbE h1)
 ·rw [Y6 h1];decide
def B2 (l:LI) (i:Nat):val (l.take (i+1))=val (l.take i)+pw i*dat l i:=by
 rcases I0 i l.length with h1|h1
 ·rw [a32 (lbf h1)];exact a7R (lbf h1)
 ·rw [Y6 h1,lbn om,lbn om];simp
def a7j (n:Int):0<=n % 1048576/\n % 1048576<1048576:=by omega
structure ab4 (a b:LI) (i:Nat) (out:LI) (c:Int):Prop where
 len:out.length=a.length+1
 ok:Okd out
 le:i<=a.length
 zero:∀j,i<=j->dat out j=0
 c0:0<=c
 c1:c<=1
 eq:val out+pw i*c=val (a.take i)+val (b.take i)
def ab4.init (a b:LI):ab4 a b 0 (List.replicate (a.length+1) 0) 0:=
 ⟨zq,.zeros _,G0 _,fun j _=>by unfold dat;rw [lbl,lbk];split<;>rfl,de,de,by rw [a7o];simp [val]⟩
def a7p {l:LI} {i j:Nat} {x:Int} (h:i≠j):dat (l.set i x) j=dat l j:=by
 unfold dat;rw [lbl,lbl,List.getElem?_set_ne h]
def a3g {l:LI} {i:Nat} {x:Int} (hi:i<l.length):val (l.set i x)=val l+pw i*(x - dat l i):=by
 rw [a32 (lbf hi)];exact bh2 (lbf hi)
def ab4.step {a b out:LI} {i:Nat} {c:Int} (h:ab4 a b i out c) (ha:Okd a) (hb:Okd b) (hi:i<a.length):
 ab4 a b (i+1) (out.set i ((c+dat a i+dat b i) % 1048576)) ((c+dat a i+dat b i) / 1048576):=by
 have h1:=ha.dat i;have h2:=hb.dat i;have h3:=h.c0;have h4:=h.c1;have hl:=h.len;refine ⟨by simp [hl],h.ok.set (a7j _),hi,fun j hj=>?_,om,om,?_⟩
 ·rw [a7p om];exact h.zero j om
 ·rw [a3g om,h.zero i (lbR _),B2,B2,M3];have h5:=h.eq;have h6:(c+dat a i+dat b i) % 1048576=c+dat a i+dat b i - 1048576*((c+dat a i+dat b i) / 1048576):=om;rw [h6];grind
def ab4.fin {a b out:LI} {c:Int} (h:ab4 a b a.length out c) (hl:b.length<=a.length):N4 (out.set a.length c)=dg (val a+val b).toNat:=by
 have h1:=h.c0;have h2:=h.c1;have h3:=h.eq;have hl:=h.len;rw [R5 (h.ok.set om),a3g om,h.zero _ (lbR _)];rw [X9,lbn om] at h3
 congr 2
 grind
structure aE4 (a b:LI) (i:Nat) (out:LI) (c:Int):Prop where
 len:out.length=a.length
 ok:Okd out
 le:i<=a.length
 rest:∀j,i<=j->dat out j=dat a j
 c0:0<=c
 c1:c<=1
 eq:val out - pw i*c=val a - val (b.take i)
def aE4.init {a b:LI} (ha:Okd a):aE4 a b 0 a 0:=⟨rfl,ha,G0 _,fun _ _=>rfl,de,de,by simp [val]⟩
def aE4.step {a b out:LI} {i:Nat} {c:Int} (h:aE4 a b i out c) (ha:Okd a) (hb:Okd b) (hi:i<a.length):
 aE4 a b (i+1) (out.set i ((dat out i - c - dat b i) % 1048576)) ((dat out i - c - dat b i) / 1048576 % 2):=by
 have h1:=h.ok.dat i;have h2:=hb.dat i;have h3:=h.c0;have h4:=h.c1;have hl:=h.len;refine ⟨by simp [hl],h.ok.set (a7j _),hi,fun j hj=>?_,om,om,?_⟩
 ·rw [a7p om];exact h.rest j om
 ·rw [a3g om,B2,M3];have h5:=h.eq;have h6:(dat out i - c - dat b i) % 1048576=dat out i - c - dat b i+1048576*((dat out i - c - dat b i) / 1048576 % 2):=om;rw [h6];grind
def aE4.fin {a b out:LI} {c:Int} (h:aE4 a b a.length out c) (hl:b.length<=a.length) (hv:val b<=val a):N4 out=dg (val a - val b).toNat:=by
 have h1:=h.c0;have h2:=h.c1;have h3:=h.eq;have hlen:=h.len;rw [lbn om] at h3;have h4:=a0a h.ok;rw [hlen] at h4;rw [R5 h.ok];rcases a6D 0 c with h5|h5
 ·have:c=1:=by omega
  subst this;omega
 ·have:c=0:=by omega
  subst this
  congr 2;omega
structure at8 (a b:LI) (i k:Nat) (out:LI) (c:Int):Prop where
 len:out.length=a.length+b.length
 ok:Okd out
 le:k<=b.length
 zero:∀j,i+b.length<=j->dat out j=0
 c0:0<=c
 c1:c<1048576
 eq:val out+pw (i+k)*c=val (a.take i)*val b+pw i*dat a i*val (b.take k)
structure a62 (a b:LI) (i:Nat) (out:LI):Prop where
 len:out.length=a.length+b.length
 ok:Okd out
 le:i<=a.length
 zero:∀j,i+b.length<=j->dat out j=0
 eq:val out=val (a.take i)*val b
def a62.init (a b:LI):a62 a b 0 (List.replicate (a.length+b.length) 0):=
 ⟨zq,.zeros _,G0 _,fun j _=>by unfold dat;rw [lbl,lbk];split<;>rfl,by rw [a7o];simp [val]⟩
def a62.start {a b out:LI} {i:Nat} (h:a62 a b i out):at8 a b i 0 out 0:=
 ⟨h.len,h.ok,G0 _,h.zero,de,de,by rw [h.eq];simp [val]⟩
def a56 {x y:Int} (hx:0<=x/\x<1048576) (hy:0<=y/\y<1048576):0<=x*y/\x*y<=1048575*1048575:=
 ⟨lb0 hx.1 hy.1,a5N om om hy.1 de⟩
def at8.step {a b out:LI} {i k:Nat} {c:Int} (h:at8 a b i k out c) (ha:Okd a) (hb:Okd b) (hi:i<a.length) (hk:k<b.length):
 at8 a b i (k+1) (out.set (i+k) ((dat out (i+k)+dat a i*dat b k+c) % 1048576)) ((dat out (i+k)+dat a i*dat b k+c) / 1048576):=by
 have h1:=h.ok.dat (i+k);have h2:=a56 (ha.dat i) (hb.dat k);have h3:=h.c0;have h4:=h.c1;have hl:=h.len;refine ⟨by simp [hl],h.ok.set (a7j _),hk,fun j hj=>?_,om,om,?_⟩
 ·rw [a7p om];exact h.zero j om
 ·rw [a3g om,B2,show i+(k+1)=i+k+1 by omega,M3];have h5:=h.eq;have h6:(dat out (i+k)+dat a i*dat b k+c) % 1048576=dat out (i+k)+dat a i*dat b k+c - 1048576*((dat out (i+k)+dat a i*dat b k+c) / 1048576):=om;rw [h6];have h7:=a6f i k;grind
def at8.done {a b out:LI} {i:Nat} {c:Int} (h:at8 a b i b.length out c) (ha:Okd a) (hb:Okd b) (hi:i<a.length):
 a62 a b (i+1) (out.set (i+b.length) (dat out (i+b.length)+c)):=by
 have h3:=h.c0;have h4:=h.c1;have hl:=h.len;have h8:=h.zero _ (lbR _);refine ⟨by simp [hl],h.ok.set om,hi,fun j hj=>?_,?_⟩
 ·rw [a7p om];exact h.zero j om
 ·rw [a3g om,B2];have h5:=h.eq;rw [X9] at h5;grind
def a62.fin {a b out:LI} (h:a62 a b a.length out):N4 out=dg (val a*val b).toNat:=by
 rw [R5 h.ok,h.eq,X9]
structure a1T (a:LI) (d:Int) (j:Nat) (out:LI) (r:Int):Prop where
 len:out.length=a.length
 ok:Okd out
 le:j<=a.length
 r0:0<=r
 r1:r<d
 eq:val (a.drop j)=d*val (out.drop j)+r
def a1T.init (a:LI) {d:Int} (hd:0<d):a1T a d a.length (List.replicate a.length 0) 0:=
 ⟨zq,.zeros _,lbR _,de,hd,by simp [val]⟩
def a9q {l:LI} {i:Nat} (h:i<l.length):val (l.drop i)=dat l i+1048576*val (l.drop (i+1)):=by
 rw [a32 (lbf h)];exact a3X (lbf h)
def a99 {l:LI} {i:Nat} {x:Int} (h:i<l.length):dat (l.set i x) i=x:=by
 unfold dat;rw [lbl,List.getElem?_set_self h];rfl
def a1T.step {a out:LI} {d r:Int} {j:Nat} (h:a1T a d (j+1) out r) (ha:Okd a) (hd:0<d):
 a1T a d j (out.set j ((r*1048576+dat a j) / d)) ((r*1048576+dat a j) % d):=by
 have h1:=ha.dat j;have h3:=h.r0;have h4:=h.r1;have hl:=h.len;have hle:=h.le;have h6:0<=(r*1048576+dat a j) / d:=aD2 om om;have h7:(r*1048576+dat a j) / d<1048576:=by
  apply Int.ediv_lt_of_lt_mul hd;have:=lbW (a:=r+1) (b:=d) (c:=1048576) om om;omega
 refine ⟨by simp [hl],h.ok.set ⟨h6,h7⟩,om,ax7 _ om,aU5 _ hd,?_⟩;rw [a9q om,a9q (l:=out.set j _) zo,a99 om,List.drop_set_of_lt om,h.eq];have h8:=Int.emod_add_mul_ediv (r*1048576+dat a j) d;grind
def a1T.fin {a out:LI} {d r:Int} (h:a1T a d 0 out r) (ha:Okd a) (hd:0<d):N4 out=dg (val a / d).toNat/\r=val a % d:=by
 have h3:=h.r0;have h4:=h.r1;have h5:=h.eq;simp only [a9m] at h5;rw [R5 h.ok];have e1:val a / d=val out:=by rw [h5];rw [as8,Int.add_mul_ediv_left _ _ om,Int.ediv_eq_zero_of_lt h3 h4];omega
 have e2:val a % d=r:=by rw [h5,as8,Int.add_mul_emod_self_left,au7 h3 h4]
 exact ⟨by rw [e1],e2.symm⟩
structure aj7 (w v:LI) (g:Int) (i:Nat) (out:LI) (c:Int):Prop where
 len:out.length=w.length
 ok:Okd out
 le:i<=w.length
 rest:∀j,i<=j->dat out j=dat w j
 c0:0<=c
 c1:c<1048576
 eq:val out - pw i*c=val w - g*val (v.take i)
def aj7.init {w v:LI} (g:Int) (hw:Okd w):aj7 w v g 0 w 0:=⟨rfl,hw,G0 _,fun _ _=>rfl,de,de,by simp [val]⟩
def aj7.step {w v out:LI} {g:Int} {i:Nat} {c:Int} (h:aj7 w v g i out c) (hv:Okd v) (hg:0<=g/\g<1048576) (hi:i<w.length):
 aj7 w v g (i+1) (out.set i ((dat out i - c - g*dat v i) % 1048576)) (-((dat out i - c - g*dat v i) / 1048576)):=by
 have h1:=h.ok.dat i;have h2:=a56 hg (hv.dat i);have h3:=h.c0;have h4:=h.c1;have hl:=h.len;refine ⟨by simp [hl],h.ok.set (a7j _),hi,fun j hj=>?_,om,om,?_⟩
 ·rw [a7p om];exact h.rest j om
 ·rw [a3g om,B2,M3];have h5:=h.eq;have h6:(dat out i - c - g*dat v i) % 1048576=dat out i - c - g*dat v i - 1048576*((dat out i - c - g*dat v i) / 1048576):=om;rw [h6];grind
structure a8S (w v:LI) (i:Nat) (out:LI) (c:Int):Prop where
 len:out.length=w.length
 ok:Okd out
 le:i<=w.length
 rest:∀j,i<=j->dat out j=dat w j
 c0:0<=c
 c1:c<=1
 eq:val out+pw i*c=val w+val (v.take i)
def a8S.init {w v:LI} (hw:Okd w):a8S w v 0 w 0:=⟨rfl,hw,G0 _,fun _ _=>rfl,de,de,by simp [val]⟩
def a8S.step {w v out:LI} {i:Nat} {c:Int} (h:a8S w v i out c) (hv:Okd v) (hi:i<w.length):
 a8S w v (i+1) (out.set i ((c+dat out i+dat v i) % 1048576)) ((c+dat out i+dat v i) / 1048576):=by
 have h1:=h.ok.dat i;have h2:=hv.dat i;have h3:=h.c0;have h4:=h.c1;have hl:=h.len;refine ⟨by simp [hl],h.ok.set (a7j _),hi,fun j hj=>?_,om,om,?_⟩
 ·rw [a7p om];exact h.rest j om
 ·rw [a3g om,B2,M3];have h5:=h.eq;have h6:(c+dat out i+dat v i) % 1048576=c+dat out i+dat v i - 1048576*((c+dat out i+dat v i) / 1048576):=om;rw [h6];grind
def aj7.zero {w v out:LI} {g c:Int} (h:aj7 w v g w.length out c) (hl:v.length<=w.length) (hw:Okd w) (hv:Okd v) (hg:0<=g):
 (c=0↔g*val v<=val w)/\(c=0->val out=val w - g*val v):=by
 have h3:=h.c0;have h5:=h.eq;rw [lbn om] at h5;have h6:=a0a h.ok;have h7:=B8 h.ok;rw [h.len] at h6;have h8:=O1 w.length;have h9:0<c->pw w.length<=pw w.length*c:=fun hc=>by
  have:=lbW (a:=1) (b:=c) (c:=pw w.length) om om;omega
 constructor
 ·constructor
  ·rintro rfl;omega
  ·intro h10;rcases a6D 0 c with h11|h11
   ·have:=h9 h11;omega
   ·omega
 ·rintro rfl;omega
theorem zg {p:Prop} (h:p:=by grind):p:=h
def aj7.back {w v out out':LI} {g c c':Int} (h:aj7 w v g w.length out c) (h':a8S out v w.length out' c') (hl:v.length<=w.length)
 (h1:0<=val w - g*val v+val v) (h2:val w - g*val v+val v<pw w.length):val out'=val w - g*val v+val v:=by
 have h5:=h.eq;have h6:=h'.eq;rw [lbn om] at h5 h6;have h7:=a0a h'.ok;have h8:=B8 h'.ok;rw [h'.len,h.len] at h7;have h9:=O1 w.length;have e:val out'+pw w.length*(c' - c)=val w - g*val v+val v:=zg;rcases a5b (c' - c) 0 with hc|hc|hc
 ·have:=lbW (a:=c' - c) (b:=-1) (c:=pw w.length) om om;omega
 ·rw [hc] at e;omega
 ·have:=lbW (a:=1) (b:=c' - c) (c:=pw w.length) om om;omega
structure Win (P V W v1 v2 top u2:Int):Prop where
 P0:0<P
 v1l:524288<=v1
 v1u:v1<1048576
 v20:0<=v2
 v2u:v2<1048576
 u20:0<=u2
 u2u:u2<1048576
 t0:0<=top
 tu:top<1048576*1048576
 Vl:P*(v1*1048576+v2)<=V
 Vu:V<P*(v1*1048576+v2)+P
 Wl:P*(top*1048576+u2)<=W
 Wu:W<P*(top*1048576+u2)+P
 lt:W<V*1048576
def Win.V0 {P V W v1 v2 top u2:Int} (h:Win P V W v1 v2 top u2):0<V:=by
 have h1:=h.Vl;have h2:=h.P0;have h3:=h.v1l;have h4:=h.v20;have:=ac3 h2 (b:=v1*1048576+v2) om;omega
structure a12 (V W v1 top g r:Int):Prop where
 g0:0<=g
 gu:g<=2097152
 r0:0<=r
 ru:r<2097152
 eq:g*v1+r=top
 hi:W<(g+1)*V
def a12.init {P V W v1 v2 top u2:Int} (h:Win P V W v1 v2 top u2):a12 V W v1 top (top / v1) (top % v1):=by
 have h1:=h.v1l;have h2:=h.v1u;have h3:=h.t0;have h4:=h.tu;have h5:=ax7 top (b:=v1) om;have h6:=aU5 top (b:=v1) om;have h7:=Int.mul_ediv_add_emod top v1;have h8:0<=top / v1:=aD2 h3 om;have hq:top / v1*v1+top % v1=top:=by rw [a7P];exact h7
 refine ⟨h8,?_,h5,om,hq,?_⟩
 ·have h9:=lbW (a:=524288) (b:=v1) (c:=top / v1) h1 h8;omega
 ·have hW:=h.Wu;have hV:=h.Vl;have hP:=h.P0;have h20:=h.v20;have hu:=h.u2u;have e1:(top / v1+1)*(P*(v1*1048576+v2))<=(top / v1+1)*V:=lbW hV om;have e2:top*1048576+u2+1<=(top / v1+1)*(v1*1048576+v2):=by
   have:0<=(top / v1+1)*v2:=lb0 om h20;have e3:(top / v1+1)*v1≥top+1:=zg;grind
  have e4:=lbW (c:=P) e2 om;grind
def a12.dec {P V W v1 v2 top u2 g r:Int} (h:Win P V W v1 v2 top u2) (hg:a12 V W v1 top g r) (hc:1048576<=g\/(r<1048576/\r*1048576+u2<g*v2)):
 W<g*V:=by
 have hV0:=h.V0;rcases hc with hc|⟨hr,hc⟩
 ·have:=lbX (a:=1048576) (b:=g) (c:=V) hc om;have:=h.lt;omega
 ·have hW:=h.Wu;have e1:g*(P*(v1*1048576+v2))<=g*V:=lbW h.Vl hg.g0;have e2:top*1048576+u2+1<=g*(v1*1048576+v2):=by
   have:=hg.eq;grind
  have e4:=lbW (c:=P) e2 (V5 h.P0);grind
def a12.small {P V W v1 v2 top u2 g r:Int} (h:Win P V W v1 v2 top u2) (hg:a12 V W v1 top g r) (hc:1048576<=g):r<1048576:=by
 have h1:=h.Wl;have h2:=h.lt;have h3:=h.Vu;have hP:=h.P0;have e1:P*(top*1048576+u2)<P*((v1*1048576+v2+1)*1048576):=zg;have e2:top*1048576+u2<(v1*1048576+v2+1)*1048576:=b2X e1 (V5 hP);have h4:=h.u20;have h5:=hg.eq;have h6:=lbX (a:=1048576) (b:=g) (c:=v1) hc (by have:=h.v1l;omega);have h7:=h.v2u;omega
def a12.step {P V W v1 v2 top u2 g r:Int} (h:Win P V W v1 v2 top u2) (hg:a12 V W v1 top g r) (hc:1048576<=g\/(r<1048576/\r*1048576+u2<g*v2))
 (hW0:0<=W):a12 V W v1 top (g - 1) (r+v1):=by
 have h1:=a12.dec h hg hc;have hV0:=h.V0;have hg0:0<g:=by
  rcases a6D 0 g with h2|h2
  ·exact h2
  ·have:=hg.g0;have:g=0:=om;subst this;omega
 have h2:=hg.gu;have h3:=hg.r0;have h4:=h.v1l;have h5:=h.v1u;have h6:=hg.eq;have h7:r<1048576:=by
  rcases hc with hc|hc
  ·exact a12.small h hg hc
  ·exact hc.1
 exact ⟨om,om,om,om,by grind,by grind⟩
def a12.fin {P V W v1 v2 top u2 g r:Int} (h:Win P V W v1 v2 top u2) (hg:a12 V W v1 top g r) (hc:¬(1048576<=g\/(r<1048576/\r*1048576+u2<g*v2)))
 (hP:P*1048576<=V):g<1048576/\g*V<=W+V:=by
 have hg1:g<1048576:=om;refine ⟨hg1,?_⟩;have h0:=hg.g0;have h20:=h.v20;have h2u:=h.v2u;have hu0:=h.u20;have e1:g*v2<=r*1048576+u2:=by
  rcases a6D r 1048576 with hr|hr
  ·omega
  ·have:=a56 ⟨h0,hg1⟩ ⟨h20,h2u⟩;omega
 have e2:g*(v1*1048576+v2)<=top*1048576+u2:=by
  have:=hg.eq;grind
 have e3:=lbW (c:=P) e2 (V5 h.P0);have e4:g*V<=g*(P*(v1*1048576+v2)+P):=lbW (V5 h.Vu) h0;have e5:g*P<=1048576*P:=lbX (V5 hg1) (V5 h.P0);have hW:=h.Wl;grind
structure Bg where
 sg:Int
 dl:LI
def bz (z:Int):Bg:=⟨z.sign,dg z.natAbs⟩
def inD (d:Int):Bool:=decide (0<=d) && decide (d<=1048575)
def M9 (b:Bg):Bool:=b.dl.all inD && (if b.dl.length=0 then b.sg == 0 else (b.sg == 1 || b.sg == -1) && !(dat b.dl (b.dl.length - 1) == 0))
def bv (b:Bg):Int:=b.sg*val b.dl
def aP8 {l:LI}:l.all inD=true↔Okd l:=by
 simp only [lbv,inD,lbN,lbI];exact ⟨fun h d hd=>by have:=h d hd;omega,fun h d hd=>by have:=h d hd;omega⟩
def a6i (z:Int):bv (bz z)=z:=by
 unfold bv bz;rw [v4];exact at3 z
def bA8 {b:Bg} (h:M9 b=true):b=bz (bv b):=by
 unfold M9 at h;rw [lbN,aP8] at h;have ⟨h1,h2⟩:=h;have ⟨sg,dl⟩:=b;simp only at h1 h2;have hv:=B8 h1;by_cases hl:dl.length=0
 ·rw [iB hl] at h2;have:dl=[]:=lbF hl;subst this;have:sg=0:=by simpa using h2
  subst this
  rfl
 ·rw [iC hl,lbN] at h2;have hc:Can dl:=⟨h1,fun x hx=>by rw [a32 hx] at h2;simpa using h2.2⟩;have h3:=b3S hc;have hp:0<val dl:=by
   rcases a6D 0 (val dl) with h4|h4
   ·exact h4
   ·have:val dl=0:=by omega
    rw [this] at h3;rw [h3] at hl;exact absurd rfl hl
  have hs:sg=1\/sg=-1:=by simpa using h2.1
  have ha:(sg*val dl).natAbs=(val dl).toNat:=by
   rcases hs with rfl|rfl<;>omega
  have hg:(sg*val dl).sign=sg:=by
   rcases hs with rfl|rfl
   ·rw [a2u];exact S9 hp
   ·exact a2q om
  unfold bz bv;simp only;rw [ha,hg,←h3]
def a1h (z:Int):M9 (bz z)=true:=by
 unfold M9;rw [lbN,aP8];refine ⟨B6 _,?_⟩;by_cases hl:(bz z).dl.length=0
 ·rw [iB hl];have h0:dg z.natAbs=[]:=lbF hl;have:z=0:=by have:=O8.1 h0;omega
  subst this;rfl
 ·rw [iC hl];have hz:z≠0:=by rintro rfl;exact hl rfl
  have hl0:(dg z.natAbs).length - 1<(dg z.natAbs).length:=by have:(dg z.natAbs).length≠0:=hl;omega
  have h1:=(Z6 z.natAbs).2 _ (lbf hl0);have h2:dat (bz z).dl ((bz z).dl.length - 1)≠0:=by
   show dat (dg z.natAbs) ((dg z.natAbs).length - 1)≠0;rw [a32 (lbf hl0)];exact h1
  rw [lbN];refine ⟨?_,by simpa using h2⟩;show ((z.sign == 1) || (z.sign == -1))=true;rcases a5b z 0 with h|h|h
  ·rw [a2q h];rfl
  ·exact absurd h hz
  ·rw [S9 h];rfl
def ag6 {z:Int}:(bz z).sg=z.sign:=rfl
structure Fr where
 p:Bg
 q:Bg
def fz (x:Rat):Fr:=⟨bz x.num,bz x.den⟩
def X5 (f:Fr):Bool:=M9 f.p && M9 f.q && (f.q.sg == 1) && (Int.gcd (bv f.p) (bv f.q) == 1)
def ap9 (x:Rat):X5 (fz x)=true:=by
 unfold X5 fz;simp only [a1h,a6i,P5,lbN];have hd:=x.den_pos;refine ⟨?_,?_⟩
 ·rw [ag6,S9 om];rfl
 ·have:=x.reduced;simp only [Int.gcd,aS1];rw [this];rfl
def aa9 {p q g:Int} (hq:0<q) (hg:g=Int.gcd p q):fz (Rat.divInt p q)=⟨bz (p / g),bz (q / g)⟩:=by
 unfold fz;rw [Rat.num_divInt,Rat.den_divInt,iC om,S9 hq,a2u,Int.gcd_comm q p,←hg]
 congr 2
 rw [hg];have:((q.natAbs / Int.gcd p q:Nat):Int)=(q.natAbs:Int) / (Int.gcd p q:Int):=zq;rw [this,show (q.natAbs:Int)=q by omega]
structure ak1 (U V N L:Nat) (j:Nat) (u q:LI):Prop where
 lu:u.length=N
 oku:Okd u
 lq:q.length=N - L
 okq:Okd q
 le:j<=N - L
 eq:val (q.drop j)*pw j*V+val u=U
 lt:val u<V*pw j
def ak1.init {U V:Nat} (hV:0<V) (hl:(dg V).length<=(dg U).length+1):ak1 U V ((dg U).length+1) (dg V).length ((dg U).length+1 - (dg V).length) (dg U++[0]) (List.replicate ((dg U).length+1 - (dg V).length) 0):=by
 have h1:=an7 hV;have h2:=U3 U;have hv:val (dg U++[0])=U:=by rw [P3,v4];simp [val]
 have hL:(dg V).length≠0:=by rw [Ne,a0B,O8];omega
 refine ⟨zq,(B6 U).append (by intro x hx;simp at hx;omega),zq,.zeros _,lbR _,?_,?_⟩
 ·rw [lbo zq,hv];simp [val]
 ·rw [hv];have h3:=lbX (a:=pw ((dg V).length - 1)) (b:=V) (c:=pw ((dg U).length+1 - (dg V).length)) h1 (V5 (O1 _));rw [← a6f,show (dg V).length - 1+((dg U).length+1 - (dg V).length)=(dg U).length by omega] at h3;omega
def ak1.window {U V N L j:Nat} {u q:LI} (h:ak1 U V N L (j+1) u q) (hL:(dg V).length=L):
 u=u.take j++(u.drop j).take (L+1)++u.drop (j+(L+1))/\((u.drop j).take (L+1)).length=L+1/\(u.take j).length=j/\
 val u=val (u.take j)+pw j*val ((u.drop j).take (L+1))/\val (u.drop (j+(L+1)))=0/\val ((u.drop j).take (L+1))<V*1048576:=by
 have h1:=h.lu;have h2:=h.le;have h3:=h.lt;have hp:=O1 j;have e0:(u.take j).length=j:=zo;have e1:u.drop j=(u.drop j).take (L+1)++u.drop (j+(L+1)):=by rw [← List.drop_drop,lb9]
 have e2:((u.drop j).take (L+1)).length=L+1:=zo;have e3:u=u.take j++(u.drop j).take (L+1)++u.drop (j+(L+1)):=by rw [lbD,←e1,lb9]
 have hv:=a4d u j om;have hw:=P3 ((u.drop j).take (L+1)) (u.drop (j+(L+1)));rw [← e1,e2] at hw;have h4:=B8 (h.oku.take j);have h5:=B8 ((h.oku.drop j).take (L+1));have h6:=B8 (h.oku.drop (j+(L+1)));have hVp:=U3 V;rw [hL] at hVp;have hz:val (u.drop (j+(L+1)))=0:=by
  rcases a6D 0 (val (u.drop (j+(L+1)))) with h7|h7
  ·exfalso;have a1:=lbW (a:=1) (b:=val (u.drop (j+(L+1)))) (c:=pw (L+1)) om (V5 (O1 _));have a2:=lbW (a:=pw (L+1)) (b:=val (u.drop j)) (c:=pw j) om (V5 hp);have a3:=lbX (a:=(V:Int)) (b:=pw L) (c:=pw (j+1)) (V5 hVp) (V5 (O1 _));have a4:pw j*pw (L+1)=pw L*pw (j+1):=by rw [← a6f,←a6f];congr 1;omega
   omega
  ·omega
 rw [hz,Int.mul_zero,af7] at hw;rw [hw] at hv;refine ⟨e3,e2,e0,hv,hz,?_⟩;have a5:pw j*val ((u.drop j).take (L+1))<pw j*(V*1048576):=by
  rw [M3] at h3;have:(V:Int)*(pw j*1048576)=pw j*(V*1048576):=zg;omega
 exact b2X a5 (V5 hp)
def aM9 (l:LI):N4 l++List.replicate (l.length - (N4 l).length) 0=l:=by
 induction l with
 |nil=>rfl
 |cons d r ih=>
  rw [N4];split
  ·rename_i h;rw [h.1] at ih;rw [h.2];simp only [a6A,a15,Nat.sub_zero,lbu,aV3] at ih ⊢;rw [ih]
  ·simp only [a47,lbu,Nat.add_sub_add_right];rw [ih]
def a1F (n:Nat) (l:LI):LI:=l++List.replicate (n - l.length) 0
def b4F {l:LI} (h:Okd l) {n:Nat} (hn:l.length=n):l=a1F n (dg (val l).toNat):=by
 subst hn;have:=aM9 l;rw [R5 h] at this;exact this.symm
def bp7 (n:Nat) (l:LI):val (a1F n l)=val l:=by unfold a1F;rw [P3,a7o];simp
def aN5 {n:Nat} {l:LI} (h:l.length<=n):(a1F n l).length=n:=by unfold a1F;simp;omega
def b8W {n:Nat} {l:LI} (h:Okd l):Okd (a1F n l):=h.append (.zeros _)
def Win.of {v w:LI} {L:Nat} (hv:Okd v) (hw:Okd w) (lv:v.length=L+2) (lw:w.length=L+3) (ht:524288<=dat v (L+1)) (hlt:val w<val v*1048576):
 Win (pw L) (val v) (val w) (dat v (L+1)) (dat v L) (dat w (L+2)*1048576+dat w (L+1)) (dat w L):=by
 have v1:=B2 v (L+1);have v2:=B2 v L;have w1:=B2 w (L+2);have w2:=B2 w (L+1);have w3:=B2 w L;rw [lbn om] at v1 w1;have a1:=B8 (hv.take L);have a2:=a0a (hv.take L);have a3:=B8 (hw.take L);have a4:=a0a (hw.take L);rw [lbs,a3q om] at a2 a4;have d1:=hv.dat (L+1);have d2:=hv.dat L;have d3:=hw.dat (L+2);have d4:=hw.dat (L+1);have d5:=hw.dat L;have p1:=M3 L;have p2:=M3 (L+1);have e1:val v=pw L*(dat v (L+1)*1048576+dat v L)+val (v.take L):=zg;have e2:val w=pw L*((dat w (L+2)*1048576+dat w (L+1))*1048576+dat w L)+val (w.take L):=zg;exact ⟨O1 L,ht,om,om,om,om,om,om,om,om,om,om,om,hlt⟩
def ak1.step {U V N L j:Nat} {u q:LI} (h:ak1 U V N L (j+1) u q) (hL:(dg V).length=L) (hV:0<V) {Q:Int} (hQ:0<=Q/\Q<1048576)
 (hr0:0<=val ((u.drop j).take (L+1)) - Q*V) (hr1:val ((u.drop j).take (L+1)) - Q*V<V):
 ak1 U V N L j (u.take j++a1F (L+1) (dg (val ((u.drop j).take (L+1)) - Q*V).toNat)++u.drop (j+(L+1))) (q.set j Q):=by
 have ⟨e3,e2,e0,hv,hz,hW⟩:=h.window hL;have h1:=h.lu;have h2:=h.le;have h3:=h.lq;have hVp:=U3 V;rw [hL] at hVp;have hmono:=a1r (Nat.le_succ L);have lp:(dg (val ((u.drop j).take (L+1)) - Q*V).toNat).length<=L+1:=Q8 (by have:pw L<=pw (L+1):=hmono;omega);have hpl:=aN5 lp;have hvp:val (a1F (L+1) (dg (val ((u.drop j).take (L+1)) - Q*V).toNat))=val ((u.drop j).take (L+1)) - Q*V:=by
  rw [bp7,v4,lbZ hr0]
 have hu':val (u.take j++a1F (L+1) (dg (val ((u.drop j).take (L+1)) - Q*V).toNat)++u.drop (j+(L+1)))=val (u.take j)+pw j*(val ((u.drop j).take (L+1)) - Q*V):=by
  rw [P3,hz,P3,hvp,e0];simp
 have hp:=O1 j;have hlt:=a0a (h.oku.take j);rw [e0] at hlt;refine ⟨?_,((h.oku.take j).append (b8W (B6 _))).append (h.oku.drop _),by simp [h3],h.okq.set hQ,om,?_,?_⟩
 ·simp only [lbq,hpl,e0,a3S];omega
 ·rw [hu',a9q zo,a99 om,List.drop_set_of_lt om];have h4:=h.eq;rw [hv,M3] at h4;grind
 ·rw [hu'];have h5:=lbW (a:=val ((u.drop j).take (L+1)) - Q*V) (b:=(V:Int) - 1) (c:=pw j) om om;have h6:pw j*((V:Int) - 1)=V*pw j - pw j:=zg;omega
def ak1.fin {U V N L:Nat} {u q:LI} (h:ak1 U V N L 0 u q) (hV:0<V):val q=(U / V:Nat)/\val u=(U % V:Nat):=by
 have h1:=h.eq;have h2:=h.lt;simp only [a9m,aQ6,az9] at h1 h2;have h3:=B8 h.oku;have h4:=B8 h.okq;have ⟨Q,hQ⟩:=a36 h4;have ⟨R,hR⟩:=a36 h3;rw [hQ,hR] at h1;rw [hR] at h2;have e:U=R+Q*V:=by
  have:((R+Q*V:Nat):Int)=(U:Int):=by rw [← h1];simp [as8]
  omega
 have hlt:R<V:=om;rw [hQ,hR,e,Nat.add_mul_div_right _ _ hV,Nat.div_eq_of_lt hlt,Nat.add_mul_mod_self_right,b4e hlt];simp
theorem St1.zd {p:Prop} [Decidable p] {k:S->Prop} (a:p->k (n7 true)) (b:¬p->k (n7 false)):aE3 p k:=aE3.mk a b
theorem St2.zd {b:Bool} {k:S->Prop} (a:b=true->k (n7 true)) (c:b=false->k (n7 false)):a3L b k:=a3L.mk a c
theorem St1.zz {x:Int} {K:Int->Prop} (k:K x) (h1:-9223372036854775808<=x:=by omega) (h2:x<=9223372036854775807:=by omega):∃n,N1 .i64 x n/\K n:=⟨_,a3U h1 h2,k⟩
theorem St2.zz {n m:Int} {K:Prop} (k:K) (h0:0<=n:=by omega) (h1:n<m:=by omega):(0<=n/\n<m)/\K:=⟨⟨h0,h1⟩,k⟩
theorem St3.zz {ops:List Oper} {K:List Oper->Prop} (k:K ops) (h:a9f ops=true:=by decide +kernel):b6S ops K:=b8v h k
theorem St4.zz {P:Program} {τ:Tab} {env:Env} {H':Hp} {ops:List Oper} {i:Nat} {K:Prop} (k:K) (h:N8 ops i=true:=by decide +kernel) (h2:a18 ops i=[]:=by decide +kernel):N8 ops i=true/\∃L,a18 ops i=L/\a3C P τ ops env H' K L:=bf8 h h2 k
theorem St5.zz {s:S} {B:List Blk} {s':S} {K:Prop} (k:K) (h1:B=[]:=by exact rfl) (h2:s=s':=by exact rfl):(B=[]/\s=s')/\K:=b4d h1 h2 k
theorem St6.zz {α:Type} {xs:List α} {a b:Nat} {K:Prop} (k:K) (h:a=b:=by exact rfl):(xs.length=0\/a=b)/\K:=b95 h k
def bl0 {P:Program} {τ:Tab} {env:Env} {H':Hp} {ops:List Oper} {i:Nat} {K:Prop} (L:List Nat) (k:a3C P τ ops env H' K L) (h:N8 ops i=true:=by decide +kernel) (h2:a18 ops i=L:=by decide +kernel):N8 ops i=true/\∃L,a18 ops i=L/\a3C P τ ops env H' K L:=b7r L h h2 k
theorem qp {P:Program} {g:FuncId} {args:List S} {H:Hp} {r:S} {K:S->List Blk->Prop} {Q:Prop} (c:e8 P g args [] r []) (k:K r []) (h1:args.all S.isT=true:=by exact rfl) (h2:r.isT=true:=by exact rfl):(∃ r B,a0x P g args H r B/\K r B)\/Q:=.inl ⟨_,_,I8 c h1 h2,k⟩
def ac {f:FuncId} {fn:Func} {c:Code} {args:List S} {H:Hp} {s:S} {H':Hp} (hf:Go.Proofs.Tryz.prog.funcs[f]? =some fn) (h:a5V Go.Proofs.Tryz.prog tab H.length c (args++List.replicate (fn.ntmps - args.length) .junk) H fun x env' H1=>match x with
 |.exit _=>False
 | _ => a9x tab fn env' H1 fun r => Fin H.length r H1 s H') (hb : fn.body = some c := by exact rfl) (hn : fn.name ≠ "runtime.NumGoroutine" := by decide) : e8 Go.Proofs.Tryz.prog f args H s H' := b8Z g8 hf hb hn h
def Jn (n:Nat):Env:=List.replicate n J
theorem St1.zy {a b c:Prop} (h:a):a3A a b c:=a3A.data h
theorem St2.zy {a b:Prop} (h:b):aA6 a b:=aA6.own h
def b0x {a b:Prop} (h:a):aA6 a b:=aA6.data h
theorem St7.zz {k:S->Prop} (h:k (n7 true)):a3L true k:=⟨fun _=>h,fun e=>(by cases e)⟩
theorem St8.zz {k:S->Prop} (h:k (n7 false)):a3L false k:=⟨fun e=>(by cases e),fun _=>h⟩
def lg0 {α:Type} {l:List α} {i:Nat} (h:i<l.length):l[i]? =some l[i]:=lbf h
def lg1 {α:Type} {l:List α} {i:Nat} {a:α} (h:l[i]? =some a):∃h:i<l.length,l[i]=a:=lbe.1 h
def lg2 {α:Type} {l:List α} {i:Nat} {a:α} (h:l[i]? =some a):a ∈ l:=lbm h
def lg3 {α:Type} (l:List α) (i:Nat) (a:α):l.getD i a=l[i]?.getD a:=lbl
def lg4 {α:Type} {l:List α} {i:Nat} (h:l.length<=i):l.take i=l:=lbn h
def lg5 {α:Type} {a:α} {l:List α}:a ∈ a::l:=av8 ..
theorem St1.zx {x:Int} {K:Int->Prop} (k:K x) (h1:-9223372036854775808<=x:=by omega) (h2:x<=9223372036854775807:=by omega):∃n,N1 .i64 x n/\K n:=⟨_,a3U h1 h2,k⟩
theorem St2.zx {n m:Int} {K:Prop} (k:K) (h0:0<=n:=by omega) (h1:n<m:=by omega):(0<=n/\n<m)/\K:=⟨⟨h0,h1⟩,k⟩
theorem St3.zx {ops:List Oper} {K:List Oper->Prop} (k:K ops) (h:a9f ops=true:=by decide +kernel):b6S ops K:=b8v h k
theorem St4.zx {P:Program} {τ:Tab} {env:Env} {H':Hp} {ops:List Oper} {i:Nat} {K:Prop} (k:K) (h:N8 ops i=true:=by decide +kernel) (h2:a18 ops i=[]:=by decide +kernel):N8 ops i=true/\∃L,a18 ops i=L/\a3C P τ ops env H' K L:=bf8 h h2 k
theorem St5.zx {s:S} {B:List Blk} {s':S} {K:Prop} (k:K) (h1:B=[]:=by exact rfl) (h2:s=s':=by exact rfl):(B=[]/\s=s')/\K:=b4d h1 h2 k
theorem St6.zx {α:Type} {xs:List α} {a b:Nat} {K:Prop} (k:K) (h:a=b:=by exact rfl):(xs.length=0\/a=b)/\K:=b95 h k
theorem St7.zx {k:S->Prop} (h:k (n7 true)):a3L true k:=⟨fun _=>h,fun e=>(by cases e)⟩
theorem St8.zx {k:S->Prop} (h:k (n7 false)):a3L false k:=⟨fun e=>(by cases e),fun _=>h⟩
theorem StA.zx {a b c:Prop} (h:a):a3A a b c:=a3A.data h
theorem StB.zx {a b:Prop} (h:b):aA6 a b:=aA6.own h
theorem StC.zx {P:Program} {g:FuncId} {args:List S} {H:Hp} {r:S} {K:S->List Blk->Prop} {Q:Prop} (k:K r []) (c:e8 P g args [] r []:=by assumption) (h1:args.all S.isT=true:=by exact rfl) (h2:r.isT=true:=by exact rfl):(∃ r B,a0x P g args H r B/\K r B)\/Q:=qp c k h1 h2
class ZD (p:Prop) (a b:outParam Prop):Prop where
 ou:a->b->p
instance {p:Prop} [Decidable p] {k:S->Prop}:ZD (aE3 p k) (p->k (n7 true)) (¬p->k (n7 false)):=⟨aE3.mk⟩
instance {b:Bool} {k:S->Prop}:ZD (a3L b k) (b=true->k (n7 true)) (b=false->k (n7 false)):=⟨a3L.mk⟩
theorem zD {p a b:Prop} [i:ZD p a b] (h:a) (g:b):p:=i.ou h g
abbrev ec:=e8 Go.Proofs.Tryz.prog
abbrev tT:Nat->Prop:=fun _=>True
abbrev eI:=e7 .i64
abbrev sP (i j k:Nat):S:=S.c (C.ptr i j k)
open St1 St2 St3 St4 St5 St6 St7 St8 StA StB StC
abbrev bgC (b:Bg):List C:=[.t (ti b.sg),.t (w5 b.dl)]
abbrev bgS (b:Bg):S:=.agg (bgC b)
abbrev bgB (b:Bg):Blk:={ mode:=.live,elem:=87,size:=2,rows:=[bgC b],box:=true }
def a6I (b:Bg):L6 [bgC b]:=by
 intro r hr c hc;simp at hr;subst hr;simp [bgC] at hc;rcases hc with rfl|rfl<;>rfl
def C4 {l:LI} {i:Nat} (h:i<l.length):l[i]? =some (dat l i):=by
 unfold dat;rw [lbl,lbf h];rfl
def a8K {l:LI} (h:0<l.length):l[((l.length:Int) - 1).toNat]? =some (dat l (l.length - 1)):=by
 rw [show ((l.length:Int) - 1).toNat=l.length - 1 by omega];exact C4 om
def a30 {l:LI} {n:Nat} (h:0<n) (hn:n<=l.length):l[((n:Int) - 1).toNat]? =some (dat l (n - 1)):=by
 rw [show ((n:Int) - 1).toNat=n - 1 by omega];exact C4 om
def a4B (b:Bg) (hl:b.dl.length<=1000000):ec 195 [bgS b] [] (n7 (M9 b)) []:=by
 have l2:(b.dl.map j3).length=b.dl.length:=zq;refine ac Tryz.func195 ?_;conv=>whnf
 repeat' (first|refine zx ?_|apply zD<;>intro<;>try omega)<;>conv=>whnf
 refine k6 g8 (fun k=>([J,sP 0 0 0,J,eI b.dl.length,J,J,J,J,J,J,j7 b.dl,eI b.dl.length,eI k]++Jn 32,[bgB b])) b.dl.length (fun k=>(b.dl.take k).all inD=true) [some 0] rfl
  ⟨rfl,rfl,⟨⟨rfl,rfl,rfl,.inl ⟨rfl,a6I b⟩⟩,trivial⟩,⟨rz,g9 zq,m9 rfl,g9 zq,g9 rfl,trivial⟩⟩ ?_
 intro k hk hI;conv=>whnf
 repeat' (first|refine zx ?_|refine j4 (C4 om) ?_|refine K6 om (a8K om) ?_|apply zD<;>intro<;>try omega)<;>conv=>whnf
 all_goals first
  |(have hlt:k<b.dl.length:=by omega
    refine ⟨hlt,?_,[some 0],rfl,rfl,⟨⟨rfl,rfl,rfl,.inl ⟨rfl,a6I b⟩⟩,trivial⟩,rz⟩;rw [D5 (C4 hlt),hI];simp [inD];omega)
  |(have hlt:k<b.dl.length:=by omega
    refine j6 ?_;unfold M9;rw [H3 (C4 hlt) (by simp [inD];omega)];rfl)
  |(have ha:b.dl.all inD=true:=by rw [← hI,lbn om]
    refine j6 ?_;unfold M9;rw [ha];simp_all;done)
def a5v (l:LI) (hl:l.length<=1000000):ec 175 [j7 l] [] (j7 (N4 l)) []:=by
 have l2:(l.map j3).length=l.length:=zq;refine ac Tryz.func175 ?_;conv=>whnf
 repeat' (first|refine zx ?_|apply zD<;>intro<;>try omega)<;>conv=>whnf
 refine w7 g8 (σ:=Nat) (fun n=>([j7 l,J,J,eI n]++Jn 17,[])) (fun n=>n<=l.length/\∀j x,n<=j->l[j]? =some x->x=0) (fun n=>n) l.length []
  ⟨lbR _,fun j x hj hx=>by rw [lbd hj] at hx;cases hx⟩ ⟨rfl,rfl,trivial,⟨m9 rfl,g9 zq,trivial⟩⟩ ?_
 rintro n ⟨hn,hz⟩;have hn:n<=l.length:=hn;conv=>whnf
 repeat' (first|refine zx ?_|refine K6 om (a30 om hn) ?_|refine aK3 om om om ?_|apply zD<;>intro<;>try omega)<;>conv=>whnf
 ·have h0:dat l (n - 1)=0:=by assumption
  have h1:0<n:=om;refine ⟨[],n - 1,⟨rfl,rfl,trivial,⟨rfl,g9 om,trivial⟩⟩,⟨om,fun j x hj hxj=>?_⟩,by show n - 1<n;omega⟩;by_cases hj2:j=n - 1
  ·subst hj2;rw [C4 om] at hxj;injection hxj with hx;rw [← hx];exact h0
  ·exact hz j x om hxj
 all_goals
  have e:l.take n=N4 l:=a5n hz (fun x h0 hx=>by
   first|omega|(rw [C4 om] at hx;injection hx with hx;rw [← hx];assumption)) hn
  refine b8s ?_ rfl;rw [← e];simp [b4V]
open St1 St2 St3 St4 St5 St6 St7 St8 StA StB StC
def bt6 (l:LI) (hl:l.length<=1000000):ec 175 [a1P 0 l] [y3 l] (.c (.own 0 0 (N4 l).length true)) [y3 l]:=by
 refine ac Tryz.func175 ?_;conv=>whnf
 repeat' (first|refine zx ?_|apply zD<;>intro h<;>try omega)<;>conv=>whnf
 refine w7 g8 (σ:=Nat) (fun n=>([a1P 0 l,J,J,eI n]++Jn 17,[y3 l])) (fun n=>n<=l.length/\∀j x,n<=j->l[j]? =some x->x=0) (fun n=>n) l.length [some 0]
  ⟨lbR _,fun j x hj hx=>by rw [lbd hj] at hx;cases hx⟩ ⟨rfl,rfl,⟨i6 rfl rfl rfl rfl rfl,trivial⟩,⟨t6 rfl rfl,g9 rfl,trivial⟩⟩ ?_
 rintro n ⟨hn,hz⟩;have hn:n<=l.length:=hn;have hg:0<n->l[0+((n:Int) - 1).toNat]? =some (dat l (n - 1)):=fun h=>by rw [W7];exact a30 h hn
 conv=>whnf
 repeat' (first|refine zx ?_|refine z6 (hg om) ?_|refine aK3 om om om ?_|apply zD<;>intro h<;>try omega)<;>conv=>whnf
 ·have h0:dat l (n - 1)=0:=by assumption
  have h1:0<n:=om;refine ⟨[some 0],n - 1,⟨rfl,rfl,⟨i6 rfl rfl rfl rfl rfl,trivial⟩,⟨t6 rfl rfl,g9 om,trivial⟩⟩,⟨om,fun j x hj hxj=>?_⟩,by show n - 1<n;omega⟩;by_cases hj2:j=n - 1
  ·subst hj2;rw [C4 om] at hxj;injection hxj with hx;rw [← hx];exact h0
  ·exact hz j x om hxj
 all_goals
  have e:l.take n=N4 l:=a5n hz (fun x h0 hx=>by
   first|omega|(rw [C4 om] at hx;injection hx with hx;rw [← hx];assumption)) hn
  have e2:(N4 l).length=n:=by rw [← e];simp;omega
  exact ⟨⟨[some 0],rfl,rfl,⟨i6 rfl rfl rfl rfl rfl,trivial⟩,⟨rfl,rfl,by rw [e2];omega,fun h=>h⟩⟩⟩
def aU3 {n:Nat} {K:Prop} (h:0<n) (k:K):0<n/\K:=⟨h,k⟩
def al3 (l:LI) (hl:l.length<=1000000):ec 65 [j7 l] [] (j7 l) []:=by
 have l2:(l.map j3).length=l.length:=zq;cases l with
 |nil=>
  refine aN9 0 rfl ?_ ?_
  ·refine ac Tryz.func65 ?_;conv=>whnf
   repeat' (first|refine zx ?_|apply zD<;>intro h<;>try omega)<;>conv=>whnf
   exact n8 (show a9j [] _ _ _ from rfl)
  ·refine ac Tryz.func65 ?_;conv=>whnf
   repeat' (first|refine zx ?_|refine aU3 zq ?_|refine sl3_ok om om rfl om ?_|refine R9 rfl zt ?_|apply zD<;>intro h<;>try omega)<;>conv=>whnf
   exact N6 rfl zi rfl rfl zt
 |cons a r=>
  refine ac Tryz.func65 ?_;conv=>whnf
  repeat' (first|refine zx ?_|refine aU3 zq ?_|refine sl3_ok om om rfl om ?_|refine R9 rfl (by simp [toC] at *;omega) ?_|apply zD<;>intro h<;>try omega)<;>conv=>whnf
  exact N6 rfl zi rfl rfl zt
def b7k (l:LI) (hl:l.length<=1000000):ec 65 [j7 l] [] (a1P 0 l) [y3 l]:=by
 have l2:(l.map j3).length=l.length:=zq;cases l with
 |nil=>
  refine aN9 0 rfl ?_ ?_
  ·refine ac Tryz.func65 ?_;conv=>whnf
   repeat' (first|refine zx ?_|apply zD<;>intro h<;>try omega)<;>conv=>whnf
   exact ⟨⟨[none],rz⟩⟩
  ·refine ac Tryz.func65 ?_;conv=>whnf
   repeat' (first|refine zx ?_|refine aU3 zq ?_|refine sl3_ok om om rfl om ?_|refine R9 rfl zt ?_|apply zD<;>intro h<;>try omega)<;>conv=>whnf
   exact ⟨⟨[some 0],rfl,rfl,⟨i6 rfl rfl rfl rfl rfl,trivial⟩,⟨rfl,rfl,zt,fun h=>h⟩⟩⟩
 |cons a r=>
  refine ac Tryz.func65 ?_;conv=>whnf
  repeat' (first|refine zx ?_|refine aU3 zq ?_|refine sl3_ok om om rfl om ?_|refine R9 rfl (by simp [toC] at *;omega) ?_|apply zD<;>intro h<;>try omega)<;>conv=>whnf
  exact ⟨⟨[some 0],rfl,rfl,⟨i6 rfl rfl rfl rfl rfl,trivial⟩,⟨rfl,rfl,zt,fun h=>h⟩⟩⟩
def bl5 (x:Int):ec 227 [eI x] [] (n7 false) []:=by
 refine ac Tryz.func227 ?_;conv=>whnf
 repeat' (first|refine zx ?_|apply zD<;>intro<;>try omega)<;>conv=>whnf
 all_goals first|omega|exact j6 rfl
def Q5 (x y:Int):Int:=if x<y then -1 else if x > y then 1 else 0
def a5M (x y:Int):ec 199 [eI x,eI y] [] (eI (Q5 x y)) []:=by
 refine ac Tryz.func199 ?_;conv=>whnf
 repeat' (first|refine zx ?_|refine qp (bl5 _) ?_|apply zD<;>intro<;>try omega)<;>conv=>whnf
 all_goals first
  |(exfalso;simp_all;done)
  |(refine p9 ?_;unfold Q5;split<;>first|omega|(split<;>omega))
def a50 (x y:Int):ec 216 [.c (.t (.sl 1 .full ([x,y].map j3)))] [] (eI (if x=0 then y else x)) []:=by
 refine ac Tryz.func216 ?_;conv=>whnf
 repeat' (first|refine zx ?_|apply zD<;>intro<;>try omega)<;>conv=>whnf
 refine k6 g8 (fun k=>([J,J,J,eI 0,J,J,S.c (C.t (T.sl 1 .full ([x,y].map j3))),eI 2,eI k]++Jn 9,[])) 2 (fun k=>∀v ∈ [x,y].take k,v=0) [] zq
  ⟨rfl,rfl,trivial,⟨rfl,m9 rfl,g9 rfl,g9 rfl,trivial⟩⟩ ?_
 intro k hk hI;conv=>whnf
 repeat' (first|refine zx ?_|apply zD<;>intro<;>try omega)<;>conv=>whnf
 ·have hlt:k<2:=by omega
  obtain ⟨v,hv⟩:∃v,[x,y][k]? =some v:=⟨_,lbf (by simpa using hlt)⟩;refine j4 hv ?_;conv=>whnf
  repeat' (first|refine zx ?_|apply zD<;>intro<;>try omega)<;>conv=>whnf
  ·refine p9 ?_
   match k,hlt with
   |0,_=>simp at hv;subst hv;rw [iC (by assumption)]
   |1,_=>simp at hv;subst hv;rw [iB (hI x zq)]
  ·refine ⟨hlt,?_,[],rz⟩;intro u hu;rw [lbG,hv] at hu;rcases lbz.1 hu with hu|hu
   ·exact hI u hu
   ·simp at hu;subst hu;omega
 ·have h1:=hI x (by rw [lbn zo];simp);have h2:=hI y (by rw [lbn zo];simp);refine p9 ?_;rw [iB h1,h2]
def sgn (s:Int) (l:LI):Bg:=if (N4 l).length=0 then ⟨0,[]⟩ else ⟨s,N4 l⟩
def b1W (s:Int) (l:LI) (hl:l.length<=1000000):ec 138 [eI s,j7 l] [] (bgS (sgn s l)) []:=by
 refine ac Tryz.func138 ?_;conv=>whnf
 repeat' (first|refine zx ?_|refine qp (a5v l hl) ?_|apply zD<;>intro<;>try omega)<;>conv=>whnf
 ·have h0:(N4 l).length=0:=by simp at *;assumption
  unfold sgn;rw [iB h0];exact n8 rz
 ·have h0:¬(N4 l).length=0:=by simp at *;assumption
  unfold sgn;rw [iC h0];exact n8 rz
def O7 (r:Bool) (b:Bg):ec 215 [n7 r,bgS b] [] (.tup [bgS (if r then b else ⟨0,[]⟩),eI (if r then 0 else 1)]) []:=by
 cases r<;>
 ·refine ac Tryz.func215 ?_;conv=>whnf
  repeat' (first|refine zx ?_|apply zD<;>intro<;>try omega)<;>conv=>whnf
  exact n8 rz
open St1 St2 St3 St4 St5 St6 St7 St8 StA StB StC
def a4U {x y:Int} (h:x<y):Q5 x y=-1:=by unfold Q5;rw [iB h]
def an3 {x y:Int} (h:y<x):Q5 x y=1:=by unfold Q5;rw [iC om,iB h]
def bp4 {x y:Int} (h:x=y):Q5 x y=0:=by unfold Q5;rw [iC om,iC om]
def b2t {s:Int} {l:LI} (h:Okd l) (hs:s=1\/s=-1\/val l=0):sgn s l=bz (s*val l):=by
 have hv:=B8 h;unfold sgn bz;rw [R5 h];by_cases h0:val l=0
 ·rw [h0,Int.mul_zero];rfl
 ·have h1:(dg (val l).toNat).length≠0:=by rw [Ne,a0B,O8];omega
  rw [iC h1];rcases hs with rfl|rfl|h2
  ·rw [S9 om]
   congr 2;omega
  ·rw [a2q om]
   congr 2;omega
  ·exact absurd h2 h0
def a4h (a b:LI) (ha:Can a) (hb:Can b) (la:a.length<=1000000) (lb:b.length<=1000000):
 ec 200 [j7 a,j7 b] [] (eI (Q5 (val a) (val b))) []:=by
 have l1:(a.map j3).length=a.length:=zq;have l2:(b.map j3).length=b.length:=zq;have key:∀{x y:LI},Can x->Can y->x.length<y.length->val x<val y:=fun {x y} hx hy h=>by
  rw [b3S hx,b3S hy] at h;have:=aQ2 h;have:=B8 hx.1;omega
 by_cases hl:a.length=b.length
 ·refine ac Tryz.func200 ?_;conv=>whnf
  repeat' (first|refine zx ?_|apply zD<;>intro h<;>try omega)<;>conv=>whnf
  refine w7 g8 (σ:=Nat) (fun k=>([j7 a,j7 b,J,J,J,eI ((k:Int) - 1)]++Jn 35,[])) (fun k=>k<=a.length/\a.drop k=b.drop k) (fun k=>k) a.length []
   ⟨lbR _,by rw [lbo (lbR _),lbo om]⟩ ⟨rfl,rfl,trivial,⟨m9 rfl,m9 rfl,g9 zq,trivial⟩⟩ ?_
  rintro k ⟨hk,hd⟩;have hk:k<=a.length:=hk;have hd:a.drop k=b.drop k:=hd;conv=>whnf
  repeat' (first|refine zx ?_|refine qp (a5M _ _) ?_|refine K6 om (a30 om hk) ?_|refine K6 om (a30 om (hl ▸ hk)) ?_|apply zD<;>intro h<;>try omega)<;>conv=>whnf
  all_goals first
   |(have hp:0<k:=by omega
     have e:k - 1+1=k:=om;have gx:=C4 (l:=a) (i:=k - 1) om;have gy:=C4 (l:=b) (i:=k - 1) om;refine p9 ?_;rcases a5b (dat a (k - 1)) (dat b (k - 1)) with h|h|h
     ·rw [a4U h,a4U (ag0 ha.1 hb.1 hl gx gy (by rw [e];exact hd) h)]
     ·exfalso;simp_all;done
     ·rw [an3 h,an3 (ag0 hb.1 ha.1 hl.symm gy gx (by rw [e];exact hd.symm) h)])
   |(have hp:0<k:=by omega
     have hq:dat a (k - 1)=dat b (k - 1):=om;refine ⟨[],k - 1,⟨rfl,rfl,trivial,⟨rfl,rfl,g9 om,trivial⟩⟩,⟨om,?_⟩,by show k - 1<k;omega⟩;rw [a3r (by omega:k - 1<a.length),a3r (by omega:k - 1<b.length),show k - 1+1=k by omega,hd]
     congr 1
     have gx:=C4 (l:=a) (i:=k - 1) om;have gy:=C4 (l:=b) (i:=k - 1) om;rw [lbf om] at gx gy;injection gx with gx;injection gy with gy;rw [gx,gy,hq])
   |(have:k=0:=by omega
     subst this;simp only [a9m] at hd;refine p9 ?_;rw [hd,bp4 rfl])
 ·refine ac Tryz.func200 ?_;conv=>whnf
  repeat' (first|refine zx ?_|refine qp (a5M _ _) ?_|apply zD<;>intro h<;>try omega)<;>conv=>whnf
  all_goals first
   |omega
   |(refine p9 ?_
     rcases au4 hl with h|h
     ·rw [a4U om,a4U (key ha hb h)]
     ·rw [an3 om,an3 (key hb ha h)])
def b6p (a b:Bg):Int:=if M9 a && M9 b then Q5 (bv a) (bv b) else 0
def b40 (x:Int):Can (bz x).dl:=Z6 _
def aZ3 (x:Int):val (bz x).dl=x.natAbs:=v4 _
def G6 (x:Int):x.sign=0/\x=0\/x.sign=1/\0<x\/x.sign=-1/\x<0:=by
 rcases a5b x 0 with h|h|h
 ·exact .inr (.inr ⟨a2q h,h⟩)
 ·subst h;exact .inl rz
 ·exact .inr (.inl ⟨S9 h,h⟩)
def b74 {x y:Int} (h:x.sign≠y.sign):Q5 x.sign y.sign=Q5 x y:=by
 rcases G6 x with ⟨e,h1⟩|⟨e,h1⟩|⟨e,h1⟩<;>rcases G6 y with ⟨f,h2⟩|⟨f,h2⟩|⟨f,h2⟩<;>rw [e,f] at h ⊢<;>unfold Q5<;>(repeat' split)<;>omega
def b99 {x y:Int} (h:x.sign=y.sign):x.sign*Q5 x.natAbs y.natAbs=Q5 x y:=by
 rcases G6 x with ⟨e,h1⟩|⟨e,h1⟩|⟨e,h1⟩<;>rcases G6 y with ⟨f,h2⟩|⟨f,h2⟩|⟨f,h2⟩<;>rw [e,f] at h<;>try omega
 all_goals (rw [e];unfold Q5;(repeat' split)<;>omega)
def b9a (x y:Int):-1<=Q5 x y/\Q5 x y<=1:=by unfold Q5;split<;>(try split)<;>omega
def aA0 {b:Bg} (h:M9 b=true):∃z,b=bz z:=⟨_,bA8 h⟩
def b3T (a b:Bg) (la:a.dl.length<=1000000) (lb:b.dl.length<=1000000):
 ec 156 [bgS a,bgS b] [] (eI (b6p a b)) []:=by
 have r1:=a4B a la;have r2:=a4B b lb;cases ha:M9 a with
 |false=>
  rw [ha] at r1;refine ac Tryz.func156 ?_;conv=>whnf
  repeat' (first|refine zx ?_|apply zD<;>intro<;>try omega)<;>conv=>whnf
  all_goals (first|(exfalso;simp_all;done)|(refine p9 ?_;unfold b6p;rw [ha];rfl))
 |true=>
  rw [ha] at r1;cases hb:M9 b with
  |false=>
   rw [hb] at r2;refine ac Tryz.func156 ?_;conv=>whnf
   repeat' (first|refine zx ?_|apply zD<;>intro<;>try omega)<;>conv=>whnf
   all_goals (first|(exfalso;simp_all;done)|(refine p9 ?_;unfold b6p;rw [ha,hb];rfl))
  |true=>
   rw [hb] at r2;obtain ⟨x,rfl⟩:=aA0 ha;obtain ⟨y,rfl⟩:=aA0 hb;have c:=a4h (bz x).dl (bz y).dl (b40 x) (b40 y) la lb;rw [aZ3,aZ3] at c;have e:b6p (bz x) (bz y)=Q5 x y:=by unfold b6p;rw [ha,hb,a6i,a6i];rfl
   rw [e];have hr:=b9a x y;by_cases hs:x.sign=y.sign
   ·have hs':(bz x).sg=(bz y).sg:=hs;have e2:=b99 hs;refine ac Tryz.func156 ?_;conv=>whnf
    repeat' (first|refine zx ?_|refine ⟨_,I3 e2 om om,?_⟩|apply zD<;>intro<;>try omega)<;>conv=>whnf
    all_goals first|omega|(exfalso;simp_all;done)|exact p9 rfl
   ·have hs':(bz x).sg≠(bz y).sg:=hs;refine ac Tryz.func156 ?_;conv=>whnf
    repeat' (first|refine zx ?_|refine qp (a5M _ _) ?_|apply zD<;>intro<;>try omega)<;>conv=>whnf
    all_goals first|omega|(exfalso;simp_all;done)|exact p9 (b74 hs)
def b5S (a:Bg):Bg:=if M9 a then bz (-bv a) else ⟨0,[]⟩
def bH5 (a:Bg) (la:a.dl.length<=1000000):ec 181 [bgS a] [] (bgS (b5S a)) []:=by
 have r1:=a4B a la;cases ha:M9 a with
 |false=>
  rw [ha] at r1;have e:b5S a=⟨0,[]⟩:=by unfold b5S;rw [ha];rfl
  rw [e];refine ac Tryz.func181 ?_;conv=>whnf
  repeat' (first|refine zx ?_|apply zD<;>intro h<;>try omega)<;>conv=>whnf
  all_goals (first|(exfalso;simp_all;done)|exact n8 rz)
 |true=>
  rw [ha] at r1;obtain ⟨x,rfl⟩:=aA0 ha;have e:b5S (bz x)=sgn (0 - (bz x).sg) (bz x).dl:=by
   rw [Int.zero_sub];unfold b5S;rw [ha,b2t (b40 x).1 (by rcases G6 x with ⟨h,h1⟩|⟨h,h1⟩|⟨h,h1⟩<;>rw [ag6,h]<;>simp [h1,aZ3]),a6i,aZ3,ag6];show bz (-x)=_
   congr 1
   rw [Int.neg_mul,at3]
  rw [e];have hs:-1<=(bz x).sg/\(bz x).sg<=1:=by rcases G6 x with ⟨h,h1⟩|⟨h,h1⟩|⟨h,h1⟩<;>rw [ag6,h]<;>decide
  refine ac Tryz.func181 ?_;conv=>whnf
  repeat' (first|refine zx ?_|refine qp (al3 _ la) ?_|refine qp (b1W _ _ la) ?_|apply zD<;>intro h<;>try omega)<;>conv=>whnf
  all_goals (first|(exfalso;simp_all;done)|exact n8 rz)
open St1 St2 St3 St4 St5 St6 St7 St8 StA StB StC
def a8J {a:Int} (j:Nat) (hj:j<=62):IntKind.wrap .i64 (BitVec.ofInt (IntKind.bits .i64) a &&& BitVec.ofInt (IntKind.bits .i64) ((2 ^ j - 1:Nat):Int)).toNat=a % ((2 ^ j:Nat):Int):=by
 rw [b17 rfl a j hj];have hp:(2:Nat) ^ j<=2 ^ 62:=a86 de hj;have h0:0<(2:Nat) ^ j:=Nat.pow_pos de;have h1:0<=a % ((2 ^ j:Nat):Int):=ax7 _ om;have h2:a % ((2 ^ j:Nat):Int)<((2 ^ j:Nat):Int):=aU5 _ om;rw [lbZ h1];exact (show N1 .i64 _ _ from a3U om om).symm
structure aR5 (m n:Int):Prop where
 ok:∀a:Int,a0Z .and .i64 a m (a % n)
def a8s:aR5 1048575 1048576:=⟨fun a=>(a8J (a:=a) 20 de).symm⟩
def at6:aR5 1 2:=⟨fun a=>(a8J (a:=a) 1 de).symm⟩
def aw3 (a:Int):b4n .i64 a 20 (a / 1048576):=by
 show a / 1048576=a.fdiv 1048576;exact (Int.fdiv_eq_ediv_of_nonneg _ de).symm
def S6 {l:LI} {i:Nat} {n:Int} {v:Int} (h:0+n.toNat=i):(toC (l.map j3)).set (0+n.toNat) [C.t (ti v)]=toC ((l.set i v).map j3):=by
 rw [h];simp [toC,j3,a67]
def V9 {l:LI} {n:Int} {i:Nat} (h:n.toNat=i) (hi:i<l.length):l[0+n.toNat]? =some (dat l i):=by rw [W7,h];exact C4 hi
def bG8 (a b:LI) (ha:Okd a) (hb:Okd b) (la:a.length<=400000) (lb:b.length<=400000) (hab:b.length<=a.length):
 ec 217 [j7 a,j7 b] [] (j7 (dg (val a+val b).toNat)) []:=by
 have l1:(a.map j3).length=a.length:=zq;have l2:(b.map j3).length=b.length:=zq;refine ac Tryz.func217 ?_;conv=>whnf
 repeat' (first|refine zx ?_|refine a2y om om om de ?_|apply zD<;>intro h<;>try omega)<;>conv=>whnf
 refine w7 g8 (σ:=Nat × LI × Int) (fun|(k,out,c)=>([j7 a,j7 b,J,J,J,a1P 0 out,eI c]++Jn 13++[j7 a,eI a.length,eI k]++Jn 32,[y3 out])) (fun x=>ab4 a b x.1 x.2.1 x.2.2) (fun x=>a.length - x.1) (0,List.replicate (a.length+1) 0,0) [some 0]
  (ab4.init _ _) ⟨rfl,rfl,⟨i6 rfl rfl rfl ?_ rfl,trivial⟩,⟨m9 rfl,m9 rfl,t6 rfl zq,rfl,m9 rfl,g9 zq,rz⟩⟩ ?_
 ·show List.replicate _ _=_;simp [toC,j3,F7]
 rintro ⟨k,out,c⟩ hI;have hI:ab4 a b k out c:=hI;have hlen:=hI.len;have hle:=hI.le;have hc0:=hI.c0;have hc1:=hI.c1;conv=>whnf
 have hda:=ha.dat k;have hdb:=hb.dat k
 repeat' (first|refine zx ?_|refine j4 (C4 om) ?_|refine T8 om (by show _<((out.length:Nat):Int);omega) ?_|refine z6 (V9 rfl om) ?_|refine ⟨_,aR5.ok (by first|exact a8s|exact at6) _,?_⟩|refine ⟨de,_,aw3 _,?_⟩|apply zD<;>intro h<;>try omega)<;>conv=>whnf
 ·refine ⟨[some 0],(k+1,out.set k ((c+dat a k+dat b k) % 1048576),(c+dat a k+dat b k) / 1048576),⟨rfl,rfl,⟨i6 rfl rfl rfl (S6 om) rfl,trivial⟩,⟨rfl,rfl,t6 rfl zq,rfl,rfl,rfl,g9 om,trivial⟩⟩,hI.step ha hb om,?_⟩;show a.length - (k+1)<a.length - k;omega
 ·have e:dat b k=0:=Y6 om;have hst:=hI.step ha hb om;rw [e,af7] at hst;refine ⟨[some 0],(k+1,out.set k ((c+dat a k) % 1048576),(c+dat a k) / 1048576),⟨rfl,rfl,⟨i6 rfl rfl rfl (S6 om) rfl,trivial⟩,⟨rfl,rfl,t6 rfl zq,rfl,rfl,rfl,g9 om,trivial⟩⟩,hst,?_⟩;show a.length - (k+1)<a.length - k;omega
 ·have hk:k=a.length:=by omega
  subst hk;have hf:=hI.fin om;have t:=a5v (out.set a.length c) zo;rw [hf] at t;refine .inr ⟨_,_,C9 [0] t ⟨a2f (v7 zq rfl zi rfl (S6 om) zq),trivial⟩ rfl,?_⟩;conv=>whnf
  exact az8 (by rw [as8])
def bM9 (a b:LI) (ha:Okd a) (hb:Okd b) (la:a.length<=400000) (lb:b.length<=400000) (hab:a.length<b.length):
 ec 217 [j7 a,j7 b] [] (j7 (dg (val a+val b).toNat)) []:=by
 have l1:(a.map j3).length=a.length:=zq;have l2:(b.map j3).length=b.length:=zq;refine ac Tryz.func217 ?_;conv=>whnf
 repeat' (first|refine zx ?_|refine a2y om om om de ?_|apply zD<;>intro h<;>try omega)<;>conv=>whnf
 refine w7 g8 (σ:=Nat × LI × Int) (fun|(k,out,c)=>([j7 b,j7 a,J,J,J,a1P 0 out,eI c]++Jn 13++[j7 b,eI b.length,eI k]++Jn 32,[y3 out])) (fun x=>ab4 b a x.1 x.2.1 x.2.2) (fun x=>b.length - x.1) (0,List.replicate (b.length+1) 0,0) [some 0]
  (ab4.init _ _) ⟨rfl,rfl,⟨i6 rfl rfl rfl ?_ rfl,trivial⟩,⟨m9 rfl,m9 rfl,t6 rfl zq,rfl,m9 rfl,g9 zq,rz⟩⟩ ?_
 ·show List.replicate _ _=_;simp [toC,j3,F7]
 rintro ⟨k,out,c⟩ hI;have hI:ab4 b a k out c:=hI;have hlen:=hI.len;have hle:=hI.le;have hc0:=hI.c0;have hc1:=hI.c1;conv=>whnf
 have hda:=hb.dat k;have hdb:=ha.dat k
 repeat' (first|refine zx ?_|refine j4 (C4 om) ?_|refine T8 om (by show _<((out.length:Nat):Int);omega) ?_|refine z6 (V9 rfl om) ?_|refine ⟨_,aR5.ok (by first|exact a8s|exact at6) _,?_⟩|refine ⟨de,_,aw3 _,?_⟩|apply zD<;>intro h<;>try omega)<;>conv=>whnf
 ·refine ⟨[some 0],(k+1,out.set k ((c+dat b k+dat a k) % 1048576),(c+dat b k+dat a k) / 1048576),⟨rfl,rfl,⟨i6 rfl rfl rfl (S6 om) rfl,trivial⟩,⟨rfl,rfl,t6 rfl zq,rfl,rfl,rfl,g9 om,trivial⟩⟩,hI.step hb ha om,?_⟩;show b.length - (k+1)<b.length - k;omega
 ·have e:dat a k=0:=Y6 om;have hst:=hI.step hb ha om;rw [e,af7] at hst;refine ⟨[some 0],(k+1,out.set k ((c+dat b k) % 1048576),(c+dat b k) / 1048576),⟨rfl,rfl,⟨i6 rfl rfl rfl (S6 om) rfl,trivial⟩,⟨rfl,rfl,t6 rfl zq,rfl,rfl,rfl,g9 om,trivial⟩⟩,hst,?_⟩;show b.length - (k+1)<b.length - k;omega
 ·have hk:k=b.length:=by omega
  subst hk;have hf:=hI.fin om;have t:=a5v (out.set b.length c) zo;rw [hf] at t;refine .inr ⟨_,_,C9 [0] t ⟨a2f (v7 zq rfl zi rfl (S6 om) zq),trivial⟩ rfl,?_⟩;conv=>whnf
  exact az8 (by rw [as8])
def bQ5 (a b:LI) (ha:Okd a) (hb:Okd b) (la:a.length<=400000) (lb:b.length<=400000):
 ec 217 [j7 a,j7 b] [] (j7 (dg (val a+val b).toNat)) []:=by
 rcases I0 a.length b.length with h|h
 ·exact bM9 a b ha hb la lb h
 ·exact bG8 a b ha hb la lb h
open St1 St2 St3 St4 St5 St6 St7 St8 StA StB StC
def bO5 (a b:LI) (ha:Okd a) (hb:Okd b) (la:a.length<=400000) (lb:b.length<=a.length) (hv:val b<=val a):
 ec 218 [j7 a,j7 b] [] (j7 (dg (val a - val b).toNat)) []:=by
 have l1:(a.map j3).length=a.length:=zq;have l2:(b.map j3).length=b.length:=zq;refine ac Tryz.func218 ?_;conv=>whnf
 repeat' (first|refine zx ?_|apply zD<;>intro h<;>try omega)<;>conv=>whnf
 refine .inr ⟨_,_,aI4 (b7k a om) rfl rfl rfl rfl,?_⟩;conv=>whnf
 repeat' (first|refine zx ?_|apply zD<;>intro h<;>try omega)<;>conv=>whnf
 refine w7 g8 (σ:=Nat × LI × Int) (fun|(k,out,c)=>([J,j7 b,J,J,J,a1P 0 out,eI c,J,J,J,J,J,eI a.length,eI k]++Jn 29,[y3 out])) (fun x=>aE4 a b x.1 x.2.1 x.2.2) (fun x=>a.length - x.1) (0,a,0) [some 0]
  (aE4.init ha) ⟨rfl,rfl,⟨i6 rfl rfl rfl rfl rfl,trivial⟩,⟨m9 rfl,t6 rfl rfl,rfl,g9 zq,rz⟩⟩ ?_
 rintro ⟨k,out,c⟩ hI;have hI:aE4 a b k out c:=hI;have hlen:=hI.len;have hle:=hI.le;have hc0:=hI.c0;have hc1:=hI.c1;conv=>whnf
 have hda:=hI.ok.dat k;have hdb:=hb.dat k
 repeat' (first|refine zx ?_|refine j4 (C4 om) ?_|refine T8 om (by show _<((out.length:Nat):Int);omega) ?_|refine z6 (V9 (i:=k) rfl om) ?_|refine ⟨_,aR5.ok (by first|exact a8s|exact at6) _,?_⟩|refine ⟨de,_,aw3 _,?_⟩|apply zD<;>intro h<;>try omega)<;>conv=>whnf
 ·refine ⟨[some 0],(k+1,out.set k ((dat out k - c - dat b k) % 1048576),(dat out k - c - dat b k) / 1048576 % 2),⟨rfl,rfl,⟨i6 rfl rfl rfl (S6 om) rfl,trivial⟩,⟨rfl,t6 rfl zq,rfl,rfl,g9 om,trivial⟩⟩,hI.step ha hb om,?_⟩;show a.length - (k+1)<a.length - k;omega
 ·have e:dat b k=0:=Y6 om;have hst:=hI.step ha hb om;rw [e,Int.sub_zero] at hst;refine ⟨[some 0],(k+1,out.set k ((dat out k - c) % 1048576),(dat out k - c) / 1048576 % 2),⟨rfl,rfl,⟨i6 rfl rfl rfl (S6 om) rfl,trivial⟩,⟨rfl,t6 rfl zq,rfl,rfl,g9 om,trivial⟩⟩,hst,?_⟩;show a.length - (k+1)<a.length - k;omega
 ·have hk:k=a.length:=by omega
  subst hk;have hf:=hI.fin om hv;have t:=a5v out om;rw [hf] at t;refine .inr ⟨_,_,C9 [0] t ⟨a2f (v7 zq rfl zi rfl rfl zq),trivial⟩ rfl,?_⟩;conv=>whnf
  exact az8 rfl
def bA5 (a b:LI) (ha:Okd a) (hb:Okd b) (la:a.length<=400000) (lb:b.length<=400000):
 ec 228 [j7 a,j7 b] [] (j7 (dg (val a*val b).toNat)) []:=by
 have l1:(a.map j3).length=a.length:=zq;have l2:(b.map j3).length=b.length:=zq;refine ac Tryz.func228 ?_;conv=>whnf
 repeat' (first|refine zx ?_|refine a2y om om om de ?_|apply zD<;>intro h<;>try omega)<;>conv=>whnf
 refine w7 g8 (σ:=Nat × LI) (fun|(i,out)=>([J,j7 b,J,J,J,a1P 0 out]++Jn 12++[j7 a,eI a.length,eI i]++Jn 46,[y3 out])) (fun x=>a62 a b x.1 x.2) (fun x=>a.length - x.1) (0,List.replicate (a.length+b.length) 0) [some 0]
  (a62.init a b) ⟨rfl,rfl,⟨i6 rfl rfl rfl ?_ rfl,trivial⟩,⟨m9 rfl,t6 rfl zo,m9 rfl,g9 zq,rz⟩⟩ ?_
 ·show List.replicate _ _=_;rw [show ((((a.map j3).length:Nat):Int)+((b.map j3).length:Nat)).toNat=a.length+b.length by omega];simp [toC,j3,F7]
 rintro ⟨i,out⟩ hI;have hI:a62 a b i out:=hI;have hlen:=hI.len;have hle:=hI.le;conv=>whnf
 repeat' (first|refine zx ?_|refine j4 (C4 om) ?_|apply zD<;>intro h<;>try omega)<;>conv=>whnf
 ·have hi:i<a.length:=by omega
  refine w7 g8 (σ:=Nat × LI × Int) (fun|(k,out,c)=>([J,j7 b,J,J,J,a1P 0 out,eI i,eI (dat a i),eI c,J,J,J,J,J,J,J,J,J,j7 a,eI a.length,eI i,J,J,J,J,j7 b,eI b.length,eI k]++Jn 39,[y3 out])) (fun x=>at8 a b i x.1 x.2.1 x.2.2) (fun x=>b.length - x.1) (0,out,0) [some 0]
   hI.start ⟨rfl,rfl,⟨i6 rfl rfl rfl rfl rfl,trivial⟩,⟨m9 rfl,t6 rfl rfl,rfl,rfl,rfl,m9 rfl,rfl,rfl,m9 rfl,g9 zq,rz⟩⟩ ?_
  rintro ⟨k,out,c⟩ hK;have hK:at8 a b i k out c:=hK;have hlen:=hK.len;have hle:=hK.le;have hc0:=hK.c0;have hc1:=hK.c1;conv=>whnf
  have hdo:=hK.ok.dat (i+k);have hm:=a56 (ha.dat i) (hb.dat k);have e1:((i:Int)+k).toNat=i+k:=om;have e2:((i:Int)+b.length).toNat=i+b.length:=om;have e3:((i:Int)+((b.map j3).length:Nat)).toNat=i+b.length:=om;have hz:=hK.zero (i+b.length) (lbR _)
  repeat' (first|refine zx ?_|refine j4 (C4 om) ?_|refine T8 om (by show _<((out.length:Nat):Int);omega) ?_|refine z6 (V9 e1 om) ?_|refine z6 (V9 e3 om) ?_|refine ⟨_,aR5.ok (by first|exact a8s|exact at6) _,?_⟩|refine ⟨de,_,aw3 _,?_⟩|apply zD<;>intro h<;>try omega)<;>conv=>whnf
  ·refine ⟨[some 0],(k+1,out.set (i+k) ((dat out (i+k)+dat a i*dat b k+c) % 1048576),(dat out (i+k)+dat a i*dat b k+c) / 1048576),⟨rfl,rfl,⟨i6 rfl rfl rfl (S6 om) rfl,trivial⟩,⟨rfl,t6 rfl zq,rfl,rfl,rfl,rfl,rfl,rfl,rfl,rfl,g9 om,trivial⟩⟩,hK.step ha hb hi om,?_⟩;show b.length - (k+1)<b.length - k;omega
  ·have hk:k=b.length:=by omega
   subst hk;refine ⟨[some 0],(i+1,out.set (i+b.length) (dat out (i+b.length)+c)),⟨rfl,rfl,⟨i6 rfl rfl rfl (S6 om) rfl,trivial⟩,⟨rfl,t6 rfl zq,rfl,rfl,g9 om,trivial⟩⟩,hK.done ha hb hi,?_⟩;show a.length - (i+1)<a.length - i;omega
 ·have hi:i=a.length:=by omega
  subst hi;have hf:=hI.fin;have t:=a5v out om;rw [hf] at t;refine .inr ⟨_,_,C9 [0] t ⟨a2f (v7 zq rfl zi rfl rfl zq),trivial⟩ rfl,?_⟩;conv=>whnf
  exact az8 rfl
def bM2 (a b:LI) (ha:Okd a) (hb:Okd b) (la:a.length<=400000) (lb:b.length<=400000):
 ec 228 [j7 a,j7 b] [] (.c (.own 0 0 (dg (val a*val b).toNat).length true)) [y3 (a1F (a.length+b.length) (dg (val a*val b).toNat))]:=by
 have l1:(a.map j3).length=a.length:=zq;have l2:(b.map j3).length=b.length:=zq;refine ac Tryz.func228 ?_;conv=>whnf
 repeat' (first|refine zx ?_|refine a2y om om om de ?_|apply zD<;>intro h<;>try omega)<;>conv=>whnf
 refine w7 g8 (σ:=Nat × LI) (fun|(i,out)=>([J,j7 b,J,J,J,a1P 0 out]++Jn 12++[j7 a,eI a.length,eI i]++Jn 46,[y3 out])) (fun x=>a62 a b x.1 x.2) (fun x=>a.length - x.1) (0,List.replicate (a.length+b.length) 0) [some 0]
  (a62.init a b) ⟨rfl,rfl,⟨i6 rfl rfl rfl ?_ rfl,trivial⟩,⟨m9 rfl,t6 rfl zo,m9 rfl,g9 zq,rz⟩⟩ ?_
 ·show List.replicate _ _=_;rw [show ((((a.map j3).length:Nat):Int)+((b.map j3).length:Nat)).toNat=a.length+b.length by omega];simp [toC,j3,F7]
 rintro ⟨i,out⟩ hI;have hI:a62 a b i out:=hI;have hlen:=hI.len;have hle:=hI.le;conv=>whnf
 repeat' (first|refine zx ?_|refine j4 (C4 om) ?_|apply zD<;>intro h<;>try omega)<;>conv=>whnf
 ·have hi:i<a.length:=by omega
  refine w7 g8 (σ:=Nat × LI × Int) (fun|(k,out,c)=>([J,j7 b,J,J,J,a1P 0 out,eI i,eI (dat a i),eI c,J,J,J,J,J,J,J,J,J,j7 a,eI a.length,eI i,J,J,J,J,j7 b,eI b.length,eI k]++Jn 39,[y3 out])) (fun x=>at8 a b i x.1 x.2.1 x.2.2) (fun x=>b.length - x.1) (0,out,0) [some 0]
   hI.start ⟨rfl,rfl,⟨i6 rfl rfl rfl rfl rfl,trivial⟩,⟨m9 rfl,t6 rfl rfl,rfl,rfl,rfl,m9 rfl,rfl,rfl,m9 rfl,g9 zq,rz⟩⟩ ?_
  rintro ⟨k,out,c⟩ hK;have hK:at8 a b i k out c:=hK;have hlen:=hK.len;have hle:=hK.le;have hc0:=hK.c0;have hc1:=hK.c1;conv=>whnf
  have hdo:=hK.ok.dat (i+k);have hm:=a56 (ha.dat i) (hb.dat k);have e1:((i:Int)+k).toNat=i+k:=om;have e2:((i:Int)+b.length).toNat=i+b.length:=om;have e3:((i:Int)+((b.map j3).length:Nat)).toNat=i+b.length:=om;have hz:=hK.zero (i+b.length) (lbR _)
  repeat' (first|refine zx ?_|refine j4 (C4 om) ?_|refine T8 om (by show _<((out.length:Nat):Int);omega) ?_|refine z6 (V9 e1 om) ?_|refine z6 (V9 e3 om) ?_|refine ⟨_,aR5.ok (by first|exact a8s|exact at6) _,?_⟩|refine ⟨de,_,aw3 _,?_⟩|apply zD<;>intro h<;>try omega)<;>conv=>whnf
  ·refine ⟨[some 0],(k+1,out.set (i+k) ((dat out (i+k)+dat a i*dat b k+c) % 1048576),(dat out (i+k)+dat a i*dat b k+c) / 1048576),⟨rfl,rfl,⟨i6 rfl rfl rfl (S6 om) rfl,trivial⟩,⟨rfl,t6 rfl zq,rfl,rfl,rfl,rfl,rfl,rfl,rfl,rfl,g9 om,trivial⟩⟩,hK.step ha hb hi om,?_⟩;show b.length - (k+1)<b.length - k;omega
  ·have hk:k=b.length:=by omega
   subst hk;refine ⟨[some 0],(i+1,out.set (i+b.length) (dat out (i+b.length)+c)),⟨rfl,rfl,⟨i6 rfl rfl rfl (S6 om) rfl,trivial⟩,⟨rfl,t6 rfl zq,rfl,rfl,g9 om,trivial⟩⟩,hK.done ha hb hi,?_⟩;show a.length - (i+1)<a.length - i;omega
 ·have hi:i=a.length:=by omega
  subst hi;have hf:=hI.fin;have t:=bt6 out om;have hp:=aM9 out;rw [hf] at t hp;refine .inr ⟨_,_,t,?_⟩;conv=>whnf
  have hq:a1F (a.length+b.length) (dg (val a*val b).toNat)=out:=by unfold a1F;rw [← hlen];exact hp
  rw [hq];exact ⟨⟨[some 0],rfl,rfl,⟨i6 rfl rfl rfl rfl rfl,trivial⟩,⟨rfl,rfl,rfl,fun h=>h⟩⟩⟩
open St1 St2 St3 St4 St5 St6 St7 St8 StA StB StC
def bc8 {r:Int} (h0:0<=r) (h1:r<4398046511104):N1 .i64 (r*2 ^ min (20:Int).toNat (IntKind.bits .i64)) (r*1048576):=by
 show N1 .i64 (r*1048576) (r*1048576);exact a3U om om
def bJ6 {k:IntKind} (hk:k.bits=64) (R X:Nat) (h1:R<4398046511104) (hx:X<1048576):(BitVec.ofInt k.bits ((R:Int)*1048576) ||| BitVec.ofInt k.bits (X:Int)).toNat=R*1048576+X:=by
 rw [hk,BitVec.toNat_or,BitVec.toNat_ofInt,BitVec.toNat_ofInt];have e1:(((R:Int)*1048576) % ((2 ^ 64:Nat):Int)).toNat=R <<< 20:=by
  rw [Nat.shiftLeft_eq];omega
 have e2:((X:Int) % ((2 ^ 64:Nat):Int)).toNat=X:=om;rw [e1,e2,←Nat.shiftLeft_add_eq_or_of_lt om,Nat.shiftLeft_eq]
def bN5 {r x:Int} (h0:0<=r) (h1:r<4398046511104) (hx0:0<=x) (hx1:x<1048576):a0Z .or .i64 (r*1048576) x (r*1048576+x):=by
 obtain ⟨R,rfl⟩:=a36 h0;obtain ⟨X,rfl⟩:=a36 hx0;unfold a0Z;simp only;rw [bJ6 rfl R X om om];have e:((R*1048576+X:Nat):Int)=(R:Int)*1048576+X:=zq;rw [e];exact (show N1 .i64 ((R:Int)*1048576+X) _ from a3U om om)
def b9w {a b:Int} (h0:0<=a) (h1:a<=9223372036854775807) (hb:0<b):N1 .i64 (a.tdiv b) (a / b):=by
 rw [a5h h0];have h2:0<=a / b:=aD2 h0 om;have h3:a / b<=a:=Int.ediv_le_self _ h0;exact a3U om om
def b6I {l:LI} {n:Nat} (h:0<n) (hn:n<=l.length):l[0+((n:Int) - 1).toNat]? =some (dat l (n - 1)):=by rw [W7];exact a30 h hn
def b5G (a:LI) (d:Int) (ha:Okd a) (la:a.length<=1000000) (hd:0<d) (hd2:d<1048576):
 ec 232 [j7 a,eI d] [] (.tup [j7 (dg (val a / d).toNat),eI (val a % d)]) []:=by
 have l1:(a.map j3).length=a.length:=zq;refine ac Tryz.func232 ?_;conv=>whnf
 repeat' (first|refine zx ?_|refine a2y om om om de ?_|apply zD<;>intro h<;>try omega)<;>conv=>whnf
 refine w7 g8 (σ:=Nat × LI × Int) (fun|(j,out,r)=>([j7 a,eI d,J,J,J,J,a1P 0 out,eI r,eI ((j:Int) - 1)]++Jn 29,[y3 out])) (fun x=>a1T a d x.1 x.2.1 x.2.2) (fun x=>x.1) (a.length,List.replicate a.length 0,0) [some 0]
  (a1T.init a hd) ⟨rfl,rfl,⟨i6 rfl rfl rfl ?_ rfl,trivial⟩,⟨m9 rfl,rfl,t6 rfl zq,rfl,g9 zq,trivial⟩⟩ ?_
 ·show List.replicate _ _=_;simp [toC,j3,F7]
 rintro ⟨j,out,r⟩ hI;have hI:a1T a d j out r:=hI;have hlen:=hI.len;have hle:=hI.le;have hr0:=hI.r0;have hr1:=hI.r1;have hda:=ha.dat (j - 1);conv=>whnf
 repeat' (first|refine zx ?_|refine K6 om (a30 om hle) ?_|refine T8 om (by show _<((out.length:Nat):Int);omega) ?_|refine z6 (b6I om om) ?_|refine ⟨de,_,bc8 om om,?_⟩|refine ⟨_,bN5 om om om om,?_⟩|refine ⟨om,_,b9w om om om,?_⟩|refine ap2 om ?_|apply zD<;>intro h<;>try omega)<;>conv=>whnf
 ·obtain ⟨j,rfl⟩:∃i,j=i+1:=⟨j - 1,om⟩;simp only [aY7] at *;have hst:=hI.step ha hd;rw [← a6s om] at hst;refine ⟨[some 0],(j,out.set j ((r*1048576+dat a j) / d),(r*1048576+dat a j).tmod d),⟨rfl,rfl,⟨i6 rfl rfl rfl (S6 om) rfl,trivial⟩,⟨rfl,rfl,t6 rfl zq,rfl,g9 om,trivial⟩⟩,hst,?_⟩;show j<j+1;omega
 ·have hj:j=0:=by omega
  subst hj;have ⟨hf,hr⟩:=hI.fin ha hd;have t:=a5v out om;rw [hf] at t;refine .inr ⟨_,_,C9 [0] t ⟨a2f (v7 zq rfl zi rfl rfl zq),trivial⟩ rfl,?_⟩;conv=>whnf
  repeat' (first|refine zx ?_|apply zD<;>intro h<;>try omega)<;>conv=>whnf
  exact n8 ⟨rfl,g9 hr,trivial⟩
open St1 St2 St3 St4 St5 St6 St7 St8 StA StB StC
def b4p {pre out post:LI} {k:Nat} (h:k<out.length):(pre++out++post)[pre.length+(k:Int).toNat]? =some (dat out k):=by
 rw [lbD,lbc om,show pre.length+(k:Int).toNat - pre.length=k by omega,lbb h];exact C4 h
def a9J {pre out post:LI} {k:Nat} {v:Int} (h:k<out.length):(toC ((pre++out++post).map j3)).set (pre.length+(k:Int).toNat) [C.t (ti v)]=toC ((pre++out.set k v++post).map j3):=by
 have e:(pre++out++post).set (pre.length+k) v=pre++out.set k v++post:=by
  rw [lbD,List.set_append_right _ _ om,show pre.length+k - pre.length=k by omega,b4S _ _ h,lbD]
 rw [← e];show (toC ((pre++out++post).map j3)).set (pre.length+k) _=_;simp [toC,j3,a67]
def a0N (w v g:Int):Int:=if g*v<=w then g else g - 1
def b9k (pre w post v:LI) (g:Int) (hw:Okd w) (hv:Okd v) (lw:w.length<=1000000) (lv:v.length<=w.length) (hg:0<=g/\g<1048576) (hgv:g*val v<=val w+val v):
 ec 233 [.c (.own 0 pre.length w.length false),j7 v,eI g] [y3 (pre++w++post)] (eI (a0N (val w) (val v) g))
  [y3 (pre++a1F w.length (dg (val w - a0N (val w) (val v) g*val v).toNat)++post)]:=by
 have l1:(v.map j3).length=v.length:=zq;refine ac Tryz.func233 ?_;conv=>whnf
 repeat' (first|refine zx ?_|apply zD<;>intro h<;>try omega)<;>conv=>whnf
 refine w7 g8 (σ:=Nat × LI × Int) (fun|(k,out,c)=>([S.c (C.own 0 pre.length w.length false),j7 v,eI g,J,J,J,J,eI c,J,J,J,J,J,eI w.length,eI k]++Jn 63,[y3 (pre++out++post)])) (fun x=>aj7 w v g x.1 x.2.1 x.2.2) (fun x=>w.length - x.1) (0,w,0) [some 0]
  (aj7.init g hw) ⟨rfl,rfl,⟨i6 rfl rfl rfl rfl rfl,trivial⟩,⟨⟨rfl,rfl,rfl,fun h=>h⟩,m9 rfl,rz⟩⟩ ?_
 rintro ⟨k,out,c⟩ hI;have hI:aj7 w v g k out c:=hI;have hlen:=hI.len;have hle:=hI.le;have hc0:=hI.c0;have hc1:=hI.c1;have hdo:=hI.ok.dat k;have hm:=a56 hg (hv.dat k);conv=>whnf
 repeat' (first|refine zx ?_|refine j4 (C4 om) ?_|refine z6 (b4p om) ?_|refine ⟨_,aR5.ok (by first|exact a8s|exact at6) _,?_⟩|refine ⟨de,_,aw3 _,?_⟩|apply zD<;>intro h<;>try omega)<;>conv=>whnf
 ·have hst:=hI.step hv hg om;refine ⟨[some 0],(k+1,out.set k ((dat out k - c - g*dat v k) % 1048576),-((dat out k - c - g*dat v k) / 1048576)),⟨rfl,rfl,⟨i6 rfl rfl rfl (a9J om) rfl,trivial⟩,⟨⟨rfl,rfl,rfl,fun h=>h⟩,rfl,rfl,g9 (Int.zero_sub _),rfl,g9 om,trivial⟩⟩,hst,?_⟩;show w.length - (k+1)<w.length - k;omega
 ·have hst:=hI.step hv hg om;rw [Y6 (l:=v) (i:=k) om,Int.mul_zero,Int.sub_zero] at hst;refine ⟨[some 0],(k+1,out.set k ((dat out k - c) % 1048576),-((dat out k - c) / 1048576)),⟨rfl,rfl,⟨i6 rfl rfl rfl (a9J om) rfl,trivial⟩,⟨⟨rfl,rfl,rfl,fun h=>h⟩,rfl,rfl,g9 (Int.zero_sub _),rfl,g9 om,trivial⟩⟩,hst,?_⟩;show w.length - (k+1)<w.length - k;omega
 ·have hk:k=w.length:=by omega
  subst hk;have hc:c=0:=by assumption
  have ⟨h1,h2⟩:=hI.zero lv hw hv hg.1;have hq:a0N (val w) (val v) g=g:=by unfold a0N;rw [iB (h1.1 hc)]
  rw [hq,←h2 hc,←b4F hI.ok hlen];exact ⟨⟨[some 0],rfl,rfl,⟨i6 rfl rfl rfl rfl rfl,trivial⟩,rfl⟩⟩
 ·have hk:k=w.length:=by omega
  subst hk;have hc:¬c=0:=by assumption
  have ⟨h1,h2⟩:=hI.zero lv hw hv hg.1;have hlt:¬g*val v<=val w:=fun h=>hc (h1.2 h)
  have hq:a0N (val w) (val v) g=g - 1:=by unfold a0N;rw [iC hlt]
  have hvl:=a0a hv;have hpw:=a1r lv;rw [hq];refine w7 g8 (σ:=Nat × LI × Int) (fun|(k,o,c)=>([S.c (C.own 0 pre.length w.length false),j7 v,eI g,J,J,J,J,J,J,J,eI c]++Jn 37++[eI w.length,eI k]++Jn 28,[y3 (pre++o++post)])) (fun x=>a8S out v x.1 x.2.1 x.2.2) (fun x=>w.length - x.1) (0,out,0) [some 0]
   (a8S.init hI.ok) ⟨rfl,rfl,⟨i6 rfl rfl rfl rfl rfl,trivial⟩,⟨⟨rfl,rfl,rfl,fun h=>h⟩,m9 rfl,rz⟩⟩ ?_
  rintro ⟨k,o,c'⟩ hB;have hB:a8S out v k o c':=hB;have hlen2:=hB.len;have hle2:=hB.le;have hb0:=hB.c0;have hb1:=hB.c1;have hdo:=hB.ok.dat k;have hdv:=hv.dat k;conv=>whnf
  repeat' (first|refine zx ?_|refine j4 (C4 om) ?_|refine z6 (b4p om) ?_|refine ⟨_,aR5.ok (by first|exact a8s|exact at6) _,?_⟩|refine ⟨de,_,aw3 _,?_⟩|apply zD<;>intro h<;>try omega)<;>conv=>whnf
  ·have hst:=hB.step hv om;refine ⟨[some 0],(k+1,o.set k ((c'+dat o k+dat v k) % 1048576),(c'+dat o k+dat v k) / 1048576),⟨rfl,rfl,⟨i6 rfl rfl rfl (a9J om) rfl,trivial⟩,⟨⟨rfl,rfl,rfl,fun h=>h⟩,rfl,rfl,rfl,rfl,g9 om,trivial⟩⟩,hst,?_⟩;show w.length - (k+1)<w.length - k;omega
  ·have hst:=hB.step hv om;rw [Y6 (l:=v) (i:=k) om,af7] at hst;refine ⟨[some 0],(k+1,o.set k ((c'+dat o k) % 1048576),(c'+dat o k) / 1048576),⟨rfl,rfl,⟨i6 rfl rfl rfl (a9J om) rfl,trivial⟩,⟨⟨rfl,rfl,rfl,fun h=>h⟩,rfl,rfl,rfl,rfl,g9 om,trivial⟩⟩,hst,?_⟩;show w.length - (k+1)<w.length - k;omega
  ·have hk:k=w.length:=by omega
   subst hk;have e:=hI.back hB lv om om;have e2:val w - (g - 1)*val v=val w - g*val v+val v:=by rw [Int.sub_mul];omega
   rw [e2,←e,←b4F hB.ok om];exact ⟨⟨[some 0],rfl,rfl,⟨i6 rfl rfl rfl rfl rfl,trivial⟩,rfl⟩⟩
open St1 St2 St3 St4 St5 St6 St7 St8 StA StB StC
abbrev b3A (m n:Nat):S:=.tup [j7 (dg (m / n)),j7 (dg (m % n))]
def bB9 (m n:Nat) (hn:0<n) (h:m<n) (lm:(dg m).length<=400000) (ln:(dg n).length<=400000):
 ec 225 [j7 (dg m),j7 (dg n)] [] (b3A m n) []:=by
 have c:=a4h (dg m) (dg n) (Z6 m) (Z6 n) om om;rw [v4,v4,a4U om] at c;have e1:m / n=0:=Nat.div_eq_of_lt h;have e2:m % n=m:=b4e h;unfold b3A;rw [e1,e2,a0Q];refine ac Tryz.func225 ?_;conv=>whnf
 repeat' (first|refine zx ?_|refine qp (al3 _ om) ?_|apply zD<;>intro h<;>try omega)<;>conv=>whnf
 exact n8 rz
def bE5 (m n:Nat) (hn:0<n) (h:n<=m) (hl:(dg n).length=1) (lm:(dg m).length<=400000):
 ec 225 [j7 (dg m),j7 (dg n)] [] (b3A m n) []:=by
 have l2:((dg n).map j3).length=(dg n).length:=zq;have c:=a4h (dg m) (dg n) (Z6 m) (Z6 n) om om;rw [v4,v4] at c;have hc:0<=Q5 m n:=by unfold Q5;split<;>(try split)<;>omega
 have hn2:=U3 n;rw [hl] at hn2;have hn3:(n:Int)<1048576:=by simpa [pw] using hn2
 have hd:dg n=[(n:Int)]:=by
  rw [a8G hn,show n / 1048576=0 by omega,show n % 1048576=n by omega];rfl
 have sh:=b5G (dg m) n (B6 m) om om hn3;rw [v4] at sh;have e1:((m:Int) / n).toNat=m / n:=by rw [← Int.natCast_ediv];rfl
 have e2:(m:Int) % n=((m % n:Nat):Int):=zq;rw [e1,e2] at sh;have hr:m % n<n:=a9G _ hn;have t:=a5v [((m % n:Nat):Int)] zq;rw [R5 (by intro x hx;simp at hx;omega)] at t;have e3:(val [((m % n:Nat):Int)]).toNat=m % n:=by simp only [val];omega
 rw [e3] at t;refine ac Tryz.func225 ?_;conv=>whnf
 repeat' (first|refine zx ?_|refine K6 (x:=(n:Int)) om (by rw [hd];rfl) ?_|refine .inl ⟨_,_,a1W t ⟨a2f (av7 rfl),trivial⟩ rfl,?_⟩|apply zD<;>intro h<;>try omega)<;>conv=>whnf
 all_goals (first|omega|exact n8 rz)
open St1 St2 St3 St4 St5 St6 St7 St8 StA StB StC
def bG4 {n k:Nat} {top:Int} (hn:0<n) (ht:dat (dg n) ((dg n).length - 1)=top) (hk:k<=19) (h1:top*2 ^ k<1048576) (h2:¬top*2 ^ k<524288):
 (dg (n*2 ^ k)).length=(dg n).length/\524288<=dat (dg (n*2 ^ k)) ((dg n).length - 1):=by
 have hl:(dg n).length≠0:=by rw [Ne,a0B,O8];omega
 obtain ⟨l,hl'⟩:∃l,(dg n).length=l+1:=⟨(dg n).length - 1,om⟩;rw [hl',aY7] at ht ⊢;have e1:=B2 (dg n) l;rw [lbn om,v4,ht] at e1;have a1:=B8 ((B6 n).take l);have a2:=a0a ((B6 n).take l);rw [lbs,a3q om] at a2;have t0:=(B6 n).dat l;rw [ht] at t0;obtain ⟨T,rfl⟩:=a36 t0.1;have hp:(0:Int)<2 ^ k:=Int.pow_pos de;have hpp:=O1 l;have e2:(2:Int) ^ k*2 ^ (20 - k)=1048576:=by rw [← Int.pow_add,show k+(20 - k)=20 by omega];rfl
 have h3:(T:Int)<2 ^ (20 - k):=by
  refine b2X (a:=(2:Int) ^ k) ?_ (V5 hp);rw [e2,a7P];exact h1
 have h4:((T:Int)+1)*2 ^ k<=1048576:=by
  have:=lbW (a:=(T:Int)+1) (b:=2 ^ (20 - k)) (c:=2 ^ k) om (V5 hp);rw [e2,a7P] at this;exact this
 have hV:(((n*2 ^ k:Nat)):Int)=n*2 ^ k:=zq;have h5:((n*2 ^ k:Nat):Int)<pw (l+1):=by
  rw [hV,M3];have b1:(n:Int)+1<=pw l*(T+1):=by rw [aD1];omega
  have b2:=lbX (c:=(2:Int) ^ k) b1 (V5 hp);have b3:=lbW (c:=pw l) h4 (V5 hpp);rw [← Int.mul_assoc] at b3;rw [Int.add_mul] at b2;omega
 have h6:pw l*524288<=((n*2 ^ k:Nat):Int):=by
  rw [hV];have b1:pw l*T<=(n:Int):=om;have b2:=lbX (c:=(2:Int) ^ k) b1 (V5 hp);have b3:=lbW (a:=524288) (b:=(T:Int)*2 ^ k) (c:=pw l) om (V5 hpp);rw [← Int.mul_assoc] at b3;omega
 have h7:(dg (n*2 ^ k)).length=l+1:=by
  have c1:=Q8 h5;rcases I0 (dg (n*2 ^ k)).length (l+1) with c2|c2
  ·have c3:=U3 (n*2 ^ k);have c4:=a1r (show (dg (n*2 ^ k)).length<=l by omega);omega
  ·omega
 refine ⟨h7,?_⟩;have f1:=B2 (dg (n*2 ^ k)) l;rw [lbn om,v4] at f1;have f2:=a0a ((B6 (n*2 ^ k)).take l);rw [lbs,a3q om] at f2;rcases a6D (dat (dg (n*2 ^ k)) l) 524288 with c|c
 ·exfalso;have:=lbW (a:=dat (dg (n*2 ^ k)) l+1) (b:=524288) (c:=pw l) om (V5 hpp);rw [aD1] at this;omega
 ·exact c
open St1 St2 St3 St4 St5 St6 St7 St8 StA StB StC
def b9O {a a' b b':Nat} {x y:S} (h1:a=a') (h2:b=b'):[S.c (.own 0 a b false),x,y]=[S.c (.own 0 a' b' false),x,y]:=by rw [h1,h2]
def b2e {V W v1 top g r:Int} (hG:a12 V W v1 top g r) (hV:0<V) (hW:0<=W) (h1:g<1048576) (h2:g*V<=W+V):
 0<=a0N W V g/\a0N W V g<1048576/\0<=W - a0N W V g*V/\W - a0N W V g*V<V:=by
 have h3:=hG.hi;have h4:=hG.g0;rw [Int.add_mul,a2u] at h3;unfold a0N;by_cases hc:g*V<=W
 ·rw [iB hc];omega
 ·rw [iC hc,Int.sub_mul,a2u];have:g≠0:=by rintro rfl;simp at hc;omega
  omega
theorem zu {p:Prop} (h:p:=by simp [toC];omega):p:=h
def bD7 (m n:Nat) (hn:0<n) (hmn:n<=m) (hl:2<=(dg n).length) (lm:(dg m).length<=300000) (ln:(dg n).length<=300000):
 ec 225 [j7 (dg m),j7 (dg n)] [] (b3A m n) []:=by
 have l1:((dg m).map j3).length=(dg m).length:=zq;have l2:((dg n).map j3).length=(dg n).length:=zq;have c:=a4h (dg m) (dg n) (Z6 m) (Z6 n) om om;rw [v4,v4] at c;have hc:0<=Q5 m n:=by unfold Q5;split<;>(try split)<;>omega
 have ht0:=(B6 n).dat ((dg n).length - 1);have ht1:dat (dg n) ((dg n).length - 1)≠0:=(Z6 n).2 _ (C4 om);generalize htop:dat (dg n) ((dg n).length - 1)=top at ht0 ht1;refine ac Tryz.func225 ?_;conv=>whnf
 repeat' (first|refine zx ?_|apply zD<;>intro h<;>try omega)<;>conv=>whnf
 refine w7 g8 (σ:=Nat) (fun k=>([j7 (dg m),j7 (dg n),J,J,J,J,J,J,eI (2 ^ k)]++Jn 161,[])) (fun k=>k<=19/\top*2 ^ k<1048576) (fun k=>20 - k) 0 []
  ⟨om,om⟩ ⟨rfl,rfl,trivial,⟨m9 rfl,m9 rfl,rz⟩⟩ ?_
 rintro k ⟨hk1,hk2⟩;have hk1:k<=19:=hk1;have hk2:top*2 ^ k<1048576:=hk2;have hp0:(0:Int)<2 ^ k:=Int.pow_pos de;have hpt:0<top*2 ^ k:=ac3 om hp0;have hpk:(2:Int) ^ k<=524288:=by
  have:=a86 (n:=2) de hk1;have e:((2 ^ k:Nat):Int)=2 ^ k:=zq;omega
 have hgl:(dg n)[(((((dg n).map j3).length:Nat):Int) - 1).toNat]? =some top:=by rw [l2,←htop];exact a8K om
 conv=>whnf
 repeat' (first|refine zx ?_|refine K6 om hgl ?_|apply zD<;>intro h<;>try omega)<;>conv=>whnf
 ·have hlt:top*2 ^ k<524288:=by omega
  refine ⟨[],k+1,⟨rfl,rfl,trivial,⟨rfl,rfl,g9 (Int.pow_succ _ _).symm,trivial⟩⟩,⟨?_,?_⟩,?_⟩
  ·rcases I0 k 19 with h1|h1
   ·exact h1
   ·have:k=19:=by omega
    subst this;omega
  ·rw [Int.pow_succ,←Int.mul_assoc];omega
  ·show 20 - (k+1)<20 - k;omega
 ·have hsh:Okd [(2:Int) ^ k]:=by intro x hx;simp at hx;omega
  have mu:=bM2 (dg m) [2 ^ k] (B6 m) hsh om zq;have mv:=bA5 (dg n) [2 ^ k] (B6 n) hsh om zq;have ev:val [(2:Int) ^ k]=2 ^ k:=by simp [val]
  rw [ev,v4] at mu mv;generalize hU:((m:Int)*2 ^ k).toNat=U at mu;generalize hV:((n:Int)*2 ^ k).toNat=V at mv;refine .inr ⟨_,_,aI4 (b3X mu ⟨aZ8,a2f (av7 rfl),trivial⟩) rfl rfl rfl rfl,?_⟩;conv=>whnf
  have hVe:V=n*2 ^ k:=by
   have e:((n:Int)*2 ^ k)=((n*2 ^ k:Nat):Int):=zq;rw [← hV,e];exact lbY _
  have hUe:U=m*2 ^ k:=by
   have e:((m:Int)*2 ^ k)=((m*2 ^ k:Nat):Int):=zq;rw [← hU,e];exact lbY _
  have ⟨lV,hvt⟩:=bG4 hn htop hk1 hk2 h;rw [← hVe] at lV hvt;have hp1:0<2 ^ k:=Nat.pow_pos de;have lU3:(dg m).length<=(dg U).length:=t9 (by rw [hUe];exact aK2 m hp1);have lU2:(dg U).length<=(dg m).length+1:=Q8 (by
   have h1:=U3 m;rw [M3,hUe];have h2:=lbW (a:=2 ^ k) (b:=1048576) (c:=(m:Int)+1) om om;have h3:(((m*2 ^ k:Nat)):Int)=m*2 ^ k:=zq;rw [Int.add_mul] at h2;omega)
  have lU1:(a1F ((dg m).length+[(2:Int) ^ k].length) (dg U)).length<=300001:=by rw [aN5 (by simpa using lU2)];simp;omega
  have l3:((dg V).map j3).length=(dg V).length:=zq;have lmn:(dg n).length<=(dg m).length:=t9 hmn;have l4:(toC [[T.atm (Value.int .i64 0)]]).length=1:=rfl
  repeat' (first|refine zx ?_|refine v8 (by simp [toC,a1F]) zu ?_|refine .inl ⟨_,_,a1W mv ⟨aZ8,a2f (av7 rfl),trivial⟩ rfl,?_⟩|refine a2y om om om de ?_|apply zD<;>intro h<;>try omega)<;>conv=>whnf
  have hV0:0<V:=by rw [hVe];exact Nat.mul_pos hn hp1
  refine w7 g8 (σ:=Nat × LI × LI) (fun|(j,u,q)=>(Jn 8++[eI (2 ^ k),a1P 0 u,j7 (dg V),eI (dg V).length,a1P 1 q,eI ((j:Int) - 1)]++Jn 156,[y3 u,y3 q])) (fun x=>ak1 U V ((dg U).length+1) (dg V).length x.1 x.2.1 x.2.2) (fun x=>x.1)
   ((dg U).length+1 - (dg V).length,dg U++[0],List.replicate ((dg U).length+1 - (dg V).length) 0) [some 1,some 2]
   (ak1.init hV0 om) ⟨rfl,rfl,⟨i6 rfl rfl rfl ?_ rfl,i6 rfl rfl rfl ?_ rfl,trivial⟩,⟨rfl,t6 rfl ?_,m9 rfl,g9 om,t6 rfl ?_,g9 ?_,trivial⟩⟩ ?_
  ·simp [toC,D8,a1F,lbC,List.take_append,j3]
  ·show List.replicate _ _=_;simp [toC,j3,F7]
  ·simp [toC]
  ·simp [toC]
  ·simp [toC]
  rintro ⟨j,u,q⟩ hD;have hD:ak1 U V ((dg U).length+1) (dg V).length j u q:=hD;have hlu:=hD.lu;have hlq:=hD.lq;have hle:=hD.le;have hdt:0<j->dat u (j - 1+(dg V).length)=dat u (j - 1+(dg V).length):=fun _=>rfl
  have gu0:0<j->u[0+(((j:Int) - 1)+(dg V).length).toNat]? =some (dat u (j - 1+(dg V).length)):=fun h=>V9 om om
  have gu1:0<j->u[0+(((j:Int) - 1)+(dg V).length - 1).toNat]? =some (dat u (j - 1+(dg V).length - 1)):=fun h=>V9 om om
  have d0:=hD.oku.dat (j - 1+(dg V).length);have d1:=hD.oku.dat (j - 1+(dg V).length - 1);have dv:=(B6 V).dat ((dg V).length - 1);have hvt2:524288<=dat (dg V) ((dg V).length - 1):=by rw [lV];exact hvt
  conv=>whnf
  repeat' (first|refine zx ?_|refine T8 om (by show _<((u.length:Nat):Int);omega) ?_|refine z6 (gu0 om) ?_|refine z6 (gu1 om) ?_|refine ⟨de,_,bc8 om om,?_⟩|refine ⟨_,bN5 om om om om,?_⟩|refine K6 om (a8K om) ?_|refine ⟨om,_,b9w om om om,?_⟩|refine ap2 om ?_|apply zD<;>intro h<;>try omega)<;>conv=>whnf
  ·have hj:0<j:=by omega
   obtain ⟨i,rfl⟩:∃i,j=i+1:=⟨j - 1,om⟩;simp only [aY7] at *;obtain ⟨L,hL⟩:∃L,(dg V).length=L+2:=⟨(dg V).length - 2,om⟩;have ⟨w3,w2,w0,wv,wz,wlt⟩:=hD.window rfl;generalize hw:(u.drop i).take ((dg V).length+1)=w at w3 w2 wv wlt;have hwo:Okd w:=by rw [← hw];exact (hD.oku.drop i).take _
   have dw:∀t,t<=(dg V).length->dat w t=dat u (i+t):=fun t ht=>by
    rw [← hw];unfold dat;rw [lbl,lbi,iB om,lbj,←lbl]
   have win:=Win.of (B6 V) hwo hL om (by rw [hL] at hvt2;exact hvt2) (by rw [v4];exact wlt);rw [dw (L+2) om,dw (L+1) om,dw L om,v4] at win;have eL1:(dg V).length - 1=L+1:=om;have eu0:i+(L+2)=i+(dg V).length:=om;have eu1:i+(L+1)=i+(dg V).length - 1:=om;rw [eu0,eu1] at win;generalize ht:dat u (i+(dg V).length)*1048576+dat u (i+(dg V).length - 1)=top2 at win;have win':=win;have ht0:=win.t0;refine w7 g8 (σ:=Int × Int) (fun|(g,r)=>(Jn 8++[eI (2 ^ k),a1P 0 u,j7 (dg V),eI (dg V).length,a1P 1 q,eI i,J,eI g,eI r]++Jn 153,[y3 u,y3 q])) (fun x=>a12 V (val w) (dat (dg V) (L+1)) top2 x.1 x.2) (fun x=>x.1.toNat)
    (top2 / dat (dg V) (L+1),top2 % dat (dg V) (L+1)) [some 0,some 1]
    (a12.init win) ⟨rfl,rfl,⟨i6 rfl rfl rfl rfl rfl,i6 rfl rfl rfl rfl rfl,trivial⟩,⟨rfl,t6 rfl rfl,m9 rfl,rfl,t6 rfl rfl,g9 om,g9 ?_,g9 ?_,trivial⟩⟩ ?_
   ·rw [eL1]
   ·rw [eL1,a6s ht0]
   rintro ⟨g,r⟩ hG;have hG:a12 V (val w) (dat (dg V) (L+1)) top2 g r:=hG;have hg0:=hG.g0;have hgu:=hG.gu;have hr0:=hG.r0;have hru:=hG.ru;have dv2:=(B6 V).dat L;have dv1:=(B6 V).dat (L+1);have du2:=hD.oku.dat (i+L);have hgm:0<=g*dat (dg V) L/\g*dat (dg V) L<=2097152*1048576:=⟨lb0 hg0 dv2.1,a5N hgu om dv2.1 om⟩;have gv2:(dg V)[((((dg V).length:Nat):Int) - 2).toNat]? =some (dat (dg V) L):=by rw [show ((((dg V).length:Nat):Int) - 2).toNat=L by omega];exact C4 om
   have gv1:(dg V)[((((dg V).length:Nat):Int) - 1).toNat]? =some (dat (dg V) (L+1)):=by rw [show ((((dg V).length:Nat):Int) - 1).toNat=L+1 by omega];exact C4 om
   have gu2:u[0+((i:Int)+((dg V).length:Nat) - 2).toNat]? =some (dat u (i+L)):=V9 om om;conv=>whnf
   repeat' (first|refine zx ?_|refine T8 om (by show _<((u.length:Nat):Int);omega) ?_|refine K6 om gv2 ?_|refine K6 om gv1 ?_|refine z6 gu2 ?_|refine ⟨de,_,bc8 om om,?_⟩|refine ⟨_,bN5 om om om om,?_⟩|refine aK3 om om (by show _<=((u.length:Nat):Int);omega) ?_|apply zD<;>intro h<;>try omega)<;>conv=>whnf
   ·have hgc:1048576<=g:=by omega
    have hst:=a12.step win hG (.inl hgc) (B8 hwo);exact ⟨[some 0,some 1],(g - 1,r+dat (dg V) (L+1)),⟨rfl,rfl,⟨i6 rfl rfl rfl rfl rfl,i6 rfl rfl rfl rfl rfl,trivial⟩,⟨rfl,t6 rfl rfl,rfl,rfl,t6 rfl rfl,rz⟩⟩,hst,by have:=hst.g0;show (g - 1).toNat<g.toNat;omega⟩
   ·have hgc:r<1048576/\r*1048576+dat u (i+L)<g*dat (dg V) L:=by omega
    have hst:=a12.step win hG (.inr hgc) (B8 hwo);exact ⟨[some 0,some 1],(g - 1,r+dat (dg V) (L+1)),⟨rfl,rfl,⟨i6 rfl rfl rfl rfl rfl,i6 rfl rfl rfl rfl rfl,trivial⟩,⟨rfl,t6 rfl rfl,rfl,rfl,t6 rfl rfl,rz⟩⟩,hst,by have:=hst.g0;show (g - 1).toNat<g.toNat;omega⟩
   all_goals
    have hgc:¬(1048576<=g\/(r<1048576/\r*1048576+dat u (i+L)<g*dat (dg V) L)):=om;have ⟨hg1,hgV⟩:=a12.fin win hG hgc (by
     have h1:=win.Vl;have h3:=win.v1l;have h2:=lbW (a:=1048576) (b:=dat (dg V) (L+1)*1048576+dat (dg V) L) om (V5 win.P0);omega)
    have st:=b9k (u.take i) w (u.drop (i+((dg V).length+1))) (dg V) g hwo (B6 V) om om ⟨hg0,hg1⟩ (by rw [v4];exact hgV);rw [v4] at st;have ⟨q0,q1,q2,q3⟩:=b2e hG om (B8 hwo) hg1 hgV;have hds:=hD.step rfl hV0 ⟨q0,q1⟩ (by rw [hw];exact q2) (by rw [hw];exact q3);rw [hw] at hds;generalize a0N (val w) V g=Q at st q0 q1 q2 q3 hds;rw [← w3,w2] at st;generalize hu':u.take i++a1F ((dg V).length+1) (dg (val w - Q*V).toNat)++u.drop (i+((dg V).length+1))=u' at st hds;refine .inr ⟨_,_,W9 (H':=[y3 u',y3 q]) [0] st (b9O (by rw [w0];omega) om) rfl rfl de ?_ zq zq rfl rfl rfl ?_ ?_,?_⟩
    ·intro i k hk
     match i,hk with
     |0,hk=>
      injection hk with hk;subst hk;exact ⟨rfl,rfl,a5I _,_,rfl,E5 rfl⟩
    ·intro i k hk
     match i,hk with
     |0,hk=>
      injection hk with hk;subst hk;exact ⟨_,rfl,E5 rfl⟩
    ·intro j hj hn
     match j,hj with
     |0,_=>simp at hn
     |1,_=>rfl
    conv=>whnf
    have hlu':=hds.lu;refine zz ?_;conv=>whnf
    repeat' (first|refine zx ?_|refine z6 (V9 rfl om) ?_|apply zD<;>intro h<;>try omega)<;>conv=>whnf
    exact ⟨[some 0,some 1],(i,u',q.set i Q),⟨rfl,rfl,⟨i6 rfl rfl rfl rfl rfl,i6 rfl rfl rfl (S6 (i:=i) (n:=(i:Int)) zq) rfl,trivial⟩,⟨rfl,t6 rfl (hlu.trans hlu'.symm),rfl,rfl,t6 rfl zq,rz⟩⟩,hds,by show i<i+1;omega⟩
  ·have hj:j=0:=by omega
   subst hj;have ⟨fq,fu⟩:=hD.fin hV0;have tu:=a5v u om;rw [R5 hD.oku,fu,lbY] at tu;have tq:=a5v q om;rw [R5 hD.okq,fq,lbY] at tq;have lUV:(dg (U % V)).length<=(dg U).length:=t9 (Nat.mod_le _ _);have sh:=b5G (dg (U % V)) (2 ^ k) (B6 _) om om om;have e1:U % V / 2 ^ k=m % n:=by rw [hUe,hVe,Nat.mul_mod_mul_right,Nat.mul_div_cancel _ hp1]
   have e2:U / V=m / n:=by rw [hUe,hVe,Nat.mul_div_mul_right _ _ hp1]
   have e3:((U % V:Nat):Int) / 2 ^ k=((m % n:Nat):Int):=by rw [← e1];simp
   rw [v4,e3,lbY] at sh;rw [e2] at tq;refine .inr ⟨_,_,C9 [0] tu ⟨a2f (v7 zq rfl zi rfl rfl zq),trivial⟩ rfl,?_⟩;conv=>whnf
   repeat' (first|refine zx ?_|apply zD<;>intro h<;>try omega)<;>conv=>whnf
   refine .inr ⟨_,_,C9 [1] tq ⟨a2f (v7 zq rfl zi rfl rfl zq),trivial⟩ rfl,?_⟩;conv=>whnf
   exact n8 rz
def bz8 (m n:Nat) (hn:0<n) (lm:(dg m).length<=300000) (ln:(dg n).length<=300000):
 ec 225 [j7 (dg m),j7 (dg n)] [] (b3A m n) []:=by
 rcases I0 m n with h|h
 ·exact bB9 m n hn h om om
 ·have h1:(dg n).length≠0:=by rw [Ne,a0B,O8];omega
  by_cases hl:(dg n).length=1
  ·exact bE5 m n hn h hl om
  ·exact bD7 m n hn h om lm ln
set_option maxHeartbeats 8000000
open St1 St2 St3 St4 St5 St6 St7 St8 StA StB StC
def bl (z:Int):Nat:=(dg z.natAbs).length
def a5y (m n:Nat):(dg (m+n)).length<=max (dg m).length (dg n).length+1:=by
 refine Q8 ?_;have h1:=U3 m;have h2:=U3 n;have h3:=a1r (Nat.le_max_left (dg m).length (dg n).length);have h4:=a1r (Nat.le_max_right (dg m).length (dg n).length);rw [M3];omega
def a5t (m n:Nat):(dg (m*n)).length<=(dg m).length+(dg n).length:=by
 refine Q8 ?_;have h1:=U3 m;have h2:=U3 n;rw [a6f];have h3:(m:Int)*n<=m*(pw (dg n).length):=lbW om om;have h4:(m:Int)*pw (dg n).length<pw (dg m).length*pw (dg n).length:=Int.mul_lt_mul_of_pos_right h1 (O1 _);have h5:((m*n:Nat):Int)=m*n:=zq;omega
def Z7 (x:Int):bl (-x)=bl x:=by unfold bl;rw [a2v]
def a8u (x y:Int):bl (x+y)<=max (bl x) (bl y)+1:=lbS (t9 (Int.natAbs_add_le x y)) (a5y _ _)
def I5 (x y:Int):bl (x*y)<=bl x+bl y:=by unfold bl;rw [a3y];exact a5t _ _
def a5g {x y:Int} (h:x.natAbs<=y.natAbs):bl x<=bl y:=t9 h
def U5 {x:Int} (h0:-9223372036854775808<=x) (h1:x<=9223372036854775807):bl x<=4:=Q8 (by simp only [pw];omega)
def w9 {x:Int} (h0:-1048575<=x) (h1:x<=1048575):bl x<=1:=Q8 (by simp only [pw];omega)
def ac6 (x y:Int) {n:Nat} (lx:bl x<=n) (ly:bl y<=n):bl (Int.gcd x y)<=n:=by
 by_cases h:x=0
 ·subst h;unfold bl at *;rw [Int.gcd_zero_left];simpa using ly
 ·refine lbS (t9 ?_) lx;simp only [aS1];exact Int.gcd_le_natAbs_left y h
def rl (x:Rat):Nat:=max (bl x.num) (bl x.den)
def K9 (x:Rat):bl x.num<=rl x:=Nat.le_max_left _ _
def K3 (x:Rat):bl x.den<=rl x:=Nat.le_max_right _ _
def Y7 {p q:Int} (hq:q≠0):rl (Rat.divInt p q)<=max (bl p) (bl q):=by
 unfold rl;rw [Rat.num_divInt,Rat.den_divInt,iC hq];have h1:bl (q.sign*p / (q.gcd p:Nat))<=bl p:=a5g (by
  refine lbS (b3y _ _) ?_;rw [a3y];have:q.sign.natAbs=1:=by
   rcases a5b q 0 with h|h|h
   ·rw [a2q h];rfl
   ·exact absurd h hq
   ·rw [S9 h];rfl
  rw [this,Nat.one_mul];exact lbR _)
 have h2:bl ((q.natAbs / q.gcd p:Nat):Int)<=bl q:=a5g (by simp only [aS1];exact Nat.div_le_self _ _);omega
def am9 (x y:Rat):x+y=Rat.divInt (x.num*y.den+y.num*x.den) (x.den*y.den):=by rw [Rat.add_def',←Rat.divInt_ofNat,a3Y]
def aS2 (x y:Rat):x*y=Rat.divInt (x.num*y.num) (x.den*y.den):=by rw [Rat.mul_def',←Rat.divInt_ofNat,a3Y]
def bk2 (x y:Rat):x / y=Rat.divInt (x.num*y.den) (x.den*y.num):=by
 rw [af3,Rat.inv_def];conv=>lhs;rw [← Rat.num_divInt_den x]
 rw [Rat.divInt_mul_divInt]
def b34 (x:Rat):(x.den:Int)≠0:=by have:=x.den_pos;omega
def ao1 (x y:Rat):(x.den:Int)*y.den≠0:=Int.mul_ne_zero (b34 x) (b34 y)
def a48 (x y:Rat):rl (x+y)<=rl x+rl y+1:=by
 rw [am9];have h1:=a8u (x.num*y.den) (y.num*x.den);have h2:=I5 x.num y.den;have h3:=I5 y.num x.den;have h4:=I5 x.den y.den;have:=Y7 (p:=x.num*y.den+y.num*x.den) (ao1 x y);unfold rl at *;omega
def a3i (x:Rat):rl (-x)=rl x:=by unfold rl;rw [az5,Rat.neg_den,Z7]
def aV4 (x y:Rat):rl (x - y)<=rl x+rl y+1:=by rw [b3V];have:=a48 x (-y);rw [a3i] at this;exact this
def aY3 (x y:Rat):rl (x*y)<=rl x+rl y:=by
 rw [aS2];have h2:=I5 x.num y.num;have h4:=I5 x.den y.den;have:=Y7 (p:=x.num*y.num) (ao1 x y);unfold rl at *;omega
def a0T (n:Int):rl (n:Rat)=max (bl n) 1:=by unfold rl;rw [a89,as0];rfl
def a8B (x y:Rat):Int:=if x<y then -1 else if y<x then 1 else 0
def bd2 {x:Rat}:x.num<0↔x<0:=by rw [Rat.lt_iff];simp
def b8P {x:Rat}:0<x.num↔0<x:=by rw [Rat.lt_iff];simp
def sgR (x:Rat):Int:=if x<0 then -1 else if 0<x then 1 else 0
def a9E (x:Rat):x.num.sign=sgR x:=by
 unfold sgR;by_cases h:x<0
 ·rw [iB h,a2q (bd2.2 h)]
 ·rw [iC h];by_cases h2:0<x
  ·rw [iB h2,S9 (b8P.2 h2)]
  ·rw [iC h2];have h3:¬x.num<0:=fun e=>h (bd2.1 e)
   have h4:¬0<x.num:=fun e=>h2 (b8P.1 e)
   rw [show x.num=0 by omega];rfl
set_option maxHeartbeats 1000000
def ba3 (m n:Nat) (lm:(dg m).length<=300000) (ln:(dg n).length<=300000):
 ec 217 [j7 (dg m),j7 (dg n)] [] (j7 (dg (m+n))) []:=by
 have h:=bQ5 (dg m) (dg n) (B6 m) (B6 n) om om;rw [v4,v4,show ((m:Int)+n).toNat=m+n by omega] at h;exact h
def ap8 (m n:Nat) (lm:(dg m).length<=300000) (h:n<=m):
 ec 218 [j7 (dg m),j7 (dg n)] [] (j7 (dg (m - n))) []:=by
 have h:=bO5 (dg m) (dg n) (B6 m) (B6 n) om (t9 h) (by rw [v4,v4];omega);rw [v4,v4,show ((m:Int) - n).toNat=m - n by omega] at h;exact h
def bG5 (m n:Nat) (lm:(dg m).length<=300000) (ln:(dg n).length<=300000):
 ec 228 [j7 (dg m),j7 (dg n)] [] (j7 (dg (m*n))) []:=by
 have h:=bA5 (dg m) (dg n) (B6 m) (B6 n) om om;rw [v4,v4,show ((m:Int)*n).toNat=m*n by rw [← a3Y];rfl] at h;exact h
def bG2 (m n:Nat) (lm:(dg m).length<=300000) (ln:(dg n).length<=300000):
 ec 200 [j7 (dg m),j7 (dg n)] [] (eI (Q5 m n)) []:=by
 have h:=a4h (dg m) (dg n) (Z6 m) (Z6 n) om om;rw [v4,v4] at h;exact h
def E3 (s:Int) (k:Nat) (h:s=1\/s=-1\/k=0) (lk:(dg k).length<=700000):
 ec 138 [eI s,j7 (dg k)] [] (bgS (bz (s*k))) []:=by
 have e:=b1W s (dg k) om;rw [b2t (B6 k) (by rw [v4];omega),v4] at e;exact e
def Sg (s:Int) (m:Nat):Prop:=(s=0/\m=0)\/(s=1/\0<m)\/(s=-1/\0<m)
def a7W (x:Int):Sg x.sign x.natAbs:=by
 rcases G6 x with ⟨e,h1⟩|⟨e,h1⟩|⟨e,h1⟩
 ·exact .inl ⟨e,om⟩
 ·exact .inr (.inl ⟨e,om⟩)
 ·exact .inr (.inr ⟨e,om⟩)
def a98 {s:Int} {m:Nat} (h:Sg s m):bz (s*m)=⟨s,dg m⟩:=by
 rcases h with ⟨rfl,rfl⟩|⟨rfl,h⟩|⟨rfl,h⟩
 ·rfl
 ·unfold bz;rw [a2u,S9 om];rfl
 ·unfold bz;rw [a2q om];congr 2;omega
def a37 (s:Int) (m:Nat) (h:Sg s m) (lm:(dg m).length<=300000):ec 195 [bgS ⟨s,dg m⟩] [] (n7 true) []:=by
 have:=a4B ⟨s,dg m⟩ (show (dg m).length<=1000000 by omega);rw [← a98 h,a1h,a98 h] at this;exact this
def a82 {b b':Bg} {e:Int} {H1:Hp} (h:b=b'):Fin 0 (.tup [bgS b,eI e]) H1 (.tup [bgS b',eI e]) []:=by
 subst h;exact n8 rz
def M5 {a b c d:Nat} (h:a<=max b c+1) (h2:max b c+1<=d):a<=d:=lbS h h2
def bE9 (s t:Int) (m n:Nat) (hs:Sg s m) (ht:Sg t n) (lm:(dg m).length<=200000) (ln:(dg n).length<=200000):
 ec 182 [bgS ⟨s,dg m⟩,bgS ⟨t,dg n⟩] [] (.tup [bgS (bz (s*m+t*n)),eI 0]) []:=by
 have r1:=a37 s m hs om;have r2:=a37 t n ht om;have ad:=ba3 m n om om;have c:=bG2 m n om om;have ls:=a5y m n;have fin:∀(z:Int) (H1:Hp),z=s*m+t*n->Fin 0 (.tup [bgS (if true then bz z else ⟨0,[]⟩),eI 0]) H1 (.tup [bgS (bz (s*m+t*n)),eI 0]) []:=fun z H1 h=>a82 (by rw [h];rfl)
 rcases hs with ⟨rfl,rfl⟩|⟨rfl,h1⟩|⟨rfl,h1⟩<;>rcases ht with ⟨rfl,rfl⟩|⟨rfl,h2⟩|⟨rfl,h2⟩
 case inl.inl=>
  have sg:=E3 (0) _ om (M5 ls om);have co:=a50 (0) (0);refine ac Tryz.func182 ?_;conv=>whnf
  repeat' (first|refine zx ?_|refine qp (O7 true _) ?_|refine ⟨_,I3 (y:=0) rfl de de,?_⟩|apply zD<;>intro h<;>try omega)<;>conv=>whnf
  all_goals first|omega|exact fin _ _ om
 case inl.inr.inl=>
  have sg:=E3 (1) _ om (M5 ls om);have co:=a50 (0) (1);refine ac Tryz.func182 ?_;conv=>whnf
  repeat' (first|refine zx ?_|refine qp (O7 true _) ?_|refine ⟨_,I3 (y:=0) rfl de de,?_⟩|apply zD<;>intro h<;>try omega)<;>conv=>whnf
  all_goals first|omega|exact fin _ _ om
 case inl.inr.inr=>
  have sg:=E3 (-1) _ om (M5 ls om);have co:=a50 (0) (-1);refine ac Tryz.func182 ?_;conv=>whnf
  repeat' (first|refine zx ?_|refine qp (O7 true _) ?_|refine ⟨_,I3 (y:=0) rfl de de,?_⟩|apply zD<;>intro h<;>try omega)<;>conv=>whnf
  all_goals first|omega|exact fin _ _ om
 case inr.inl.inl=>
  have sg:=E3 (1) _ om (M5 ls om);have co:=a50 (1) (0);refine ac Tryz.func182 ?_;conv=>whnf
  repeat' (first|refine zx ?_|refine qp (O7 true _) ?_|refine ⟨_,I3 (y:=0) rfl de de,?_⟩|apply zD<;>intro h<;>try omega)<;>conv=>whnf
  all_goals first|omega|exact fin _ _ om
 case inr.inr.inl=>
  have sg:=E3 (-1) _ om (M5 ls om);have co:=a50 (-1) (0);refine ac Tryz.func182 ?_;conv=>whnf
  repeat' (first|refine zx ?_|refine qp (O7 true _) ?_|refine ⟨_,I3 (y:=0) rfl de de,?_⟩|apply zD<;>intro h<;>try omega)<;>conv=>whnf
  all_goals first|omega|exact fin _ _ om
 case inr.inl.inr.inl=>
  have sg:=E3 (1) _ om (M5 ls om);have co:=a50 (1) (1);refine ac Tryz.func182 ?_;conv=>whnf
  repeat' (first|refine zx ?_|refine qp (O7 true _) ?_|refine ⟨_,I3 (y:=1) rfl de de,?_⟩|apply zD<;>intro h<;>try omega)<;>conv=>whnf
  all_goals first|omega|exact fin _ _ om
 case inr.inr.inr.inr=>
  have sg:=E3 (-1) _ om (M5 ls om);have co:=a50 (-1) (-1);refine ac Tryz.func182 ?_;conv=>whnf
  repeat' (first|refine zx ?_|refine qp (O7 true _) ?_|refine ⟨_,I3 (y:=1) rfl de de,?_⟩|apply zD<;>intro h<;>try omega)<;>conv=>whnf
  all_goals first|omega|exact fin _ _ om
 case inr.inl.inr.inr=>
  rcases I0 m n with hmn|hmn
  ·rw [a4U om] at c;have l3:=t9 (a5J n m);refine ac Tryz.func182 ?_;conv=>whnf
   repeat' (first|refine zx ?_|refine qp (ap8 n m om om) ?_|refine qp (E3 (-1) (n - m) om om) ?_|refine qp (O7 true _) ?_|refine ⟨_,I3 (y:=-1) rfl de de,?_⟩|apply zD<;>intro h<;>try omega)<;>conv=>whnf
   all_goals first|omega|exact fin _ _ om
  ·have hc:0<=Q5 m n:=by unfold Q5;split<;>(try split)<;>omega
   have l3:=t9 (a5J m n);refine ac Tryz.func182 ?_;conv=>whnf
   repeat' (first|refine zx ?_|refine qp (ap8 m n om om) ?_|refine qp (E3 (1) (m - n) om om) ?_|refine qp (O7 true _) ?_|refine ⟨_,I3 (y:=-1) rfl de de,?_⟩|apply zD<;>intro h<;>try omega)<;>conv=>whnf
   all_goals first|omega|exact fin _ _ om
 case inr.inr.inr.inl=>
  rcases I0 m n with hmn|hmn
  ·rw [a4U om] at c;have l3:=t9 (a5J n m);refine ac Tryz.func182 ?_;conv=>whnf
   repeat' (first|refine zx ?_|refine qp (ap8 n m om om) ?_|refine qp (E3 (1) (n - m) om om) ?_|refine qp (O7 true _) ?_|refine ⟨_,I3 (y:=-1) rfl de de,?_⟩|apply zD<;>intro h<;>try omega)<;>conv=>whnf
   all_goals first|omega|exact fin _ _ om
  ·have hc:0<=Q5 m n:=by unfold Q5;split<;>(try split)<;>omega
   have l3:=t9 (a5J m n);refine ac Tryz.func182 ?_;conv=>whnf
   repeat' (first|refine zx ?_|refine qp (ap8 m n om om) ?_|refine qp (E3 (-1) (m - n) om om) ?_|refine qp (O7 true _) ?_|refine ⟨_,I3 (y:=-1) rfl de de,?_⟩|apply zD<;>intro h<;>try omega)<;>conv=>whnf
   all_goals first|omega|exact fin _ _ om
def sgm (x:Int):x.sign*x.natAbs=x:=at3 x
def a70 (x:Int) (lx:bl x<=300000):ec 195 [bgS (bz x)] [] (n7 true) []:=a37 _ _ (a7W x) lx
def bF6 (x y:Int) (lx:bl x<=200000) (ly:bl y<=200000):ec 182 [bgS (bz x),bgS (bz y)] [] (.tup [bgS (bz (x+y)),eI 0]) []:=by
 have h:=bE9 _ _ _ _ (a7W x) (a7W y) lx ly;rw [sgm,sgm] at h;exact h
def ac1 (x:Int) (lx:bl x<=300000):ec 181 [bgS (bz x)] [] (bgS (bz (-x))) []:=by
 have h:=bH5 (bz x) (show bl x<=1000000 by omega);unfold b5S at h;rw [a1h,a6i] at h;exact h
abbrev bg2 (s:Int) (l:LI):S:=.agg [.t (ti s),.t (w5 l)]
def bK9 (s t:Int) (m n:Nat) (hs:Sg s m) (ht:Sg t n) (lm:(dg m).length<=200000) (ln:(dg n).length<=200000):
 ec 201 [bgS ⟨s,dg m⟩,bgS ⟨t,dg n⟩] [] (.tup [bgS (bz ((s*t)*(m*n:Nat))),eI 0]) []:=by
 have r1:=a37 s m hs om;have r2:=a37 t n ht om;have mu:=bG5 m n om om;have ls:=a5t m n;have hst:-1<=s*t/\s*t<=1/\(s*t=1\/s*t=-1\/m*n=0):=by
  rcases hs with ⟨rfl,rfl⟩|⟨rfl,h1⟩|⟨rfl,h1⟩<;>rcases ht with ⟨rfl,rfl⟩|⟨rfl,h2⟩|⟨rfl,h2⟩<;>simp
 have ⟨q1,q2,q3⟩:=hst;have sg:=E3 (s*t) (m*n) q3 om;have ck:=O7 true (bz ((s*t)*(m*n:Nat)));refine ac Tryz.func201 ?_;conv=>whnf
 repeat' (first|refine zx ?_|refine ⟨_,I3 (y:=s*t) rfl om om,?_⟩|apply zD<;>intro<;>try omega)<;>conv=>whnf
 all_goals first|(exfalso;simp_all;done)|exact a82 rfl
def bI1 (x y:Int) (lx:bl x<=200000) (ly:bl y<=200000):ec 201 [bgS (bz x),bgS (bz y)] [] (.tup [bgS (bz (x*y)),eI 0]) []:=by
 have h:=bK9 _ _ _ _ (a7W x) (a7W y) lx ly;have e:(x.sign*y.sign)*((x.natAbs*y.natAbs:Nat):Int)=x*y:=by
  rw [a3Y];have h1:=sgm x;have h2:=sgm y;grind
 rw [e] at h;exact h
def b2P (x y:Int) (lx:bl x<=300000) (ly:bl y<=300000):ec 156 [bgS (bz x),bgS (bz y)] [] (eI (Q5 x y)) []:=by
 have h:=b3T (bz x) (bz y) (show bl x<=1000000 by omega) (show bl y<=1000000 by omega);unfold b6p at h;rw [a1h,a1h,a6i,a6i] at h;exact h
def b4r {b b' c c':Bg} {e:Int} {H1:Hp} (h:b=b') (h2:c=c'):Fin 0 (.tup [bgS b,bgS c,eI e]) H1 (.tup [bgS b',bgS c',eI e]) []:=by
 subst h h2;exact n8 rz
def bN7 (s:Int) (m n:Nat) (hs:Sg s m) (hn:0<n) (lm:(dg m).length<=200000) (ln:(dg n).length<=200000):
 ec 219 [bgS ⟨s,dg m⟩,bgS ⟨1,dg n⟩] [] (.tup [bgS (bz (s*m / n)),bgS (bz (s*m % n)),eI 0]) []:=by
 show ec 219 [bg2 s (dg m),bg2 1 (dg n)] [] _ [];have r1:=a37 s m hs om;have r2:=a37 1 n (.inr (.inl ⟨rfl,hn⟩)) om;have dv:=bz8 m n hn om om;have lq:=t9 (Nat.div_le_self m n);have hr:=a9G m hn;have lr:=t9 (a9U hr);have lr2:((dg (m % n)).map j3).length=(dg (m % n)).length:=zq;have hz:(dg (m % n)).length=0↔m % n=0:=by rw [a0B,O8]
 have hm:=b51 m n;have fin:∀(a b:Int) (H1:Hp),a=s*m / n->b=s*m % n->Fin 0 (.tup [bgS (bz a),bgS (bz b),eI 0]) H1 (.tup [bgS (bz (s*m / n)),bgS (bz (s*m % n)),eI 0]) []:=fun a b H1 h1 h2=>b4r (by rw [h1]) (by rw [h2])
 rcases hs with ⟨rfl,rfl⟩|⟨rfl,h1⟩|⟨rfl,h1⟩
 ·have s1:=E3 0 (0 / n) zq om;have s2:=E3 0 (0 % n) zq om;refine ac Tryz.func219 ?_;conv=>whnf
  repeat' (first|refine zx ?_|refine ⟨_,I3 (y:=0) rfl de de,?_⟩|apply zD<;>intro h<;>try omega)<;>conv=>whnf
  all_goals first|omega|exact fin _ _ _ (by first|rfl|simp) (by first|rfl|simp)
 ·have s1:=E3 1 (m / n) zq om;have s2:=E3 1 (m % n) zq om;refine ac Tryz.func219 ?_;conv=>whnf
  repeat' (first|refine zx ?_|refine ⟨_,I3 (y:=1) rfl de de,?_⟩|apply zD<;>intro h<;>try omega)<;>conv=>whnf
  all_goals first|omega|exact fin _ _ _ (by first|rfl|simp) (by first|rfl|simp)
 ·by_cases h0:m % n=0
  ·have hz0:=hz.2 h0;have s1:=E3 (-1) (m / n) zq om;have s2:=E3 (-1) (m % n) zq om;have e1:-1*((m / n:Nat):Int)=-1*(m:Int) / n:=by
    have e:(m:Int)=n*(m / n:Nat):=by rw [← a3Y];congr 1;omega
    rw [e,show -1*((n:Int)*(m / n:Nat))=n*(-1*(m / n:Nat)) by grind,aP7 _ om]
   have e2:-1*((m % n:Nat):Int)=-1*(m:Int) % n:=by
    have e:(m:Int)=n*(m / n:Nat):=by rw [← a3Y];congr 1;omega
    rw [h0,e,show -1*((n:Int)*(m / n:Nat))=n*(-1*(m / n:Nat)) by grind,Int.mul_emod_right];simp
   refine ac Tryz.func219 ?_;conv=>whnf
   repeat' (first|refine zx ?_|refine ⟨_,I3 (y:=-1) rfl de de,?_⟩|apply zD<;>intro h<;>try omega)<;>conv=>whnf
   all_goals first|omega|exact fin _ _ _ e1 e2
  ·have hz0:(dg (m % n)).length≠0:=fun h=>h0 (hz.1 h)
   have one:dg 1=[1]:=rfl;have ad:=ba3 (m / n) 1 om (by simp [one]);have sb:=ap8 n (m % n) om om;have l1:=a5y (m / n) 1;have l2:=t9 (a5J n (m % n));have s1:=E3 (-1) (m / n+1) zq (by rw [one] at l1;simp at l1;omega);have s2:=E3 1 (n - m % n) zq om;have key:(-1*(m:Int))=(n - m % n:Nat)+n*(-1*((m / n+1:Nat):Int)):=by
    have e:(m:Int)=n*(m / n:Nat)+(m % n:Nat):=by rw [← a3Y];omega
    have e2:((n - m % n:Nat):Int)=n - (m % n:Nat):=om;have e3:((m / n+1:Nat):Int)=(m / n:Nat)+1:=om;rw [e2,e3];grind
   have e1:-1*((m / n+1:Nat):Int)=-1*(m:Int) / n:=by
    rw [key,Int.add_mul_ediv_left _ _ om,Int.ediv_eq_zero_of_lt om om];simp
   have e2:1*((n - m % n:Nat):Int)=-1*(m:Int) % n:=by
    rw [key,Int.add_mul_emod_self_left,au7 om om];simp
   refine ac Tryz.func219 ?_;conv=>whnf
   repeat' (first|refine zx ?_|refine .inl ⟨_,_,a1W ad ⟨aZ8,a2f (av7 rfl),trivial⟩ rfl,?_⟩|refine ⟨_,I3 (y:=-1) rfl de de,?_⟩|apply zD<;>intro h<;>try omega)<;>conv=>whnf
   all_goals first|omega|exact fin _ _ _ e1 e2
def aQ4 (x y:Int) (hy:0<y) (lx:bl x<=200000) (ly:bl y<=200000):ec 219 [bgS (bz x),bgS (bz y)] [] (.tup [bgS (bz (x / y)),bgS (bz (x % y)),eI 0]) []:=by
 have h:=bN7 _ _ y.natAbs (a7W x) om lx ly;rw [sgm,show (y.natAbs:Int)=y by omega] at h;unfold bz at *;rw [S9 hy];exact h
abbrev a6n:Blk:={ mode:=.live,elem:=87,size:=2,rows:=[[F7 (.int .i64 0),F7 (.slice none 0 0)]],box:=true }
def X7:L6 [[F7 (.int .i64 0),F7 (.slice none 0 0)]]:=by
 intro r hr c hc;simp at hr;subst hr;simp at hc;rcases hc with rfl|rfl<;>rfl
structure bt4 (x y:Int) (X Y:Nat):Prop where
 g:Nat.gcd X Y=Nat.gcd x.natAbs y.natAbs
 lx:(dg X).length<=200000
 ly:(dg Y).length<=200000
def b3z (x y:Int) (lx:bl x<=200000) (ly:bl y<=200000):ec 196 [bgS (bz x),bgS (bz y)] [] (.tup [bgS (bz (Int.gcd x y)),eI 0]) []:=by
 have r1:=a70 x om;have r2:=a70 y om;have cl:=al3 (bz x).dl (show bl x<=1000000 by omega);refine ac Tryz.func196 ?_;conv=>whnf
 repeat' (first|refine zx ?_|apply zD<;>intro<;>try omega)<;>conv=>whnf
 all_goals first|(exfalso;simp_all;done)|skip
 refine w7 g8 (σ:=Nat × Nat) (fun|(X,Y)=>([J,J,J,J,sP 0 0 0,J,j7 (dg X),j7 (dg Y)]++Jn 36,[a6n])) (fun s=>bt4 x y s.1 s.2) (fun s=>s.2) (x.natAbs,y.natAbs) [some 2]
  ⟨rfl,lx,ly⟩ ⟨rfl,rfl,⟨⟨rfl,rfl,rfl,.inl ⟨rfl,X7⟩⟩,trivial⟩,rz⟩ ?_
 rintro ⟨X,Y⟩ hI;have hI:bt4 x y X Y:=hI;have ⟨g1,g2,g3⟩:=hI;have l2:((dg Y).map j3).length=(dg Y).length:=zq;conv=>whnf
 by_cases hY:0<Y
 ·have hp:(dg Y).length≠0:=by rw [Ne,a0B,O8];omega
  have dv:=bz8 X Y hY om om
  repeat' (first|refine zx ?_|apply zD<;>intro<;>try omega)<;>conv=>whnf
  all_goals first|omega|skip
  exact ⟨[some 0],(Y,X % Y),⟨rfl,rfl,⟨⟨rfl,rfl,rfl,.inl ⟨rfl,X7⟩⟩,trivial⟩,rz⟩,⟨by rw [← g1,Nat.gcd_comm Y,←Nat.gcd_rec,Nat.gcd_comm],g3,lbS (t9 (a9U (a9G X hY))) g3⟩,a9G X hY⟩
 ·have hY:Y=0:=by omega
  subst hY;have hp:(dg 0).length=0:=rfl;have c2:=al3 (dg X) om;have s1:=E3 1 X zq om;have ck:=O7 true (bz (1*X))
  repeat' (first|refine zx ?_|apply zD<;>intro<;>try omega)<;>conv=>whnf
  all_goals first|omega|skip
  refine a82 ?_;rw [a2u,show X=Int.gcd x y by rw [Int.gcd,←g1,Nat.gcd_zero_right]]
  rfl
def a2P {x y:Int} (h:x % 18446744073709551616=y):N1 .u64 x y:=by
 unfold N1;simp only [IntKind.wrap,IntKind.bits,IntKind.signed];simp;omega
def b4E (a:Int):a0Z .and .u64 a 1048575 (a % 1048576):=(aV9 (a:=a) 20 de).symm
def be4 (a:Int):b4n .u64 a 20 (a / 1048576):=by
 show a / 1048576=a.fdiv 1048576;exact (Int.fdiv_eq_ediv_of_nonneg _ de).symm
structure OfI (n:Int) (acc:LI) (u:Nat):Prop where
 eq:acc++dg u=dg n.natAbs
def OfI.len {n:Int} {acc:LI} {u:Nat} (h:OfI n acc u) (h0:-9223372036854775808<=n) (h1:n<=9223372036854775807):acc.length<=4:=by
 have h2:(dg n.natAbs).length<=4:=Q8 (by simp only [pw];omega);have h3:=congrArg List.length h.eq;simp at h3;omega
def OfI.step {n:Int} {acc:LI} {u:Nat} (h:OfI n acc u) (hu:0<u):OfI n (acc++[(u:Int) % 1048576]) (u / 1048576):=by
 refine ⟨?_⟩;rw [← h.eq,a8G hu];simp
def OfI.le {n:Int} {acc:LI} {u:Nat} (h:OfI n acc u):u<=n.natAbs:=by
 have h1:=congrArg val h.eq;rw [P3,v4,v4] at h1;have h2:Okd acc:=fun x hx=>B6 n.natAbs x (by rw [← h.eq];simp [hx])
 have h3:=B8 h2;have h4:=O1 acc.length;have h5:=lbX (a:=1) (b:=pw acc.length) (c:=(u:Int)) om om;omega
def a3f {xs:LI} {x:Int}:(toC (xs.map j3)).take xs.length++toC [[ti x]]=toC ((xs++[x]).map j3):=bn5 (f:=j3)
def b4Y (n:Int) (h0:-9223372036854775808<=n) (h1:n<=9223372036854775807):ec 94 [eI n] [] (bgS (bz n)) []:=by
 by_cases hn:n<0
 ·refine ac Tryz.func94 ?_;conv=>whnf
  repeat' (first|refine zx ?_|refine ⟨_,a2P (y:=n+18446744073709551616) om,?_⟩|refine ⟨_,a2P (y:=(n.natAbs:Int)) om,?_⟩|apply zD<;>intro h<;>try omega)<;>conv=>whnf
  refine w7 g8 (σ:=LI × Nat) (fun|(acc,u)=>([J,J,sP 0 0 0,eI (-1),e7 .u64 u,a1P 1 acc]++Jn 19,[a6n,y3 acc])) (fun s=>OfI n s.1 s.2) (fun s=>s.2) ([],n.natAbs) [some 0,none]
   ⟨rfl⟩ ⟨rfl,rfl,⟨⟨rfl,rfl,rfl,.inl ⟨rfl,X7⟩⟩,rz⟩,⟨rz,rfl,g9 om,rz⟩⟩ ?_
  rintro ⟨acc,u⟩ hI;have hI:OfI n acc u:=hI;have hl:=hI.len h0 h1;have hu:=hI.le;conv=>whnf
  repeat' (first|refine zx ?_|refine ⟨_,b4E _,?_⟩|refine ⟨de,_,be4 _,?_⟩|refine v8 zt zu ?_|refine ⟨_,a2P om,?_⟩|apply zD<;>intro h<;>try omega)<;>conv=>whnf
  ·refine ⟨[some 0,some 2],(acc++[(u:Int) % 1048576],u / 1048576),⟨rfl,rfl,⟨⟨rfl,rfl,rfl,.inl ⟨rfl,X7⟩⟩,i6 rfl rfl rfl a3f rfl,trivial⟩,⟨rz,rfl,g9 zq,t6 rfl zt,trivial⟩⟩,hI.step om,by show u / 1048576<u;omega⟩
  ·have h0u:u=0:=by omega
   subst h0u;have e:acc=dg n.natAbs:=by have:=hI.eq;rw [a0Q,a05] at this;exact this
   have sg:=E3 (-1) n.natAbs om (by rw [← e];omega);rw [← e,show (-1)*(n.natAbs:Int)=n by omega] at sg;refine .inr ⟨_,_,C9 [1] sg ⟨aZ8,a2f (v7 zq rfl zi rfl rfl zq),trivial⟩ rfl,?_⟩;conv=>whnf
   exact n8 rz
 ·refine ac Tryz.func94 ?_;conv=>whnf
  repeat' (first|refine zx ?_|refine ⟨_,a2P (y:=(n.natAbs:Int)) om,?_⟩|apply zD<;>intro h<;>try omega)<;>conv=>whnf
  refine w7 g8 (σ:=LI × Nat) (fun|(acc,u)=>([J,J,sP 0 0 0,eI 1,e7 .u64 u,a1P 1 acc]++Jn 19,[a6n,y3 acc])) (fun s=>OfI n s.1 s.2) (fun s=>s.2) ([],n.natAbs) [some 0,none]
   ⟨rfl⟩ ⟨rfl,rfl,⟨⟨rfl,rfl,rfl,.inl ⟨rfl,X7⟩⟩,rz⟩,⟨rz,rfl,g9 om,rz⟩⟩ ?_
  rintro ⟨acc,u⟩ hI;have hI:OfI n acc u:=hI;have hl:=hI.len h0 h1;have hu:=hI.le;conv=>whnf
  repeat' (first|refine zx ?_|refine ⟨_,b4E _,?_⟩|refine ⟨de,_,be4 _,?_⟩|refine v8 zt zu ?_|refine ⟨_,a2P om,?_⟩|apply zD<;>intro h<;>try omega)<;>conv=>whnf
  ·refine ⟨[some 0,some 2],(acc++[(u:Int) % 1048576],u / 1048576),⟨rfl,rfl,⟨⟨rfl,rfl,rfl,.inl ⟨rfl,X7⟩⟩,i6 rfl rfl rfl a3f rfl,trivial⟩,⟨rz,rfl,g9 zq,t6 rfl zt,trivial⟩⟩,hI.step om,by show u / 1048576<u;omega⟩
  ·have h0u:u=0:=by omega
   subst h0u;have e:acc=dg n.natAbs:=by have:=hI.eq;rw [a0Q,a05] at this;exact this
   have sg:=E3 (1) n.natAbs om (by rw [← e];omega);rw [← e,show (1)*(n.natAbs:Int)=n by omega] at sg;refine .inr ⟨_,_,C9 [1] sg ⟨aZ8,a2f (v7 zq rfl zi rfl rfl zq),trivial⟩ rfl,?_⟩;conv=>whnf
   exact n8 rz
def aX2 (i:Nat):pw i=((2 ^ (20*i):Nat):Int):=by
 unfold pw;rw [show (1048576:Int)=((2 ^ 20:Nat):Int) by decide,←Int.natCast_pow,←Nat.pow_mul]
def bW5 {d:Int} {i:Nat} {b:Int} (hi:i<=3) (h:0<=d) (h2:d*pw i<18446744073709551616) (hb:b=20*i):N1 .u64 (d*2 ^ min b.toNat (IntKind.bits .u64)) (d*pw i):=by
 have e:min b.toNat (IntKind.bits .u64)=20*i:=by show min b.toNat 64=_;omega
 have hp:=O1 i;have h3:0<=d*pw i:=lb0 h om;rw [e,show (2:Int) ^ (20*i)=pw i by rw [aX2];simp];exact b1f h3 h2
def oru {u d:Int} {i:Nat} (hu:0<=u) (hu2:u<pw i) (h:0<=d) (h2:u+d*pw i<18446744073709551616):a0Z .or .u64 u (d*pw i) (u+d*pw i):=by
 obtain ⟨U,rfl⟩:=a36 hu;obtain ⟨D,rfl⟩:=a36 h;have hp:=O1 i;have e2:(U:Int)+D*pw i=((U+2 ^ (20*i)*D:Nat):Int):=by rw [aX2];simp [a7P]
 have e3:(D:Int)*pw i=((2 ^ (20*i)*D:Nat):Int):=by rw [aX2];simp [a7P]
 rw [e2] at h2;have hU:U<2 ^ (20*i):=by rw [aX2] at hu2;omega
 have k1:(BitVec.ofInt (IntKind.bits .u64) (U:Int) ||| BitVec.ofInt (IntKind.bits .u64) ((2 ^ (20*i)*D:Nat):Int)).toNat=U+2 ^ (20*i)*D:=by
  show (BitVec.ofInt 64 _ ||| BitVec.ofInt 64 _).toNat=_;rw [BitVec.toNat_or,BitVec.toNat_ofInt,BitVec.toNat_ofInt];rw [au7 om om,au7 om om,lbY,lbY,Nat.or_comm,←Nat.two_pow_add_eq_or_of_lt hU,aL6]
 rw [e2,e3];unfold a0Z;simp only;rw [k1];exact (ay5 om h2).symm
structure b3Y (n:Nat) (k:Nat) (u:Int):Prop where
 eq:u=val ((dg n).take k)
 le:k<=(dg n).length
 lt:k=4->u<9*1152921504606846976
def b3Y.rng {n k:Nat} {u:Int} (h:b3Y n k u):0<=u/\u<pw k:=by
 have h1:=B8 ((B6 n).take k);have h2:=a0a ((B6 n).take k);rw [lbs,a3q h.le,←h.eq] at h2;rw [← h.eq] at h1;exact ⟨h1,h2⟩
def b3Y.step {n k:Nat} {u:Int} (h:b3Y n k u) (hk:k<(dg n).length) (hd:k=3->dat (dg n) k<=8):b3Y n (k+1) (u+dat (dg n) k*pw k):=by
 have hr:=h.rng;refine ⟨by rw [B2,h.eq,a7P],hk,fun h4=>?_⟩;have:k=3:=om;subst this;have:=hd rfl;simp only [pw] at hr ⊢;omega
def bJ3 {k:Nat} (h:k<=3):pw k<=1152921504606846976:=by
 have:=a1r h;simp only [pw] at this ⊢;omega
def bG6 {k:Nat} (h:k<=2):pw k<=1099511627776:=by
 have:=a1r h;simp only [pw] at this ⊢;omega
def aW7 {a a':Int} {b b':Bool} {k:IntKind} {H1:Hp} (h:a=a') (h2:b=b'):Fin 0 (.tup [e7 k a,n7 b]) H1 (.tup [e7 k a',n7 b']) []:=by
 subst h h2;exact n8 rz
def b3J {x:Int} (h1:9223372036854775808<=x) (h2:x<18446744073709551616):N1 .i64 x (x - 18446744073709551616):=by
 unfold N1;simp only [IntKind.wrap,IntKind.bits,IntKind.signed];simp;omega
abbrev ae5 (x:Int):Prop:=-9223372036854775808<=x/\x<=9223372036854775807
def bC9 (x:Int) (lx:bl x<=200000):ec 226 [bgS (bz x)] [] (.tup [eI (if ae5 x then x else 0),n7 (decide (ae5 x))]) []:=by
 have r1:=a70 x om;have l1:((bz x).dl.map j3).length=(dg x.natAbs).length:=by simp [bz]
 have l2:(bz x).dl=dg x.natAbs:=rfl;have hlast:∀k:Nat,k<(dg x.natAbs).length->pw k<=x.natAbs:=fun k hk=>Int.le_trans (a1r om) (an7 (by
  rcases a4t x.natAbs with h|h
  ·rw [h,a0Q] at hk;simp at hk
  ·exact h))
 refine ac Tryz.func226 ?_;conv=>whnf
 repeat' (first|refine zx ?_|apply zD<;>intro h<;>try omega)<;>conv=>whnf
 ·have hl:4<(dg x.natAbs).length:=by omega
  have:=hlast 4 hl;simp only [pw] at this;have hn:¬ae5 x:=by unfold ae5;omega
  exact aW7 (by rw [iC hn]) (by simp [hn])
 ·refine w7 g8 (σ:=Nat × Int) (fun|(k,u)=>([J,sP 0 0 0,J,J,e7 .u64 u]++Jn 12++[j7 (dg x.natAbs),eI (dg x.natAbs).length,eI k]++Jn 39,[bgB (bz x)])) (fun s=>b3Y x.natAbs s.1 s.2) (fun s=>(dg x.natAbs).length - s.1) (0,0) [some 0]
   ⟨by simp [val],om,om⟩ ⟨rfl,rfl,⟨⟨rfl,rfl,rfl,.inl ⟨rfl,a6I _⟩⟩,trivial⟩,⟨rz,rfl,m9 rfl,g9 om,rz⟩⟩ ?_
  rintro ⟨k,u⟩ hI;have hI:b3Y x.natAbs k u:=hI;have hr:=hI.rng;have hle:=hI.le;have hd:=(B6 x.natAbs).dat k;have hp:=O1 k;have hp3:k<=3->pw k<=1152921504606846976:=bJ3;have hdm:0<=dat (dg x.natAbs) k*pw k:=lb0 hd.1 om;have l3:((dg x.natAbs).map j3).length=(dg x.natAbs).length:=zq;have hp2:k<=2->pw k<=1099511627776:=bG6;have hA:k<=3->(k=3->dat (dg x.natAbs) k<=8)->u+dat (dg x.natAbs) k*pw k<18446744073709551616:=fun h3 h8=>by
   by_cases hk:k=3
   ·have:=lbX (c:=pw k) (h8 hk) om;have:=hp3 h3;omega
   ·have:=lbX (c:=pw k) (show dat (dg x.natAbs) k<=1048575 by omega) om;have:=hp2 om;omega
  have hE:k=(dg x.natAbs).length->u=x.natAbs:=fun h=>by
   have:=hI.eq;rw [h,lbn (lbR _),v4] at this;exact this
  have hs:=G6 x;have hsg:(bz x).sg=x.sign:=rfl;conv=>whnf
  repeat' (first|refine zx ?_|refine j4 (C4 om) ?_|refine ⟨_,b1f om om,?_⟩|refine ⟨om,_,bW5 (i:=k) om om om om,?_⟩|refine ⟨_,oru om om om om,?_⟩|refine ⟨_,a2P (y:=18446744073709551616 - u) om,?_⟩|refine ⟨_,b3J om om,?_⟩|apply zD<;>intro h<;>try omega)<;>conv=>whnf
  ·have hk:k=3:=by omega
   have h8:9<=dat (dg x.natAbs) k:=om;have h1:=B2 (dg x.natAbs) k;have h4:val (dg x.natAbs)=val ((dg x.natAbs).take (k+1)):=by rw [lbn om]
   rw [v4] at h4;have h5:=B8 ((B6 x.natAbs).take k);have h6:=lbW (a:=9) (b:=dat (dg x.natAbs) k) (c:=pw k) h8 om;have h7:pw k=1152921504606846976:=by rw [hk];rfl
   have hn:¬ae5 x:=by unfold ae5;omega
   exact aW7 (by rw [iC hn]) (by simp [hn])
  ·have hst:=hI.step om om;exact ⟨[some 0],(k+1,u+dat (dg x.natAbs) k*pw k),⟨rfl,rfl,⟨⟨rfl,rfl,rfl,.inl ⟨rfl,a6I _⟩⟩,trivial⟩,⟨rz,rfl,rfl,rfl,g9 om,trivial⟩⟩,hst,by show (dg x.natAbs).length - (k+1)<(dg x.natAbs).length - k;omega⟩
  ·have hst:=hI.step om om;exact ⟨[some 0],(k+1,u+dat (dg x.natAbs) k*pw k),⟨rfl,rfl,⟨⟨rfl,rfl,rfl,.inl ⟨rfl,a6I _⟩⟩,trivial⟩,⟨rz,rfl,rfl,rfl,g9 om,trivial⟩⟩,hst,by show (dg x.natAbs).length - (k+1)<(dg x.natAbs).length - k;omega⟩
  all_goals
   have hu:=hE om;first
    |(have hn:ae5 x:=by unfold ae5;omega
      exact aW7 (by rw [iB hn];omega) (by simp [hn]))
    |(have hn:¬ae5 x:=by unfold ae5;omega
      exact aW7 (by rw [iC hn]) (by simp [hn]))
def a8m (l:LI) (hl:l.length<=1000000):ec 208 [j7 l] [] (j7 (N4 l)) []:=by
 have l2:(l.map j3).length=l.length:=zq;refine ac Tryz.func208 ?_;conv=>whnf
 repeat' (first|refine zx ?_|apply zD<;>intro h<;>try omega)<;>conv=>whnf
 refine w7 g8 (σ:=Nat) (fun n=>([j7 l,J,J,eI n]++Jn 19,[])) (fun n=>n<=l.length/\∀j x,n<=j->l[j]? =some x->x=0) (fun n=>n) l.length []
  ⟨lbR _,fun j x hj hx=>by rw [lbd hj] at hx;cases hx⟩ ⟨rfl,rfl,trivial,⟨m9 rfl,g9 zq,trivial⟩⟩ ?_
 rintro n ⟨hn,hz⟩;have hn:n<=l.length:=hn;conv=>whnf
 repeat' (first|refine zz ?_|refine a3A.own ?_|refine K6 om (a30 om hn) ?_|refine aK3 om om om ?_|refine v8 zt zu ?_|apply zD<;>intro h<;>try omega|refine zy ?_|fail)<;>conv=>whnf
 ·have h0:dat l (n - 1)=0:=by assumption
  have h1:0<n:=om;refine ⟨[],n - 1,⟨rfl,rfl,trivial,⟨rfl,g9 om,trivial⟩⟩,⟨om,fun j x hj hxj=>?_⟩,by show n - 1<n;omega⟩;by_cases hj2:j=n - 1
  ·subst hj2;rw [C4 om] at hxj;injection hxj with hx;rw [← hx];exact h0
  ·exact hz j x om hxj
 all_goals
  have e:l.take n=N4 l:=a5n hz (fun x h0 hx=>by
   first|omega|(rw [C4 om] at hx;injection hx with hx;rw [← hx];assumption)) hn
  rw [← e];refine N6 rfl zi rfl ?_ ?_
  ·simp [toC,D8,b4V]
  ·simp [toC]
def bE7 (s:Int) (l:LI) (hl:l.length<=1000000):ec 168 [eI s,j7 l] [] (bgS (sgn s l)) []:=by
 refine ac Tryz.func168 ?_;conv=>whnf
 repeat' (first|refine zx ?_|refine qp (a8m l hl) ?_|apply zD<;>intro<;>try omega)<;>conv=>whnf
 ·have h0:(N4 l).length=0:=by simp at *;assumption
  unfold sgn;rw [iB h0];exact n8 rz
 ·have h0:¬(N4 l).length=0:=by simp at *;assumption
  unfold sgn;rw [iC h0];exact n8 rz
def Q2 (s:Int) (k:Nat) (h:s=1\/s=-1\/k=0) (lk:(dg k).length<=700000):
 ec 168 [eI s,j7 (dg k)] [] (bgS (bz (s*k))) []:=by
 have e:=bE7 s (dg k) om;rw [b2t (B6 k) (by rw [v4];omega),v4] at e;exact e
def a7t (l:LI) (i:Nat) (hl:l.length<=1000000):ec 229 [j7 l,eI i] [] (eI (dat l i)) []:=by
 have l2:(l.map j3).length=l.length:=zq;refine ac Tryz.func229 ?_;conv=>whnf
 repeat' (first|refine zx ?_|refine j4 (C4 om) ?_|apply zD<;>intro<;>try omega)<;>conv=>whnf
 all_goals first|exact p9 rfl|exact p9 (Y6 om).symm
def a7c (l:LI) (i:Nat):val (l.drop i)=dat l i+1048576*val (l.drop (i+1)):=by
 by_cases h:i<l.length
 ·exact a9q h
 ·rw [lbo om,lbo om,Y6 om];rfl
def aC3 (l:LI) (i:Nat):val l=val (l.take i)+pw i*val (l.drop i):=by
 by_cases h:i<=l.length
 ·exact a4d l i h
 ·rw [lbo om,lbn om];simp [val]
def a9k {l:LI} (h:Okd l) (i:Nat):0<=val (l.take i)/\val (l.take i)<pw i:=by
 refine ⟨B8 (h.take i),?_⟩;have h1:=a0a (h.take i);have h2:=a1r (i:=(l.take i).length) (j:=i) zo;omega
def b12 {a b:LI} (ha:Okd a) (hb:Okd b) {i:Nat} (h:val (a.drop (i+1))=val (b.drop (i+1))) (hd:dat a i<dat b i):val a<val b:=by
 rw [aC3 a i,aC3 b i,a7c a i,a7c b i,h];have h1:=a9k ha i;have h2:=a9k hb i;have hp:=O1 i;have h3:=lbW (a:=dat a i+1048576*val (b.drop (i+1))+1) (b:=dat b i+1048576*val (b.drop (i+1))) (c:=pw i) om om;rw [aD1 _ _ (1:Int)] at h3;omega
def a7L (l:LI):val (l.drop 0)=val l:=by rw [a9m]
structure aD4 (a b:LI) (i:Nat) (out:LI) (c:Int):Prop where
 len:out.length=i
 ok:Okd out
 le:i<=a.length
 c0:0<=c
 c1:c<=1
 eq:val out - pw i*c=val (a.take i) - val (b.take i)
def aD4.init (a b:LI):aD4 a b 0 [] 0:=⟨rfl,.nil,G0 _,de,de,by simp [val]⟩
def aD4.step {a b out:LI} {i:Nat} {c n c':Int} (h:aD4 a b i out c) (ha:Okd a) (hb:Okd b) (hi:i<a.length) (hn:n=dat a i - dat b i - c+1048576*c') (h0:0<=n/\n<1048576) (hc:0<=c'/\c'<=1):
 aD4 a b (i+1) (out++[n]) c':=by
 refine ⟨by simp [h.len],h.ok.append (Okd.cons h0 .nil),hi,hc.1,hc.2,?_⟩;rw [P3,h.len,B2,B2,M3];have:=h.eq;simp only [val];rw [hn];grind
def aD4.fin {a b out:LI} {c:Int} (h:aD4 a b a.length out c) (ha:Okd a) (hb:Okd b) (hl:b.length<=a.length) (hv:val b<=val a):N4 out=dg (val a - val b).toNat:=by
 have h1:=h.eq;rw [lbn (lbR _),lbn hl] at h1;have h2:=a0a h.ok;rw [h.len] at h2;have hc:c=0:=by
  have:=h.c0;have:=h.c1;rcases a6D 0 c with h3|h3
  ·have:c=1:=by omega
   subst this;omega
  ·omega
 subst hc;rw [R5 h.ok]
 congr 2
 simp at h1;exact h1
structure br7 (a b:LI) (i k:Nat) (out:LI) (c:Int):Prop where
 out:(at8 a b i k out c/\k<=b.length)\/(k=b.length+1/\c=0/\a62 a b (i+1) out)
def bh6 {l:LI} {i:Nat}:l.set i (dat l i)=l:=by
 by_cases h:i<l.length
 ·apply a16;intro j;by_cases hj:i=j
  ·subst hj;rw [List.getElem?_set_self h];unfold dat;rw [lbl,lbf h];rfl
  ·rw [List.getElem?_set_ne hj]
 ·rw [List.set_eq_of_length_le om]
def br7.exit {a b out:LI} {i k:Nat} {c:Int} (h:br7 a b i k out c) (ha:Okd a) (hb:Okd b) (hi:i<a.length) (hk:b.length<=k) (hc:c<=0):a62 a b (i+1) out:=by
 rcases h.out with ⟨h1,h2⟩|⟨h1,h2,h3⟩
 ·have hk:k=b.length:=by omega
  subst hk;have hc:c=0:=by have:=h1.c0;omega
  subst hc;have:=h1.done ha hb hi;rw [af7,bh6] at this;exact this
 ·exact h3
def b8Q {r d:Nat} {x:Int} (hx:0<=x/\x<1048576):N4 (x::dg r)=dg (r*1048576+x.toNat):=by
 rw [R5 (Okd.cons hx (B6 r))]
 congr 1
 simp only [val,v4];omega
def bd1 (a b:LI) (ha:Okd a) (hb:Okd b) (la:a.length<=1000000) (lb:b.length<=1000000):ec 205 [j7 a,j7 b] [] (n7 (decide (val a<val b))) []:=by
 have l1:(a.map j3).length=a.length:=zq;have l2:(b.map j3).length=b.length:=zq;refine ac Tryz.func205 ?_;conv=>whnf
 repeat' (first|refine zx ?_|refine ⟨_,I3 (y:=((max a.length b.length:Nat):Int) - 1) (by simp only [cond];split<;>omega) om om,?_⟩|apply zD<;>intro h<;>try omega)<;>conv=>whnf
 refine w7 g8 (σ:=Nat) (fun k=>([j7 a,j7 b,J,J,J,eI ((k:Int) - 1)]++Jn 24,[])) (fun k=>k<=1000000/\val (a.drop k)=val (b.drop k)) (fun k=>k) (max a.length b.length) []
  ⟨om,by rw [lbo om,lbo om]⟩ ⟨rfl,rfl,trivial,⟨m9 rfl,m9 rfl,rz⟩⟩ ?_
 rintro k ⟨hk,hd⟩;have hk:k<=1000000:=hk;have hd:val (a.drop k)=val (b.drop k):=hd;by_cases h0:0<k
 ·obtain ⟨i,rfl⟩:∃i,k=i+1:=⟨k - 1,om⟩;have d1:=a7t a i la;have d2:=a7t b i lb;have ei:(((i+1:Nat):Int) - 1)=i:=om;rw [ei];conv=>whnf
  repeat' (first|refine zx ?_|apply zD<;>intro h<;>try omega)<;>conv=>whnf
  ·have h:=b12 ha hb hd (by assumption);exact j6 (by simp [h])
  ·have h:=b12 hb ha hd.symm om;exact j6 zo
  ·have he:dat a i=dat b i:=by omega
   refine ⟨[],i,rz,⟨om,?_⟩,by show i<i+1;omega⟩;rw [a7c a i,a7c b i,he,hd]
 ·obtain rfl:k=0:=by omega
  rw [a7L,a7L] at hd;conv=>whnf
  repeat' (first|refine zx ?_|apply zD<;>intro h<;>try omega)<;>conv=>whnf
  all_goals first|omega|exact j6 zo
def b5E (a b:LI) (ha:Okd a) (hb:Okd b) (la:a.length<=400000) (lb:b.length<=a.length) (hv:val b<=val a):
 ec 206 [j7 a,j7 b] [] (j7 (dg (val a - val b).toNat)) []:=by
 have l1:(a.map j3).length=a.length:=zq;have l2:(b.map j3).length=b.length:=zq;refine ac Tryz.func206 ?_;conv=>whnf
 repeat' (first|refine zx ?_|apply zD<;>intro h<;>try omega)<;>conv=>whnf
 refine w7 g8 (σ:=Nat × LI × Int) (fun|(k,out,c)=>([j7 a,j7 b,J,J,J,a1P 0 out,eI c,eI k]++Jn 27,[y3 out])) (fun x=>aD4 a b x.1 x.2.1 x.2.2) (fun x=>a.length - x.1) (0,[],0) [none]
  (aD4.init a b) ⟨rfl,rfl,rz,⟨m9 rfl,m9 rfl,rz⟩⟩ ?_
 rintro ⟨k,out,c⟩ hI;have hI:aD4 a b k out c:=hI;have hlen:=hI.len;have hle:=hI.le;have hc0:=hI.c0;have hc1:=hI.c1;have hda:=ha.dat k;have hdb:=hb.dat k;have d2:=a7t b k om;conv=>whnf
 repeat' (first|refine zx ?_|refine j4 (C4 om) ?_|refine v8 zt zu ?_|apply zD<;>intro h<;>try omega)<;>conv=>whnf
 ·have hst:=hI.step ha hb (n:=dat a k - dat b k - c+1048576) (c':=1) om om om om;refine ⟨[some 1],(k+1,out++[dat a k - dat b k - c+1048576],1),⟨rfl,rfl,⟨i6 rfl rfl rfl a3f rfl,trivial⟩,⟨rfl,rfl,t6 rfl zt,rfl,g9 om,trivial⟩⟩,hst,?_⟩;show a.length - (k+1)<a.length - k;omega
 ·have hst:=hI.step ha hb (n:=dat a k - dat b k - c) (c':=0) om om om om;refine ⟨[some 1],(k+1,out++[dat a k - dat b k - c],0),⟨rfl,rfl,⟨i6 rfl rfl rfl a3f rfl,trivial⟩,⟨rfl,rfl,t6 rfl zt,rfl,g9 om,trivial⟩⟩,hst,?_⟩;show a.length - (k+1)<a.length - k;omega
 ·have hk:k=a.length:=by omega
  subst hk;have hf:=hI.fin ha hb lb hv;have t:=a8m out om;rw [hf] at t;refine .inr ⟨_,_,C9 [0] t ⟨a2f (v7 zq rfl zi rfl rfl zq),trivial⟩ rfl,?_⟩;conv=>whnf
  exact az8 rfl
def bB0 {a:Int} (h:0<=a):a.tmod 1048576=a % 1048576:=a6s h
def b4Q (a b:LI) (ha:Okd a) (hb:Okd b) (la:a.length<=400000) (lb:b.length<=400000):
 ec 203 [j7 a,j7 b] [] (j7 (dg (val a*val b).toNat)) []:=by
 have l1:(a.map j3).length=a.length:=zq;have l2:(b.map j3).length=b.length:=zq;refine ac Tryz.func203 ?_;conv=>whnf
 repeat' (first|refine zx ?_|refine a2y om om om de ?_|apply zD<;>intro h<;>try omega)<;>conv=>whnf
 refine w7 g8 (σ:=Nat × LI) (fun|(i,out)=>([j7 a,j7 b,J,J,J,a1P 0 out,eI i]++Jn 53,[y3 out])) (fun x=>a62 a b x.1 x.2) (fun x=>a.length - x.1) (0,List.replicate (a.length+b.length) 0) [some 0]
  (a62.init a b) ⟨rfl,rfl,⟨i6 rfl rfl rfl ?_ rfl,trivial⟩,⟨m9 rfl,m9 rfl,t6 rfl zo,rz⟩⟩ ?_
 ·show List.replicate _ _=_;rw [show ((((a.map j3).length:Nat):Int)+((b.map j3).length:Nat)).toNat=a.length+b.length by omega];simp [toC,j3,F7]
 rintro ⟨i,out⟩ hI;have hI:a62 a b i out:=hI;have hlen:=hI.len;have hle:=hI.le;conv=>whnf
 repeat' (first|refine zx ?_|apply zD<;>intro h<;>try omega)<;>conv=>whnf
 ·have hi:i<a.length:=by omega
  refine w7 g8 (σ:=Nat × LI × Int) (fun|(k,out,c)=>([j7 a,j7 b,J,J,J,a1P 0 out,eI i,eI c,eI k]++Jn 51,[y3 out])) (fun x=>br7 a b i x.1 x.2.1 x.2.2) (fun x=>b.length+1 - x.1) (0,out,0) [some 0]
   ⟨.inl ⟨hI.start,G0 _⟩⟩ ⟨rfl,rfl,⟨i6 rfl rfl rfl rfl rfl,trivial⟩,⟨m9 rfl,m9 rfl,t6 rfl rfl,rz⟩⟩ ?_
  rintro ⟨k,out,c⟩ hT;have hT:br7 a b i k out c:=hT;have hdb:=hb.dat k;have hda:=ha.dat i;have hm:=a56 (ha.dat i) (hb.dat k);have d2:=a7t b k om;have e1:((i:Int)+k).toNat=i+k:=om;rcases hT.out with ⟨hK,hkb⟩|⟨hk1,hc,hM⟩
  ·have hlen:=hK.len;have hc0:=hK.c0;have hc1:=hK.c1;have hdo:=hK.ok.dat (i+k);have hz:k=b.length->dat out (i+k)=0/\dat b k=0:=fun h=>⟨hK.zero _ om,Y6 om⟩
   have hzm:k=b.length->dat a i*dat b k=0:=fun h=>by rw [(hz h).2,Int.mul_zero]
   conv=>whnf
   repeat' (first|refine zx ?_|refine j4 (C4 om) ?_|refine T8 om (by show _<((out.length:Nat):Int);omega) ?_|refine z6 (V9 e1 om) ?_|refine ⟨de,_,b9w om om de,?_⟩|refine ap2 de ?_|apply zD<;>intro h<;>try omega)<;>conv=>whnf
   all_goals have hn:0<=dat out (i+k)+dat a i*dat b k+c:=om
   ·have hst:=hK.step ha hb hi om;refine ⟨[some 0],(k+1,out.set (i+k) ((dat out (i+k)+dat a i*dat b k+c) % 1048576),(dat out (i+k)+dat a i*dat b k+c) / 1048576),⟨rfl,rfl,⟨i6 rfl rfl rfl ?_ rfl,trivial⟩,⟨rfl,rfl,t6 rfl zq,rz⟩⟩,⟨.inl ⟨hst,om⟩⟩,?_⟩
    ·rw [← bB0 hn];exact S6 om
    ·show b.length+1 - (k+1)<b.length+1 - k;omega
   ·have hkb2:k=b.length:=by omega
    have ⟨z1,z2⟩:=hz hkb2;have z3:=hzm hkb2;have en:dat out (i+k)+dat a i*dat b k+c=c:=om;have hdone:=hK;rw [hkb2] at hdone;have hdone:=hdone.done ha hb hi;rw [← hkb2] at hdone;refine ⟨[some 0],(k+1,out.set (i+k) ((dat out (i+k)+dat a i*dat b k+c) % 1048576),(dat out (i+k)+dat a i*dat b k+c) / 1048576),⟨rfl,rfl,⟨i6 rfl rfl rfl ?_ rfl,trivial⟩,⟨rfl,rfl,t6 rfl zq,rz⟩⟩,⟨.inr ⟨by show k+1=b.length+1;omega,by show (dat out (i+k)+dat a i*dat b k+c) / 1048576=0;omega,?_⟩⟩,?_⟩
    ·rw [← bB0 hn];exact S6 om
    ·have e2:(dat out (i+k)+dat a i*dat b k+c) % 1048576=dat out (i+k)+c:=by omega
     rw [e2];exact hdone
    ·show b.length+1 - (k+1)<b.length+1 - k;omega
   ·have hx:=hT.exit ha hb hi om om;exact ⟨[some 0],(i+1,out),⟨rfl,rfl,⟨i6 rfl rfl rfl rfl rfl,trivial⟩,⟨rfl,rfl,t6 rfl rfl,g9 om,trivial⟩⟩,hx,by show a.length - (i+1)<a.length - i;omega⟩
  ·have hlen:=hM.len;have hx:=hT.exit ha hb hi om om;conv=>whnf
   repeat' (first|refine zx ?_|apply zD<;>intro h<;>try omega)<;>conv=>whnf
   all_goals first|omega|exact ⟨[some 0],(i+1,out),⟨rfl,rfl,⟨i6 rfl rfl rfl rfl rfl,trivial⟩,⟨rfl,rfl,t6 rfl rfl,g9 om,trivial⟩⟩,hx,by show a.length - (i+1)<a.length - i;omega⟩
 ·have hi:i=a.length:=by omega
  subst hi;have hf:=hI.fin;have t:=a8m out om;rw [hf] at t;refine .inr ⟨_,_,C9 [0] t ⟨a2f (v7 zq rfl zi rfl rfl zq),trivial⟩ rfl,?_⟩;conv=>whnf
  exact az8 rfl
def b13 (m n:Nat) (lm:(dg m).length<=300000) (ln:(dg n).length<=300000):
 ec 203 [j7 (dg m),j7 (dg n)] [] (j7 (dg (m*n))) []:=by
 have h:=b4Q (dg m) (dg n) (B6 m) (B6 n) om om;rw [v4,v4,show ((m:Int)*n).toNat=m*n by rw [← a3Y];rfl] at h;exact h
def b8w (m n:Nat) (hn:0<n) (lm:(dg m).length<=200000) (ln:(dg n).length<=200000):
 ec 207 [j7 (dg m),j7 (dg n)] [] (b3A m n) []:=by
 have l1:((dg m).map j3).length=(dg m).length:=zq;have l2:((dg n).map j3).length=(dg n).length:=zq;refine ac Tryz.func207 ?_;conv=>whnf
 repeat' (first|refine zx ?_|refine a2y om om om de ?_|apply zD<;>intro h<;>try omega)<;>conv=>whnf
 refine w7 g8 (σ:=Nat × LI × Nat) (fun|(j,q,r)=>([j7 (dg m),j7 (dg n),J,J,J,J,a1P 0 q,j7 (dg r),eI ((j:Int) - 1)]++Jn 51,[y3 q])) (fun x=>a1T (dg m) n x.1 x.2.1 x.2.2) (fun x=>x.1) ((dg m).length,List.replicate (dg m).length 0,0) [some 0]
  (a1T.init _ om) ⟨rfl,rfl,⟨i6 rfl rfl rfl ?_ rfl,trivial⟩,⟨m9 rfl,m9 rfl,t6 rfl zq,rfl,g9 om,trivial⟩⟩ ?_
 ·show List.replicate _ _=_;simp [toC,j3,F7]
 rintro ⟨j,q,r⟩ hI;have hI:a1T (dg m) n j q r:=hI;have hlen:=hI.len;have hle:=hI.le;have hr1:=hI.r1;by_cases hj:0<j
 ·obtain ⟨i,rfl⟩:∃i,j=i+1:=⟨j - 1,om⟩;have ei:(((i+1:Nat):Int) - 1)=i:=om;have hda:=(B6 m).dat i;have ⟨y,hy⟩:=a36 hda.1;have lr:=t9 (show r<=n by omega);have lm2:i<(dg m).length:=om;generalize hR:r*1048576+y=R;have hRn:R<n*1048576:=by
   have:=lbU 1048576 (show r+1<=n by omega);rw [Y3] at this;omega
  have lR:(dg R).length<=(dg n).length+1:=Q8 (by
   have h1:=U3 n;rw [M3];have h2:=lbX (a:=(n:Int)+1) (b:=pw (dg n).length) (c:=1048576) om de;omega)
  have tr:=a8m (dat (dg m) i::dg r) zo;rw [b8Q (d:=n) hda,hy,lbY,hR] at tr;conv=>whnf
  repeat' (first|refine zz ?_|refine a3A.own ?_|refine N7 ei (C4 om) ?_|refine v8 (by simp [toC,D8]) zu ?_|refine .inr ⟨_,_,C9 [2] tr ⟨a2f (v7 zq rfl zi rfl (by simp [toC,D8,j3,hy]) (by simp [toC,aL6])),trivial⟩ rfl,?_⟩|apply zD<;>intro h<;>try omega|refine zy ?_|fail)<;>conv=>whnf
  refine w7 g8 (σ:=Nat × Nat) (fun|(lo,hi)=>([j7 (dg m),j7 (dg n),J,J,J,J,a1P 0 q,j7 (dg R),eI i,eI lo,eI hi]++Jn 49,[y3 q])) (fun x=>x.1*n<=R/\R<x.2*n/\x.1<x.2/\x.2<=1048576) (fun x=>x.2 - x.1) (0,1048576) [some 0]
   ⟨zq,by show R<1048576*n;rw [ag5];exact hRn,de,de⟩ ⟨rfl,rfl,⟨i6 rfl rfl rfl rfl rfl,trivial⟩,⟨rfl,rfl,t6 rfl rfl,rfl,g9 ei,rz⟩⟩ ?_
  rintro ⟨lo,hi⟩ ⟨i1,i2,i3,i4⟩;have i1:lo*n<=R:=i1;have i2:R<hi*n:=i2;have i3:lo<hi:=i3;have i4:hi<=1048576:=i4;have ln1:(dg n).length<=200000:=ln;by_cases hc:1<hi - lo
  ·have hmid:(((lo:Int)+hi) / 2)=(((lo+hi) / 2:Nat):Int):=by omega
   generalize hM:(lo+hi) / 2=mid at hmid;have tm:=b4Q (dg n) [(mid:Int)] (B6 n) (by intro x hx;simp at hx;omega) om zq;have e0:val [(mid:Int)]=mid:=by simp [val]
   rw [e0,v4,show ((n:Int)*mid).toNat=n*mid by rw [← a3Y];rfl] at tm;have lnm:(dg (n*mid)).length<=(dg n).length+1:=lbS (a5t _ _) (by have:=w9 (x:=(mid:Int)) om om;simp only [bl,aS1] at this;omega);have ls:=bd1 (dg R) (dg (n*mid)) (B6 _) (B6 _) om om;rw [v4,v4] at ls;conv=>whnf
   repeat' (first|refine zx ?_|refine qp (a5h om) ?_|refine ⟨de,_,I3 (y:=(mid:Int)) (by rw [a5h om];exact hmid) om om,?_⟩|refine .inl ⟨_,_,a1W tm ⟨aZ8,a2f (av7 rfl),trivial⟩ rfl,?_⟩|apply zD<;>intro h<;>try omega)<;>conv=>whnf
   ·have hlt:R<n*mid:=Int.ofNat_lt.1 (lbL (by assumption));exact ⟨[some 0],(lo,mid),⟨rfl,rfl,⟨i6 rfl rfl rfl rfl rfl,trivial⟩,⟨rfl,rfl,t6 rfl rfl,rz⟩⟩,⟨i1,by show R<mid*n;rw [ag5];exact hlt,by show lo<mid;omega,by show mid<=1048576;omega⟩,by show mid - lo<hi - lo;omega⟩
   ·have hlt:n*mid<=R:=Nat.not_lt.1 (fun h=>absurd (Int.ofNat_lt.2 h) (lbM (by assumption)));exact ⟨[some 0],(mid,hi),⟨rfl,rfl,⟨i6 rfl rfl rfl rfl rfl,trivial⟩,⟨rfl,rfl,t6 rfl rfl,rz⟩⟩,⟨by show mid*n<=R;rw [ag5];exact hlt,i2,by show mid<hi;omega,i4⟩,by show hi - mid<hi - lo;omega⟩
  ·obtain rfl:hi=lo+1:=by omega
   have hq:R / n=lo:=by
    rw [Nat.div_eq_iff hn];rw [Y3] at i2;omega
   have hm2:=b51 R n;rw [hq] at hm2;have hrm:=a9G R hn;have tl:=a8m [(lo:Int)] zq;rw [R5 (by intro x hx;simp at hx;omega),show (val [(lo:Int)]).toNat=lo by simp [val]] at tl;have llo:(dg lo).length<=1:=by have:=w9 (x:=(lo:Int)) om om;simpa [bl] using this
   have tt:=b13 n lo om om;have mi:=b5E (dg R) (dg (n*lo)) (B6 _) (B6 _) om (t9 om) (by rw [v4,v4];omega);rw [v4,v4,show ((R:Int) - ((n*lo:Nat):Int)).toNat=R % n by omega] at mi;have hst:=hI.step (B6 m) om;have c1:((r:Int)*1048576+dat (dg m) i)=(R:Int):=by rw [hy,←hR];simp
   rw [c1] at hst;have c2:(R:Int) / n=(lo:Int):=by rw [← hq];simp
   have c3:(R:Int) % n=((R % n:Nat):Int):=zq;rw [c2,c3] at hst;have gq:q[0+(i:Int).toNat]? =some (dat q i):=V9 om om;conv=>whnf
   repeat' (first|refine zx ?_|refine .inl ⟨_,_,a1W tl ⟨a2f (av7 rfl),trivial⟩ rfl,?_⟩|refine T8 om (by show _<((q.length:Nat):Int);omega) ?_|refine z6 gq ?_|apply zD<;>intro h<;>try omega)<;>conv=>whnf
   all_goals try omega
   refine ⟨[some 0],(i,q.set i lo,R % n),⟨rfl,rfl,⟨i6 rfl rfl rfl (S6 om) rfl,trivial⟩,⟨rfl,rfl,t6 rfl zq,rfl,g9 om,trivial⟩⟩,hst,by show i<i+1;omega⟩
 ·obtain rfl:j=0:=by omega
  have ⟨f1,f2⟩:=hI.fin (B6 m) om;have tq:=a8m q (by have:=hI.len;omega);rw [f1,v4,show ((m:Int) / n).toNat=m / n by rw [← Int.natCast_ediv];rfl] at tq;rw [v4] at f2;have f3:r=m % n:=by
   have:(m:Int) % n=((m % n:Nat):Int):=zq;omega
  subst f3;conv=>whnf
  repeat' (first|refine zx ?_|refine .inr ⟨_,_,C9 [0] tq ⟨a2f (v7 zq rfl zi rfl rfl zq),trivial⟩ rfl,?_⟩|apply zD<;>intro h<;>try omega)<;>conv=>whnf
  all_goals try omega
  exact n8 rz
abbrev frC (f:Fr):List C:=[.t (ti f.p.sg),.t (w5 f.p.dl),.t (ti f.q.sg),.t (w5 f.q.dl)]
abbrev frS (f:Fr):S:=.agg (frC f)
def bT7 (x:Int) (lx:bl x<=200000):ec 197 [bgS (bz x)] [] (n7 (x == 1)) []:=by
 have i:=bC9 x lx;by_cases h:ae5 x
 ·rw [iB h,show decide (ae5 x)=true by simp [h]] at i;refine ac Tryz.func197 ?_;conv=>whnf
  repeat' (first|refine zx ?_|apply zD<;>intro h<;>try omega)<;>conv=>whnf
  all_goals (refine j6 ?_;simp;omega)
 ·rw [iC h,show decide (ae5 x)=false by simp [h]] at i;have hx:x≠1:=by rintro rfl;exact h de
  refine ac Tryz.func197 ?_;conv=>whnf
  repeat' (first|refine zx ?_|apply zD<;>intro h<;>try omega)<;>conv=>whnf
  all_goals (refine j6 ?_;simp;omega)
def b1p (f:Fr) (lp:f.p.dl.length<=200000) (lq:f.q.dl.length<=200000):ec 153 [frS f] [] (n7 (X5 f)) []:=by
 have ⟨p,q⟩:=f;simp only at lp lq;have r1:=a4B p om;have r2:=a4B q om;cases hp:M9 p with
 |false=>
  rw [hp] at r1;refine ac Tryz.func153 ?_;conv=>whnf
  repeat' (first|refine zx ?_|apply zD<;>intro<;>try omega)<;>conv=>whnf
  all_goals (first|(exfalso;simp_all;done)|(refine j6 ?_;unfold X5;simp [hp]))
 |true=>
  rw [hp] at r1;cases hq:M9 q with
  |false=>
   rw [hq] at r2;refine ac Tryz.func153 ?_;conv=>whnf
   repeat' (first|refine zx ?_|apply zD<;>intro<;>try omega)<;>conv=>whnf
   all_goals (first|(exfalso;simp_all;done)|(refine j6 ?_;unfold X5;simp [hq]))
  |true=>
   rw [hq] at r2;obtain ⟨x,rfl⟩:=aA0 hp;obtain ⟨y,rfl⟩:=aA0 hq;have g:=b3z x y lp lq;have o:=bT7 (Int.gcd x y) (ac6 x y lp lq);refine ac Tryz.func153 ?_;conv=>whnf
   repeat' (first|refine zx ?_|apply zD<;>intro<;>try omega)<;>conv=>whnf
   all_goals (refine j6 ?_;unfold X5;simp only [a1h,a6i,P5];symm;simp_all<;>omega)
def a2F (x y:Int) (lx:bl x<=200000) (ly:bl y<=200000):ec 157 [bgS (bz x),bgS (bz y)] [] (bgS (bz (x*y))) []:=by
 have mu:=bI1 x y lx ly;refine ac Tryz.func157 ?_;conv=>whnf
 repeat' (first|refine zx ?_|apply zD<;>intro<;>try omega)<;>conv=>whnf
 exact n8 rz
def a0U {f f':Fr} {e:Int} {H1:Hp} (h:f=f'):Fin 0 (.tup [frS f,eI e]) H1 (.tup [frS f',eI e]) []:=by
 subst h;exact n8 rz
def aQ5 (p q:Int) (hq:q≠0) (lp:bl p<=200000) (lq:bl q<=200000):ec 183 [bgS (bz p),bgS (bz q)] [] (.tup [frS (fz (Rat.divInt p q)),eI 0]) []:=by
 have r1:=a70 p om;have r2:=a70 q om;have hs:=G6 q;have hsg:(bz q).sg=q.sign:=rfl;by_cases h:q<0
 ·have n1:=ac1 p om;have n2:=ac1 q om;have lg:=ac6 (-p) (-q) (by rw [Z7];exact lp) (by rw [Z7];exact lq);have hg:0<(Int.gcd (-p) (-q):Int):=by have:=b2u (-p) (b:=-q) om;omega
  have g:=b3z (-p) (-q) (by rw [Z7];exact lp) (by rw [Z7];exact lq);have d1:=aQ4 (-p) _ hg (by rw [Z7];exact lp) lg;have d2:=aQ4 (-q) _ hg (by rw [Z7];exact lq) lg;have e:=aa9 (p:=-p) (q:=-q) om rfl;rw [Rat.neg_divInt_neg] at e;refine ac Tryz.func183 ?_;conv=>whnf
  repeat' (first|refine zx ?_|apply zD<;>intro h<;>try omega)<;>conv=>whnf
  all_goals first|(exfalso;simp_all;done)|omega|exact a0U e.symm
 ·have lg:=ac6 p q lp lq;have hg:0<(Int.gcd p q:Int):=by have:=b2u p (b:=q) om;omega
  have g:=b3z p q lp lq;have d1:=aQ4 p _ hg lp lg;have d2:=aQ4 q _ hg lq lg;have e:=aa9 (p:=p) (q:=q) om rfl;refine ac Tryz.func183 ?_;conv=>whnf
  repeat' (first|refine zx ?_|apply zD<;>intro h<;>try omega)<;>conv=>whnf
  all_goals first|omega|(exfalso;simp_all;done)|exact a0U e.symm
def P9 (x:Rat) (lx:rl x<=200000):ec 153 [frS (fz x)] [] (n7 true) []:=by
 have h:=b1p (fz x) (lbS (K9 x) lx) (lbS (K3 x) lx);rw [ap9] at h;exact h
def a8H (x y:Rat) (lx:rl x<=60000) (ly:rl y<=60000):ec 143 [frS (fz x),frS (fz y)] [] (.tup [frS (fz (x+y)),eI 0]) []:=by
 have r1:=P9 x om;have r2:=P9 y om;have x1:=K9 x;have x2:=K3 x;have y1:=K9 y;have y2:=K3 y;have l1:=I5 x.num y.den;have l2:=I5 y.num x.den;have l3:=I5 x.den y.den;have l4:=a8u (x.num*y.den) (y.num*x.den);have t1:=a2F x.num y.den om om;have t2:=a2F y.num x.den om om;have t3:=a2F x.den y.den om om;have a:=bF6 (x.num*y.den) (y.num*x.den) om om;have n:=aQ5 (x.num*y.den+y.num*x.den) (x.den*y.den) (ao1 x y) om om;rw [← am9] at n;refine ac Tryz.func143 ?_;conv=>whnf
 repeat' (first|refine zx ?_|refine bl0 [13] ?_|apply zD<;>intro<;>try omega)<;>conv=>whnf
 all_goals first|(exfalso;simp_all;done)|exact a0U rfl
def ba5 (x y:Rat) (lx:rl x<=60000) (ly:rl y<=60000):ec 142 [frS (fz x),frS (fz y)] [] (.tup [frS (fz (x - y)),eI 0]) []:=by
 have r1:=P9 x om;have r2:=P9 y om;have y1:=K9 y;have n:=ac1 y.num om;have a:=a8H x (-y) lx (by rw [a3i];exact ly);rw [← b3V] at a;have e:fz (-y)=⟨bz (-y.num),bz y.den⟩:=rfl;rw [e] at a;refine ac Tryz.func142 ?_;conv=>whnf
 repeat' (first|refine zx ?_|apply zD<;>intro<;>try omega)<;>conv=>whnf
 all_goals first|(exfalso;simp_all;done)|exact a0U rfl
def b3C (x y:Rat) (lx:rl x<=60000) (ly:rl y<=60000):ec 158 [frS (fz x),frS (fz y)] [] (.tup [frS (fz (x*y)),eI 0]) []:=by
 have r1:=P9 x om;have r2:=P9 y om;have x1:=K9 x;have x2:=K3 x;have y1:=K9 y;have y2:=K3 y;have l1:=I5 x.num y.num;have l3:=I5 x.den y.den;have t1:=a2F x.num y.num om om;have t3:=a2F x.den y.den om om;have n:=aQ5 (x.num*y.num) (x.den*y.den) (ao1 x y) om om;rw [← aS2] at n;refine ac Tryz.func158 ?_;conv=>whnf
 repeat' (first|refine zx ?_|apply zD<;>intro<;>try omega)<;>conv=>whnf
 all_goals first|(exfalso;simp_all;done)|exact a0U rfl
def ba1 (x y:Rat):Q5 (x.num*y.den) (y.num*x.den)=a8B x y:=by
 unfold Q5 a8B;simp only [← Rat.lt_iff]
def aC6 (x y:Rat) (lx:rl x<=60000) (ly:rl y<=60000):ec 104 [frS (fz x),frS (fz y)] [] (eI (a8B x y)) []:=by
 have r1:=P9 x om;have r2:=P9 y om;have x1:=K9 x;have x2:=K3 x;have y1:=K9 y;have y2:=K3 y;have l1:=I5 x.num y.den;have l2:=I5 y.num x.den;have t1:=a2F x.num y.den om om;have t2:=a2F y.num x.den om om;have c:=b2P (x.num*y.den) (y.num*x.den) om om;rw [ba1] at c;refine ac Tryz.func104 ?_;conv=>whnf
 repeat' (first|refine zx ?_|apply zD<;>intro<;>try omega)<;>conv=>whnf
 all_goals first|(exfalso;simp_all;done)|exact p9 rfl
def a2C (x:Rat) (lx:rl x<=60000):ec 103 [frS (fz x)] [] (eI (sgR x)) []:=by
 have r1:=P9 x om;refine ac Tryz.func103 ?_;conv=>whnf
 repeat' (first|refine zx ?_|apply zD<;>intro<;>try omega)<;>conv=>whnf
 all_goals first|(exfalso;simp_all;done)|exact p9 (a9E x)
def bT0 (p q:Int) (hq:q≠0) (p0:-9223372036854775808<=p) (p1:p<=9223372036854775807) (q0:-9223372036854775808<=q) (q1:q<=9223372036854775807):
 ec 180 [eI p,eI q] [] (.tup [frS (fz (Rat.divInt p q)),eI 0]) []:=by
 have l1:=U5 p0 p1;have l2:=U5 q0 q1;have o1:=b4Y p p0 p1;have o2:=b4Y q q0 q1;have n:=aQ5 p q hq om om;refine ac Tryz.func180 ?_;conv=>whnf
 repeat' (first|refine zx ?_|apply zD<;>intro<;>try omega)<;>conv=>whnf
 all_goals exact a0U rfl
def bI8 (n:Int):fz (n:Rat)=⟨bz n,bz 1⟩:=by unfold fz;rw [a89,as0];rfl
def V4 (n:Int) (p0:-9223372036854775808<=n) (p1:n<=9223372036854775807):ec 59 [eI n] [] (frS (fz (n:Rat))) []:=by
 have o1:=b4Y n p0 p1;have o2:=b4Y 1 de de;rw [bI8];refine ac Tryz.func59 ?_;conv=>whnf
 repeat' (first|refine zx ?_|apply zD<;>intro<;>try omega)<;>conv=>whnf
 all_goals exact n8 rz
def av2 (x:Int) (lx:bl x<=200000):ec 220 [bgS (bz x)] [] (bgS (bz x)) []:=by
 have n1:=ac1 x om;have n2:=ac1 (-x) (by rw [Z7];omega);rw [Int.neg_neg] at n2;refine ac Tryz.func220 ?_;conv=>whnf
 repeat' (first|refine zx ?_|apply zD<;>intro<;>try omega)<;>conv=>whnf
 all_goals exact n8 rz
def a4X (b:Bg) (hl:b.dl.length<=1000000):ec 165 [bgS b] [] (n7 (M9 b)) []:=by
 have l2:(b.dl.map j3).length=b.dl.length:=zq
 (refine ac Tryz.func165 ?_;(conv=>whnf);repeat ((first|refine b0x ?_|refine zy ?_);conv=>whnf))
 repeat' (first|refine zx ?_|apply zD<;>intro h<;>try omega)<;>conv=>whnf
 refine k6 g8 (fun k=>([J,S.c (C.t (T.ptr [ti b.sg,w5 b.dl])),J,eI k]++Jn 52,[])) b.dl.length (fun k=>(b.dl.take k).all inD=true) [] rfl
  ⟨rfl,rfl,trivial,⟨m9 rfl,rz⟩⟩ ?_
 intro k hk hI;by_cases hlt:k<b.dl.length
 ·conv=>whnf
  repeat' (first|refine zx ?_|refine j4 (C4 om) ?_|apply zD<;>intro h<;>try omega)<;>conv=>whnf
  all_goals first|omega|exact ⟨hlt,by rw [D5 (C4 hlt),hI];simp [inD];omega,[],rz⟩|(refine j6 ?_;unfold M9;rw [H3 (C4 hlt) (by simp [inD];omega)];rfl)
 ·have hke:k=b.dl.length:=by omega
  subst hke;have ha:b.dl.all inD=true:=by rw [← hI,lbn om]
  have hgl:0<b.dl.length->b.dl[((((b.dl.map j3).length:Nat):Int) - 1).toNat]? =some (dat b.dl (b.dl.length - 1)):=fun h=>by rw [l2];exact a8K h
  conv=>whnf
  repeat' (first|refine zx ?_|refine K6 om (hgl om) ?_|apply zD<;>intro h<;>try omega)<;>conv=>whnf
  all_goals first|omega|(exfalso;simp_all;done)|(exfalso;simp_all;omega)|skip
  all_goals
   refine j6 ?_;unfold M9;rw [ha];by_cases hz:b.dl.length=0
   ·rw [iB hz];simp_all<;>omega
   ·rw [iC hz];simp_all<;>omega
def a26 (x:Int) (lx:bl x<=300000):ec 165 [bgS (bz x)] [] (n7 true) []:=by
 have:=a4X (bz x) (show bl x<=1000000 by omega);rw [a1h] at this;exact this
def b69 (n:Int) (h0:-9223372036854775808<=n) (h1:n<=9223372036854775807):ec 117 [eI n] [] (bgS (bz n)) []:=by
 rcases a5b n 0 with hn|hn|hn
 ·refine ac Tryz.func117 ?_;conv=>whnf
  repeat' (first|refine zx ?_|apply zD<;>intro h<;>try omega)<;>conv=>whnf
  all_goals try omega
  refine w7 g8 (σ:=LI × Nat) (fun|(acc,u)=>([eI (- (u:Int)),J,sP 0 0 0,eI (-1),a1P 1 acc]++Jn 23,[a6n,y3 acc])) (fun s=>OfI n s.1 s.2) (fun s=>s.2) ([],n.natAbs) [some 0,none]
   ⟨rfl⟩ ⟨rfl,rfl,⟨⟨rfl,rfl,rfl,.inl ⟨rfl,X7⟩⟩,rz⟩,⟨g9 om,rz⟩⟩ ?_
  rintro ⟨acc,u⟩ hI;have hI:OfI n acc u:=hI;have hl:=hI.len h0 h1;have hu:=hI.le;have hm:(- (u:Int)).tmod 1048576=- ((u:Int) % 1048576):=by
   first|exact a6s om|(rw [Int.neg_tmod,a6s om])
  have hd:(- (u:Int)).tdiv 1048576=- ((u / 1048576:Nat):Int):=by
   first|(rw [a5h om];simp;done)|(rw [Int.neg_tdiv,a5h om];simp)
  by_cases hu0:0<u
  ·have hst:=hI.step hu0;conv=>whnf
   repeat' (first|refine zx ?_|refine v8 zt zu ?_|refine ⟨de,_,I3 hd om om,?_⟩|refine ap2 de ?_|apply zD<;>intro h<;>try omega)<;>conv=>whnf
   all_goals try omega
   all_goals
    refine ⟨[some 0,some 2],(acc++[(u:Int) % 1048576],u / 1048576),⟨rfl,rfl,⟨⟨rfl,rfl,rfl,.inl ⟨rfl,X7⟩⟩,i6 rfl rfl rfl ?_ rfl,trivial⟩,⟨g9 rfl,rz,rfl,t6 rfl zt,trivial⟩⟩,hst,by show u / 1048576<u;omega⟩;have e:∀y:Int,y=(u:Int) % 1048576->(toC (acc.map j3)).take acc.length++toC [[ti y]]=toC ((acc++[(u:Int) % 1048576]).map j3):=fun y hy=>by rw [hy];exact a3f
    exact e _ om
  ·have h0u:u=0:=by omega
   subst h0u;have e:acc=dg n.natAbs:=by have:=hI.eq;rw [a0Q,a05] at this;exact this
   have sg:=Q2 (-1) n.natAbs om (by rw [← e];omega);rw [← e,show (-1)*(n.natAbs:Int)=n by omega] at sg;conv=>whnf
   repeat' (first|refine zx ?_|refine .inr ⟨_,_,C9 [1] sg ⟨aZ8,a2f (v7 zq rfl zi rfl rfl zq),trivial⟩ rfl,?_⟩|apply zD<;>intro h<;>try omega)<;>conv=>whnf
   all_goals try omega
   exact n8 rz
 ·subst hn;refine ac Tryz.func117 ?_;conv=>whnf
  repeat' (first|refine zx ?_|apply zD<;>intro h<;>try omega)<;>conv=>whnf
  all_goals first|omega|exact n8 rz
 ·refine ac Tryz.func117 ?_;conv=>whnf
  repeat' (first|refine zx ?_|apply zD<;>intro h<;>try omega)<;>conv=>whnf
  all_goals try omega
  refine w7 g8 (σ:=LI × Nat) (fun|(acc,u)=>([eI ((u:Int)),J,sP 0 0 0,eI (1),a1P 1 acc]++Jn 23,[a6n,y3 acc])) (fun s=>OfI n s.1 s.2) (fun s=>s.2) ([],n.natAbs) [some 0,none]
   ⟨rfl⟩ ⟨rfl,rfl,⟨⟨rfl,rfl,rfl,.inl ⟨rfl,X7⟩⟩,rz⟩,⟨g9 om,rz⟩⟩ ?_
  rintro ⟨acc,u⟩ hI;have hI:OfI n acc u:=hI;have hl:=hI.len h0 h1;have hu:=hI.le;have hm:((u:Int)).tmod 1048576=((u:Int) % 1048576):=by
   first|exact a6s om|(rw [Int.neg_tmod,a6s om])
  have hd:((u:Int)).tdiv 1048576=((u / 1048576:Nat):Int):=by
   first|(rw [a5h om];simp;done)|(rw [Int.neg_tdiv,a5h om];simp)
  by_cases hu0:0<u
  ·have hst:=hI.step hu0;conv=>whnf
   repeat' (first|refine zx ?_|refine v8 zt zu ?_|refine ⟨de,_,I3 hd om om,?_⟩|refine ap2 de ?_|apply zD<;>intro h<;>try omega)<;>conv=>whnf
   all_goals try omega
   all_goals
    refine ⟨[some 0,some 2],(acc++[(u:Int) % 1048576],u / 1048576),⟨rfl,rfl,⟨⟨rfl,rfl,rfl,.inl ⟨rfl,X7⟩⟩,i6 rfl rfl rfl ?_ rfl,trivial⟩,⟨g9 rfl,rz,rfl,t6 rfl zt,trivial⟩⟩,hst,by show u / 1048576<u;omega⟩;have e:∀y:Int,y=(u:Int) % 1048576->(toC (acc.map j3)).take acc.length++toC [[ti y]]=toC ((acc++[(u:Int) % 1048576]).map j3):=fun y hy=>by rw [hy];exact a3f
    exact e _ om
  ·have h0u:u=0:=by omega
   subst h0u;have e:acc=dg n.natAbs:=by have:=hI.eq;rw [a0Q,a05] at this;exact this
   have sg:=Q2 (1) n.natAbs om (by rw [← e];omega);rw [← e,show (1)*(n.natAbs:Int)=n by omega] at sg;conv=>whnf
   repeat' (first|refine zx ?_|refine .inr ⟨_,_,C9 [1] sg ⟨aZ8,a2f (v7 zq rfl zi rfl rfl zq),trivial⟩ rfl,?_⟩|apply zD<;>intro h<;>try omega)<;>conv=>whnf
   all_goals try omega
   exact n8 rz
def b93 (x y:Int) (lx:bl x<=200000) (ly:bl y<=200000):ec 166 [bgS (bz x),bgS (bz y)] [] (.tup [bgS (bz (Int.gcd x y)),eI 0]) []:=by
 have r1:=a26 x om;have r2:=a26 y om;refine ac Tryz.func166 ?_;conv=>whnf
 repeat' (first|refine zx ?_|apply zD<;>intro<;>try omega)<;>conv=>whnf
 all_goals first|(exfalso;simp_all;done)|skip
 refine w7 g8 (σ:=Nat × Nat) (fun|(X,Y)=>([J,J,J,J,sP 0 0 0,J,j7 (dg X),j7 (dg Y)]++Jn 28,[a6n])) (fun s=>bt4 x y s.1 s.2) (fun s=>s.2) (x.natAbs,y.natAbs) [some 2]
  ⟨rfl,lx,ly⟩ ⟨rfl,rfl,⟨⟨rfl,rfl,rfl,.inl ⟨rfl,X7⟩⟩,trivial⟩,rz⟩ ?_
 rintro ⟨X,Y⟩ hI;have hI:bt4 x y X Y:=hI;have ⟨g1,g2,g3⟩:=hI;have l2:((dg Y).map j3).length=(dg Y).length:=zq;by_cases hY:0<Y
 ·have hp:(dg Y).length≠0:=by rw [Ne,a0B,O8];omega
  have dv:=b8w X Y hY om om;conv=>whnf
  repeat' (first|refine zx ?_|apply zD<;>intro<;>try omega)<;>conv=>whnf
  all_goals first|omega|exact ⟨[some 0],(Y,X % Y),⟨rfl,rfl,⟨⟨rfl,rfl,rfl,.inl ⟨rfl,X7⟩⟩,trivial⟩,rz⟩,⟨by rw [← g1,Nat.gcd_comm Y,←Nat.gcd_rec,Nat.gcd_comm],g3,lbS (t9 (a9U (a9G X hY))) g3⟩,a9G X hY⟩
 ·have hY:Y=0:=by omega
  subst hY;have hp:(dg 0).length=0:=rfl;have s1:=Q2 1 X zq om;conv=>whnf
  repeat' (first|refine zx ?_|apply zD<;>intro<;>try omega)<;>conv=>whnf
  all_goals first|omega|skip
  refine a82 ?_;rw [a2u,show X=Int.gcd x y by rw [Int.gcd,←g1,Nat.gcd_zero_right]]
def bA6 (x y:Int) (hy:0<y) (hxy:x % y=0) (lx:bl x<=200000) (ly:bl y<=200000):ec 167 [bgS (bz x),bgS (bz y)] [] (.tup [bgS (bz (x / y)),bgS (bz 0),eI 0]) []:=by
 have r1:=a26 x om;have r2:=a26 y om;have hys:(bz y).sg=1:=by rw [ag6,S9 hy]
 have ov:=b8w x.natAbs y.natAbs om lx ly;have hmod:x.natAbs % y.natAbs=0:=by
  have:=Int.natAbs_dvd_natAbs.2 (Int.dvd_of_emod_eq_zero hxy);exact Nat.mod_eq_zero_of_dvd this
 have lq:=t9 (Nat.div_le_self x.natAbs y.natAbs);have hsg:(bz x).sg=x.sign:=rfl;have hs:=G6 x;have hq:x.sign*((x.natAbs / y.natAbs:Nat):Int)=x / y:=by
  have ⟨k,hk⟩:=Int.dvd_of_emod_eq_zero hxy;subst hk;have hk2:(y*k) / y=k:=aP7 _ om;rw [hk2,a3y,Nat.mul_div_cancel_left _ om,Int.sign_mul,S9 hy,a2u];exact at3 k
 have s1:=Q2 x.sign (x.natAbs / y.natAbs) (by
  rcases hs with ⟨h,h1⟩|⟨h,h1⟩|⟨h,h1⟩
  ·right;right;subst h1;simp
  ·exact .inl h
  ·exact .inr (.inl h)) (by unfold bl at lx;omega)
 rw [hq] at s1;have s2:=Q2 x.sign 0 zq (by rw [a0Q];simp);rw [show x.sign*((0:Nat):Int)=0 by simp] at s2;have hmul:x.sign*1=x.sign:=az9 _;have hd0:((dg (x.natAbs % y.natAbs)).map j3).length=0:=by rw [hmod,a0Q];rfl
 unfold b3A at ov;rw [hmod] at ov hd0;refine ac Tryz.func167 ?_;conv=>whnf
 repeat' (first|refine zx ?_|refine qp (hys,hsg) ?_|refine ⟨_,I3 (y:=x.sign) (by rw [hys,hsg];exact hmul) om om,?_⟩|apply zD<;>intro h<;>try omega)<;>conv=>whnf
 all_goals first|omega|(exfalso;simp_all;done)|exact b4r rfl rfl
def b11 (p q:Int) (hq:0<q) (lp:bl p<=200000) (lq:bl q<=200000):ec 116 [bgS (bz p),bgS (bz q)] [] (.tup [frS (fz (Rat.divInt p q)),eI 0]) []:=by
 have r1:=a26 p om;have r2:=a26 q om;have hsg:(bz q).sg=1:=by rw [ag6,S9 hq]
 have lg:=ac6 p q lp lq;have hg:0<(Int.gcd p q:Int):=by have:=b2u p (b:=q) om;omega
 have g:=b93 p q lp lq;have d1:=bA6 p _ hg (Int.emod_eq_zero_of_dvd (Int.gcd_dvd_left ..)) lp lg;have d2:=bA6 q _ hg (Int.emod_eq_zero_of_dvd (Int.gcd_dvd_right ..)) lq lg;have e:=aa9 (p:=p) (q:=q) om rfl;refine ac Tryz.func116 ?_;conv=>whnf
 repeat' (first|refine zx ?_|apply zD<;>intro<;>try omega)<;>conv=>whnf
 all_goals first|omega|(exfalso;simp_all;done)|exact a0U e.symm
def bI4 (p q:Int) (hq:0<q) (p0:-9223372036854775808<=p) (p1:p<=9223372036854775807) (q1:q<=9223372036854775807):
 ec 82 [eI p,eI q] [] (.tup [frS (fz (Rat.divInt p q)),eI 0]) []:=by
 have l1:=U5 p0 p1;have l2:=U5 (x:=q) om q1;have o1:=b69 p p0 p1;have o2:=b69 q om q1;have n:=b11 p q hq om om;refine ac Tryz.func82 ?_;conv=>whnf
 repeat' (first|refine zx ?_|apply zD<;>intro<;>try omega)<;>conv=>whnf
 all_goals exact a0U rfl
def a61 (n:Int) (p0:-9223372036854775808<=n) (p1:n<=9223372036854775807):ec 53 [eI n] [] (frS (fz (n:Rat))) []:=by
 have o:=bI4 n 1 de p0 p1 de;have e:Rat.divInt n 1=(n:Rat):=by rw [a84];simp;grind
 rw [e] at o;refine ac Tryz.func53 ?_;conv=>whnf
 repeat' (first|refine zx ?_|apply zD<;>intro<;>try omega)<;>conv=>whnf
 all_goals exact n8 rz
structure aD7 (a b:LI) (i:Nat) (out:LI) (c:Int):Prop where
 len:out.length=i
 ok:Okd out
 le:i<=max a.length b.length+1
 top:i=max a.length b.length+1->c=0
 c0:0<=c
 c1:c<=1
 eq:val out+pw i*c=val (a.take i)+val (b.take i)
def aD7.init (a b:LI):aD7 a b 0 [] 0:=⟨rfl,.nil,G0 _,fun _=>rfl,de,de,by simp [val]⟩
def aD7.step {a b out:LI} {i:Nat} {c:Int} (h:aD7 a b i out c) (ha:Okd a) (hb:Okd b) (hi:i<a.length\/i<b.length\/0<c):
 aD7 a b (i+1) (out++[(dat a i+dat b i+c) % 1048576]) ((dat a i+dat b i+c) / 1048576):=by
 have h1:=ha.dat i;have h2:=hb.dat i;have h3:=h.c0;have h4:=h.c1;have hl:=h.le;have ht:=h.top;have hi2:i<=max a.length b.length:=by
  rcases I0 (max a.length b.length) i with h5|h5
  ·have:=ht om;omega
  ·exact h5
 refine ⟨by simp [h.len],h.ok.append (Okd.cons (a7j _) .nil),om,fun e=>?_,om,om,?_⟩
 ·have e1:dat a i=0:=Y6 om;have e2:dat b i=0:=Y6 om;rw [e1,e2];omega
 ·rw [P3,h.len,B2,B2,M3];have h5:=h.eq;have h6:(dat a i+dat b i+c) % 1048576=dat a i+dat b i+c - 1048576*((dat a i+dat b i+c) / 1048576):=om;simp only [val];rw [h6];grind
def aD7.fin {a b out:LI} {i:Nat} {c:Int} (h:aD7 a b i out c) (la:a.length<=i) (lb:b.length<=i) (hc:c<=0):N4 out=dg (val a+val b).toNat:=by
 have h1:=h.eq;have h2:=h.c0;obtain rfl:c=0:=om;rw [lbn la,lbn lb] at h1;rw [R5 h.ok]
 congr 2
 grind
def bL1 (a b:LI) (ha:Okd a) (hb:Okd b) (la:a.length<=400000) (lb:b.length<=400000):
 ec 204 [j7 a,j7 b] [] (j7 (dg (val a+val b).toNat)) []:=by
 have l1:(a.map j3).length=a.length:=zq;have l2:(b.map j3).length=b.length:=zq;refine ac Tryz.func204 ?_;conv=>whnf
 repeat' (first|refine zx ?_|apply zD<;>intro h<;>try omega)<;>conv=>whnf
 refine w7 g8 (σ:=Nat × LI × Int) (fun|(k,out,c)=>([j7 a,j7 b,J,J,J,a1P 0 out,eI c,eI k]++Jn 35,[y3 out])) (fun x=>aD7 a b x.1 x.2.1 x.2.2) (fun x=>max a.length b.length+1 - x.1) (0,[],0) [none]
  (aD7.init a b) ⟨rfl,rfl,rz,⟨m9 rfl,m9 rfl,rz⟩⟩ ?_
 rintro ⟨k,out,c⟩ hI;have hI:aD7 a b k out c:=hI;have hlen:=hI.len;have hle:=hI.le;have hc0:=hI.c0;have hc1:=hI.c1;have hda:=ha.dat k;have hdb:=hb.dat k;have d1:=a7t a k om;have d2:=a7t b k om;have hm:(dat a k+dat b k+c).tmod 1048576=(dat a k+dat b k+c) % 1048576:=a6s om;have hd:(dat a k+dat b k+c).tdiv 1048576=(dat a k+dat b k+c) / 1048576:=a5h om;by_cases hgo:k<a.length\/k<b.length\/0<c
 ·have hst:=hI.step ha hb hgo;have hk2:=hst.le;conv=>whnf
  repeat' (first|refine zx ?_|refine v8 zt zu ?_|refine ⟨de,_,I3 hd om om,?_⟩|refine ap2 de ?_|apply zD<;>intro h<;>try omega)<;>conv=>whnf
  all_goals try omega
  all_goals
   refine ⟨[some 1],(k+1,out++[(dat a k+dat b k+c) % 1048576],(dat a k+dat b k+c) / 1048576),⟨rfl,rfl,⟨i6 rfl rfl rfl ?_ rfl,trivial⟩,⟨rfl,rfl,t6 rfl zt,rfl,g9 om,trivial⟩⟩,hst,?_⟩
   ·have e:∀y:Int,y=(dat a k+dat b k+c) % 1048576->(toC (out.map j3)).take out.length++toC [[ti y]]=toC ((out++[(dat a k+dat b k+c) % 1048576]).map j3):=fun y hy=>by rw [hy];exact a3f
    exact e _ om
   ·show max a.length b.length+1 - (k+1)<max a.length b.length+1 - k;omega
 ·have hf:=hI.fin om om om;have t:=a8m out om;rw [hf] at t;conv=>whnf
  repeat' (first|refine zx ?_|refine .inr ⟨_,_,C9 [0] t ⟨a2f (v7 zq rfl zi rfl rfl zq),trivial⟩ rfl,?_⟩|apply zD<;>intro h<;>try omega)<;>conv=>whnf
  all_goals first|omega|exact az8 rfl
def bl8 (m n:Nat) (lm:(dg m).length<=300000) (ln:(dg n).length<=300000):ec 204 [j7 (dg m),j7 (dg n)] [] (j7 (dg (m+n))) []:=by
 have h:=bL1 (dg m) (dg n) (B6 m) (B6 n) om om;rw [v4,v4,show ((m:Int)+n).toNat=m+n by omega] at h;exact h
def a9L (m n:Nat) (lm:(dg m).length<=300000) (h:n<=m):ec 206 [j7 (dg m),j7 (dg n)] [] (j7 (dg (m - n))) []:=by
 have h:=b5E (dg m) (dg n) (B6 m) (B6 n) om (t9 h) (by rw [v4,v4];omega);rw [v4,v4,show ((m:Int) - n).toNat=m - n by omega] at h;exact h
def b5x (m n:Nat) (lm:(dg m).length<=300000) (ln:(dg n).length<=300000):ec 205 [j7 (dg m),j7 (dg n)] [] (n7 (decide (m<n))) []:=by
 have h:=bd1 (dg m) (dg n) (B6 m) (B6 n) om om;rw [v4,v4,show decide ((m:Int)<n)=decide (m<n) by simp] at h;exact h
def bx0 (s:Int) (m:Nat) (h:Sg s m) (lm:(dg m).length<=300000):ec 165 [bgS ⟨s,dg m⟩] [] (n7 true) []:=by
 have:=a4X ⟨s,dg m⟩ (show (dg m).length<=1000000 by omega);rw [← a98 h,a1h,a98 h] at this;exact this
def a69 (x:Int) (lx:bl x<=300000):ec 122 [bgS (bz x)] [] (bgS (bz (-x))) []:=by
 have r:=a26 x lx;have hs:=G6 x;have hsg:(bz x).sg=x.sign:=rfl;have sg:=Q2 (0 - (bz x).sg) x.natAbs om (by unfold bl at lx;omega);rw [show (0 - (bz x).sg)*(x.natAbs:Int)=-x by rw [hsg];have:=sgm x;grind] at sg;refine ac Tryz.func122 ?_;conv=>whnf
 repeat' (first|refine zx ?_|apply zD<;>intro<;>try omega)<;>conv=>whnf
 all_goals first|(exfalso;simp_all;done)|exact n8 rz
def a5m {α:Type} {l:List α} {k:Nat} {x:α} (h:l[k]? =some x):l.take (k+1)=l.take k++[x]:=by
 rw [lbG,h];rfl
theorem bG3 (a b:Bg) (ha:a.dl.length<=1000000) (hb:b.dl.length<=1000000):e8 Tryz.prog 209 [bgS a,bgS b] [] (n7 (decide (a.sg=b.sg/\a.dl=b.dl))) []:=by
 have l1:(a.dl.map j3).length=a.dl.length:=by simp
 have l2:(b.dl.map j3).length=b.dl.length:=by simp
 by_cases h0:¬(a.sg=b.sg/\a.dl.length=b.dl.length)
 ·(refine ac Tryz.func209 ?_;(conv=>whnf);repeat ((first|refine b0x ?_|refine zy ?_);conv=>whnf))
  repeat' (first|refine zx ?_|refine zd ?_ ?_<;>intro h<;>try omega|fail)<;>conv=>whnf
  all_goals first
   |omega
   |(refine j6 (lbJ ?_).symm;rintro ⟨h1,h2⟩;rw [h2] at h0;exact h0 ⟨h1,rfl⟩)
 have h0:a.sg=b.sg/\a.dl.length=b.dl.length:=Decidable.not_not.1 h0
 (refine ac Tryz.func209 ?_;(conv=>whnf);repeat ((first|refine b0x ?_|refine zy ?_);conv=>whnf))
 repeat' (first|refine zx ?_|refine zd ?_ ?_<;>intro h<;>try omega|fail)<;>conv=>whnf
 all_goals try omega
 refine k6 g8 (fun k=>([J,J,S.c (C.t (T.ptr [ti a.sg,w5 a.dl])),S.c (C.t (T.ptr [ti b.sg,w5 b.dl])),J,e7 .i64 k]++Jn 32,[])) a.dl.length (fun k=>a.dl.take k=b.dl.take k) [] rfl
  ⟨rfl,rfl,trivial,⟨rfl,rfl,rfl,trivial⟩⟩ ?_
 intro k hk hI
 by_cases hlt:k<a.dl.length
 ·have ⟨x,hx⟩:=iA hlt
  obtain ⟨y,hy⟩:∃y,b.dl[k]? =some y:=⟨_,lbf (by omega)⟩
  conv=>whnf
  repeat' (first|refine zx ?_|refine j4 hx ?_|refine j4 hy ?_|refine zd ?_ ?_<;>intro h<;>try omega|fail)<;>conv=>whnf
  ·have hne:x≠y:=‹x≠y›
   refine j6 (lbJ ?_).symm
   rintro ⟨_,hq⟩;rw [hq,hy] at hx;injection hx with hx;exact hne hx.symm
  ·have hxy:x=y:=by omega
   refine ⟨hlt,?_,[],rfl,rfl,trivial,⟨rfl,rfl,rfl,trivial⟩⟩
   rw [a5m hx,a5m hy,hI,hxy]
  all_goals omega
 ·rw [lbn (by omega),lbn (by omega)] at hI
  conv=>whnf
  repeat' (first|refine zx ?_|refine zd ?_ ?_<;>intro h<;>try omega|fail)<;>conv=>whnf
  all_goals first
   |omega
   |exact j6 (lbH ⟨h0.1,hI⟩).symm
def bP7:a0Z .or .i64 0 0 0:=by show (0:Int)=_;decide +kernel
def bO9:a0Z .or .i64 0 1 1:=by show (1:Int)=_;decide +kernel
def bT4:a0Z .or .i64 1 0 1:=by show (1:Int)=_;decide +kernel
def bT2:a0Z .or .i64 1 1 1:=by show (1:Int)=_;decide +kernel
def bR1:a0Z .or .i64 0 (-1) (-1):=by show (-1:Int)=_;decide +kernel
def bQ9:a0Z .or .i64 (-1) 0 (-1):=by show (-1:Int)=_;decide +kernel
def bT8:a0Z .or .i64 (-1) (-1) (-1):=by show (-1:Int)=_;decide +kernel
def bI6 (s t:Int) (m n:Nat) (hs:Sg s m) (ht:Sg t n) (lm:(dg m).length<=200000) (ln:(dg n).length<=200000):
 ec 164 [bgS ⟨s,dg m⟩,bgS ⟨t,dg n⟩] [] (.tup [bgS (bz (s*m+t*n)),eI 0]) []:=by
 have r1:=bx0 s m hs om;have r2:=bx0 t n ht om;have ad:=bl8 m n om om;have c:=b5x m n om om;have ls:=a5y m n;have fin:∀(z:Int) (H1:Hp),z=s*m+t*n->Fin 0 (.tup [bgS (bz z),eI 0]) H1 (.tup [bgS (bz (s*m+t*n)),eI 0]) []:=fun z H1 h=>a82 (by rw [h])
 rcases hs with ⟨rfl,rfl⟩|⟨rfl,h1⟩|⟨rfl,h1⟩<;>rcases ht with ⟨rfl,rfl⟩|⟨rfl,h2⟩|⟨rfl,h2⟩
 case inl.inl=>
  have sg:=Q2 (0) _ om (M5 ls om);refine ac Tryz.func164 ?_;conv=>whnf
  repeat' (first|refine zx ?_|refine ⟨_,bP7,?_⟩|apply zD<;>intro h<;>try omega)<;>conv=>whnf
  all_goals first|omega|(exfalso;simp_all;done)|exact fin _ _ om
 case inl.inr.inl=>
  have sg:=Q2 (1) _ om (M5 ls om);refine ac Tryz.func164 ?_;conv=>whnf
  repeat' (first|refine zx ?_|refine ⟨_,bO9,?_⟩|apply zD<;>intro h<;>try omega)<;>conv=>whnf
  all_goals first|omega|(exfalso;simp_all;done)|exact fin _ _ om
 case inl.inr.inr=>
  have sg:=Q2 (-1) _ om (M5 ls om);refine ac Tryz.func164 ?_;conv=>whnf
  repeat' (first|refine zx ?_|refine ⟨_,bR1,?_⟩|apply zD<;>intro h<;>try omega)<;>conv=>whnf
  all_goals first|omega|(exfalso;simp_all;done)|exact fin _ _ om
 case inr.inl.inl=>
  have sg:=Q2 (1) _ om (M5 ls om);refine ac Tryz.func164 ?_;conv=>whnf
  repeat' (first|refine zx ?_|refine ⟨_,bT4,?_⟩|apply zD<;>intro h<;>try omega)<;>conv=>whnf
  all_goals first|omega|(exfalso;simp_all;done)|exact fin _ _ om
 case inr.inr.inl=>
  have sg:=Q2 (-1) _ om (M5 ls om);refine ac Tryz.func164 ?_;conv=>whnf
  repeat' (first|refine zx ?_|refine ⟨_,bQ9,?_⟩|apply zD<;>intro h<;>try omega)<;>conv=>whnf
  all_goals first|omega|(exfalso;simp_all;done)|exact fin _ _ om
 case inr.inl.inr.inl=>
  have sg:=Q2 (1) _ om (M5 ls om);refine ac Tryz.func164 ?_;conv=>whnf
  repeat' (first|refine zx ?_|refine ⟨_,bT2,?_⟩|apply zD<;>intro h<;>try omega)<;>conv=>whnf
  all_goals first|omega|(exfalso;simp_all;done)|exact fin _ _ om
 case inr.inr.inr.inr=>
  have sg:=Q2 (-1) _ om (M5 ls om);refine ac Tryz.func164 ?_;conv=>whnf
  repeat' (first|refine zx ?_|refine ⟨_,bT8,?_⟩|apply zD<;>intro h<;>try omega)<;>conv=>whnf
  all_goals first|omega|(exfalso;simp_all;done)|exact fin _ _ om
 case inr.inl.inr.inr=>
  rcases I0 m n with hmn|hmn
  ·rw [lbH hmn] at c;have l3:=t9 (a5J n m);refine ac Tryz.func164 ?_;conv=>whnf
   repeat' (first|refine zx ?_|refine qp (a9L n m om om) ?_|refine qp (Q2 (-1) (n - m) om om) ?_|apply zD<;>intro h<;>try omega)<;>conv=>whnf
   all_goals first|omega|(exfalso;simp_all;done)|exact fin _ _ om
  ·rw [lbJ (Nat.not_lt.2 hmn)] at c;have l3:=t9 (a5J m n);refine ac Tryz.func164 ?_;conv=>whnf
   repeat' (first|refine zx ?_|refine qp (a9L m n om om) ?_|refine qp (Q2 (1) (m - n) om om) ?_|apply zD<;>intro h<;>try omega)<;>conv=>whnf
   all_goals first|omega|(exfalso;simp_all;done)|exact fin _ _ om
 case inr.inr.inr.inl=>
  rcases I0 m n with hmn|hmn
  ·rw [lbH hmn] at c;have l3:=t9 (a5J n m);refine ac Tryz.func164 ?_;conv=>whnf
   repeat' (first|refine zx ?_|refine qp (a9L n m om om) ?_|refine qp (Q2 (1) (n - m) om om) ?_|apply zD<;>intro h<;>try omega)<;>conv=>whnf
   all_goals first|omega|(exfalso;simp_all;done)|exact fin _ _ om
  ·rw [lbJ (Nat.not_lt.2 hmn)] at c;have l3:=t9 (a5J m n);refine ac Tryz.func164 ?_;conv=>whnf
   repeat' (first|refine zx ?_|refine qp (a9L m n om om) ?_|refine qp (Q2 (-1) (m - n) om om) ?_|apply zD<;>intro h<;>try omega)<;>conv=>whnf
   all_goals first|omega|(exfalso;simp_all;done)|exact fin _ _ om
def b9A (x y:Int) (lx:bl x<=200000) (ly:bl y<=200000):ec 164 [bgS (bz x),bgS (bz y)] [] (.tup [bgS (bz (x+y)),eI 0]) []:=by
 have h:=bI6 _ _ _ _ (a7W x) (a7W y) lx ly;rw [sgm,sgm] at h;exact h
def bA1 (x y:Int) (lx:bl x<=200000) (ly:bl y<=200000):ec 163 [bgS (bz x),bgS (bz y)] [] (.tup [bgS (bz (x - y)),eI 0]) []:=by
 have r:=a26 y om;have n:=a69 y om;have a:=b9A x (-y) lx (by rw [Z7];exact ly);rw [← ad3] at a;refine ac Tryz.func163 ?_;conv=>whnf
 repeat' (first|refine zx ?_|refine bl0 [6] ?_|refine bl0 [1] ?_|apply zD<;>intro<;>try omega)<;>conv=>whnf
 all_goals first|(exfalso;simp_all;done)|exact a82 rfl
def bM7 (s t:Int) (m n:Nat) (hs:Sg s m) (ht:Sg t n) (lm:(dg m).length<=200000) (ln:(dg n).length<=200000):
 ec 162 [bgS ⟨s,dg m⟩,bgS ⟨t,dg n⟩] [] (.tup [bgS (bz ((s*t)*(m*n:Nat))),eI 0]) []:=by
 have r1:=bx0 s m hs om;have r2:=bx0 t n ht om;have mu:=b13 m n om om;have ls:=a5t m n;have hst:-1<=s*t/\s*t<=1/\(s*t=1\/s*t=-1\/m*n=0):=by
  rcases hs with ⟨rfl,rfl⟩|⟨rfl,h1⟩|⟨rfl,h1⟩<;>rcases ht with ⟨rfl,rfl⟩|⟨rfl,h2⟩|⟨rfl,h2⟩<;>simp
 have ⟨q1,q2,q3⟩:=hst;have sg:=Q2 (s*t) (m*n) q3 om;refine ac Tryz.func162 ?_;conv=>whnf
 repeat' (first|refine zx ?_|refine ⟨_,I3 (y:=s*t) rfl om om,?_⟩|apply zD<;>intro<;>try omega)<;>conv=>whnf
 all_goals first|(exfalso;simp_all;done)|exact a82 rfl
def a9y (x y:Int) (lx:bl x<=200000) (ly:bl y<=200000):ec 162 [bgS (bz x),bgS (bz y)] [] (.tup [bgS (bz (x*y)),eI 0]) []:=by
 have h:=bM7 _ _ _ _ (a7W x) (a7W y) lx ly;have e:(x.sign*y.sign)*((x.natAbs*y.natAbs:Nat):Int)=x*y:=by
  rw [a3Y];have h1:=sgm x;have h2:=sgm y;grind
 rw [e] at h;exact h
def bh9 {x y:Int} (h:(bz x).sg=(bz y).sg/\(bz x).dl=(bz y).dl):x=y:=by
 have:bz x=bz y:=by
  have ⟨h1,h2⟩:=h;cases hx:bz x with
  |mk a b=>
   cases hy:bz y with
   |mk c d=>rw [hx,hy] at h1 h2;simp only at h1 h2;rw [h1,h2]
 rw [← a6i x,←a6i y,this]
def aG7 (x y:Int) (lx:bl x<=300000) (ly:bl y<=300000):ec 169 [bgS (bz x),bgS (bz y)] [] (eI (Q5 x y)) []:=by
 have r1:=a26 x lx;have r2:=a26 y ly;have hsx:(bz x).sg=x.sign:=rfl;have hsy:(bz y).sg=y.sign:=rfl;have sx:=G6 x;have sy:=G6 y;have sm:=bG3 (bz x) (bz y) (show bl x<=1000000 by omega) (show bl y<=1000000 by omega);by_cases he:x=y
 ·subst he;have sm:ec 209 [bgS (bz x),bgS (bz x)] [] (n7 true) []:=by rw [show decide ((bz x).sg=(bz x).sg/\(bz x).dl=(bz x).dl)=true from lbH rz] at sm;exact sm
  have e0:Q5 x x=0:=by unfold Q5;rw [iC om,iC om]
  rw [e0];refine ac Tryz.func169 ?_;conv=>whnf
  repeat' (first|refine zx ?_|apply zD<;>intro h<;>try omega)<;>conv=>whnf
  all_goals first|(exfalso;simp_all;done)|exact p9 rfl
 rw [lbJ (fun h=>he (bh9 h))] at sm;have ls:=b5x x.natAbs y.natAbs lx ly;rcases b3o he with hlt|hgt
 ·have e1:Q5 x y=-1:=by unfold Q5;rw [iB hlt]
  rw [e1];by_cases hl:x.natAbs<y.natAbs
  ·rw [lbH hl] at ls;refine ac Tryz.func169 ?_;conv=>whnf
   repeat' (first|refine zx ?_|apply zD<;>intro h<;>try omega)<;>conv=>whnf
   all_goals first|omega|(exfalso;simp_all;done)|exact p9 rfl
  ·rw [lbJ hl] at ls;refine ac Tryz.func169 ?_;conv=>whnf
   repeat' (first|refine zx ?_|apply zD<;>intro h<;>try omega)<;>conv=>whnf
   all_goals first|omega|(exfalso;simp_all;done)|exact p9 rfl
 ·have e1:Q5 x y=1:=by unfold Q5;rw [iC om,iB om]
  rw [e1];by_cases hl:x.natAbs<y.natAbs
  ·rw [lbH hl] at ls;refine ac Tryz.func169 ?_;conv=>whnf
   repeat' (first|refine zx ?_|apply zD<;>intro h<;>try omega)<;>conv=>whnf
   all_goals first|omega|(exfalso;simp_all;done)|exact p9 rfl
  ·rw [lbJ hl] at ls;refine ac Tryz.func169 ?_;conv=>whnf
   repeat' (first|refine zx ?_|apply zD<;>intro h<;>try omega)<;>conv=>whnf
   all_goals first|omega|(exfalso;simp_all;done)|exact p9 rfl
def a57 (l:LI) (k:Nat):Int:=val (l.drop (l.length - k))
def b60 (l:LI):a57 l 0=0:=by unfold a57;rw [Nat.sub_zero,List.drop_length];rfl
def b6h {l:LI} {k:Nat} (h:k<l.length):∃x,l[l.length - 1 - k]? =some x/\a57 l (k+1)=x+1048576*a57 l k:=by
 refine ⟨l[l.length - 1 - k],lbf om,?_⟩;unfold a57;rw [show l.length - (k+1)=l.length - 1 - k by omega,a3X (lbf om),show l.length - 1 - k+1=l.length - k by omega]
def b1m {l:LI} (h:Okd l) {k:Nat} (hk:k<=l.length):0<=a57 l k/\a57 l k<pw k:=by
 refine ⟨B8 (h.drop _),?_⟩;have:=a0a (h.drop (l.length - k));rw [a3S,show l.length - (l.length - k)=k by omega] at this;exact this
def ay9 {l:LI} (h:Okd l) {k:Nat} (hk:k<=l.length):pw (l.length - k)*a57 l k<=val l/\val l<pw (l.length - k)*(a57 l k+1):=by
 have e:=a4d l (l.length - k) om;have h1:=B8 (h.take (l.length - k));have h2:=a0a (h.take (l.length - k));rw [lbs,show min (l.length - k) l.length=l.length - k by omega] at h2;have e2:val l=val (l.take (l.length - k))+pw (l.length - k)*a57 l k:=e;rw [aD1];omega
def bd6:pw 3=1152921504606846976:=rfl
def a35 {l:LI} (h:Okd l) {k:Nat} (hk:k<=l.length) (h3:k<=3):0<=a57 l k/\a57 l k<1152921504606846976:=by
 have h1:=b1m h hk;have h2:=a1r h3;rw [bd6] at h2;omega
def b5i (l:LI) (n:Nat) (hl:l.length<=1000000) (hok:Okd l) (hn:n<=l.length) (h3:n<=3):ec 230 [j7 l,eI n] [] (eI (a57 l n)) []:=by
 have m1:(l.map j3).length=l.length:=zq;refine ac Tryz.func230 ?_;conv=>whnf
 repeat' (first|refine zx ?_|apply zD<;>intro<;>try omega)<;>conv=>whnf
 refine k6 g8 (fun k=>([j7 l,eI n,J,J,J,eI (a57 l k),eI k]++Jn 17,[])) n tT [] trivial
  ⟨rfl,rfl,trivial,⟨rfl,rfl,g9 (b60 l).symm,rz⟩⟩ ?_
 intro k hk _;by_cases hlt:k<n
 ·have ⟨x,hx,e⟩:=b6h (l:=l) (k:=k) om;have hs:=a35 hok (k:=k) om om;have hs2:=a35 hok (k:=k+1) om om;have hxr:=hok.get hx;have ix:((l.length:Int) - 1) - (k:Int)=((l.length - 1 - k:Nat):Int):=om;have ix2:(((l.map j3).length:Int) - 1) - (k:Int)=((l.length - 1 - k:Nat):Int):=om;generalize a57 l k=tk at *;conv=>whnf
  repeat' (first|refine zx ?_|refine N7 ix hx ?_|refine N7 ix2 hx ?_|apply zD<;>intro<;>try omega)<;>conv=>whnf
  all_goals first|omega|exact ⟨hlt,trivial,[],rfl,rfl,trivial,⟨rfl,rfl,g9 om,rz⟩⟩
 ·have hke:k=n:=by omega
  subst hke;conv=>whnf
  repeat' (first|refine zx ?_|apply zD<;>intro<;>try omega)<;>conv=>whnf
  all_goals first|omega|exact p9 rfl
end Go.Proofs.YtbcdidimaioapaaGreat
