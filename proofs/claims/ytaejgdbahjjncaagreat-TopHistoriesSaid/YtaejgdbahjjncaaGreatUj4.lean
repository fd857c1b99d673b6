/- Part 4. -/
import Derived.Test.YtaejgdbahjjncaaGreatChecked
import Derived.WalkLawsBesides
import Derived.Deep.AppendLies
import Derived.Test.YtaejgdbahjjncaaGreatUj3
namespace Go.Proofs.YtaejgdbahjjncaaGreat
set_option linter.unusedVariables false
set_option linter.unusedSimpArgs false
section
open Go.RowKit
def a4t:T->T->T
 |.sl s .any _,.sl s0 k r=>match k with
  |.nil=>.sl s .any []
  |_=>.sl s0 .any r
 |_,x=>x
theorem RT.weak {w:World} {M:Ms} {x y:T} {v:Value} (h:a4t y x=y) (hr:RT w M x v):RT w M y v:=by
 unfold a4t at h
 split at h
 ·split at h
  ·rw [← h]
   cases hr with
   |sl f hrow hcap hmax hk hn hA hc hr=>
    obtain ⟨rfl,rfl,rfl⟩:=hn rfl
    exact .sl (b:=0) (off:=0) (fun _ _=>undef) (by simp) hcap hmax (by intro h;cases h) (by intro h;cases h) (by simp) (by simp [at2]) (by simp [at2])
  ·rw [← h]
   cases hr with
   |sl f hrow hcap hmax hk hn hA hc hr=>exact .sl f hrow hcap hmax (by intro h;cases h) (by intro h;cases h) hA hc hr
 ·rw [← h];exact hr
theorem X7 (x:T):a4t x x=x:=by
 cases x with
 |sl s k r=>cases k<;>rfl
 |_=>rfl
theorem b0P {x y:T} (h:x=y):a4t y x=y:=by subst h;exact X7 x
mutual
def VC (H:Hp) (p:Nat->Prop):C->T->Prop
 |.t x,y=>a4t y x=y
 |.ptr id r o,y=>match y with
  |.ptr cells=>p id∧∃k row,H[id]? =some k∧¬k.mode.gone∧k.rows[r]? =some row∧row.drop o=cells.map C.t
  |_=>False
 |.own id lo len _,y=>match y with
  |.sl size .any rows=>p id∧∃k,H[id]? =some k∧¬k.mode.gone∧k.size=size∧lo+len<=k.rows.length∧(k.rows.drop lo).take len=toC rows
  |_=>False
 |.fn f caps,y=>match y with
  |.fn f' caps'=>f=f'∧VL H p caps caps'
  |_=>False
def VL (H:Hp) (p:Nat->Prop):List C->List T->Prop
 |[],ys=>ys=[]
 |x::r,ys=>match ys with
  |[]=>False
  |y::r'=>VC H p x y∧VL H p r r'
end
theorem b9l {rows:List (List T)} {i j:Nat} {c:T} (h:at2 rows i j=some c):at2 (toC rows) i j=some (.t c):=by
 obtain ⟨row,h1,h2⟩:=C1 h
 exact B1 (row:=row.map C.t) (by simp [toC,h1]) (by simp [h2])
mutual
theorem VC.rt {H:Hp} {p:Nat->Prop} {w:World} {ι:Io} {M M':Ms} (hH:j8 w ι M H) (hM:∀b,M' b->M b) (hp:∀id k b cap size,p id->H[id]? =some k->¬k.mode.gone->ι id=some (.blk b cap size)->¬M' b):
 ∀(x:C) (y:T) (v:Value),VC H p x y->RC w ι M x v->RT w M' y v
 |.t x,y,v,h,hr=>by
  have h:a4t y x=y:=by simpa only [VC] using h
  cases hr with
  |t hr=>exact (hr.weak h).keep (fun _ _ _=>rfl) (fun b hb=>.inl (hM b hb))
 |.ptr id r o,y,v,h,hr=>by
  cases y with
  |ptr cells=>
   simp only [VC] at h
   obtain ⟨hpi,k,row,hk,hd,hrow,hc⟩:=h
   cases hr with
   |@ptr _ _ _ b cap size hi=>
    have hb:=(hH.blk id k hk (fun e=>hd (by rw [e];trivial)) _ hi).row hrow
    have hnm:=hp id k b cap size hpi hk hd hi
    have hat:∀(j:Nat) (c:T),cells[j]? =some c->row[o+j]? =some (.t c):=fun j c hj=>by
     have:(row.drop o)[j]? =some (.t c):=by rw [hc,lba,hj];rfl
     rwa [lbj] at this
    refine .ptr (fun j=>(w.cell? ⟨b,r*size+o+j,none⟩).getD undef) (fun j c hj=>?_) (fun j c hj=>?_)
    ·obtain ⟨u,h1,h2⟩:=hb _ _ (hat j c hj)
     rw [Nat.add_assoc,h1]
     exact ⟨rfl,hnm⟩
    ·obtain ⟨u,h1,h2⟩:=hb _ _ (hat j c hj)
     rw [Nat.add_assoc,h1]
     cases h2 with
     |t h2=>exact h2.keep (fun _ _ _=>rfl) (fun b hb=>.inl (hM b hb))
  |_=>simp only [VC] at h
 |.own id lo len app,y,v,h,hr=>by
  cases y with
  |sl size sk rows=>
   cases sk with
   |any=>
    simp only [VC] at h
    obtain ⟨hpi,k,hk,hd,hsz,hl,hc⟩:=h
    have hlen:rows.length=len:=by
     have:=congrArg List.length hc
     simp [toC] at this
     omega
    cases hr with
    |@own _ _ _ _ b cap sz A cap' hi q1 q2 q3 q4 q5=>
     have hbr:=hH.blk id k hk (fun e=>hd (by rw [e];trivial)) _ hi
     obtain ⟨r1,r2,r3,r4,r5,cur,r6,r7,r8⟩:=hbr
     have hnm:=hp id k b cap sz hpi hk hd hi
     have hse:sz=size:=by rw [← hsz,r1]
     subst hse
     have hat:∀(i j:Nat) (c:T),at2 rows i j=some c->∃u,cur[(lo+i)*sz+j]? =some u∧RT w M' c u:=fun i j c hij=>by
      have h1:=b9l hij
      rw [← hc] at h1
      obtain ⟨row,s1,s2⟩:=C1 h1
      rw [lbi] at s1
      split at s1
      ·rw [lbj] at s1
       obtain ⟨u,t1,t2⟩:=r8 _ _ _ (B1 s1 s2)
       refine ⟨u,t1,?_⟩
       cases t2 with
       |t t2=>exact t2.keep (fun _ _ _=>rfl) (fun b hb=>.inl (hM b hb))
      ·cases s1
     subst hlen
     refine .sl (b:=b) (off:=lo*sz) (fun i j=>cur.getD ((lo+i)*sz+j) undef) ?_ q3 q4 (by intro h;cases h) (by intro h;cases h) (fun hne=>q2 (List.length_pos_iff.2 hne)) ?_ ?_
     ·intro r hr'
      have:r.map C.t ∈ toC rows:=lbx.2 ⟨r,hr',rfl⟩
      rw [← hc] at this
      have:=r5 _ (List.mem_of_mem_drop (List.mem_of_mem_take this))
      simpa using this
     ·intro i j c hij
      obtain ⟨u,t1,t2⟩:=hat i j c hij
      refine ⟨?_,hnm⟩
      rw [show lo*sz+(i*sz+j)=(lo+i)*sz+j by rw [Nat.add_mul];omega]
      simp [World.cell?,r6,t1]
     ·intro i j c hij
      obtain ⟨u,t1,t2⟩:=hat i j c hij
      have:cur.getD ((lo+i)*sz+j) undef=u:=by simp [t1]
      show RT w M' c (cur.getD ((lo+i)*sz+j) undef)
      rw [this];exact t2
    |nil hi=>
     have hr0:rows=[]:=lbF hlen
     subst hr0
     exact .sl (b:=0) (off:=0) (fun _ _=>undef) (by simp) (by simp) (by unfold maxLen;omega) (by simp) (by simp) (by simp) (by simp [at2]) (by simp [at2])
   |_=>simp only [VC] at h
  |_=>simp only [VC] at h
 |.fn f caps,y,v,h,hr=>by
  cases y with
  |fn f' caps'=>
   simp only [VC] at h
   obtain ⟨rfl,h⟩:=h
   cases hr with
   |fn vs hl hr=>
    obtain ⟨h1,h2⟩:=VL.rt hH hM hp caps caps' h
    exact .fn vs (by omega) fun j c hj=>by
     have hlt:=(lbe.1 hj).1
     exact h2 j _ c _ (lbf (by omega)) hj (hr j _ (lbf (by omega)))
  |_=>simp only [VC] at h
theorem VL.rt {H:Hp} {p:Nat->Prop} {w:World} {ι:Io} {M M':Ms} (hH:j8 w ι M H) (hM:∀b,M' b->M b) (hp:∀id k b cap size,p id->H[id]? =some k->¬k.mode.gone->ι id=some (.blk b cap size)->¬M' b):
 ∀(xs:List C) (ys:List T),VL H p xs ys->xs.length=ys.length∧∀(j:Nat) (x:C) (y:T) (v:Value),xs[j]? =some x->ys[j]? =some y->RC w ι M x v->RT w M' y v
 |[],ys,h=>by
  simp only [VL] at h
  subst h
  exact ⟨rfl,by simp⟩
 |x::r,ys,h=>by
  cases ys with
  |nil=>simp only [VL] at h
  |cons y r'=>
   simp only [VL] at h
   obtain ⟨h1,h2⟩:=VL.rt hH hM hp r r' h.2
   refine ⟨by simp [h1],fun j x' y' v hx hy hr=>?_⟩
   cases j with
   |zero=>simp at hx hy;subst hx hy;exact VC.rt hH hM hp x y v h.1 hr
   |succ j=>exact h2 j x' y' v (by simpa using hx) (by simpa using hy) hr
end
theorem aV3 {H:Hp} {p:Nat->Prop} {x y:T} (h:a4t y x=y):VC H p (.t x) y:=by simpa only [VC] using h
theorem b8F {H:Hp} {p:Nat->Prop} {id lo len:Nat} {app:Bool} {size:Nat} {k:Blk} {rows:List (List T)} (hp:p id) (hk:H[id]? =some k) (hd:¬k.mode.gone) (hs:k.size=size) (hl:lo+len<=k.rows.length) (hc:(k.rows.drop lo).take len=toC rows):VC H p (.own id lo len app) (.sl size .any rows):=by
 simp only [VC];exact ⟨hp,k,hk,hd,hs,hl,hc⟩
theorem t8 {H:Hp} {p:Nat->Prop} {id len:Nat} {app:Bool} {size:Nat} {k:Blk} {rows:List (List T)} (hp:p id) (hk:H[id]? =some k) (hd:¬k.mode.gone) (hs:k.size=size) (hc:k.rows=toC rows) (hl:len=rows.length):VC H p (.own id 0 len app) (.sl size .any rows):=
 b8F hp hk hd hs (by rw [hc,hl];simp [toC]) (by rw [hc,hl,List.drop_zero,lbn (by simp [toC])])
theorem ba2 {H:Hp} {p:Nat->Prop}:VL H p [] []:=by simp only [VL]
theorem b6X {H:Hp} {p:Nat->Prop} {x:C} {y:T} {xs:List C} {ys:List T} (h:VC H p x y) (hs:VL H p xs ys):VL H p (x::xs) (y::ys):=by simp only [VL];exact ⟨h,hs⟩
def VS (H:Hp) (p:Nat->Prop):S->S->Prop
 |_,.junk=>True
 |.c x,.c (.t y)=>VC H p x y
 |.agg xs,.agg ys=>∃ts,ys=ts.map C.t∧VL H p xs ts
 |_,_=>False
theorem a3p {H:Hp} {p:Nat->Prop} {x:C} {y:T} (h:VC H p x y):VS H p (.c x) (.c (.t y)):=h
theorem b97 {H:Hp} {p:Nat->Prop} {xs:List C} {ts:List T} (h:VL H p xs ts):VS H p (.agg xs) (.agg (ts.map C.t)):=⟨ts,rfl,h⟩
theorem VS.rs {H:Hp} {p:Nat->Prop} {w:World} {ι ι':Io} {M M':Ms} (hH:j8 w ι M H) (hM:∀b,M' b->M b) (hp:∀id k b cap size,p id->H[id]? =some k->¬k.mode.gone->ι id=some (.blk b cap size)->¬M' b)
 {x y:S} {v:Value} (h:VS H p x y) (hr:RS w ι M x v):RS w ι' M' y v:=by
 unfold VS at h
 split at h
 ·exact .junk
 ·cases hr with
  |c hr=>exact .c (.t (VC.rt hH hM hp _ _ _ h hr))
 ·obtain ⟨ts,rfl,h⟩:=h
  cases hr with
  |agg vs hl hr=>
   obtain ⟨h1,h2⟩:=VL.rt hH hM hp _ _ h
   refine .agg vs (by simp;omega) fun j c hj=>?_
   rw [lba] at hj
   cases hj':ts[j]? with
   |none=>rw [hj'] at hj;cases hj
   |some c'=>
    rw [hj'] at hj
    injection hj with hj
    subst hj
    have hlt:=(lbe.1 hj').1
    exact .t (h2 j _ c' _ (lbf (by omega)) hj' (hr j _ (lbf (by omega))))
 ·exact h.elim
def a3L (H:Hp) (p:Nat->Prop):List S->List S->Prop
 |[],[]=>True
 |x::r,y::r'=>VS H p x y∧a3L H p r r'
 |_,_=>False
theorem a3L.get {H:Hp} {p:Nat->Prop}:∀{xs ys:List S},a3L H p xs ys->xs.length=ys.length∧∀(j:Nat) (y:S),ys[j]? =some y->∃x,xs[j]? =some x∧VS H p x y
 |[],[],_=>⟨rfl,by simp⟩
 |x::r,y::r',h=>by
  obtain ⟨h1,h2⟩:=a3L.get h.2
  refine ⟨by simp [h1],fun j y' hj=>?_⟩
  cases j with
  |zero=>simp at hj;subst hj;exact ⟨x,rfl,h.1⟩
  |succ j=>simpa using h2 j y' (by simpa using hj)
 |[],_::_,h=>h.elim
 |_::_,[],h=>h.elim
end
section
open Go.RowKit
def C.isT:C->Bool
 |.t _=>true
 |_=>false
def S.isT:S->Bool
 |.junk=>true
 |.c x=>x.isT
 |.agg cs=>cs.all C.isT
 |.tup ss=>ss.all fun s=>match s with
  |.c x=>x.isT
  |.agg cs=>cs.all C.isT
  |.junk=>true
  |.tup _=>false
theorem RC.tree {w:World} {ι ι':Io} {M:Ms} {x:C} {v:Value} (h:x.isT=true) (hr:RC w ι M x v):RC w ι' M x v:=by
 cases hr<;>first|exact .t ‹_›|cases h
theorem RS.tree1 {w:World} {ι ι':Io} {M:Ms} {s:S} {v:Value} (h:(match s with|.c x=>x.isT|.agg cs=>cs.all C.isT|.junk=>true|.tup _=>false)=true) (hr:RS w ι M s v):RS w ι' M s v:=by
 cases hr with
 |junk=>exact .junk
 |c hr=>exact .c (hr.tree h)
 |agg vs hl hr=>exact .agg vs hl fun j c hj=>(hr j c hj).tree (lbv.1 h c (lbm hj))
 |tup vs hl hr=>cases h
theorem RS.tree {w:World} {ι ι':Io} {M:Ms} {s:S} {v:Value} (h:s.isT=true) (hr:RS w ι M s v):RS w ι' M s v:=by
 cases hr with
 |junk=>exact .junk
 |c hr=>exact .c (hr.tree h)
 |agg vs hl hr=>exact .agg vs hl fun j c hj=>(hr j c hj).tree (lbv.1 h c (lbm hj))
 |tup vs hl hr=>exact .tup vs hl fun j s hj=>(hr j s hj).tree1 (lbv.1 h s (lbm hj))
theorem G5 {P:Program} {g:FuncId} {args:List S} {H:Hp} {r:S} (h:b7 P g args [] r []) (ha:args.all S.isT=true) (hr:r.isT=true):Q6 P g args H r []:=by
 refine ⟨h.1,fun w ι M vals hl hv hH hM hf=>?_⟩
 have:=h.2 w (fun _=>none) M vals hl (fun j s hj=>(hv j s hj).tree (lbv.1 ha s (lbm hj)))
  ⟨by simp,by simp,by simp,by simp,by simp⟩ hM (fun _ _=>rfl)
 refine Calls.mono this ?_
 rintro e w' ⟨v,rfl,ι',M',h1,h2,h3,h4,h5⟩
 refine ⟨v,rfl,I0.of_none ?_ ?_⟩
 ·refine RS.keep (ι:=ι) (M:=M') (fun _ _ _=>rfl) (fun b hb=>?_) (fun _ _ h=>h) (h1.tree hr)
  rcases h5.mold b hb with h|⟨id,k,_,_,hk,_⟩
  ·exact .inl h
  ·simp at hk
 ·exact ⟨h5.os,h5.tape,h5.output,h5.size,fun b hb=>h5.keep b hb (by rintro ⟨id,k,_,_,hk,_⟩;simp at hk)⟩
theorem Awp.mono {P:Program} {n0:Nat} {c:Code} {env:Env} {H:Hp} {Q Q':AX->Env->Hp->Prop} (h:Awp P n0 c env H Q) (hq:∀a env H,Q a env H->Q' a env H):Awp P n0 c env H Q':=
 ⟨fun w0 ι0 M0 H0 a w hn hM hs=>wp_mono (h.out w0 ι0 M0 H0 a w hn hM hs) (by rintro e a' w' ⟨x,env',H',h1,h2,h3⟩;exact ⟨x,env',H',h1,hq _ _ _ h2,h3⟩)⟩
theorem a3C {x:Int} (h1:-9223372036854775808<=x) (h2:x<=9223372036854775807):H7 .i64 x x:=by
 unfold H7
 exact (IntWalk.i64_in x ⟨h1,by omega⟩).symm
def G3:List (Option Nat)->Nat->Bool
 |[],_=>true
 |some m::r,n=>!(Nat.beq m n) && G3 r n
 |none::r,n=>G3 r n
def b7X (ρ:List (Option Nat)) (x y:C):Prop:=
 match y with
 |.t y=>match x with
  |.t x=>x=y
  |_=>False
 |.ptr id' r' o'=>match x with
  |.ptr id r o=>ρ[id']? =some (some id)∧r=r'∧o=o'
  |_=>False
 |_=>False
def as0 (ρ:List (Option Nat)):List C->List C->Prop
 |[],[]=>True
 |x::r,y::r'=>b7X ρ x y∧as0 ρ r r'
 |_,_=>False
def b5a (ρ:List (Option Nat)) (H:Hp) (x y:C):Prop:=
 match y with
 |.t y=>match x with
  |.t x=>a4t y x=y
  |x=>VC H (fun id=>G3 ρ id=true) x y
 |.own id' lo' len' app'=>match x with
  |.t (.sl _ .nil _)=>ρ[id']? =some none∧lo'=0∧len'=0
  |.t (.sl _ .full [])=>ρ[id']? =some none∧lo'=0∧len'=0
  |.own id lo len app=>ρ[id']? =some (some id)∧lo=lo'∧len=len'∧(app'=true->app=true)
  |_=>False
 |.ptr id' r' o'=>match x with
  |.ptr id r o=>ρ[id']? =some (some id)∧r=r'∧o=o'
  |_=>False
 |.fn f' caps'=>match x with
  |.fn f caps=>f=f'∧as0 ρ caps caps'
  |_=>False
def a9m (ρ:List (Option Nat)) (H:Hp):List C->List C->Prop
 |[],[]=>True
 |x::r,y::r'=>b5a ρ H x y∧a9m ρ H r r'
 |_,_=>False
def a5G (ρ:List (Option Nat)) (H:Hp) (s:S) (s':S):Prop:=
 match s' with
 |.junk=>True
 |.c y=>match s with
  |.c x=>b5a ρ H x y
  |_=>False
 |.agg cs'=>match s with
  |.agg cs=>a9m ρ H cs cs'
  |_=>False
 |.tup _=>False
def a1F (ρ:List (Option Nat)) (H:Hp):Env->Env->Prop
 |[],[]=>True
 |s::r,s'::r'=>match s' with
  |.junk=>a1F ρ H r r'
  |s'=>a5G ρ H s s'∧a1F ρ H r r'
 |_,_=>False
def E5 (rows:List (List C)):Prop:=∀r ∈ rows,∀c ∈ r,c.isT=true
def aa6 (ρ:List (Option Nat)) (H:Hp):List (List C)->List (List C)->Prop
 |[],[]=>True
 |x::r,y::r'=>a9m ρ H x y∧aa6 ρ H r r'
 |_,_=>False
def a2A (k k':Blk):Bool:=match k.mode,k'.mode with
 |.live,.live=>cond k.app k'.app true
 |.live,.old=>k.app
 |.froz,.froz=>true
 |.old,.old=>true
 |.dead,.dead=>true
 |_,_=>false
theorem Q2 {k k':Blk} (h:a2A k k'=true):(k'.mode≠.dead->k.mode≠.dead)∧(k'.mode=.live->k.mode=.live∧(k.app=true->k'.app=true))∧(k'.mode=.froz->k.mode=.froz)∧
 (k'.mode=.old->k.mode=.old∨(k.mode=.live∧k.app=true)):=by
 unfold a2A at h
 cases h1:k.mode<;>cases h2:k'.mode<;>rw [h1,h2] at h<;>simp at h ⊢
 ·intro ha;rw [ha] at h;simpa using h
 ·exact h
def a1f (ρ:List (Option Nat)) (H:Hp) (k k':Blk):Prop:=
 a2A k k'=true∧k.elem=k'.elem∧k.size=k'.size∧((k.rows=k'.rows∧E5 k.rows)∨aa6 ρ H k.rows k'.rows)
def a35 (ρ:List (Option Nat)) (H:Hp):List (Option Nat)->Hp->Prop
 |[],[]=>True
 |x::r,k'::r'=>(match x with
  |none=>k'.rows=[]∧k'.mode=.live
  |some id=>match H[id]? with
   |some k=>a1f ρ H k k'
   |none=>False)∧a35 ρ H r r'
 |_,_=>False
def a7y:Nat->List (Option Nat)->Hp->Bool
 |n,x::r,k::H=>(match x,k.mode with
  |_,.old=>false
  |some m,_=>Nat.beq m n
  |none,_=>false) || a7y n r H
 |_,_,_=>false
def V5:List (Option Nat)->Hp->Bool
 |none::r,_::H=>V5 r H
 |some n::r,k::H=>(match k.mode with
  |.old=>true
  |_=>!(a7y n r H)) && V5 r H
 |_,_=>true
def a1M (ρ:List (Option Nat)):Nat->Bool
 |0=>true
 |n+1=>(match ρ[n]? with|some (some m)=>Nat.beq m n|_=>false) && a1M ρ n
def Ent (n0:Nat) (ρ:List (Option Nat)) (env:Env) (H:Hp) (env':Env) (H':Hp):Prop:=
 a1M ρ n0=true∧V5 ρ H'=true∧a35 ρ H ρ H'∧a1F ρ H env env'
def N5 (ρ:List (Option Nat)) (ι:Io):Io:=fun id=>match ρ[id]? with
 |some (some j)=>ι j
 |some none=>some .nil
 |none=>none
def a5R (ρ:List (Option Nat)) (H:Hp) (ι:Io) (M:Ms):Ms:=fun b=>M b∧¬∃id k cap size,G3 ρ id=true∧H[id]? =some k∧¬k.mode.gone∧ι id=some (.blk b cap size)
theorem as8:∀{ρ:List (Option Nat)} {i n:Nat},ρ[i]? =some (some n)->G3 ρ n=true->False
 |[],i,n,h,_=>by simp at h
 |x::r,i,n,h,hn=>by
  have hr:G3 r n=true:=by cases x<;>simp [G3] at hn<;>first|exact hn|exact hn.2
  cases i with
  |zero=>
   simp at h
   subst h
   simp [G3] at hn
  |succ i=>exact as8 (by simpa using h) hr
theorem RC.sub {w:World} {ι:Io} {M M':Ms} (hM:∀b,M' b->M b) {x:C} {v:Value} (h:RC w ι M x v):RC w ι M' x v:=h.keep (fun _ _ _=>rfl) (fun b hb=>.inl (hM b hb)) (fun _ _ h=>h)
theorem b7X.rc {w:World} {ι:Io} {M:Ms} {ρ:List (Option Nat)} {H:Hp} {x y:C} {v:Value} (h:b7X ρ x y) (hr:RC w ι M x v):RC w (N5 ρ ι) (a5R ρ H ι M) y v:=by
 cases y with
 |t y=>
  cases x with
  |t x=>
   have h:x=y:=h
   subst h
   cases hr with
   |t hr=>exact .t (hr.keep (fun _ _ _=>rfl) fun b hb=>.inl hb.1)
  |_=>exact False.elim h
 |ptr id' r' o'=>
  cases x with
  |ptr id r o=>
   obtain ⟨h1,rfl,rfl⟩:=h
   cases hr with
   |ptr hi=>exact .ptr (by unfold N5;rw [h1];exact hi)
  |_=>exact False.elim h
 |own _ _ _ _=>exact False.elim h
 |fn _ _=>exact False.elim h
theorem as0.get {ρ:List (Option Nat)}:∀{xs ys:List C},as0 ρ xs ys->xs.length=ys.length∧∀(j:Nat) (x y:C),xs[j]? =some x->ys[j]? =some y->b7X ρ x y
 |[],[],_=>⟨rfl,by simp⟩
 |x::xs,y::ys,h=>by
  obtain ⟨h1,h2⟩:=as0.get h.2
  refine ⟨by simp [h1],fun j x' y' hx hy=>?_⟩
  cases j with
  |zero=>simp at hx hy;subst hx hy;exact h.1
  |succ j=>exact h2 j x' y' (by simpa using hx) (by simpa using hy)
 |[],_::_,h=>h.elim
 |_::_,[],h=>h.elim
theorem b5a.rc {w:World} {ι:Io} {M:Ms} {ρ:List (Option Nat)} {H:Hp} (hH:j8 w ι M H) {x y:C} {v:Value} (h:b5a ρ H x y) (hr:RC w ι M x v):RC w (N5 ρ ι) (a5R ρ H ι M) y v:=by
 cases y with
 |t y=>
  have h:VC H (fun id=>G3 ρ id=true) x y:=by cases x<;>first|exact h|(simp only [VC];exact h)
  refine .t (VC.rt hH (fun b hb=>hb.1) ?_ x y v h hr)
  intro id k b cap size hp hk hd hi hb
  exact hb.2 ⟨id,k,cap,size,hp,hk,hd,hi⟩
 |own id' lo' len' app'=>
  cases x with
  |t x=>
   cases x with
   |sl size k rows=>
    cases k with
    |nil=>
     obtain ⟨h1,rfl,rfl⟩:=h
     cases hr with
     |t hr=>cases hr with
      |sl f hrow hcap hmax hk hn hA hc hr=>
       obtain ⟨rfl,rfl,rfl⟩:=hn rfl
       exact .nil (by unfold N5;rw [h1])
    |full=>
     cases rows with
     |nil=>
      obtain ⟨h1,rfl,rfl⟩:=h
      cases hr with
      |t hr=>cases hr with
       |sl f hrow hcap hmax hk hn hA hc hr=>
        obtain rfl:=hk rfl
        exact .nil (by unfold N5;rw [h1])
     |cons _ _=>exact False.elim h
    |any=>exact False.elim h
    |nul=>exact False.elim h
    |non=>exact False.elim h
   |_=>exact False.elim h
  |own id lo len app=>
   obtain ⟨h1,rfl,rfl,happ⟩:=h
   cases hr with
   |own hi q1 q2 q3 q4 q5=>exact .own (by unfold N5;rw [h1];exact hi) q1 q2 q3 q4 (fun h=>q5 (happ h))
   |nil hi=>exact .nil (by unfold N5;rw [h1];exact hi)
  |_=>exact False.elim h
 |ptr id' r' o'=>
  cases x with
  |ptr id r o=>
   obtain ⟨h1,rfl,rfl⟩:=h
   cases hr with
   |ptr hi=>exact .ptr (by unfold N5;rw [h1];exact hi)
  |_=>exact False.elim h
 |fn f' caps'=>
  cases x with
  |fn f caps=>
   obtain ⟨rfl,h⟩:=h
   obtain ⟨h1,h2⟩:=as0.get h
   cases hr with
   |fn vs hl hr=>
    refine .fn vs (by omega) fun j c hj=>?_
    have hlt:=(lbe.1 hj).1
    exact (h2 j _ c (lbf (by omega)) hj).rc (hr j _ (lbf (by omega)))
  |_=>exact False.elim h
section
variable {w:World} {ι:Io} {M:Ms} {ρ:List (Option Nat)} {H:Hp} (hH:j8 w ι M H)
include hH
theorem a9m.rc:∀{xs ys:List C},a9m ρ H xs ys->xs.length=ys.length∧∀(j:Nat) (x y:C) (v:Value),xs[j]? =some x->ys[j]? =some y->RC w ι M x v->RC w (N5 ρ ι) (a5R ρ H ι M) y v
 |[],[],_=>⟨rfl,by simp⟩
 |x::xs,y::ys,h=>by
  obtain ⟨h1,h2⟩:=a9m.rc h.2
  refine ⟨by simp [h1],fun j x' y' v hx hy hr=>?_⟩
  cases j with
  |zero=>simp at hx hy;subst hx hy;exact h.1.rc hH hr
  |succ j=>exact h2 j x' y' v (by simpa using hx) (by simpa using hy) hr
 |[],_::_,h=>h.elim
 |_::_,[],h=>h.elim
theorem a5G.rs {s s':S} {v:Value} (h:a5G ρ H s s') (hr:RS w ι M s v):RS w (N5 ρ ι) (a5R ρ H ι M) s' v:=by
 unfold a5G at h
 split at h
 ·exact .junk
 ·split at h
  ·exact .c (b5a.rc hH h hr.inv_c)
  ·exact h.elim
 ·split at h
  ·cases hr with
   |agg vs hl hr=>
    obtain ⟨h1,h2⟩:=a9m.rc hH h
    refine .agg vs (by omega) fun j c hj=>?_
    have hlt:=(lbe.1 hj).1
    exact h2 j _ c _ (lbf (by omega)) hj (hr j _ (lbf (by omega)))
  ·exact h.elim
 ·exact h.elim
omit hH in
theorem a1F.rel:∀{env env':Env},a1F ρ H env env'->env.length=env'.length∧∀(t:Nat) (s':S),env'[t]? =some s'->∃s,env[t]? =some s∧a5G ρ H s s'
 |[],[],_=>⟨rfl,by simp⟩
 |s::r,s'::r',h=>by
  have h':a5G ρ H s s'∧a1F ρ H r r':=by
   cases s' with
   |junk=>exact ⟨trivial,h⟩
   |_=>exact h
  obtain ⟨h1,h2⟩:=a1F.rel h'.2
  refine ⟨by simp [h1],fun t s'' ht=>?_⟩
  cases t with
  |zero=>simp at ht;subst ht;exact ⟨s,rfl,h'.1⟩
  |succ t=>simpa using h2 t s'' (by simpa using ht)
 |[],_::_,h=>h.elim
 |_::_,[],h=>h.elim
theorem aa6.rc:∀{xs ys:List (List C)},aa6 ρ H xs ys->xs.length=ys.length∧(∀ n,(∀ r ∈ xs,r.length=n)->∀r ∈ ys,r.length=n)∧
 ∀(i j:Nat) (y:C),at2 ys i j=some y->∃x,at2 xs i j=some x∧∀v,RC w ι M x v->RC w (N5 ρ ι) (a5R ρ H ι M) y v
 |[],[],_=>⟨rfl,by simp,by simp [at2]⟩
 |x::xs,y::ys,h=>by
  obtain ⟨h1,h2,h3⟩:=aa6.rc h.2
  obtain ⟨q1,q2⟩:=a9m.rc hH h.1
  refine ⟨by simp [h1],fun n hn r hr=>?_,fun i j y' hy=>?_⟩
  ·rcases lbA.1 hr with rfl|hr
   ·rw [← q1];exact hn x (by simp)
   ·exact h2 n (fun r hr=>hn r (by simp [hr])) r hr
  ·obtain ⟨row,r1,r2⟩:=C1 hy
   cases i with
   |zero=>
    simp at r1
    subst r1
    have hlt:=(lbe.1 r2).1
    exact ⟨_,B1 rfl (lbf (by omega)),fun v hv=>q2 j _ _ v (lbf (by omega)) r2 hv⟩
   |succ i=>
    obtain ⟨x',s1,s2⟩:=h3 i j y' (B1 (by simpa using r1) r2)
    obtain ⟨row',t1,t2⟩:=C1 s1
    exact ⟨x',B1 (by simpa using t1) t2,s2⟩
 |[],_::_,h=>h.elim
 |_::_,[],h=>h.elim
end
theorem a35.get {ρ:List (Option Nat)} {H:Hp}:∀{r:List (Option Nat)} {H':Hp},a35 ρ H r H'->r.length=H'.length∧∀(id:Nat) (k':Blk),H'[id]? =some k'->
 (r[id]? =some none∧k'.rows=[]∧k'.mode=.live)∨∃j k,r[id]? =some (some j)∧H[j]? =some k∧a1f ρ H k k'
 |[],[],_=>⟨rfl,by simp⟩
 |x::r,k::H',h=>by
  obtain ⟨h1,h2⟩:=a35.get h.2
  refine ⟨by simp [h1],fun id k' hk=>?_⟩
  cases id with
  |zero=>
   simp at hk
   subst hk
   have hx:=h.1
   cases x with
   |none=>exact .inl ⟨rfl,hx⟩
   |some j=>
    refine .inr ⟨j,?_⟩
    simp only at hx
    split at hx
    ·rename_i k0 hk0
     exact ⟨k0,rfl,hk0,hx⟩
    ·exact hx.elim
  |succ id=>simpa using h2 id k' (by simpa using hk)
 |[],_::_,h=>h.elim
 |_::_,[],h=>h.elim
theorem at8:∀{r:List (Option Nat)} {H:Hp} {n j:Nat} {k:Blk},a7y n r H=false->r[j]? =some (some n)->H[j]? =some k->k.mode=.old
 |[],_,n,j,k,_,h,_=>by simp at h
 |x::r,[],n,j,k,_,_,h=>by simp at h
 |x::r,k0::H,n,0,k,hs,h,hk=>by
  simp at h hk
  subst h hk
  simp only [a7y,Bool.or_eq_false_iff] at hs
  cases hm:k0.mode with
  |old=>rfl
  |_=>rw [hm] at hs;simp at hs
 |x::r,k0::H,n,j+1,k,hs,h,hk=>by
  simp only [a7y,Bool.or_eq_false_iff] at hs
  exact at8 hs.2 (by simpa using h) (by simpa using hk)
theorem aq4:∀{l:List (Option Nat)} {H:Hp},V5 l H=true->∀(i j n:Nat) (k k':Blk),l[i]? =some (some n)->l[j]? =some (some n)->H[i]? =some k->H[j]? =some k'->k.mode≠.old->k'.mode≠.old->i=j
 |[],_,_,i,j,n,k,k',h,_,_,_,_,_=>by simp at h
 |x::r,[],_,i,j,n,k,k',_,_,h,_,_,_=>by simp at h
 |x::r,k0::H,hn,i,j,n,k,k',hi,hj,hk,hk',ho,ho'=>by
  have hr:V5 r H=true:=by
   cases x with
   |none=>exact hn
   |some m=>simp only [V5,lbM] at hn;exact hn.2
  have hx:∀(q:Nat) (kq:Blk),x=some n->k0.mode≠.old->r[q]? =some (some n)->H[q]? =some kq->kq.mode=.old:=fun q kq hxn h0 hq hkq=>by
   subst hxn
   simp only [V5,lbM] at hn
   have h1:=hn.1
   have:a7y n r H=false:=by
    cases hm:k0.mode with
    |old=>exact absurd hm h0
    |_=>simpa using h1
   exact at8 this hq hkq
  cases i with
  |zero=>cases j with
   |zero=>rfl
   |succ j=>
    simp at hi hj hk hk'
    subst hk
    exact absurd (hx j k' hi ho hj hk') ho'
  |succ i=>cases j with
   |zero=>
    simp at hi hj hk hk'
    subst hk'
    exact absurd (hx i k hj ho' hi hk) ho
   |succ j=>
    simp at hi hj hk hk'
    rw [aq4 hr i j n k k' hi hj hk hk' ho ho']
theorem a80 {ρ:List (Option Nat)}:∀{n:Nat},a1M ρ n=true->∀i,i<n->ρ[i]? =some (some i)
 |0,_,i,h=>by omega
 |n+1,hk,i,h=>by
  simp only [a1M,lbM] at hk
  by_cases hi:i=n
  ·subst hi
   have:=hk.1
   split at this
   ·rename_i m hm
    rw [hm,Nat.eq_of_beq_eq_true this]
   ·cases this
  ·exact a80 hk.2 i (by omega)
theorem aP4 {w:World} {ι ι':Io} {M M':Ms} (hM:∀b,M' b->M b) {rows:List (List C)} (h:E5 rows) {i j:Nat} {c:C} (hc:at2 rows i j=some c) {u:Value} (hr:RC w ι M c u):RC w ι' M' c u:=by
 obtain ⟨row,h1,h2⟩:=C1 hc
 exact (hr.tree (h row (lbm h1) c (lbm h2))).sub hM
theorem a35.all {n0:Nat} {ρ:List (Option Nat)} {H H':Hp} (h1:a1M ρ n0=true) (h2:V5 ρ H'=true) (h3:a35 ρ H ρ H') {w0:World} {ι0:Io} {M0:Ms} {H0:Hp} {w:World} {ι:Io} {M:Ms} (hn:H0.length=n0) (hM0:MB w0 M0)
 (hH:j8 w ι M H) (hst:a3R w0 ι0 M0 H0 w ι M H):j8 w (N5 ρ ι) (a5R ρ H ι M) H'∧a0f (N5 ρ ι) H'.length∧a3R w0 ι0 M0 H0 w (N5 ρ ι) (a5R ρ H ι M) H':=by
 obtain ⟨hl,hg0⟩:=a35.get h3
 have hg:∀(id:Nat) (k':Blk),H'[id]? =some k'->(ρ[id]? =some none∧k'.rows=[]∧k'.mode=.live)∨∃j k,ρ[id]? =some (some j)∧H[j]? =some k∧a2A k k'=true∧k.elem=k'.elem∧k.size=k'.size∧
  ((k.rows=k'.rows∧E5 k.rows)∨aa6 ρ H k.rows k'.rows):=fun id k' hk=>by
  rcases hg0 id k' hk with h|⟨j,k,q1,q2,q3,q4,q5,q6⟩
  ·exact .inl h
  ·exact .inr ⟨j,k,q1,q2,q3,q4,q5,q6⟩
 have hlen:∀{k k':Blk},((k.rows=k'.rows∧E5 k.rows)∨aa6 ρ H k.rows k'.rows)->k.rows.length=k'.rows.length:=fun h=>by
  rcases h with h|h
  ·rw [h.1]
  ·exact (aa6.rc hH h).1
 have hsub:∀b,a5R ρ H ι M b->M b:=fun b hb=>hb.1
 have hren:∀id j,ρ[id]? =some (some j)->N5 ρ ι id=ι j:=fun id j hj=>by unfold N5;rw [hj]
 have hnil:∀id,ρ[id]? =some none->N5 ρ ι id=some .nil:=fun id hj=>by unfold N5;rw [hj]
 have hle:H0.length<=H'.length:=by
  rw [← hl,hn]
  rcases Nat.lt_or_ge ρ.length n0 with hlt|hge
  ·have:=a80 h1 ρ.length hlt
   simp at this
  ·exact hge
 refine ⟨⟨?_,?_,?_,?_,?_⟩,?_,⟨hst.os,hst.tape,hst.output,hst.size,hst.keep,?_,fun b hb=>hst.mnew b hb.1,?_,?_,hle⟩⟩
 ·intro id k' hk hd l hll
  rcases hg id k' hk with ⟨q1,q2,q3⟩|⟨j,k,q1,q2,q3,q4,q5,q6⟩
  ·rw [hnil id q1] at hll
   injection hll with hll
   subst hll
   exact q2
  ·rw [hren id j q1] at hll
   have hb:=hH.blk j k q2 ((Q2 q3).1 hd) l hll
   cases l with
   |nil=>
    have hb':k.rows=[]:=hb
    show k'.rows=[]
    rcases q6 with ⟨q6,_⟩|q6
    ·rw [← q6,hb']
    ·rw [hb'] at q6
     cases hr:k'.rows with
     |nil=>rfl
     |cons y ys=>rw [hr] at q6;exact q6.elim
   |blk b cap size=>
    obtain ⟨r1,r2,r3,r4,r5,cur,r6,r7,r8⟩:=hb
    rcases q6 with ⟨q6,q7⟩|q6
    ·refine ⟨by rw [← q5];exact r1,r2,by rw [← q6];exact r3,r4,by rw [← q6];exact r5,cur,by rw [← q4];exact r6,r7,fun i j c hc=>?_⟩
     rw [← q6] at hc
     obtain ⟨u,s1,s2⟩:=r8 i j c hc
     exact ⟨u,s1,aP4 hsub q7 hc s2⟩
    ·obtain ⟨t1,t2,t3⟩:=aa6.rc hH q6
     refine ⟨by rw [← q5];exact r1,r2,by rw [← t1];exact r3,r4,t2 size r5,cur,by rw [← q4];exact r6,r7,fun i j c hc=>?_⟩
     obtain ⟨x,u1,u2⟩:=t3 i j c hc
     obtain ⟨u,s1,s2⟩:=r8 i j x u1
     exact ⟨u,s1,u2 u s2⟩
 ·intro id k' hk hm b cap size hi
  rcases hg id k' hk with ⟨q1,q2,q3⟩|⟨j,k,q1,q2,q3,q4,q5,q6⟩
  ·rw [hnil id q1] at hi;cases hi
  ·rw [hren id j q1] at hi
   have hkl:k.mode=.live:=((Q2 q3).2.1 hm).1
   have hMb:=hH.liv j k q2 hkl b cap size hi
   refine ⟨hMb,?_⟩
   rintro ⟨id2,k2,cap2,size2,n1,n2,n3,n4⟩
   cases hm2:k2.mode with
   |live=>
    have:=hH.inj j id2 k k2 q2 n2 hkl hm2 _ _ _ _ _ hi n4
    subst this
    exact as8 q1 n1
   |froz=>exact hH.fro id2 k2 n2 hm2 _ _ _ n4 hMb
   |old=>exact n3 (by rw [hm2];trivial)
   |dead=>exact n3 (by rw [hm2];trivial)
 ·intro id k' hk hm b cap size hi
  rcases hg id k' hk with ⟨q1,q2,q3⟩|⟨j,k,q1,q2,q3,q4,q5,q6⟩
  ·rw [hnil id q1] at hi;cases hi
  ·rw [hren id j q1] at hi
   exact fun hb=>hH.fro j k q2 ((Q2 q3).2.2.1 hm) b cap size hi hb.1
 ·intro id id' k k' hk hk' hm hm' b cap size cap' size' hi hi'
  rcases hg id k hk with ⟨q1,q2,q3⟩|⟨j,k1,q1,q2,q3,q4,q5,q6⟩
  ·rw [hnil id q1] at hi;cases hi
  ·rcases hg id' k' hk' with ⟨q1',q2',q3'⟩|⟨j',k1',q1',q2',q3',q4',q5',q6'⟩
   ·rw [hnil id' q1'] at hi';cases hi'
   ·rw [hren id j q1] at hi
    rw [hren id' j' q1'] at hi'
    have:=hH.inj j j' k1 k1' q2 q2' ((Q2 q3).2.1 hm).1 ((Q2 q3').2.1 hm').1 _ _ _ _ _ hi hi'
    subst this
    exact aq4 h2 id id' j k k' q1 q1' hk hk' (by rw [hm];intro h;cases h) (by rw [hm'];intro h;cases h)
 ·intro id id' k k' hk hk' hm hm' b cap size cap' size' hi hi'
  rcases hg id k hk with ⟨q1,q2,q3⟩|⟨j,k1,q1,q2,q3,q4,q5,q6⟩
  ·rw [hnil id q1] at hi;cases hi
  ·rcases hg0 id' k' hk' with ⟨q1',q2',q3'⟩|⟨j',k1',q1',q2',q3',q4',q5',q6'⟩
   ·rw [hnil id' q1'] at hi';cases hi'
   ·rw [hren id j q1] at hi
    rw [hren id' j' q1'] at hi'
    obtain ⟨hl1,s2⟩:=(Q2 q3').2.1 hm'
    rcases (Q2 q3).2.2.2 hm with ho|⟨ho,ha⟩
    ·obtain ⟨t1,t2,t3⟩:=hH.old j j' k1 k1' q2 q2' ho hl1 _ _ _ _ _ hi hi'
     exact ⟨s2 t1,t2,by rw [← hlen q6,←hlen q6'];exact t3⟩
    ·have hjj:=hH.inj j j' k1 k1' q2 q2' ho hl1 _ _ _ _ _ hi hi'
     subst hjj
     rw [q2] at q2'
     injection q2' with q2'
     subst q2'
     rw [hi] at hi'
     injection hi' with hi'
     injection hi' with _ _ hi'
     exact ⟨s2 ha,hi',by rw [← hlen q6,←hlen q6'];exact lbQ _⟩
 ·intro id hid
  unfold N5
  rw [lbd (by omega)]
 ·intro id hid
  rw [hren id id (a80 h1 id (by omega))]
  exact hst.same id hid
 ·intro b hb
  rcases hst.mold b hb with h|h
  ·by_cases hx:∃id k cap size,G3 ρ id=true∧H[id]? =some k∧¬k.mode.gone∧ι id=some (.blk b cap size)
   ·obtain ⟨id,k,cap,size,n1,n2,n3,n4⟩:=hx
    refine .inr ?_
    have hlive:k.mode=.live:=by
     cases hm:k.mode with
     |live=>rfl
     |froz=>exact absurd h (hH.fro id k n2 hm _ _ _ n4)
     |old=>exact absurd (by rw [hm];trivial) n3
     |dead=>exact absurd (by rw [hm];trivial) n3
    rcases hst.live b ⟨id,k,cap,size,n2,hlive,n4⟩ with h'|h'
    ·exact h'
    ·have:=hM0 b hb;omega
   ·exact .inl ⟨h,hx⟩
  ·exact .inr h
 ·rintro b ⟨id,k',cap,size,hk,hm,hi⟩
  rcases hg id k' hk with ⟨q1,q2,q3⟩|⟨j,k,q1,q2,q3,q4,q5,q6⟩
  ·rw [hnil id q1] at hi;cases hi
  ·rw [hren id j q1] at hi
   exact hst.live b ⟨j,k,cap,size,q2,((Q2 q3).2.1 hm).1,hi⟩
theorem Ent.sim {n0:Nat} {ρ:List (Option Nat)} {env env':Env} {H H':Hp} (h:Ent n0 ρ env H env' H') {w0:World} {ι0:Io} {M0:Ms} {H0:Hp} {a:Act} {w:World} (hn:H0.length=n0) (hM0:MB w0 M0)
 (hs:Sim w0 ι0 M0 H0 a w env H):Sim w0 ι0 M0 H0 a w env' H':=by
 obtain ⟨h1,h2,h3,h4⟩:=h
 obtain ⟨ι,M,hd,hsz,he,hH,hM,hF,hst⟩:=hs
 obtain ⟨hel,heg⟩:=a1F.rel h4
 obtain ⟨q1,q2,q3⟩:=a35.all h1 h2 h3 hn hM0 hH hst
 refine ⟨N5 ρ ι,_,hd,by omega,fun t s' ht=>?_,q1,fun b hb=>hM b hb.1,q2,q3⟩
 obtain ⟨s,q1,q2⟩:=heg t s' ht
 exact q2.rs hH (he t s q1)
def ak9 (ρ:List (Option Nat)) (H:Hp) (s s':S):Prop:=
 match s' with
 |.tup ss'=>match s with
  |.tup ss=>a1F ρ H ss ss'
  |_=>False
 |s'=>a5G ρ H s s'
structure Fin (n0:Nat) (r:S) (H1:Hp) (s:S) (H':Hp):Prop where
 out:∃ρ,a1M ρ n0=true∧V5 ρ H'=true∧a35 ρ H1 ρ H'∧ak9 ρ H1 r s
theorem ak9.rs {w:World} {ι:Io} {M:Ms} {ρ:List (Option Nat)} {H:Hp} (hH:j8 w ι M H) {s s':S} {v:Value} (h:ak9 ρ H s s') (hr:RS w ι M s v):RS w (N5 ρ ι) (a5R ρ H ι M) s' v:=by
 cases s' with
 |tup ss'=>
  cases s with
  |tup ss=>
   cases hr with
   |tup vs hl hr=>
    obtain ⟨h1,h2⟩:=a1F.rel h
    refine .tup vs (by omega) fun j s hj=>?_
    obtain ⟨s0,q1,q2⟩:=h2 j s hj
    exact q2.rs hH (hr j s0 q1)
  |_=>exact False.elim h
 |_=>exact a5G.rs hH h hr
theorem j3 {r s:S} {H1:Hp} (h:ak9 [] H1 r s):Fin 0 r H1 s []:=⟨[],rfl,rfl,trivial,h⟩
theorem b4P {P : Program} {τ : Tab} (hτ : C0 P τ) {f : FuncId} {fn : Func} {c : Code} {args : List S} {H : Hp} {s : S} {H' : Hp} (hf : P.funcs[f]? = some fn) (hb : fn.body = some c) (hn : fn.name ≠ "runtime.NumGoroutine")
    (h:a13 P τ H.length c (args++List.replicate (fn.ntmps - args.length) .junk) H fun x env' H1=>match x with
      |.exit _=>False
      |_=>a7z τ fn env' H1 fun r=>Fin H.length r H1 s H'):b7 P f args H s H':=by
  refine ⟨⟨fn,hf,by rw [hb];rfl,hn⟩,fun w ι M vals hl hr hH hM hF=>?_⟩
  refine calls_of_wp hf hb ?_
  have hi:=Sim.init hl hr hH hM hF (fn.ntmps - args.length)
  have:=(n9 hτ c h).out w ι M H _ w rfl hM hi
  have e:vals.toArray.size=args.length:=by simpa using hl
  rw [e]
  refine wp_mono this ?_
  rintro e a' w' ⟨x,env',H1,rfl,hq,ι',M',hd,hsz,he,hH',hM',hF',hst⟩
  have key:(a7z τ fn env' H1 fun r=>Fin H.length r H1 s H')->a'.defers=[]∧∃v,(results fn a'.tmps).run P w'=.ok v w'∧∃v',Ending.returned v=.returned v'∧F4 w ι M H s H' v' w':=by
   intro hq
   refine ⟨hd,?_⟩
   obtain ⟨l,hk,vs,h1,h2,h3⟩:=a6M hτ he hH' fn.results.toList hq
   have hrun:∃v,(results fn a'.tmps).run P w'=.ok v w'∧v=(if h:vs.length=1 then vs[0] else .tuple vs.toArray):=by
    refine ⟨_,?_,rfl⟩
    unfold results
    rw [Array.mapM_eq_mapM_toList,Sem.run_bind,Sem.run_map]
    refine (congrArg (fun r=>Result.andThen (Result.andThen r _) _) h1).trans ?_
    simp
   obtain ⟨v,hv1,rfl⟩:=hrun
   refine ⟨_,hv1,_,rfl,?_⟩
   have hsr:∃r,RS w' ι' M' r (if h:vs.length=1 then vs[0] else .tuple vs.toArray)∧Fin H.length r H1 s H':=by
    match l,hk,h2,h3 with
    |[s1],hk,h2,h3=>
     refine ⟨s1,?_,hk⟩
     rw [dif_pos (by simpa using h2)]
     have:=h3 0 s1 rfl
     rw [lbl,lbf (by simp at h2;omega)] at this
     exact this
    |[],hk,h2,h3=>
     refine ⟨_,?_,hk⟩
     rw [dif_neg (by simp at h2;simp [h2])]
     exact .tup vs h2 h3
    |s1::s2::r,hk,h2,h3=>
     refine ⟨_,?_,hk⟩
     rw [dif_neg (by simp at h2;omega)]
     exact .tup vs h2 h3
   obtain ⟨r,h4,ρ,f1,f2,f3,f4⟩:=hsr
   obtain ⟨g1,g2,g3⟩:=a35.all f1 f2 f3 rfl hM hH' hst
   exact ⟨N5 ρ ι',_,f4.rs hH' h4,g1,fun b hb=>hM' b hb.1,g2,g3⟩
  cases x with
  |normal=>exact key hq
  |ret=>exact key hq
  |exit id=>exact hq.elim
theorem a1m (p:Nat->Prop) (h:∃n,p n):∃n,p n∧∀m,p m->n<=m:=by
 obtain ⟨n,hn⟩:=h
 induction n using Nat.strongRecOn with
 |_ n ih=>
  by_cases hex:∃m,m<n∧p m
  ·obtain ⟨m,hm,hp⟩:=hex
   exact ih m hm hp
  ·exact ⟨n,hn,fun m hm=>Nat.le_of_not_lt fun hlt=>hex ⟨m,hlt,hm⟩⟩
theorem a4V {P:Program} {n0:Nat} {c:Code} {env:Env} {H:Hp} {Q:AX->Env->Hp->Prop} {σ:Type} (E:σ->Env × Hp) (μ:σ->Nat) (x0:σ) (ρ0:List (Option Nat))
 (h0:Ent n0 ρ0 env H (E x0).1 (E x0).2)
 (round:∀x,Awp P n0 c (E x).1 (E x).2 fun a env' H'=>match a with
   |.normal=>∃ρ x',Ent n0 ρ env' H' (E x').1 (E x').2∧μ x'<μ x
   |a=>Q a env' H'):Awp P n0 (.loop c) env H Q:=by
 refine ⟨fun w0 ι0 M0 H0 a w hn hM hs=>?_⟩
 have hs0:=h0.sim hn hM hs
 let I:Act->World->Prop:=fun a w=>∃x,Sim w0 ι0 M0 H0 a w (E x).1 (E x).2
 let J:Act->World->Nat->Prop:=fun a w n=>∃x,μ x=n∧Sim w0 ι0 M0 H0 a w (E x).1 (E x).2
 have hJ:∀a w,I a w->∃n,J a w n:=fun a w ⟨x,hx⟩=>⟨μ x,x,rfl,hx⟩
 classical
 let m:Act->World->Nat:=fun a w=>if h:∃n,J a w n then Classical.choose (a1m _ h) else 0
 have hmin:∀a w x,Sim w0 ι0 M0 H0 a w (E x).1 (E x).2->m a w<=μ x:=fun a w x hx=>by
  have h:∃n,J a w n:=⟨μ x,x,rfl,hx⟩
  show (if h:∃n,J a w n then Classical.choose (a1m _ h) else 0)<=μ x
  rw [dif_pos h]
  exact (Classical.choose_spec (a1m _ h)).2 _ ⟨x,rfl,hx⟩
 refine wp_loop I m ⟨x0,hs0⟩ fun a w hI=>?_
 have hex:=hJ a w hI
 have hm:m a w=Classical.choose (a1m _ hex):=by
  show (if h:∃n,J a w n then Classical.choose (a1m _ h) else 0)=_
  rw [dif_pos hex]
 obtain ⟨x,hx1,hx2⟩:=(Classical.choose_spec (a1m _ hex)).1
 have hr:=(round x).out w0 ι0 M0 H0 a w hn hM hx2
 refine wp_mono hr ?_
 rintro e a' w' ⟨ax,env',H',rfl,hq,hs'⟩
 cases ax with
 |normal=>
  obtain ⟨ρ,x',h1,h2⟩:=hq
  have hs2:=h1.sim hn hM hs'
  refine ⟨⟨x',hs2⟩,?_⟩
  have:=hmin a' w' x' hs2
  omega
 |exit id=>exact ⟨_,env',H',rfl,hq,hs'⟩
 |ret=>exact ⟨_,env',H',rfl,hq,hs'⟩
theorem f8 {P:Program} {τ:Tab} (hτ:C0 P τ) {n0:Nat} {c:Code} {env:Env} {H:Hp} {Q:AX->Env->Hp->Prop} (E:Nat->Env × Hp) (n:Nat) (I:Nat->Prop) (ρ0:List (Option Nat))
 (hI:I 0) (h0:Ent n0 ρ0 env H (E 0).1 (E 0).2)
 (round:∀k,k<=n->I k->a13 P τ n0 c (E k).1 (E k).2 fun a env' H'=>match a with
   |.normal=>k<n∧I (k+1)∧∃ρ,Ent n0 ρ env' H' (E (k+1)).1 (E (k+1)).2
   |a=>Q a env' H'):Awp P n0 (.loop c) env H Q:=by
 refine a4V (σ:={ k:Nat // k<=n∧I k }) (fun k=>E k.1) (fun k=>n - k.1) ⟨0,Nat.zero_le _,hI⟩ ρ0 h0 ?_
 rintro ⟨k,hk,hi⟩
 refine (n9 hτ c (round k hk hi)).mono ?_
 intro a env' H' h
 cases a with
 |normal=>
  obtain ⟨h1,h2,ρ,h3⟩:=h
  exact ⟨ρ,⟨k+1,h1,h2⟩,h3,by show n - (k+1)<n - k;omega⟩
 |exit id=>exact h
 |ret=>exact h
theorem a2l {n m:Int} {K:Prop} (h0:0<=n) (h1:n<m) (k:K):(0<=n∧n<m)∧K:=⟨⟨h0,h1⟩,k⟩
theorem d7 {α:Type} {xs:List α} {f:α->List T} {k:Nat} {x:α} {K:List T->Prop} (hx:xs[k]? =some x) (h:K (f x)):∃row,0<=(k:Int)∧(xs.map f)[(k:Int).toNat]? =some row∧K row:=
 ⟨f x,by omega,by simp [hx],h⟩
theorem F3 {α:Type} {xs:List α} {f:α->List T} {n:Int} {x:α} {K:List T->Prop} (h0:0<=n) (hx:xs[n.toNat]? =some x) (h:K (f x)):∃row,0<=n∧(xs.map f)[n.toNat]? =some row∧K row:=
 ⟨f x,h0,by simp [hx],h⟩
end
section
open Go.RowKit
def T.flat:T->Bool
 |.atm _=>true
 |_=>false
def C.flat:C->Bool
 |.t x=>x.flat
 |_=>false
def S.flat:S->Bool
 |.junk=>true
 |.c x=>x.flat
 |.agg cs=>cs.all C.flat
 |.tup ss=>ss.all fun s=>match s with
  |.c x=>x.flat
  |.agg cs=>cs.all C.flat
  |.junk=>true
  |.tup _=>false
theorem RC.flat {w:World} {ι ι':Io} {M M':Ms} {x:C} {v:Value} (h:x.flat=true) (hr:RC w ι M x v):RC w ι' M' x v:=by
 cases hr with
 |t hr=>cases hr with
  |atm hv=>exact .t (.atm hv)
  |_=>cases h
 |_=>cases h
theorem RS.flat1 {w:World} {ι ι':Io} {M M':Ms} {s:S} {v:Value} (h:(match s with|.c x=>x.flat|.agg cs=>cs.all C.flat|.junk=>true|.tup _=>false)=true) (hr:RS w ι M s v):RS w ι' M' s v:=by
 cases hr with
 |junk=>exact .junk
 |c hr=>exact .c (hr.flat h)
 |agg vs hl hr=>exact .agg vs hl fun j c hj=>(hr j c hj).flat (lbv.1 h c (lbm hj))
 |tup vs hl hr=>cases h
theorem RS.flat {w:World} {ι ι':Io} {M M':Ms} {s:S} {v:Value} (h:s.flat=true) (hr:RS w ι M s v):RS w ι' M' s v:=by
 cases hr with
 |junk=>exact .junk
 |c hr=>exact .c (hr.flat h)
 |agg vs hl hr=>exact .agg vs hl fun j c hj=>(hr j c hj).flat (lbv.1 h c (lbm hj))
 |tup vs hl hr=>exact .tup vs hl fun j s hj=>(hr j s hj).flat1 (lbv.1 h s (lbm hj))
theorem j8.none {w:World} {M:Ms}:j8 w (fun _=>Option.none) M []:=⟨by simp,by simp,by simp,by simp,by simp⟩
theorem ac4 {P:Program} {g:FuncId} {args args':List S} {H:Hp} {r:S} (h:b7 P g args' [] r []) (ha:a3L H (fun _=>True) args args') (hr:r.flat=true):Q6 P g args H r []:=by
 refine ⟨h.1,fun w ι M vals hl hv hH hM hf=>?_⟩
 obtain ⟨hlen,hget⟩:=a3L.get ha
 have:=h.2 w (fun _=>none) (fun _=>False) vals (by omega) (fun j s hj=>by
  obtain ⟨x,hx,hs⟩:=hget j s hj
  exact hs.rs hH (fun _ h=>h.elim) (fun _ _ _ _ _ _ _ _ _ h=>h) (hv j x hx))
  .none (fun _ h=>h.elim) (fun _ _=>rfl)
 refine Calls.mono this ?_
 rintro e w' ⟨v,rfl,ι',M',h1,h2,h3,h4,h5⟩
 exact ⟨v,rfl,I0.of_none (h1.flat hr) ⟨h5.os,h5.tape,h5.output,h5.size,fun b hb=>h5.keep b hb (by rintro ⟨id,k,_,_,hk,_⟩;simp at hk)⟩⟩
theorem a6z {P:Program} {g:FuncId} {args args':List S} {H:Hp} {r:S} (h:b7 P g args' [] r []) (ha:a3L H (fun _=>False) args args') (hr:r.isT=true):Q6 P g args H r []:=by
 refine ⟨h.1,fun w ι M vals hl hv hH hM hf=>?_⟩
 obtain ⟨hlen,hget⟩:=a3L.get ha
 have:=h.2 w (fun _=>none) M vals (by omega) (fun j s hj=>by
  obtain ⟨x,hx,hs⟩:=hget j s hj
  exact hs.rs hH (fun _ h=>h) (fun _ _ _ _ _ h _ _ _ _=>h.elim) (hv j x hx))
  .none hM (fun _ _=>rfl)
 refine Calls.mono this ?_
 rintro e w' ⟨v,rfl,ι',M',h1,h2,h3,h4,h5⟩
 refine ⟨v,rfl,I0.of_none ?_ ?_⟩
 ·refine RS.keep (ι:=ι) (M:=M') (fun _ _ _=>rfl) (fun b hb=>?_) (fun _ _ h=>h) (h1.tree hr)
  rcases h5.mold b hb with h|⟨id,k,_,_,hk,_⟩
  ·exact .inl h
  ·simp at hk
 ·exact ⟨h5.os,h5.tape,h5.output,h5.size,fun b hb=>h5.keep b hb (by rintro ⟨id,k,_,_,hk,_⟩;simp at hk)⟩
def az0 (fr:List Nat) (n:Nat) (k:Blk):Blk:=match fr.any (Nat.beq n),k.mode with
 |true,.live=>{ k with mode:=.froz }
 |_,_=>k
def a2a (fr:List Nat):Nat->Hp->Hp
 |_,[]=>[]
 |n,k::r=>az0 fr n k::a2a fr (n+1) r
abbrev b6f (fr:List Nat) (H:Hp):Hp:=a2a fr 0 H
theorem a8Z (fr:List Nat):∀(H:Hp) (n i:Nat),(a2a fr n H)[i]? =(H[i]?).map (az0 fr (n+i))
 |[],n,i=>by simp [a2a]
 |k::r,n,0=>by simp [a2a]
 |k::r,n,i+1=>by simp [a2a,a8Z fr r (n+1) i,show n+1+i=n+(i+1) by omega]
theorem a1x (fr:List Nat):∀(H:Hp) (n:Nat),(a2a fr n H).length=H.length
 |[],n=>rfl
 |k::r,n=>by simp [a2a,a1x fr r (n+1)]
theorem Q8 {fr:List Nat} {H:Hp} {id:Nat} {k':Blk} (h:(b6f fr H)[id]? =some k'):∃k,H[id]? =some k∧k'.elem=k.elem∧k'.size=k.size∧k'.rows=k.rows∧
 ((k'=k∧(id ∉ fr∨k.mode≠.live))∨(id ∈ fr∧k.mode=.live∧k'.mode=.froz)):=by
 rw [a8Z,Nat.zero_add] at h
 cases hk:H[id]? with
 |none=>rw [hk] at h;cases h
 |some k=>
  rw [hk] at h
  injection h with h
  refine ⟨k,rfl,?_⟩
  subst h
  unfold az0
  split
  ·rename_i h1 h2
   obtain ⟨x,hx,hb⟩:=lbw.1 h1
   have:=Nat.eq_of_beq_eq_true hb
   subst this
   exact ⟨rfl,rfl,rfl,.inr ⟨hx,h2,rfl⟩⟩
  ·rename_i h1
   refine ⟨rfl,rfl,rfl,.inl ⟨rfl,?_⟩⟩
   by_cases hm:k.mode=.live
   ·refine .inl fun hi=>h1 ?_ hm
    exact lbw.2 ⟨id,hi,by simp⟩
   ·exact .inr hm
theorem C7 {P:Program} {g:FuncId} {args args':List S} {H:Hp} {r:S} (fr:List Nat) (h:b7 P g args' [] r []) (ha:a3L H (· ∈ fr) args args') (hr:r.isT=true):b7 P g args H r (b6f fr H):=by
 refine ⟨h.1,fun w ι M vals hl hv hH hM hf=>?_⟩
 obtain ⟨hlen,hget⟩:=a3L.get ha
 let M0:Ms:=fun b=>M b∧¬∃id k cap size,id ∈ fr∧H[id]? =some k∧k.mode=.live∧ι id=some (.blk b cap size)
 have hM0:∀b,M0 b->M b:=fun b hb=>hb.1
 have:=h.2 w (fun _=>none) M0 vals (by omega) (fun j s hj=>by
  obtain ⟨x,hx,hs⟩:=hget j s hj
  refine hs.rs hH hM0 ?_ (hv j x hx)
  intro id k b cap size hp hk hd hi hb
  cases hm:k.mode with
  |live=>exact hb.2 ⟨id,k,cap,size,hp,hk,hm,hi⟩
  |froz=>exact hH.fro id k hk hm b cap size hi hb.1
  |old=>exact hd (by rw [hm];trivial)
  |dead=>exact hd (by rw [hm];trivial))
  .none (fun b hb=>hM b hb.1) (fun _ _=>rfl)
 refine Calls.mono this ?_
 rintro e w' ⟨v,rfl,ι',M',h1,h2,h3,h4,h5⟩
 have hkeep:∀b,b<w.heap.size->w'.heap[b]? =w.heap[b]?:=fun b hb=>h5.keep b hb (by rintro ⟨id,k,_,_,hk,_⟩;simp at hk)
 have hold:∀b,M0 b->M' b:=fun b hb=>by
  rcases h5.mold b hb with h|⟨id,k,_,_,hk,_⟩
  ·exact h
  ·simp at hk
 refine ⟨v,rfl,ι,M',?_,⟨?_,?_,?_,?_,?_⟩,h3,?_,?_⟩
 ·exact h1.tree hr
 ·intro id k' hk' hd l hll
  obtain ⟨k,hk,e1,e2,e3,hc⟩:=Q8 hk'
  have hd':k.mode≠.dead:=by
   rcases hc with ⟨rfl,_⟩|⟨_,h,_⟩
   ·exact hd
   ·rw [h];intro h;cases h
  have hb:=hH.blk id k hk hd' l hll
  cases l with
  |nil=>show k'.rows=[];rw [e3];exact hb
  |blk b cap size=>
   obtain ⟨q1,q2,q3,q4,q5,cur,q6,q7,q8⟩:=hb
   refine ⟨by rw [e2];exact q1,q2,by rw [e3];exact q3,q4,by rw [e3];exact q5,cur,by rw [e1];exact (hkeep b (B8 q6)).trans q6,q7,fun i j c hc=>?_⟩
   rw [e3] at hc
   obtain ⟨u,hu,hr⟩:=q8 i j c hc
   refine ⟨u,hu,hr.keep (fun b hb _=>hkeep b hb) (fun b hb=>?_) (fun _ _ h=>h)⟩
   rcases h5.mnew b hb with h|h
   ·exact .inl h.1
   ·exact .inr h
 ·intro id k' hk' hl' b cap size hi
  obtain ⟨k,hk,e1,e2,e3,hc⟩:=Q8 hk'
  rcases hc with ⟨rfl,hc⟩|⟨_,_,h⟩
  ·refine hold b ⟨hH.liv id k' hk hl' b cap size hi,?_⟩
   rintro ⟨id2,k2,cap2,size2,n1,n2,n3,n4⟩
   have:=hH.inj id id2 k' k2 hk n2 hl' n3 _ _ _ _ _ hi n4
   subst this
   rcases hc with hc|hc
   ·exact hc n1
   ·exact hc hl'
  ·rw [h] at hl';cases hl'
 ·intro id k' hk' hl' b cap size hi hb
  obtain ⟨k,hk,e1,e2,e3,hc⟩:=Q8 hk'
  have hlt:b<w.heap.size:=by
   have hd:k.mode≠.dead:=by
    rcases hc with ⟨rfl,_⟩|⟨_,h,_⟩
    ·rw [hl'];intro h;cases h
    ·rw [h];intro h;cases h
   obtain ⟨_,_,_,_,_,cur,q6,_⟩:=hH.blk id k hk hd _ hi
   exact B8 q6
  rcases h5.mnew b hb with h|h
  ·rcases hc with ⟨rfl,_⟩|⟨n1,n2,_⟩
   ·exact hH.fro id k' hk hl' b cap size hi h.1
   ·exact h.2 ⟨id,k,cap,size,n1,hk,n2,hi⟩
  ·omega
 ·intro id id' k1 k2 hk1 hk2 hm1 hm2
  obtain ⟨k,hk,e1,e2,e3,hc⟩:=Q8 hk1
  obtain ⟨k',hk',e1',e2',e3',hc'⟩:=Q8 hk2
  rcases hc with ⟨rfl,_⟩|⟨_,_,h⟩
  ·rcases hc' with ⟨rfl,_⟩|⟨_,_,h⟩
   ·exact hH.inj id id' _ _ hk hk' hm1 hm2
   ·rw [h] at hm2;cases hm2
  ·rw [h] at hm1;cases hm1
 ·intro id id' k1 k2 hk1 hk2 hm1 hm2
  obtain ⟨k,hk,e1,e2,e3,hc⟩:=Q8 hk1
  obtain ⟨k',hk',e1',e2',e3',hc'⟩:=Q8 hk2
  rcases hc with ⟨rfl,_⟩|⟨_,_,h⟩
  ·rcases hc' with ⟨rfl,_⟩|⟨_,_,h⟩
   ·exact hH.old id id' _ _ hk hk' hm1 hm2
   ·rw [h] at hm2;cases hm2
  ·rw [h] at hm1;cases hm1
 ·rw [a1x];exact hf
 ·refine ⟨h5.os,h5.tape,h5.output,h5.size,fun b hb _=>hkeep b hb,fun _ _=>rfl,?_,?_,?_,by rw [a1x];exact lbQ _⟩
  ·intro b hb
   rcases h5.mnew b hb with h|h
   ·exact .inl h.1
   ·exact .inr h
  ·intro b hb
   by_cases hx:∃id k cap size,id ∈ fr∧H[id]? =some k∧k.mode=.live∧ι id=some (.blk b cap size)
   ·obtain ⟨id,k,cap,size,n1,n2,n3,n4⟩:=hx
    exact .inr ⟨id,k,cap,size,n2,n3,n4⟩
   ·exact .inl (hold b ⟨hb,hx⟩)
  ·rintro b ⟨id,k',cap,size,hk',hl',hi⟩
   obtain ⟨k,hk,e1,e2,e3,hc⟩:=Q8 hk'
   rcases hc with ⟨rfl,_⟩|⟨_,_,h⟩
   ·exact .inl ⟨id,k',cap,size,hk,hl',hi⟩
   ·rw [h] at hl';cases hl'
theorem y9 {len m n b:Nat} {K:Prop} (h1:len<=m) (h2:(len+n)*b<=140737488355328) (k:K):(len<=m∧(len+n)*b<=140737488355328)∧K:=⟨⟨h1,h2⟩,k⟩
theorem b4S {α:Type} {xs:List α} {a b:Nat} {K:Prop} (h:a=b) (k:K):(xs.length=0∨a=b)∧K:=⟨.inr h,k⟩
theorem b4o {ops:List Oper} {K:List Oper->Prop} (h:a95 ops=true) (k:K ops):b2E ops K:=⟨⟨none,rfl,h,k⟩⟩
theorem aK5 {ops:List Oper} {K:List Oper->Prop} (π:List Nat) (h:a95 (U3 π ops)=true) (h2:au0 π ops.length=true) (k:K (U3 π ops)):b2E ops K:=⟨⟨some π,h2,h,k⟩⟩
theorem b6d {P:Program} {τ:Tab} {env:Env} {H':Hp} {ops:List Oper} {i:Nat} {K:Prop} (h:I7 ops i=true) (h2:Y0 ops i=[]) (k:K):I7 ops i=true∧∃L,Y0 ops i=L∧a29 P τ ops env H' K L:=⟨h,[],h2,k⟩
theorem B4 {P:Program} {τ:Tab} {env:Env} {H':Hp} {ops:List Oper} {i:Nat} {K:Prop} (L:List Nat) (h:I7 ops i=true) (h2:Y0 ops i=L) (k:a29 P τ ops env H' K L):I7 ops i=true∧∃L,Y0 ops i=L∧a29 P τ ops env H' K L:=⟨h,L,h2,k⟩
theorem b0d {s:S} {B:List Blk} {s':S} {K:Prop} (h1:B=[]) (h2:s=s') (k:K):(B=[]∧s=s')∧K:=⟨⟨h1,h2⟩,k⟩
theorem F0 {rl xl sz ds b:Nat} {K:Prop} (h1:rl=0) (h3:(rl+xl)*b<=140737488355328) (k:K):((rl=0∨(0<xl∧sz=ds))∧(rl+xl)*b<=140737488355328)∧K:=⟨⟨.inl h1,h3⟩,k⟩
theorem G8 {α:Type} {xs:List α} {f:α->List T} {n:Int} {k:Nat} {x:α} {K:List T->Prop} (e:n=k) (hx:xs[k]? =some x) (h:K (f x)):∃row,0<=n∧(xs.map f)[n.toNat]? =some row∧K row:=by
 subst e;exact d7 hx h
theorem b8l {a b:Int} {K:Prop} (h:a≠b) (k:K):a≠b∧K:=⟨h,k⟩
theorem a14 {l h m:Int} {K:Prop} (h1:0<=l) (h2:l<=h) (h3:h<=m) (k:K):(0<=l∧l<=h∧h<=m)∧K:=⟨⟨h1,h2,h3⟩,k⟩
theorem aP9 {P:Program} {n0:Nat} {c:Code} {env:Env} {H:Hp} {Q:AX->Env->Hp->Prop}
 (h:Awp P n0 c env H fun a env' H'=>Q a env' H'∨∃ρ E2 H2,Ent n0 ρ env' H' E2 H2∧Q a E2 H2):Awp P n0 c env H Q:=by
 refine ⟨fun w0 ι0 M0 H0 a w hn hM hs=>wp_mono (h.out w0 ι0 M0 H0 a w hn hM hs) ?_⟩
 rintro e a' w' ⟨x,env',H',rfl,hq,hs'⟩
 rcases hq with hq|⟨ρ,E2,H2,he,hq⟩
 ·exact ⟨x,env',H',rfl,hq,hs'⟩
 ·exact ⟨x,E2,H2,rfl,hq,he.sim hn hM hs'⟩
theorem J7 {id len:Nat} {app:Bool} {H1:Hp} {rows:List (List T)} {size:Nat} {k:Blk} (hk:H1[id]? =some k) (hd:¬k.mode.gone) (hs:k.size=size) (hc:k.rows=toC rows) (hl:len=rows.length):
 Fin 0 (.c (.own id 0 len app)) H1 (.c (.t (.sl size .any rows))) []:=j3 (show VC H1 _ _ _ from t8 rfl hk hd hs hc hl)
theorem x4 {ρ:List (Option Nat)} {H:Hp} {id id' len len':Nat} (h:ρ[id']? =some (some id)) (hl:len=len'):a5G ρ H (.c (.own id 0 len true)) (.c (.own id' 0 len' true)):=⟨h,rfl,hl,fun h=>h⟩
theorem c8 (rows:List (List T)):E5 (toC rows):=by
 intro r hr c hc
 obtain ⟨r',_,rfl⟩:=lbx.1 hr
 obtain ⟨c',_,rfl⟩:=lbx.1 hc
 rfl
theorem b8 {ρ:List (Option Nat)} {H:Hp} {k k':Blk} {rows:List (List T)} (h1:a2A k k'=true) (h2:k.elem=k'.elem) (h3:k.size=k'.size) (h4:k.rows=toC rows) (h5:k'.rows=toC rows):a1f ρ H k k':=
 ⟨h1,h2,h3,.inl ⟨h4.trans h5.symm,h4 ▸ c8 rows⟩⟩
theorem b4j {H:Hp} {p:Nat->Prop}:∀ts:List T,VL H p (ts.map C.t) ts
 |[]=>ba2
 |t::r=>b6X (aV3 (X7 t)) (b4j r)
theorem ad8 {H:Hp} {p:Nat->Prop} (ts:List T):VS H p (.agg (ts.map C.t)) (.agg (ts.map C.t)):=b97 (b4j ts)
theorem a8M {H:Hp} {p:Nat->Prop} {x:T}:VS H p (.c (.t x)) (.c (.t x)):=a3p (aV3 (X7 x))
end
section
set_option maxRecDepth 100000
def bf5:List (Option TD):=[none,some ⟨.bas,false,1,8,[.nilFunc]⟩,some ⟨.int .i64,false,1,8,[.int .i64 0]⟩,some ⟨.int .i64,false,1,8,[.int .i64 0]⟩,some ⟨.bool,false,1,1,[.bool false]⟩,some ⟨.int .u8,false,1,1,[.int .u8 0]⟩,some ⟨.int .u8,false,1,1,[.int .u8 0]⟩,some ⟨.struct [(0,1,false),(1,1,false),(2,1,false),(3,1,false)],true,4,24,[.int .i64 0,.int .i64 0,.bool false,.int .u8 0]⟩,some ⟨.struct [(0,1,false),(1,1,false),(2,1,false),(3,1,false)],true,4,24,[.int .i64 0,.int .i64 0,.bool false,.int .u8 0]⟩,none,none,none,some ⟨.int .u64,false,1,8,[.int .u64 0]⟩,none,none,some ⟨.bas,false,1,8,[.pointer none]⟩,some ⟨.bas,false,1,8,[.pointer none]⟩,some ⟨.bas,false,1,8,[.pointer none]⟩,some ⟨.struct [(0,1,false)],true,1,8,[.pointer none]⟩,some ⟨.struct [(0,1,false)],true,1,8,[.pointer none]⟩,none,some ⟨.int .i32,false,1,4,[.int .i32 0]⟩,some ⟨.slice 121,false,1,24,[.slice none 0 0]⟩,some ⟨.slice 45,false,1,24,[.slice none 0 0]⟩,some ⟨.slice 211,false,1,24,[.slice none 0 0]⟩,some ⟨.slice 307,false,1,24,[.slice none 0 0]⟩,some ⟨.slice 252,false,1,24,[.slice none 0 0]⟩,some ⟨.struct [(0,1,false),(1,1,false),(2,1,false),(3,1,false),(4,1,false),(5,1,false),(6,1,false),(7,1,false)],true,8,144,[.int .i64 0,.int .i64 0,.int .i64 0,.slice none 0 0,.slice none 0 0,.slice none 0 0,.slice none 0 0,.slice none 0 0]⟩,some ⟨.struct [(0,1,false),(1,1,false),(2,1,false),(3,1,false),(4,1,false),(5,1,false),(6,1,false),(7,1,false)],true,8,144,[.int .i64 0,.int .i64 0,.int .i64 0,.slice none 0 0,.slice none 0 0,.slice none 0 0,.slice none 0 0,.slice none 0 0]⟩,some ⟨.bas,false,1,8,[.nilFunc]⟩,some ⟨.bas,false,1,8,[.nilFunc]⟩,some ⟨.slice 3,false,1,24,[.slice none 0 0]⟩,some ⟨.struct [(0,1,false),(1,1,false)],true,2,32,[.int .i64 0,.slice none 0 0]⟩,some ⟨.struct [(0,1,false),(1,1,false)],true,2,32,[.int .i64 0,.slice none 0 0]⟩,some ⟨.struct [(0,2,false),(2,2,false)],true,4,64,[.int .i64 0,.slice none 0 0,.int .i64 0,.slice none 0 0]⟩,some ⟨.struct [(0,2,false),(2,2,false)],true,4,64,[.int .i64 0,.slice none 0 0,.int .i64 0,.slice none 0 0]⟩,some ⟨.slice 35,false,1,24,[.slice none 0 0]⟩,some ⟨.struct [(0,1,false),(1,4,false),(5,1,false),(6,1,false),(7,1,false)],true,8,144,[.int .i64 0,.int .i64 0,.slice none 0 0,.int .i64 0,.slice none 0 0,.slice none 0 0,.slice none 0 0,.slice none 0 0]⟩,some ⟨.struct [(0,1,false),(1,4,false),(5,1,false),(6,1,false),(7,1,false)],true,8,144,[.int .i64 0,.int .i64 0,.slice none 0 0,.int .i64 0,.slice none 0 0,.slice none 0 0,.slice none 0 0,.slice none 0 0]⟩,some ⟨.struct [(0,8,false),(8,8,false)],true,16,288,[.int .i64 0,.int .i64 0,.slice none 0 0,.int .i64 0,.slice none 0 0,.slice none 0 0,.slice none 0 0,.slice none 0 0,.int .i64 0,.int .i64 0,.slice none 0 0,.int .i64 0,.slice none 0 0,.slice none 0 0,.slice none 0 0,.slice none 0 0]⟩,some ⟨.struct [(0,8,false),(8,8,false)],true,16,288,[.int .i64 0,.int .i64 0,.slice none 0 0,.int .i64 0,.slice none 0 0,.slice none 0 0,.slice none 0 0,.slice none 0 0,.int .i64 0,.int .i64 0,.slice none 0 0,.int .i64 0,.slice none 0 0,.slice none 0 0,.slice none 0 0,.slice none 0 0]⟩,some ⟨.bas,false,1,8,[.nilFunc]⟩,some ⟨.bas,false,1,8,[.nilFunc]⟩,some ⟨.bas,false,1,8,[.nilFunc]⟩,some ⟨.struct [(0,1,false),(1,1,false),(2,1,false),(3,1,false),(4,1,false),(5,1,false)],true,6,48,[.int .i64 0,.int .i64 0,.int .i64 0,.int .i64 0,.int .i64 0,.bool false]⟩,some ⟨.struct [(0,1,false),(1,1,false),(2,1,false),(3,1,false),(4,1,false),(5,1,false)],true,6,48,[.int .i64 0,.int .i64 0,.int .i64 0,.int .i64 0,.int .i64 0,.bool false]⟩,some ⟨.slice 192,false,1,24,[.slice none 0 0]⟩,some ⟨.struct [(0,1,false),(1,1,false)],true,2,32,[.int .i64 0,.slice none 0 0]⟩,some ⟨.struct [(0,1,false),(1,1,false)],true,2,32,[.int .i64 0,.slice none 0 0]⟩,some ⟨.int .i64,false,1,8,[.int .i64 0]⟩,none,some ⟨.bas,false,1,8,[.nilFunc]⟩,some ⟨.slice 54,false,1,24,[.slice none 0 0]⟩,some ⟨.struct [(0,1,false),(1,1,false)],true,2,16,[.int .i64 0,.int .i64 0]⟩,some ⟨.struct [(0,1,false),(1,1,false)],true,2,16,[.int .i64 0,.int .i64 0]⟩,none,some ⟨.bas,false,1,8,[.nilFunc]⟩,some ⟨.slice 129,false,1,24,[.slice none 0 0]⟩,some ⟨.bas,false,1,8,[.nilFunc]⟩,some ⟨.bas,false,1,8,[.nilFunc]⟩,some ⟨.bas,false,1,8,[.nilFunc]⟩,some ⟨.bas,false,1,8,[.nilFunc]⟩,none,some ⟨.bas,false,1,8,[.nilFunc]⟩,some ⟨.bas,false,1,8,[.nilFunc]⟩,some ⟨.bas,false,1,8,[.nilFunc]⟩,some ⟨.struct [(0,4,false),(4,4,false),(8,1,false),(9,1,false)],true,10,136,[.int .i64 0,.slice none 0 0,.int .i64 0,.slice none 0 0,.int .i64 0,.slice none 0 0,.int .i64 0,.slice none 0 0,.bool false,.bool false]⟩,some ⟨.struct [(0,4,false),(4,4,false),(8,1,false),(9,1,false)],true,10,136,[.int .i64 0,.slice none 0 0,.int .i64 0,.slice none 0 0,.int .i64 0,.slice none 0 0,.int .i64 0,.slice none 0 0,.bool false,.bool false]⟩,some ⟨.bas,false,1,8,[.nilFunc]⟩,some ⟨.bas,false,1,8,[.nilFunc]⟩,some ⟨.int .u16,false,1,2,[.int .u16 0]⟩,none,some ⟨.bas,false,1,8,[.nilFunc]⟩,some ⟨.slice 36,false,1,24,[.slice none 0 0]⟩,some ⟨.bas,false,1,8,[.nilFunc]⟩,some ⟨.bas,false,1,8,[.nilFunc]⟩,some ⟨.bas,false,1,8,[.nilFunc]⟩,some ⟨.bas,false,1,8,[.nilFunc]⟩,some ⟨.bas,false,1,8,[.nilFunc]⟩,some ⟨.bas,false,1,8,[.nilFunc]⟩,some ⟨.bas,false,1,8,[.nilFunc]⟩,some ⟨.bas,false,1,8,[.nilFunc]⟩,some ⟨.bas,false,1,8,[.nilFunc]⟩,some ⟨.slice 290,false,1,24,[.slice none 0 0]⟩,some ⟨.slice 293,false,1,24,[.slice none 0 0]⟩,some ⟨.struct [(0,8,false),(8,1,false),(9,1,false)],true,10,192,[.int .i64 0,.int .i64 0,.int .i64 0,.slice none 0 0,.slice none 0 0,.slice none 0 0,.slice none 0 0,.slice none 0 0,.slice none 0 0,.slice none 0 0]⟩,some ⟨.struct [(0,8,false),(8,1,false),(9,1,false)],true,10,192,[.int .i64 0,.int .i64 0,.int .i64 0,.slice none 0 0,.slice none 0 0,.slice none 0 0,.slice none 0 0,.slice none 0 0,.slice none 0 0,.slice none 0 0]⟩,some ⟨.struct [(0,1,false),(1,1,false),(2,1,false),(3,1,false),(4,1,false)],true,5,88,[.int .i64 0,.int .i64 0,.slice none 0 0,.slice none 0 0,.slice none 0 0]⟩,some ⟨.struct [(0,1,false),(1,1,false),(2,1,false),(3,1,false),(4,1,false)],true,5,88,[.int .i64 0,.int .i64 0,.slice none 0 0,.slice none 0 0,.slice none 0 0]⟩,some ⟨.bas,false,1,8,[.nilFunc]⟩,some ⟨.bas,false,1,8,[.nilFunc]⟩,some ⟨.bas,false,1,8,[.nilFunc]⟩,some ⟨.bas,false,1,8,[.nilFunc]⟩,some ⟨.bas,false,1,8,[.nilFunc]⟩,some ⟨.slice 88,false,1,24,[.slice none 0 0]⟩,none,some ⟨.bas,false,1,8,[.nilFunc]⟩,some ⟨.bas,false,1,8,[.nilFunc]⟩,some ⟨.bas,false,1,8,[.nilFunc]⟩,some ⟨.slice 31,false,1,24,[.slice none 0 0]⟩,none,some ⟨.bas,false,1,8,[.nilFunc]⟩,some ⟨.slice 114,false,1,24,[.slice none 0 0]⟩,none,some ⟨.bas,false,1,8,[.nilFunc]⟩,some ⟨.bas,false,1,8,[.pointer none]⟩,none,some ⟨.bas,false,1,8,[.nilFunc]⟩,some ⟨.slice 52,false,1,24,[.slice none 0 0]⟩,some ⟨.slice 67,false,1,24,[.slice none 0 0]⟩,none,some ⟨.bas,false,1,8,[.nilFunc]⟩,some ⟨.bas,false,1,8,[.nilFunc]⟩,some ⟨.struct [(0,1,false),(1,1,false),(2,1,false),(3,1,false)],true,4,32,[.int .i64 0,.int .i64 0,.int .i64 0,.int .i64 0]⟩,some ⟨.struct [(0,1,false),(1,1,false),(2,1,false),(3,1,false)],true,4,32,[.int .i64 0,.int .i64 0,.int .i64 0,.int .i64 0]⟩,some ⟨.bas,false,1,8,[.nilFunc]⟩,some ⟨.bas,false,1,8,[.nilFunc]⟩,some ⟨.bas,false,1,8,[.nilFunc]⟩,some ⟨.bas,false,1,8,[.nilFunc]⟩,some ⟨.bas,false,1,8,[.nilFunc]⟩,some ⟨.struct [(0,1,false),(1,1,false),(2,1,false)],true,3,24,[.int .i64 0,.int .i64 0,.int .i64 0]⟩,some ⟨.struct [(0,1,false),(1,1,false),(2,1,false)],true,3,24,[.int .i64 0,.int .i64 0,.int .i64 0]⟩,some ⟨.struct [(0,8,false),(8,1,false),(9,1,false)],true,10,192,[.int .i64 0,.int .i64 0,.int .i64 0,.slice none 0 0,.slice none 0 0,.slice none 0 0,.slice none 0 0,.slice none 0 0,.slice none 0 0,.slice none 0 0]⟩,some ⟨.struct [(0,8,false),(8,1,false),(9,1,false)],true,10,192,[.int .i64 0,.int .i64 0,.int .i64 0,.slice none 0 0,.slice none 0 0,.slice none 0 0,.slice none 0 0,.slice none 0 0,.slice none 0 0,.slice none 0 0]⟩,some ⟨.bas,false,1,8,[.pointer none]⟩,some ⟨.bas,false,1,8,[.nilFunc]⟩,some ⟨.bas,false,1,8,[.nilFunc]⟩,some ⟨.bas,false,1,8,[.nilFunc]⟩,some ⟨.struct [(0,1,false),(1,4,false)],true,5,72,[.int .i64 0,.int .i64 0,.slice none 0 0,.int .i64 0,.slice none 0 0]⟩,some ⟨.struct [(0,1,false),(1,4,false)],true,5,72,[.int .i64 0,.int .i64 0,.slice none 0 0,.int .i64 0,.slice none 0 0]⟩,some ⟨.bas,false,1,8,[.nilFunc]⟩,some ⟨.bas,false,1,8,[.nilFunc]⟩,none,some ⟨.bas,false,1,8,[.nilFunc]⟩,some ⟨.bas,false,1,8,[.nilFunc]⟩,some ⟨.bas,false,1,8,[.nilFunc]⟩,some ⟨.bas,false,1,8,[.nilFunc]⟩,some ⟨.bas,false,1,8,[.nilFunc]⟩,some ⟨.bas,false,1,8,[.nilFunc]⟩,some ⟨.bas,false,1,8,[.nilFunc]⟩,some ⟨.bas,false,1,8,[.nilFunc]⟩,some ⟨.bas,false,1,8,[.nilFunc]⟩,some ⟨.bas,false,1,8,[.nilFunc]⟩,some ⟨.bas,false,1,8,[.nilFunc]⟩,some ⟨.bas,false,1,8,[.nilFunc]⟩,some ⟨.slice 36,false,1,24,[.slice none 0 0]⟩,some ⟨.bas,false,1,8,[.nilFunc]⟩,some ⟨.bas,false,1,8,[.nilFunc]⟩,some ⟨.bas,false,1,8,[.nilFunc]⟩,some ⟨.bas,false,1,8,[.nilFunc]⟩,some ⟨.bas,false,1,8,[.nilFunc]⟩,some ⟨.bas,false,1,8,[.nilFunc]⟩,some ⟨.bas,false,1,8,[.nilFunc]⟩,some ⟨.bas,false,1,8,[.nilFunc]⟩,some ⟨.bas,false,1,8,[.nilFunc]⟩,some ⟨.bas,false,1,8,[.nilFunc]⟩,some ⟨.bas,false,1,8,[.nilFunc]⟩,some ⟨.slice 255,false,1,24,[.slice none 0 0]⟩,some ⟨.struct [(0,1,false),(1,1,false)],true,2,32,[.int .i64 0,.slice none 0 0]⟩,some ⟨.struct [(0,1,false),(1,1,false)],true,2,32,[.int .i64 0,.slice none 0 0]⟩,some ⟨.slice 257,false,1,24,[.slice none 0 0]⟩,none,some ⟨.bas,false,1,8,[.nilFunc]⟩,some ⟨.slice 397,false,1,24,[.slice none 0 0]⟩,some ⟨.struct [(0,1,false),(1,1,false),(2,1,false),(3,1,false),(4,1,false),(5,1,false),(6,1,false)],true,7,72,[.int .i64 0,.int .i64 0,.int .i64 0,.int .i64 0,.int .i64 0,.int .i64 0,.slice none 0 0]⟩,some ⟨.struct [(0,1,false),(1,1,false),(2,1,false),(3,1,false),(4,1,false),(5,1,false),(6,1,false)],true,7,72,[.int .i64 0,.int .i64 0,.int .i64 0,.int .i64 0,.int .i64 0,.int .i64 0,.slice none 0 0]⟩,some ⟨.slice 165,false,1,24,[.slice none 0 0]⟩,some ⟨.struct [(0,2,false),(2,1,false),(3,1,false)],true,4,80,[.int .i64 0,.slice none 0 0,.slice none 0 0,.slice none 0 0]⟩,some ⟨.struct [(0,2,false),(2,1,false),(3,1,false)],true,4,80,[.int .i64 0,.slice none 0 0,.slice none 0 0,.slice none 0 0]⟩,some ⟨.slice 184,false,1,24,[.slice none 0 0]⟩,some ⟨.slice 353,false,1,24,[.slice none 0 0]⟩,some ⟨.struct [(0,1,false),(1,1,false),(2,1,false),(3,1,false)],true,4,80,[.bool false,.slice none 0 0,.slice none 0 0,.slice none 0 0]⟩,some ⟨.struct [(0,1,false),(1,1,false),(2,1,false),(3,1,false)],true,4,80,[.bool false,.slice none 0 0,.slice none 0 0,.slice none 0 0]⟩,none,some ⟨.bas,false,1,8,[.nilFunc]⟩,some ⟨.slice 273,false,1,24,[.slice none 0 0]⟩,some ⟨.struct [(0,1,false)],true,1,24,[.slice none 0 0]⟩,some ⟨.struct [(0,1,false)],true,1,24,[.slice none 0 0]⟩,none,some ⟨.bas,false,1,8,[.nilFunc]⟩,some ⟨.struct [(0,1,false),(1,1,false),(2,1,false)],true,3,24,[.int .i64 0,.int .i64 0,.int .i64 0]⟩,some ⟨.struct [(0,1,false),(1,1,false),(2,1,false)],true,3,24,[.int .i64 0,.int .i64 0,.int .i64 0]⟩,some ⟨.slice 181,false,1,24,[.slice none 0 0]⟩,some ⟨.struct [(0,1,false),(1,1,false),(2,1,false),(3,1,false)],true,4,64,[.int .i64 0,.slice none 0 0,.slice none 0 0,.int .i64 0]⟩,some ⟨.struct [(0,1,false),(1,1,false),(2,1,false),(3,1,false)],true,4,64,[.int .i64 0,.slice none 0 0,.slice none 0 0,.int .i64 0]⟩,some ⟨.bas,false,1,8,[.nilFunc]⟩,some ⟨.bas,false,1,8,[.nilFunc]⟩,some ⟨.bas,false,1,8,[.nilFunc]⟩,some ⟨.bas,false,1,8,[.nilFunc]⟩,some ⟨.bas,false,1,8,[.nilFunc]⟩,some ⟨.bas,false,1,8,[.nilFunc]⟩,some ⟨.struct [(0,1,false),(1,1,false),(2,4,false)],true,6,96,[.slice none 0 0,.int .i64 0,.int .i64 0,.slice none 0 0,.int .i64 0,.slice none 0 0]⟩,some ⟨.struct [(0,1,false),(1,1,false),(2,4,false)],true,6,96,[.slice none 0 0,.int .i64 0,.int .i64 0,.slice none 0 0,.int .i64 0,.slice none 0 0]⟩,some ⟨.bas,false,1,8,[.nilFunc]⟩,some ⟨.bas,false,1,8,[.nilFunc]⟩,some ⟨.bas,false,1,8,[.nilFunc]⟩,some ⟨.bas,false,1,8,[.nilFunc]⟩,some ⟨.bas,false,1,8,[.nilFunc]⟩,some ⟨.bas,false,1,8,[.nilFunc]⟩,some ⟨.bas,false,1,8,[.nilFunc]⟩,some ⟨.bas,false,1,8,[.nilFunc]⟩,some ⟨.slice 204,false,1,24,[.slice none 0 0]⟩,some ⟨.bas,false,1,8,[.nilFunc]⟩,some ⟨.struct [(0,4,false),(4,1,false),(5,1,false),(6,1,false)],true,7,104,[.int .i64 0,.slice none 0 0,.int .i64 0,.slice none 0 0,.bool false,.slice none 0 0,.int .i64 0]⟩,some ⟨.struct [(0,4,false),(4,1,false),(5,1,false),(6,1,false)],true,7,104,[.int .i64 0,.slice none 0 0,.int .i64 0,.slice none 0 0,.bool false,.slice none 0 0,.int .i64 0]⟩,some ⟨.bas,false,1,8,[.nilFunc]⟩,some ⟨.bas,false,1,8,[.nilFunc]⟩,none,some ⟨.bas,false,1,8,[.nilFunc]⟩,some ⟨.bas,false,1,8,[.nilFunc]⟩,some ⟨.struct [(0,1,false),(1,1,false),(2,1,false),(3,1,false),(4,1,false),(5,1,false)],true,6,48,[.int .i64 0,.int .i64 0,.int .i64 0,.int .i64 0,.int .i64 0,.int .i64 0]⟩,some ⟨.struct [(0,1,false),(1,1,false),(2,1,false),(3,1,false),(4,1,false),(5,1,false)],true,6,48,[.int .i64 0,.int .i64 0,.int .i64 0,.int .i64 0,.int .i64 0,.int .i64 0]⟩,some ⟨.bas,false,1,8,[.nilFunc]⟩,some ⟨.bas,false,1,8,[.nilFunc]⟩,none,some ⟨.bas,false,1,8,[.nilFunc]⟩,none,some ⟨.bas,false,1,8,[.nilFunc]⟩,some ⟨.bas,false,1,8,[.nilFunc]⟩,some ⟨.struct [(0,8,false),(8,1,false),(9,1,false),(10,1,false)],true,11,200,[.int .i64 0,.int .i64 0,.int .i64 0,.slice none 0 0,.slice none 0 0,.slice none 0 0,.slice none 0 0,.slice none 0 0,.slice none 0 0,.slice none 0 0,.bool false]⟩,some ⟨.struct [(0,8,false),(8,1,false),(9,1,false),(10,1,false)],true,11,200,[.int .i64 0,.int .i64 0,.int .i64 0,.slice none 0 0,.slice none 0 0,.slice none 0 0,.slice none 0 0,.slice none 0 0,.slice none 0 0,.slice none 0 0,.bool false]⟩,some ⟨.bas,false,1,8,[.nilFunc]⟩,some ⟨.bas,false,1,8,[.nilFunc]⟩,none,some ⟨.bas,false,1,8,[.nilFunc]⟩,some ⟨.bas,false,1,8,[.nilFunc]⟩,some ⟨.bas,false,1,8,[.nilFunc]⟩,some ⟨.bas,false,1,8,[.nilFunc]⟩,none,some ⟨.bas,false,1,8,[.nilFunc]⟩,none,some ⟨.bas,false,1,8,[.nilFunc]⟩,some ⟨.bas,false,1,8,[.nilFunc]⟩,some ⟨.bas,false,1,8,[.nilFunc]⟩,some ⟨.bas,false,1,8,[.nilFunc]⟩,some ⟨.int .u64,false,1,8,[.int .u64 0]⟩,some ⟨.int .u64,false,1,8,[.int .u64 0]⟩,some ⟨.bas,false,1,8,[.nilFunc]⟩,some ⟨.bas,false,1,8,[.nilFunc]⟩,some ⟨.bas,false,1,8,[.nilFunc]⟩,none,some ⟨.bas,false,1,8,[.nilFunc]⟩,some ⟨.bas,false,1,8,[.nilFunc]⟩,some ⟨.bas,false,1,8,[.nilFunc]⟩,some ⟨.bas,false,1,8,[.nilFunc]⟩,some ⟨.bas,false,1,8,[.nilFunc]⟩,some ⟨.bas,false,1,8,[.nilFunc]⟩,some ⟨.bas,false,1,8,[.nilFunc]⟩,some ⟨.bas,false,1,8,[.nilFunc]⟩,none,some ⟨.bas,false,1,8,[.nilFunc]⟩,some ⟨.struct [(0,1,false),(1,1,false),(2,1,false),(3,1,false)],true,4,32,[.int .i64 0,.int .i64 0,.int .i64 0,.int .i64 0]⟩,some ⟨.struct [(0,1,false),(1,1,false),(2,1,false),(3,1,false)],true,4,32,[.int .i64 0,.int .i64 0,.int .i64 0,.int .i64 0]⟩,some ⟨.bas,false,1,8,[.nilFunc]⟩,some ⟨.struct [(0,1,false),(1,1,false),(2,1,false),(3,1,false)],true,4,32,[.int .i64 0,.int .i64 0,.int .i64 0,.int .i64 0]⟩,some ⟨.struct [(0,1,false),(1,1,false),(2,1,false),(3,1,false)],true,4,32,[.int .i64 0,.int .i64 0,.int .i64 0,.int .i64 0]⟩,some ⟨.struct [(0,1,false),(1,1,false),(2,1,false),(3,1,false),(4,1,false),(5,1,false)],true,6,64,[.int .i64 0,.int .i64 0,.int .i64 0,.int .i64 0,.int .i64 0,.slice none 0 0]⟩,some ⟨.struct [(0,1,false),(1,1,false),(2,1,false),(3,1,false),(4,1,false),(5,1,false)],true,6,64,[.int .i64 0,.int .i64 0,.int .i64 0,.int .i64 0,.int .i64 0,.slice none 0 0]⟩,none,some ⟨.bas,false,1,8,[.nilFunc]⟩,some ⟨.bas,false,1,8,[.nilFunc]⟩,some ⟨.bas,false,1,8,[.nilFunc]⟩,some ⟨.bas,false,1,8,[.nilFunc]⟩,some ⟨.bas,false,1,8,[.nilFunc]⟩,none,some ⟨.bas,false,1,8,[.nilFunc]⟩,none,some ⟨.bas,false,1,8,[.nilFunc]⟩,some ⟨.bas,false,1,8,[.nilFunc]⟩,some ⟨.bas,false,1,8,[.nilFunc]⟩,some ⟨.bas,false,1,8,[.nilFunc]⟩,some ⟨.bas,false,1,8,[.nilFunc]⟩,some ⟨.struct [(0,1,false),(1,1,false),(2,1,false),(3,1,false)],true,4,32,[.int .i64 0,.int .i64 0,.int .i64 0,.int .i64 0]⟩,some ⟨.struct [(0,1,false),(1,1,false),(2,1,false),(3,1,false)],true,4,32,[.int .i64 0,.int .i64 0,.int .i64 0,.int .i64 0]⟩,some ⟨.struct [(0,1,false)],true,1,24,[.slice none 0 0]⟩,some ⟨.struct [(0,1,false)],true,1,24,[.slice none 0 0]⟩,some ⟨.bas,false,1,8,[.nilFunc]⟩,some ⟨.bas,false,1,8,[.nilFunc]⟩,some ⟨.bas,false,1,8,[.nilFunc]⟩,some ⟨.bas,false,1,8,[.nilFunc]⟩,some ⟨.bas,false,1,8,[.nilFunc]⟩,some ⟨.bas,false,1,8,[.nilFunc]⟩,some ⟨.slice 4,false,1,24,[.slice none 0 0]⟩,some ⟨.bas,false,1,8,[.nilFunc]⟩,some ⟨.bas,false,1,8,[.nilFunc]⟩,some ⟨.bas,false,1,8,[.nilFunc]⟩,none,some ⟨.bas,false,1,8,[.nilFunc]⟩,some ⟨.bas,false,1,8,[.nilFunc]⟩,some ⟨.struct [(0,1,false),(1,1,false),(2,1,false)],true,3,24,[.int .i64 0,.int .i64 0,.int .i64 0]⟩,some ⟨.struct [(0,1,false),(1,1,false),(2,1,false)],true,3,24,[.int .i64 0,.int .i64 0,.int .i64 0]⟩,some ⟨.bas,false,1,8,[.nilFunc]⟩,some ⟨.struct [(0,1,false),(1,1,false)],true,2,16,[.int .i64 0,.int .i64 0]⟩,some ⟨.struct [(0,1,false),(1,1,false)],true,2,16,[.int .i64 0,.int .i64 0]⟩,some ⟨.bas,false,1,8,[.nilFunc]⟩,some ⟨.bas,false,1,8,[.nilFunc]⟩,some ⟨.bas,false,1,8,[.nilFunc]⟩,some ⟨.bas,false,1,8,[.nilFunc]⟩,some ⟨.bas,false,1,8,[.nilFunc]⟩,some ⟨.bas,false,1,8,[.nilFunc]⟩,some ⟨.bas,false,1,8,[.nilFunc]⟩,some ⟨.bas,false,1,8,[.nilFunc]⟩,some ⟨.bas,false,1,8,[.nilFunc]⟩,some ⟨.bas,false,1,8,[.nilFunc]⟩,some ⟨.bas,false,1,8,[.nilFunc]⟩,some ⟨.bas,false,1,8,[.nilFunc]⟩,some ⟨.struct [(0,1,false),(1,1,false)],true,2,16,[.int .i64 0,.int .i64 0]⟩,some ⟨.struct [(0,1,false),(1,1,false)],true,2,16,[.int .i64 0,.int .i64 0]⟩,some ⟨.bas,false,1,8,[.nilFunc]⟩,some ⟨.bas,false,1,8,[.nilFunc]⟩,some ⟨.arr 2 3,true,2,16,[.int .i64 0,.int .i64 0]⟩,some ⟨.slice 310,false,1,24,[.slice none 0 0]⟩,some ⟨.bas,false,1,8,[.nilFunc]⟩,some ⟨.bas,false,1,8,[.nilFunc]⟩,some ⟨.bas,false,1,8,[.pointer none]⟩,some ⟨.bas,false,1,8,[.nilFunc]⟩,none,some ⟨.bas,false,1,8,[.nilFunc]⟩,some ⟨.bas,false,1,8,[.nilFunc]⟩,some ⟨.bas,false,1,8,[.nilFunc]⟩,some ⟨.bas,false,1,8,[.nilFunc]⟩,some ⟨.bas,false,1,8,[.nilFunc]⟩,some ⟨.bas,false,1,8,[.nilFunc]⟩,some ⟨.bas,false,1,8,[.nilFunc]⟩,some ⟨.bas,false,1,8,[.nilFunc]⟩,some ⟨.bas,false,1,8,[.nilFunc]⟩,none,some ⟨.bas,false,1,8,[.nilFunc]⟩,none,some ⟨.bas,false,1,8,[.nilFunc]⟩,some ⟨.bas,false,1,8,[.nilFunc]⟩,some ⟨.bas,false,1,8,[.nilFunc]⟩,some ⟨.bas,false,1,8,[.nilFunc]⟩,some ⟨.bas,false,1,8,[.nilFunc]⟩,some ⟨.bas,false,1,8,[.nilFunc]⟩,some ⟨.bas,false,1,8,[.pointer none]⟩,some ⟨.bas,false,1,8,[.nilFunc]⟩,none,none,none,some ⟨.bas,false,1,8,[.pointer none]⟩,some ⟨.bas,false,1,8,[.nilFunc]⟩,some ⟨.bas,false,1,8,[.nilFunc]⟩,some ⟨.bas,false,1,8,[.nilFunc]⟩,some ⟨.bas,false,1,8,[.nilFunc]⟩,some ⟨.bas,false,1,8,[.nilFunc]⟩,some ⟨.bas,false,1,8,[.nilFunc]⟩,some ⟨.bas,false,1,8,[.nilFunc]⟩,some ⟨.bas,false,1,8,[.nilFunc]⟩,some ⟨.bas,false,1,8,[.nilFunc]⟩,some ⟨.slice 405,false,1,24,[.slice none 0 0]⟩,some ⟨.bas,false,1,8,[.nilFunc]⟩,some ⟨.struct [(0,1,false),(1,1,false),(2,1,false)],true,3,56,[.int .i64 0,.slice none 0 0,.slice none 0 0]⟩,some ⟨.struct [(0,1,false),(1,1,false),(2,1,false)],true,3,56,[.int .i64 0,.slice none 0 0,.slice none 0 0]⟩,some ⟨.bas,false,1,8,[.nilFunc]⟩,some ⟨.bas,false,1,8,[.pointer none]⟩,some ⟨.bas,false,1,8,[.nilFunc]⟩,some ⟨.bas,false,1,8,[.nilFunc]⟩,some ⟨.bas,false,1,8,[.nilFunc]⟩,some ⟨.bas,false,1,8,[.nilFunc]⟩,some ⟨.bas,false,1,8,[.nilFunc]⟩,some ⟨.slice 367,false,1,24,[.slice none 0 0]⟩,some ⟨.slice 413,false,1,24,[.slice none 0 0]⟩,some ⟨.struct [(0,1,false),(1,1,false),(2,1,false),(3,1,false),(4,1,false),(5,1,false)],true,6,128,[.int .i64 0,.slice none 0 0,.slice none 0 0,.slice none 0 0,.slice none 0 0,.slice none 0 0]⟩,some ⟨.struct [(0,1,false),(1,1,false),(2,1,false),(3,1,false),(4,1,false),(5,1,false)],true,6,128,[.int .i64 0,.slice none 0 0,.slice none 0 0,.slice none 0 0,.slice none 0 0,.slice none 0 0]⟩,some ⟨.bas,false,1,8,[.nilFunc]⟩,some ⟨.struct [(0,4,false),(4,1,false)],true,5,88,[.int .i64 0,.slice none 0 0,.int .i64 0,.slice none 0 0,.slice none 0 0]⟩,some ⟨.struct [(0,4,false),(4,1,false)],true,5,88,[.int .i64 0,.slice none 0 0,.int .i64 0,.slice none 0 0,.slice none 0 0]⟩,some ⟨.bas,false,1,8,[.nilFunc]⟩,some ⟨.bas,false,1,8,[.nilFunc]⟩,some ⟨.bas,false,1,8,[.nilFunc]⟩,some ⟨.int .i64,false,1,8,[.int .i64 0]⟩,none,some ⟨.bas,false,1,8,[.nilFunc]⟩,some ⟨.bas,false,1,8,[.nilFunc]⟩,some ⟨.bas,false,1,8,[.nilFunc]⟩,some ⟨.bas,false,1,8,[.nilFunc]⟩,some ⟨.bas,false,1,8,[.nilFunc]⟩,some ⟨.int .u32,false,1,4,[.int .u32 0]⟩,some ⟨.bas,false,1,8,[.nilFunc]⟩,none,some ⟨.bas,false,1,8,[.nilFunc]⟩,some ⟨.bas,false,1,8,[.nilFunc]⟩,some ⟨.bas,false,1,8,[.nilFunc]⟩,some ⟨.bas,false,1,8,[.nilFunc]⟩,some ⟨.bas,false,1,8,[.nilFunc]⟩,some ⟨.bas,false,1,8,[.nilFunc]⟩,some ⟨.bas,false,1,8,[.nilFunc]⟩,some ⟨.bas,false,1,8,[.nilFunc]⟩,some ⟨.bas,false,1,8,[.nilFunc]⟩,some ⟨.bas,false,1,8,[.nilFunc]⟩,none,none,some ⟨.bas,false,1,8,[.nilFunc]⟩,some ⟨.bas,false,1,8,[.nilFunc]⟩,some ⟨.bas,false,1,8,[.nilFunc]⟩,some ⟨.struct [(0,1,false),(1,1,false)],true,2,16,[.int .i64 0,.int .i64 0]⟩,some ⟨.struct [(0,1,false),(1,1,false)],true,2,16,[.int .i64 0,.int .i64 0]⟩,some ⟨.bas,false,1,8,[.nilFunc]⟩,some ⟨.bas,false,1,8,[.nilFunc]⟩,some ⟨.bas,false,1,8,[.pointer none]⟩,none,some ⟨.bas,false,1,8,[.nilFunc]⟩,some ⟨.bas,false,1,8,[.nilFunc]⟩,some ⟨.struct [(0,1,false),(1,1,false),(2,1,false)],true,3,24,[.int .i64 0,.int .i64 0,.int .i64 0]⟩,some ⟨.struct [(0,1,false),(1,1,false),(2,1,false)],true,3,24,[.int .i64 0,.int .i64 0,.int .i64 0]⟩,some ⟨.bas,false,1,8,[.nilFunc]⟩,some ⟨.bas,false,1,8,[.nilFunc]⟩,some ⟨.bas,false,1,8,[.nilFunc]⟩,some ⟨.bas,false,1,8,[.nilFunc]⟩,some ⟨.bas,false,1,8,[.nilFunc]⟩,some ⟨.bas,false,1,8,[.nilFunc]⟩,some ⟨.struct [(0,1,false),(1,1,false)],true,2,16,[.int .i64 0,.bool false]⟩,some ⟨.struct [(0,1,false),(1,1,false)],true,2,16,[.int .i64 0,.bool false]⟩,some ⟨.bas,false,1,8,[.pointer none]⟩,some ⟨.bas,false,1,8,[.nilFunc]⟩,some ⟨.bas,false,1,8,[.nilFunc]⟩,some ⟨.int .u64,false,1,8,[.int .u64 0]⟩,some ⟨.bas,false,1,8,[.nilFunc]⟩,some ⟨.bas,false,1,8,[.nilFunc]⟩,some ⟨.bas,false,1,8,[.nilFunc]⟩,some ⟨.bas,false,1,8,[.pointer none]⟩,some ⟨.bas,false,1,8,[.nilFunc]⟩,some ⟨.bas,false,1,8,[.nilFunc]⟩,some ⟨.bas,false,1,8,[.nilFunc]⟩,some ⟨.bas,false,1,8,[.nilFunc]⟩,some ⟨.bas,false,1,8,[.nilFunc]⟩,some ⟨.struct [(0,1,false),(1,1,false),(2,1,false),(3,1,false),(4,1,false)],true,5,72,[.int .i64 0,.int .i64 0,.int .i64 0,.slice none 0 0,.slice none 0 0]⟩,some ⟨.struct [(0,1,false),(1,1,false),(2,1,false),(3,1,false),(4,1,false)],true,5,72,[.int .i64 0,.int .i64 0,.int .i64 0,.slice none 0 0,.slice none 0 0]⟩,some ⟨.bas,false,1,8,[.pointer none]⟩,some ⟨.bas,false,1,8,[.nilFunc]⟩,none,none,none,some ⟨.bas,false,1,8,[.nilFunc]⟩,some ⟨.bas,false,1,8,[.nilFunc]⟩,some ⟨.bas,false,1,8,[.nilFunc]⟩,some ⟨.bas,false,1,8,[.nilFunc]⟩,some ⟨.bas,false,1,8,[.pointer none]⟩,some ⟨.bas,false,1,8,[.nilFunc]⟩,some ⟨.bas,false,1,8,[.nilFunc]⟩,some ⟨.bas,false,1,8,[.nilFunc]⟩,some ⟨.bas,false,1,8,[.nilFunc]⟩,none,some ⟨.bas,false,1,8,[.nilFunc]⟩,some ⟨.bas,false,1,8,[.nilFunc]⟩,some ⟨.bas,false,1,8,[.nilFunc]⟩,some ⟨.struct [(0,1,false),(1,1,false)],true,2,16,[.int .i64 0,.int .i64 0]⟩,some ⟨.struct [(0,1,false),(1,1,false)],true,2,16,[.int .i64 0,.int .i64 0]⟩,some ⟨.bas,false,1,8,[.nilFunc]⟩,some ⟨.bas,false,1,8,[.nilFunc]⟩,some ⟨.bas,false,1,8,[.nilFunc]⟩,none,some ⟨.bas,false,1,8,[.nilFunc]⟩,none,some ⟨.bas,false,1,8,[.nilFunc]⟩,some ⟨.bas,false,1,8,[.nilFunc]⟩,some ⟨.bas,false,1,8,[.nilFunc]⟩,none,some ⟨.slice 461,false,1,24,[.slice none 0 0]⟩,some ⟨.bas,false,1,8,[.nilFunc]⟩,some ⟨.slice 463,false,1,24,[.slice none 0 0]⟩,some ⟨.struct [(0,1,false),(1,1,false)],true,2,16,[.int .i64 0,.int .i64 0]⟩,some ⟨.struct [(0,1,false),(1,1,false)],true,2,16,[.int .i64 0,.int .i64 0]⟩,some ⟨.bas,false,1,8,[.pointer none]⟩,some ⟨.slice 463,false,1,24,[.slice none 0 0]⟩,some ⟨.bas,false,1,8,[.nilFunc]⟩,none,some ⟨.bas,false,1,8,[.nilFunc]⟩,some ⟨.bas,false,1,8,[.nilFunc]⟩,none,none,some ⟨.bas,false,1,8,[.nilFunc]⟩,some ⟨.bas,false,1,8,[.nilFunc]⟩,some ⟨.bas,false,1,8,[.nilFunc]⟩,some ⟨.bas,false,1,8,[.nilFunc]⟩,some ⟨.bas,false,1,8,[.nilFunc]⟩,none,none,some ⟨.arr 0 16,true,0,0,[]⟩,some ⟨.struct [(0,0,false)],true,0,0,[]⟩,some ⟨.struct [(0,0,false)],true,0,0,[]⟩,some ⟨.int .u8,false,1,1,[.int .u8 0]⟩,some ⟨.int .u8,false,1,1,[.int .u8 0]⟩,some ⟨.bas,false,1,8,[.nilFunc]⟩,some ⟨.bas,false,1,8,[.pointer none]⟩,some ⟨.int .i32,false,1,4,[.int .i32 0]⟩,some ⟨.int .i32,false,1,4,[.int .i32 0]⟩,some ⟨.struct [(0,1,false),(1,1,false),(2,1,false),(3,1,false),(4,1,false),(5,1,false),(6,1,false),(7,1,false),(8,1,false),(9,1,false),(10,1,false)],true,11,48,[.int .u64 0,.int .u64 0,.int .u32 0,.int .u8 0,.int .u8 0,.int .u8 0,.int .u8 0,.nilFunc,.pointer none,.int .i32 0,.int .i32 0]⟩,some ⟨.struct [(0,1,false),(1,1,false),(2,1,false),(3,1,false),(4,1,false),(5,1,false),(6,1,false),(7,1,false),(8,1,false),(9,1,false),(10,1,false)],true,11,48,[.int .u64 0,.int .u64 0,.int .u32 0,.int .u8 0,.int .u8 0,.int .u8 0,.int .u8 0,.nilFunc,.pointer none,.int .i32 0,.int .i32 0]⟩,some ⟨.bas,false,1,8,[.nilFunc]⟩,none]
def tab:Tab:=fun t=>bf5.getD t none
theorem tq {P:Program} {t:TypeId} {d:TD} (h1:b8R P t=some d.k:=by kernel_rfl) (h2:d.agg=bd5 d.k:=by rfl) (h3:(P.info? t).map (fun i=>(i.zero.map (·.cells.toList),i.size,i.bytes))=some (some d.zero,d.size,d.bytes):=by kernel_rfl) (h4:d.zero.all (·.oneCell')=true:=by rfl) (h5:d.zero.length=d.size:=by rfl):av0 P t d:=bc4 h1 h2 h3 h4 h5
theorem c7:C0 Tryz.prog tab:=b60 (l:=bf5) (by kernel_rfl) ⟨tq,tq,tq,tq,tq,tq,tq,tq,tq,tq,tq,tq,tq,tq,tq,tq,tq,tq,tq,tq,tq,tq,tq,tq,tq,tq,tq,tq,tq,tq,tq,tq,tq,tq,tq,tq,tq,tq,tq,tq,tq,tq,tq,tq,tq,tq,tq,tq,tq,tq,tq,tq,tq,tq,tq,tq,tq,tq,tq,tq,tq,tq,tq,tq,tq,tq,tq,tq,tq,tq,tq,tq,tq,tq,tq,tq,tq,tq,tq,tq,tq,tq,tq,tq,tq,tq,tq,tq,tq,tq,tq,tq,tq,tq,tq,tq,tq,tq,tq,tq,tq,tq,tq,tq,tq,tq,tq,tq,tq,tq,tq,tq,tq,tq,tq,tq,tq,tq,tq,tq,tq,tq,tq,tq,tq,tq,tq,tq,tq,tq,tq,tq,tq,tq,tq,tq,tq,tq,tq,tq,tq,tq,tq,tq,tq,tq,tq,tq,tq,tq,tq,tq,tq,tq,tq,tq,tq,tq,tq,tq,tq,tq,tq,tq,tq,tq,tq,tq,tq,tq,tq,tq,tq,tq,tq,tq,tq,tq,tq,tq,tq,tq,tq,tq,tq,tq,tq,tq,tq,tq,tq,tq,tq,tq,tq,tq,tq,tq,tq,tq,tq,tq,tq,tq,tq,tq,tq,tq,tq,tq,tq,tq,tq,tq,tq,tq,tq,tq,tq,tq,tq,tq,tq,tq,tq,tq,tq,tq,tq,tq,tq,tq,tq,tq,tq,tq,tq,tq,tq,tq,tq,tq,tq,tq,tq,tq,tq,tq,tq,tq,tq,tq,tq,tq,tq,tq,tq,tq,tq,tq,tq,tq,tq,tq,tq,tq,tq,tq,tq,tq,tq,tq,tq,tq,tq,tq,tq,tq,tq,tq,tq,tq,tq,tq,tq,tq,tq,tq,tq,tq,tq,tq,tq,tq,tq,tq,tq,tq,tq,tq,tq,tq,tq,tq,tq,tq,tq,tq,tq,tq,tq,tq,tq,tq,tq,tq,tq,tq,tq,tq,tq,tq,tq,tq,tq,tq,tq,tq,tq,tq,tq,tq,tq,tq,tq,tq,tq,tq,tq,tq,tq,tq,tq,tq,tq,tq,tq,tq,tq,tq,tq,tq,tq,tq,tq,tq,tq,tq,tq,tq,tq,tq,tq,tq,tq,tq,tq,tq,tq,tq,tq,tq,tq,tq,tq,tq,tq,tq,tq,tq,tq,tq,tq,tq,tq,tq,tq,tq,tq,tq,tq,tq,tq,tq,tq,tq,tq,tq,tq,tq,tq,tq,tq,tq,tq,tq,tq,tq,tq,tq,tq,tq,tq,tq,tq,tq,tq,tq,tq,tq,tq,tq,tq,tq,tq,tq,tq,tq,tq,tq,tq,tq,tq,tq,tq,tq,trivial⟩
end
section
open Go.RowKit
structure G2 where
 kind:Int
 hh:Int
 mat:Int
structure j6 where
 day:Int
 src:Int
 dst:Int
 scale:Int
 reading:Int
 all:Bool
structure E6 where
 scale:Int
 since:Int
 till:Int
 grams:Int
 permille:Int
 drift:Int
structure w7 where
 scale:Int
 since:Int
structure s9 where
 move:Int
 mat:Int
 least:Int
 most:Int
structure Ev where
 mats:Int
 hhs:Int
 scs:Int
 places:List G2
 moves:List j6
 certs:List E6
 recalls:List w7
 purities:List s9
abbrev vi (n:Int):Value:=.int .i64 n
def G2.cells (p:G2):List Value:=[vi p.kind,vi p.hh,vi p.mat]
def j6.cells (m:j6):List Value:=[vi m.day,vi m.src,vi m.dst,vi m.scale,vi m.reading,.bool m.all]
def E6.cells (c:E6):List Value:=[vi c.scale,vi c.since,vi c.till,vi c.grams,vi c.permille,vi c.drift]
def w7.cells (r:w7):List Value:=[vi r.scale,vi r.since]
def s9.cells (p:s9):List Value:=[vi p.move,vi p.mat,vi p.least,vi p.most]
def Rd {α:Type} (k:Nat) (f:α->List Value) (w:World) (A:Option Addr) (n:Nat) (xs:List α):Prop:=
 n=xs.length∧(0<n->∃b off,A=some ⟨b,off,none⟩∧∀i x,xs[i]? =some x->∀j u,(f x)[j]? =some u->w.cell? ⟨b,off+(i*k+j),none⟩=some u)
section
variable {α:Type} {k:Nat} {f:α->List Value} {w w':World} {A:Option Addr} {n:Nat} {xs:List α}
theorem Rd.nil (A:Option Addr):Rd k f w A 0 ([]:List α):=⟨rfl,fun h=>absurd h (by omega)⟩
theorem Rd.len (h:Rd k f w A n xs):n=xs.length:=h.1
end
abbrev Ri (w:World) (A:Option Addr) (n:Nat) (xs:List Int):Prop:=Rd 1 (fun x:Int=>[vi x]) w A n xs
structure EvR (w:World) (m h s:Int) (A1:Option Addr) (n1:Nat) (A2:Option Addr) (n2:Nat) (A3:Option Addr) (n3:Nat) (A4:Option Addr) (n4:Nat) (A5:Option Addr) (n5:Nat) (e:Ev):Prop where
 em:m=e.mats
 eh:h=e.hhs
 es:s=e.scs
 r1:Rd 3 G2.cells w A1 n1 e.places
 r2:Rd 6 j6.cells w A2 n2 e.moves
 r3:Rd 6 E6.cells w A3 n3 e.certs
 r4:Rd 2 w7.cells w A4 n4 e.recalls
 r5:Rd 4 s9.cells w A5 n5 e.purities
section
variable {w w':World} {m h s:Int} {A1 A2 A3 A4 A5:Option Addr} {n1 n2 n3 n4 n5:Nat} {e:Ev}
end
end
section
def idx (a b:Int):Bool:=decide (0<=a) && decide (a<b)
def btw (n lo hi:Int):Bool:=decide (lo<=n) && decide (n<=hi)
theorem b6Z (a b:Int):btw a 0 (b - 1)=idx a b:=by
 unfold btw idx
 have:decide (a<=b - 1)=decide (a<b):=by simp;omega
 rw [this]
theorem a6O {a b:Int}:idx a b=true↔0<=a∧a<b:=by simp [idx]
theorem a2j {a b c:Int}:btw a b c=true↔b<=a∧a<=c:=by simp [btw]
def a9e (e:Ev):Bool:=
 decide (6<e.mats) || decide (100<e.hhs) || decide (30<e.scs) || decide (100<e.places.length) || decide (200<e.moves.length) ||
  decide (100<e.certs.length) || decide (30<e.recalls.length) || decide (200<e.purities.length)
def a2d (e:Ev) (p:G2):Bool:=
 idx p.kind 7 && (if p.kind=0 then idx p.hh e.hhs && idx p.mat e.mats else decide (p.hh=-1) && decide (p.mat=-1))
def F2 (e:Ev) (i:Int):Int:=((e.places[i.toNat]?).map (·.kind)).getD (-1)
def O0 (e:Ev) (m:j6):Bool:=
 idx m.src e.places.length && idx m.dst e.places.length && decide (m.src≠m.dst) && decide (F2 e m.src≠5) && decide (F2 e m.src≠6) &&
  !(decide (F2 e m.src=0) && m.all) && decide (F2 e m.dst≠0) && (if m.scale=-1 then decide (m.reading=0) else idx m.scale e.scs && btw m.reading 0 1099511627776)
def ab8 (e:Ev) (c:E6):Bool:=
 decide (0<=c.since) && decide (c.since<=c.till) && decide (c.till<=100000) && idx c.scale e.scs && btw c.grams 0 1099511627776 && btw c.permille 0 1000 && btw c.drift 0 10000000
def a4m (e:Ev) (r:w7):Bool:=idx r.scale e.scs && btw r.since 0 100000
def Y6 (e:Ev) (p:s9):Bool:=
 idx p.move e.moves.length && idx p.mat e.mats && decide (0<=p.least) && decide (p.least<=p.most) && decide (p.most<=1000)
def V4 (e:Ev):Bool:=e.certs.all (ab8 e) && e.recalls.all (a4m e) && e.purities.all (Y6 e)
def J1 (e:Ev):Int->List j6->Int
 |_,[]=>0
 |last,m::r=>if m.day<last∨100000<m.day then 17 else if O0 e m then J1 e m.day r else 1
def m8 (e:Ev):Int:=
 if a9e e then 6 else if e.mats<1∨e.hhs<0∨e.scs<0∨e.places.all (a2d e)=false then 1
 else if J1 e 0 e.moves≠0 then J1 e 0 e.moves else if V4 e then 0 else 1
theorem at7 {e:Ev} {i:Nat} {p:G2} (h:e.places[i]? =some p):F2 e (i:Int)=p.kind:=by
 simp [F2,h]
theorem al2 {e:Ev} {l:List j6}:∀{last:Int},J1 e last l=0->∀m ∈ l,O0 e m=true:=by
 induction l with
 |nil=>intro last _ m hm;cases hm
 |cons m r ih=>
  intro last h x hx
  unfold J1 at h
  split at h
  ·simp at h
  ·split at h
   ·rename_i hmk
    rcases lbA.1 hx with rfl|hx
    ·exact hmk
    ·exact ih h x hx
   ·simp at h
theorem V6 {e:Ev} (h:m8 e=0):a9e e=false∧1<=e.mats∧0<=e.hhs∧0<=e.scs∧e.places.all (a2d e)=true∧J1 e 0 e.moves=0∧V4 e=true:=by
 unfold m8 at h
 by_cases h1:a9e e=true
 ·rw [if_pos h1] at h;simp at h
 rw [if_neg h1] at h
 by_cases h2:e.mats<1∨e.hhs<0∨e.scs<0∨e.places.all (a2d e)=false
 ·rw [if_pos h2] at h;simp at h
 rw [if_neg h2] at h
 by_cases h3:J1 e 0 e.moves≠0
 ·rw [if_pos h3] at h;exact absurd h h3
 rw [if_neg h3] at h
 by_cases h4:V4 e=true
 ·refine ⟨by simpa using h1,by omega,by omega,by omega,?_,by simpa using h3,h4⟩
  rw [← Bool.not_eq_false]
  exact fun hq=>h2 (.inr (.inr (.inr hq)))
 ·rw [if_neg h4] at h;simp at h
theorem O2 {e:Ev} (h:m8 e=0) {m:j6} (hm:m ∈ e.moves):O0 e m=true:=al2 (V6 h).2.2.2.2.2.1 m hm
theorem a0i {e:Ev} {m:j6} (h:O0 e m=true):0<=m.src∧m.src<e.places.length:=by
 simp [O0] at h
 exact a6O.1 h.1.1.1.1.1.1.1
theorem a6p {e:Ev} {m:j6} (h:O0 e m=true):0<=m.dst∧m.dst<e.places.length:=by
 simp [O0] at h
 exact a6O.1 h.1.1.1.1.1.1.2
def C4 (e:Ev) (place:Int):Bool:=decide (m8 e=0) && idx place e.places.length && decide (F2 e place=0)
end
section
structure Ev.Sized (e:Ev):Prop where
 s1:e.places.length<=1000000
 s2:e.moves.length<=1000000
 s3:e.certs.length<=1000000
 s4:e.recalls.length<=1000000
 s5:e.purities.length<=1000000
end
section
open Go.RowKit
abbrev ti (n:Int):T:=.atm (.int .i64 n)
abbrev tb (b:Bool):T:=.atm (.bool b)
def G2.row (p:G2):List T:=[ti p.kind,ti p.hh,ti p.mat]
def j6.row (m:j6):List T:=[ti m.day,ti m.src,ti m.dst,ti m.scale,ti m.reading,tb m.all]
def E6.row (c:E6):List T:=[ti c.scale,ti c.since,ti c.till,ti c.grams,ti c.permille,ti c.drift]
def w7.row (r:w7):List T:=[ti r.scale,ti r.since]
def s9.row (p:s9):List T:=[ti p.move,ti p.mat,ti p.least,ti p.most]
def e8 (n:Int):List T:=[ti n]
abbrev a2r (l:List G2):T:=.sl 3 .any (l.map G2.row)
abbrev Q7 (l:List j6):T:=.sl 6 .any (l.map j6.row)
abbrev a0W (l:List E6):T:=.sl 6 .any (l.map E6.row)
abbrev N4 (l:List w7):T:=.sl 2 .any (l.map w7.row)
abbrev P4 (l:List s9):T:=.sl 4 .any (l.map s9.row)
abbrev N3 (l:List Int):T:=.sl 1 .any (l.map e8)
def evC (e:Ev):List C:=[.t (ti e.mats),.t (ti e.hhs),.t (ti e.scs),.t (a2r e.places),.t (Q7 e.moves),.t (a0W e.certs),.t (N4 e.recalls),.t (P4 e.purities)]
def evT (e:Ev):List T:=[ti e.mats,ti e.hhs,ti e.scs,a2r e.places,Q7 e.moves,a0W e.certs,N4 e.recalls,P4 e.purities]
abbrev evS (e:Ev):S:=.agg (evC e)
abbrev g8 (l:List Int):S:=.c (.t (N3 l))
def G2.cs (p:G2):List C:=p.row.map .t
def j6.cs (m:j6):List C:=m.row.map .t
abbrev aj1 (m:j6):S:=.agg m.cs
abbrev evB (e:Ev):Blk:=J8 28 8 [evC e] true
theorem c9 {a b:Bool} {H1:Hp} (h:a=b):Fin 0 (f7 a) H1 (f7 b) []:=j3 (by subst h;exact rfl)
theorem v8 {a b:Int} {k:IntKind} {H1:Hp} (h:a=b):Fin 0 (a8 k a) H1 (a8 k b) []:=j3 (by subst h;exact rfl)
theorem i5 {x y:T} {ρ:List (Option Nat)} {H:Hp} (h:x=y):a5G ρ H (.c (.t x)) (.c (.t y)):=b0P h
theorem c6 {a b:Int} {k:IntKind} {ρ:List (Option Nat)} {H:Hp} (h:a=b):a5G ρ H (a8 k a) (a8 k b):=by subst h;exact rfl
theorem T5 (e:Ev):E5 [evC e]:=by simp [E5,evC,C.isT]
theorem b1y {H:Hp} {p:Nat->Prop} (e:Ev):VS H p (evS e) (evS e):=ad8 (evT e)
end
section
def bf9 (xs ys:List Int) (k:Nat):Prop:=xs.take k=ys.take k
end
end Go.Proofs.YtaejgdbahjjncaaGreat
