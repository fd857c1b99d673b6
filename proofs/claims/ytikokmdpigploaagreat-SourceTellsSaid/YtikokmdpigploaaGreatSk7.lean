/- Part 7. -/
import Derived.Test.YtikokmdpigploaaGreatSk6
namespace Go.Proofs.YtikokmdpigploaaGreat
set_option linter.all false
set_option maxRecDepth 100000
set_option maxHeartbeats 8000000
open Go.RowKit
open St1 St2 St3 St4 St5 St6 St7 St8 StA StB StC
def a3U {c:L8} {day:Int} (h:K6 c day=true):0<=c.since∧c.since<=day∧day<=c.till∧c.till<=100000∧0<=c.grams∧c.grams<=1099511627776∧0<=c.permille∧c.permille<=1000∧0<=c.drift∧c.drift<=10000000:=by
 unfold K6 Q3 btw at h;simp only [lbM,lbH] at h;omega
abbrev C6:Fr:=⟨⟨0,[]⟩,⟨0,[]⟩⟩
def b5R {f f':Fr} {b b':Bool} {H1:Hp} (h:f=f') (h2:b=b'):Fin 0 (.tup [frS f,i9 b]) H1 (.tup [frS f',i9 b']) []:=by
 subst h h2;exact m9 rz
structure b75 (c:L8) (reading day:Int):Prop where
 p0:0<=c.permille*reading
 p1:c.permille*reading<=1000*1099511627776
 d0:0<=c.drift*(day - c.since)
 d1:c.drift*(day - c.since)<=10000000*100000
def b75.of {c:L8} {reading day:Int} (h:K6 c day=true) (hr:btw reading 0 1099511627776=true):b75 c reading day:=by
 have hc:=a3U h;rw [W8] at hr;exact ⟨lbZ om om,a4y om om om om,lbZ om om,a4y om om om om⟩
def b0D {c:L8} {reading day:Int} (h:K6 c day=true) (hr:btw reading 0 1099511627776=true):rl (a2u c reading day)<=9:=by
 have i:=b75.of h hr;have hc:=a3U h;obtain ⟨p0,p1,d0,d1⟩:=i;unfold a2u;have h1:=a0O (Rat.divInt (c.permille*reading) 1000) ((c.grams+c.drift*(day - c.since):Int):Rat);have h2:rl (Rat.divInt (c.permille*reading) 1000)<=4:=lbR (S7 de) (by have:=P7 (x:=c.permille*reading) om om;have:=P7 (x:=1000) de de;omega);have h3:rl ((c.grams+c.drift*(day - c.since):Int):Rat)<=4:=by rw [U9];have:=P7 (x:=c.grams+c.drift*(day - c.since)) om om;omega
 omega
def b7M (c:L8) (reading day:Int) (h:K6 c day=true):ec 257 [aR3 c,eI reading,eI day] []
 (.tup [frS (if btw reading 0 1099511627776 then fz (a2u c reading day) else C6),i9 (btw reading 0 1099511627776)]) []:=by
 have cv:=aS8 c day;have wi:=a5s reading 1099511627776;rw [h] at cv;have hc:=a3U h;cases hr:btw reading 0 1099511627776 with
 |false=>
  rw [hr] at wi;refine ac Tryz.func257 ?_;conv=>whnf
  repeat' (first|refine zx ?_|apply zD<;>intro h<;>try omega)<;>conv=>whnf
  all_goals first
   |(exfalso;simp_all;done)
   |exact m9 rz
 |true=>
  rw [hr] at wi;obtain ⟨p0,p1,d0,d1⟩:=b75.of h hr;rw [W8] at hr;have fo:=bt4 (c.permille*reading) 1000 de om om de de;have fi:=O7 (c.grams+c.drift*(day - c.since)) om om;have h2:rl (Rat.divInt (c.permille*reading) 1000)<=4:=lbR (S7 de) (by have:=P7 (x:=c.permille*reading) om om;have:=P7 (x:=1000) de de;omega);have h3:rl ((c.grams+c.drift*(day - c.since):Int):Rat)<=4:=by rw [U9];have:=P7 (x:=c.grams+c.drift*(day - c.since)) om om;omega
  have ad:=a60 (Rat.divInt (c.permille*reading) 1000) ((c.grams+c.drift*(day - c.since):Int):Rat) om om;refine ac Tryz.func257 ?_;conv=>whnf
  repeat' (first|refine zx ?_|refine bl0 [7] ?_|refine bl0 [15] ?_|apply zD<;>intro h<;>try omega)<;>conv=>whnf
  all_goals first|(exfalso;simp_all;done)|exact b5R rfl rfl
abbrev ivL (o:Option (Rat × Rat)):List S:=match o with
 |some (lo,hi)=>[frS (fz lo),frS (fz hi),i9 true]
 |none=>[frS C6,frS C6,i9 false]
def b8f {x y:Rat} {n:Nat} (h1:rl x<=n) (h2:rl y<=n):rl (aC6 x y)<=n:=by unfold aC6;split<;>assumption
def aR7 {cs:List L8} {rs:List E9} {scale reading day:Int} {lo hi:Rat} (h:L4 cs rs scale reading day=some (lo,hi)):rl lo<=20∧rl hi<=20:=by
 unfold L4 at h;split at h
 ·cases h
 ·rename_i i hi;obtain ⟨hb,c,hc,_,hcv⟩:=N5 hi;have e:a1m cs i=c:=by unfold a1m;rw [hc];rfl
  rw [e] at h;split at h
  ·cases h
  ·split at h
   ·rename_i hr;injection h with h;injection h with h1 h2;have l1:=b0D hcv hr;rw [W8] at hr;have l2:rl (reading:Rat)<=4:=by rw [U9];have:=P7 (x:=reading) om om;omega
    have l3:=a0O (reading:Rat) (a2u c reading day);have l4:=aI7 (reading:Rat) (a2u c reading day);refine ⟨?_,by rw [← h2];omega⟩;rw [← h1];exact b8f om (by rw [b24];omega)
   ·cases h
def b1u (cs:List L8) (rs:List E9) (hl:cs.length<=1000000) (hl2:rs.length<=1000000) (scale reading day:Int):
 ec 184 [.c (.t (a0G cs)),.c (.t (N6 rs)),eI scale,eI reading,eI day] [] (.tup (ivL (L4 cs rs scale reading day))) []:=by
 have f:=bc7 cs scale day hl;have r:=b1h rs hl2 scale day;unfold L4;cases hf:C9 cs scale day cs.length with
 |none=>
  rw [hf] at f;refine ac Tryz.func184 ?_;conv=>whnf
  repeat' (first|refine zx ?_|refine bl0 [1] ?_|refine bl0 [6] ?_|apply zD<;>intro<;>try omega)<;>conv=>whnf
  all_goals first
   |(exfalso;simp_all;done)
   |exact m9 rz
 |some i=>
  rw [hf] at f;obtain ⟨hb,c,hc,_,hcv⟩:=N5 hf;have e:a1m cs i=c:=by unfold a1m;rw [hc];rfl
  have er:=b7M c reading day hcv;simp only [e];cases hrec:a1P rs scale day with
  |true=>
   rw [hrec] at r;refine ac Tryz.func184 ?_;conv=>whnf
   repeat' (first|refine zx ?_|refine bl0 [1] ?_|refine bl0 [6] ?_|apply zD<;>intro<;>try omega)<;>conv=>whnf
   all_goals first
    |(exfalso;simp_all;done)
    |exact m9 rz
  |false=>
   rw [hrec] at r;cases hr:btw reading 0 1099511627776 with
   |false=>
    rw [hr] at er;refine ac Tryz.func184 ?_;conv=>whnf
    repeat' (first|refine zx ?_|refine i6 hc ?_|refine bl0 [1] ?_|refine bl0 [9] ?_|apply zD<;>intro<;>try omega)<;>conv=>whnf
    all_goals first
     |exact m9 rz
     |(exfalso;simp_all;done)
   |true=>
    have l1:=b0D hcv hr;rw [hr] at er;rw [W8] at hr;have l2:rl (reading:Rat)<=4:=by rw [U9];have:=P7 (x:=reading) om om;omega
    have fi:=O7 reading om om;have f0:=O7 0 om om;have sb:=b6M (reading:Rat) (a2u c reading day) om om;have ad:=a60 (reading:Rat) (a2u c reading day) om om;have l4:=aI7 (reading:Rat) (a2u c reading day);have mx:=bc6 ((reading:Rat) - a2u c reading day) ((0:Int):Rat) om (by rw [b24];omega);refine ac Tryz.func184 ?_;conv=>whnf
    repeat' (first|refine zx ?_|refine i6 hc ?_|refine bl0 [1] ?_|refine bl0 [9] ?_|refine bl0 [5] ?_|apply zD<;>intro<;>try omega)<;>conv=>whnf
    all_goals first|exact m9 rz|(exfalso;simp_all;done)
def o4 (f:Fr):List T:=[ti f.p.sg,x6 f.p.dl,ti f.q.sg,x6 f.q.dl]
abbrev O8 (l:List Fr):T:=.sl 4 .any (l.map o4)
abbrev n6 (l:List Fr):S:=.c (.t (O8 l))
def W0 (l:List Rat) {k:Nat} {x:Rat} (h:l[k]? =some x):(l.map fz)[k]? =some (fz x):=by rw [lba,h];rfl
def aV4 {f f':Fr} {H1:Hp} (h:f=f'):Fin 0 (frS f) H1 (frS f') []:=by subst h;exact m9 rz
abbrev frB (f:Fr):Blk:={ mode:=.live,elem:=86,size:=4,rows:=[frC f],box:=true }
def y3 (f:Fr):I5 [frC f]:=by
 intro r hr c hc;simp at hr;subst hr;simp [frC] at hc;rcases hc with rfl|rfl|rfl|rfl<;>rfl
def b2h {x:Rat}:sgR x<0↔x<0:=by unfold sgR;split<;>(try split)<;>simp_all
def b90 {x y:Rat}:a1p x y<=0↔x<=y:=by
 unfold a1p;split
 ·simp;grind
 ·split
  ·simp;grind
  ·simp;grind
def a1b {x y:Rat}:a1p x y > 0↔y<x:=by
 have:=b90 (x:=x) (y:=y);constructor
 ·intro h;have h2:¬x<=y:=fun h'=>by have:=this.2 h';omega
  grind
 ·intro h;have h2:¬a1p x y<=0:=fun h'=>by have:=this.1 h';grind
  omega
def k8 (f:Nat->Rat):Nat->Rat
 |0=>((0:Int):Rat)
 |n+1=>k8 f n+f n
def Z0:((0:Int):Rat)=0:=rfl
def k5 {f g:Nat->Rat}:∀{n:Nat},(∀ m,m<n->f m=g m)->k8 f n=k8 g n
 |0,_=>rfl
 |n+1,h=>by simp only [k8];rw [k5 fun m hm=>h m om,h n om]
def getD_some {l:List Rat} {m:Nat} (h:m<l.length):l[m]? =some (l.getD m 0):=by rw [lbl,lbf h];rfl
def a8z {α:Type} {p:Nat->α->Bool} {l:List α}:∀{k:Nat} {x:Int},x ∈ w5 p k l↔∃i m,l[i]? =some m∧p (k+i) m=true∧x=((k+i:Nat):Int):=by
 induction l with
 |nil=>intro k x;simp [w5]
 |cons a r ih=>
  intro k x;have step:x ∈ w5 p (k+1) r↔∃i m,(a::r)[i+1]? =some m∧p (k+(i+1)) m=true∧x=((k+(i+1):Nat):Int):=by
   rw [ih];constructor
   ·rintro ⟨i,m,h1,h2,h3⟩;exact ⟨i,m,by simpa using h1,by rw [show k+(i+1)=k+1+i from by omega];exact h2,by rw [h3];omega⟩
   ·rintro ⟨i,m,h1,h2,h3⟩;exact ⟨i,m,by simpa using h1,by rw [show k+1+i=k+(i+1) from by omega];exact h2,by rw [h3];omega⟩
  unfold w5;by_cases hp:p k a=true
  ·rw [if_pos hp,lbz,step];constructor
   ·rintro (rfl|⟨i,m,h⟩)
    ·exact ⟨0,a,rfl,hp,rfl⟩
    ·exact ⟨i+1,m,h⟩
   ·rintro ⟨i,m,h1,h2,h3⟩;cases i with
    |zero=>left;simpa using h3
    |succ i=>right;exact ⟨i,m,h1,h2,h3⟩
  ·rw [if_neg hp,step];constructor
   ·rintro ⟨i,m,h⟩;exact ⟨i+1,m,h⟩
   ·rintro ⟨i,m,h1,h2,h3⟩;cases i with
    |zero=>simp at h1;subst h1;exact absurd h2 hp
    |succ i=>exact ⟨i,m,h1,h2,h3⟩
def ac2 {α:Type} (p:Nat->α->Bool) (l:List α):∀k,(w5 p k l).Pairwise (·<·):=by
 induction l with
 |nil=>intro k;simp [w5]
 |cons a r ih=>
  intro k;unfold w5;split
  ·rw [List.pairwise_cons];refine ⟨fun x hx=>?_,ih (k+1)⟩;obtain ⟨i,m,_,_,rfl⟩:=a8z.1 hx;omega
  ·exact ih (k+1)
def Asc (l:LI) (n:Int):Prop:=(∀ (i:Nat) (x:Int),l[i]? =some x->0<=x∧x<n)∧∀(i:Nat) (x y:Int),l[i]? =some x->l[i+1]? =some y->x<y
def Asc.of_sorted {l:LI} {n:Int} (h1:l.Pairwise (·<·)) (h2:∀x ∈ l,0<=x∧x<n):Asc l n:=by
 refine ⟨fun i x hx=>h2 x (lbm hx),fun i x y hx hy=>?_⟩;obtain ⟨hi,rfl⟩:=lbe.1 hx;obtain ⟨hj,rfl⟩:=lbe.1 hy;exact List.pairwise_iff_getElem.1 h1 i (i+1) hi hj om
def aH7 {α:Type} (p:Nat->α->Bool) (l:List α):Asc (w5 p 0 l) l.length:=by
 refine Asc.of_sorted (ac2 p l 0) (fun x hx=>?_);obtain ⟨i,m,hm,_,rfl⟩:=a8z.1 hx;have:=(lbe.1 hm).1;omega
def b8d (n:Int):Asc [] n:=⟨fun i x h=>by simp at h,fun i x y h=>by simp at h⟩
def b3J (e:Ev) (hh mat lo hi:Int):Asc (E7 e hh mat lo hi) e.moves.length:=by
 unfold E7;split
 ·exact aH7 _ _
 ·exact b8d _
def b7b {e:Ev} {G:List (List Rat)} {k:Nat} {x:A8} (hx:e.moves[k]? =some x):stk e G (k+1)=b17 x (hAt G k) (stk e G k):=by
 conv=>lhs;unfold stk
 rw [hx]
def b7E {e:Ev} {G:List (List Rat)} {k:Nat} (hx:e.moves[k]? =none):stk e G (k+1)=stk e G k:=by
 conv=>lhs;unfold stk
 rw [hx]
def b0Y {e:Ev} {x:A8} (h:R5 e x=true) (ha:x.all=true):K4 e x.src≠0:=by
 unfold R5 at h;simp only [lbM,lbH] at h;have:=h.1.1.2;rw [ha] at this;simpa using this
def N1 (e:Ev) (x:A8):Option (Rat × Rat):=if x.scale=-1 then none else L4 e.certs e.recalls x.scale x.reading x.day
structure Z9 where
 mv:Int
 kind:Int
 grams:Int
structure P1 where
 mv:Int
 kind:Int
structure n7 where
 ev:Ev
 finds:List Z9
 cleans:List P1
def a1v (e:Ev) (mv kind:Int):Int:=if mv<0∨(e.moves.length:Int)<=mv then 4 else if kind<0∨8<=kind then 1 else 0
def O2 (e:Ev):List Z9->Int
 |[]=>0
 |f::r=>if a1v e f.mv f.kind≠0 then a1v e f.mv f.kind else if f.grams<1∨1099511627776<f.grams then 3 else O2 e r
def P4 (e:Ev):List P1->Int
 |[]=>0
 |c::r=>if a1v e c.mv c.kind≠0 then a1v e c.mv c.kind else P4 e r
def p6 (t:n7):Int:=
 if E6 t.ev≠0 then E6 t.ev else if 20<t.finds.length∨50<t.cleans.length then 6
 else if O2 t.ev t.finds≠0 then O2 t.ev t.finds else P4 t.ev t.cleans
def t6 (l:List Z9) (kind:Int) (i:Nat):LI:=(l.filter fun f=>decide (f.kind=kind) && decide (f.mv=(i:Int))).map (·.grams)
def z9 (l:List P1) (kind:Int) (i:Nat):Nat:=(l.filter fun c=>decide (c.kind=kind) && decide (c.mv=(i:Int))).length
def col (z:List Rat):List (List Rat):=z.map fun v=>[v]
def b84 (z:List Rat) (k:Nat):hAt (col z) k 0=z.getD k 0:=by
 unfold hAt col;cases h:z[k]?<;>simp [lbl,h]
def a4B (e:Ev) (z:List Rat) (k p:Nat):Rat:=stk e (col z) k p 0
def bi2 (iv:Option (Rat × Rat)) (v:Rat):Bool:=match iv with
 |none=>true
 |some (_,hi)=>decide (v<=hi)
structure bp0 (e:Ev) (x:A8) (v f:Rat):Prop where
 pos:0<=v
 most:K4 e x.src≠0->v<=f
 all:x.all=true->v=f
structure b7q (t:n7) (kind:Int) (i:Nat) (x:A8) (v:Rat):Prop where
 cap:bi2 (N1 t.ev x) v=true
 fin:∀g ∈ t6 t.finds kind i,(g:Rat)<=v
 cln:0<z9 t.cleans kind i->v=0
structure bp9 (t:n7) (kind:Int) (z:List Rat):Prop where
 tr:p6 t=0
 k0:0<=kind
 k1:kind<8
 len:z.length=t.ev.moves.length
 step:∀i x,t.ev.moves[i]? =some x->bp0 t.ev x (z.getD i 0) (a4B t.ev z i x.src.toNat)∧b7q t kind i x (z.getD i 0)
def a4g (z:List Rat):(z.map fz).map fv=z:=by
 rw [a55];conv=>rhs;rw [← List.map_id z]
 exact lbp fun x _=>bs3 x
def G3 {t:n7} (h:p6 t=0):E6 t.ev=0∧t.finds.length<=20∧t.cleans.length<=50∧O2 t.ev t.finds=0∧P4 t.ev t.cleans=0:=by
 unfold p6 at h;by_cases h1:E6 t.ev≠0
 ·rw [if_pos h1] at h;exact absurd h h1
 rw [if_neg h1] at h;by_cases h2:20<t.finds.length∨50<t.cleans.length
 ·rw [if_pos h2] at h;cases h
 rw [if_neg h2] at h;by_cases h3:O2 t.ev t.finds≠0
 ·rw [if_pos h3] at h;exact absurd h h3
 rw [if_neg h3] at h;exact ⟨by simpa using h1,om,om,by simpa using h3,h⟩
def b3n {t:n7} (h1:E6 t.ev=0) (h2:t.finds.length<=20) (h3:t.cleans.length<=50) (h4:O2 t.ev t.finds=0) (h5:P4 t.ev t.cleans=0):p6 t=0:=by
 unfold p6;rw [if_neg (by simp [h1]),if_neg om,if_neg (by simp [h4]),h5]
def Z8 {e:Ev}:∀{l:List Z9},O2 e l=0->∀f ∈ l,0<=f.mv∧f.mv<e.moves.length∧0<=f.kind∧f.kind<8∧1<=f.grams∧f.grams<=1099511627776
 |[],_,f,hf=>by cases hf
 |g::r,h,f,hf=>by
  unfold O2 at h;by_cases h1:a1v e g.mv g.kind≠0
  ·rw [if_pos h1] at h;exact absurd h h1
  rw [if_neg h1] at h;by_cases h2:g.grams<1∨1099511627776<g.grams
  ·rw [if_pos h2] at h;cases h
  rw [if_neg h2] at h;rcases lbz.1 hf with rfl|hf
  ·unfold a1v at h1;by_cases h3:f.mv<0∨(e.moves.length:Int)<=f.mv
   ·rw [if_pos h3] at h1;exact absurd de h1
   rw [if_neg h3] at h1;by_cases h4:f.kind<0∨8<=f.kind
   ·rw [if_pos h4] at h1;exact absurd de h1
   omega
  ·exact Z8 h f hf
def a7y (l:List Z9) (f:Z9) (kind:Int) (i:Nat):t6 (l++[f]) kind i=t6 l kind i++(if f.kind=kind∧f.mv=(i:Int) then [f.grams] else []):=by
 unfold t6;rw [lb7,lbB];by_cases h:f.kind=kind∧f.mv=(i:Int)
 ·rw [if_pos h];simp [h.1,h.2]
 ·rw [if_neg h];have:(decide (f.kind=kind) && decide (f.mv=(i:Int)))=false:=by
   rw [← lbP];simp only [lbM,lbH];exact h
  simp [this]
def a0Z (l:List P1) (c:P1) (kind:Int) (i:Nat):z9 (l++[c]) kind i=z9 l kind i+(if c.kind=kind∧c.mv=(i:Int) then 1 else 0):=by
 unfold z9;rw [lb7,lbq];by_cases h:c.kind=kind∧c.mv=(i:Int)
 ·rw [if_pos h];simp [h.1,h.2]
 ·rw [if_neg h];have:(decide (c.kind=kind) && decide (c.mv=(i:Int)))=false:=by
   rw [← lbP];simp only [lbM,lbH];exact h
  simp [this]
def a12 (t:n7):n7:={ t with finds:=[] }
def b3V {t:n7} (h:p6 t=0):p6 (a12 t)=0:=by
 obtain ⟨q1,q2,q3,q4,q5⟩:=G3 h;exact b3n q1 (by simp [a12]) q3 rfl q5
def b3x {e:Ev} {z:List Rat} {k:Nat} {x:A8} (hx:e.moves[k]? =some x) (p:Nat):a4B e z (k+1) p=if x.src=(p:Int) then a4B e z k p - z.getD k 0 else if x.dst=(p:Int) then a4B e z k p+z.getD k 0 else a4B e z k p:=by
 unfold a4B;rw [b7b hx];unfold b17;rw [b84]
def b6p {e:Ev} {z:List Rat} {k:Nat} (hx:e.moves[k]? =none) (p:Nat):a4B e z (k+1) p=a4B e z k p:=by
 unfold a4B;rw [b7E hx]
def ai3 {f:Nat->Rat}:∀{n:Nat},(∀ p,p<n->0<=f p)->0<=k8 f n
 |0,_=>lb2
 |n+1,h=>by
  have h1:=ai3 (n:=n) fun p hp=>h p om
  have h2:=h n om;simp only [k8];grind
structure x4 where
 terms:List (Int × Rat)
 kind:Int
 value:Rat
structure i8 where
 n:Int
 rows:List x4
def m7 (l:List (Int × Rat)) (z:List Rat):Rat:=l.foldl (fun a t=>a+t.2*z.getD t.1.toNat 0) ((0:Int):Rat)
def I6 (l:List (Int × Rat)) (t:Int × Rat) (z:List Rat):m7 (l++[t]) z=m7 l z+t.2*z.getD t.1.toNat 0:=by unfold m7;rw [List.foldl_append];rfl
def j2:Int->Int->List (Int × Rat)->Bool
 |_,_,[]=>true
 |last,n,t::r=>decide (last<t.1) && decide (t.1<n) && decide (t.2≠0) && j2 t.1 n r
def u4 (n:Int) (w:x4):Bool:=j2 (-1) n w.terms && decide (0<=w.kind) && decide (w.kind<3)
def j6 (s:i8):Bool:=decide (0<=s.n) && decide (s.n<=1500) && decide (s.rows.length<=6000) && s.rows.all (u4 s.n)
def S2 (w:x4) (z:List Rat):Bool:=!((decide (m7 w.terms z<w.value) && decide (w.kind≠1)) || (decide (w.value<m7 w.terms z) && decide (w.kind≠0)))
def j8 (s:i8) (z:List Rat):Bool:=j6 s && decide ((z.length:Int)=s.n) && z.all (fun v=>decide (0<=v)) && s.rows.all (fun w=>S2 w z)
def n9 (e:Ev) (p:Int):Nat->List (Int × Rat)
 |0=>[]
 |k+1=>match e.moves[k]? with
  |none=>n9 e p k
  |some y=>if y.dst=p then n9 e p k++[((k:Int),((1:Int):Rat))] else if y.src=p then n9 e p k++[((k:Int),((-1:Int):Rat))] else n9 e p k
def x3 (e:Ev) (i:Nat) (x:A8):x4:=⟨n9 e x.src i++[((i:Int),((-1:Int):Rat))],if x.all then 2 else 0,((0:Int):Rat)⟩
def A9 (i:Nat) (kind:Int) (v:Rat):x4:=⟨[((i:Int),((1:Int):Rat))],kind,v⟩
def W6 (iv:Option (Rat × Rat)) (i:Nat):List x4:=match iv with
 |none=>[]
 |some (_,hi)=>[A9 i 1 hi]
def J7 (t:n7) (kind:Int) (i:Nat) (x:A8):List x4:=
 (if K4 t.ev x.src=0 then [] else [x3 t.ev i x])++W6 (N1 t.ev x) i++(t6 t.finds kind i).map (fun g:Int=>A9 i 0 (g:Rat))++List.replicate (z9 t.cleans kind i) (A9 i 2 ((0:Int):Rat))
def s7 (t:n7) (kind:Int):Nat->List x4
 |0=>[]
 |k+1=>match t.ev.moves[k]? with
  |none=>s7 t kind k
  |some x=>s7 t kind k++J7 t kind k x
def j1 (t:n7) (kind:Int):i8:=⟨t.ev.moves.length,s7 t kind t.ev.moves.length⟩
def ai4 {e:Ev} (h0:E6 e=0) (z:List Rat) (p:Nat):∀k,m7 (n9 e p k) z=a4B e z k p
 |0=>rfl
 |k+1=>by
  have ih:=ai4 h0 z p k;unfold n9;cases hx:e.moves[k]? with
  |none=>rw [b6p hx];exact ih
  |some y=>
   have hm:=V9 h0 (lbm hx);have hne:y.src≠y.dst:=by unfold R5 at hm;simp only [lbM,lbH] at hm;exact hm.1.1.1.1.1.2
   rw [b3x hx];simp only;by_cases c1:y.dst=(p:Int)
   ·rw [if_pos c1,if_neg om,if_pos c1,I6,ih];simp only [lbX];have:((1:Int):Rat)=1:=rfl;rw [this];grind
   ·rw [if_neg c1];by_cases c2:y.src=(p:Int)
    ·rw [if_pos c2,if_pos c2,I6,ih];simp only [lbX];have:((-1:Int):Rat)=-1:=rfl;rw [this];grind
    ·rw [if_neg c2,if_neg c2,if_neg c1];exact ih
def a1J {w:x4} {z:List Rat}:S2 w z=true↔(m7 w.terms z<w.value->w.kind=1)∧(w.value<m7 w.terms z->w.kind=0):=by
 unfold S2;simp only [ar0,a4W,lbO,lbJ,Classical.not_not];constructor
 ·rintro ⟨h1,h2⟩;exact ⟨fun h=>h1.resolve_left (fun h'=>h' h),fun h=>h2.resolve_left (fun h'=>h' h)⟩
 ·rintro ⟨h1,h2⟩;refine ⟨?_,?_⟩
  ·by_cases h:m7 w.terms z<w.value
   ·exact .inr (h1 h)
   ·exact .inl h
  ·by_cases h:w.value<m7 w.terms z
   ·exact .inr (h2 h)
   ·exact .inl h
def aL1 (i:Nat) (kind:Int) (v:Rat) (z:List Rat):m7 (A9 i kind v).terms z=z.getD i 0:=by
 show ((0:Int):Rat)+((1:Int):Rat)*z.getD ((i:Int)).toNat 0=_;rw [lbX];have h0:((0:Int):Rat)=0:=rfl;have h1:((1:Int):Rat)=1:=rfl;rw [h0,h1];grind
def b4y {i:Nat} {v:Rat} {z:List Rat}:S2 (A9 i 1 v) z=true↔z.getD i 0<=v:=by
 rw [a1J,aL1];show (_->(1:Int)=1)∧(v<z.getD i 0->(1:Int)=0)↔_;constructor
 ·rintro ⟨_,h⟩;exact lb3.1 fun h'=>absurd (h h') de
 ·intro h;exact ⟨fun _=>rfl,fun h'=>absurd h' (lb3.2 h)⟩
def az3 {i:Nat} {v:Rat} {z:List Rat}:S2 (A9 i 0 v) z=true↔v<=z.getD i 0:=by
 rw [a1J,aL1];show (z.getD i 0<v->(0:Int)=1)∧(_->(0:Int)=0)↔_;constructor
 ·rintro ⟨h,_⟩;exact lb3.1 fun h'=>absurd (h h') de
 ·intro h;exact ⟨fun h'=>absurd h' (lb3.2 h),fun _=>rfl⟩
def a62 {i:Nat} {v:Rat} {z:List Rat}:S2 (A9 i 2 v) z=true↔z.getD i 0=v:=by
 rw [a1J,aL1];show (z.getD i 0<v->(2:Int)=1)∧(v<z.getD i 0->(2:Int)=0)↔_;constructor
 ·rintro ⟨h,h2⟩;have q1:¬z.getD i 0<v:=fun h'=>absurd (h h') de
  have q2:¬v<z.getD i 0:=fun h'=>absurd (h2 h') de
  grind
 ·intro h;exact ⟨fun h'=>by grind,fun h'=>by grind⟩
theorem stock_holds {e:Ev} (h0:E6 e=0) {i:Nat} {x:A8} (hx:e.moves[i]? =some x) {z:List Rat}:S2 (x3 e i x) z=true↔z.getD i 0<=a4B e z i x.src.toNat∧(x.all=true->z.getD i 0=a4B e z i x.src.toNat):=by
 have hm:=V9 h0 (lbm hx);have ms:=a1T hm;have hv:m7 (x3 e i x).terms z=a4B e z i x.src.toNat - z.getD i 0:=by
  unfold x3;simp only;rw [I6,show n9 e x.src i=n9 e ((x.src.toNat:Nat):Int) i by rw [show ((x.src.toNat:Nat):Int)=x.src by omega],ai4 h0];simp only [lbX];have:((-1:Int):Rat)=-1:=rfl;rw [this];grind
 have hz:(x3 e i x).value=0:=rfl;have hk:(x3 e i x).kind=if x.all then 2 else 0:=rfl
 rw [a1J,hv,hz,hk];cases hal:x.all with
 |true=>
  simp only [if_true];constructor
  ·rintro ⟨h,h2⟩;have q1:¬a4B e z i x.src.toNat - z.getD i 0<0:=fun h'=>absurd (h h') de
   have q2:¬0<a4B e z i x.src.toNat - z.getD i 0:=fun h'=>absurd (h2 h') de
   exact ⟨by grind,fun _=>by grind⟩
  ·rintro ⟨h,h2⟩;have h2:=h2 trivial;exact ⟨fun h'=>by grind,fun h'=>by grind⟩
 |false=>
  simp only [a85,if_false];constructor
  ·rintro ⟨h,h2⟩;have q1:¬a4B e z i x.src.toNat - z.getD i 0<0:=fun h'=>absurd (h h') de
   exact ⟨by grind,fun h=>(by cases h)⟩
  ·rintro ⟨h,_⟩;exact ⟨fun h'=>by grind,fun _=>trivial⟩
theorem move_holds {t:n7} {kind:Int} (h0:E6 t.ev=0) {i:Nat} {x:A8} (hx:t.ev.moves[i]? =some x) {z:List Rat} (hz:0<=z.getD i 0):
 (J7 t kind i x).all (fun w=>S2 w z)=true↔bp0 t.ev x (z.getD i 0) (a4B t.ev z i x.src.toNat)∧b7q t kind i x (z.getD i 0):=by
 have hmo:=V9 h0 (lbm hx);unfold J7;simp only [a0H,lbM,List.all_map];have e1:(if K4 t.ev x.src=0 then ([]:List x4) else [x3 t.ev i x]).all (fun w=>S2 w z)=true↔(K4 t.ev x.src≠0->z.getD i 0<=a4B t.ev z i x.src.toNat∧(x.all=true->z.getD i 0=a4B t.ev z i x.src.toNat)):=by
  by_cases hb:K4 t.ev x.src=0
  ·rw [if_pos hb];exact ⟨fun _ h=>absurd hb h,fun _=>rfl⟩
  ·rw [if_neg hb];simp only [aq9,List.all_nil,a8P];rw [stock_holds h0 hx];exact ⟨fun h _=>h,fun h=>h hb⟩
 have e2:(W6 (N1 t.ev x) i).all (fun w=>S2 w z)=true↔bi2 (N1 t.ev x) (z.getD i 0)=true:=by
  cases hiv:N1 t.ev x with
  |none=>exact ⟨fun _=>rfl,fun _=>rfl⟩
  |some p=>
   obtain ⟨lo,hi⟩:=p;simp only [W6,bi2,aq9,List.all_nil,a8P,lbH];exact b4y
 have e3:(t6 t.finds kind i).all ((fun w=>S2 w z) ∘ fun g:Int=>A9 i 0 (g:Rat))=true↔∀g ∈ t6 t.finds kind i,(g:Rat)<=z.getD i 0:=by
  rw [lbv];exact ⟨fun h g hg=>az3.1 (h g hg),fun h g hg=>az3.2 (h g hg)⟩
 have e4:(List.replicate (z9 t.cleans kind i) (A9 i 2 ((0:Int):Rat))).all (fun w=>S2 w z)=true↔(0<z9 t.cleans kind i->z.getD i 0=0):=by
  rw [lbv];constructor
  ·intro h hc;exact a62.1 (h _ (a8t.2 ⟨om,rfl⟩))
  ·intro h w hw;obtain ⟨h1,rfl⟩:=a8t.1 hw;exact a62.2 (h om)
 rw [e1,e2,e3,e4];constructor
 ·rintro ⟨⟨⟨q1,q2⟩,q3⟩,q4⟩;exact ⟨⟨hz,fun h=>(q1 h).1,fun h=>(q1 (b0Y hmo h)).2 h⟩,⟨q2,q3,q4⟩⟩
 ·rintro ⟨p1,p2⟩;exact ⟨⟨⟨fun h=>⟨p1.most h,p1.all⟩,p2.cap⟩,p2.fin⟩,p2.cln⟩
def W2 {t:n7} {kind:Int} {q:x4->Bool}:∀n,n<=t.ev.moves.length->((s7 t kind n).all q=true↔∀i x,i<n->t.ev.moves[i]? =some x->(J7 t kind i x).all q=true)
 |0,_=>⟨fun _ i x h=>om,fun _=>rfl⟩
 |n+1,h=>by
  obtain ⟨y,hy⟩:∃y,t.ev.moves[n]? =some y:=⟨_,lbf om⟩;unfold s7;rw [hy];simp only [a0H,lbM];rw [W2 n om];constructor
  ·rintro ⟨h1,h2⟩ i x hi hx;rcases F6 i n with h3|h3
   ·exact h1 i x h3 hx
   ·obtain rfl:i=n:=by omega
    rw [hy] at hx;injection hx with hx;subst hx;exact h2
  ·intro h1;exact ⟨fun i x hi hx=>h1 i x om hx,h1 n y om hy⟩
def a7g {last n i:Int} {c:Rat} (h1:last<i) (h2:i<n) (h3:c≠0):j2 last n [(i,c)]=true:=by
 unfold j2;simp [h1,h2,h3,j2]
def a5H {n:Int} {c:Rat} {i:Int} (h2:i<n) (h3:c≠0):∀{l:List (Int × Rat)} {last:Int},j2 last n l=true->last<i->(∀ t ∈ l,t.1<i)->j2 last n (l++[(i,c)])=true
 |[],last,_,h,_=>a7g h h2 h3
 |t::r,last,h,h1,ht=>by
  unfold j2 at h;simp only [lbM,lbH] at h;show j2 last n (t::(r++[(i,c)]))=true;unfold j2;simp only [lbM,lbH];exact ⟨h.1,a5H h2 h3 h.2 (ht t zq) fun u hu=>ht u (by simp [hu])⟩
def a7u:((1:Int):Rat)≠0:=by decide
def a9P:((-1:Int):Rat)≠0:=by decide
def a6S {e:Ev} {p:Int} {n:Int}:∀k:Nat,(k:Int)<=n->j2 (-1) n (n9 e p k)=true∧∀t ∈ n9 e p k,t.1<(k:Int)
 |0,_=>⟨rfl,fun t ht=>by cases ht⟩
 |k+1,h=>by
  obtain ⟨h1,h2⟩:=a6S (e:=e) (p:=p) (n:=n) k om;have h3:∀c:Rat,c≠0->j2 (-1) n (n9 e p k++[((k:Int),c)])=true∧∀t ∈ n9 e p k++[((k:Int),c)],t.1<((k+1:Nat):Int):=fun c hc=>
   ⟨a5H om hc h1 om h2,fun t ht=>by
     rcases lby.1 ht with ht|ht
     ·have:=h2 t ht;omega
     ·simp at ht;subst ht;simp;omega⟩
  unfold n9;cases hx:e.moves[k]? with
  |none=>exact ⟨h1,fun t ht=>by have:=h2 t ht;omega⟩
  |some y=>
   simp only;split
   ·exact h3 _ a7u
   ·split
    ·exact h3 _ a9P
    ·exact ⟨h1,fun t ht=>by have:=h2 t ht;omega⟩
def b0r {t:n7} {kind:Int} {i:Nat} {x:A8} {n:Int} (hi:(i:Int)<n):(J7 t kind i x).all (u4 n)=true:=by
 have ho:∀(k:Int) (v:Rat),0<=k->k<3->u4 n (A9 i k v)=true:=fun k v h1 h2=>by
  unfold u4 A9;simp only [lbM,lbH];exact ⟨⟨a7g om hi a7u,h1⟩,h2⟩
 unfold J7;simp only [a0H,lbM,lbv];refine ⟨⟨⟨fun w hw=>?_,fun w hw=>?_⟩,fun w hw=>?_⟩,fun w hw=>?_⟩
 ·by_cases hb:K4 t.ev x.src=0
  ·rw [if_pos hb] at hw;cases hw
  ·rw [if_neg hb] at hw;simp at hw;subst hw;obtain ⟨h1,h2⟩:=a6S (e:=t.ev) (p:=x.src) (n:=n) i om;unfold u4 x3;simp only [lbM,lbH];refine ⟨⟨a5H hi a9P h1 om h2,?_⟩,?_⟩<;>split<;>decide
 ·cases hiv:N1 t.ev x with
  |none=>rw [hiv] at hw;cases hw
  |some p=>
   obtain ⟨lo,hi⟩:=p;rw [hiv] at hw;simp [W6] at hw;subst hw;exact ho 1 hi de de
 ·obtain ⟨g,_,rfl⟩:=lbw.1 hw;exact ho 0 _ de de
 ·obtain ⟨_,rfl⟩:=a8t.1 hw;exact ho 2 _ de de
def aM2 {t:n7} {kind:Int} {i:Nat} {x:A8}:(J7 t kind i x).length<=2+t.finds.length+t.cleans.length:=by
 unfold J7;have h1:(W6 (N1 t.ev x) i).length<=1:=by unfold W6;split<;>simp
 have h2:(t6 t.finds kind i).length<=t.finds.length:=by unfold t6;rw [lbr];exact lbt _ _
 have h3:z9 t.cleans kind i<=t.cleans.length:=lbt _ _;have h4:(if K4 t.ev x.src=0 then ([]:List x4) else [x3 t.ev i x]).length<=1:=by split<;>simp
 simp only [lbq,lbr,aM3];omega
def W3 {t:n7} {kind:Int}:∀n,(s7 t kind n).length<=n*(2+t.finds.length+t.cleans.length)
 |0=>by simp [s7]
 |n+1=>by
  have ih:=W3 (t:=t) (kind:=kind) n;unfold s7;rw [lbU];cases hx:t.ev.moves[n]? with
  |none=>simp only;omega
  |some x=>
   have:=aM2 (t:=t) (kind:=kind) (i:=n) (x:=x);simp only [lbq];omega
def a67 {t:n7} {kind:Int} (hm:t.ev.moves.length<=14) (hf:t.finds.length<=20) (hc:t.cleans.length<=50):j6 (j1 t kind)=true:=by
 unfold j6 j1;have h1:=W3 (t:=t) (kind:=kind) t.ev.moves.length;have h2:t.ev.moves.length*(2+t.finds.length+t.cleans.length)<=14*72:=lbS hm om;simp only [lbM,lbH];refine ⟨⟨⟨om,om⟩,om⟩,?_⟩;rw [W2 _ (lbQ _)];intro i x hi hx;exact b0r om
theorem sys_holds {t:n7} {kind:Int} {z:List Rat} (ht:p6 t=0) (k0:0<=kind) (k1:kind<8) (hm:t.ev.moves.length<=14):j8 (j1 t kind) z=true↔bp9 t kind z:=by
 obtain ⟨q1,q2,q3,q4,q5⟩:=G3 ht;unfold j8;rw [a67 hm q2 q3];simp only [C2,lbM,lbH];constructor
 ·rintro ⟨⟨h1,h2⟩,h3⟩;have hl:z.length=t.ev.moves.length:=by have:(z.length:Int)=t.ev.moves.length:=h1;omega
  refine ⟨ht,k0,k1,hl,fun i x hx=>?_⟩;have hi:i<t.ev.moves.length:=(lbe.1 hx).1;have hz:0<=z.getD i 0:=lbK (lbv.1 h2 _ (lbm (getD_some om)));exact (move_holds q1 hx hz).1 ((W2 _ (lbQ _)).1 h3 i x hi hx)
 ·intro h;refine ⟨⟨?_,?_⟩,?_⟩
  ·show (z.length:Int)=t.ev.moves.length;rw [h.len]
  ·rw [lbv];intro v hv;obtain ⟨i,hi,rfl⟩:=a1k hv;obtain ⟨x,hx⟩:∃x,t.ev.moves[i]? =some x:=⟨_,lbf (by rw [← h.len];exact hi)⟩;have:=(h.step i x hx).1.pos;rw [lbl,lbf hi] at this;exact lbG this
  ·show (s7 t kind t.ev.moves.length).all _=true;rw [W2 _ (lbQ _)];intro i x hi hx;obtain ⟨a,b⟩:=h.step i x hx;exact (move_holds q1 hx a.pos).2 ⟨a,b⟩
def Z9.row (f:Z9):List T:=[ti f.mv,ti f.kind,ti f.grams]
def P1.row (c:P1):List T:=[ti c.mv,ti c.kind]
abbrev an1 (l:List Z9):T:=.sl 3 .any (l.map Z9.row)
abbrev a8g (l:List P1):T:=.sl 2 .any (l.map P1.row)
def trT (t:n7):List T:=[ti t.ev.mats,ti t.ev.hhs,ti t.ev.scs,a6y t.ev.places,a4m t.ev.moves,a0G t.ev.certs,N6 t.ev.recalls,a1N t.ev.purities,an1 t.finds,a8g t.cleans]
def trC (t:n7):List C:=[.t (ti t.ev.mats),.t (ti t.ev.hhs),.t (ti t.ev.scs),.t (a6y t.ev.places),.t (a4m t.ev.moves),.t (a0G t.ev.certs),.t (N6 t.ev.recalls),.t (a1N t.ev.purities),.t (an1 t.finds),.t (a8g t.cleans)]
abbrev trS (t:n7):S:=.agg (trC t)
structure n7.Sized (t:n7):Prop where
 ev:t.ev.Sized
 f:t.finds.length<=1000000
 c:t.cleans.length<=1000000
def a1e {x:Rat}:sgR x=0↔x=0:=by unfold sgR;split<;>(try split)<;>simp_all<;>grind
def b4Z (e:Ev) (mv kind:Int):ec 124 [evS e,eI mv,eI kind] [] (eI (a1v e mv kind)) []:=by
 have l2:(e.moves.map A8.row).length=e.moves.length:=zq;refine ac Tryz.func124 ?_;conv=>whnf
 repeat' (first|refine zx ?_|apply zD<;>intro<;>try omega)<;>conv=>whnf
 all_goals (refine n8 ?_;unfold a1v;(repeat' split)<;>first|rfl|omega)
def ai8 (t:n7) (hs:t.Sized):ec 58 [trS t] [] (eI (p6 t)) []:=by
 have l1:=hs.f;have l2:=hs.c;have ck:=b2T t.ev hs.ev;have m1:(t.finds.map Z9.row).length=t.finds.length:=zq;have m2:(t.cleans.map P1.row).length=t.cleans.length:=zq;by_cases h0:E6 t.ev≠0
 ·have e1:p6 t=E6 t.ev:=by unfold p6;rw [if_pos h0]
  rw [e1]
  (refine ac Tryz.func58 ?_;(conv=>whnf);repeat ((first|refine b0x ?_|refine zy ?_);conv=>whnf))
  repeat' (first|refine zx ?_|apply zD<;>intro<;>try omega)<;>conv=>whnf
  all_goals first|omega|exact n8 rfl
 have h0:E6 t.ev=0:=om;rw [h0] at ck;by_cases h1:20<t.finds.length∨50<t.cleans.length
 ·have e1:p6 t=6:=by unfold p6;rw [if_neg om,if_pos h1]
  rw [e1]
  (refine ac Tryz.func58 ?_;(conv=>whnf);repeat ((first|refine b0x ?_|refine zy ?_);conv=>whnf))
  repeat' (first|refine zx ?_|apply zD<;>intro<;>try omega)<;>conv=>whnf
  all_goals first|omega|exact n8 rfl
 have e1:p6 t=if O2 t.ev t.finds≠0 then O2 t.ev t.finds else P4 t.ev t.cleans:=by unfold p6;rw [if_neg om,if_neg h1]
 rw [e1]
 (refine ac Tryz.func58 ?_;(conv=>whnf);repeat ((first|refine b0x ?_|refine zy ?_);conv=>whnf))
 repeat' (first|refine zx ?_|apply zD<;>intro<;>try omega)<;>conv=>whnf
 all_goals try omega
 refine j3 d7 (fun k=>([J,S.c (C.t (T.ptr (trT t)))]++Jn 25++[S.c (C.t (an1 t.finds)),eI t.finds.length,eI k]++Jn 40,[])) t.finds.length (fun k=>O2 t.ev t.finds=O2 t.ev (t.finds.drop k)) [] rfl
  ⟨rfl,rfl,trivial,⟨rfl,rfl,e7 zq,rz⟩⟩ ?_
 intro k hk hI;by_cases hlt:k<t.finds.length
 ·obtain ⟨f,hf⟩:∃f,t.finds[k]? =some f:=⟨_,lbf hlt⟩;have mk:=b4Z t.ev f.mv f.kind;rw [a14 hf,O2] at hI;by_cases hm:a1v t.ev f.mv f.kind≠0
  ·rw [if_pos hm] at hI;rw [hI,if_pos hm];conv=>whnf
   repeat' (first|refine zx ?_|refine i6 hf ?_|apply zD<;>intro<;>try omega)<;>conv=>whnf
   all_goals first|omega|exact n8 rfl
  ·rw [if_neg hm] at hI;by_cases hg:f.grams<1∨1099511627776<f.grams
   ·rw [if_pos hg] at hI;rw [hI];conv=>whnf
    repeat' (first|refine zx ?_|refine i6 hf ?_|apply zD<;>intro<;>try omega)<;>conv=>whnf
    all_goals first|omega|exact n8 rfl
   ·rw [if_neg hg] at hI;conv=>whnf
    repeat' (first|refine zx ?_|refine i6 hf ?_|apply zD<;>intro<;>try omega)<;>conv=>whnf
    all_goals first|omega|exact ⟨hlt,hI,[],rz⟩
 ·rw [lbo om] at hI;have hI:O2 t.ev t.finds=0:=hI;rw [hI,if_neg om];conv=>whnf
  repeat' (first|refine zx ?_|apply zD<;>intro<;>try omega)<;>conv=>whnf
  all_goals try omega
  refine j3 d7 (fun k=>([J,S.c (C.t (T.ptr (trT t)))]++Jn 51++[S.c (C.t (a8g t.cleans)),eI t.cleans.length,eI k]++Jn 14,[])) t.cleans.length (fun k=>P4 t.ev t.cleans=P4 t.ev (t.cleans.drop k)) [] rfl
   ⟨rfl,rfl,trivial,⟨rfl,rfl,e7 zq,rz⟩⟩ ?_
  intro j hj hJ;by_cases hjt:j<t.cleans.length
  ·obtain ⟨c,hc⟩:∃c,t.cleans[j]? =some c:=⟨_,lbf hjt⟩;have mk:=b4Z t.ev c.mv c.kind;rw [a14 hc,P4] at hJ;by_cases hm:a1v t.ev c.mv c.kind≠0
   ·rw [if_pos hm] at hJ;rw [hJ];conv=>whnf
    repeat' (first|refine zx ?_|refine i6 hc ?_|apply zD<;>intro<;>try omega)<;>conv=>whnf
    all_goals first|omega|exact n8 rfl
   ·rw [if_neg hm] at hJ;conv=>whnf
    repeat' (first|refine zx ?_|refine i6 hc ?_|apply zD<;>intro<;>try omega)<;>conv=>whnf
    all_goals first|omega|exact ⟨hjt,hJ,[],rz⟩
  ·rw [lbo om] at hJ;have hJ:P4 t.ev t.cleans=0:=hJ;rw [hJ];conv=>whnf
   repeat' (first|refine zx ?_|apply zD<;>intro<;>try omega)<;>conv=>whnf
   all_goals first|omega|exact n8 rfl
def bu9 (e:Ev) {i:Nat} {x:A8} (h0:E6 e=0) (hx:e.moves[i]? =some x):ec 116 [evS e,eI i] [] (i9 (decide (K4 e x.src=0))) []:=by
 have hm:=V9 h0 (lbm hx);have ms:=a1T hm;obtain ⟨s,hsn⟩:∃s:Nat,x.src=s:=⟨x.src.toNat,om⟩;obtain ⟨pl,hpl⟩:∃pl,e.places[s]? =some pl:=⟨_,lbf om⟩;have hkd:K4 e x.src=pl.kind:=by rw [hsn];exact aC3 hpl
 rw [hkd];refine ac Tryz.func116 ?_;conv=>whnf
 repeat' (first|refine zx ?_|refine i6 hx ?_|refine y7 hsn hpl ?_|apply zD<;>intro<;>try omega)<;>conv=>whnf
 all_goals (refine d9 ?_;simp [*])
def o7 (x:Int × Rat):List T:=ti x.1::o4 (fz x.2)
abbrev a5G (l:List (Int × Rat)):T:=.sl 5 .any (l.map o7)
def p4 (w:x4):List T:=a5G w.terms::ti w.kind::o4 (fz w.value)
def bw2 (w:x4):List C:=.t (a5G w.terms)::.t (ti w.kind)::frC (fz w.value)
abbrev as7 (w:x4):S:=.agg (bw2 w)
abbrev G5 (l:List x4):T:=.sl 6 .any (l.map p4)
abbrev D8 (s:i8):S:=.agg [.t (ti s.n),.t (G5 s.rows)]
abbrev zR:Rat:=((0:Int):Rat)
def a0i {e:Ev} (h:E6 e=0):1<=e.mats∧e.mats<=6∧e.places.length<=100∧e.moves.length<=200:=by
 obtain ⟨h1,h2,_⟩:=a7d h;unfold a2y at h1;simp only [a4W,lbJ] at h1;omega
abbrev k7 (l:List (Int × Rat)):S:=.c (.t (a5G l))
def a3J (l:List (Int × Rat)):Nat->Int
 |0=>-1
 |k+1=>((l[k]?).map (·.1)).getD 0
def V4 {l:List (Int × Rat)} {k:Nat} {t:Int × Rat} (h:l[k]? =some t):a3J l (k+1)=t.1:=by simp [a3J,h]
def N3 (l:List (Int × Rat)) (n:Int) (hl:l.length<=1000000) (hB:∀t ∈ l,rl t.2<=200):ec 153 [k7 l,eI n] [] (i9 (decide (0<=n) && j2 (-1) n l)) []:=by
 have m1:(l.map o7).length=l.length:=zq;by_cases h0:n<0
 ·rw [lbI om,a2i];refine ac Tryz.func153 ?_;conv=>whnf
  repeat' (first|refine zx ?_|apply zD<;>intro h<;>try omega)<;>conv=>whnf
  all_goals first|omega|exact d9 rfl
 rw [lbG om,C2];refine ac Tryz.func153 ?_;conv=>whnf
 repeat' (first|refine zx ?_|apply zD<;>intro h<;>try omega)<;>conv=>whnf
 all_goals try omega
 refine j3 d7 (fun k=>([J,eI n,J,J,J,eI (a3J l k),J,J,J,J,k7 l,eI l.length,eI k]++Jn 22,[])) l.length (fun k=>j2 (-1) n l=j2 (a3J l k) n (l.drop k)) [] rfl
  ⟨rfl,rfl,trivial,⟨rfl,rfl,rfl,e7 zq,rz⟩⟩ ?_
 intro k hk hI;by_cases hlt:k<l.length
 ·obtain ⟨t,ht⟩:∃t,l[k]? =some t:=⟨_,lbf hlt⟩;obtain ⟨v,c⟩:=t;have bc:=hB _ (lbm ht);simp only at bc;have sg:=R6 c om;have sz:=a1e (x:=c);rw [a14 ht,j2] at hI;simp only at hI;by_cases hok:a3J l k<v∧v<n∧c≠0
  ·rw [lbG hok.1,lbG hok.2.1,lbG hok.2.2] at hI;simp only [C2] at hI;have hne:sgR c≠0:=fun h=>hok.2.2 (sz.1 h)
   obtain ⟨q1,q2,_⟩:=hok;conv=>whnf
   repeat' (first|refine zx ?_|refine i6 ht ?_|apply zD<;>intro h<;>try omega)<;>conv=>whnf
   all_goals first|omega|exact ⟨hlt,by rw [V4 ht];exact hI,[],rfl,rfl,trivial,⟨rfl,e7 (by rw [V4 ht]),rz⟩⟩
  ·have hF:j2 (-1) n l=false:=by
    rw [hI];rw [← lbP];simp only [lbM,lbH];exact fun h=>hok ⟨h.1.1.1,h.1.1.2,h.1.2⟩
   rw [hF];have hor:v<=a3J l k∨n<=v∨sgR c=0:=by
    by_cases q1:a3J l k<v
    ·by_cases q2:v<n
     ·refine .inr (.inr (sz.2 ?_));by_cases q3:c=0
      ·exact q3
      ·exact absurd ⟨q1,q2,q3⟩ hok
     ·exact .inr (.inl om)
    ·exact .inl om
   clear hI hok;conv=>whnf
   repeat' (first|refine zx ?_|refine i6 ht ?_|apply zD<;>intro h<;>try omega)<;>conv=>whnf
   all_goals first|omega|exact d9 rfl
 ·rw [lbo om] at hI;have hI:j2 (-1) n l=true:=hI;rw [hI];conv=>whnf
  repeat' (first|refine zx ?_|apply zD<;>intro h<;>try omega)<;>conv=>whnf
  all_goals first|omega|exact d9 rfl
structure T9 (s:i8):Prop where
 n0:s.rows.length<=1000000
 t:∀w ∈ s.rows,w.terms.length<=100∧(∀ t ∈ w.terms,rl t.2<=200)∧rl w.value<=200
def a3r (s:i8) (hb:T9 s):ec 206 [D8 s] [] (i9 (j6 s)) []:=by
 have m1:(s.rows.map p4).length=s.rows.length:=zq;have l1:=hb.n0;by_cases h0:¬(0<=s.n∧s.n<=1500∧s.rows.length<=6000)
 ·have e1:j6 s=false:=by
   unfold j6;rw [← lbP];simp only [lbM,lbH];exact fun h=>h0 ⟨h.1.1.1,h.1.1.2,h.1.2⟩
  rw [e1]
  (refine ac Tryz.func206 ?_;(conv=>whnf);repeat ((first|refine b0x ?_|refine zy ?_);conv=>whnf))
  repeat' (first|refine zx ?_|apply zD<;>intro h<;>try omega)<;>conv=>whnf
  all_goals first|omega|exact d9 rfl
 obtain ⟨c1,c2,c3⟩:=Decidable.not_not.1 h0;have e1:j6 s=s.rows.all (u4 s.n):=by
  unfold j6;rw [lbG c1,lbG c2,lbG c3];rfl
 rw [e1];clear h0
 (refine ac Tryz.func206 ?_;(conv=>whnf);repeat ((first|refine b0x ?_|refine zy ?_);conv=>whnf))
 repeat' (first|refine zx ?_|apply zD<;>intro h<;>try omega)<;>conv=>whnf
 all_goals try omega
 refine j3 d7 (fun k=>([J,S.c (C.t (T.ptr [ti s.n,G5 s.rows]))]++Jn 18++[S.c (C.t (G5 s.rows)),eI s.rows.length,eI k]++Jn 26,[])) s.rows.length (fun k=>(s.rows.take k).all (u4 s.n)=true) [] rfl
  ⟨rfl,rfl,trivial,⟨rfl,rfl,e7 zq,rz⟩⟩ ?_
 intro k hk hI;by_cases hlt:k<s.rows.length
 ·obtain ⟨w,hw⟩:∃w,s.rows[k]? =some w:=⟨_,lbf hlt⟩;obtain ⟨b1,b2,b3⟩:=hb.t w (lbm hw);have rt:=N3 w.terms s.n om b2;rw [lbG c1,C2] at rt;have rv:=L3 w.value om;cases hrt:j2 (-1) s.n w.terms with
  |false=>
   rw [hrt] at rt;have hF:u4 s.n w=false:=by unfold u4;rw [hrt];rfl
   rw [x7 hw hF];conv=>whnf
   repeat' (first|refine zx ?_|refine i6 hw ?_|apply zD<;>intro h<;>try omega)<;>conv=>whnf
   all_goals first
    |omega
    |(exfalso;simp_all;done)
    |exact d9 rfl
  |true=>
   rw [hrt] at rt;by_cases hk3:0<=w.kind∧w.kind<3
   ·have hT:u4 s.n w=true:=by unfold u4;rw [hrt,lbG hk3.1,lbG hk3.2];rfl
    conv=>whnf
    repeat' (first|refine zx ?_|refine i6 hw ?_|apply zD<;>intro h<;>try omega)<;>conv=>whnf
    all_goals first|omega|(exfalso;simp_all;done)|exact ⟨hlt,by rw [t5 hw,hI,hT];rfl,[],rz⟩
   ·have hF:u4 s.n w=false:=by
     unfold u4;rw [← lbP];simp only [lbM,lbH];exact fun h=>hk3 ⟨h.1.2,h.2⟩
    rw [x7 hw hF];conv=>whnf
    repeat' (first|refine zx ?_|refine i6 hw ?_|apply zD<;>intro h<;>try omega)<;>conv=>whnf
    all_goals first|omega|(exfalso;simp_all;done)|exact d9 rfl
 ·rw [lbn om] at hI;rw [hI];conv=>whnf
  repeat' (first|refine zx ?_|apply zD<;>intro h<;>try omega)<;>conv=>whnf
  all_goals first|omega|exact d9 rfl
def b4q (rs:List Fr) (hl:rs.length<=1000000) (g:FuncId) (caps:List T) (q:Fr->Bool) (hg:∀r ∈ rs,ec g (frS r::caps.map fun x=>.c (.t x)) [] (i9 (q r)) []):
 ec 316 [.c (.t (O8 rs)),.c (.t (.fn (.func g) caps))] [] (eI (a0m q rs 0)) []:=by
 have l1:(rs.map o4).length=rs.length:=zq;refine ac Tryz.func316 ?_;conv=>whnf
 repeat' (first|refine zx ?_|apply zD<;>intro<;>try omega)<;>conv=>whnf
 refine j3 d7 (fun k=>([S.c (C.t (O8 rs)),S.c (C.t (T.fn (.func g) caps)),J,J,J,J,J,eI rs.length,eI k]++Jn 10,[])) rs.length (fun k=>a0m q (rs.drop k) k=a0m q rs 0) [] rfl
  ⟨rfl,rfl,trivial,⟨l9 rfl,l9 rfl,e7 zq,rz⟩⟩ ?_
 intro k hk hI;by_cases hlt:k<rs.length
 ·obtain ⟨r,hr⟩:∃r,rs[k]? =some r:=⟨_,lbf hlt⟩;have hd:rs.drop k=r::rs.drop (k+1):=by
   rw [a9t hlt];rw [lbf hlt] at hr;injection hr with hr;rw [hr]
  have hgr:=hg r (lbm hr);have ha:(frS r::caps.map fun x=>S.c (C.t x)).all S.isT=true:=by simp [S.isT,C.isT,o4]
  rw [hd] at hI;have hI:(if q r then (k:Int) else a0m q (rs.drop (k+1)) (k+1))=a0m q rs 0:=hI;cases hq:q r with
  |true=>
   rw [hq] at hgr hI;conv=>whnf
   repeat' (first|refine zx ?_|refine .inl ⟨_,_,L2 hgr ha rfl,?_⟩|refine i6 hr ?_|apply zD<;>intro<;>try omega)<;>conv=>whnf
   all_goals first
    |omega
    |exact n8 hI
  |false=>
   rw [hq] at hgr hI;conv=>whnf
   repeat' (first|refine zx ?_|refine .inl ⟨_,_,L2 hgr ha rfl,?_⟩|refine i6 hr ?_|apply zD<;>intro<;>try omega)<;>conv=>whnf
   all_goals first|omega|exact ⟨hlt,by simpa using hI,[],rz⟩
 ·have hke:k=rs.length:=by omega
  subst hke;rw [lbo (lbQ _)] at hI;conv=>whnf
  repeat' (first|refine zx ?_|apply zD<;>intro<;>try omega)<;>conv=>whnf
  all_goals first|omega|exact n8 hI
def aN0 (rs:List Fr) (hl:rs.length<=1000000) (g:FuncId) (caps:List T) (q:Fr->Bool) (hg:∀r ∈ rs,ec g (frS r::caps.map fun x=>.c (.t x)) [] (i9 (q r)) []):
 ec 268 [.c (.t (O8 rs)),.c (.t (.fn (.func g) caps))] [] (i9 (rs.any q)) []:=by
 have ix:=b4q rs hl g caps q hg;refine ac Tryz.func268 ?_;conv=>whnf
 repeat' (first|refine zx ?_|apply zD<;>intro<;>try omega)<;>conv=>whnf
 all_goals (refine d9 ?_;rw [← a7p q rs 0];simp;omega)
def b4S (f:Fr) (lp:f.p.dl.length<=200000) (lq:f.q.dl.length<=200000):ec 269 (frS f::[].map fun x=>.c (.t x)) [] (i9 (!t7 f)) []:=by
 have r:=a87 f lp lq;refine ac Tryz.func269 ?_;conv=>whnf
 repeat' (first|refine zx ?_|apply zD<;>intro<;>try omega)<;>conv=>whnf
 all_goals (refine d9 ?_;simp [*])
def ae3 (z:List Fr) (hl:z.length<=1000000) (hd:∀f ∈ z,f.p.dl.length<=200000∧f.q.dl.length<=200000):ec 207 [n6 z] [] (i9 (z.all t7)) []:=by
 have ct:=aN0 z hl 269 [] _ (fun f hf=>b4S f (hd f hf).1 (hd f hf).2);have e:(z.any fun f=>!t7 f)=!(z.all t7):=by rw [List.not_all_eq_any_not]
 rw [e] at ct;cases hz:z.all t7<;>rw [hz] at ct<;>
 ·refine ac Tryz.func207 ?_;conv=>whnf
  repeat' (first|refine zx ?_|apply zD<;>intro<;>try omega)<;>conv=>whnf
  all_goals exact d9 rfl
def a99 {n:Int}:∀{l:List (Int × Rat)} {last:Int},j2 last n l=true->∀t ∈ l,last<t.1∧t.1<n
 |[],_,_,t,ht=>by cases ht
 |u::r,last,h,t,ht=>by
  unfold j2 at h;simp only [lbM,lbH] at h;rcases lbz.1 ht with rfl|ht
  ·exact ⟨h.1.1.1,h.1.1.2⟩
  ·have:=a99 h.2 t ht;omega
section
structure Fd where
 V:Nat->Rat
 A:Nat->Nat->Rat
 G:Nat->Rat
 O:Nat->Nat
 F:Nat->Nat
namespace Fd
set_option linter.all false
def pRow (D:Fd) (r s j:Nat):Rat:=if j=s then 1 / D.A r s else D.A r j / D.A r s
def exch (D:Fd) (r s:Nat):Fd where
 V:=fun i=>if i=r then D.V r / D.A r s else D.V i - D.A i s*(D.V r / D.A r s)
 A:=fun i j=>if i=r then D.pRow r s j else if j=s then 0 - D.A i s*D.pRow r s s else D.A i j - D.A i s*D.pRow r s j
 G:=fun j=>if j=s then 0 - D.G s*D.pRow r s s else D.G j - D.G s*D.pRow r s j
 O:=fun i=>if i=r then D.F s else D.O i
 F:=fun j=>if j=s then D.O r else D.F j
end Fd
def D3 {f:Nat->Rat} {s:Nat}:∀{n:Nat},s<n->k8 f n=k8 (fun j=>if j=s then 0 else f j) n+f s
 |0,h=>om
 |n+1,h=>by
  simp only [k8];by_cases hs:s=n
  ·subst hs;rw [if_pos rfl,k5 (n:=s) (f:=fun j=>if j=s then 0 else f j) (g:=f) fun m hm=>by rw [if_neg om]];grind
  ·rw [if_neg (show ¬n=s by omega),D3 (f:=f) (s:=s) (n:=n) om];grind
def I3 {f:Nat->Rat} (k:Rat):∀n:Nat,k8 (fun j=>k*f j) n=k*k8 f n
 |0=>by simp only [k8,Z0];grind
 |n+1=>by simp only [k8];rw [I3 k n];grind
def a4o {f g:Nat->Rat}:∀n:Nat,k8 (fun j=>f j+g j) n=k8 f n+k8 g n
 |0=>by simp only [k8,Z0];grind
 |n+1=>by simp only [k8];rw [a4o n];grind
def v5 {f:Nat->Rat}:∀{n:Nat},(∀ j,j<n->f j=0)->k8 f n=0
 |0,_=>by simp only [k8,Z0]
 |n+1,h=>by simp only [k8];rw [v5 fun j hj=>h j om,h n om];grind
def a7H {f:Nat->Rat}:∀{n:Nat},(∀ j,j<n->f j<=0)->k8 f n<=0
 |0,_=>by simp only [k8,Z0];grind
 |n+1,h=>by
  simp only [k8];have h1:=a7H (f:=f) (n:=n) fun j hj=>h j om
  have h2:=h n om;grind
def b9O {f:Nat->Rat} {n s:Nat} (h:∀j,j<n->f j<=0) (hs:s<n) (h0:f s<0):k8 f n<0:=by
 rw [D3 hs];have:=a7H (f:=fun j=>if j=s then 0 else f j) (n:=n) fun j hj=>by split;grind;exact h j hj
 grind
def b9i {f:Nat->Rat} {n s:Nat} (h:∀j,j<n->0<=f j) (hs:s<n) (h0:0<f s):0<k8 f n:=by
 rw [D3 hs];have:=ai3 (f:=fun j=>if j=s then 0 else f j) (n:=n) fun j hj=>by
  by_cases hj2:j=s
  ·simp only [hj2,if_true];grind
  ·simp only [if_neg hj2];exact h j hj
 grind
def Ids (m n:Nat) (D:Fd) (y:Nat->Rat) (c:Rat):Prop:=∀i,i<m->y (D.O i)=c*D.V i - k8 (fun j=>D.A i j*y (D.F j)) n
def af8 {D:Fd} {r s n:Nat} {y:Nat->Rat} (hs:s<n) (f:Nat->Rat) (f':Nat->Rat) (k:Rat) (hf:∀j,j≠s->f' j=f j - k*D.pRow r s j):
 k8 (fun j=>f' j*y ((D.exch r s).F j)) n=k8 (fun j=>if j=s then 0 else f j*y (D.F j)) n - k*k8 (fun j=>if j=s then 0 else D.pRow r s j*y (D.F j)) n+f' s*y (D.O r):=by
 rw [D3 hs];have h1:(D.exch r s).F s=D.O r:=by show (if s=s then D.O r else D.F s)=_;rw [if_pos rfl]
 rw [h1];have h2:k8 (fun j=>if j=s then 0 else f' j*y ((D.exch r s).F j)) n=k8 (fun j=>(if j=s then 0 else f j*y (D.F j))+(-k)*(if j=s then 0 else D.pRow r s j*y (D.F j))) n:=k5 fun j hj=>by
  by_cases h:j=s
  ·rw [if_pos h,if_pos h,if_pos h];grind
  ·rw [if_neg h,if_neg h,if_neg h,hf j h];have:(D.exch r s).F j=D.F j:=by show (if j=s then D.O r else D.F j)=_;rw [if_neg h]
   rw [this];grind
 rw [h2,a4o,I3];grind
def ar4 {D:Fd} {r s n:Nat} {y:Nat->Rat} {c:Rat} (hs:s<n) (hp:D.A r s≠0):
 y (D.O r)=c*D.V r - k8 (fun j=>D.A r j*y (D.F j)) n↔y (D.F s)=c*(D.V r / D.A r s) - k8 (fun j=>if j=s then 0 else D.pRow r s j*y (D.F j)) n - 1 / D.A r s*y (D.O r):=by
 have e1:k8 (fun j=>D.A r j*y (D.F j)) n=D.A r s*k8 (fun j=>if j=s then 0 else D.pRow r s j*y (D.F j)) n+D.A r s*y (D.F s):=by
  rw [D3 hs,←I3]
  congr 1
  refine k5 fun j hj=>?_
  by_cases h:j=s
  ·simp only [if_pos h];grind
  ·simp only [if_neg h];unfold Fd.pRow;rw [if_neg h];grind
 rw [e1];generalize k8 (fun j=>if j=s then 0 else D.pRow r s j*y (D.F j)) n=R;generalize y (D.F s)=a;generalize y (D.O r)=b;generalize D.V r=v;generalize D.A r s=p at *;constructor
 ·intro h;rw [h];grind
 ·intro h;rw [h];grind
def ak5 {m n:Nat} {D:Fd} {r s:Nat} {y:Nat->Rat} {c:Rat} (hr:r<m) (hs:s<n) (hp:D.A r s≠0):Ids m n D y c↔Ids m n (D.exch r s) y c:=by
 have hO:(D.exch r s).O r=D.F s:=by show (if r=r then D.F s else D.O r)=_;rw [if_pos rfl]
 have hV:(D.exch r s).V r=D.V r / D.A r s:=by show (if r=r then _ else _)=_;rw [if_pos rfl]
 have hA:∀j,(D.exch r s).A r j=D.pRow r s j:=fun j=>by show (if r=r then _ else _)=_;rw [if_pos rfl]
 have hps:D.pRow r s s=1 / D.A r s:=by unfold Fd.pRow;rw [if_pos rfl]
 have rowr:(y ((D.exch r s).O r)=c*(D.exch r s).V r - k8 (fun j=>(D.exch r s).A r j*y ((D.exch r s).F j)) n)↔y (D.O r)=c*D.V r - k8 (fun j=>D.A r j*y (D.F j)) n:=by
  rw [ar4 hs hp,hO,hV];have h:=af8 (D:=D) (r:=r) (y:=y) hs (fun _=>0) ((D.exch r s).A r) (-1) (fun j hj=>by rw [hA];grind);rw [h,hA,hps,v5 (f:=fun j=>if j=s then 0 else 0*y (D.F j)) (fun j _=>by split<;>grind)];constructor
  ·intro h;rw [h];grind
  ·intro h;rw [h];grind
 have rowi:∀i,i≠r->y (D.O r)=c*D.V r - k8 (fun j=>D.A r j*y (D.F j)) n->
  ((y ((D.exch r s).O i)=c*(D.exch r s).V i - k8 (fun j=>(D.exch r s).A i j*y ((D.exch r s).F j)) n)↔y (D.O i)=c*D.V i - k8 (fun j=>D.A i j*y (D.F j)) n):=fun i hi h0=>by
  rw [ar4 hs hp] at h0;have h1:(D.exch r s).O i=D.O i:=by show (if i=r then _ else _)=_;rw [if_neg hi]
  have h2:(D.exch r s).V i=D.V i - D.A i s*(D.V r / D.A r s):=by show (if i=r then _ else _)=_;rw [if_neg hi]
  have h3:∀j,j≠s->(D.exch r s).A i j=D.A i j - D.A i s*D.pRow r s j:=fun j hj=>by show (if i=r then _ else _)=_;rw [if_neg hi,if_neg hj]
  have h4:(D.exch r s).A i s=0 - D.A i s*D.pRow r s s:=by show (if i=r then _ else _)=_;rw [if_neg hi,if_pos rfl]
  rw [h1,h2,af8 hs (D.A i) ((D.exch r s).A i) (D.A i s) h3,h4,hps,D3 (f:=fun j=>D.A i j*y (D.F j)) hs,h0];constructor
  ·intro h;rw [h];grind
  ·intro h;rw [h];grind
 constructor
 ·intro h i hi;by_cases hir:i=r
  ·subst hir;exact rowr.2 (h i hi)
  ·exact (rowi i hir (h r hr)).2 (h i hi)
 ·intro h i hi;have h0:=rowr.1 (h r hr);by_cases hir:i=r
  ·subst hir;exact h0
  ·exact (rowi i hir h0).1 (h i hi)
def Z5 (n:Nat) (D:Fd) (g0:Nat->Rat) (m:Nat) (z:Rat):Prop:=∀y c,Ids m n D y c->k8 (fun j=>g0 j*y j) n=c*z+k8 (fun j=>D.G j*y (D.F j)) n
def ay4 {m n:Nat} {D:Fd} {r s:Nat} {g0:Nat->Rat} {z:Rat} (hr:r<m) (hs:s<n) (hp:D.A r s≠0) (h:Z5 n D g0 m z):Z5 n (D.exch r s) g0 m (z+D.G s*(D.V r / D.A r s)):=by
 intro y c hy;have hy:=(ak5 hr hs hp).2 hy;rw [h y c hy];have h0:=(ar4 hs hp).1 (hy r hr);have hps:D.pRow r s s=1 / D.A r s:=by unfold Fd.pRow;rw [if_pos rfl]
 have h3:∀j,j≠s->(D.exch r s).G j=D.G j - D.G s*D.pRow r s j:=fun j hj=>by show (if j=s then _ else _)=_;rw [if_neg hj]
 have h4:(D.exch r s).G s=0 - D.G s*D.pRow r s s:=by show (if s=s then _ else _)=_;rw [if_pos rfl]
 rw [af8 hs D.G (D.exch r s).G (D.G s) h3,h4,hps,D3 (f:=fun j=>D.G j*y (D.F j)) hs,h0];grind
end
def as4 (f:Nat->Nat) (w:Nat):Nat->Option Nat
 |0=>none
 |k+1=>match as4 f w k with
  |some i=>some i
  |none=>if f k=w then some k else none
def a6o {f:Nat->Nat} {w:Nat}:∀{k i:Nat},as4 f w k=some i->i<k∧f i=w
 |0,i,h=>by cases h
 |k+1,i,h=>by
  unfold as4 at h;split at h
  ·rename_i i' hi;injection h with h;subst h;have:=a6o hi;exact ⟨om,this.2⟩
  ·split at h
   ·injection h with h;subst h;exact ⟨om,by assumption⟩
   ·cases h
def a96 {f:Nat->Nat} {w:Nat}:∀{k:Nat},as4 f w k=none->∀i,i<k->f i≠w
 |0,_,i,hi=>om
 |k+1,h,i,hi=>by
  unfold as4 at h;split at h
  ·cases h
  ·rename_i hn;split at h
   ·cases h
   ·by_cases hik:i=k
    ·subst hik;assumption
    ·exact a96 hn i om
structure R4 (m n:Nat) (D:Fd):Prop where
 oi:∀i i',i<m->i'<m->D.O i=D.O i'->i=i'
 fi:∀j j',j<n->j'<n->D.F j=D.F j'->j=j'
 of:∀i j,i<m->j<n->D.O i≠D.F j
 all:∀w,w<n+m->(∃ i,i<m∧D.O i=w)∨(∃ j,j<n∧D.F j=w)
 ob:∀i,i<m->D.O i<n+m
 fb:∀j,j<n->D.F j<n+m
def a90 {D:Fd} {r s i:Nat}:(D.exch r s).O i=if i=r then D.F s else D.O i:=rfl
def a2b {D:Fd} {r s j:Nat}:(D.exch r s).F j=if j=s then D.O r else D.F j:=rfl
def aw0 {m n:Nat} {D:Fd} {r s:Nat} (hr:r<m) (hs:s<n) (h:R4 m n D):R4 m n (D.exch r s) where
 oi:=fun i i' hi hi' he=>by
  rw [a90,a90] at he;by_cases h1:i=r<;>by_cases h2:i'=r
  ·omega
  ·rw [if_pos h1,if_neg h2] at he;exact absurd he.symm (h.of i' s hi' hs)
  ·rw [if_neg h1,if_pos h2] at he;exact absurd he (h.of i s hi hs)
  ·rw [if_neg h1,if_neg h2] at he;exact h.oi i i' hi hi' he
 fi:=fun j j' hj hj' he=>by
  rw [a2b,a2b] at he;by_cases h1:j=s<;>by_cases h2:j'=s
  ·omega
  ·rw [if_pos h1,if_neg h2] at he;exact absurd he (h.of r j' hr hj')
  ·rw [if_neg h1,if_pos h2] at he;exact absurd he.symm (h.of r j hr hj)
  ·rw [if_neg h1,if_neg h2] at he;exact h.fi j j' hj hj' he
 of:=fun i j hi hj he=>by
  rw [a90,a2b] at he;by_cases h1:i=r<;>by_cases h2:j=s
  ·rw [if_pos h1,if_pos h2] at he;exact h.of r s hr hs he.symm
  ·rw [if_pos h1,if_neg h2] at he;exact h2 (h.fi s j hs hj he).symm
  ·rw [if_neg h1,if_pos h2] at he;exact h1 (h.oi i r hi hr he)
  ·rw [if_neg h1,if_neg h2] at he;exact h.of i j hi hj he
 all:=fun w hw=>by
  rcases h.all w hw with ⟨i,hi,he⟩|⟨j,hj,he⟩
  ·by_cases h1:i=r
   ·exact .inr ⟨s,hs,by rw [a2b,if_pos rfl,←h1];exact he⟩
   ·exact .inl ⟨i,hi,by rw [a90,if_neg h1];exact he⟩
  ·by_cases h1:j=s
   ·exact .inl ⟨r,hr,by rw [a90,if_pos rfl,←h1];exact he⟩
   ·exact .inr ⟨j,hj,by rw [a2b,if_neg h1];exact he⟩
 ob:=fun i hi=>by rw [a90];split;exact h.fb s hs;exact h.ob i hi
 fb:=fun j hj=>by rw [a2b];split;exact h.ob r hr;exact h.fb j hj
def J1 (m n:Nat) (D:Fd) (c:Rat) (t:Nat->Rat) (w:Nat):Rat:=match as4 D.F w n with
 |some j=>t j
 |none=>match as4 D.O w m with
  |some i=>c*D.V i - k8 (fun j=>D.A i j*t j) n
  |none=>0
def a0z {m n:Nat} {D:Fd} (h:R4 m n D) {c:Rat} {t:Nat->Rat} {j:Nat} (hj:j<n):J1 m n D c t (D.F j)=t j:=by
 unfold J1;cases hi:as4 D.F (D.F j) n with
 |none=>exact absurd rfl (a96 hi j hj)
 |some i=>obtain ⟨h1,h2⟩:=a6o hi;rw [h.fi i j h1 hj h2]
def a4T {m n:Nat} {D:Fd} (h:R4 m n D) {c:Rat} {t:Nat->Rat} {i:Nat} (hi:i<m):J1 m n D c t (D.O i)=c*D.V i - k8 (fun j=>D.A i j*t j) n:=by
 unfold J1;cases hj:as4 D.F (D.O i) n with
 |some j=>obtain ⟨h1,h2⟩:=a6o hj;exact absurd h2.symm (h.of i j hi h1)
 |none=>
  cases hk:as4 D.O (D.O i) m with
  |none=>exact absurd rfl (a96 hk i hi)
  |some k=>obtain ⟨h1,h2⟩:=a6o hk;rw [h.oi k i h1 hi h2]
def X2 {m n:Nat} {D:Fd} (h:R4 m n D) (c:Rat) (t:Nat->Rat):Ids m n D (J1 m n D c t) c:=fun i hi=>by
 rw [a4T h hi]
 congr 1
 exact k5 fun j hj=>by rw [a0z h hj]
def B3 (f:Nat->Nat) (p:Nat->Bool):Nat->Option Nat
 |0=>none
 |k+1=>match B3 f p k with
  |none=>if p k then some k else none
  |some a=>if p k && decide (f k<f a) then some k else some a
def a1a {f:Nat->Nat} {p:Nat->Bool}:∀{k:Nat},B3 f p k=none->∀i,i<k->p i=false
 |0,_,i,hi=>om
 |k+1,h,i,hi=>by
  unfold B3 at h;split at h
  ·rename_i hn;split at h
   ·cases h
   ·rename_i hp;by_cases hik:i=k
    ·subst hik;simpa using hp
    ·exact a1a hn i om
  ·split at h<;>cases h
def B9 {f:Nat->Nat} {p:Nat->Bool}:∀{k a:Nat},B3 f p k=some a->a<k∧p a=true∧∀i,i<k->p i=true->f a<=f i
 |0,a,h=>by cases h
 |k+1,a,h=>by
  unfold B3 at h;split at h
  ·rename_i hn;split at h
   ·rename_i hp;injection h with h;subst h
    refine ⟨om,hp,fun i hi hpi=>?_⟩;by_cases hik:i=k
    ·subst hik;omega
    ·rw [a1a hn i om] at hpi;cases hpi
   ·cases h
  ·rename_i b hb;obtain ⟨h1,h2,h3⟩:=B9 hb;split at h
   ·rename_i hc;injection h with h;subst h
    simp only [lbM,lbH] at hc;refine ⟨om,hc.1,fun i hi hpi=>?_⟩;by_cases hik:i=k
    ·subst hik;omega
    ·have:=h3 i om hpi;omega
   ·rename_i hc;injection h with h;subst h
    refine ⟨om,h2,fun i hi hpi=>?_⟩;by_cases hik:i=k
    ·subst hik;have:¬(f i<f b):=fun h=>hc (by simp [hpi,h])
     omega
    ·exact h3 i om hpi
inductive b6g where
 |best
 |row (r:Nat)
 |col (s:Nat)
 |next (r s:Nat)
def U5 (n:Nat) (D:Fd) (r:Nat):b6g:=match B3 D.F (fun j=>decide (D.A r j<0)) n with
 |none=>.row r
 |some s=>.next r s
def U7 (m:Nat) (D:Fd) (s:Nat):b6g:=match B3 D.O (fun i=>decide (0<D.A i s)) m with
 |none=>.col s
 |some r=>.next r s
def u9 (m n:Nat) (D:Fd):b6g:=match B3 D.O (fun i=>decide (D.V i<0)) m,B3 D.F (fun j=>decide (0<D.G j)) n with
 |none,none=>.best
 |some r,none=>U5 n D r
 |none,some s=>U7 m D s
 |some r,some s=>if D.O r<D.F s then U5 n D r else U7 m D s
structure ay6 (m n:Nat) (D:Fd) (r s:Nat):Prop where
 v:D.V r<0
 a:D.A r s<0
 f:∀j,j<n->D.F j<D.F s->0<=D.A r j
 o:∀i,i<m->D.O i<D.O r->0<=D.V i
 g:∀j,j<n->D.F j<D.O r->D.G j<=0
structure aB8 (m n:Nat) (D:Fd) (r s:Nat):Prop where
 g:0<D.G s
 a:0<D.A r s
 o:∀i,i<m->D.O i<D.O r->D.A i s<=0
 f:∀j,j<n->D.F j<D.F s->D.G j<=0
 v:∀i,i<m->D.O i<D.F s->0<=D.V i
def aV3 {m n:Nat} {D:Fd} {r r' s:Nat} (hr:B3 D.O (fun i=>decide (D.V i<0)) m=some r) (hg:∀j,j<n->D.F j<D.O r->D.G j<=0) (h:U5 n D r=.next r' s):r'<m∧s<n∧ay6 m n D r' s:=by
 obtain ⟨a1,a2,a3⟩:=B9 hr;unfold U5 at h;split at h
 ·cases h
 ·rename_i s' hs';injection h with h1 h2;subst h1;subst h2
  obtain ⟨b1,b2,b3⟩:=B9 hs';refine ⟨a1,b1,lbK a2,lbK b2,fun j hj hlt=>?_,fun i hi hlt=>?_,hg⟩
  ·exact lb3.1 fun h=>by have:=b3 j hj (lbG h);omega
  ·exact lb3.1 fun h=>by have:=a3 i hi (lbG h);omega
def b04 {m n:Nat} {D:Fd} {s s' r:Nat} (hs:B3 D.F (fun j=>decide (0<D.G j)) n=some s) (hv:∀i,i<m->D.O i<D.F s->0<=D.V i) (h:U7 m D s=.next r s'):r<m∧s'<n∧aB8 m n D r s':=by
 obtain ⟨a1,a2,a3⟩:=B9 hs;unfold U7 at h;split at h
 ·cases h
 ·rename_i r' hr';injection h with h1 h2;subst h1;subst h2
  obtain ⟨b1,b2,b3⟩:=B9 hr';refine ⟨b1,a1,lbK a2,lbK b2,fun i hi hlt=>?_,fun j hj hlt=>?_,hv⟩
  ·exact lb3.1 fun h=>by have:=b3 i hi (lbG h);omega
  ·exact lb3.1 fun h=>by have:=a3 j hj (lbG h);omega
def a3A {m n:Nat} {D:Fd} {r s:Nat} (h:u9 m n D=.next r s):r<m∧s<n∧(ay6 m n D r s∨aB8 m n D r s):=by
 unfold u9 at h;cases hr:B3 D.O (fun i=>decide (D.V i<0)) m with
 |none=>
  have hv:∀i,i<m->0<=D.V i:=fun i hi=>lb3.1 (lbL (a1a hr i hi))
  cases hs:B3 D.F (fun j=>decide (0<D.G j)) n with
  |none=>rw [hr,hs] at h;cases h
  |some s'=>
   rw [hr,hs] at h;obtain ⟨q1,q2,q3⟩:=b04 hs (fun i hi _=>hv i hi) h;exact ⟨q1,q2,.inr q3⟩
 |some r'=>
  obtain ⟨a1,a2,a3⟩:=B9 hr;cases hs:B3 D.F (fun j=>decide (0<D.G j)) n with
  |none=>
   rw [hr,hs] at h;obtain ⟨q1,q2,q3⟩:=aV3 (n:=n) hr (fun j hj _=>lb3.1 (lbL (a1a hs j hj))) h;exact ⟨q1,q2,.inl q3⟩
  |some s'=>
   rw [hr,hs] at h;obtain ⟨b1,b2,b3⟩:=B9 hs;simp only at h;split at h
   ·rename_i hlt;obtain ⟨q1,q2,q3⟩:=aV3 (n:=n) hr (fun j hj hj2=>lb3.1 fun h=>by have:=b3 j hj (lbG h);omega) h;exact ⟨q1,q2,.inl q3⟩
   ·rename_i hlt;obtain ⟨q1,q2,q3⟩:=b04 hs (fun i hi hi2=>lb3.1 fun h=>by have:=a3 i hi (lbG h);omega) h;exact ⟨q1,q2,.inr q3⟩
def a4a {m n:Nat} {D:Fd} {r s:Nat} (h:ay6 m n D r s∨aB8 m n D r s):D.A r s≠0:=by
 rcases h with h|h
 ·have:=h.a;intro h0;rw [h0] at this;exact absurd this zg
 ·have:=h.a;intro h0;rw [h0] at this;exact absurd this zg
def b5j {m n:Nat} {D D':Fd} {g0:Nat->Rat} {z z':Rat} (hP:R4 m n D) (hP':R4 m n D') (hI:∀y c,Ids m n D y c↔Ids m n D' y c) (hG:Z5 n D g0 m z) (hG':Z5 n D' g0 m z')
 {r s r' s' q:Nat} (hr:r<m) (hs:s<n) (hr':r'<m) (hs':s'<n) (h:ay6 m n D r s∨aB8 m n D r s) (h':ay6 m n D' r' s'∨aB8 m n D' r' s') (hq:D.F s=q) (hq':D'.O r'=q)
 (hrq:D.O r<q) (hsq:D'.F s'<q) (hst:∀w,q<w->((∃ j,j<n∧D.F j=w)↔∃j,j<n∧D'.F j=w)):False:=by
 have hfree:∀j,j<n->q<D.F j->∃k,k<n∧D'.F k=D.F j:=fun j hj hlt=>(hst _ hlt).1 ⟨j,hj,rfl⟩
 obtain ⟨c,y,hc,hy,ypos,yq,yfree,hobj⟩:∃(c:Rat) (y:Nat->Rat),(c=0∨c=1)∧Ids m n D' y c∧(∀ w,w<n+m->w<q->0<=y w)∧y q<0∧(∀ j,j<n->q<D.F j->y (D.F j)=0)∧
  ((c=0∧0<k8 (fun j=>g0 j*y j) n)∨(c=1∧k8 (fun j=>g0 j*y j) n=z'∧∀j,j<n->D'.F j<q->D'.G j<=0)):=by
  rcases h' with h'|h'
  ·refine ⟨1,J1 m n D' 1 (fun _=>0),.inr rfl,X2 hP' 1 _,fun w hw hwq=>?_,?_,fun j hj hlt=>?_,.inr ⟨rfl,?_,fun j hj hlt=>h'.g j hj (by rw [hq'];exact hlt)⟩⟩
   ·rcases hP'.all w hw with ⟨i,hi,rfl⟩|⟨j,hj,rfl⟩
    ·rw [a4T hP' hi,v5 fun j _=>by grind];have:=h'.o i hi (by rw [hq'];exact hwq);grind
    ·rw [a0z hP' hj];grind
   ·rw [← hq',a4T hP' hr',v5 fun j _=>by grind];have:=h'.v;grind
   ·obtain ⟨k,hk,he⟩:=hfree j hj hlt;rw [← he,a0z hP' hk]
   ·rw [hG' _ 1 (X2 hP' 1 _),v5 fun j hj=>by rw [a0z hP' hj];grind];grind
  ·refine ⟨0,J1 m n D' 0 (fun j=>if j=s' then 1 else 0),.inl rfl,X2 hP' 0 _,fun w hw hwq=>?_,?_,fun j hj hlt=>?_,.inl ⟨rfl,?_⟩⟩
   ·have hone:∀i,k8 (fun j=>D'.A i j*(if j=s' then 1 else 0)) n=D'.A i s':=fun i=>by
     rw [D3 hs',v5 fun j _=>by by_cases hj:j=s'<;>simp [hj]];simp;grind
    rcases hP'.all w hw with ⟨i,hi,rfl⟩|⟨j,hj,rfl⟩
    ·rw [a4T hP' hi,hone];have:=h'.o i hi (by rw [hq'];exact hwq);grind
    ·rw [a0z hP' hj];split<;>grind
   ·have hone:k8 (fun j=>D'.A r' j*(if j=s' then 1 else 0)) n=D'.A r' s':=by
     rw [D3 hs',v5 fun j _=>by by_cases hj:j=s'<;>simp [hj]];simp;grind
    rw [← hq',a4T hP' hr',hone];have:=h'.a;grind
   ·obtain ⟨k,hk,he⟩:=hfree j hj hlt;rw [← he,a0z hP' hk,if_neg];intro hks;rw [hks] at he;omega
   ·rw [hG' _ 0 (X2 hP' 0 _)];have:k8 (fun j=>D'.G j*J1 m n D' 0 (fun j=>if j=s' then 1 else 0) (D'.F j)) n=D'.G s':=by
     rw [k5 (g:=fun j=>D'.G j*(if j=s' then 1 else 0)) fun j hj=>by rw [a0z hP' hj],D3 hs',v5 fun j _=>by by_cases hj:j=s'<;>simp [hj]];simp;grind
    rw [this];have:=h'.g;grind
 have hy2:=(hI y c).2 hy;have hF:∀j,j<n->(D.F j<q∧0<=y (D.F j))∨(j=s∧y (D.F j)<0)∨y (D.F j)=0:=fun j hj=>by
  rcases aI0 (D.F j) q with hlt|heq|hgt
  ·exact .inl ⟨hlt,ypos _ (hP.fb j hj) hlt⟩
  ·refine .inr (.inl ⟨hP.fi j s hj hs om,by rw [heq];exact yq⟩)
  ·exact .inr (.inr (yfree j hj hgt))
 rcases h with h|h
 · -- by its row
   have hid:=hy2 r hr;have h1:0<k8 (fun j=>D.A r j*y (D.F j)) n:=b9i (s:=s) (fun j hj=>by
    rcases hF j hj with ⟨a,b⟩|⟨rfl,b⟩|b
    ·exact lb0 (h.f j hj (by rw [hq];exact a)) b
    ·have:=h.a;exact Rat.le_of_lt (by have:=lb1 (a:=-D.A r j) (b:=-y (D.F j)) zg zg;grind)
    ·rw [b];grind) hs (by
    have:=h.a;have hyq:y (D.F s)<0:=by rw [hq];exact yq
    have:=lb1 (a:=-D.A r s) (b:=-y (D.F s)) zg zg;grind)
   have h2:0<=y (D.O r):=ypos _ (hP.ob r hr) hrq;have h3:=h.v;rcases hc with rfl|rfl
   ·grind
   ·grind
 · -- by its goal
   have h1:k8 (fun j=>D.G j*y (D.F j)) n<0:=b9O (s:=s) (fun j hj=>by
    rcases hF j hj with ⟨a,b⟩|⟨rfl,b⟩|b
    ·have:=h.f j hj (by rw [hq];exact a);have:=lb0 (a:=-D.G j) (b:=y (D.F j)) zg b;grind
    ·have:=h.g;have:=lb1 (a:=D.G j) (b:=-y (D.F j)) zg zg;grind
    ·rw [b];grind) hs (by
    have:=h.g;have hyq:y (D.F s)<0:=by rw [hq];exact yq
    have:=lb1 (a:=D.G s) (b:=-y (D.F s)) zg zg;grind)
   have hg:=hG y c hy2;rcases hobj with ⟨rfl,ho⟩|⟨rfl,ho,hneg⟩
   ·grind
   · -- the basic point of the first dictionary
     have k1:=hG (J1 m n D 1 (fun _=>0)) 1 (X2 hP 1 _);rw [v5 (f:=fun j=>D.G j*J1 m n D 1 (fun _=>0) (D.F j)) fun j hj=>by rw [a0z hP hj];grind] at k1;have k2:=hG' (J1 m n D 1 (fun _=>0)) 1 ((hI _ 1).1 (X2 hP 1 _));have k3:k8 (fun j=>D'.G j*J1 m n D 1 (fun _=>0) (D'.F j)) n<=0:=a7H fun j hj=>by
      have hv:∀w,w<n+m->w<q->0<=J1 m n D 1 (fun _=>0) w:=fun w hw hwq=>by
       rcases hP.all w hw with ⟨i,hi,rfl⟩|⟨k,hk,rfl⟩
       ·rw [a4T hP hi,v5 fun j _=>by grind];have:=h.v i hi (by rw [hq];exact hwq);grind
       ·rw [a0z hP hk];grind
      rcases aI0 (D'.F j) q with hlt|heq|hgt
      ·have a1:=hneg j hj hlt;have a2:=hv _ (hP'.fb j hj) hlt;have:=lb0 (a:=-D'.G j) zg a2;grind
      ·exact absurd (hq'.trans heq.symm) (hP'.of r' j hr' hj)
      ·obtain ⟨k,hk,he⟩:=(hst _ hgt).2 ⟨j,hj,rfl⟩;rw [← he,a0z hP hk];grind
     grind
def C5 (m n:Nat) (D:Fd):Option Fd:=match u9 m n D with
 |.next r s=>some (D.exch r s)
 |_=>none
def a7i {m n:Nat} {D D':Fd} (h:C5 m n D=some D'):∃r s,u9 m n D=.next r s∧D'=D.exch r s:=by
 unfold C5 at h;split at h
 ·rename_i r s hs;injection h with h;exact ⟨r,s,hs,h.symm⟩
 ·cases h
def ap6 {P:Nat->Nat->Prop}:∀N:Nat,(∀ w,w<N->∃T,∀k,T<=k->¬P k w)->∃T,∀w,w<N->∀k,T<=k->¬P k w
 |0,_=>⟨0,fun w hw=>om⟩
 |N+1,h=>by
  obtain ⟨T,hT⟩:=ap6 (P:=P) N fun w hw=>h w om
  obtain ⟨T',hT'⟩:=h N om;refine ⟨max T T',fun w hw k hk=>?_⟩;by_cases hwn:w=N
  ·subst hwn;exact hT' k om
  ·exact hT w om k om
def aq5 {p:Nat->Prop}:∀N:Nat,(∃ w,w<N∧p w)->∃q,q<N∧p q∧∀w,q<w->w<N->¬p w
 |0,⟨w,hw,_⟩=>om
 |N+1,⟨w,hw,hp⟩=>by
  by_cases h:p N
  ·exact ⟨N,om,h,fun w h1 h2=>om⟩
  ·have hwN:w≠N:=fun e=>h (e ▸ hp)
   obtain ⟨q,h1,h2,h3⟩:=aq5 N ⟨w,om,hp⟩;refine ⟨q,om,h2,fun w h4 h5=>?_⟩;by_cases hw2:w=N
   ·subst hw2;exact h
   ·exact h3 w h4 om
def a42 (p:Nat->Prop) (h:∃n,p n):∃n,p n∧∀m,p m->n<=m:=by
 obtain ⟨n,hn⟩:=h;induction n using Nat.strongRecOn with
 |_ n ih=>
  by_cases hex:∃m,m<n∧p m
  ·obtain ⟨m,hm,hp⟩:=hex;exact ih m hm hp
  ·exact ⟨n,hn,fun m hm=>aL7 fun h=>hex ⟨m,h,hm⟩⟩
def bd5 {m n:Nat} {f:Nat->Fd} {g0:Nat->Rat} (hP0:R4 m n (f 0)) (hG0:∃z,Z5 n (f 0) g0 m z) (hf:∀k,C5 m n (f k)=some (f (k+1))):False:=by
 have hstep:∀k,∃rs:Nat × Nat,rs.1<m∧rs.2<n∧(ay6 m n (f k) rs.1 rs.2∨aB8 m n (f k) rs.1 rs.2)∧f (k+1)=(f k).exch rs.1 rs.2:=fun k=>by
  obtain ⟨r,s,h1,h2⟩:=a7i (hf k);obtain ⟨a,b,c⟩:=a3A h1;exact ⟨(r,s),a,b,c,h2⟩
 obtain ⟨W,hW⟩:=Classical.axiomOfChoice hstep;have hP:∀k,R4 m n (f k):=fun k=>by
  induction k with
  |zero=>exact hP0
  |succ k ih=>obtain ⟨a,b,_,d⟩:=hW k;rw [d];exact aw0 a b ih
 have hI:∀k y c,Ids m n (f 0) y c↔Ids m n (f k) y c:=fun k=>by
  induction k with
  |zero=>exact fun _ _=>Iff.rfl
  |succ k ih=>obtain ⟨a,b,c',d⟩:=hW k;rw [d];exact fun y c=>(ih y c).trans (ak5 a b (a4a c'))
 have hG:∀k,∃z,Z5 n (f k) g0 m z:=fun k=>by
  induction k with
  |zero=>exact hG0
  |succ k ih=>obtain ⟨a,b,c',d⟩:=hW k;obtain ⟨z,hz⟩:=ih;rw [d];exact ⟨_,ay4 a b (a4a c') hz⟩
 let E:Nat->Nat:=fun k=>(f k).F (W k).2
 let L:Nat->Nat:=fun k=>(f k).O (W k).1
 have hE:∀k,E k<n+m:=fun k=>(hP k).fb _ (hW k).2.1
 have hL:∀k,L k<n+m:=fun k=>(hP k).ob _ (hW k).1
 have hEL:∀k,L k≠E k:=fun k=>(hP k).of _ _ (hW k).1 (hW k).2.1
 let fre:Nat->Nat->Prop:=fun k w=>∃j,j<n∧(f k).F j=w
 have hfre:∀k w,w≠E k->w≠L k->(fre (k+1) w↔fre k w):=fun k w h1 h2=>by
  obtain ⟨a,b,_,d⟩:=hW k;show (∃ j,j<n∧(f (k+1)).F j=w)↔∃j,j<n∧(f k).F j=w;rw [d];constructor
  ·rintro ⟨j,hj,he⟩;rw [a2b] at he;by_cases hjs:j=(W k).2
   ·rw [if_pos hjs] at he;exact absurd he.symm h2
   ·rw [if_neg hjs] at he;exact ⟨j,hj,he⟩
  ·rintro ⟨j,hj,he⟩;have hjs:j≠(W k).2:=fun h=>h1 (by rw [← he,h])
   exact ⟨j,hj,by rw [a2b,if_neg hjs];exact he⟩
 have hin:∀k,fre k (E k):=fun k=>⟨_,(hW k).2.1,rfl⟩
 have hout:∀k,¬fre k (L k):=fun k=>by rintro ⟨j,hj,he⟩;exact (hP k).of _ _ (hW k).1 hj he.symm
 have hin2:∀k,fre (k+1) (L k):=fun k=>by
  obtain ⟨a,b,_,d⟩:=hW k;show ∃j,j<n∧(f (k+1)).F j=L k;rw [d];exact ⟨_,b,by rw [a2b,if_pos rfl]⟩
 have hout2:∀k,¬fre (k+1) (E k):=fun k=>by
  obtain ⟨a,b,_,d⟩:=hW k;show ¬∃j,j<n∧(f (k+1)).F j=E k;rw [d];rintro ⟨j,hj,he⟩;rw [a2b] at he;by_cases hjs:j=(W k).2
  ·rw [if_pos hjs] at he;exact hEL k he
  ·rw [if_neg hjs] at he;exact hjs ((hP k).fi _ _ hj b he)
 let mv:Nat->Nat->Prop:=fun k w=>E k=w∨L k=w
 obtain ⟨q,hqN,hio,hmax⟩:=aq5 (p:=fun w=>∀T,∃k,T<=k∧mv k w) (n+m) (lb8 fun hno=>by
  have h1:∀w,w<n+m->∃T,∀k,T<=k->¬mv k w:=fun w hw=>lb8 fun h=>hno ⟨w,hw,fun T=>lb8 fun h'=>h ⟨T,fun k hk hm=>h' ⟨k,hk,hm⟩⟩⟩
  obtain ⟨T,hT⟩:=ap6 (P:=mv) _ h1;exact hT _ (hE T) T (lbQ _) (.inl rfl))
 obtain ⟨T,hT⟩:∃T,∀w,q<w->∀k,T<=k->¬mv k w:=by
  obtain ⟨T,hT⟩:=ap6 (P:=fun k w=>q<w∧mv k w) (n+m) fun w hw=>by
   by_cases hqw:q<w
   ·have:=hmax w hqw hw;obtain ⟨T,hT⟩:=Classical.not_forall.1 this;exact ⟨T,fun k hk ⟨_,hm⟩=>hT ⟨k,hk,hm⟩⟩
   ·exact ⟨0,fun k _ ⟨h,_⟩=>hqw h⟩
  refine ⟨T,fun w hqw k hk hm=>?_⟩;have hw:w<n+m:=by rcases hm with hm|hm<;>rw [← hm];exact hE k;exact hL k
  exact hT w hw k hk ⟨hqw,hm⟩
 have hEq:∀k,T<=k->E k<=q:=fun k hk=>aL7 fun h=>hT _ h k hk (.inl rfl)
 have hLq:∀k,T<=k->L k<=q:=fun k hk=>aL7 fun h=>hT _ h k hk (.inr rfl)
 have hconst:∀w,q<w->∀d,fre (T+d) w↔fre T w:=fun w hw d=>by
  induction d with
  |zero=>exact Iff.rfl
  |succ d ih=>
   have h1:=hEq (T+d) om;have h2:=hLq (T+d) om;exact (hfre (T+d) w om om).trans ih
 have hsame:∀w,q<w->∀t u,T<=t->T<=u->(fre t w↔fre u w):=fun w hw t u ht hu=>by
  have h1:=hconst w hw (t - T);have h2:=hconst w hw (u - T);rw [show T+(t - T)=t by omega] at h1;rw [show T+(u - T)=u by omega] at h2;exact h1.trans h2.symm
 have hnext:∀k1,T<=k1->mv k1 q->∃k2,T<=k2∧mv k2 q∧(fre k2 q↔fre (k1+1) q):=fun k1 h1 _=>by
  obtain ⟨k2,⟨h2,h3⟩,hleast⟩:=a42 (fun k=>k1+1<=k∧mv k q) (hio (k1+1));refine ⟨k2,om,h3,?_⟩;have key:∀d,k1+1+d<=k2->(fre (k1+1+d) q↔fre (k1+1) q):=fun d=>by
   induction d with
   |zero=>exact fun _=>Iff.rfl
   |succ d ih=>
    intro hd;have hnm:¬mv (k1+1+d) q:=fun h=>by have:=hleast (k1+1+d) ⟨om,h⟩;omega
    exact (hfre (k1+1+d) q (fun h=>hnm (.inl h.symm)) (fun h=>hnm (.inr h.symm))).trans (ih om)
  have:=key (k2 - (k1+1)) om;rwa [show k1+1+(k2 - (k1+1))=k2 by omega] at this
 have hboth:∃t u,T<=t∧T<=u∧E t=q∧L u=q:=by
  obtain ⟨k1,h1,hm1⟩:=hio T;obtain ⟨k2,h2,hm2,hs⟩:=hnext k1 h1 hm1;rcases hm1 with hm1|hm1
  ·rcases hm2 with hm2|hm2
   ·have a:=hin k2;rw [hm2] at a;have b:=hout2 k1;rw [hm1] at b;exact absurd (hs.1 a) b
   ·exact ⟨k1,k2,h1,h2,hm1,hm2⟩
  ·rcases hm2 with hm2|hm2
   ·exact ⟨k2,k1,h2,h1,hm2,hm1⟩
   ·have a:=hout k2;rw [hm2] at a;have b:=hin2 k1;rw [hm1] at b;exact absurd (hs.2 b) a
 obtain ⟨t,u,ht,hu,het,hlu⟩:=hboth;obtain ⟨z,hz⟩:=hG t;obtain ⟨z',hz'⟩:=hG u;obtain ⟨a1,a2,a3,_⟩:=hW t;obtain ⟨b1,b2,b3,_⟩:=hW u;have hl:L t<q:=by have:=hLq t ht;have:=hEL t;omega
 have he:E u<q:=by have:=hEq u hu;have:=hEL u;omega
 exact b5j (hP t) (hP u) (fun y c=>(hI t y c).symm.trans (hI u y c)) hz hz' a1 a2 b1 b2 a3 b3 het hlu hl he (fun w hw=>hsame w hw t u ht hu)
def itS (m n:Nat):Nat->Fd->Option Fd
 |0,D=>some D
 |k+1,D=>match C5 m n D with
  |none=>none
  |some D'=>itS m n k D'
def a0q {m n:Nat}:∀(k:Nat) (D:Fd),itS m n (k+1) D=(itS m n k D).bind (C5 m n)
 |0,D=>by
  show (match C5 m n D with|none=>none|some D'=>some D')=C5 m n D;cases C5 m n D<;>rfl
 |k+1,D=>by
  show (match C5 m n D with|none=>none|some D'=>itS m n (k+1) D')=(match C5 m n D with|none=>none|some D'=>itS m n k D').bind (C5 m n);cases C5 m n D with
  |none=>rfl
  |some D'=>exact a0q k D'
def b6o {m n:Nat} {D:Fd} {g0:Nat->Rat} (hP:R4 m n D) (hG:∃z,Z5 n D g0 m z):∃k,itS m n k D=none:=lb8 fun h=>by
 have h1:∀k,∃D',itS m n k D=some D':=fun k=>by
  cases hk:itS m n k D with
  |none=>exact absurd ⟨k,hk⟩ h
  |some D'=>exact ⟨D',rfl⟩
 obtain ⟨f,hf⟩:=Classical.axiomOfChoice h1;have hf:∀k,itS m n k D=some (f k):=hf;have h0:f 0=D:=by have:=hf 0;injection this with this;exact this.symm
 refine bd5 (f:=f) (g0:=g0) (by rw [h0];exact hP) (by rw [h0];exact hG) fun k=>?_
 have h2:=a0q (m:=m) (n:=n) k D;rw [hf k,hf (k+1)] at h2;exact h2.symm
noncomputable def a5A (m n:Nat) (D:Fd):Nat:=Classical.epsilon fun k=>itS m n k D=none∧∀j,itS m n j D=none->k<=j
def aq6 {m n:Nat} {D D':Fd} (h:∃k,itS m n k D=none) (hn:C5 m n D=some D'):a5A m n D'<a5A m n D:=by
 have hD:=aE4 (a42 _ h);have h':∃k,itS m n k D'=none:=by
  obtain ⟨k,hk⟩:=h;cases k with
  |zero=>cases hk
  |succ k=>
   have hk:(match C5 m n D with|none=>none|some D'=>itS m n k D')=none:=hk;rw [hn] at hk;exact ⟨k,hk⟩
 have hD':=aE4 (a42 _ h');have e:a5A m n D=Classical.epsilon fun k=>itS m n k D=none∧∀j,itS m n j D=none->k<=j:=rfl
 have e':a5A m n D'=Classical.epsilon fun k=>itS m n k D'=none∧∀j,itS m n j D'=none->k<=j:=rfl
 rw [← e] at hD;rw [← e'] at hD';obtain ⟨a1,a2⟩:=hD;obtain ⟨b1,b2⟩:=hD';generalize a5A m n D=k at a1 a2;cases k with
 |zero=>cases a1
 |succ k=>
  have a1:(match C5 m n D with|none=>none|some D'=>itS m n k D')=none:=a1;rw [hn] at a1;have:=b2 k a1;omega
structure EqI where
 co:Nat->Int
 rhs:Int
def a9e (k:Nat) (e:EqI) (u:Nat->Rat):Prop:=k8 (fun l=>((e.co l:Int):Rat)*u l) (k+1)=((e.rhs:Int):Rat)
def b9n {f g:Nat->Rat} (a b:Rat) (n:Nat):k8 (fun j=>a*f j - b*g j) n=a*k8 f n - b*k8 g n:=by
 rw [← I3 a,←I3 b];have:k8 (fun j=>a*f j - b*g j) n=k8 (fun j=>a*f j+(-1)*(b*g j)) n:=k5 fun j _=>zg
 rw [this,a4o,I3 (-1)];grind
def am8 (k:Nat) (e0 e:EqI):EqI:=⟨fun l=>e0.co (k+1)*e.co l - e.co (k+1)*e0.co l,e0.co (k+1)*e.rhs - e.co (k+1)*e0.rhs⟩
def b02 {k:Nat} {e0 e:EqI} {u:Nat->Rat}:k8 (fun l=>(((am8 k e0 e).co l:Int):Rat)*u l) (k+1)=
 ((e0.co (k+1):Int):Rat)*k8 (fun l=>((e.co l:Int):Rat)*u l) (k+1) - ((e.co (k+1):Int):Rat)*k8 (fun l=>((e0.co l:Int):Rat)*u l) (k+1):=by
 rw [← b9n];refine k5 fun l _=>?_
 unfold am8;simp only;rw [Rat.intCast_sub,aE7,aE7];grind
def aT0 {k:Nat} {e0 e:EqI}:(((am8 k e0 e).rhs:Int):Rat)=((e0.co (k+1):Int):Rat)*((e.rhs:Int):Rat) - ((e.co (k+1):Int):Rat)*((e0.rhs:Int):Rat):=by
 unfold am8;simp only;rw [Rat.intCast_sub,aE7,aE7]
def b9t {k:Nat} {e0 e:EqI} {s:Nat} (h0:(∀ l,l<=k+1->bl (e0.co l)<=s)∧bl e0.rhs<=s) (h:(∀ l,l<=k+1->bl (e.co l)<=s)∧bl e.rhs<=s):(∀ l,l<=k->bl ((am8 k e0 e).co l)<=2*s+1)∧bl (am8 k e0 e).rhs<=2*s+1:=by
 have key:∀a b c d:Int,bl a<=s->bl b<=s->bl c<=s->bl d<=s->bl (a*b - c*d)<=2*s+1:=fun a b c d ha hb hc hd=>by
  have h1:=C8 a b;have h2:=C8 c d;have h3:=a7k (a*b) (-(c*d));rw [U3,←a9c] at h3;omega
 exact ⟨fun l hl=>key _ _ _ _ (h0.1 _ om) (h.1 _ om) (h.1 _ om) (h0.1 _ om),key _ _ _ _ (h0.1 _ om) h.2 (h.1 _ om) h0.2⟩
def a7n:∀(k s:Nat) (E:List EqI) (u:Nat->Rat),(∀ e ∈ E,(∀ l,l<=k->bl (e.co l)<=s)∧bl e.rhs<=s)->(∀ e ∈ E,a9e k e u)->(∀ u',(∀ e ∈ E,a9e k e u')->u' 0=u 0)->rl (u 0)<=2 ^ k*(s+1)
 |0,s,E,u,hb,hu,hq=>by
  by_cases hex:∃e ∈ E,e.co 0≠0
  ·obtain ⟨e,he,hc⟩:=hex;have h1:((0:Int):Rat)+((e.co 0:Int):Rat)*u 0=((e.rhs:Int):Rat):=hu e he;have hne:((e.co 0:Int):Rat)≠0:=fun h=>hc (by exact_mod_cast h)
   have h2:u 0=Rat.divInt e.rhs (e.co 0):=by
    rw [a7e,←h1];have:((0:Int):Rat)=0:=rfl;rw [this];grind
   rw [h2];have h3:=(hb e he).1 0 (lbQ _);have h4:=(hb e he).2;have:=S7 (p:=e.rhs) (q:=e.co 0) hc;omega
  ·have hz:∀e ∈ E,e.co 0=0:=fun e he=>lb8 fun h=>hex ⟨e,he,h⟩
   have:=hq (fun _=>u 0+1) fun e he=>by
    have h1:((0:Int):Rat)+((e.co 0:Int):Rat)*u 0=((e.rhs:Int):Rat):=hu e he;show ((0:Int):Rat)+((e.co 0:Int):Rat)*(u 0+1)=((e.rhs:Int):Rat);rw [← h1,hz e he];have:((0:Int):Rat)=0:=rfl;rw [this];grind
   grind
 |k+1,s,E,u,hb,hu,hq=>by
  have hlast:∀(e:EqI) (v:Nat->Rat),k8 (fun l=>((e.co l:Int):Rat)*v l) (k+1+1)=k8 (fun l=>((e.co l:Int):Rat)*v l) (k+1)+((e.co (k+1):Int):Rat)*v (k+1):=fun e v=>rfl
  by_cases hex:∃e ∈ E,e.co (k+1)≠0
  ·obtain ⟨e0,he0,hc⟩:=hex;have hne:((e0.co (k+1):Int):Rat)≠0:=fun h=>hc (by exact_mod_cast h)
   have ih:=a7n k (2*s+1) (E.map (am8 k e0)) u (fun e he=>by
    obtain ⟨e1,he1,rfl⟩:=lbw.1 he;exact b9t (hb e0 he0) (hb e1 he1)) (fun e he=>by
    obtain ⟨e1,he1,rfl⟩:=lbw.1 he;have a1:k8 _ (k+1+1)=_:=hu e0 he0;have a2:k8 _ (k+1+1)=_:=hu e1 he1;rw [hlast] at a1 a2;unfold a9e;rw [b02,aT0,←a1,←a2];grind) (fun u' hu'=>by
    have hnew:=hq (fun l=>if l=k+1 then (((e0.rhs:Int):Rat) - k8 (fun l=>((e0.co l:Int):Rat)*u' l) (k+1)) / ((e0.co (k+1):Int):Rat) else u' l) fun e he=>by
     have b1:=hu' _ (lbw.2 ⟨e,he,rfl⟩);unfold a9e at b1 ⊢;rw [b02,aT0] at b1;rw [hlast,k5 (g:=fun l=>((e.co l:Int):Rat)*u' l) fun l hl=>by rw [if_neg om],if_pos rfl];generalize k8 (fun l=>((e.co l:Int):Rat)*u' l) (k+1)=X at *;generalize k8 (fun l=>((e0.co l:Int):Rat)*u' l) (k+1)=Y at *;generalize ((e0.co (k+1):Int):Rat)=c at *;generalize ((e.co (k+1):Int):Rat)=d at *;generalize ((e.rhs:Int):Rat)=r at *;generalize ((e0.rhs:Int):Rat)=r0 at *;have h1:c*(X+d*((r0 - Y) / c))=c*r:=by
      have:c*((r0 - Y) / c)=r0 - Y:=zg;have h2:c*(X+d*((r0 - Y) / c))=c*X+d*(c*((r0 - Y) / c)):=zg;rw [h2,this];grind
     grind
    rw [if_neg om] at hnew;exact hnew)
   have e1:2 ^ (k+1)*(s+1)=2 ^ k*(2*s+1+1):=by rw [Nat.pow_succ,Nat.mul_assoc,show 2*(s+1)=2*s+1+1 by omega]
   rw [e1];exact ih
  ·have hz:∀e ∈ E,e.co (k+1)=0:=fun e he=>lb8 fun h=>hex ⟨e,he,h⟩
   have hiff:∀e ∈ E,∀v,a9e (k+1) e v↔a9e k e v:=fun e he v=>by
    unfold a9e;rw [hlast,hz e he];have:((0:Int):Rat)=0:=rfl;rw [this];constructor
    ·intro h;rw [← h];grind
    ·intro h;rw [← h];grind
   have ih:=a7n k s E u (fun e he=>⟨fun l hl=>(hb e he).1 l om,(hb e he).2⟩) (fun e he=>(hiff e he u).1 (hu e he)) fun u' hu'=>hq u' fun e he=>(hiff e he u').2 (hu' e he)
   have:2 ^ k<=2 ^ (k+1):=ak6 de om;exact lbR ih (lbT _ this)
structure a6V (m n s:Nat) (D:Fd):Prop where
 o:∀i,i<m->D.O i=n+i
 f:∀j,j<n->D.F j=j
 w:∀i,i<m->∃(q v:Int) (a:Nat->Int),q≠0∧bl q<=s∧bl v<=s∧(∀ j,j<n->bl (a j)<=s)∧((q:Int):Rat)*D.V i=((v:Int):Rat)∧∀j,j<n->((q:Int):Rat)*D.A i j=((a j:Int):Rat)
def a4u (x:Int):bl (-x)=bl x:=by unfold bl;rw [a2W]
def b4W (x y:Int):bl (x - y)<=max (bl x) (bl y)+1:=by
 have:=a7k x (-y);rw [a4u] at this;rw [a9c];exact this
def aA0 {f:Nat->Rat}:∀n:Nat,k8 f (n+1)=f 0+k8 (fun l=>f (l+1)) n
 |0=>by simp only [k8];grind
 |n+1=>by
  have ih:=aA0 (f:=f) n;have e:k8 f (n+1+1)=k8 f (n+1)+f (n+1):=rfl;rw [e,ih];simp only [k8];grind
def b3O (q0:Int) (b:Nat->Int) (r:Int):EqI:=⟨fun l=>match l with|0=>q0|l+1=>b l,r⟩
def ak1 {n:Nat} {q0 r:Int} {b:Nat->Int} {u:Nat->Rat}:a9e n (b3O q0 b r) u↔((q0:Int):Rat)*u 0+k8 (fun l=>((b l:Int):Rat)*u (l+1)) n=((r:Int):Rat):=by
 unfold a9e b3O;simp only;rw [aA0]
def a4F {n v:Nat} {u:Nat->Rat} (hv:v<n):k8 (fun l=>(((if l=v then (1:Int) else 0):Int):Rat)*u l) n=u v:=by
 rw [D3 hv,v5 fun j hj=>?_]
 ·simp only [if_true];have:((1:Int):Rat)=1:=rfl;rw [this];grind
 ·by_cases h:j=v
  ·simp only [h,if_true]
  ·simp only [if_neg h];have:((0:Int):Rat)=0:=rfl;rw [this];grind
def ba4 {s:Nat} (hs:1<=s) (b:Prop) [Decidable b]:bl (if b then (1:Int) else 0)<=s:=by
 split
 ·exact lbR (p7 de de) hs
 ·exact lbR (p7 de de) hs
def a5M {m n s:Nat} {D0 D:Fd} (h0:a6V m n s D0) (hs:1<=s) (hP:R4 m n D) (hI:∀y c,Ids m n D0 y c↔Ids m n D y c) {c:Int} {t:Nat->Int} (hc:c=0∨c=1) (ht:∀j,t j=0∨t j=1)
 {q r:Int} {b:Nat->Int} {φ:Rat} (hq:q≠0) (hqs:bl q<=s) (hr:bl r<=s) (hb:∀l,l<n->bl (b l)<=s)
 (hφ:((q:Int):Rat)*φ=((r:Int):Rat)*((c:Int):Rat)+k8 (fun l=>((b l:Int):Rat)*J1 m n D ((c:Int):Rat) (fun j=>((t j:Int):Rat)) l) n):rl φ<=2 ^ n*(s+2):=by
 obtain ⟨y,hy⟩:∃y,y=J1 m n D ((c:Int):Rat) (fun j=>((t j:Int):Rat)):=⟨_,rfl⟩;rw [← hy] at hφ;have hyD:Ids m n D y ((c:Int):Rat):=by rw [hy];exact X2 hP _ _
 have hy0:=(hI y _).2 hyD;have hyF:∀j,j<n->y (D.F j)=((t j:Int):Rat):=fun j hj=>by rw [hy];exact a0z hP hj
 have eqs:∀j,j<n->∃e:EqI,(∀ l,l<=n->bl (e.co l)<=s+1)∧bl e.rhs<=s+1∧
  ∀(y' u':Nat->Rat),(∀ l,l<n->u' (l+1)=y' l)->Ids m n D0 y' ((c:Int):Rat)->(a9e n e u'↔y' (D.F j)=((t j:Int):Rat)):=by
  intro j hj;have htb:bl (t j)<=1:=by rcases ht j with h|h<;>rw [h]<;>exact p7 de de
  by_cases hv:D.F j<n
  ·refine ⟨b3O 0 (fun l=>if l=D.F j then 1 else 0) (t j),fun l hl=>?_,lbR htb om,fun y' u' hu hy'=>?_⟩
   ·cases l with
    |zero=>exact lbR (p7 (x:=0) de de) om
    |succ l=>exact ba4 om _
   ·rw [ak1];rw [k5 (g:=fun l=>(((if l=D.F j then (1:Int) else 0):Int):Rat)*y' l) fun l hl=>by rw [hu l hl],a4F hv];have:((0:Int):Rat)=0:=rfl;rw [this];constructor<;>intro h<;>grind
  ·have hb1:=hP.fb j hj;obtain ⟨i,hi⟩:∃i,D.F j=n+i:=⟨D.F j - n,om⟩;have him:i<m:=om;obtain ⟨qi,vi,ai,q1,q2,q3,q4,q5,q6⟩:=h0.w i him;have hrhs:bl (vi*c - qi*t j)<=s+1:=by
    have h1:bl (vi*c)<=s:=by rcases hc with h|h<;>rw [h]<;>simp<;>first|exact q3|exact lbR (p7 (x:=0) de de) hs
    have h2:bl (qi*t j)<=s:=by rcases ht j with h|h<;>rw [h]<;>simp<;>first|exact q2|exact lbR (p7 (x:=0) de de) hs
    have:=b4W (vi*c) (qi*t j);omega
   refine ⟨b3O 0 ai (vi*c - qi*t j),fun l hl=>?_,hrhs,fun y' u' hu hy'=>?_⟩
   ·cases l with
    |zero=>exact lbR (p7 (x:=0) de de) om
    |succ l=>exact lbR (q4 l om) om
   ·rw [ak1,hi];have hid:=hy' i him;rw [h0.o i him] at hid;have hsum:k8 (fun l=>((ai l:Int):Rat)*u' (l+1)) n=((qi:Int):Rat)*k8 (fun j=>D0.A i j*y' (D0.F j)) n:=by
     rw [← I3];refine k5 fun l hl=>?_
     rw [hu l hl,h0.f l hl,←q6 l hl];grind
    rw [hsum];have e0:((0:Int):Rat)=0:=rfl;have e1:((vi*c - qi*t j:Int):Rat)=((vi:Int):Rat)*((c:Int):Rat) - ((qi:Int):Rat)*((t j:Int):Rat):=by push_cast;rfl
    rw [e0,e1,←q5];have hqn:((qi:Int):Rat)≠0:=by intro h;exact q1 (by exact_mod_cast h)
    constructor
    ·intro h;have:((qi:Int):Rat)*(y' (n+i) - ((t j:Int):Rat))=0:=by rw [hid];grind
     have:=(ai2.1 this).resolve_left hqn;grind
    ·intro h;rw [← h,hid];grind
 obtain ⟨E,hE⟩:∃E:Nat->EqI,∀j,(hj:j<n)->E j=Classical.choose (eqs j hj):=⟨fun j=>if hj:j<n then Classical.choose (eqs j hj) else ⟨fun _=>0,0⟩,fun j hj=>by simp [hj]⟩;have hEs:∀j,j<n->(∀ l,l<=n->bl ((E j).co l)<=s+1)∧bl (E j).rhs<=s+1∧
  ∀(y' u':Nat->Rat),(∀ l,l<n->u' (l+1)=y' l)->Ids m n D0 y' ((c:Int):Rat)->(a9e n (E j) u'↔y' (D.F j)=((t j:Int):Rat)):=fun j hj=>by
  rw [hE j hj];exact a2d (eqs j hj)
 let e0:EqI:=b3O q (fun l=>0 - b l) (r*c)
 have he0:∀(y' u':Nat->Rat),(∀ l,l<n->u' (l+1)=y' l)->(a9e n e0 u'↔((q:Int):Rat)*u' 0=((r:Int):Rat)*((c:Int):Rat)+k8 (fun l=>((b l:Int):Rat)*y' l) n):=by
  intro y' u' hu;show a9e n (b3O q (fun l=>0 - b l) (r*c)) u'↔_;rw [ak1];have e1:k8 (fun l=>(((0 - b l:Int)):Rat)*u' (l+1)) n=0 - k8 (fun l=>((b l:Int):Rat)*y' l) n:=by
   have:k8 (fun l=>(((0 - b l:Int)):Rat)*u' (l+1)) n=k8 (fun l=>(-1:Rat)*(((b l:Int):Rat)*y' l)) n:=k5 fun l hl=>by
    rw [hu l hl];push_cast;grind
   rw [this,I3];grind
  rw [e1];have e2:((r*c:Int):Rat)=((r:Int):Rat)*((c:Int):Rat):=by push_cast;rfl
  rw [e2];constructor<;>intro h<;>grind
 let u:Nat->Rat:=fun l=>match l with|0=>φ|l+1=>y l
 have hu:∀l,l<n->u (l+1)=y l:=fun l _=>rfl
 have key:=a7n n (s+1) (e0::(List.range n).map E) u (fun e he=>?_) (fun e he=>?_) (fun u' hu'=>?_)
 ·exact key
 ·rcases lbz.1 he with rfl|he
  ·refine ⟨fun l hl=>?_,?_⟩
   ·cases l with
    |zero=>exact lbR hqs om
    |succ l=>
     show bl (0 - b l)<=s+1;have:=hb l om;have h1:=b4W 0 (b l);have h2:=p7 (x:=0) de de;omega
   ·show bl (r*c)<=s+1;rcases hc with h|h<;>rw [h]<;>simp
    ·exact lbR (p7 (x:=0) de de) om
    ·omega
  ·obtain ⟨j,hj,rfl⟩:=lbw.1 he;have:=hEs j (lbA.1 hj);exact ⟨this.1,this.2.1⟩
 ·rcases lbz.1 he with rfl|he
  ·exact (he0 y u hu).2 hφ
  ·obtain ⟨j,hj,rfl⟩:=lbw.1 he;have hj:=lbA.1 hj;exact ((hEs j hj).2.2 y u hu hy0).2 (hyF j hj)
 ·let y':Nat->Rat:=fun w=>if w<n then u' (w+1) else ((c:Int):Rat)*D0.V (w - n) - k8 (fun j=>D0.A (w - n) j*u' (j+1)) n
  have huy:∀l,l<n->u' (l+1)=y' l:=fun l hl=>by show _=if l<n then _ else _;rw [if_pos hl]
  have hy':Ids m n D0 y' ((c:Int):Rat):=by
   intro i hi;rw [h0.o i hi];show (if n+i<n then _ else _)=_;rw [if_neg om,show n+i - n=i by omega]
   congr 1
   refine k5 fun j hj=>?_
   rw [h0.f j hj,huy j hj]
  have hyD':=(hI y' _).1 hy';have hF':∀j,j<n->y' (D.F j)=((t j:Int):Rat):=fun j hj=>((hEs j hj).2.2 y' u' huy hy').1 (hu' _ (a4s _ (lbw.2 ⟨j,lbA.2 hj,rfl⟩)))
  have same:∀w,w<n+m->y' w=y w:=by
   intro w hw;rcases hP.all w hw with ⟨i,hi,rfl⟩|⟨j,hj,rfl⟩
   ·rw [hyD' i hi,hyD i hi]
    congr 1
    exact k5 fun j hj=>by rw [hF' j hj,hyF j hj]
   ·rw [hF' j hj,hyF j hj]
  have h1:=(he0 y' u' huy).1 (hu' e0 (a0P));have h2:k8 (fun l=>((b l:Int):Rat)*y' l) n=k8 (fun l=>((b l:Int):Rat)*y l) n:=k5 fun l hl=>by rw [same l om]
  rw [h2,←hφ] at h1;have hqn:((q:Int):Rat)≠0:=by intro h;exact hq (by exact_mod_cast h)
  show u' 0=φ;have h3:((q:Int):Rat)*(u' 0 - φ)=0:=zg;have:=(ai2.1 h3).resolve_left hqn;grind
def aC0 {m n s:Nat} {D0 D:Fd} (h0:a6V m n s D0) (hs:1<=s) (hP:R4 m n D) (hI:∀y c,Ids m n D0 y c↔Ids m n D y c) {c:Int} {t:Nat->Int} (hc:c=0∨c=1) (ht:∀j,t j=0∨t j=1) {w:Nat} (hw:w<n+m):
 rl (J1 m n D ((c:Int):Rat) (fun j=>((t j:Int):Rat)) w)<=2 ^ n*(s+2):=by
 by_cases hv:w<n
 ·refine a5M h0 hs hP hI hc ht (q:=1) (r:=0) (b:=fun l=>if l=w then 1 else 0) de (lbR (p7 de de) hs) (lbR (p7 de de) hs) (fun l hl=>ba4 hs _) ?_;rw [a4F hv];have e0:((0:Int):Rat)=0:=rfl;have e1:((1:Int):Rat)=1:=rfl;rw [e0,e1];grind
 ·obtain ⟨i,rfl⟩:∃i,w=n+i:=⟨w - n,om⟩;have him:i<m:=om;obtain ⟨qi,vi,ai,q1,q2,q3,q4,q5,q6⟩:=h0.w i him;have hy0:=(hI _ _).2 (X2 hP ((c:Int):Rat) (fun j=>((t j:Int):Rat))) i him;rw [h0.o i him] at hy0;refine a5M h0 (lbR hs (lbQ _)) hP hI hc ht (q:=qi) (r:=vi) (b:=fun l=>0 - ai l) q1 q2 q3 (fun l hl=>?_) ?_
  ·rw [show (0:Int) - ai l=-(ai l) by omega,a4u];exact q4 l hl
  ·rw [hy0,←q5];have e1:k8 (fun l=>(((0 - ai l:Int)):Rat)*J1 m n D ((c:Int):Rat) (fun j=>((t j:Int):Rat)) l) n=0 - ((qi:Int):Rat)*k8 (fun j=>D0.A i j*J1 m n D ((c:Int):Rat) (fun j=>((t j:Int):Rat)) (D0.F j)) n:=by
    have:k8 (fun l=>(((0 - ai l:Int)):Rat)*J1 m n D ((c:Int):Rat) (fun j=>((t j:Int):Rat)) l) n=k8 (fun l=>(0 - ((qi:Int):Rat))*(D0.A i l*J1 m n D ((c:Int):Rat) (fun j=>((t j:Int):Rat)) (D0.F l))) n:=k5 fun l hl=>by
     rw [h0.f l hl];have:=q6 l hl;have e:((0 - ai l:Int):Rat)=0 - ((ai l:Int):Rat):=by push_cast;rfl
     rw [e,←this];grind
    rw [this,I3];grind
   rw [e1];grind
def b9j {m n s:Nat} {D0 D:Fd} (h0:a6V m n s D0) (hs:1<=s) (hP:R4 m n D) (hI:∀y c,Ids m n D0 y c↔Ids m n D y c) {i:Nat} (hi:i<m):rl (D.V i)<=2 ^ n*(s+2):=by
 have:=aC0 h0 hs hP hI (c:=1) (t:=fun _=>0) (.inr rfl) (fun _=>.inl rfl) (hP.ob i hi);rw [a4T hP hi] at this;have e:k8 (fun j=>D.A i j*(((fun _=>(0:Int)) j:Int):Rat)) n=0:=v5 fun j hj=>by
  show D.A i j*((0:Int):Rat)=0;have e0:((0:Int):Rat)=0:=rfl;rw [e0];grind
 rw [e] at this;have e2:((1:Int):Rat)*D.V i - 0=D.V i:=by have e1:((1:Int):Rat)=1:=rfl;rw [e1];grind
 rw [e2] at this;exact this
def b2l {m n s:Nat} {D0 D:Fd} (h0:a6V m n s D0) (hs:1<=s) (hP:R4 m n D) (hI:∀y c,Ids m n D0 y c↔Ids m n D y c) {i j:Nat} (hi:i<m) (hj:j<n):rl (D.A i j)<=2 ^ n*(s+2):=by
 have:=aC0 h0 hs hP hI (c:=0) (t:=fun l=>if l=j then 1 else 0) (.inl rfl) (fun l=>by by_cases h:l=j;exact .inr (if_pos h);exact .inl (if_neg h)) (hP.ob i hi);rw [a4T hP hi] at this;have e:k8 (fun l=>D.A i l*(((if l=j then (1:Int) else 0):Int):Rat)) n=D.A i j:=by
  rw [k5 (g:=fun l=>(((if l=j then (1:Int) else 0):Int):Rat)*D.A i l) fun l hl=>by grind,a4F (u:=fun l=>D.A i l) hj]
 rw [e] at this;have e2:((0:Int):Rat)*D.V i - D.A i j=-(D.A i j):=by have e1:((0:Int):Rat)=0:=rfl;rw [e1];grind
 rw [e2,Q5] at this;exact this
def b2f {m n s:Nat} {D0 D:Fd} (h0:a6V m n s D0) (hs:1<=s) (hP:R4 m n D) (hI:∀y c,Ids m n D0 y c↔Ids m n D y c) {g0:Nat->Rat} {z:Rat} (hG:Z5 n D g0 m z) {q:Int} {b:Nat->Int} (hq:q≠0) (hqs:bl q<=s) (hb:∀l,l<n->bl (b l)<=s) (hg:∀l,l<n->((q:Int):Rat)*g0 l=((b l:Int):Rat)) {j:Nat} (hj:j<n):rl (D.G j)<=2 ^ n*(s+2):=by
 have h1:=hG _ _ (X2 hP ((0:Int):Rat) (fun l=>(((if l=j then (1:Int) else 0):Int):Rat)));have e:k8 (fun l=>D.G l*J1 m n D ((0:Int):Rat) (fun l=>(((if l=j then (1:Int) else 0):Int):Rat)) (D.F l)) n=D.G j:=by
  rw [k5 (g:=fun l=>(((if l=j then (1:Int) else 0):Int):Rat)*D.G l) fun l hl=>by rw [a0z hP hl];grind,a4F (u:=fun l=>D.G l) hj]
 rw [e] at h1;refine a5M h0 hs hP hI (c:=0) (t:=fun l=>if l=j then 1 else 0) (.inl rfl) (fun l=>by by_cases h:l=j;exact .inr (if_pos h);exact .inl (if_neg h)) (q:=q) (r:=0) (b:=b) hq hqs (lbR (p7 de de) hs) hb ?_;have e0:((0:Int):Rat)=0:=rfl;have h2:D.G j=k8 (fun l=>g0 l*J1 m n D ((0:Int):Rat) (fun l=>(((if l=j then (1:Int) else 0):Int):Rat)) l) n:=by
  rw [h1];simp only [e0];grind
 rw [h2,←I3];have h3:k8 (fun l=>((b l:Int):Rat)*J1 m n D ((0:Int):Rat) (fun l=>(((if l=j then (1:Int) else 0):Int):Rat)) l) n=k8 (fun l=>((q:Int):Rat)*(g0 l*J1 m n D ((0:Int):Rat) (fun l=>(((if l=j then (1:Int) else 0):Int):Rat)) l)) n:=k5 fun l hl=>by rw [← hg l hl];grind
 rw [h3];grind
def b44 (m n:Nat) (y:Nat->Rat):Prop:=∀w,w<n+m->0<=y w
def aP9 {m n:Nat} {D:Fd} {g0:Nat->Rat} {z:Rat} (hP:R4 m n D) (hG:Z5 n D g0 m z) (hv:∀i,i<m->0<=D.V i) (hg:∀j,j<n->D.G j<=0):
 (∃ y,Ids m n D y 1∧b44 m n y∧k8 (fun j=>g0 j*y j) n=z∧y=J1 m n D 1 (fun _=>0))∧∀y,Ids m n D y 1->b44 m n y->k8 (fun j=>g0 j*y j) n<=z:=by
 refine ⟨⟨_,X2 hP 1 (fun _=>0),fun w hw=>?_,?_,rfl⟩,fun y hy hp=>?_⟩
 ·rcases hP.all w hw with ⟨i,hi,rfl⟩|⟨j,hj,rfl⟩
  ·rw [a4T hP hi,v5 fun j hj=>by grind];have:=hv i hi;grind
  ·rw [a0z hP hj];grind
 ·rw [hG _ _ (X2 hP 1 (fun _=>0)),v5 fun j hj=>by rw [a0z hP hj];grind];grind
 ·rw [hG _ _ hy];have:k8 (fun j=>D.G j*y (D.F j)) n<=0:=a7H fun j hj=>by
   have h1:=hg j hj;have h2:=hp (D.F j) (hP.fb j hj);have:=lb0 (show 0<=-(D.G j) by grind) h2;grind
  grind
def b8x {m n:Nat} {D:Fd} (hP:R4 m n D) {r:Nat} (hr:r<m) (hv:D.V r<0) (ha:∀j,j<n->0<=D.A r j):∀y,Ids m n D y 1->¬b44 m n y:=by
 intro y hy hp;have h1:=hy r hr;have h2:=hp (D.O r) (hP.ob r hr);have h3:0<=k8 (fun j=>D.A r j*y (D.F j)) n:=ai3 fun j hj=>lb0 (ha j hj) (hp _ (hP.fb j hj))
 grind
def b8C {m n:Nat} {D:Fd} {g0:Nat->Rat} {z:Rat} (hP:R4 m n D) (hG:Z5 n D g0 m z) {s:Nat} (hs:s<n) (hg:0<D.G s) (ha:∀i,i<m->D.A i s<=0):
 ∃y,Ids m n D y 0∧b44 m n y∧0<k8 (fun j=>g0 j*y j) n∧y=J1 m n D 0 (fun j=>if j=s then 1 else 0):=by
 have hsum:∀f:Nat->Rat,k8 (fun j=>f j*(if j=s then (1:Rat) else 0)) n=f s:=fun f=>by
  rw [D3 hs,v5 fun j hj=>by by_cases h:j=s;simp only [h,if_true];simp only [if_neg h];grind];simp only [if_true];grind
 refine ⟨_,X2 hP 0 _,fun w hw=>?_,?_,rfl⟩
 ·rcases hP.all w hw with ⟨i,hi,rfl⟩|⟨j,hj,rfl⟩
  ·rw [a4T hP hi,hsum];have:=ha i hi;grind
  ·rw [a0z hP hj];split<;>grind
 ·rw [hG _ _ (X2 hP 0 _),k5 (g:=fun j=>D.G j*(if j=s then (1:Rat) else 0)) fun j hj=>by rw [a0z hP hj],hsum];grind
end Go.Proofs.YtikokmdpigploaaGreat
