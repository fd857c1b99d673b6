/- Part 7. -/
import Derived.Test.YtikokmdpigploaaGreatQk6
namespace Go.Proofs.YtikokmdpigploaaGreat
set_option linter.all false
set_option maxRecDepth 100000
set_option maxHeartbeats 8000000
open Go.RowKit
open St1 St2 St3 St4 St5 St6 St7 St8 StA StB StC
def b8p {a b n m low:Nat} {A T d Q:Int} (hb:0<b) (hab:b<=a)
 (hm:m=min 2 (dg b).length) (hlow:low=(dg b).length - m) (hn:n=if (dg a).length - min 3 (dg a).length<low then (dg a).length - low else min 3 (dg a).length)
 (hA:A=a4C (dg a) n) (hT:T=a4C (dg b) m) (hd:d=if 0<low then T+1 else T) (hQ:Q=max 1 (A / d)):
 n<=(dg a).length∧n<=3∧low<=(dg a).length - n∧1<=d∧0<Q∧Q<1152921504606846976∧pw ((dg a).length - n - low)*Q*(b:Int)<=a:=by
 have hla:=p7 hab;have hoa:Okd (dg a):=(U5 a).1;have hob:Okd (dg b):=(U5 b).1;have hlb:0<(dg b).length:=by
  have:dg b≠[]:=fun h=>by have:=L1.1 h;omega
  exact a7h.2 this
 have hnl:n<=(dg a).length:=by rw [hn];split<;>omega
 have hn3:n<=3:=by rw [hn];split<;>omega
 have hz:low<=(dg a).length - n:=by rw [hn];split<;>omega
 obtain ⟨A0,A1⟩:=a2C hoa hnl hn3;obtain ⟨T0,T1⟩:=b06 hob (k:=m) om;obtain ⟨sa,sa2⟩:=as3 hoa hnl;obtain ⟨sb,sb2⟩:=as3 hob (k:=m) om;rw [p9] at sa sa2 sb sb2;rw [← hA] at A0 A1 sa sa2;rw [← hT] at T0 T1 sb sb2;rw [← hlow] at sb sb2;have hpl:=K6 low;have hbd:(b:Int)<=pw low*d:=by
  rw [hd];split
  ·omega
  ·have h0:low=0:=by omega
   rw [h0,aI9] at sb sb2 ⊢;omega
 have hd1:1<=d:=by
  apply a2R;intro h;have:pw low*d<=pw low*0:=lbX om om;omega
 have hq0:0<=A / d:=au1 A0 om;have hqA:A / d<=A:=Int.ediv_le_self _ A0;refine ⟨hnl,hn3,hz,hd1,om,om,?_⟩;by_cases h1:1<=A / d
 ·have hQ2:Q=A / d:=by omega
  have hmul:Q*d<=A:=by rw [hQ2];exact Int.ediv_mul_le A om
  have e1:pw ((dg a).length - n)=pw ((dg a).length - n - low)*pw low:=by rw [← a5K];congr 1;omega
  have hp:=K6 ((dg a).length - n - low);have s1:pw ((dg a).length - n - low)*Q*(b:Int)<=pw ((dg a).length - n - low)*Q*(pw low*d):=lbX hbd (lb1 om om);have s2:pw ((dg a).length - n - low)*Q*(pw low*d)=pw ((dg a).length - n)*(Q*d):=by rw [e1];grind
  have s3:pw ((dg a).length - n)*(Q*d)<=pw ((dg a).length - n)*A:=lbX hmul (by have:=K6 ((dg a).length - n);omega);omega
 ·have hQ2:Q=1:=by omega
  have hAd:A<d:=by
   apply a2R;intro h;have:1<=A / d:=by rw [Int.le_ediv_iff_mul_le om];omega
   omega
  have hz0:(dg a).length - n - low=0:=by
   apply a2R;intro hne;have hn2:n=3:=by rw [hn] at hne ⊢;split at hne<;>rename_i hc<;>simp only [hc,if_true,if_false] at * <;>omega
   have htop:=ai6 (n:=a) om;have hm2:=a0W (show m<=2 by omega);have e2:pw ((dg a).length - 1)=pw ((dg a).length - 3)*pw 2:=by rw [← a5K];congr 1;omega
   rw [hn2] at sa2;have hAge:pw 2<=A:=by
    apply a2R;intro h;have:pw ((dg a).length - 3)*(A+1)<=pw ((dg a).length - 3)*pw 2:=lbX om (by have:=K6 ((dg a).length - 3);omega);omega
   have:d<=pw 2:=by rw [hd];split<;>omega
   omega
  rw [hz0,aI9,hQ2];omega
def b9h (k:Nat) (l:LI):val (List.replicate k 0++l)=pw k*val l:=by
 rw [L4,a6J,a9T];omega
def b7T {k:Nat} {Q:Int} (h:0<Q):bz (pw k*Q)=⟨1,List.replicate k 0++dg Q.natAbs⟩:=by
 have hp:=K6 k;have hpos:0<pw k*Q:=a9r hp h;have hr:J6 ⟨1,List.replicate k 0++dg Q.natAbs⟩=true:=by
  have hc:=U5 Q.natAbs;have hne:dg Q.natAbs≠[]:=fun e=>by have:=L1.1 e;omega
  have hl:=a7h.2 hne;unfold J6;have ho:Okd (List.replicate k 0++dg Q.natAbs):=(Okd.zeros k).append hc.1;rw [aH9.2 ho];simp only [lbq,a9T];rw [if_neg om];obtain ⟨x,hx⟩:∃x,(dg Q.natAbs)[(dg Q.natAbs).length - 1]? =some x:=⟨_,lbf om⟩;have hx2:(List.replicate k 0++dg Q.natAbs)[k+(dg Q.natAbs).length - 1]? =some x:=by
   rw [lbc zo,a9T,show k+(dg Q.natAbs).length - 1 - k=(dg Q.natAbs).length - 1 by omega,hx]
  rw [a2x hx2];have:=hc.2 x hx;simp [this]
 have e:bv ⟨1,List.replicate k 0++dg Q.natAbs⟩=pw k*Q:=by
  show 1*val (List.replicate k 0++dg Q.natAbs)=_;rw [b9h,p9];have:((Q.natAbs:Nat):Int)=Q:=om;rw [this];omega
 rw [← e];exact (bk8 hr).symm
def R6 (c:M9):Bool:=
 decide (0<=c.since) && decide (c.since<=c.till) && decide (c.till<=100000) && idx c.scale 30 && btw c.grams 0 1099511627776 && btw c.permille 0 1000 && btw c.drift 0 10000000
def L8 (c:M9) (day:Int):Bool:=R6 c && btw day c.since c.till
def aM4 (cs:List M9) (i:Nat):Int:=((cs[i]?).map (·.since)).getD 0
def a5j (cs:List M9) (o:Option Nat) (c:M9):Bool:=match o with
 |none=>true
 |some b=>decide (aM4 cs b<=c.since)
def D8 (cs:List M9) (scale day:Int):Nat->Option Nat
 |0=>none
 |k+1=>match cs[k]? with
  |none=>D8 cs scale day k
  |some c=>if decide (c.scale=scale) && L8 c day && a5j cs (D8 cs scale day k) c then some k else D8 cs scale day k
def O0 {cs:List M9} {scale day:Int}:∀{k b:Nat},D8 cs scale day k=some b->b<k∧∃c,cs[b]? =some c∧c.scale=scale∧L8 c day=true
 |0,b,h=>by simp [D8] at h
 |k+1,b,h=>by
  unfold D8 at h;split at h
  ·obtain ⟨h1,h2⟩:=O0 h;exact ⟨om,h2⟩
  ·rename_i c hc;split at h
   ·rename_i hcc;injection h with h;subst h;simp only [lbO,lbJ] at hcc;exact ⟨om,c,hc,hcc.1.1,hcc.1.2⟩
   ·obtain ⟨h1,h2⟩:=O0 h;exact ⟨om,h2⟩
def a2n (rs:List F6) (scale day:Int):Bool:=rs.any fun r=>decide (r.scale=scale) && decide (r.since<=day)
def a3H (c:M9) (reading day:Int):Rat:=Rat.divInt (c.permille*reading) 1000+((c.grams+c.drift*(day - c.since):Int):Rat)
def aH3 (x y:Rat):Rat:=if x<y then y else x
def b5A:M9:=⟨0,0,0,0,0,0⟩
def a1V (cs:List M9) (i:Nat):M9:=(cs[i]?).getD b5A
def L9 (cs:List M9) (rs:List F6) (scale reading day:Int):Option (Rat × Rat):=
 match D8 cs scale day cs.length with
 |none=>none
 |some i=>if a2n rs scale day then none else if btw reading 0 1099511627776 then
   some (aH3 ((reading:Rat) - a3H (a1V cs i) reading day) ((0:Int):Rat),(reading:Rat)+a3H (a1V cs i) reading day) else none
def bI4 (l:List Rat):Rat:=l.foldl (·+·) ((0:Int):Rat)
def hz (H:List (List Rat)):List (List Fr):=H.map (·.map fz)
def hAt (H:List (List Rat)) (k m:Nat):Rat:=(H.getD k []).getD m 0
def aM7 (x:A8) (v:Nat->Rat) (f:Nat->Nat->Rat):Nat->Nat->Rat:=fun p m=>if x.src=(p:Int) then f p m - v m else if x.dst=(p:Int) then f p m+v m else f p m
def stk (e:Ev) (H:List (List Rat)):Nat->Nat->Nat->Rat
 |0=>fun _ _=>((0:Int):Rat)
 |k+1=>match e.moves[k]? with
  |none=>stk e H k
  |some x=>aM7 x (hAt H k) (stk e H k)
def inB (iv:Option (Rat × Rat)) (mass:Rat):Bool:=match iv with
 |none=>true
 |some (lo,hi)=>decide (lo<=mass) && decide (mass<=hi)
def bC0 (e:Ev) (x:A8) (mass:Rat):Bool:=if x.scale=-1 then true else inB (L9 e.certs e.recalls x.scale x.reading x.day) mass
def b38:rl ((0:Int):Rat)=1:=by rw [a18];rfl
def k7 (f:Nat->Rat):Nat->Rat
 |0=>((0:Int):Rat)
 |n+1=>k7 f n+f n
def a0Q:((0:Int):Rat)=0:=rfl
def j7 {f g:Nat->Rat}:∀{n:Nat},(∀ m,m<n->f m=g m)->k7 f n=k7 g n
 |0,_=>rfl
 |n+1,h=>by simp only [k7];rw [j7 fun m hm=>h m om,h n om]
def getD_some {l:List Rat} {m:Nat} (h:m<l.length):l[m]? =some (l.getD m 0):=by rw [lbl,lbf h];rfl
def bG4 (xs ys:LI) (k:Nat):Prop:=xs.take k=ys.take k
def a8R {e:Ev} {G:List (List Rat)} {k:Nat} {x:A8} (hx:e.moves[k]? =some x):stk e G (k+1)=aM7 x (hAt G k) (stk e G k):=by
 conv=>lhs;unfold stk
 rw [hx]
def af9 {e:Ev} {G:List (List Rat)} {k:Nat} (hx:e.moves[k]? =none):stk e G (k+1)=stk e G k:=by
 conv=>lhs;unfold stk
 rw [hx]
def b1R {e:Ev} {x:A8} (h:L2 e x=true) (ha:x.all=true):w9 e x.src≠0:=by
 unfold L2 at h;simp only [lbO,lbJ] at h;have:=h.1.1.2;rw [ha] at this;simpa using this
def M5 (e:Ev) (x:A8):Option (Rat × Rat):=if x.scale=-1 then none else L9 e.certs e.recalls x.scale x.reading x.day
structure P5 where
 mv:Int
 kind:Int
 grams:Int
structure Y8 where
 mv:Int
 kind:Int
structure j6 where
 ev:Ev
 finds:List P5
 cleans:List Y8
def a25 (e:Ev) (mv kind:Int):Int:=if mv<0∨(e.moves.length:Int)<=mv then 4 else if kind<0∨8<=kind then 1 else 0
def Q7 (e:Ev):List P5->Int
 |[]=>0
 |f::r=>if a25 e f.mv f.kind≠0 then a25 e f.mv f.kind else if f.grams<1∨1099511627776<f.grams then 3 else Q7 e r
def P8 (e:Ev):List Y8->Int
 |[]=>0
 |c::r=>if a25 e c.mv c.kind≠0 then a25 e c.mv c.kind else P8 e r
def y7 (t:j6):Int:=
 if F3 t.ev≠0 then F3 t.ev else if 20<t.finds.length∨50<t.cleans.length then 6
 else if Q7 t.ev t.finds≠0 then Q7 t.ev t.finds else P8 t.ev t.cleans
def t8 (l:List P5) (kind:Int) (i:Nat):LI:=(l.filter fun f=>decide (f.kind=kind) && decide (f.mv=(i:Int))).map (·.grams)
def B2 (l:List Y8) (kind:Int) (i:Nat):Nat:=(l.filter fun c=>decide (c.kind=kind) && decide (c.mv=(i:Int))).length
def col (z:List Rat):List (List Rat):=z.map fun v=>[v]
def ag5 (z:List Rat) (k:Nat):hAt (col z) k 0=z.getD k 0:=by
 unfold hAt col;cases h:z[k]?<;>simp [lbl,h]
def a1N (e:Ev) (z:List Rat) (k p:Nat):Rat:=stk e (col z) k p 0
def b7j (iv:Option (Rat × Rat)) (v:Rat):Bool:=match iv with
 |none=>true
 |some (_,hi)=>decide (v<=hi)
structure by8 (e:Ev) (x:A8) (v f:Rat):Prop where
 pos:0<=v
 most:w9 e x.src≠0->v<=f
 all:x.all=true->v=f
structure b8J (t:j6) (kind:Int) (i:Nat) (x:A8) (v:Rat):Prop where
 cap:b7j (M5 t.ev x) v=true
 fin:∀g ∈ t8 t.finds kind i,(g:Rat)<=v
 cln:0<B2 t.cleans kind i->v=0
structure b9z (t:j6) (kind:Int) (z:List Rat):Prop where
 tr:y7 t=0
 k0:0<=kind
 k1:kind<8
 len:z.length=t.ev.moves.length
 step:∀i x,t.ev.moves[i]? =some x->by8 t.ev x (z.getD i 0) (a1N t.ev z i x.src.toNat)∧b8J t kind i x (z.getD i 0)
def br0 (z:List Rat):(z.map fz).map fv=z:=by
 rw [a4P];conv=>rhs;rw [← List.map_id z]
 exact lbp fun x _=>bC3 x
def v3 {t:j6} (h:y7 t=0):F3 t.ev=0∧t.finds.length<=20∧t.cleans.length<=50∧Q7 t.ev t.finds=0∧P8 t.ev t.cleans=0:=by
 unfold y7 at h;by_cases h1:F3 t.ev≠0
 ·rw [if_pos h1] at h;exact absurd h h1
 rw [if_neg h1] at h;by_cases h2:20<t.finds.length∨50<t.cleans.length
 ·rw [if_pos h2] at h;cases h
 rw [if_neg h2] at h;by_cases h3:Q7 t.ev t.finds≠0
 ·rw [if_pos h3] at h;exact absurd h h3
 rw [if_neg h3] at h;exact ⟨by simpa using h1,om,om,by simpa using h3,h⟩
def b4j {t:j6} (h1:F3 t.ev=0) (h2:t.finds.length<=20) (h3:t.cleans.length<=50) (h4:Q7 t.ev t.finds=0) (h5:P8 t.ev t.cleans=0):y7 t=0:=by
 unfold y7;rw [if_neg (by simp [h1]),if_neg om,if_neg (by simp [h4]),h5]
def I0 {e:Ev}:∀{l:List P5},Q7 e l=0->∀f ∈ l,0<=f.mv∧f.mv<e.moves.length∧0<=f.kind∧f.kind<8∧1<=f.grams∧f.grams<=1099511627776
 |[],_,f,hf=>by cases hf
 |g::r,h,f,hf=>by
  unfold Q7 at h;by_cases h1:a25 e g.mv g.kind≠0
  ·rw [if_pos h1] at h;exact absurd h h1
  rw [if_neg h1] at h;by_cases h2:g.grams<1∨1099511627776<g.grams
  ·rw [if_pos h2] at h;cases h
  rw [if_neg h2] at h;rcases lbB.1 hf with rfl|hf
  ·unfold a25 at h1;by_cases h3:f.mv<0∨(e.moves.length:Int)<=f.mv
   ·rw [if_pos h3] at h1;exact absurd de h1
   rw [if_neg h3] at h1;by_cases h4:f.kind<0∨8<=f.kind
   ·rw [if_pos h4] at h1;exact absurd de h1
   omega
  ·exact I0 h f hf
def a7Z (l:List P5) (f:P5) (kind:Int) (i:Nat):t8 (l++[f]) kind i=t8 l kind i++(if f.kind=kind∧f.mv=(i:Int) then [f.grams] else []):=by
 unfold t8;rw [lb9,lbD];by_cases h:f.kind=kind∧f.mv=(i:Int)
 ·rw [if_pos h];simp [h.1,h.2]
 ·rw [if_neg h];have:(decide (f.kind=kind) && decide (f.mv=(i:Int)))=false:=by
   rw [← lbR];simp only [lbO,lbJ];exact h
  simp [this]
def a1u (l:List Y8) (c:Y8) (kind:Int) (i:Nat):B2 (l++[c]) kind i=B2 l kind i+(if c.kind=kind∧c.mv=(i:Int) then 1 else 0):=by
 unfold B2;rw [lb9,lbq];by_cases h:c.kind=kind∧c.mv=(i:Int)
 ·rw [if_pos h];simp [h.1,h.2]
 ·rw [if_neg h];have:(decide (c.kind=kind) && decide (c.mv=(i:Int)))=false:=by
   rw [← lbR];simp only [lbO,lbJ];exact h
  simp [this]
def b3D {e:Ev} {W A B:List (List Rat)} {a b:Rat} {m ma mb:Nat} (h:∀i,i<e.moves.length->hAt W i m=a*hAt A i ma+b*hAt B i mb):∀k p,stk e W k p m=a*stk e A k p ma+b*stk e B k p mb
 |0,p=>by simp only [stk,a0Q];grind
 |k+1,p=>by
  have ih:=b3D h k p;cases hx:e.moves[k]? with
  |none=>rw [af9 hx,af9 hx,af9 hx];exact ih
  |some x=>
   have hk:k<e.moves.length:=(lbe.1 hx).1;rw [a8R hx,a8R hx,a8R hx];unfold aM7;have hv:=h k hk;split
   ·rw [ih,hv];grind
   ·split
    ·rw [ih,hv];grind
    ·exact ih
def b7I {e:Ev} {w y z:List Rat} {a b:Rat} (h:∀i,i<e.moves.length->w.getD i 0=a*z.getD i 0+b*y.getD i 0) (k p:Nat):a1N e w k p=a*a1N e z k p+b*a1N e y k p:=
 b3D (fun i hi=>by rw [ag5,ag5,ag5];exact h i hi) k p
def ac3 {a b c:Rat} (h:a<=b) (hc:0<=c):c*a<=c*b:=by
 have:=lb2 hc (show 0<=b - a by grind);grind
def B9 (t:j6):j6:={ t with finds:=[] }
def a3V {t:j6} (h:y7 t=0):y7 (B9 t)=0:=by
 obtain ⟨q1,q2,q3,q4,q5⟩:=v3 h;exact b4j q1 (by simp [B9]) q3 rfl q5
def ay9 {e:Ev} {z:List Rat} {k:Nat} {x:A8} (hx:e.moves[k]? =some x) (p:Nat):a1N e z (k+1) p=if x.src=(p:Int) then a1N e z k p - z.getD k 0 else if x.dst=(p:Int) then a1N e z k p+z.getD k 0 else a1N e z k p:=by
 unfold a1N;rw [a8R hx];unfold aM7;rw [ag5]
def b0i {e:Ev} {z:List Rat} {k:Nat} (hx:e.moves[k]? =none) (p:Nat):a1N e z (k+1) p=a1N e z k p:=by
 unfold a1N;rw [af9 hx]
def b0I {t:j6} {kind:Int} {z:List Rat} (h:b9z t kind z):∀k p:Nat,w9 t.ev p≠0->0<=a1N t.ev z k p
 |0,p,_=>lb4
 |k+1,p,hp=>by
  have ih:=b0I h k p hp;cases hx:t.ev.moves[k]? with
  |none=>rw [b0i hx];exact ih
  |some x=>
   obtain ⟨h1,_⟩:=h.step k x hx;have hz:=h1.pos;rw [ay9 hx];split
   ·rename_i hs;have:=h1.most (by rw [hs];exact hp);rw [hs,show ((p:Int)).toNat=p by omega] at this;grind
   ·split
    ·grind
    ·exact ih
def a2z {f:Nat->Rat}:∀{n:Nat},(∀ p,p<n->0<=f p)->0<=k7 f n
 |0,_=>lb4
 |n+1,h=>by
  have h1:=a2z (n:=n) fun p hp=>h p om
  have h2:=h n om;simp only [k7];grind
def aU7 {f:Nat->Rat}:∀{n p:Nat},(∀ p,p<n->0<=f p)->p<n->f p<=k7 f n
 |n+1,p,h,hp=>by
  simp only [k7];rcases F8 p n with hpn|hpn
  ·have h1:=aU7 (f:=f) (n:=n) (p:=p) (fun q hq=>h q om) hpn;have h2:=h n om;grind
  ·obtain rfl:p=n:=by omega
   have h1:=a2z (f:=f) (n:=p) fun q hq=>h q om
   grind
section
structure Fd where
 V:Nat->Rat
 A:Nat->Nat->Rat
 G:Nat->Rat
 O:Nat->Nat
 F:Nat->Nat
namespace Fd
set_option linter.all false
def pRow (D:Fd) (r s j:Nat):Rat:=if j=s then 1 / D.A r s else D.A r j / D.A r s
def exch (D:Fd) (r s:Nat):Fd where
 V:=fun i=>if i=r then D.V r / D.A r s else D.V i - D.A i s*(D.V r / D.A r s)
 A:=fun i j=>if i=r then D.pRow r s j else if j=s then 0 - D.A i s*D.pRow r s s else D.A i j - D.A i s*D.pRow r s j
 G:=fun j=>if j=s then 0 - D.G s*D.pRow r s s else D.G j - D.G s*D.pRow r s j
 O:=fun i=>if i=r then D.F s else D.O i
 F:=fun j=>if j=s then D.O r else D.F j
end Fd
def E1 {f:Nat->Rat} {s:Nat}:∀{n:Nat},s<n->k7 f n=k7 (fun j=>if j=s then 0 else f j) n+f s
 |0,h=>om
 |n+1,h=>by
  simp only [k7];by_cases hs:s=n
  ·subst hs;rw [if_pos rfl,j7 (n:=s) (f:=fun j=>if j=s then 0 else f j) (g:=f) fun m hm=>by rw [if_neg om]];grind
  ·rw [if_neg (show ¬n=s by omega),E1 (f:=f) (s:=s) (n:=n) om];grind
def G1 {f:Nat->Rat} (k:Rat):∀n:Nat,k7 (fun j=>k*f j) n=k*k7 f n
 |0=>by simp only [k7,a0Q];grind
 |n+1=>by simp only [k7];rw [G1 k n];grind
def a1s {f g:Nat->Rat}:∀n:Nat,k7 (fun j=>f j+g j) n=k7 f n+k7 g n
 |0=>by simp only [k7,a0Q];grind
 |n+1=>by simp only [k7];rw [a1s n];grind
def x4 {f:Nat->Rat}:∀{n:Nat},(∀ j,j<n->f j=0)->k7 f n=0
 |0,_=>by simp only [k7,a0Q]
 |n+1,h=>by simp only [k7];rw [x4 fun j hj=>h j om,h n om];grind
def a85 {f:Nat->Rat}:∀{n:Nat},(∀ j,j<n->f j<=0)->k7 f n<=0
 |0,_=>by simp only [k7,a0Q];grind
 |n+1,h=>by
  simp only [k7];have h1:=a85 (f:=f) (n:=n) fun j hj=>h j om
  have h2:=h n om;grind
def bh9 {f:Nat->Rat} {n s:Nat} (h:∀j,j<n->f j<=0) (hs:s<n) (h0:f s<0):k7 f n<0:=by
 rw [E1 hs];have:=a85 (f:=fun j=>if j=s then 0 else f j) (n:=n) fun j hj=>by split;grind;exact h j hj
 grind
def b3P {f:Nat->Rat} {n s:Nat} (h:∀j,j<n->0<=f j) (hs:s<n) (h0:0<f s):0<k7 f n:=by
 rw [E1 hs];have:=a2z (f:=fun j=>if j=s then 0 else f j) (n:=n) fun j hj=>by
  by_cases hj2:j=s
  ·simp only [hj2,if_true];grind
  ·simp only [if_neg hj2];exact h j hj
 grind
def Ids (m n:Nat) (D:Fd) (y:Nat->Rat) (c:Rat):Prop:=∀i,i<m->y (D.O i)=c*D.V i - k7 (fun j=>D.A i j*y (D.F j)) n
def aj1 {D:Fd} {r s n:Nat} {y:Nat->Rat} (hs:s<n) (f:Nat->Rat) (f':Nat->Rat) (k:Rat) (hf:∀j,j≠s->f' j=f j - k*D.pRow r s j):
 k7 (fun j=>f' j*y ((D.exch r s).F j)) n=k7 (fun j=>if j=s then 0 else f j*y (D.F j)) n - k*k7 (fun j=>if j=s then 0 else D.pRow r s j*y (D.F j)) n+f' s*y (D.O r):=by
 rw [E1 hs];have h1:(D.exch r s).F s=D.O r:=by show (if s=s then D.O r else D.F s)=_;rw [if_pos rfl]
 rw [h1];have h2:k7 (fun j=>if j=s then 0 else f' j*y ((D.exch r s).F j)) n=k7 (fun j=>(if j=s then 0 else f j*y (D.F j))+(-k)*(if j=s then 0 else D.pRow r s j*y (D.F j))) n:=j7 fun j hj=>by
  by_cases h:j=s
  ·rw [if_pos h,if_pos h,if_pos h];grind
  ·rw [if_neg h,if_neg h,if_neg h,hf j h];have:(D.exch r s).F j=D.F j:=by show (if j=s then D.O r else D.F j)=_;rw [if_neg h]
   rw [this];grind
 rw [h2,a1s,G1];grind
def av5 {D:Fd} {r s n:Nat} {y:Nat->Rat} {c:Rat} (hs:s<n) (hp:D.A r s≠0):
 y (D.O r)=c*D.V r - k7 (fun j=>D.A r j*y (D.F j)) n↔y (D.F s)=c*(D.V r / D.A r s) - k7 (fun j=>if j=s then 0 else D.pRow r s j*y (D.F j)) n - 1 / D.A r s*y (D.O r):=by
 have e1:k7 (fun j=>D.A r j*y (D.F j)) n=D.A r s*k7 (fun j=>if j=s then 0 else D.pRow r s j*y (D.F j)) n+D.A r s*y (D.F s):=by
  rw [E1 hs,←G1]
  congr 1
  refine j7 fun j hj=>?_
  by_cases h:j=s
  ·simp only [if_pos h];grind
  ·simp only [if_neg h];unfold Fd.pRow;rw [if_neg h];grind
 rw [e1];generalize k7 (fun j=>if j=s then 0 else D.pRow r s j*y (D.F j)) n=R;generalize y (D.F s)=a;generalize y (D.O r)=b;generalize D.V r=v;generalize D.A r s=p at *;constructor
 ·intro h;rw [h];grind
 ·intro h;rw [h];grind
def ao1 {m n:Nat} {D:Fd} {r s:Nat} {y:Nat->Rat} {c:Rat} (hr:r<m) (hs:s<n) (hp:D.A r s≠0):Ids m n D y c↔Ids m n (D.exch r s) y c:=by
 have hO:(D.exch r s).O r=D.F s:=by show (if r=r then D.F s else D.O r)=_;rw [if_pos rfl]
 have hV:(D.exch r s).V r=D.V r / D.A r s:=by show (if r=r then _ else _)=_;rw [if_pos rfl]
 have hA:∀j,(D.exch r s).A r j=D.pRow r s j:=fun j=>by show (if r=r then _ else _)=_;rw [if_pos rfl]
 have hps:D.pRow r s s=1 / D.A r s:=by unfold Fd.pRow;rw [if_pos rfl]
 have rowr:(y ((D.exch r s).O r)=c*(D.exch r s).V r - k7 (fun j=>(D.exch r s).A r j*y ((D.exch r s).F j)) n)↔y (D.O r)=c*D.V r - k7 (fun j=>D.A r j*y (D.F j)) n:=by
  rw [av5 hs hp,hO,hV];have h:=aj1 (D:=D) (r:=r) (y:=y) hs (fun _=>0) ((D.exch r s).A r) (-1) (fun j hj=>by rw [hA];grind);rw [h,hA,hps,x4 (f:=fun j=>if j=s then 0 else 0*y (D.F j)) (fun j _=>by split<;>grind)];constructor
  ·intro h;rw [h];grind
  ·intro h;rw [h];grind
 have rowi:∀i,i≠r->y (D.O r)=c*D.V r - k7 (fun j=>D.A r j*y (D.F j)) n->
  ((y ((D.exch r s).O i)=c*(D.exch r s).V i - k7 (fun j=>(D.exch r s).A i j*y ((D.exch r s).F j)) n)↔y (D.O i)=c*D.V i - k7 (fun j=>D.A i j*y (D.F j)) n):=fun i hi h0=>by
  rw [av5 hs hp] at h0;have h1:(D.exch r s).O i=D.O i:=by show (if i=r then _ else _)=_;rw [if_neg hi]
  have h2:(D.exch r s).V i=D.V i - D.A i s*(D.V r / D.A r s):=by show (if i=r then _ else _)=_;rw [if_neg hi]
  have h3:∀j,j≠s->(D.exch r s).A i j=D.A i j - D.A i s*D.pRow r s j:=fun j hj=>by show (if i=r then _ else _)=_;rw [if_neg hi,if_neg hj]
  have h4:(D.exch r s).A i s=0 - D.A i s*D.pRow r s s:=by show (if i=r then _ else _)=_;rw [if_neg hi,if_pos rfl]
  rw [h1,h2,aj1 hs (D.A i) ((D.exch r s).A i) (D.A i s) h3,h4,hps,E1 (f:=fun j=>D.A i j*y (D.F j)) hs,h0];constructor
  ·intro h;rw [h];grind
  ·intro h;rw [h];grind
 constructor
 ·intro h i hi;by_cases hir:i=r
  ·subst hir;exact rowr.2 (h i hi)
  ·exact (rowi i hir (h r hr)).2 (h i hi)
 ·intro h i hi;have h0:=rowr.1 (h r hr);by_cases hir:i=r
  ·subst hir;exact h0
  ·exact (rowi i hir h0).1 (h i hi)
def a0g (n:Nat) (D:Fd) (g0:Nat->Rat) (m:Nat) (z:Rat):Prop:=∀y c,Ids m n D y c->k7 (fun j=>g0 j*y j) n=c*z+k7 (fun j=>D.G j*y (D.F j)) n
def aC5 {m n:Nat} {D:Fd} {r s:Nat} {g0:Nat->Rat} {z:Rat} (hr:r<m) (hs:s<n) (hp:D.A r s≠0) (h:a0g n D g0 m z):a0g n (D.exch r s) g0 m (z+D.G s*(D.V r / D.A r s)):=by
 intro y c hy;have hy:=(ao1 hr hs hp).2 hy;rw [h y c hy];have h0:=(av5 hs hp).1 (hy r hr);have hps:D.pRow r s s=1 / D.A r s:=by unfold Fd.pRow;rw [if_pos rfl]
 have h3:∀j,j≠s->(D.exch r s).G j=D.G j - D.G s*D.pRow r s j:=fun j hj=>by show (if j=s then _ else _)=_;rw [if_neg hj]
 have h4:(D.exch r s).G s=0 - D.G s*D.pRow r s s:=by show (if s=s then _ else _)=_;rw [if_pos rfl]
 rw [aj1 hs D.G (D.exch r s).G (D.G s) h3,h4,hps,E1 (f:=fun j=>D.G j*y (D.F j)) hs,h0];grind
end
def af1 (i:Nat):Rat:=if i % 2=0 then 1 else -1
def b4g (i:Nat):af1 (i+1)=-(af1 i):=by
 unfold af1;by_cases h:i % 2=0
 ·rw [if_pos h,if_neg om]
 ·rw [if_neg h,if_pos om];grind
def B7 (i:Nat) (M:Nat->Nat->Rat):Nat->Nat->Rat:=fun r c=>M (if r<i then r else r+1) (c+1)
def J5:Nat->(Nat->Nat->Rat)->Rat
 |0,_=>1
 |n+1,M=>k7 (fun i=>af1 i*M i 0*J5 n (B7 i M)) (n+1)
def Q6 (n:Nat) (M:Nat->Nat->Rat):J5 (n+1) M=k7 (fun i=>af1 i*M i 0*J5 n (B7 i M)) (n+1):=rfl
def a2Z:∀{n:Nat} {M N:Nat->Nat->Rat},(∀ i j,i<n->j<n->M i j=N i j)->J5 n M=J5 n N
 |0,_,_,_=>rfl
 |n+1,M,N,h=>by
  rw [Q6,Q6];refine j7 fun i hi=>?_
  rw [h i 0 hi om,a2Z (n:=n) (M:=B7 i M) (N:=B7 i N) fun r c hr hc=>?_];unfold B7;split
  ·exact h _ _ om om
  ·exact h _ _ om om
def F9 (M:Nat->Nat->Rat) (r:Nat) (v:Nat->Rat):Nat->Nat->Rat:=fun i=>if i=r then v else M i
def a9H {M:Nat->Nat->Rat} {r:Nat}:F9 M r (M r)=M:=by
 funext i;unfold F9;by_cases h:i=r
 ·rw [if_pos h,h]
 ·rw [if_neg h]
def ak0 {M:Nat->Nat->Rat} {r:Nat} {v:Nat->Rat}:B7 r (F9 M r v)=B7 r M:=by
 funext a c;unfold B7 F9;by_cases h:a<r
 ·rw [if_pos h,if_neg om]
 ·rw [if_neg h,if_neg om]
def ar4 {M:Nat->Nat->Rat} {i r:Nat} {v:Nat->Rat} (h:i<r):B7 i (F9 M r v)=F9 (B7 i M) (r - 1) (fun c=>v (c+1)):=by
 funext a c;unfold B7 F9;by_cases ha:a<i
 ·simp only [if_pos ha];rw [if_neg om,if_neg om]
 ·simp only [if_neg ha];by_cases h2:a+1=r
  ·rw [if_pos h2,if_pos om]
  ·rw [if_neg h2,if_neg om]
def ao3 {M:Nat->Nat->Rat} {i r:Nat} {v:Nat->Rat} (h:r<i):B7 i (F9 M r v)=F9 (B7 i M) r (fun c=>v (c+1)):=by
 funext a c;unfold B7 F9;by_cases ha:a<i
 ·simp only [if_pos ha];by_cases h2:a=r
  ·rw [if_pos h2,if_pos h2]
  ·rw [if_neg h2,if_neg h2]
 ·simp only [if_neg ha];rw [if_neg om,if_neg om]
def a6G:∀{n:Nat} {M:Nat->Nat->Rat} {r:Nat} {a b:Rat} {v w:Nat->Rat},r<n->J5 n (F9 M r fun c=>a*v c+b*w c)=a*J5 n (F9 M r v)+b*J5 n (F9 M r w)
 |0,_,_,_,_,_,_,h=>om
 |n+1,M,r,a,b,v,w,h=>by
  rw [Q6,Q6,Q6,←G1,←G1,←a1s];refine j7 fun i hi=>?_
  by_cases e:i=r
  ·subst e;rw [ak0,ak0,ak0];unfold F9;simp only [if_true];grind
  ·have e2:∀u:Nat->Rat,F9 M r u i 0=M i 0:=fun u=>by unfold F9;rw [if_neg e]
   rw [e2,e2,e2];by_cases h2:i<r
   ·rw [ar4 h2,ar4 h2,ar4 h2,a6G (n:=n) (M:=B7 i M) (r:=r - 1) (a:=a) (b:=b) (v:=fun c=>v (c+1)) (w:=fun c=>w (c+1)) om];grind
   ·rw [ao3 om,ao3 om,ao3 om,a6G (n:=n) (M:=B7 i M) (r:=r) (a:=a) (b:=b) (v:=fun c=>v (c+1)) (w:=fun c=>w (c+1)) om];grind
def b4b {f:Nat->Rat} {r:Nat}:∀{n:Nat},r+1<n->(∀ i,i<n->i≠r->i≠r+1->f i=0)->k7 f n=f r+f (r+1)
 |0,h,_=>om
 |n+1,h,h0=>by
  show k7 f n+f n=_;by_cases e:n=r+1
  ·subst e;show k7 f r+f r+f (r+1)=_;rw [x4 fun j hj=>h0 j om om om];grind
  ·rw [b4b (r:=r) om (fun i hi=>h0 i om),h0 n om om e];grind
def a6N:∀{n:Nat} {M:Nat->Nat->Rat} {r:Nat},r+1<n->M r=M (r+1)->J5 n M=0
 |0,_,_,h,_=>om
 |n+1,M,r,h,he=>by
  rw [Q6,b4b h fun i hi h1 h2=>?_]
  ·have em:B7 r M=B7 (r+1) M:=by
    funext a c;unfold B7;by_cases h1:a<r
    ·rw [if_pos h1,if_pos om]
    ·rw [if_neg h1];by_cases h2:a<r+1
     ·have:a=r:=by omega
      subst this;rw [if_pos h2,he]
     ·rw [if_neg h2]
   rw [em,he,b4g];grind
  ·by_cases hlt:i<r
   ·rw [a6N (n:=n) (M:=B7 i M) (r:=r - 1) om (by
     funext c;unfold B7;rw [if_neg om,if_neg om,show r - 1+1=r by omega,he])]
    grind
   ·rw [a6N (n:=n) (M:=B7 i M) (r:=r) om (by
     funext c;unfold B7;rw [if_pos om,if_pos om,he])]
    grind
def a6W {M:Nat->Nat->Rat} {r s:Nat} {v w:Nat->Rat} (h:r≠s):F9 (F9 M r v) s w=F9 (F9 M s w) r v:=by
 funext i;unfold F9;by_cases h1:i=r
 ·subst h1;rw [if_neg h,if_pos rfl,if_pos rfl]
 ·rw [if_neg h1];by_cases h2:i=s
  ·simp only [if_pos h2,if_neg h1]
  ·simp only [if_neg h2,if_neg h1]
def a1q {M:Nat->Nat->Rat} {r:Nat} {v:Nat->Rat}:F9 M r v r=v:=by unfold F9;rw [if_pos rfl]
def a0G {M:Nat->Nat->Rat} {r i:Nat} {v:Nat->Rat} (h:i≠r):F9 M r v i=M i:=by unfold F9;rw [if_neg h]
def aR0 {n:Nat} {M:Nat->Nat->Rat} {r:Nat} (v w:Nat->Rat) (h:r<n):J5 n (F9 M r fun c=>v c+w c)=J5 n (F9 M r v)+J5 n (F9 M r w):=by
 have:=a6G (M:=M) (a:=1) (b:=1) (v:=v) (w:=w) h;have e:(fun c=>(1:Rat)*v c+1*w c)=fun c=>v c+w c:=by funext c;grind
 rw [e] at this;grind
def b6v {n:Nat} {M:Nat->Nat->Rat} {r:Nat} (h:r+1<n) (v w:Nat->Rat):J5 n (F9 (F9 M r v) (r+1) w)=-(J5 n (F9 (F9 M r w) (r+1) v)):=by
 have key:J5 n (F9 (F9 M r fun c=>v c+w c) (r+1) fun c=>v c+w c)=0:=a6N h (by rw [a1q,a0G om,a1q]);rw [aR0 v w h,a6W (show r≠r+1 by omega),a6W (show r≠r+1 by omega),aR0 v w om,aR0 v w om] at key;have z1:J5 n (F9 (F9 M (r+1) v) r v)=0:=a6N h (by rw [a1q,a0G om,a1q]);have z2:J5 n (F9 (F9 M (r+1) w) r w)=0:=a6N h (by rw [a1q,a0G om,a1q]);rw [z1,z2] at key;rw [a6W (show r≠r+1 by omega),a6W (show r≠r+1 by omega)];grind
def b2N:∀(d:Nat) {n:Nat} {M:Nat->Nat->Rat} {r s:Nat},s=r+1+d->s<n->M r=M s->J5 n M=0
 |0,n,M,r,s,hs,hn,he=>by subst hs;exact a6N hn he
 |d+1,n,M,r,s,hs,hn,he=>by
  obtain ⟨q,rfl⟩:∃q,s=q+1:=⟨s - 1,om⟩;have e1:M=F9 (F9 M q (M q)) (q+1) (M (q+1)):=by rw [a9H,a9H]
  rw [e1,b6v hn];have:=b2N d (n:=n) (M:=F9 (F9 M q (M (q+1))) (q+1) (M q)) (r:=r) (s:=q) om om (by
   rw [a0G om,a0G om,a0G om,a1q,he])
  rw [this];grind
def b6S {n:Nat} {M:Nat->Nat->Rat} {r s:Nat} (hr:r<n) (hs:s<n) (h:r≠s) (he:M r=M s):J5 n M=0:=by
 by_cases hlt:r<s
 ·exact b2N (s - r - 1) om hs he
 ·exact b2N (r - s - 1) (r:=s) (s:=r) om hr he.symm
def b3r {n:Nat} {M:Nat->Nat->Rat} {r:Nat} (hr:r<n) (c:Nat->Rat) (v:Nat->Nat->Rat):∀k,J5 n (F9 M r fun l=>k7 (fun i=>c i*v i l) k)=k7 (fun i=>c i*J5 n (F9 M r (v i))) k
 |0=>by
  have:=a6G (M:=M) (a:=0) (b:=0) (v:=fun _=>0) (w:=fun _=>0) hr;have e:(fun l:Nat=>k7 (fun i=>c i*v i l) 0)=fun _=>(0:Rat)*0+0*0:=by funext l;show (0:Rat)=_;grind
  rw [e,this];show _=(0:Rat);grind
 |k+1=>by
  have ih:=b3r (M:=M) hr c v k;have:=a6G (M:=M) (a:=1) (b:=c k) (v:=fun l=>k7 (fun i=>c i*v i l) k) (w:=v k) hr;have e:(fun l=>k7 (fun i=>c i*v i l) (k+1))=fun l=>(1:Rat)*k7 (fun i=>c i*v i l) k+c k*v k l:=by funext l;show k7 _ k+_=_;grind
  rw [e,this,ih];show _=k7 _ k+_;grind
def ar2 {n:Nat} {M:Nat->Nat->Rat} {c:Nat->Rat} {u:Nat->Rat} (hu:∀l,l<n->u l=k7 (fun k=>c k*M k l) n) {j:Nat} (hj:j<n):J5 n (F9 M j u)=c j*J5 n M:=by
 have e:J5 n (F9 M j u)=J5 n (F9 M j fun l=>k7 (fun k=>c k*M k l) n):=a2Z fun a b ha hb=>by
  unfold F9;split
  ·exact hu b hb
  ·rfl
 rw [e,b3r hj,E1 hj,a9H,x4 fun k hk=>?_]
 ·grind
 ·by_cases h:k=j
  ·rw [if_pos h]
  ·rw [if_neg h,b6S (r:=k) (s:=j) hk hj h (by rw [a0G h,a1q])];grind
def b2D (i:Nat):∃z:Int,af1 i=((z:Int):Rat)∧z.natAbs=1:=by
 unfold af1;split
 ·exact ⟨1,rz⟩
 ·exact ⟨-1,rz⟩
def a4t:Nat->(Nat->Nat)->Nat
 |0,_=>1
 |n+1,B=>(n+1)*(B 0*a4t n fun c=>B (c+1))
def aX4 {f:Nat->Rat} {B:Nat}:∀{n:Nat},(∀ i,i<n->∃z:Int,f i=((z:Int):Rat)∧z.natAbs<=B)->∃z:Int,k7 f n=((z:Int):Rat)∧z.natAbs<=n*B
 |0,_=>⟨0,rfl,zq⟩
 |n+1,h=>by
  obtain ⟨a,ha,ha2⟩:=aX4 (n:=n) fun i hi=>h i om
  obtain ⟨b,hb,hb2⟩:=h n om;refine ⟨a+b,by show k7 f n+f n=_;rw [ha,hb];push_cast;rfl,?_⟩;have:=Int.natAbs_add_le a b;rw [lbW];omega
def a6H:∀{n:Nat} {M:Nat->Nat->Rat} {B:Nat->Nat},(∀ i j,i<n->j<n->∃z:Int,M i j=((z:Int):Rat)∧z.natAbs<=B j)->∃z:Int,J5 n M=((z:Int):Rat)∧z.natAbs<=a4t n B
 |0,_,_,_=>⟨1,rfl,by simp [a4t]⟩
 |n+1,M,B,h=>by
  rw [Q6];refine aX4 fun i hi=>?_
  obtain ⟨a,ha,ha2⟩:=b2D i;obtain ⟨b,hb,hb2⟩:=h i 0 hi om;obtain ⟨c,hc,hc2⟩:=a6H (n:=n) (M:=B7 i M) (B:=fun c=>B (c+1)) fun r c hr hc=>by
   unfold B7;split
   ·exact h _ _ om om
   ·exact h _ _ om om
  refine ⟨a*b*c,by rw [ha,hb,hc];push_cast;rfl,?_⟩;rw [a2F,a2F,ha2,Nat.one_mul];exact lbU hb2 hc2
def a33 {f:Nat->Rat}:∀n:Nat,k7 f (n+1)=f 0+k7 (fun l=>f (l+1)) n
 |0=>by simp only [k7];grind
 |n+1=>by
  have ih:=a33 (f:=f) n;have e:k7 f (n+1+1)=k7 f (n+1)+f (n+1):=rfl;rw [e,ih];simp only [k7];grind
def a5w:Nat->Nat->Rat:=fun i j=>if i=j then 1 else 0
def b3G:∀n,J5 n a5w=1
 |0=>rfl
 |n+1=>by
  rw [Q6,a33 (f:=fun i=>af1 i*a5w i 0*J5 n (B7 i a5w)),x4 fun i hi=>?_]
  ·have e:B7 0 a5w=a5w:=by
    funext a c;unfold B7 a5w;simp
   rw [e,b3G n];have:af1 0=1:=rfl;have h2:a5w 0 0=1:=rfl;rw [this,h2];grind
  ·have:a5w (i+1) 0=0:=by unfold a5w;rw [if_neg om]
   rw [this];grind
def aw6 (f:Nat->Nat) (w:Nat):Nat->Option Nat
 |0=>none
 |k+1=>match aw6 f w k with
  |some i=>some i
  |none=>if f k=w then some k else none
def a6Q {f:Nat->Nat} {w:Nat}:∀{k i:Nat},aw6 f w k=some i->i<k∧f i=w
 |0,i,h=>by cases h
 |k+1,i,h=>by
  unfold aw6 at h;split at h
  ·rename_i i' hi;injection h with h;subst h;have:=a6Q hi;exact ⟨om,this.2⟩
  ·split at h
   ·injection h with h;subst h;exact ⟨om,by assumption⟩
   ·cases h
def a9M {f:Nat->Nat} {w:Nat}:∀{k:Nat},aw6 f w k=none->∀i,i<k->f i≠w
 |0,_,i,hi=>om
 |k+1,h,i,hi=>by
  unfold aw6 at h;split at h
  ·cases h
  ·rename_i hn;split at h
   ·cases h
   ·by_cases hik:i=k
    ·subst hik;assumption
    ·exact a9M hn i om
structure X8 (m n:Nat) (D:Fd):Prop where
 oi:∀i i',i<m->i'<m->D.O i=D.O i'->i=i'
 fi:∀j j',j<n->j'<n->D.F j=D.F j'->j=j'
 of:∀i j,i<m->j<n->D.O i≠D.F j
 all:∀w,w<n+m->(∃ i,i<m∧D.O i=w)∨(∃ j,j<n∧D.F j=w)
 ob:∀i,i<m->D.O i<n+m
 fb:∀j,j<n->D.F j<n+m
def a9E {D:Fd} {r s i:Nat}:(D.exch r s).O i=if i=r then D.F s else D.O i:=rfl
def a2H {D:Fd} {r s j:Nat}:(D.exch r s).F j=if j=s then D.O r else D.F j:=rfl
def aA2 {m n:Nat} {D:Fd} {r s:Nat} (hr:r<m) (hs:s<n) (h:X8 m n D):X8 m n (D.exch r s) where
 oi:=fun i i' hi hi' he=>by
  rw [a9E,a9E] at he;by_cases h1:i=r<;>by_cases h2:i'=r
  ·omega
  ·rw [if_pos h1,if_neg h2] at he;exact absurd he.symm (h.of i' s hi' hs)
  ·rw [if_neg h1,if_pos h2] at he;exact absurd he (h.of i s hi hs)
  ·rw [if_neg h1,if_neg h2] at he;exact h.oi i i' hi hi' he
 fi:=fun j j' hj hj' he=>by
  rw [a2H,a2H] at he;by_cases h1:j=s<;>by_cases h2:j'=s
  ·omega
  ·rw [if_pos h1,if_neg h2] at he;exact absurd he (h.of r j' hr hj')
  ·rw [if_neg h1,if_pos h2] at he;exact absurd he.symm (h.of r j hr hj)
  ·rw [if_neg h1,if_neg h2] at he;exact h.fi j j' hj hj' he
 of:=fun i j hi hj he=>by
  rw [a9E,a2H] at he;by_cases h1:i=r<;>by_cases h2:j=s
  ·rw [if_pos h1,if_pos h2] at he;exact h.of r s hr hs he.symm
  ·rw [if_pos h1,if_neg h2] at he;exact h2 (h.fi s j hs hj he).symm
  ·rw [if_neg h1,if_pos h2] at he;exact h1 (h.oi i r hi hr he)
  ·rw [if_neg h1,if_neg h2] at he;exact h.of i j hi hj he
 all:=fun w hw=>by
  rcases h.all w hw with ⟨i,hi,he⟩|⟨j,hj,he⟩
  ·by_cases h1:i=r
   ·exact .inr ⟨s,hs,by rw [a2H,if_pos rfl,←h1];exact he⟩
   ·exact .inl ⟨i,hi,by rw [a9E,if_neg h1];exact he⟩
  ·by_cases h1:j=s
   ·exact .inl ⟨r,hr,by rw [a9E,if_pos rfl,←h1];exact he⟩
   ·exact .inr ⟨j,hj,by rw [a2H,if_neg h1];exact he⟩
 ob:=fun i hi=>by rw [a9E];split;exact h.fb s hs;exact h.ob i hi
 fb:=fun j hj=>by rw [a2H];split;exact h.ob r hr;exact h.fb j hj
def a0j (m n:Nat) (D:Fd) (c:Rat) (t:Nat->Rat) (w:Nat):Rat:=match aw6 D.F w n with
 |some j=>t j
 |none=>match aw6 D.O w m with
  |some i=>c*D.V i - k7 (fun j=>D.A i j*t j) n
  |none=>0
def a16 {m n:Nat} {D:Fd} (h:X8 m n D) {c:Rat} {t:Nat->Rat} {j:Nat} (hj:j<n):a0j m n D c t (D.F j)=t j:=by
 unfold a0j;cases hi:aw6 D.F (D.F j) n with
 |none=>exact absurd rfl (a9M hi j hj)
 |some i=>obtain ⟨h1,h2⟩:=a6Q hi;rw [h.fi i j h1 hj h2]
def a7b {m n:Nat} {D:Fd} (h:X8 m n D) {c:Rat} {t:Nat->Rat} {i:Nat} (hi:i<m):a0j m n D c t (D.O i)=c*D.V i - k7 (fun j=>D.A i j*t j) n:=by
 unfold a0j;cases hj:aw6 D.F (D.O i) n with
 |some j=>obtain ⟨h1,h2⟩:=a6Q hj;exact absurd h2.symm (h.of i j hi h1)
 |none=>
  cases hk:aw6 D.O (D.O i) m with
  |none=>exact absurd rfl (a9M hk i hi)
  |some k=>obtain ⟨h1,h2⟩:=a6Q hk;rw [h.oi k i h1 hi h2]
def a0d {m n:Nat} {D:Fd} (h:X8 m n D) (c:Rat) (t:Nat->Rat):Ids m n D (a0j m n D c t) c:=fun i hi=>by
 rw [a7b h hi]
 congr 1
 exact j7 fun j hj=>by rw [a16 h hj]
def B5 (f:Nat->Nat) (p:Nat->Bool):Nat->Option Nat
 |0=>none
 |k+1=>match B5 f p k with
  |none=>if p k then some k else none
  |some a=>if p k && decide (f k<f a) then some k else some a
def a1H {f:Nat->Nat} {p:Nat->Bool}:∀{k:Nat},B5 f p k=none->∀i,i<k->p i=false
 |0,_,i,hi=>om
 |k+1,h,i,hi=>by
  unfold B5 at h;split at h
  ·rename_i hn;split at h
   ·cases h
   ·rename_i hp;by_cases hik:i=k
    ·subst hik;simpa using hp
    ·exact a1H hn i om
  ·split at h<;>cases h
def C6 {f:Nat->Nat} {p:Nat->Bool}:∀{k a:Nat},B5 f p k=some a->a<k∧p a=true∧∀i,i<k->p i=true->f a<=f i
 |0,a,h=>by cases h
 |k+1,a,h=>by
  unfold B5 at h;split at h
  ·rename_i hn;split at h
   ·rename_i hp;injection h with h;subst h
    refine ⟨om,hp,fun i hi hpi=>?_⟩;by_cases hik:i=k
    ·subst hik;omega
    ·rw [a1H hn i om] at hpi;cases hpi
   ·cases h
  ·rename_i b hb;obtain ⟨h1,h2,h3⟩:=C6 hb;split at h
   ·rename_i hc;injection h with h;subst h
    simp only [lbO,lbJ] at hc;refine ⟨om,hc.1,fun i hi hpi=>?_⟩;by_cases hik:i=k
    ·subst hik;omega
    ·have:=h3 i om hpi;omega
   ·rename_i hc;injection h with h;subst h
    refine ⟨om,h2,fun i hi hpi=>?_⟩;by_cases hik:i=k
    ·subst hik;have:¬(f i<f b):=fun h=>hc (by simp [hpi,h])
     omega
    ·exact h3 i om hpi
inductive b7A where
 |best
 |row (r:Nat)
 |col (s:Nat)
 |next (r s:Nat)
def V3 (n:Nat) (D:Fd) (r:Nat):b7A:=match B5 D.F (fun j=>decide (D.A r j<0)) n with
 |none=>.row r
 |some s=>.next r s
def V6 (m:Nat) (D:Fd) (s:Nat):b7A:=match B5 D.O (fun i=>decide (0<D.A i s)) m with
 |none=>.col s
 |some r=>.next r s
def u7 (m n:Nat) (D:Fd):b7A:=match B5 D.O (fun i=>decide (D.V i<0)) m,B5 D.F (fun j=>decide (0<D.G j)) n with
 |none,none=>.best
 |some r,none=>V3 n D r
 |none,some s=>V6 m D s
 |some r,some s=>if D.O r<D.F s then V3 n D r else V6 m D s
structure aC7 (m n:Nat) (D:Fd) (r s:Nat):Prop where
 v:D.V r<0
 a:D.A r s<0
 f:∀j,j<n->D.F j<D.F s->0<=D.A r j
 o:∀i,i<m->D.O i<D.O r->0<=D.V i
 g:∀j,j<n->D.F j<D.O r->D.G j<=0
structure aF8 (m n:Nat) (D:Fd) (r s:Nat):Prop where
 g:0<D.G s
 a:0<D.A r s
 o:∀i,i<m->D.O i<D.O r->D.A i s<=0
 f:∀j,j<n->D.F j<D.F s->D.G j<=0
 v:∀i,i<m->D.O i<D.F s->0<=D.V i
def b04 {m n:Nat} {D:Fd} {r r' s:Nat} (hr:B5 D.O (fun i=>decide (D.V i<0)) m=some r) (hg:∀j,j<n->D.F j<D.O r->D.G j<=0) (h:V3 n D r=.next r' s):r'<m∧s<n∧aC7 m n D r' s:=by
 obtain ⟨a1,a2,a3⟩:=C6 hr;unfold V3 at h;split at h
 ·cases h
 ·rename_i s' hs';injection h with h1 h2;subst h1;subst h2
  obtain ⟨b1,b2,b3⟩:=C6 hs';refine ⟨a1,b1,lbM a2,lbM b2,fun j hj hlt=>?_,fun i hi hlt=>?_,hg⟩
  ·exact lb5.1 fun h=>by have:=b3 j hj (lbI h);omega
  ·exact lb5.1 fun h=>by have:=a3 i hi (lbI h);omega
def b0W {m n:Nat} {D:Fd} {s s' r:Nat} (hs:B5 D.F (fun j=>decide (0<D.G j)) n=some s) (hv:∀i,i<m->D.O i<D.F s->0<=D.V i) (h:V6 m D s=.next r s'):r<m∧s'<n∧aF8 m n D r s':=by
 obtain ⟨a1,a2,a3⟩:=C6 hs;unfold V6 at h;split at h
 ·cases h
 ·rename_i r' hr';injection h with h1 h2;subst h1;subst h2
  obtain ⟨b1,b2,b3⟩:=C6 hr';refine ⟨b1,a1,lbM a2,lbM b2,fun i hi hlt=>?_,fun j hj hlt=>?_,hv⟩
  ·exact lb5.1 fun h=>by have:=b3 i hi (lbI h);omega
  ·exact lb5.1 fun h=>by have:=a3 j hj (lbI h);omega
def a40 {m n:Nat} {D:Fd} {r s:Nat} (h:u7 m n D=.next r s):r<m∧s<n∧(aC7 m n D r s∨aF8 m n D r s):=by
 unfold u7 at h;cases hr:B5 D.O (fun i=>decide (D.V i<0)) m with
 |none=>
  have hv:∀i,i<m->0<=D.V i:=fun i hi=>lb5.1 (lbN (a1H hr i hi))
  cases hs:B5 D.F (fun j=>decide (0<D.G j)) n with
  |none=>rw [hr,hs] at h;cases h
  |some s'=>
   rw [hr,hs] at h;obtain ⟨q1,q2,q3⟩:=b0W hs (fun i hi _=>hv i hi) h;exact ⟨q1,q2,.inr q3⟩
 |some r'=>
  obtain ⟨a1,a2,a3⟩:=C6 hr;cases hs:B5 D.F (fun j=>decide (0<D.G j)) n with
  |none=>
   rw [hr,hs] at h;obtain ⟨q1,q2,q3⟩:=b04 (n:=n) hr (fun j hj _=>lb5.1 (lbN (a1H hs j hj))) h;exact ⟨q1,q2,.inl q3⟩
  |some s'=>
   rw [hr,hs] at h;obtain ⟨b1,b2,b3⟩:=C6 hs;simp only at h;split at h
   ·rename_i hlt;obtain ⟨q1,q2,q3⟩:=b04 (n:=n) hr (fun j hj hj2=>lb5.1 fun h=>by have:=b3 j hj (lbI h);omega) h;exact ⟨q1,q2,.inl q3⟩
   ·rename_i hlt;obtain ⟨q1,q2,q3⟩:=b0W hs (fun i hi hi2=>lb5.1 fun h=>by have:=a3 i hi (lbI h);omega) h;exact ⟨q1,q2,.inr q3⟩
def a4F {m n:Nat} {D:Fd} {r s:Nat} (h:aC7 m n D r s∨aF8 m n D r s):D.A r s≠0:=by
 rcases h with h|h
 ·have:=h.a;intro h0;rw [h0] at this;exact absurd this zg
 ·have:=h.a;intro h0;rw [h0] at this;exact absurd this zg
def b6y {m n:Nat} {D D':Fd} {g0:Nat->Rat} {z z':Rat} (hP:X8 m n D) (hP':X8 m n D') (hI:∀y c,Ids m n D y c↔Ids m n D' y c) (hG:a0g n D g0 m z) (hG':a0g n D' g0 m z')
 {r s r' s' q:Nat} (hr:r<m) (hs:s<n) (hr':r'<m) (hs':s'<n) (h:aC7 m n D r s∨aF8 m n D r s) (h':aC7 m n D' r' s'∨aF8 m n D' r' s') (hq:D.F s=q) (hq':D'.O r'=q)
 (hrq:D.O r<q) (hsq:D'.F s'<q) (hst:∀w,q<w->((∃ j,j<n∧D.F j=w)↔∃j,j<n∧D'.F j=w)):False:=by
 have hfree:∀j,j<n->q<D.F j->∃k,k<n∧D'.F k=D.F j:=fun j hj hlt=>(hst _ hlt).1 ⟨j,hj,rfl⟩
 obtain ⟨c,y,hc,hy,ypos,yq,yfree,hobj⟩:∃(c:Rat) (y:Nat->Rat),(c=0∨c=1)∧Ids m n D' y c∧(∀ w,w<n+m->w<q->0<=y w)∧y q<0∧(∀ j,j<n->q<D.F j->y (D.F j)=0)∧
  ((c=0∧0<k7 (fun j=>g0 j*y j) n)∨(c=1∧k7 (fun j=>g0 j*y j) n=z'∧∀j,j<n->D'.F j<q->D'.G j<=0)):=by
  rcases h' with h'|h'
  ·refine ⟨1,a0j m n D' 1 (fun _=>0),.inr rfl,a0d hP' 1 _,fun w hw hwq=>?_,?_,fun j hj hlt=>?_,.inr ⟨rfl,?_,fun j hj hlt=>h'.g j hj (by rw [hq'];exact hlt)⟩⟩
   ·rcases hP'.all w hw with ⟨i,hi,rfl⟩|⟨j,hj,rfl⟩
    ·rw [a7b hP' hi,x4 fun j _=>by grind];have:=h'.o i hi (by rw [hq'];exact hwq);grind
    ·rw [a16 hP' hj];grind
   ·rw [← hq',a7b hP' hr',x4 fun j _=>by grind];have:=h'.v;grind
   ·obtain ⟨k,hk,he⟩:=hfree j hj hlt;rw [← he,a16 hP' hk]
   ·rw [hG' _ 1 (a0d hP' 1 _),x4 fun j hj=>by rw [a16 hP' hj];grind];grind
  ·refine ⟨0,a0j m n D' 0 (fun j=>if j=s' then 1 else 0),.inl rfl,a0d hP' 0 _,fun w hw hwq=>?_,?_,fun j hj hlt=>?_,.inl ⟨rfl,?_⟩⟩
   ·have hone:∀i,k7 (fun j=>D'.A i j*(if j=s' then 1 else 0)) n=D'.A i s':=fun i=>by
     rw [E1 hs',x4 fun j _=>by by_cases hj:j=s'<;>simp [hj]];simp;grind
    rcases hP'.all w hw with ⟨i,hi,rfl⟩|⟨j,hj,rfl⟩
    ·rw [a7b hP' hi,hone];have:=h'.o i hi (by rw [hq'];exact hwq);grind
    ·rw [a16 hP' hj];split<;>grind
   ·have hone:k7 (fun j=>D'.A r' j*(if j=s' then 1 else 0)) n=D'.A r' s':=by
     rw [E1 hs',x4 fun j _=>by by_cases hj:j=s'<;>simp [hj]];simp;grind
    rw [← hq',a7b hP' hr',hone];have:=h'.a;grind
   ·obtain ⟨k,hk,he⟩:=hfree j hj hlt;rw [← he,a16 hP' hk,if_neg];intro hks;rw [hks] at he;omega
   ·rw [hG' _ 0 (a0d hP' 0 _)];have:k7 (fun j=>D'.G j*a0j m n D' 0 (fun j=>if j=s' then 1 else 0) (D'.F j)) n=D'.G s':=by
     rw [j7 (g:=fun j=>D'.G j*(if j=s' then 1 else 0)) fun j hj=>by rw [a16 hP' hj],E1 hs',x4 fun j _=>by by_cases hj:j=s'<;>simp [hj]];simp;grind
    rw [this];have:=h'.g;grind
 have hy2:=(hI y c).2 hy;have hF:∀j,j<n->(D.F j<q∧0<=y (D.F j))∨(j=s∧y (D.F j)<0)∨y (D.F j)=0:=fun j hj=>by
  rcases av9 (D.F j) q with hlt|heq|hgt
  ·exact .inl ⟨hlt,ypos _ (hP.fb j hj) hlt⟩
  ·refine .inr (.inl ⟨hP.fi j s hj hs om,by rw [heq];exact yq⟩)
  ·exact .inr (.inr (yfree j hj hgt))
 rcases h with h|h
 · -- by its row
   have hid:=hy2 r hr;have h1:0<k7 (fun j=>D.A r j*y (D.F j)) n:=b3P (s:=s) (fun j hj=>by
    rcases hF j hj with ⟨a,b⟩|⟨rfl,b⟩|b
    ·exact lb2 (h.f j hj (by rw [hq];exact a)) b
    ·have:=h.a;exact Rat.le_of_lt (by have:=lb3 (a:=-D.A r j) (b:=-y (D.F j)) zg zg;grind)
    ·rw [b];grind) hs (by
    have:=h.a;have hyq:y (D.F s)<0:=by rw [hq];exact yq
    have:=lb3 (a:=-D.A r s) (b:=-y (D.F s)) zg zg;grind)
   have h2:0<=y (D.O r):=ypos _ (hP.ob r hr) hrq;have h3:=h.v;rcases hc with rfl|rfl
   ·grind
   ·grind
 · -- by its goal
   have h1:k7 (fun j=>D.G j*y (D.F j)) n<0:=bh9 (s:=s) (fun j hj=>by
    rcases hF j hj with ⟨a,b⟩|⟨rfl,b⟩|b
    ·have:=h.f j hj (by rw [hq];exact a);have:=lb2 (a:=-D.G j) (b:=y (D.F j)) zg b;grind
    ·have:=h.g;have:=lb3 (a:=D.G j) (b:=-y (D.F j)) zg zg;grind
    ·rw [b];grind) hs (by
    have:=h.g;have hyq:y (D.F s)<0:=by rw [hq];exact yq
    have:=lb3 (a:=D.G s) (b:=-y (D.F s)) zg zg;grind)
   have hg:=hG y c hy2;rcases hobj with ⟨rfl,ho⟩|⟨rfl,ho,hneg⟩
   ·grind
   · -- the basic point of the first dictionary
     have k1:=hG (a0j m n D 1 (fun _=>0)) 1 (a0d hP 1 _);rw [x4 (f:=fun j=>D.G j*a0j m n D 1 (fun _=>0) (D.F j)) fun j hj=>by rw [a16 hP hj];grind] at k1;have k2:=hG' (a0j m n D 1 (fun _=>0)) 1 ((hI _ 1).1 (a0d hP 1 _));have k3:k7 (fun j=>D'.G j*a0j m n D 1 (fun _=>0) (D'.F j)) n<=0:=a85 fun j hj=>by
      have hv:∀w,w<n+m->w<q->0<=a0j m n D 1 (fun _=>0) w:=fun w hw hwq=>by
       rcases hP.all w hw with ⟨i,hi,rfl⟩|⟨k,hk,rfl⟩
       ·rw [a7b hP hi,x4 fun j _=>by grind];have:=h.v i hi (by rw [hq];exact hwq);grind
       ·rw [a16 hP hk];grind
      rcases av9 (D'.F j) q with hlt|heq|hgt
      ·have a1:=hneg j hj hlt;have a2:=hv _ (hP'.fb j hj) hlt;have:=lb2 (a:=-D'.G j) zg a2;grind
      ·exact absurd (hq'.trans heq.symm) (hP'.of r' j hr' hj)
      ·obtain ⟨k,hk,he⟩:=(hst _ hgt).2 ⟨j,hj,rfl⟩;rw [← he,a16 hP hk];grind
     grind
def C9 (m n:Nat) (D:Fd):Option Fd:=match u7 m n D with
 |.next r s=>some (D.exch r s)
 |_=>none
def a7L {m n:Nat} {D D':Fd} (h:C9 m n D=some D'):∃r s,u7 m n D=.next r s∧D'=D.exch r s:=by
 unfold C9 at h;split at h
 ·rename_i r s hs;injection h with h;exact ⟨r,s,hs,h.symm⟩
 ·cases h
def at5 {P:Nat->Nat->Prop}:∀N:Nat,(∀ w,w<N->∃T,∀k,T<=k->¬P k w)->∃T,∀w,w<N->∀k,T<=k->¬P k w
 |0,_=>⟨0,fun w hw=>om⟩
 |N+1,h=>by
  obtain ⟨T,hT⟩:=at5 (P:=P) N fun w hw=>h w om
  obtain ⟨T',hT'⟩:=h N om;refine ⟨max T T',fun w hw k hk=>?_⟩;by_cases hwn:w=N
  ·subst hwn;exact hT' k om
  ·exact hT w om k om
def au7 {p:Nat->Prop}:∀N:Nat,(∃ w,w<N∧p w)->∃q,q<N∧p q∧∀w,q<w->w<N->¬p w
 |0,⟨w,hw,_⟩=>om
 |N+1,⟨w,hw,hp⟩=>by
  by_cases h:p N
  ·exact ⟨N,om,h,fun w h1 h2=>om⟩
  ·have hwN:w≠N:=fun e=>h (e ▸ hp)
   obtain ⟨q,h1,h2,h3⟩:=au7 N ⟨w,om,hp⟩;refine ⟨q,om,h2,fun w h4 h5=>?_⟩;by_cases hw2:w=N
   ·subst hw2;exact h
   ·exact h3 w h4 om
def a2B (p:Nat->Prop) (h:∃n,p n):∃n,p n∧∀m,p m->n<=m:=by
 obtain ⟨n,hn⟩:=h;induction n using Nat.strongRecOn with
 |_ n ih=>
  by_cases hex:∃m,m<n∧p m
  ·obtain ⟨m,hm,hp⟩:=hex;exact ih m hm hp
  ·exact ⟨n,hn,fun m hm=>aL9 fun h=>hex ⟨m,h,hm⟩⟩
def bm9 {m n:Nat} {f:Nat->Fd} {g0:Nat->Rat} (hP0:X8 m n (f 0)) (hG0:∃z,a0g n (f 0) g0 m z) (hf:∀k,C9 m n (f k)=some (f (k+1))):False:=by
 have hstep:∀k,∃rs:Nat × Nat,rs.1<m∧rs.2<n∧(aC7 m n (f k) rs.1 rs.2∨aF8 m n (f k) rs.1 rs.2)∧f (k+1)=(f k).exch rs.1 rs.2:=fun k=>by
  obtain ⟨r,s,h1,h2⟩:=a7L (hf k);obtain ⟨a,b,c⟩:=a40 h1;exact ⟨(r,s),a,b,c,h2⟩
 obtain ⟨W,hW⟩:=Classical.axiomOfChoice hstep;have hP:∀k,X8 m n (f k):=fun k=>by
  induction k with
  |zero=>exact hP0
  |succ k ih=>obtain ⟨a,b,_,d⟩:=hW k;rw [d];exact aA2 a b ih
 have hI:∀k y c,Ids m n (f 0) y c↔Ids m n (f k) y c:=fun k=>by
  induction k with
  |zero=>exact fun _ _=>Iff.rfl
  |succ k ih=>obtain ⟨a,b,c',d⟩:=hW k;rw [d];exact fun y c=>(ih y c).trans (ao1 a b (a4F c'))
 have hG:∀k,∃z,a0g n (f k) g0 m z:=fun k=>by
  induction k with
  |zero=>exact hG0
  |succ k ih=>obtain ⟨a,b,c',d⟩:=hW k;obtain ⟨z,hz⟩:=ih;rw [d];exact ⟨_,aC5 a b (a4F c') hz⟩
 let E:Nat->Nat:=fun k=>(f k).F (W k).2
 let L:Nat->Nat:=fun k=>(f k).O (W k).1
 have hE:∀k,E k<n+m:=fun k=>(hP k).fb _ (hW k).2.1
 have hL:∀k,L k<n+m:=fun k=>(hP k).ob _ (hW k).1
 have hEL:∀k,L k≠E k:=fun k=>(hP k).of _ _ (hW k).1 (hW k).2.1
 let fre:Nat->Nat->Prop:=fun k w=>∃j,j<n∧(f k).F j=w
 have hfre:∀k w,w≠E k->w≠L k->(fre (k+1) w↔fre k w):=fun k w h1 h2=>by
  obtain ⟨a,b,_,d⟩:=hW k;show (∃ j,j<n∧(f (k+1)).F j=w)↔∃j,j<n∧(f k).F j=w;rw [d];constructor
  ·rintro ⟨j,hj,he⟩;rw [a2H] at he;by_cases hjs:j=(W k).2
   ·rw [if_pos hjs] at he;exact absurd he.symm h2
   ·rw [if_neg hjs] at he;exact ⟨j,hj,he⟩
  ·rintro ⟨j,hj,he⟩;have hjs:j≠(W k).2:=fun h=>h1 (by rw [← he,h])
   exact ⟨j,hj,by rw [a2H,if_neg hjs];exact he⟩
 have hin:∀k,fre k (E k):=fun k=>⟨_,(hW k).2.1,rfl⟩
 have hout:∀k,¬fre k (L k):=fun k=>by rintro ⟨j,hj,he⟩;exact (hP k).of _ _ (hW k).1 hj he.symm
 have hin2:∀k,fre (k+1) (L k):=fun k=>by
  obtain ⟨a,b,_,d⟩:=hW k;show ∃j,j<n∧(f (k+1)).F j=L k;rw [d];exact ⟨_,b,by rw [a2H,if_pos rfl]⟩
 have hout2:∀k,¬fre (k+1) (E k):=fun k=>by
  obtain ⟨a,b,_,d⟩:=hW k;show ¬∃j,j<n∧(f (k+1)).F j=E k;rw [d];rintro ⟨j,hj,he⟩;rw [a2H] at he;by_cases hjs:j=(W k).2
  ·rw [if_pos hjs] at he;exact hEL k he
  ·rw [if_neg hjs] at he;exact hjs ((hP k).fi _ _ hj b he)
 let mv:Nat->Nat->Prop:=fun k w=>E k=w∨L k=w
 obtain ⟨q,hqN,hio,hmax⟩:=au7 (p:=fun w=>∀T,∃k,T<=k∧mv k w) (n+m) (a2R fun hno=>by
  have h1:∀w,w<n+m->∃T,∀k,T<=k->¬mv k w:=fun w hw=>a2R fun h=>hno ⟨w,hw,fun T=>a2R fun h'=>h ⟨T,fun k hk hm=>h' ⟨k,hk,hm⟩⟩⟩
  obtain ⟨T,hT⟩:=at5 (P:=mv) _ h1;exact hT _ (hE T) T (lbS _) (.inl rfl))
 obtain ⟨T,hT⟩:∃T,∀w,q<w->∀k,T<=k->¬mv k w:=by
  obtain ⟨T,hT⟩:=at5 (P:=fun k w=>q<w∧mv k w) (n+m) fun w hw=>by
   by_cases hqw:q<w
   ·have:=hmax w hqw hw;obtain ⟨T,hT⟩:=Classical.not_forall.1 this;exact ⟨T,fun k hk ⟨_,hm⟩=>hT ⟨k,hk,hm⟩⟩
   ·exact ⟨0,fun k _ ⟨h,_⟩=>hqw h⟩
  refine ⟨T,fun w hqw k hk hm=>?_⟩;have hw:w<n+m:=by rcases hm with hm|hm<;>rw [← hm];exact hE k;exact hL k
  exact hT w hw k hk ⟨hqw,hm⟩
 have hEq:∀k,T<=k->E k<=q:=fun k hk=>aL9 fun h=>hT _ h k hk (.inl rfl)
 have hLq:∀k,T<=k->L k<=q:=fun k hk=>aL9 fun h=>hT _ h k hk (.inr rfl)
 have hconst:∀w,q<w->∀d,fre (T+d) w↔fre T w:=fun w hw d=>by
  induction d with
  |zero=>exact Iff.rfl
  |succ d ih=>
   have h1:=hEq (T+d) om;have h2:=hLq (T+d) om;exact (hfre (T+d) w om om).trans ih
 have hsame:∀w,q<w->∀t u,T<=t->T<=u->(fre t w↔fre u w):=fun w hw t u ht hu=>by
  have h1:=hconst w hw (t - T);have h2:=hconst w hw (u - T);rw [show T+(t - T)=t by omega] at h1;rw [show T+(u - T)=u by omega] at h2;exact h1.trans h2.symm
 have hnext:∀k1,T<=k1->mv k1 q->∃k2,T<=k2∧mv k2 q∧(fre k2 q↔fre (k1+1) q):=fun k1 h1 _=>by
  obtain ⟨k2,⟨h2,h3⟩,hleast⟩:=a2B (fun k=>k1+1<=k∧mv k q) (hio (k1+1));refine ⟨k2,om,h3,?_⟩;have key:∀d,k1+1+d<=k2->(fre (k1+1+d) q↔fre (k1+1) q):=fun d=>by
   induction d with
   |zero=>exact fun _=>Iff.rfl
   |succ d ih=>
    intro hd;have hnm:¬mv (k1+1+d) q:=fun h=>by have:=hleast (k1+1+d) ⟨om,h⟩;omega
    exact (hfre (k1+1+d) q (fun h=>hnm (.inl h.symm)) (fun h=>hnm (.inr h.symm))).trans (ih om)
  have:=key (k2 - (k1+1)) om;rwa [show k1+1+(k2 - (k1+1))=k2 by omega] at this
 have hboth:∃t u,T<=t∧T<=u∧E t=q∧L u=q:=by
  obtain ⟨k1,h1,hm1⟩:=hio T;obtain ⟨k2,h2,hm2,hs⟩:=hnext k1 h1 hm1;rcases hm1 with hm1|hm1
  ·rcases hm2 with hm2|hm2
   ·have a:=hin k2;rw [hm2] at a;have b:=hout2 k1;rw [hm1] at b;exact absurd (hs.1 a) b
   ·exact ⟨k1,k2,h1,h2,hm1,hm2⟩
  ·rcases hm2 with hm2|hm2
   ·exact ⟨k2,k1,h2,h1,hm2,hm1⟩
   ·have a:=hout k2;rw [hm2] at a;have b:=hin2 k1;rw [hm1] at b;exact absurd (hs.2 b) a
 obtain ⟨t,u,ht,hu,het,hlu⟩:=hboth;obtain ⟨z,hz⟩:=hG t;obtain ⟨z',hz'⟩:=hG u;obtain ⟨a1,a2,a3,_⟩:=hW t;obtain ⟨b1,b2,b3,_⟩:=hW u;have hl:L t<q:=by have:=hLq t ht;have:=hEL t;omega
 have he:E u<q:=by have:=hEq u hu;have:=hEL u;omega
 exact b6y (hP t) (hP u) (fun y c=>(hI t y c).symm.trans (hI u y c)) hz hz' a1 a2 b1 b2 a3 b3 het hlu hl he (fun w hw=>hsame w hw t u ht hu)
def itS (m n:Nat):Nat->Fd->Option Fd
 |0,D=>some D
 |k+1,D=>match C9 m n D with
  |none=>none
  |some D'=>itS m n k D'
def a0X {m n:Nat}:∀(k:Nat) (D:Fd),itS m n (k+1) D=(itS m n k D).bind (C9 m n)
 |0,D=>by
  show (match C9 m n D with|none=>none|some D'=>some D')=C9 m n D;cases C9 m n D<;>rfl
 |k+1,D=>by
  show (match C9 m n D with|none=>none|some D'=>itS m n (k+1) D')=(match C9 m n D with|none=>none|some D'=>itS m n k D').bind (C9 m n);cases C9 m n D with
  |none=>rfl
  |some D'=>exact a0X k D'
def b7H {m n:Nat} {D:Fd} {g0:Nat->Rat} (hP:X8 m n D) (hG:∃z,a0g n D g0 m z):∃k,itS m n k D=none:=a2R fun h=>by
 have h1:∀k,∃D',itS m n k D=some D':=fun k=>by
  cases hk:itS m n k D with
  |none=>exact absurd ⟨k,hk⟩ h
  |some D'=>exact ⟨D',rfl⟩
 obtain ⟨f,hf⟩:=Classical.axiomOfChoice h1;have hf:∀k,itS m n k D=some (f k):=hf;have h0:f 0=D:=by have:=hf 0;injection this with this;exact this.symm
 refine bm9 (f:=f) (g0:=g0) (by rw [h0];exact hP) (by rw [h0];exact hG) fun k=>?_
 have h2:=a0X (m:=m) (n:=n) k D;rw [hf k,hf (k+1)] at h2;exact h2.symm
noncomputable def a65 (m n:Nat) (D:Fd):Nat:=Classical.epsilon fun k=>itS m n k D=none∧∀j,itS m n j D=none->k<=j
def au8 {m n:Nat} {D D':Fd} (h:∃k,itS m n k D=none) (hn:C9 m n D=some D'):a65 m n D'<a65 m n D:=by
 have hD:=aq6 (a2B _ h);have h':∃k,itS m n k D'=none:=by
  obtain ⟨k,hk⟩:=h;cases k with
  |zero=>cases hk
  |succ k=>
   have hk:(match C9 m n D with|none=>none|some D'=>itS m n k D')=none:=hk;rw [hn] at hk;exact ⟨k,hk⟩
 have hD':=aq6 (a2B _ h');have e:a65 m n D=Classical.epsilon fun k=>itS m n k D=none∧∀j,itS m n j D=none->k<=j:=rfl
 have e':a65 m n D'=Classical.epsilon fun k=>itS m n k D'=none∧∀j,itS m n j D'=none->k<=j:=rfl
 rw [← e] at hD;rw [← e'] at hD';obtain ⟨a1,a2⟩:=hD;obtain ⟨b1,b2⟩:=hD';generalize a65 m n D=k at a1 a2;cases k with
 |zero=>cases a1
 |succ k=>
  have a1:(match C9 m n D with|none=>none|some D'=>itS m n k D')=none:=a1;rw [hn] at a1;have:=b2 k a1;omega
structure EqI where
 co:Nat->Int
 rhs:Int
def a9U (k:Nat) (e:EqI) (u:Nat->Rat):Prop:=k7 (fun l=>((e.co l:Int):Rat)*u l) (k+1)=((e.rhs:Int):Rat)
def be8 {f g:Nat->Rat} (a b:Rat) (n:Nat):k7 (fun j=>a*f j - b*g j) n=a*k7 f n - b*k7 g n:=by
 rw [← G1 a,←G1 b];have:k7 (fun j=>a*f j - b*g j) n=k7 (fun j=>a*f j+(-1)*(b*g j)) n:=j7 fun j _=>zg
 rw [this,a1s,G1 (-1)];grind
def aq5 (k:Nat) (e0 e:EqI):EqI:=⟨fun l=>e0.co (k+1)*e.co l - e.co (k+1)*e0.co l,e0.co (k+1)*e.rhs - e.co (k+1)*e0.rhs⟩
def b0T {k:Nat} {e0 e:EqI} {u:Nat->Rat}:k7 (fun l=>(((aq5 k e0 e).co l:Int):Rat)*u l) (k+1)=
 ((e0.co (k+1):Int):Rat)*k7 (fun l=>((e.co l:Int):Rat)*u l) (k+1) - ((e.co (k+1):Int):Rat)*k7 (fun l=>((e0.co l:Int):Rat)*u l) (k+1):=by
 rw [← be8];refine j7 fun l _=>?_
 unfold aq5;simp only;rw [Rat.intCast_sub,aK0,aK0];grind
def aX8 {k:Nat} {e0 e:EqI}:(((aq5 k e0 e).rhs:Int):Rat)=((e0.co (k+1):Int):Rat)*((e.rhs:Int):Rat) - ((e.co (k+1):Int):Rat)*((e0.rhs:Int):Rat):=by
 unfold aq5;simp only;rw [Rat.intCast_sub,aK0,aK0]
def bf7 {k:Nat} {e0 e:EqI} {s:Nat} (h0:(∀ l,l<=k+1->bl (e0.co l)<=s)∧bl e0.rhs<=s) (h:(∀ l,l<=k+1->bl (e.co l)<=s)∧bl e.rhs<=s):(∀ l,l<=k->bl ((aq5 k e0 e).co l)<=2*s+1)∧bl (aq5 k e0 e).rhs<=2*s+1:=by
 have key:∀a b c d:Int,bl a<=s->bl b<=s->bl c<=s->bl d<=s->bl (a*b - c*d)<=2*s+1:=fun a b c d ha hb hc hd=>by
  have h1:=E3 a b;have h2:=E3 c d;have h3:=a7N (a*b) (-(c*d));rw [U7,←a9c] at h3;omega
 exact ⟨fun l hl=>key _ _ _ _ (h0.1 _ om) (h.1 _ om) (h.1 _ om) (h0.1 _ om),key _ _ _ _ (h0.1 _ om) h.2 (h.1 _ om) h0.2⟩
def a7R:∀(k s:Nat) (E:List EqI) (u:Nat->Rat),(∀ e ∈ E,(∀ l,l<=k->bl (e.co l)<=s)∧bl e.rhs<=s)->(∀ e ∈ E,a9U k e u)->(∀ u',(∀ e ∈ E,a9U k e u')->u' 0=u 0)->rl (u 0)<=2 ^ k*(s+1)
 |0,s,E,u,hb,hu,hq=>by
  by_cases hex:∃e ∈ E,e.co 0≠0
  ·obtain ⟨e,he,hc⟩:=hex;have h1:((0:Int):Rat)+((e.co 0:Int):Rat)*u 0=((e.rhs:Int):Rat):=hu e he;have hne:((e.co 0:Int):Rat)≠0:=fun h=>hc (by exact_mod_cast h)
   have h2:u 0=Rat.divInt e.rhs (e.co 0):=by
    rw [a5D,←h1];have:((0:Int):Rat)=0:=rfl;rw [this];grind
   rw [h2];have h3:=(hb e he).1 0 (lbS _);have h4:=(hb e he).2;have:=N1 (p:=e.rhs) (q:=e.co 0) hc;omega
  ·have hz:∀e ∈ E,e.co 0=0:=fun e he=>a2R fun h=>hex ⟨e,he,h⟩
   have:=hq (fun _=>u 0+1) fun e he=>by
    have h1:((0:Int):Rat)+((e.co 0:Int):Rat)*u 0=((e.rhs:Int):Rat):=hu e he;show ((0:Int):Rat)+((e.co 0:Int):Rat)*(u 0+1)=((e.rhs:Int):Rat);rw [← h1,hz e he];have:((0:Int):Rat)=0:=rfl;rw [this];grind
   grind
 |k+1,s,E,u,hb,hu,hq=>by
  have hlast:∀(e:EqI) (v:Nat->Rat),k7 (fun l=>((e.co l:Int):Rat)*v l) (k+1+1)=k7 (fun l=>((e.co l:Int):Rat)*v l) (k+1)+((e.co (k+1):Int):Rat)*v (k+1):=fun e v=>rfl
  by_cases hex:∃e ∈ E,e.co (k+1)≠0
  ·obtain ⟨e0,he0,hc⟩:=hex;have hne:((e0.co (k+1):Int):Rat)≠0:=fun h=>hc (by exact_mod_cast h)
   have ih:=a7R k (2*s+1) (E.map (aq5 k e0)) u (fun e he=>by
    obtain ⟨e1,he1,rfl⟩:=lby.1 he;exact bf7 (hb e0 he0) (hb e1 he1)) (fun e he=>by
    obtain ⟨e1,he1,rfl⟩:=lby.1 he;have a1:k7 _ (k+1+1)=_:=hu e0 he0;have a2:k7 _ (k+1+1)=_:=hu e1 he1;rw [hlast] at a1 a2;unfold a9U;rw [b0T,aX8,←a1,←a2];grind) (fun u' hu'=>by
    have hnew:=hq (fun l=>if l=k+1 then (((e0.rhs:Int):Rat) - k7 (fun l=>((e0.co l:Int):Rat)*u' l) (k+1)) / ((e0.co (k+1):Int):Rat) else u' l) fun e he=>by
     have b1:=hu' _ (lby.2 ⟨e,he,rfl⟩);unfold a9U at b1 ⊢;rw [b0T,aX8] at b1;rw [hlast,j7 (g:=fun l=>((e.co l:Int):Rat)*u' l) fun l hl=>by rw [if_neg om],if_pos rfl];generalize k7 (fun l=>((e.co l:Int):Rat)*u' l) (k+1)=X at *;generalize k7 (fun l=>((e0.co l:Int):Rat)*u' l) (k+1)=Y at *;generalize ((e0.co (k+1):Int):Rat)=c at *;generalize ((e.co (k+1):Int):Rat)=d at *;generalize ((e.rhs:Int):Rat)=r at *;generalize ((e0.rhs:Int):Rat)=r0 at *;have h1:c*(X+d*((r0 - Y) / c))=c*r:=by
      have:c*((r0 - Y) / c)=r0 - Y:=zg;have h2:c*(X+d*((r0 - Y) / c))=c*X+d*(c*((r0 - Y) / c)):=zg;rw [h2,this];grind
     grind
    rw [if_neg om] at hnew;exact hnew)
   have e1:2 ^ (k+1)*(s+1)=2 ^ k*(2*s+1+1):=by rw [Nat.pow_succ,Nat.mul_assoc,show 2*(s+1)=2*s+1+1 by omega]
   rw [e1];exact ih
  ·have hz:∀e ∈ E,e.co (k+1)=0:=fun e he=>a2R fun h=>hex ⟨e,he,h⟩
   have hiff:∀e ∈ E,∀v,a9U (k+1) e v↔a9U k e v:=fun e he v=>by
    unfold a9U;rw [hlast,hz e he];have:((0:Int):Rat)=0:=rfl;rw [this];constructor
    ·intro h;rw [← h];grind
    ·intro h;rw [← h];grind
   have ih:=a7R k s E u (fun e he=>⟨fun l hl=>(hb e he).1 l om,(hb e he).2⟩) (fun e he=>(hiff e he u).1 (hu e he)) fun u' hu'=>hq u' fun e he=>(hiff e he u').2 (hu' e he)
   have:2 ^ k<=2 ^ (k+1):=at4 de om;exact lbT ih (lbV _ this)
structure b15 (m n s:Nat) (D:Fd):Prop where
 o:∀i,i<m->D.O i=n+i
 f:∀j,j<n->D.F j=j
 w:∀i,i<m->∃(q v:Int) (a:Nat->Int),q≠0∧bl q<=s∧bl v<=s∧(∀ j,j<n->bl (a j)<=s)∧((q:Int):Rat)*D.V i=((v:Int):Rat)∧∀j,j<n->((q:Int):Rat)*D.A i j=((a j:Int):Rat)
def ah7 (x:Int):bl (-x)=bl x:=by unfold bl;rw [a1T]
def b66 (x y:Int):bl (x - y)<=max (bl x) (bl y)+1:=by
 have:=a7N x (-y);rw [ah7] at this;rw [a9c];exact this
def aE0 {f:Nat->Rat}:∀n:Nat,k7 f (n+1)=f 0+k7 (fun l=>f (l+1)) n
 |0=>by simp only [k7];grind
 |n+1=>by
  have ih:=aE0 (f:=f) n;have e:k7 f (n+1+1)=k7 f (n+1)+f (n+1):=rfl;rw [e,ih];simp only [k7];grind
def b4S (q0:Int) (b:Nat->Int) (r:Int):EqI:=⟨fun l=>match l with|0=>q0|l+1=>b l,r⟩
def an6 {n:Nat} {q0 r:Int} {b:Nat->Int} {u:Nat->Rat}:a9U n (b4S q0 b r) u↔((q0:Int):Rat)*u 0+k7 (fun l=>((b l:Int):Rat)*u (l+1)) n=((r:Int):Rat):=by
 unfold a9U b4S;simp only;rw [aE0]
def at8 {n v:Nat} {u:Nat->Rat} (hv:v<n):k7 (fun l=>(((if l=v then (1:Int) else 0):Int):Rat)*u l) n=u v:=by
 rw [E1 hv,x4 fun j hj=>?_]
 ·simp only [if_true];have:((1:Int):Rat)=1:=rfl;rw [this];grind
 ·by_cases h:j=v
  ·simp only [h,if_true]
  ·simp only [if_neg h];have:((0:Int):Rat)=0:=rfl;rw [this];grind
def bz2 {s:Nat} (hs:1<=s) (b:Prop) [Decidable b]:bl (if b then (1:Int) else 0)<=s:=by
 split
 ·exact lbT (o7 de de) hs
 ·exact lbT (o7 de de) hs
def b0m {m n s:Nat} {D0 D:Fd} (h0:b15 m n s D0) (hs:1<=s) (hP:X8 m n D) (hI:∀y c,Ids m n D0 y c↔Ids m n D y c) {c:Int} {t:Nat->Int} (hc:c=0∨c=1) (ht:∀j,t j=0∨t j=1)
 {q r:Int} {b:Nat->Int} {φ:Rat} (hq:q≠0) (hqs:bl q<=s) (hr:bl r<=s) (hb:∀l,l<n->bl (b l)<=s)
 (hφ:((q:Int):Rat)*φ=((r:Int):Rat)*((c:Int):Rat)+k7 (fun l=>((b l:Int):Rat)*a0j m n D ((c:Int):Rat) (fun j=>((t j:Int):Rat)) l) n):rl φ<=2 ^ n*(s+2):=by
 obtain ⟨y,hy⟩:∃y,y=a0j m n D ((c:Int):Rat) (fun j=>((t j:Int):Rat)):=⟨_,rfl⟩;rw [← hy] at hφ;have hyD:Ids m n D y ((c:Int):Rat):=by rw [hy];exact a0d hP _ _
 have hy0:=(hI y _).2 hyD;have hyF:∀j,j<n->y (D.F j)=((t j:Int):Rat):=fun j hj=>by rw [hy];exact a16 hP hj
 have eqs:∀j,j<n->∃e:EqI,(∀ l,l<=n->bl (e.co l)<=s+1)∧bl e.rhs<=s+1∧
  ∀(y' u':Nat->Rat),(∀ l,l<n->u' (l+1)=y' l)->Ids m n D0 y' ((c:Int):Rat)->(a9U n e u'↔y' (D.F j)=((t j:Int):Rat)):=by
  intro j hj;have htb:bl (t j)<=1:=by rcases ht j with h|h<;>rw [h]<;>exact o7 de de
  by_cases hv:D.F j<n
  ·refine ⟨b4S 0 (fun l=>if l=D.F j then 1 else 0) (t j),fun l hl=>?_,lbT htb om,fun y' u' hu hy'=>?_⟩
   ·cases l with
    |zero=>exact lbT (o7 (x:=0) de de) om
    |succ l=>exact bz2 om _
   ·rw [an6];rw [j7 (g:=fun l=>(((if l=D.F j then (1:Int) else 0):Int):Rat)*y' l) fun l hl=>by rw [hu l hl],at8 hv];have:((0:Int):Rat)=0:=rfl;rw [this];constructor<;>intro h<;>grind
  ·have hb1:=hP.fb j hj;obtain ⟨i,hi⟩:∃i,D.F j=n+i:=⟨D.F j - n,om⟩;have him:i<m:=om;obtain ⟨qi,vi,ai,q1,q2,q3,q4,q5,q6⟩:=h0.w i him;have hrhs:bl (vi*c - qi*t j)<=s+1:=by
    have h1:bl (vi*c)<=s:=by rcases hc with h|h<;>rw [h]<;>simp<;>first|exact q3|exact lbT (o7 (x:=0) de de) hs
    have h2:bl (qi*t j)<=s:=by rcases ht j with h|h<;>rw [h]<;>simp<;>first|exact q2|exact lbT (o7 (x:=0) de de) hs
    have:=b66 (vi*c) (qi*t j);omega
   refine ⟨b4S 0 ai (vi*c - qi*t j),fun l hl=>?_,hrhs,fun y' u' hu hy'=>?_⟩
   ·cases l with
    |zero=>exact lbT (o7 (x:=0) de de) om
    |succ l=>exact lbT (q4 l om) om
   ·rw [an6,hi];have hid:=hy' i him;rw [h0.o i him] at hid;have hsum:k7 (fun l=>((ai l:Int):Rat)*u' (l+1)) n=((qi:Int):Rat)*k7 (fun j=>D0.A i j*y' (D0.F j)) n:=by
     rw [← G1];refine j7 fun l hl=>?_
     rw [hu l hl,h0.f l hl,←q6 l hl];grind
    rw [hsum];have e0:((0:Int):Rat)=0:=rfl;have e1:((vi*c - qi*t j:Int):Rat)=((vi:Int):Rat)*((c:Int):Rat) - ((qi:Int):Rat)*((t j:Int):Rat):=by push_cast;rfl
    rw [e0,e1,←q5];have hqn:((qi:Int):Rat)≠0:=by intro h;exact q1 (by exact_mod_cast h)
    constructor
    ·intro h;have:((qi:Int):Rat)*(y' (n+i) - ((t j:Int):Rat))=0:=by rw [hid];grind
     have:=(as0.1 this).resolve_left hqn;grind
    ·intro h;rw [← h,hid];grind
 obtain ⟨E,hE⟩:∃E:Nat->EqI,∀j,(hj:j<n)->E j=Classical.choose (eqs j hj):=⟨fun j=>if hj:j<n then Classical.choose (eqs j hj) else ⟨fun _=>0,0⟩,fun j hj=>by simp [hj]⟩;have hEs:∀j,j<n->(∀ l,l<=n->bl ((E j).co l)<=s+1)∧bl (E j).rhs<=s+1∧
  ∀(y' u':Nat->Rat),(∀ l,l<n->u' (l+1)=y' l)->Ids m n D0 y' ((c:Int):Rat)->(a9U n (E j) u'↔y' (D.F j)=((t j:Int):Rat)):=fun j hj=>by
  rw [hE j hj];exact a7F (eqs j hj)
 let e0:EqI:=b4S q (fun l=>0 - b l) (r*c)
 have he0:∀(y' u':Nat->Rat),(∀ l,l<n->u' (l+1)=y' l)->(a9U n e0 u'↔((q:Int):Rat)*u' 0=((r:Int):Rat)*((c:Int):Rat)+k7 (fun l=>((b l:Int):Rat)*y' l) n):=by
  intro y' u' hu;show a9U n (b4S q (fun l=>0 - b l) (r*c)) u'↔_;rw [an6];have e1:k7 (fun l=>(((0 - b l:Int)):Rat)*u' (l+1)) n=0 - k7 (fun l=>((b l:Int):Rat)*y' l) n:=by
   have:k7 (fun l=>(((0 - b l:Int)):Rat)*u' (l+1)) n=k7 (fun l=>(-1:Rat)*(((b l:Int):Rat)*y' l)) n:=j7 fun l hl=>by
    rw [hu l hl];push_cast;grind
   rw [this,G1];grind
  rw [e1];have e2:((r*c:Int):Rat)=((r:Int):Rat)*((c:Int):Rat):=by push_cast;rfl
  rw [e2];constructor<;>intro h<;>grind
 let u:Nat->Rat:=fun l=>match l with|0=>φ|l+1=>y l
 have hu:∀l,l<n->u (l+1)=y l:=fun l _=>rfl
 have key:=a7R n (s+1) (e0::(List.range n).map E) u (fun e he=>?_) (fun e he=>?_) (fun u' hu'=>?_)
 ·exact key
 ·rcases lbB.1 he with rfl|he
  ·refine ⟨fun l hl=>?_,?_⟩
   ·cases l with
    |zero=>exact lbT hqs om
    |succ l=>
     show bl (0 - b l)<=s+1;have:=hb l om;have h1:=b66 0 (b l);have h2:=o7 (x:=0) de de;omega
   ·show bl (r*c)<=s+1;rcases hc with h|h<;>rw [h]<;>simp
    ·exact lbT (o7 (x:=0) de de) om
    ·omega
  ·obtain ⟨j,hj,rfl⟩:=lby.1 he;have:=hEs j (lbC.1 hj);exact ⟨this.1,this.2.1⟩
 ·rcases lbB.1 he with rfl|he
  ·exact (he0 y u hu).2 hφ
  ·obtain ⟨j,hj,rfl⟩:=lby.1 he;have hj:=lbC.1 hj;exact ((hEs j hj).2.2 y u hu hy0).2 (hyF j hj)
 ·let y':Nat->Rat:=fun w=>if w<n then u' (w+1) else ((c:Int):Rat)*D0.V (w - n) - k7 (fun j=>D0.A (w - n) j*u' (j+1)) n
  have huy:∀l,l<n->u' (l+1)=y' l:=fun l hl=>by show _=if l<n then _ else _;rw [if_pos hl]
  have hy':Ids m n D0 y' ((c:Int):Rat):=by
   intro i hi;rw [h0.o i hi];show (if n+i<n then _ else _)=_;rw [if_neg om,show n+i - n=i by omega]
   congr 1
   refine j7 fun j hj=>?_
   rw [h0.f j hj,huy j hj]
  have hyD':=(hI y' _).1 hy';have hF':∀j,j<n->y' (D.F j)=((t j:Int):Rat):=fun j hj=>((hEs j hj).2.2 y' u' huy hy').1 (hu' _ (a20 _ (lby.2 ⟨j,lbC.2 hj,rfl⟩)))
  have same:∀w,w<n+m->y' w=y w:=by
   intro w hw;rcases hP.all w hw with ⟨i,hi,rfl⟩|⟨j,hj,rfl⟩
   ·rw [hyD' i hi,hyD i hi]
    congr 1
    exact j7 fun j hj=>by rw [hF' j hj,hyF j hj]
   ·rw [hF' j hj,hyF j hj]
  have h1:=(he0 y' u' huy).1 (hu' e0 (a2T));have h2:k7 (fun l=>((b l:Int):Rat)*y' l) n=k7 (fun l=>((b l:Int):Rat)*y l) n:=j7 fun l hl=>by rw [same l om]
  rw [h2,←hφ] at h1;have hqn:((q:Int):Rat)≠0:=by intro h;exact hq (by exact_mod_cast h)
  show u' 0=φ;have h3:((q:Int):Rat)*(u' 0 - φ)=0:=zg;have:=(as0.1 h3).resolve_left hqn;grind
def b9x {m n s:Nat} {D0 D:Fd} (h0:b15 m n s D0) (hs:1<=s) (hP:X8 m n D) (hI:∀y c,Ids m n D0 y c↔Ids m n D y c) {g0:Nat->Rat} {z:Rat} (hG:a0g n D g0 m z) {q:Int} {b:Nat->Int} (hq:q≠0) (hqs:bl q<=s) (hb:∀l,l<n->bl (b l)<=s) (hg:∀l,l<n->((q:Int):Rat)*g0 l=((b l:Int):Rat)) {j:Nat} (hj:j<n):rl (D.G j)<=2 ^ n*(s+2):=by
 have h1:=hG _ _ (a0d hP ((0:Int):Rat) (fun l=>(((if l=j then (1:Int) else 0):Int):Rat)));have e:k7 (fun l=>D.G l*a0j m n D ((0:Int):Rat) (fun l=>(((if l=j then (1:Int) else 0):Int):Rat)) (D.F l)) n=D.G j:=by
  rw [j7 (g:=fun l=>(((if l=j then (1:Int) else 0):Int):Rat)*D.G l) fun l hl=>by rw [a16 hP hl];grind,at8 (u:=fun l=>D.G l) hj]
 rw [e] at h1;refine b0m h0 hs hP hI (c:=0) (t:=fun l=>if l=j then 1 else 0) (.inl rfl) (fun l=>by by_cases h:l=j;exact .inr (if_pos h);exact .inl (if_neg h)) (q:=q) (r:=0) (b:=b) hq hqs (lbT (o7 de de) hs) hb ?_;have e0:((0:Int):Rat)=0:=rfl;have h2:D.G j=k7 (fun l=>g0 l*a0j m n D ((0:Int):Rat) (fun l=>(((if l=j then (1:Int) else 0):Int):Rat)) l) n:=by
  rw [h1];simp only [e0];grind
 rw [h2,←G1];have h3:k7 (fun l=>((b l:Int):Rat)*a0j m n D ((0:Int):Rat) (fun l=>(((if l=j then (1:Int) else 0):Int):Rat)) l) n=k7 (fun l=>((q:Int):Rat)*(g0 l*a0j m n D ((0:Int):Rat) (fun l=>(((if l=j then (1:Int) else 0):Int):Rat)) l)) n:=j7 fun l hl=>by rw [← hg l hl];grind
 rw [h3];grind
def b5a (m n:Nat) (y:Nat->Rat):Prop:=∀w,w<n+m->0<=y w
def aT8 {m n:Nat} {D:Fd} {g0:Nat->Rat} {z:Rat} (hP:X8 m n D) (hG:a0g n D g0 m z) (hv:∀i,i<m->0<=D.V i) (hg:∀j,j<n->D.G j<=0):
 (∃ y,Ids m n D y 1∧b5a m n y∧k7 (fun j=>g0 j*y j) n=z∧y=a0j m n D 1 (fun _=>0))∧∀y,Ids m n D y 1->b5a m n y->k7 (fun j=>g0 j*y j) n<=z:=by
 refine ⟨⟨_,a0d hP 1 (fun _=>0),fun w hw=>?_,?_,rfl⟩,fun y hy hp=>?_⟩
 ·rcases hP.all w hw with ⟨i,hi,rfl⟩|⟨j,hj,rfl⟩
  ·rw [a7b hP hi,x4 fun j hj=>by grind];have:=hv i hi;grind
  ·rw [a16 hP hj];grind
 ·rw [hG _ _ (a0d hP 1 (fun _=>0)),x4 fun j hj=>by rw [a16 hP hj];grind];grind
 ·rw [hG _ _ hy];have:k7 (fun j=>D.G j*y (D.F j)) n<=0:=a85 fun j hj=>by
   have h1:=hg j hj;have h2:=hp (D.F j) (hP.fb j hj);have:=lb2 (show 0<=-(D.G j) by grind) h2;grind
  grind
def b9S {m n:Nat} {D:Fd} (hP:X8 m n D) {r:Nat} (hr:r<m) (hv:D.V r<0) (ha:∀j,j<n->0<=D.A r j):∀y,Ids m n D y 1->¬b5a m n y:=by
 intro y hy hp;have h1:=hy r hr;have h2:=hp (D.O r) (hP.ob r hr);have h3:0<=k7 (fun j=>D.A r j*y (D.F j)) n:=a2z fun j hj=>lb2 (ha j hj) (hp _ (hP.fb j hj))
 grind
def ba0 {m n:Nat} {D:Fd} {g0:Nat->Rat} {z:Rat} (hP:X8 m n D) (hG:a0g n D g0 m z) {s:Nat} (hs:s<n) (hg:0<D.G s) (ha:∀i,i<m->D.A i s<=0):
 ∃y,Ids m n D y 0∧b5a m n y∧0<k7 (fun j=>g0 j*y j) n∧y=a0j m n D 0 (fun j=>if j=s then 1 else 0):=by
 have hsum:∀f:Nat->Rat,k7 (fun j=>f j*(if j=s then (1:Rat) else 0)) n=f s:=fun f=>by
  rw [E1 hs,x4 fun j hj=>by by_cases h:j=s;simp only [h,if_true];simp only [if_neg h];grind];simp only [if_true];grind
 refine ⟨_,a0d hP 0 _,fun w hw=>?_,?_,rfl⟩
 ·rcases hP.all w hw with ⟨i,hi,rfl⟩|⟨j,hj,rfl⟩
  ·rw [a7b hP hi,hsum];have:=ha i hi;grind
  ·rw [a16 hP hj];split<;>grind
 ·rw [hG _ _ (a0d hP 0 _),j7 (g:=fun j=>D.G j*(if j=s then (1:Rat) else 0)) fun j hj=>by rw [a16 hP hj],hsum];grind
structure z7 where
 terms:List (Int × Rat)
 kind:Int
 value:Rat
structure j2 where
 n:Int
 rows:List z7
def n8 (l:List (Int × Rat)) (z:List Rat):Rat:=l.foldl (fun a t=>a+t.2*z.getD t.1.toNat 0) ((0:Int):Rat)
def R5 (l:List (Int × Rat)) (t:Int × Rat) (z:List Rat):n8 (l++[t]) z=n8 l z+t.2*z.getD t.1.toNat 0:=by unfold n8;rw [List.foldl_append];rfl
def j9:Int->Int->List (Int × Rat)->Bool
 |_,_,[]=>true
 |last,n,t::r=>decide (last<t.1) && decide (t.1<n) && decide (t.2≠0) && j9 t.1 n r
def v6 (n:Int) (w:z7):Bool:=j9 (-1) n w.terms && decide (0<=w.kind) && decide (w.kind<3)
def n7 (s:j2):Bool:=decide (0<=s.n) && decide (s.n<=1500) && decide (s.rows.length<=6000) && s.rows.all (v6 s.n)
def Y9 (w:z7) (z:List Rat):Bool:=!((decide (n8 w.terms z<w.value) && decide (w.kind≠1)) || (decide (w.value<n8 w.terms z) && decide (w.kind≠0)))
def m9 (s:j2) (z:List Rat):Bool:=n7 s && decide ((z.length:Int)=s.n) && z.all (fun v=>decide (0<=v)) && s.rows.all (fun w=>Y9 w z)
def k9 (e:Ev) (p:Int):Nat->List (Int × Rat)
 |0=>[]
 |k+1=>match e.moves[k]? with
  |none=>k9 e p k
  |some y=>if y.dst=p then k9 e p k++[((k:Int),((1:Int):Rat))] else if y.src=p then k9 e p k++[((k:Int),((-1:Int):Rat))] else k9 e p k
def x8 (e:Ev) (i:Nat) (x:A8):z7:=⟨k9 e x.src i++[((i:Int),((-1:Int):Rat))],if x.all then 2 else 0,((0:Int):Rat)⟩
def y5 (i:Nat) (kind:Int) (v:Rat):z7:=⟨[((i:Int),((1:Int):Rat))],kind,v⟩
def a0P (iv:Option (Rat × Rat)) (i:Nat):List z7:=match iv with
 |none=>[]
 |some (_,hi)=>[y5 i 1 hi]
def R8 (t:j6) (kind:Int) (i:Nat) (x:A8):List z7:=
 (if w9 t.ev x.src=0 then [] else [x8 t.ev i x])++a0P (M5 t.ev x) i++(t8 t.finds kind i).map (fun g:Int=>y5 i 0 (g:Rat))++List.replicate (B2 t.cleans kind i) (y5 i 2 ((0:Int):Rat))
def t9 (t:j6) (kind:Int):Nat->List z7
 |0=>[]
 |k+1=>match t.ev.moves[k]? with
  |none=>t9 t kind k
  |some x=>t9 t kind k++R8 t kind k x
def U8 (t:j6) (kind:Int):j2:=⟨t.ev.moves.length,t9 t kind t.ev.moves.length⟩
def a7q {e:Ev} (h0:F3 e=0) (z:List Rat) (p:Nat):∀k,n8 (k9 e p k) z=a1N e z k p
 |0=>rfl
 |k+1=>by
  have ih:=a7q h0 z p k;unfold k9;cases hx:e.moves[k]? with
  |none=>rw [b0i hx];exact ih
  |some y=>
   have hm:=O9 h0 (lbm hx);have hne:y.src≠y.dst:=by unfold L2 at hm;simp only [lbO,lbJ] at hm;exact hm.1.1.1.1.1.2
   rw [ay9 hx];simp only;by_cases c1:y.dst=(p:Int)
   ·rw [if_pos c1,if_neg om,if_pos c1,R5,ih];simp only [lbZ];have:((1:Int):Rat)=1:=rfl;rw [this];grind
   ·rw [if_neg c1];by_cases c2:y.src=(p:Int)
    ·rw [if_pos c2,if_pos c2,R5,ih];simp only [lbZ];have:((-1:Int):Rat)=-1:=rfl;rw [this];grind
    ·rw [if_neg c2,if_neg c2,if_neg c1];exact ih
def a44 {w:z7} {z:List Rat}:Y9 w z=true↔(n8 w.terms z<w.value->w.kind=1)∧(w.value<n8 w.terms z->w.kind=0):=by
 unfold Y9;simp only [a9W,a1h,lbQ,lbL,Classical.not_not];constructor
 ·rintro ⟨h1,h2⟩;exact ⟨fun h=>h1.resolve_left (fun h'=>h' h),fun h=>h2.resolve_left (fun h'=>h' h)⟩
 ·rintro ⟨h1,h2⟩;refine ⟨?_,?_⟩
  ·by_cases h:n8 w.terms z<w.value
   ·exact .inr (h1 h)
   ·exact .inl h
  ·by_cases h:w.value<n8 w.terms z
   ·exact .inr (h2 h)
   ·exact .inl h
def aP3 (i:Nat) (kind:Int) (v:Rat) (z:List Rat):n8 (y5 i kind v).terms z=z.getD i 0:=by
 show ((0:Int):Rat)+((1:Int):Rat)*z.getD ((i:Int)).toNat 0=_;rw [lbZ];have h0:((0:Int):Rat)=0:=rfl;have h1:((1:Int):Rat)=1:=rfl;rw [h0,h1];grind
def b5B {i:Nat} {v:Rat} {z:List Rat}:Y9 (y5 i 1 v) z=true↔z.getD i 0<=v:=by
 rw [a44,aP3];show (_->(1:Int)=1)∧(v<z.getD i 0->(1:Int)=0)↔_;constructor
 ·rintro ⟨_,h⟩;exact lb5.1 fun h'=>absurd (h h') de
 ·intro h;exact ⟨fun _=>rfl,fun h'=>absurd h' (lb5.2 h)⟩
def aD4 {i:Nat} {v:Rat} {z:List Rat}:Y9 (y5 i 0 v) z=true↔v<=z.getD i 0:=by
 rw [a44,aP3];show (z.getD i 0<v->(0:Int)=1)∧(_->(0:Int)=0)↔_;constructor
 ·rintro ⟨h,_⟩;exact lb5.1 fun h'=>absurd (h h') de
 ·intro h;exact ⟨fun h'=>absurd h' (lb5.2 h),fun _=>rfl⟩
def a6u {i:Nat} {v:Rat} {z:List Rat}:Y9 (y5 i 2 v) z=true↔z.getD i 0=v:=by
 rw [a44,aP3];show (z.getD i 0<v->(2:Int)=1)∧(v<z.getD i 0->(2:Int)=0)↔_;constructor
 ·rintro ⟨h,h2⟩;have q1:¬z.getD i 0<v:=fun h'=>absurd (h h') de
  have q2:¬v<z.getD i 0:=fun h'=>absurd (h2 h') de
  grind
 ·intro h;exact ⟨fun h'=>by grind,fun h'=>by grind⟩
theorem stock_holds {e:Ev} (h0:F3 e=0) {i:Nat} {x:A8} (hx:e.moves[i]? =some x) {z:List Rat}:Y9 (x8 e i x) z=true↔z.getD i 0<=a1N e z i x.src.toNat∧(x.all=true->z.getD i 0=a1N e z i x.src.toNat):=by
 have hm:=O9 h0 (lbm hx);have ms:=a2t hm;have hv:n8 (x8 e i x).terms z=a1N e z i x.src.toNat - z.getD i 0:=by
  unfold x8;simp only;rw [R5,show k9 e x.src i=k9 e ((x.src.toNat:Nat):Int) i by rw [show ((x.src.toNat:Nat):Int)=x.src by omega],a7q h0];simp only [lbZ];have:((-1:Int):Rat)=-1:=rfl;rw [this];grind
 have hz:(x8 e i x).value=0:=rfl;have hk:(x8 e i x).kind=if x.all then 2 else 0:=rfl
 rw [a44,hv,hz,hk];cases hal:x.all with
 |true=>
  simp only [if_true];constructor
  ·rintro ⟨h,h2⟩;have q1:¬a1N e z i x.src.toNat - z.getD i 0<0:=fun h'=>absurd (h h') de
   have q2:¬0<a1N e z i x.src.toNat - z.getD i 0:=fun h'=>absurd (h2 h') de
   exact ⟨by grind,fun _=>by grind⟩
  ·rintro ⟨h,h2⟩;have h2:=h2 trivial;exact ⟨fun h'=>by grind,fun h'=>by grind⟩
 |false=>
  simp only [a8t,if_false];constructor
  ·rintro ⟨h,h2⟩;have q1:¬a1N e z i x.src.toNat - z.getD i 0<0:=fun h'=>absurd (h h') de
   exact ⟨by grind,fun h=>(by cases h)⟩
  ·rintro ⟨h,_⟩;exact ⟨fun h'=>by grind,fun _=>trivial⟩
theorem move_holds {t:j6} {kind:Int} (h0:F3 t.ev=0) {i:Nat} {x:A8} (hx:t.ev.moves[i]? =some x) {z:List Rat} (hz:0<=z.getD i 0):
 (R8 t kind i x).all (fun w=>Y9 w z)=true↔by8 t.ev x (z.getD i 0) (a1N t.ev z i x.src.toNat)∧b8J t kind i x (z.getD i 0):=by
 have hmo:=O9 h0 (lbm hx);unfold R8;simp only [a7S,lbO,List.all_map];have e1:(if w9 t.ev x.src=0 then ([]:List z7) else [x8 t.ev i x]).all (fun w=>Y9 w z)=true↔(w9 t.ev x.src≠0->z.getD i 0<=a1N t.ev z i x.src.toNat∧(x.all=true->z.getD i 0=a1N t.ev z i x.src.toNat)):=by
  by_cases hb:w9 t.ev x.src=0
  ·rw [if_pos hb];exact ⟨fun _ h=>absurd hb h,fun _=>rfl⟩
  ·rw [if_neg hb];simp only [List.all_cons,List.all_nil,Bool.and_true];rw [stock_holds h0 hx];exact ⟨fun h _=>h,fun h=>h hb⟩
 have e2:(a0P (M5 t.ev x) i).all (fun w=>Y9 w z)=true↔b7j (M5 t.ev x) (z.getD i 0)=true:=by
  cases hiv:M5 t.ev x with
  |none=>exact ⟨fun _=>rfl,fun _=>rfl⟩
  |some p=>
   obtain ⟨lo,hi⟩:=p;simp only [a0P,b7j,List.all_cons,List.all_nil,Bool.and_true,lbJ];exact b5B
 have e3:(t8 t.finds kind i).all ((fun w=>Y9 w z) ∘ fun g:Int=>y5 i 0 (g:Rat))=true↔∀g ∈ t8 t.finds kind i,(g:Rat)<=z.getD i 0:=by
  rw [lbw];exact ⟨fun h g hg=>aD4.1 (h g hg),fun h g hg=>aD4.2 (h g hg)⟩
 have e4:(List.replicate (B2 t.cleans kind i) (y5 i 2 ((0:Int):Rat))).all (fun w=>Y9 w z)=true↔(0<B2 t.cleans kind i->z.getD i 0=0):=by
  rw [lbw];constructor
  ·intro h hc;exact a6u.1 (h _ (an5.2 ⟨om,rfl⟩))
  ·intro h w hw;obtain ⟨h1,rfl⟩:=an5.1 hw;exact a6u.2 (h om)
 rw [e1,e2,e3,e4];constructor
 ·rintro ⟨⟨⟨q1,q2⟩,q3⟩,q4⟩;exact ⟨⟨hz,fun h=>(q1 h).1,fun h=>(q1 (b1R hmo h)).2 h⟩,⟨q2,q3,q4⟩⟩
 ·rintro ⟨p1,p2⟩;exact ⟨⟨⟨fun h=>⟨p1.most h,p1.all⟩,p2.cap⟩,p2.fin⟩,p2.cln⟩
def a1K {t:j6} {kind:Int} {q:z7->Bool}:∀n,n<=t.ev.moves.length->((t9 t kind n).all q=true↔∀i x,i<n->t.ev.moves[i]? =some x->(R8 t kind i x).all q=true)
 |0,_=>⟨fun _ i x h=>om,fun _=>rfl⟩
 |n+1,h=>by
  obtain ⟨y,hy⟩:∃y,t.ev.moves[n]? =some y:=⟨_,lbf om⟩;unfold t9;rw [hy];simp only [a7S,lbO];rw [a1K n om];constructor
  ·rintro ⟨h1,h2⟩ i x hi hx;rcases F8 i n with h3|h3
   ·exact h1 i x h3 hx
   ·obtain rfl:i=n:=by omega
    rw [hy] at hx;injection hx with hx;subst hx;exact h2
  ·intro h1;exact ⟨fun i x hi hx=>h1 i x om hx,h1 n y om hy⟩
def a7J {last n i:Int} {c:Rat} (h1:last<i) (h2:i<n) (h3:c≠0):j9 last n [(i,c)]=true:=by
 unfold j9;simp [h1,h2,h3,j9]
def a69 {n:Int} {c:Rat} {i:Int} (h2:i<n) (h3:c≠0):∀{l:List (Int × Rat)} {last:Int},j9 last n l=true->last<i->(∀ t ∈ l,t.1<i)->j9 last n (l++[(i,c)])=true
 |[],last,_,h,_=>a7J h h2 h3
 |t::r,last,h,h1,ht=>by
  unfold j9 at h;simp only [lbO,lbJ] at h;show j9 last n (t::(r++[(i,c)]))=true;unfold j9;simp only [lbO,lbJ];exact ⟨h.1,a69 h2 h3 h.2 (ht t zq) fun u hu=>ht u (by simp [hu])⟩
def a7W:((1:Int):Rat)≠0:=by decide
def ad1:((-1:Int):Rat)≠0:=by decide
def a3G {e:Ev} {p:Int} {n:Int}:∀k:Nat,(k:Int)<=n->j9 (-1) n (k9 e p k)=true∧∀t ∈ k9 e p k,t.1<(k:Int)
 |0,_=>⟨rfl,fun t ht=>by cases ht⟩
 |k+1,h=>by
  obtain ⟨h1,h2⟩:=a3G (e:=e) (p:=p) (n:=n) k om;have h3:∀c:Rat,c≠0->j9 (-1) n (k9 e p k++[((k:Int),c)])=true∧∀t ∈ k9 e p k++[((k:Int),c)],t.1<((k+1:Nat):Int):=fun c hc=>
   ⟨a69 om hc h1 om h2,fun t ht=>by
     rcases lbA.1 ht with ht|ht
     ·have:=h2 t ht;omega
     ·simp at ht;subst ht;simp;omega⟩
  unfold k9;cases hx:e.moves[k]? with
  |none=>exact ⟨h1,fun t ht=>by have:=h2 t ht;omega⟩
  |some y=>
   simp only;split
   ·exact h3 _ a7W
   ·split
    ·exact h3 _ ad1
    ·exact ⟨h1,fun t ht=>by have:=h2 t ht;omega⟩
def b1i {t:j6} {kind:Int} {i:Nat} {x:A8} {n:Int} (hi:(i:Int)<n):(R8 t kind i x).all (v6 n)=true:=by
 have ho:∀(k:Int) (v:Rat),0<=k->k<3->v6 n (y5 i k v)=true:=fun k v h1 h2=>by
  unfold v6 y5;simp only [lbO,lbJ];exact ⟨⟨a7J om hi a7W,h1⟩,h2⟩
 unfold R8;simp only [a7S,lbO,lbw];refine ⟨⟨⟨fun w hw=>?_,fun w hw=>?_⟩,fun w hw=>?_⟩,fun w hw=>?_⟩
 ·by_cases hb:w9 t.ev x.src=0
  ·rw [if_pos hb] at hw;cases hw
  ·rw [if_neg hb] at hw;simp at hw;subst hw;obtain ⟨h1,h2⟩:=a3G (e:=t.ev) (p:=x.src) (n:=n) i om;unfold v6 x8;simp only [lbO,lbJ];refine ⟨⟨a69 hi ad1 h1 om h2,?_⟩,?_⟩<;>split<;>decide
 ·cases hiv:M5 t.ev x with
  |none=>rw [hiv] at hw;cases hw
  |some p=>
   obtain ⟨lo,hi⟩:=p;rw [hiv] at hw;simp [a0P] at hw;subst hw;exact ho 1 hi de de
 ·obtain ⟨g,_,rfl⟩:=lby.1 hw;exact ho 0 _ de de
 ·obtain ⟨_,rfl⟩:=an5.1 hw;exact ho 2 _ de de
def aQ3 {t:j6} {kind:Int} {i:Nat} {x:A8}:(R8 t kind i x).length<=2+t.finds.length+t.cleans.length:=by
 unfold R8;have h1:(a0P (M5 t.ev x) i).length<=1:=by unfold a0P;split<;>simp
 have h2:(t8 t.finds kind i).length<=t.finds.length:=by unfold t8;rw [lbr];exact lbt _ _
 have h3:B2 t.cleans kind i<=t.cleans.length:=lbt _ _;have h4:(if w9 t.ev x.src=0 then ([]:List z7) else [x8 t.ev i x]).length<=1:=by split<;>simp
 simp only [lbq,lbr,a9T];omega
def X3 {t:j6} {kind:Int}:∀n,(t9 t kind n).length<=n*(2+t.finds.length+t.cleans.length)
 |0=>by simp [t9]
 |n+1=>by
  have ih:=X3 (t:=t) (kind:=kind) n;unfold t9;rw [lbW];cases hx:t.ev.moves[n]? with
  |none=>simp only;omega
  |some x=>
   have:=aQ3 (t:=t) (kind:=kind) (i:=n) (x:=x);simp only [lbq];omega
def a9s {t:j6} {kind:Int} (hm:t.ev.moves.length<=14) (hf:t.finds.length<=20) (hc:t.cleans.length<=50):n7 (U8 t kind)=true:=by
 unfold n7 U8;have h1:=X3 (t:=t) (kind:=kind) t.ev.moves.length;have h2:t.ev.moves.length*(2+t.finds.length+t.cleans.length)<=14*72:=lbU hm om;simp only [lbO,lbJ];refine ⟨⟨⟨om,om⟩,om⟩,?_⟩;rw [a1K _ (lbS _)];intro i x hi hx;exact b1i om
theorem sys_holds {t:j6} {kind:Int} {z:List Rat} (ht:y7 t=0) (k0:0<=kind) (k1:kind<8) (hm:t.ev.moves.length<=14):m9 (U8 t kind) z=true↔b9z t kind z:=by
 obtain ⟨q1,q2,q3,q4,q5⟩:=v3 ht;unfold m9;rw [a9s hm q2 q3];simp only [H9,lbO,lbJ];constructor
 ·rintro ⟨⟨h1,h2⟩,h3⟩;have hl:z.length=t.ev.moves.length:=by have:(z.length:Int)=t.ev.moves.length:=h1;omega
  refine ⟨ht,k0,k1,hl,fun i x hx=>?_⟩;have hi:i<t.ev.moves.length:=(lbe.1 hx).1;have hz:0<=z.getD i 0:=lbM (lbw.1 h2 _ (lbm (getD_some om)));exact (move_holds q1 hx hz).1 ((a1K _ (lbS _)).1 h3 i x hi hx)
 ·intro h;refine ⟨⟨?_,?_⟩,?_⟩
  ·show (z.length:Int)=t.ev.moves.length;rw [h.len]
  ·rw [lbw];intro v hv;obtain ⟨i,hi,rfl⟩:=X4 hv;obtain ⟨x,hx⟩:∃x,t.ev.moves[i]? =some x:=⟨_,lbf (by rw [← h.len];exact hi)⟩;have:=(h.step i x hx).1.pos;rw [lbl,lbf hi] at this;exact lbI this
  ·show (t9 t kind t.ev.moves.length).all _=true;rw [a1K _ (lbS _)];intro i x hi hx;obtain ⟨a,b⟩:=h.step i x hx;exact (move_holds q1 hx a.pos).2 ⟨a,b⟩
def L0 (l:List (Int × Rat)):Nat->Nat->Rat
 |0=>fun _=>0
 |k+1=>match l[k]? with
  |none=>L0 l k
  |some t=>fun j=>if j=t.1.toNat then t.2 else L0 l k j
def A7 (l:List (Int × Rat)):Nat->Rat:=L0 l l.length
def I1 {l:List (Int × Rat)} {k:Nat} {t:Int × Rat} (h:l[k]? =some t):L0 l (k+1)=fun j=>if j=t.1.toNat then t.2 else L0 l k j:=by rw [L0,h]
def a46 {l:List (Int × Rat)} {v:Nat}:∀k,(∀ i t,i<k->l[i]? =some t->t.1.toNat≠v)->L0 l k v=0
 |0,_=>rfl
 |k+1,h=>by
  have ih:=a46 (l:=l) (v:=v) k fun i t hi ht=>h i t om ht
  cases hk:l[k]? with
  |none=>rw [L0,hk];exact ih
  |some t=>
   rw [I1 hk];simp only;rw [if_neg (fun e=>h k t om hk e.symm),ih]
def E7:∀{last n:Int} {l:List (Int × Rat)},j9 last n l=true->∀t ∈ l,last<t.1∧t.1<n∧t.2≠0
 |_,_,[],_,t,ht=>by cases ht
 |last,n,a::r,h,t,ht=>by
  unfold j9 at h;simp only [lbO,lbJ] at h;rcases lbB.1 ht with rfl|ht
  ·exact ⟨h.1.1.1,h.1.1.2,h.1.2⟩
  ·have:=E7 h.2 t ht;exact ⟨om,this.2⟩
def a5f:∀{last n:Int} {l:List (Int × Rat)},j9 last n l=true->∀(i j:Nat) (t u:Int × Rat),i<j->l[i]? =some t->l[j]? =some u->t.1<u.1
 |_,_,[],_,i,j,t,u,_,ht,_=>by simp at ht
 |last,n,a::r,h,i,j,t,u,hij,ht,hu=>by
  unfold j9 at h;simp only [lbO,lbJ] at h;cases j with
  |zero=>omega
  |succ j=>
   simp only [List.getElem?_cons_succ] at hu;cases i with
   |zero=>
    simp only [List.getElem?_cons_zero] at ht;injection ht with ht;subst ht
    exact (E7 h.2 u (lbm hu)).1
   |succ i=>
    simp only [List.getElem?_cons_succ] at ht;exact a5f h.2 i j t u om ht hu
def a7u {α:Type} {l:List α} {k:Nat} {x:α} (h:l[k]? =some x):l.take (k+1)=l.take k++[x]:=by rw [lbH,h];rfl
def b0u {n:Nat} {l:List (Int × Rat)} (h:j9 (-1) (n:Int) l=true) (z:List Rat):∀k,k<=l.length->n8 (l.take k) z=k7 (fun j=>L0 l k j*z.getD j 0) n
 |0,_=>by
  rw [a9d,x4 fun j hj=>by show (0:Rat)*_=0;grind]
  rfl
 |k+1,hk=>by
  have ih:=b0u h z k om;obtain ⟨t,ht⟩:∃t,l[k]? =some t:=⟨_,lbf om⟩;have hm:=E7 h t (lbm ht);have hv:t.1.toNat<n:=om;have h0:L0 l k t.1.toNat=0:=a46 k fun i u hi hu=>by
   have:=a5f h i k u t hi hu ht;have h2:=E7 h u (lbm hu);omega
  rw [a7u ht,R5,ih,I1 ht];rw [E1 (f:=fun j=>(if j=t.1.toNat then t.2 else L0 l k j)*z.getD j 0) hv,E1 (f:=fun j=>L0 l k j*z.getD j 0) hv];simp only [if_true,h0];rw [j7 (f:=fun j=>if j=t.1.toNat then 0 else (if j=t.1.toNat then t.2 else L0 l k j)*z.getD j 0) (g:=fun j=>if j=t.1.toNat then 0 else L0 l k j*z.getD j 0) fun j hj=>by
   by_cases hj:j=t.1.toNat
   ·rw [if_pos hj,if_pos hj]
   ·rw [if_neg hj,if_neg hj,if_neg hj]]
  grind
def P9 {n:Nat} {l:List (Int × Rat)} (h:j9 (-1) (n:Int) l=true) (z:List Rat):n8 l z=k7 (fun j=>A7 l j*z.getD j 0) n:=by
 have:=b0u h z l.length (lbS _);rw [a7V] at this;exact this
def G3 (s:j2):Nat->LB
 |0=>[]
 |k+1=>match s.rows[k]? with
  |none=>G3 s k
  |some w=>G3 s k++(if w.kind≠0 then [(k,false)] else [])++(if w.kind≠1 then [(k,true)] else [])
def i8 (s:j2):LB:=G3 s s.rows.length
def S0 (b:Bool) (x:Rat):Rat:=if b then -x else x
def a3k (s:j2) (f:Nat × Bool):Rat:=match s.rows[f.1]? with
 |none=>0
 |some w=>S0 f.2 w.value
def a23 (s:j2) (f:Nat × Bool) (j:Nat):Rat:=match s.rows[f.1]? with
 |none=>0
 |some w=>S0 f.2 (A7 w.terms j)
def j5 (s:j2) (g:List (Int × Rat)):Fd where
 V:=fun i=>a3k s ((i8 s).getD i (0,false))
 A:=fun i j=>a23 s ((i8 s).getD i (0,false)) j
 G:=fun j=>-(A7 g j)
 O:=fun i=>s.n.toNat+i
 F:=fun j=>j
def aC6 {s:j2} {f:Nat × Bool}:∀k,f ∈ G3 s k↔f.1<k∧∃w,s.rows[f.1]? =some w∧(f.2=false->w.kind≠0)∧(f.2=true->w.kind≠1)
 |0=>by simp [G3]
 |k+1=>by
  have ih:=aC6 (s:=s) (f:=f) k;unfold G3;cases hw:s.rows[k]? with
  |none=>
   simp only;rw [ih];constructor
   ·rintro ⟨h1,h2⟩;exact ⟨om,h2⟩
   ·rintro ⟨h1,w,h2,h3⟩;refine ⟨?_,w,h2,h3⟩;by_cases he:f.1=k
    ·rw [he,hw] at h2;cases h2
    ·omega
  |some w=>
   simp only;rw [lbA,lbA,ih];obtain ⟨a,b⟩:=f;simp only;constructor
   ·rintro ((⟨h1,h2⟩|h)|h)
    ·exact ⟨om,h2⟩
    ·split at h
     ·rename_i hk;simp at h;obtain ⟨rfl,rfl⟩:=h;exact ⟨om,w,hw,fun _=>hk,fun h=>by cases h⟩
     ·simp at h
    ·split at h
     ·rename_i hk;simp at h;obtain ⟨rfl,rfl⟩:=h;exact ⟨om,w,hw,fun h=>(by cases h),fun _=>hk⟩
     ·simp at h
   ·rintro ⟨h1,w',h2,h3,h4⟩;by_cases he:a=k
    ·subst he;rw [hw] at h2;injection h2 with h2;subst h2
     cases b with
     |false=>rw [if_pos (h3 rfl)];simp
     |true=>rw [if_pos (h4 rfl)];simp
    ·exact .inl (.inl ⟨om,w',h2,h3,h4⟩)
def Q1 {s:j2} {f:Nat × Bool}:f ∈ i8 s↔∃w,s.rows[f.1]? =some w∧(f.2=false->w.kind≠0)∧(f.2=true->w.kind≠1):=by
 unfold i8;rw [aC6];constructor
 ·rintro ⟨_,h⟩;exact h
 ·rintro ⟨w,h⟩;exact ⟨(lbe.1 h.1).1,w,h⟩
def b1K {s:j2} {g:List (Int × Rat)}:X8 (i8 s).length s.n.toNat (j5 s g) where
 oi:=fun i i' _ _ h=>by have:s.n.toNat+i=s.n.toNat+i':=h;omega
 fi:=fun j j' _ _ h=>h
 of:=fun i j _ hj h=>by have:s.n.toNat+i=j:=h;omega
 all:=fun w hw=>by
  by_cases h:w<s.n.toNat
  ·exact .inr ⟨w,h,rfl⟩
  ·exact .inl ⟨w - s.n.toNat,om,by show s.n.toNat+(w - s.n.toNat)=w;omega⟩
 ob:=fun i hi=>by show s.n.toNat+i<_;omega
 fb:=fun j hj=>by show j<_;omega
def b0Y {s:j2} {g:List (Int × Rat)}:a0g s.n.toNat (j5 s g) (fun j=>-(A7 g j)) (i8 s).length 0:=by
 intro y c _;have:c*(0:Rat)=0:=zg;rw [this];have e:k7 (fun j=>(j5 s g).G j*y ((j5 s g).F j)) s.n.toNat=k7 (fun j=>-(A7 g j)*y j) s.n.toNat:=rfl;rw [e];grind
def a7w (s:j2) (g:List (Int × Rat)) (z:List Rat) (w:Nat):Rat:=if w<s.n.toNat then z.getD w 0 else (j5 s g).V (w - s.n.toNat) - k7 (fun j=>(j5 s g).A (w - s.n.toNat) j*z.getD j 0) s.n.toNat
def b47 {s:j2} {g:List (Int × Rat)} (z:List Rat):Ids (i8 s).length s.n.toNat (j5 s g) (a7w s g z) 1:=by
 intro i hi;show a7w s g z (s.n.toNat+i)=_;unfold a7w;rw [if_neg om,show s.n.toNat+i - s.n.toNat=i by omega];have:(1:Rat)*(j5 s g).V i=(j5 s g).V i:=zg;rw [this]
 congr 1
 refine j7 fun j hj=>?_
 show _=(j5 s g).A i j*(if j<s.n.toNat then z.getD j 0 else _);rw [if_pos hj]
def aF1 {s:j2} {g:List (Int × Rat)} (hr:n7 s=true) {z:List Rat} {i:Nat} {f:Nat × Bool} {w:z7} (hf:(i8 s)[i]? =some f) (hw:s.rows[f.1]? =some w):a7w s g z (s.n.toNat+i)=S0 f.2 (w.value - n8 w.terms z):=by
 unfold a7w;rw [if_neg om,show s.n.toNat+i - s.n.toNat=i by omega];have hfd:(i8 s).getD i (0,false)=f:=by rw [lbl,hf];rfl
 show a3k s ((i8 s).getD i (0,false)) - k7 (fun j=>a23 s ((i8 s).getD i (0,false)) j*z.getD j 0) s.n.toNat=_;rw [hfd];have hrow:v6 s.n w=true:=by
  unfold n7 at hr;simp only [lbO,lbJ,lbw] at hr;exact hr.2 w (lbm hw)
 have hn:(s.n.toNat:Int)=s.n:=by
  unfold n7 at hr;simp only [lbO,lbJ] at hr;omega
 unfold v6 at hrow;simp only [lbO,lbJ] at hrow;have hrt:=hrow.1.1;rw [← hn] at hrt;have e1:a3k s f=S0 f.2 w.value:=by unfold a3k;rw [hw]
 have e2:∀j,a23 s f j=S0 f.2 (A7 w.terms j):=fun j=>by unfold a23;rw [hw]
 rw [e1,P9 hrt z];cases hb:f.2 with
 |false=>
  rw [j7 (g:=fun j=>A7 w.terms j*z.getD j 0) fun j hj=>by rw [e2 j,hb];rfl]
  rfl
 |true=>
  rw [j7 (g:=fun j=>(-1:Rat)*(A7 w.terms j*z.getD j 0)) fun j hj=>by rw [e2 j,hb];show -(A7 w.terms j)*_=_;grind,G1];show -w.value - _=-(w.value - _);grind
theorem first_holds {s:j2} {g:List (Int × Rat)} (hr:n7 s=true) {z:List Rat} (hl:(z.length:Int)=s.n):m9 s z=true↔b5a (i8 s).length s.n.toNat (a7w s g z):=by
 have hn:z.length=s.n.toNat:=om;unfold m9;rw [hr,lbI hl];simp only [H9,lbO,lbw,lbJ];constructor
 ·rintro ⟨h1,h2⟩ w hw;by_cases hv:w<s.n.toNat
  ·unfold a7w;rw [if_pos hv,lbl,lbf om];exact h1 _ (lbF _)
  ·obtain ⟨i,rfl⟩:∃i,w=s.n.toNat+i:=⟨w - s.n.toNat,om⟩;have hi:i<(i8 s).length:=om;obtain ⟨f,hf⟩:∃f,(i8 s)[i]? =some f:=⟨_,lbf hi⟩;obtain ⟨x,hx,hk1,hk2⟩:=Q1.1 (lbm hf);rw [aF1 hr hf hx];have hb:=h2 x (lbm hx);unfold Y9 at hb;simp only [a9W,a1h,lbQ,lbL] at hb;cases hfb:f.2 with
   |false=>
    have:=hk1 hfb;show 0<=x.value - n8 x.terms z;rcases hb.2 with h|h
    ·grind
    ·exact absurd this h
   |true=>
    have:=hk2 hfb;show 0<=-(x.value - n8 x.terms z);rcases hb.1 with h|h
    ·grind
    ·exact absurd this h
 ·intro hp;refine ⟨fun v hv=>?_,fun x hx=>?_⟩
  ·obtain ⟨j,hj,rfl⟩:=X4 hv;have:=hp j om;unfold a7w at this;rw [if_pos om,lbl,lbf hj] at this;exact this
  ·obtain ⟨k,hk,hkx⟩:=X4 hx;have hxk:s.rows[k]? =some x:=by rw [lbf hk,hkx]
   have side:∀b:Bool,(b=false->x.kind≠0)->(b=true->x.kind≠1)->0<=S0 b (x.value - n8 x.terms z):=by
    intro b h1 h2;have hm:((k,b):Nat × Bool) ∈ i8 s:=Q1.2 ⟨x,hxk,h1,h2⟩;obtain ⟨i,hi,hif⟩:=X4 hm;have hf:(i8 s)[i]? =some (k,b):=by rw [lbf hi,hif]
    have:=hp (s.n.toNat+i) om;rw [aF1 hr hf hxk] at this;exact this
   unfold Y9;simp only [a9W,a1h,lbQ,lbL];constructor
   ·by_cases h:x.kind≠1
    ·left
     have:=side true (fun h=>by cases h) (fun _=>h);have h2:0<=-(x.value - n8 x.terms z):=this;grind
    ·right;exact h
   ·by_cases h:x.kind≠0
    ·left
     have:=side false (fun _=>h) (fun h=>by cases h);have h2:0<=x.value - n8 x.terms z:=this;grind
    ·right;exact h
def b3k (x:Rat):((x.den:Int):Rat)*x=((x.num:Int):Rat):=by
 have hq:((x.den:Int):Rat)≠0:=by
  intro h;have:(x.den:Int)=0:=by exact_mod_cast h
  have:=x.den_pos;omega
 have h1:x=((x.num:Int):Rat) / ((x.den:Int):Rat):=by rw [← a5D,Rat.num_divInt_den]
 have h2:((x.den:Int):Rat)*(((x.num:Int):Rat) / ((x.den:Int):Rat))=((x.num:Int):Rat):=by
  rw [a6b,ak6,a67,b1o _ hq,Rat.mul_one]
 rw [← h1] at h2;exact h2
def al3 (B:Nat) (w:z7):Prop:=(∀ t ∈ w.terms,∃c:Int,t.2=((c:Int):Rat)∧bl c<=1)∧rl w.value<=B
def a1D {l:List (Int × Rat)} (h:∀t ∈ l,∃c:Int,t.2=((c:Int):Rat)∧bl c<=1):∀(k j:Nat),∃c:Int,L0 l k j=((c:Int):Rat)∧bl c<=1
 |0,j=>⟨0,rfl,o7 de de⟩
 |k+1,j=>by
  cases hk:l[k]? with
  |none=>rw [L0,hk];exact a1D h k j
  |some t=>
   rw [I1 hk];simp only;split
   ·exact h t (lbm hk)
   ·exact a1D h k j
def bi3 {b:Bool} {x:Rat} {c:Int} (h:x=((c:Int):Rat)):∃c':Int,S0 b x=((c':Int):Rat)∧bl c'=bl c:=by
 cases b with
 |false=>exact ⟨c,h,rfl⟩
 |true=>exact ⟨-c,by show -x=_;rw [h];push_cast;rfl,ah7 c⟩
instance:Inhabited Fd:=⟨⟨fun _=>0,fun _ _=>0,fun _=>0,fun _=>0,fun _=>0⟩⟩
structure a4J (m n:Nat) (D0:Fd) (g0:Nat->Rat) (D:Fd):Prop where
 p:X8 m n D
 i:∀y c,Ids m n D0 y c↔Ids m n D y c
 g:∃z,a0g n D g0 m z
def b8e {m n r s:Nat} {D0 D:Fd} {g0:Nat->Rat} (h:a4J m n D0 g0 D) (hs:u7 m n D=.next r s):a4J m n D0 g0 (D.exch r s):=by
 obtain ⟨hr,hsn,hb⟩:=a40 hs;have hp:=a4F hb;obtain ⟨z,hz⟩:=h.g;exact ⟨aA2 hr hsn h.p,fun y c=>(h.i y c).trans (ao1 hr hsn hp),_,aC5 hr hsn hp hz⟩
def N0 (m n:Nat) (D0 D:Fd):Prop:=∃k,itS m n k D0=some D
def a7A {m n:Nat} {D0:Fd}:N0 m n D0 D0:=⟨0,rfl⟩
def a4Q {m n:Nat} {D0 D D':Fd} (h:N0 m n D0 D) (hn:C9 m n D=some D'):N0 m n D0 D':=by
 obtain ⟨k,hk⟩:=h;exact ⟨k+1,by rw [a0X,hk];exact hn⟩
def a0t {m n:Nat} {D0:Fd} {g0:Nat->Rat} (h0:a4J m n D0 g0 D0):∀{k:Nat} {D:Fd},itS m n k D0=some D->a4J m n D0 g0 D
 |0,D,h=>by injection h with h;subst h;exact h0
 |k+1,D,h=>by
  rw [a0X] at h;cases hk:itS m n k D0 with
  |none=>rw [hk] at h;cases h
  |some D1=>
   rw [hk] at h;have h:C9 m n D1=some D:=h;obtain ⟨r,s,hs,rfl⟩:=a7L h;exact b8e (a0t h0 hk) hs
def an7 {m n:Nat} {D0:Fd} {k:Nat} (h:itS m n k D0=none):∀j,itS m n (k+j) D0=none
 |0=>h
 |j+1=>by rw [show k+(j+1)=(k+j)+1 by omega,a0X,an7 h j];rfl
def b23 {m n:Nat} {D0 D D':Fd} (h:N0 m n D0 D) (hn:C9 m n D=none) (h':N0 m n D0 D') (hn':C9 m n D'=none):D=D':=by
 obtain ⟨k,hk⟩:=h;obtain ⟨l,hl⟩:=h';have a1:itS m n (k+1) D0=none:=by rw [a0X,hk];exact hn
 have a2:itS m n (l+1) D0=none:=by rw [a0X,hl];exact hn'
 have hkl:k=l:=by
  rcases av9 k l with h|h|h
  ·have:=an7 a1 (l - (k+1));rw [show k+1+(l - (k+1))=l by omega,hl] at this;cases this
  ·exact h
  ·have:=an7 a2 (k - (l+1));rw [show l+1+(k - (l+1))=k by omega,hk] at this;cases this
 subst hkl;rw [hk] at hl;injection hl
def bs6 {m n:Nat} {D0:Fd} {g0:Nat->Rat} (h0:a4J m n D0 g0 D0):∃D,N0 m n D0 D∧C9 m n D=none:=by
 obtain ⟨k,hk,hmin⟩:=a2B (fun k=>itS m n k D0=none) (b7H h0.p h0.g);cases k with
 |zero=>cases hk
 |succ k=>
  cases hk':itS m n k D0 with
  |none=>have:=hmin k hk';omega
  |some D=>
   rw [a0X,hk'] at hk;exact ⟨D,⟨k,hk'⟩,hk⟩
noncomputable def a4a (m n:Nat) (D0:Fd):Fd:=Classical.epsilon fun D=>N0 m n D0 D∧C9 m n D=none
def a34 {m n:Nat} {D0:Fd} {g0:Nat->Rat} (h0:a4J m n D0 g0 D0):N0 m n D0 (a4a m n D0)∧C9 m n (a4a m n D0)=none:=aq6 (bs6 h0)
def b78 {m n:Nat} {D0 D:Fd} {g0:Nat->Rat} (h0:a4J m n D0 g0 D0) (h:N0 m n D0 D) (hn:C9 m n D=none):D=a4a m n D0:=b23 h hn (a34 h0).1 (a34 h0).2
def bi8 {m n:Nat} {D0:Fd} {g0:Nat->Rat} (h0:a4J m n D0 g0 D0):a4J m n D0 g0 (a4a m n D0):=by
 obtain ⟨k,hk⟩:=(a34 h0).1;exact a0t h0 hk
def aA8 {m n:Nat} {D:Fd} (h:u7 m n D=.best):(∀ i,i<m->0<=D.V i)∧∀j,j<n->D.G j<=0:=by
 unfold u7 at h;split at h
 ·rename_i h1 h2;refine ⟨fun i hi=>?_,fun j hj=>?_⟩
  ·have:=a1H h1 i hi;simp at this;grind
  ·have:=a1H h2 j hj;simp at this;grind
 ·unfold V3 at h;split at h<;>cases h
 ·unfold V6 at h;split at h<;>cases h
 ·split at h
  ·unfold V3 at h;split at h<;>cases h
  ·unfold V6 at h;split at h<;>cases h
def aG6 {n r r':Nat} {D:Fd} (h:V3 n D r=.row r'):r'=r∧∀j,j<n->0<=D.A r j:=by
 unfold V3 at h;split at h
 ·rename_i h1;injection h with h;exact ⟨h.symm,fun j hj=>by have:=a1H h1 j hj;simp at this;grind⟩
 ·cases h
def aA5 {m s s':Nat} {D:Fd} (h:V6 m D s=.col s'):s'=s∧∀i,i<m->D.A i s<=0:=by
 unfold V6 at h;split at h
 ·rename_i h1;injection h with h;exact ⟨h.symm,fun i hi=>by have:=a1H h1 i hi;simp at this;grind⟩
 ·cases h
def b8S {m n r:Nat} {D:Fd} (h:u7 m n D=.row r):r<m∧D.V r<0∧∀j,j<n->0<=D.A r j:=by
 unfold u7 at h;split at h
 ·cases h
 ·rename_i r0 h1 h2;obtain ⟨rfl,h4⟩:=aG6 h;have h3:=C6 h1;exact ⟨h3.1,by simpa using h3.2.1,h4⟩
 ·unfold V6 at h;split at h<;>cases h
 ·rename_i r0 s0 h1 h2;split at h
  ·obtain ⟨rfl,h4⟩:=aG6 h;have h3:=C6 h1;exact ⟨h3.1,by simpa using h3.2.1,h4⟩
  ·unfold V6 at h;split at h<;>cases h
def a4c {m n s:Nat} {D:Fd} (h:u7 m n D=.col s):s<n∧0<D.G s∧∀i,i<m->D.A i s<=0:=by
 unfold u7 at h;split at h
 ·cases h
 ·unfold V3 at h;split at h<;>cases h
 ·rename_i s0 h1 h2;obtain ⟨rfl,h4⟩:=aA5 h;have h3:=C6 h2;exact ⟨h3.1,by simpa using h3.2.1,h4⟩
 ·rename_i r0 s0 h1 h2;split at h
  ·unfold V3 at h;split at h<;>cases h
  ·obtain ⟨rfl,h4⟩:=aA5 h;have h3:=C6 h2;exact ⟨h3.1,by simpa using h3.2.1,h4⟩
def b6T {m n:Nat} {D:Fd} (h:C9 m n D=none):u7 m n D=.best∨(∃ r,u7 m n D=.row r)∨∃s,u7 m n D=.col s:=by
 unfold C9 at h;cases hs:u7 m n D with
 |best=>exact .inl rfl
 |row r=>exact .inr (.inl ⟨r,rfl⟩)
 |col s=>exact .inr (.inr ⟨s,rfl⟩)
 |next r s=>rw [hs] at h;cases h
end Go.Proofs.YtikokmdpigploaaGreat
