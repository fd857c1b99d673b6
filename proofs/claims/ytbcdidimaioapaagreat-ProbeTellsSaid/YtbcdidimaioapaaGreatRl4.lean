/- Part 7. -/
import Derived.Test.YtbcdidimaioapaaGreatRl3
namespace Go.Proofs.YtbcdidimaioapaaGreat
set_option linter.all false
set_option maxRecDepth 100000
set_option maxHeartbeats 8000000
open Go.RowKit
open St1 St2 St3 St4 St5 St6 St7 St8 StA StB StC
def bc7 {a b n m low:Nat} {A T d Q:Int} (hb:0<b) (hab:b<=a)
 (hm:m=min 2 (dg b).length) (hlow:low=(dg b).length - m) (hn:n=if (dg a).length - min 3 (dg a).length<low then (dg a).length - low else min 3 (dg a).length)
 (hA:A=a57 (dg a) n) (hT:T=a57 (dg b) m) (hd:d=if 0<low then T+1 else T) (hQ:Q=max 1 (A / d)):
 n<=(dg a).length/\n<=3/\low<=(dg a).length - n/\1<=d/\0<Q/\Q<1152921504606846976/\pw ((dg a).length - n - low)*Q*(b:Int)<=a:=by
 have hla:=t9 hab;have hoa:Okd (dg a):=(Z6 a).1;have hob:Okd (dg b):=(Z6 b).1;have hlb:0<(dg b).length:=by
  have:dg b≠[]:=fun h=>by have:=O8.1 h;omega
  exact a7N.2 this
 have hnl:n<=(dg a).length:=by rw [hn];split<;>omega
 have hn3:n<=3:=by rw [hn];split<;>omega
 have hz:low<=(dg a).length - n:=by rw [hn];split<;>omega
 have ⟨A0,A1⟩:=a35 hoa hnl hn3;have ⟨T0,T1⟩:=b1m hob (k:=m) om;have ⟨sa,sa2⟩:=ay9 hoa hnl;have ⟨sb,sb2⟩:=ay9 hob (k:=m) om;rw [v4] at sa sa2 sb sb2;rw [← hA] at A0 A1 sa sa2;rw [← hT] at T0 T1 sb sb2;rw [← hlow] at sb sb2;have hpl:=O1 low;have hbd:(b:Int)<=pw low*d:=by
  rw [hd];split
  ·omega
  ·have h0:low=0:=by omega
   rw [h0,aQ6] at sb sb2 ⊢;omega
 have hd1:1<=d:=by
  apply a02;intro h;have:pw low*d<=pw low*0:=lbW om om;omega
 have hq0:0<=A / d:=aD2 A0 om;have hqA:A / d<=A:=Int.ediv_le_self _ A0;refine ⟨hnl,hn3,hz,hd1,om,om,?_⟩;by_cases h1:1<=A / d
 ·have hQ2:Q=A / d:=by omega
  have hmul:Q*d<=A:=by rw [hQ2];exact Int.ediv_mul_le A om
  have e1:pw ((dg a).length - n)=pw ((dg a).length - n - low)*pw low:=by rw [← a6f];congr 1;omega
  have hp:=O1 ((dg a).length - n - low);have s1:pw ((dg a).length - n - low)*Q*(b:Int)<=pw ((dg a).length - n - low)*Q*(pw low*d):=lbW hbd (lb0 om om);have s2:pw ((dg a).length - n - low)*Q*(pw low*d)=pw ((dg a).length - n)*(Q*d):=by rw [e1];grind
  have s3:pw ((dg a).length - n)*(Q*d)<=pw ((dg a).length - n)*A:=lbW hmul (by have:=O1 ((dg a).length - n);omega);omega
 ·have hQ2:Q=1:=by omega
  have hAd:A<d:=by
   apply a02;intro h;have:1<=A / d:=by rw [Int.le_ediv_iff_mul_le om];omega
   omega
  have hz0:(dg a).length - n - low=0:=by
   apply a02;intro hne;have hn2:n=3:=by rw [hn] at hne ⊢;split at hne<;>rename_i hc<;>simp only [hc,if_true,if_false] at * <;>omega
   have htop:=an7 (n:=a) om;have hm2:=a1r (show m<=2 by omega);have e2:pw ((dg a).length - 1)=pw ((dg a).length - 3)*pw 2:=by rw [← a6f];congr 1;omega
   rw [hn2] at sa2;have hAge:pw 2<=A:=by
    apply a02;intro h;have:pw ((dg a).length - 3)*(A+1)<=pw ((dg a).length - 3)*pw 2:=lbW om (by have:=O1 ((dg a).length - 3);omega);omega
   have:d<=pw 2:=by rw [hd];split<;>omega
   omega
  rw [hz0,aQ6,hQ2];omega
def bi7 (k:Nat) (l:LI):val (List.replicate k 0++l)=pw k*val l:=by
 rw [P3,a7o,aR8];omega
def b9T {k:Nat} {Q:Int} (h:0<Q):bz (pw k*Q)=⟨1,List.replicate k 0++dg Q.natAbs⟩:=by
 have hp:=O1 k;have hpos:0<pw k*Q:=ac3 hp h;have hr:M9 ⟨1,List.replicate k 0++dg Q.natAbs⟩=true:=by
  have hc:=Z6 Q.natAbs;have hne:dg Q.natAbs≠[]:=fun e=>by have:=O8.1 e;omega
  have hl:=a7N.2 hne;unfold M9;have ho:Okd (List.replicate k 0++dg Q.natAbs):=(Okd.zeros k).append hc.1;rw [aP8.2 ho];simp only [lbq,aR8];rw [iC om];obtain ⟨x,hx⟩:∃x,(dg Q.natAbs)[(dg Q.natAbs).length - 1]? =some x:=⟨_,lbf om⟩;have hx2:(List.replicate k 0++dg Q.natAbs)[k+(dg Q.natAbs).length - 1]? =some x:=by
   rw [lbc zo,aR8,show k+(dg Q.natAbs).length - 1 - k=(dg Q.natAbs).length - 1 by omega,hx]
  rw [a32 hx2];have:=hc.2 x hx;simp [this]
 have e:bv ⟨1,List.replicate k 0++dg Q.natAbs⟩=pw k*Q:=by
  show 1*val (List.replicate k 0++dg Q.natAbs)=_;rw [bi7,v4];have:((Q.natAbs:Nat):Int)=Q:=om;rw [this];omega
 rw [← e];exact (bA8 hr).symm
def V6 (c:Q3):Bool:=
 decide (0<=c.since) && decide (c.since<=c.till) && decide (c.till<=100000) && idx c.scale 30 && btw c.grams 0 1099511627776 && btw c.permille 0 1000 && btw c.drift 0 10000000
def O3 (c:Q3) (day:Int):Bool:=V6 c && btw day c.since c.till
def aU8 (cs:List Q3) (i:Nat):Int:=((cs[i]?).map (·.since)).getD 0
def a5T (cs:List Q3) (o:Option Nat) (c:Q3):Bool:=match o with
 |none=>true
 |some b=>decide (aU8 cs b<=c.since)
def H4 (cs:List Q3) (scale day:Int):Nat->Option Nat
 |0=>none
 |k+1=>match cs[k]? with
  |none=>H4 cs scale day k
  |some c=>if decide (c.scale=scale) && O3 c day && a5T cs (H4 cs scale day k) c then some k else H4 cs scale day k
def S1 {cs:List Q3} {scale day:Int}:∀{k b:Nat},H4 cs scale day k=some b->b<k/\∃c,cs[b]? =some c/\c.scale=scale/\O3 c day=true
 |0,b,h=>by simp [H4] at h
 |k+1,b,h=>by
  unfold H4 at h;split at h
  ·have ⟨h1,h2⟩:=S1 h;exact ⟨om,h2⟩
  ·rename_i c hc;split at h
   ·rename_i hcc;injection h with h;subst h;simp only [lbN,lbI] at hcc;exact ⟨om,c,hc,hcc.1.1,hcc.1.2⟩
   ·have ⟨h1,h2⟩:=S1 h;exact ⟨om,h2⟩
def a2S (rs:List J5) (scale day:Int):Bool:=rs.any fun r=>decide (r.scale=scale) && decide (r.since<=day)
def a3u (c:Q3) (reading day:Int):Rat:=Rat.divInt (c.permille*reading) 1000+((c.grams+c.drift*(day - c.since):Int):Rat)
def aO9 (x y:Rat):Rat:=if x<y then y else x
def b7b:Q3:=⟨0,0,0,0,0,0⟩
def a2r (cs:List Q3) (i:Nat):Q3:=(cs[i]?).getD b7b
def S5 (cs:List Q3) (rs:List J5) (scale reading day:Int):Option (Rat × Rat):=
 match H4 cs scale day cs.length with
 |none=>none
 |some i=>if a2S rs scale day then none else if btw reading 0 1099511627776 then
   some (aO9 ((reading:Rat) - a3u (a2r cs i) reading day) ((0:Int):Rat),(reading:Rat)+a3u (a2r cs i) reading day) else none
def bX8 (l:List Rat):Rat:=l.foldl (·+·) ((0:Int):Rat)
def hz (H:List (List Rat)):List (List Fr):=H.map (·.map fz)
structure bX5 (e:Ev) (H:List (List Rat)):Prop where
 len:H.length=e.moves.length
 wid:∀l ∈ H,(l.length:Int)=e.mats
def hAt (H:List (List Rat)) (k m:Nat):Rat:=(H.getD k []).getD m 0
def b3c (x:C6) (v:Nat->Rat) (f:Nat->Nat->Rat):Nat->Nat->Rat:=fun p m=>if x.src=(p:Int) then f p m - v m else if x.dst=(p:Int) then f p m+v m else f p m
def stk (e:Ev) (H:List (List Rat)):Nat->Nat->Nat->Rat
 |0=>fun _ _=>((0:Int):Rat)
 |k+1=>match e.moves[k]? with
  |none=>stk e H k
  |some x=>b3c x (hAt H k) (stk e H k)
def b4l:rl ((0:Int):Rat)=1:=by rw [a0T];rfl
def p6 (f:Nat->Rat):Nat->Rat
 |0=>((0:Int):Rat)
 |n+1=>p6 f n+f n
def a23:((0:Int):Rat)=0:=rfl
def p5 {f g:Nat->Rat}:∀{n:Nat},(∀ m,m<n->f m=g m)->p6 f n=p6 g n
 |0,_=>rfl
 |n+1,h=>by simp only [p6];rw [p5 fun m hm=>h m om,h n om]
def getD_some {l:List Rat} {m:Nat} (h:m<l.length):l[m]? =some (l.getD m 0):=by rw [lbl,lbf h];rfl
def bW3 (xs ys:LI) (k:Nat):Prop:=xs.take k=ys.take k
def a1B {α:Type} {p:Nat->α->Bool} {l:List α}:∀{k:Nat} {x:Int},x ∈ B7 p k l↔∃i m,l[i]? =some m/\p (k+i) m=true/\x=((k+i:Nat):Int):=by
 induction l with
 |nil=>intro k x;simp [B7]
 |cons a r ih=>
  intro k x;have step:x ∈ B7 p (k+1) r↔∃i m,(a::r)[i+1]? =some m/\p (k+(i+1)) m=true/\x=((k+(i+1):Nat):Int):=by
   rw [ih];constructor
   ·rintro ⟨i,m,h1,h2,h3⟩;exact ⟨i,m,by simpa using h1,by rw [show k+(i+1)=k+1+i from by omega];exact h2,by rw [h3];omega⟩
   ·rintro ⟨i,m,h1,h2,h3⟩;exact ⟨i,m,by simpa using h1,by rw [show k+1+i=k+(i+1) from by omega];exact h2,by rw [h3];omega⟩
  unfold B7;by_cases hp:p k a=true
  ·rw [iB hp,lbA,step];constructor
   ·rintro (rfl|⟨i,m,h⟩)
    ·exact ⟨0,a,rfl,hp,rfl⟩
    ·exact ⟨i+1,m,h⟩
   ·rintro ⟨i,m,h1,h2,h3⟩;cases i with
    |zero=>left;simpa using h3
    |succ i=>right;exact ⟨i,m,h1,h2,h3⟩
  ·rw [iC hp,step];constructor
   ·rintro ⟨i,m,h⟩;exact ⟨i+1,m,h⟩
   ·rintro ⟨i,m,h1,h2,h3⟩;cases i with
    |zero=>simp at h1;subst h1;exact absurd h2 hp
    |succ i=>exact ⟨i,m,h1,h2,h3⟩
def ak7 {α:Type} (p:Nat->α->Bool) (l:List α):∀k,(B7 p k l).Pairwise (·<·):=by
 induction l with
 |nil=>intro k;simp [B7]
 |cons a r ih=>
  intro k;unfold B7;split
  ·rw [ay6];refine ⟨fun x hx=>?_,ih (k+1)⟩;obtain ⟨i,m,_,_,rfl⟩:=a1B.1 hx;omega
  ·exact ih (k+1)
def Asc (l:LI) (n:Int):Prop:=(∀ (i:Nat) (x:Int),l[i]? =some x->0<=x/\x<n)/\∀(i:Nat) (x y:Int),l[i]? =some x->l[i+1]? =some y->x<y
def Asc.of_sorted {l:LI} {n:Int} (h1:l.Pairwise (·<·)) (h2:∀x ∈ l,0<=x/\x<n):Asc l n:=by
 refine ⟨fun i x hx=>h2 x (lbm hx),fun i x y hx hy=>?_⟩;obtain ⟨hi,rfl⟩:=lbe.1 hx;obtain ⟨hj,rfl⟩:=lbe.1 hy;exact b3p.1 h1 i (i+1) hi hj om
def aU4 {α:Type} (p:Nat->α->Bool) (l:List α):Asc (B7 p 0 l) l.length:=by
 refine Asc.of_sorted (ak7 p l 0) (fun x hx=>?_);obtain ⟨i,m,hm,_,rfl⟩:=a1B.1 hx;have:=(lbe.1 hm).1;omega
def bl7 (n:Int):Asc [] n:=⟨fun i x h=>by simp at h,fun i x y h=>by simp at h⟩
def aJ7 (e:Ev) (hh mat lo hi:Int):Asc (J6 e hh mat lo hi) e.moves.length:=by
 unfold J6;split
 ·exact aU4 _ _
 ·exact bl7 _
def bc9 {e:Ev} {G:List (List Rat)} {k:Nat} {x:C6} (hx:e.moves[k]? =some x):stk e G (k+1)=b3c x (hAt G k) (stk e G k):=by
 conv=>lhs;unfold stk
 rw [hx]
def bh0 {e:Ev} {G:List (List Rat)} {k:Nat} (hx:e.moves[k]? =none):stk e G (k+1)=stk e G k:=by
 conv=>lhs;unfold stk
 rw [hx]
def b32 {e:Ev} {x:C6} (h:P1 e x=true) (ha:x.all=true):O2 e x.src≠0:=by
 unfold P1 at h;simp only [lbN,lbI] at h;have:=h.1.1.2;rw [ha] at this;simpa using this
def R3 (e:Ev) (x:C6):Option (Rat × Rat):=if x.scale=-1 then none else S5 e.certs e.recalls x.scale x.reading x.day
structure Q4 where
 mv:Int
 kind:Int
 grams:Int
structure H5 where
 mv:Int
 kind:Int
structure j9 where
 ev:Ev
 finds:List Q4
 cleans:List H5
def a2z (e:Ev) (mv kind:Int):Int:=if mv<0\/(e.moves.length:Int)<=mv then 4 else if kind<0\/8<=kind then 1 else 0
def S8 (e:Ev):List Q4->Int
 |[]=>0
 |f::r=>if a2z e f.mv f.kind≠0 then a2z e f.mv f.kind else if f.grams<1\/1099511627776<f.grams then 3 else S8 e r
def U0 (e:Ev):List H5->Int
 |[]=>0
 |c::r=>if a2z e c.mv c.kind≠0 then a2z e c.mv c.kind else U0 e r
def t5 (t:j9):Int:=
 if I4 t.ev≠0 then I4 t.ev else if 20<t.finds.length\/50<t.cleans.length then 6
 else if S8 t.ev t.finds≠0 then S8 t.ev t.finds else U0 t.ev t.cleans
def z7 (l:List Q4) (kind:Int) (i:Nat):LI:=(l.filter fun f=>decide (f.kind=kind) && decide (f.mv=(i:Int))).map (·.grams)
def F2 (l:List H5) (kind:Int) (i:Nat):Nat:=(l.filter fun c=>decide (c.kind=kind) && decide (c.mv=(i:Int))).length
def col (z:List Rat):List (List Rat):=z.map fun v=>[v]
def bk4 (z:List Rat) (k:Nat):hAt (col z) k 0=z.getD k 0:=by
 unfold hAt col;cases h:z[k]?<;>simp [lbl,h]
def a5A (e:Ev) (z:List Rat) (k p:Nat):Rat:=stk e (col z) k p 0
def bH6 (iv:Option (Rat × Rat)) (v:Rat):Bool:=match iv with
 |none=>true
 |some (_,hi)=>decide (v<=hi)
structure bO4 (e:Ev) (x:C6) (v f:Rat):Prop where
 pos:0<=v
 most:O2 e x.src≠0->v<=f
 all:x.all=true->v=f
structure bf1 (t:j9) (kind:Int) (i:Nat) (x:C6) (v:Rat):Prop where
 cap:bH6 (R3 t.ev x) v=true
 fin:∀g ∈ z7 t.finds kind i,(g:Rat)<=v
 cln:0<F2 t.cleans kind i->v=0
structure bP2 (t:j9) (kind:Int) (z:List Rat):Prop where
 tr:t5 t=0
 k0:0<=kind
 k1:kind<8
 len:z.length=t.ev.moves.length
 step:∀i x,t.ev.moves[i]? =some x->bO4 t.ev x (z.getD i 0) (a5A t.ev z i x.src.toNat)/\bf1 t kind i x (z.getD i 0)
def H6 {t:j9} (h:t5 t=0):I4 t.ev=0/\t.finds.length<=20/\t.cleans.length<=50/\S8 t.ev t.finds=0/\U0 t.ev t.cleans=0:=by
 unfold t5 at h;by_cases h1:I4 t.ev≠0
 ·rw [iB h1] at h;exact absurd h h1
 rw [iC h1] at h;by_cases h2:20<t.finds.length\/50<t.cleans.length
 ·rw [iB h2] at h;cases h
 rw [iC h2] at h;by_cases h3:S8 t.ev t.finds≠0
 ·rw [iB h3] at h;exact absurd h h3
 rw [iC h3] at h;exact ⟨by simpa using h1,om,om,by simpa using h3,h⟩
def b5T {t:j9} (h1:I4 t.ev=0) (h2:t.finds.length<=20) (h3:t.cleans.length<=50) (h4:S8 t.ev t.finds=0) (h5:U0 t.ev t.cleans=0):t5 t=0:=by
 unfold t5;rw [iC (by simp [h1]),iC om,iC (by simp [h4]),h5]
def a0Y {e:Ev}:∀{l:List Q4},S8 e l=0->∀f ∈ l,0<=f.mv/\f.mv<e.moves.length/\0<=f.kind/\f.kind<8/\1<=f.grams/\f.grams<=1099511627776
 |[],_,f,hf=>by cases hf
 |g::r,h,f,hf=>by
  unfold S8 at h;by_cases h1:a2z e g.mv g.kind≠0
  ·rw [iB h1] at h;exact absurd h h1
  rw [iC h1] at h;by_cases h2:g.grams<1\/1099511627776<g.grams
  ·rw [iB h2] at h;cases h
  rw [iC h2] at h;rcases lbA.1 hf with rfl|hf
  ·unfold a2z at h1;by_cases h3:f.mv<0\/(e.moves.length:Int)<=f.mv
   ·rw [iB h3] at h1;exact absurd de h1
   rw [iC h3] at h1;by_cases h4:f.kind<0\/8<=f.kind
   ·rw [iB h4] at h1;exact absurd de h1
   omega
  ·exact a0Y h f hf
def R7 (t:j9) (f:Q4):j9:={ t with finds:=t.finds++[f] }
def T6 (t:j9) (c:H5):j9:={ t with cleans:=t.cleans++[c] }
def a8I (l:List Q4) (f:Q4) (kind:Int) (i:Nat):z7 (l++[f]) kind i=z7 l kind i++(if f.kind=kind/\f.mv=(i:Int) then [f.grams] else []):=by
 unfold z7;rw [a5X,lbC];by_cases h:f.kind=kind/\f.mv=(i:Int)
 ·rw [iB h];simp [h.1,h.2]
 ·rw [iC h];have:(decide (f.kind=kind) && decide (f.mv=(i:Int)))=false:=by
   rw [← lbQ];simp only [lbN,lbI];exact h
  simp [this]
def a25 (l:List H5) (c:H5) (kind:Int) (i:Nat):F2 (l++[c]) kind i=F2 l kind i+(if c.kind=kind/\c.mv=(i:Int) then 1 else 0):=by
 unfold F2;rw [a5X,lbq];by_cases h:c.kind=kind/\c.mv=(i:Int)
 ·rw [iB h];simp [h.1,h.2]
 ·rw [iC h];have:(decide (c.kind=kind) && decide (c.mv=(i:Int)))=false:=by
   rw [← lbQ];simp only [lbN,lbI];exact h
  simp [this]
def a28 (t:j9):j9:={ t with finds:=[] }
def b6y {t:j9} (h:t5 t=0):t5 (a28 t)=0:=by
 have ⟨q1,q2,q3,q4,q5⟩:=H6 h;exact b5T q1 (by simp [a28]) q3 rfl q5
def b62 {e:Ev} {z:List Rat} {k:Nat} {x:C6} (hx:e.moves[k]? =some x) (p:Nat):a5A e z (k+1) p=if x.src=(p:Int) then a5A e z k p - z.getD k 0 else if x.dst=(p:Int) then a5A e z k p+z.getD k 0 else a5A e z k p:=by
 unfold a5A;rw [bc9 hx];unfold b3c;rw [bk4]
def b9G {e:Ev} {z:List Rat} {k:Nat} (hx:e.moves[k]? =none) (p:Nat):a5A e z (k+1) p=a5A e z k p:=by
 unfold a5A;rw [bh0 hx]
def a4l {f:Nat->Rat}:∀{n:Nat},(∀ p,p<n->0<=f p)->0<=p6 f n
 |0,_=>lb3
 |n+1,h=>by
  have h1:=a4l (n:=n) fun p hp=>h p om
  have h2:=h n om;simp only [p6];grind
structure Fd where
 V:Nat->Rat
 A:Nat->Nat->Rat
 G:Nat->Rat
 O:Nat->Nat
 F:Nat->Nat
namespace Fd
def pRow (D:Fd) (r s j:Nat):Rat:=if j=s then 1 / D.A r s else D.A r j / D.A r s
def exch (D:Fd) (r s:Nat):Fd where
 V:=fun i=>if i=r then D.V r / D.A r s else D.V i - D.A i s*(D.V r / D.A r s)
 A:=fun i j=>if i=r then D.pRow r s j else if j=s then 0 - D.A i s*D.pRow r s s else D.A i j - D.A i s*D.pRow r s j
 G:=fun j=>if j=s then 0 - D.G s*D.pRow r s s else D.G j - D.G s*D.pRow r s j
 O:=fun i=>if i=r then D.F s else D.O i
 F:=fun j=>if j=s then D.O r else D.F j
end Fd
def H7 {f:Nat->Rat} {s:Nat}:∀{n:Nat},s<n->p6 f n=p6 (fun j=>if j=s then 0 else f j) n+f s
 |0,h=>om
 |n+1,h=>by
  simp only [p6];by_cases hs:s=n
  ·subst hs;rw [iB rfl,p5 (n:=s) (f:=fun j=>if j=s then 0 else f j) (g:=f) fun m hm=>by rw [iC om]];grind
  ·rw [iC (show ¬n=s by omega),H7 (f:=f) (s:=s) (n:=n) om];grind
def K4 {f:Nat->Rat} (k:Rat):∀n:Nat,p6 (fun j=>k*f j) n=k*p6 f n
 |0=>by simp only [p6,a23];grind
 |n+1=>by simp only [p6];rw [K4 k n];grind
def a2E {f g:Nat->Rat}:∀n:Nat,p6 (fun j=>f j+g j) n=p6 f n+p6 g n
 |0=>by simp only [p6,a23];grind
 |n+1=>by simp only [p6];rw [a2E n];grind
def D7 {f:Nat->Rat}:∀{n:Nat},(∀ j,j<n->f j=0)->p6 f n=0
 |0,_=>by simp only [p6,a23]
 |n+1,h=>by simp only [p6];rw [D7 fun j hj=>h j om,h n om];grind
def al0 {f:Nat->Rat}:∀{n:Nat},(∀ j,j<n->f j<=0)->p6 f n<=0
 |0,_=>by simp only [p6,a23];grind
 |n+1,h=>by
  simp only [p6];have h1:=al0 (f:=f) (n:=n) fun j hj=>h j om
  have h2:=h n om;grind
def bx3 {f:Nat->Rat} {n s:Nat} (h:∀j,j<n->f j<=0) (hs:s<n) (h0:f s<0):p6 f n<0:=by
 rw [H7 hs];have:=al0 (f:=fun j=>if j=s then 0 else f j) (n:=n) fun j hj=>by split;grind;exact h j hj
 grind
def bu0 {f:Nat->Rat} {n s:Nat} (h:∀j,j<n->0<=f j) (hs:s<n) (h0:0<f s):0<p6 f n:=by
 rw [H7 hs];have:=a4l (f:=fun j=>if j=s then 0 else f j) (n:=n) fun j hj=>by
  by_cases hj2:j=s
  ·simp only [hj2,if_true];grind
  ·simp only [iC hj2];exact h j hj
 grind
def Ids (m n:Nat) (D:Fd) (y:Nat->Rat) (c:Rat):Prop:=∀i,i<m->y (D.O i)=c*D.V i - p6 (fun j=>D.A i j*y (D.F j)) n
def ao2 {D:Fd} {r s n:Nat} {y:Nat->Rat} (hs:s<n) (f:Nat->Rat) (f':Nat->Rat) (k:Rat) (hf:∀j,j≠s->f' j=f j - k*D.pRow r s j):
 p6 (fun j=>f' j*y ((D.exch r s).F j)) n=p6 (fun j=>if j=s then 0 else f j*y (D.F j)) n - k*p6 (fun j=>if j=s then 0 else D.pRow r s j*y (D.F j)) n+f' s*y (D.O r):=by
 rw [H7 hs];have h1:(D.exch r s).F s=D.O r:=by show (if s=s then D.O r else D.F s)=_;rw [iB rfl]
 rw [h1];have h2:p6 (fun j=>if j=s then 0 else f' j*y ((D.exch r s).F j)) n=p6 (fun j=>(if j=s then 0 else f j*y (D.F j))+(-k)*(if j=s then 0 else D.pRow r s j*y (D.F j))) n:=p5 fun j hj=>by
  by_cases h:j=s
  ·rw [iB h,iB h,iB h];grind
  ·rw [iC h,iC h,iC h,hf j h];have:(D.exch r s).F j=D.F j:=by show (if j=s then D.O r else D.F j)=_;rw [iC h]
   rw [this];grind
 rw [h2,a2E,K4];grind
def aC5 {D:Fd} {r s n:Nat} {y:Nat->Rat} {c:Rat} (hs:s<n) (hp:D.A r s≠0):
 y (D.O r)=c*D.V r - p6 (fun j=>D.A r j*y (D.F j)) n↔y (D.F s)=c*(D.V r / D.A r s) - p6 (fun j=>if j=s then 0 else D.pRow r s j*y (D.F j)) n - 1 / D.A r s*y (D.O r):=by
 have e1:p6 (fun j=>D.A r j*y (D.F j)) n=D.A r s*p6 (fun j=>if j=s then 0 else D.pRow r s j*y (D.F j)) n+D.A r s*y (D.F s):=by
  rw [H7 hs,←K4]
  congr 1
  refine p5 fun j hj=>?_
  by_cases h:j=s
  ·simp only [iB h];grind
  ·simp only [iC h];unfold Fd.pRow;rw [iC h];grind
 rw [e1];generalize p6 (fun j=>if j=s then 0 else D.pRow r s j*y (D.F j)) n=R;generalize y (D.F s)=a;generalize y (D.O r)=b;generalize D.V r=v;generalize D.A r s=p at *;constructor
 ·intro h;rw [h];grind
 ·intro h;rw [h];grind
def au6 {m n:Nat} {D:Fd} {r s:Nat} {y:Nat->Rat} {c:Rat} (hr:r<m) (hs:s<n) (hp:D.A r s≠0):Ids m n D y c↔Ids m n (D.exch r s) y c:=by
 have hO:(D.exch r s).O r=D.F s:=by show (if r=r then D.F s else D.O r)=_;rw [iB rfl]
 have hV:(D.exch r s).V r=D.V r / D.A r s:=by show (if r=r then _ else _)=_;rw [iB rfl]
 have hA:∀j,(D.exch r s).A r j=D.pRow r s j:=fun j=>by show (if r=r then _ else _)=_;rw [iB rfl]
 have hps:D.pRow r s s=1 / D.A r s:=by unfold Fd.pRow;rw [iB rfl]
 have rowr:(y ((D.exch r s).O r)=c*(D.exch r s).V r - p6 (fun j=>(D.exch r s).A r j*y ((D.exch r s).F j)) n)↔y (D.O r)=c*D.V r - p6 (fun j=>D.A r j*y (D.F j)) n:=by
  rw [aC5 hs hp,hO,hV];have h:=ao2 (D:=D) (r:=r) (y:=y) hs (fun _=>0) ((D.exch r s).A r) (-1) (fun j hj=>by rw [hA];grind);rw [h,hA,hps,D7 (f:=fun j=>if j=s then 0 else 0*y (D.F j)) (fun j _=>by split<;>grind)];constructor
  ·intro h;rw [h];grind
  ·intro h;rw [h];grind
 have rowi:∀i,i≠r->y (D.O r)=c*D.V r - p6 (fun j=>D.A r j*y (D.F j)) n->
  ((y ((D.exch r s).O i)=c*(D.exch r s).V i - p6 (fun j=>(D.exch r s).A i j*y ((D.exch r s).F j)) n)↔y (D.O i)=c*D.V i - p6 (fun j=>D.A i j*y (D.F j)) n):=fun i hi h0=>by
  rw [aC5 hs hp] at h0;have h1:(D.exch r s).O i=D.O i:=by show (if i=r then _ else _)=_;rw [iC hi]
  have h2:(D.exch r s).V i=D.V i - D.A i s*(D.V r / D.A r s):=by show (if i=r then _ else _)=_;rw [iC hi]
  have h3:∀j,j≠s->(D.exch r s).A i j=D.A i j - D.A i s*D.pRow r s j:=fun j hj=>by show (if i=r then _ else _)=_;rw [iC hi,iC hj]
  have h4:(D.exch r s).A i s=0 - D.A i s*D.pRow r s s:=by show (if i=r then _ else _)=_;rw [iC hi,iB rfl]
  rw [h1,h2,ao2 hs (D.A i) ((D.exch r s).A i) (D.A i s) h3,h4,hps,H7 (f:=fun j=>D.A i j*y (D.F j)) hs,h0];constructor
  ·intro h;rw [h];grind
  ·intro h;rw [h];grind
 constructor
 ·intro h i hi;by_cases hir:i=r
  ·subst hir;exact rowr.2 (h i hi)
  ·exact (rowi i hir (h r hr)).2 (h i hi)
 ·intro h i hi;have h0:=rowr.1 (h r hr);by_cases hir:i=r
  ·subst hir;exact h0
  ·exact (rowi i hir h0).1 (h i hi)
def a1i (n:Nat) (D:Fd) (g0:Nat->Rat) (m:Nat) (z:Rat):Prop:=∀y c,Ids m n D y c->p6 (fun j=>g0 j*y j) n=c*z+p6 (fun j=>D.G j*y (D.F j)) n
def aK8 {m n:Nat} {D:Fd} {r s:Nat} {g0:Nat->Rat} {z:Rat} (hr:r<m) (hs:s<n) (hp:D.A r s≠0) (h:a1i n D g0 m z):a1i n (D.exch r s) g0 m (z+D.G s*(D.V r / D.A r s)):=by
 intro y c hy;have hy:=(au6 hr hs hp).2 hy;rw [h y c hy];have h0:=(aC5 hs hp).1 (hy r hr);have hps:D.pRow r s s=1 / D.A r s:=by unfold Fd.pRow;rw [iB rfl]
 have h3:∀j,j≠s->(D.exch r s).G j=D.G j - D.G s*D.pRow r s j:=fun j hj=>by show (if j=s then _ else _)=_;rw [iC hj]
 have h4:(D.exch r s).G s=0 - D.G s*D.pRow r s s:=by show (if s=s then _ else _)=_;rw [iB rfl]
 rw [ao2 hs D.G (D.exch r s).G (D.G s) h3,h4,hps,H7 (f:=fun j=>D.G j*y (D.F j)) hs,h0];grind
def aj9 (i:Nat):Rat:=if i % 2=0 then 1 else -1
def b5Q (i:Nat):aj9 (i+1)=-(aj9 i):=by
 unfold aj9;by_cases h:i % 2=0
 ·rw [iB h,iC om]
 ·rw [iC h,iB om];grind
def F6 (i:Nat) (M:Nat->Nat->Rat):Nat->Nat->Rat:=fun r c=>M (if r<i then r else r+1) (c+1)
def M8:Nat->(Nat->Nat->Rat)->Rat
 |0,_=>1
 |n+1,M=>p6 (fun i=>aj9 i*M i 0*M8 n (F6 i M)) (n+1)
def U6 (n:Nat) (M:Nat->Nat->Rat):M8 (n+1) M=p6 (fun i=>aj9 i*M i 0*M8 n (F6 i M)) (n+1):=rfl
def a3m:∀{n:Nat} {M N:Nat->Nat->Rat},(∀ i j,i<n->j<n->M i j=N i j)->M8 n M=M8 n N
 |0,_,_,_=>rfl
 |n+1,M,N,h=>by
  rw [U6,U6];refine p5 fun i hi=>?_
  rw [h i 0 hi om,a3m (n:=n) (M:=F6 i M) (N:=F6 i N) fun r c hr hc=>?_];unfold F6;split
  ·exact h _ _ om om
  ·exact h _ _ om om
def J7 (M:Nat->Nat->Rat) (r:Nat) (v:Nat->Rat):Nat->Nat->Rat:=fun i=>if i=r then v else M i
def ac5 {M:Nat->Nat->Rat} {r:Nat}:J7 M r (M r)=M:=by
 funext i;unfold J7;by_cases h:i=r
 ·rw [iB h,h]
 ·rw [iC h]
def ao9 {M:Nat->Nat->Rat} {r:Nat} {v:Nat->Rat}:F6 r (J7 M r v)=F6 r M:=by
 funext a c;unfold F6 J7;by_cases h:a<r
 ·rw [iB h,iC om]
 ·rw [iC h,iC om]
def ay1 {M:Nat->Nat->Rat} {i r:Nat} {v:Nat->Rat} (h:i<r):F6 i (J7 M r v)=J7 (F6 i M) (r - 1) (fun c=>v (c+1)):=by
 funext a c;unfold F6 J7;by_cases ha:a<i
 ·simp only [iB ha];rw [iC om,iC om]
 ·simp only [iC ha];by_cases h2:a+1=r
  ·rw [iB h2,iB om]
  ·rw [iC h2,iC om]
def av0 {M:Nat->Nat->Rat} {i r:Nat} {v:Nat->Rat} (h:r<i):F6 i (J7 M r v)=J7 (F6 i M) r (fun c=>v (c+1)):=by
 funext a c;unfold F6 J7;by_cases ha:a<i
 ·simp only [iB ha];by_cases h2:a=r
  ·rw [iB h2,iB h2]
  ·rw [iC h2,iC h2]
 ·simp only [iC ha];rw [iC om,iC om]
def a7l:∀{n:Nat} {M:Nat->Nat->Rat} {r:Nat} {a b:Rat} {v w:Nat->Rat},r<n->M8 n (J7 M r fun c=>a*v c+b*w c)=a*M8 n (J7 M r v)+b*M8 n (J7 M r w)
 |0,_,_,_,_,_,_,h=>om
 |n+1,M,r,a,b,v,w,h=>by
  rw [U6,U6,U6,←K4,←K4,←a2E];refine p5 fun i hi=>?_
  by_cases e:i=r
  ·subst e;rw [ao9,ao9,ao9];unfold J7;simp only [if_true];grind
  ·have e2:∀u:Nat->Rat,J7 M r u i 0=M i 0:=fun u=>by unfold J7;rw [iC e]
   rw [e2,e2,e2];by_cases h2:i<r
   ·rw [ay1 h2,ay1 h2,ay1 h2,a7l (n:=n) (M:=F6 i M) (r:=r - 1) (a:=a) (b:=b) (v:=fun c=>v (c+1)) (w:=fun c=>w (c+1)) om];grind
   ·rw [av0 om,av0 om,av0 om,a7l (n:=n) (M:=F6 i M) (r:=r) (a:=a) (b:=b) (v:=fun c=>v (c+1)) (w:=fun c=>w (c+1)) om];grind
def b5N {f:Nat->Rat} {r:Nat}:∀{n:Nat},r+1<n->(∀ i,i<n->i≠r->i≠r+1->f i=0)->p6 f n=f r+f (r+1)
 |0,h,_=>om
 |n+1,h,h0=>by
  show p6 f n+f n=_;by_cases e:n=r+1
  ·subst e;show p6 f r+f r+f (r+1)=_;rw [D7 fun j hj=>h0 j om om om];grind
  ·rw [b5N (r:=r) om (fun i hi=>h0 i om),h0 n om om e];grind
def a7r:∀{n:Nat} {M:Nat->Nat->Rat} {r:Nat},r+1<n->M r=M (r+1)->M8 n M=0
 |0,_,_,h,_=>om
 |n+1,M,r,h,he=>by
  rw [U6,b5N h fun i hi h1 h2=>?_]
  ·have em:F6 r M=F6 (r+1) M:=by
    funext a c;unfold F6;by_cases h1:a<r
    ·rw [iB h1,iB om]
    ·rw [iC h1];by_cases h2:a<r+1
     ·have:a=r:=by omega
      subst this;rw [iB h2,he]
     ·rw [iC h2]
   rw [em,he,b5Q];grind
  ·by_cases hlt:i<r
   ·rw [a7r (n:=n) (M:=F6 i M) (r:=r - 1) om (by
     funext c;unfold F6;rw [iC om,iC om,show r - 1+1=r by omega,he])]
    grind
   ·rw [a7r (n:=n) (M:=F6 i M) (r:=r) om (by
     funext c;unfold F6;rw [iB om,iB om,he])]
    grind
def a7B {M:Nat->Nat->Rat} {r s:Nat} {v w:Nat->Rat} (h:r≠s):J7 (J7 M r v) s w=J7 (J7 M s w) r v:=by
 funext i;unfold J7;by_cases h1:i=r
 ·subst h1;rw [iC h,iB rfl,iB rfl]
 ·rw [iC h1];by_cases h2:i=s
  ·simp only [iB h2,iC h1]
  ·simp only [iC h2,iC h1]
def a20 {M:Nat->Nat->Rat} {r:Nat} {v:Nat->Rat}:J7 M r v r=v:=by unfold J7;rw [iB rfl]
def a1e {M:Nat->Nat->Rat} {r i:Nat} {v:Nat->Rat} (h:i≠r):J7 M r v i=M i:=by unfold J7;rw [iC h]
def aZ6 {n:Nat} {M:Nat->Nat->Rat} {r:Nat} (v w:Nat->Rat) (h:r<n):M8 n (J7 M r fun c=>v c+w c)=M8 n (J7 M r v)+M8 n (J7 M r w):=by
 have:=a7l (M:=M) (a:=1) (b:=1) (v:=v) (w:=w) h;have e:(fun c=>(1:Rat)*v c+1*w c)=fun c=>v c+w c:=by funext c;grind
 rw [e] at this;grind
def b8a {n:Nat} {M:Nat->Nat->Rat} {r:Nat} (h:r+1<n) (v w:Nat->Rat):M8 n (J7 (J7 M r v) (r+1) w)=-(M8 n (J7 (J7 M r w) (r+1) v)):=by
 have key:M8 n (J7 (J7 M r fun c=>v c+w c) (r+1) fun c=>v c+w c)=0:=a7r h (by rw [a20,a1e om,a20]);rw [aZ6 v w h,a7B (show r≠r+1 by omega),a7B (show r≠r+1 by omega),aZ6 v w om,aZ6 v w om] at key;have z1:M8 n (J7 (J7 M (r+1) v) r v)=0:=a7r h (by rw [a20,a1e om,a20]);have z2:M8 n (J7 (J7 M (r+1) w) r w)=0:=a7r h (by rw [a20,a1e om,a20]);rw [z1,z2] at key;rw [a7B (show r≠r+1 by omega),a7B (show r≠r+1 by omega)];grind
def b3Z:∀(d:Nat) {n:Nat} {M:Nat->Nat->Rat} {r s:Nat},s=r+1+d->s<n->M r=M s->M8 n M=0
 |0,n,M,r,s,hs,hn,he=>by subst hs;exact a7r hn he
 |d+1,n,M,r,s,hs,hn,he=>by
  obtain ⟨q,rfl⟩:∃q,s=q+1:=⟨s - 1,om⟩;have e1:M=J7 (J7 M q (M q)) (q+1) (M (q+1)):=by rw [ac5,ac5]
  rw [e1,b8a hn];have:=b3Z d (n:=n) (M:=J7 (J7 M q (M (q+1))) (q+1) (M q)) (r:=r) (s:=q) om om (by
   rw [a1e om,a1e om,a1e om,a20,he])
  rw [this];grind
def b8E {n:Nat} {M:Nat->Nat->Rat} {r s:Nat} (hr:r<n) (hs:s<n) (h:r≠s) (he:M r=M s):M8 n M=0:=by
 by_cases hlt:r<s
 ·exact b3Z (s - r - 1) om hs he
 ·exact b3Z (r - s - 1) (r:=s) (s:=r) om hr he.symm
def b4G {n:Nat} {M:Nat->Nat->Rat} {r:Nat} (hr:r<n) (c:Nat->Rat) (v:Nat->Nat->Rat):∀k,M8 n (J7 M r fun l=>p6 (fun i=>c i*v i l) k)=p6 (fun i=>c i*M8 n (J7 M r (v i))) k
 |0=>by
  have:=a7l (M:=M) (a:=0) (b:=0) (v:=fun _=>0) (w:=fun _=>0) hr;have e:(fun l:Nat=>p6 (fun i=>c i*v i l) 0)=fun _=>(0:Rat)*0+0*0:=by funext l;show (0:Rat)=_;grind
  rw [e,this];show _=(0:Rat);grind
 |k+1=>by
  have ih:=b4G (M:=M) hr c v k;have:=a7l (M:=M) (a:=1) (b:=c k) (v:=fun l=>p6 (fun i=>c i*v i l) k) (w:=v k) hr;have e:(fun l=>p6 (fun i=>c i*v i l) (k+1))=fun l=>(1:Rat)*p6 (fun i=>c i*v i l) k+c k*v k l:=by funext l;show p6 _ k+_=_;grind
  rw [e,this,ih];show _=p6 _ k+_;grind
def ax9 {n:Nat} {M:Nat->Nat->Rat} {c:Nat->Rat} {u:Nat->Rat} (hu:∀l,l<n->u l=p6 (fun k=>c k*M k l) n) {j:Nat} (hj:j<n):M8 n (J7 M j u)=c j*M8 n M:=by
 have e:M8 n (J7 M j u)=M8 n (J7 M j fun l=>p6 (fun k=>c k*M k l) n):=a3m fun a b ha hb=>by
  unfold J7;split
  ·exact hu b hb
  ·rfl
 rw [e,b4G hj,H7 hj,ac5,D7 fun k hk=>?_]
 ·grind
 ·by_cases h:k=j
  ·rw [iB h]
  ·rw [iC h,b8E (r:=k) (s:=j) hk hj h (by rw [a1e h,a20])];grind
def b3P (i:Nat):∃z:Int,aj9 i=((z:Int):Rat)/\z.natAbs=1:=by
 unfold aj9;split
 ·exact ⟨1,rz⟩
 ·exact ⟨-1,rz⟩
def a51:Nat->(Nat->Nat)->Nat
 |0,_=>1
 |n+1,B=>(n+1)*(B 0*a51 n fun c=>B (c+1))
def b0S {f:Nat->Rat} {B:Nat}:∀{n:Nat},(∀ i,i<n->∃z:Int,f i=((z:Int):Rat)/\z.natAbs<=B)->∃z:Int,p6 f n=((z:Int):Rat)/\z.natAbs<=n*B
 |0,_=>⟨0,rfl,zq⟩
 |n+1,h=>by
  have ⟨a,ha,ha2⟩:=b0S (n:=n) fun i hi=>h i om
  have ⟨b,hb,hb2⟩:=h n om;refine ⟨a+b,by show p6 f n+f n=_;rw [ha,hb];push_cast;rfl,?_⟩;have:=Int.natAbs_add_le a b;rw [lbV];omega
def a7m:∀{n:Nat} {M:Nat->Nat->Rat} {B:Nat->Nat},(∀ i j,i<n->j<n->∃z:Int,M i j=((z:Int):Rat)/\z.natAbs<=B j)->∃z:Int,M8 n M=((z:Int):Rat)/\z.natAbs<=a51 n B
 |0,_,_,_=>⟨1,rfl,by simp [a51]⟩
 |n+1,M,B,h=>by
  rw [U6];refine b0S fun i hi=>?_
  have ⟨a,ha,ha2⟩:=b3P i;have ⟨b,hb,hb2⟩:=h i 0 hi om;have ⟨c,hc,hc2⟩:=a7m (n:=n) (M:=F6 i M) (B:=fun c=>B (c+1)) fun r c hr hc=>by
   unfold F6;split
   ·exact h _ _ om om
   ·exact h _ _ om om
  refine ⟨a*b*c,by rw [ha,hb,hc];push_cast;rfl,?_⟩;rw [a3y,a3y,ha2,Nat.one_mul];exact lbT hb2 hc2
def a3s {f:Nat->Rat}:∀n:Nat,p6 f (n+1)=f 0+p6 (fun l=>f (l+1)) n
 |0=>by simp only [p6];grind
 |n+1=>by
  have ih:=a3s (f:=f) n;have e:p6 f (n+1+1)=p6 f (n+1)+f (n+1):=rfl;rw [e,ih];simp only [p6];grind
def a64:Nat->Nat->Rat:=fun i j=>if i=j then 1 else 0
def b54:∀n,M8 n a64=1
 |0=>rfl
 |n+1=>by
  rw [U6,a3s (f:=fun i=>aj9 i*a64 i 0*M8 n (F6 i a64)),D7 fun i hi=>?_]
  ·have e:F6 0 a64=a64:=by
    funext a c;unfold F6 a64;simp
   rw [e,b54 n];have:aj9 0=1:=rfl;have h2:a64 0 0=1:=rfl;rw [this,h2];grind
  ·have:a64 (i+1) 0=0:=by unfold a64;rw [iC om]
   rw [this];grind
def aE1 (f:Nat->Nat) (w:Nat):Nat->Option Nat
 |0=>none
 |k+1=>match aE1 f w k with
  |some i=>some i
  |none=>if f k=w then some k else none
def a7u {f:Nat->Nat} {w:Nat}:∀{k i:Nat},aE1 f w k=some i->i<k/\f i=w
 |0,i,h=>by cases h
 |k+1,i,h=>by
  unfold aE1 at h;split at h
  ·rename_i i' hi;injection h with h;subst h;have:=a7u hi;exact ⟨om,this.2⟩
  ·split at h
   ·injection h with h;subst h;exact ⟨om,by assumption⟩
   ·cases h
def ac8 {f:Nat->Nat} {w:Nat}:∀{k:Nat},aE1 f w k=none->∀i,i<k->f i≠w
 |0,_,i,hi=>om
 |k+1,h,i,hi=>by
  unfold aE1 at h;split at h
  ·cases h
  ·rename_i hn;split at h
   ·cases h
   ·by_cases hik:i=k
    ·subst hik;assumption
    ·exact ac8 hn i om
structure a03 (m n:Nat) (D:Fd):Prop where
 oi:∀i i',i<m->i'<m->D.O i=D.O i'->i=i'
 fi:∀j j',j<n->j'<n->D.F j=D.F j'->j=j'
 of:∀i j,i<m->j<n->D.O i≠D.F j
 all:∀w,w<n+m->(∃ i,i<m/\D.O i=w)\/(∃ j,j<n/\D.F j=w)
 ob:∀i,i<m->D.O i<n+m
 fb:∀j,j<n->D.F j<n+m
def ab8 {D:Fd} {r s i:Nat}:(D.exch r s).O i=if i=r then D.F s else D.O i:=rfl
def a3b {D:Fd} {r s j:Nat}:(D.exch r s).F j=if j=s then D.O r else D.F j:=rfl
def aI1 {m n:Nat} {D:Fd} {r s:Nat} (hr:r<m) (hs:s<n) (h:a03 m n D):a03 m n (D.exch r s) where
 oi:=fun i i' hi hi' he=>by
  rw [ab8,ab8] at he;by_cases h1:i=r<;>by_cases h2:i'=r
  ·omega
  ·rw [iB h1,iC h2] at he;exact absurd he.symm (h.of i' s hi' hs)
  ·rw [iC h1,iB h2] at he;exact absurd he (h.of i s hi hs)
  ·rw [iC h1,iC h2] at he;exact h.oi i i' hi hi' he
 fi:=fun j j' hj hj' he=>by
  rw [a3b,a3b] at he;by_cases h1:j=s<;>by_cases h2:j'=s
  ·omega
  ·rw [iB h1,iC h2] at he;exact absurd he (h.of r j' hr hj')
  ·rw [iC h1,iB h2] at he;exact absurd he.symm (h.of r j hr hj)
  ·rw [iC h1,iC h2] at he;exact h.fi j j' hj hj' he
 of:=fun i j hi hj he=>by
  rw [ab8,a3b] at he;by_cases h1:i=r<;>by_cases h2:j=s
  ·rw [iB h1,iB h2] at he;exact h.of r s hr hs he.symm
  ·rw [iB h1,iC h2] at he;exact h2 (h.fi s j hs hj he).symm
  ·rw [iC h1,iB h2] at he;exact h1 (h.oi i r hi hr he)
  ·rw [iC h1,iC h2] at he;exact h.of i j hi hj he
 all:=fun w hw=>by
  rcases h.all w hw with ⟨i,hi,he⟩|⟨j,hj,he⟩
  ·by_cases h1:i=r
   ·exact .inr ⟨s,hs,by rw [a3b,iB rfl,←h1];exact he⟩
   ·exact .inl ⟨i,hi,by rw [ab8,iC h1];exact he⟩
  ·by_cases h1:j=s
   ·exact .inl ⟨r,hr,by rw [ab8,iB rfl,←h1];exact he⟩
   ·exact .inr ⟨j,hj,by rw [a3b,iC h1];exact he⟩
 ob:=fun i hi=>by rw [ab8];split;exact h.fb s hs;exact h.ob i hi
 fb:=fun j hj=>by rw [a3b];split;exact h.ob r hr;exact h.fb j hj
def R6 (m n:Nat) (D:Fd) (c:Rat) (t:Nat->Rat) (w:Nat):Rat:=match aE1 D.F w n with
 |some j=>t j
 |none=>match aE1 D.O w m with
  |some i=>c*D.V i - p6 (fun j=>D.A i j*t j) n
  |none=>0
def a1E {m n:Nat} {D:Fd} (h:a03 m n D) {c:Rat} {t:Nat->Rat} {j:Nat} (hj:j<n):R6 m n D c t (D.F j)=t j:=by
 unfold R6;cases hi:aE1 D.F (D.F j) n with
 |none=>exact absurd rfl (ac8 hi j hj)
 |some i=>have ⟨h1,h2⟩:=a7u hi;rw [h.fi i j h1 hj h2]
def a5U {m n:Nat} {D:Fd} (h:a03 m n D) {c:Rat} {t:Nat->Rat} {i:Nat} (hi:i<m):R6 m n D c t (D.O i)=c*D.V i - p6 (fun j=>D.A i j*t j) n:=by
 unfold R6;cases hj:aE1 D.F (D.O i) n with
 |some j=>have ⟨h1,h2⟩:=a7u hj;exact absurd h2.symm (h.of i j hi h1)
 |none=>
  cases hk:aE1 D.O (D.O i) m with
  |none=>exact absurd rfl (ac8 hk i hi)
  |some k=>have ⟨h1,h2⟩:=a7u hk;rw [h.oi k i h1 hi h2]
def a0v {m n:Nat} {D:Fd} (h:a03 m n D) (c:Rat) (t:Nat->Rat):Ids m n D (R6 m n D c t) c:=fun i hi=>by
 rw [a5U h hi]
 congr 1
 exact p5 fun j hj=>by rw [a1E h hj]
def F5 (f:Nat->Nat) (p:Nat->Bool):Nat->Option Nat
 |0=>none
 |k+1=>match F5 f p k with
  |none=>if p k then some k else none
  |some a=>if p k && decide (f k<f a) then some k else some a
def a2g {f:Nat->Nat} {p:Nat->Bool}:∀{k:Nat},F5 f p k=none->∀i,i<k->p i=false
 |0,_,i,hi=>om
 |k+1,h,i,hi=>by
  unfold F5 at h;split at h
  ·rename_i hn;split at h
   ·cases h
   ·rename_i hp;by_cases hik:i=k
    ·subst hik;simpa using hp
    ·exact a2g hn i om
  ·split at h<;>cases h
def G3 {f:Nat->Nat} {p:Nat->Bool}:∀{k a:Nat},F5 f p k=some a->a<k/\p a=true/\∀i,i<k->p i=true->f a<=f i
 |0,a,h=>by cases h
 |k+1,a,h=>by
  unfold F5 at h;split at h
  ·rename_i hn;split at h
   ·rename_i hp;injection h with h;subst h
    refine ⟨om,hp,fun i hi hpi=>?_⟩;by_cases hik:i=k
    ·subst hik;omega
    ·rw [a2g hn i om] at hpi;cases hpi
   ·cases h
  ·rename_i b hb;have ⟨h1,h2,h3⟩:=G3 hb;split at h
   ·rename_i hc;injection h with h;subst h
    simp only [lbN,lbI] at hc;refine ⟨om,hc.1,fun i hi hpi=>?_⟩;by_cases hik:i=k
    ·subst hik;omega
    ·have:=h3 i om hpi;omega
   ·rename_i hc;injection h with h;subst h
    refine ⟨om,h2,fun i hi hpi=>?_⟩;by_cases hik:i=k
    ·subst hik;have:¬(f i<f b):=fun h=>hc (by simp [hpi,h])
     omega
    ·exact h3 i om hpi
inductive b9p where
 |best
 |row (r:Nat)
 |col (s:Nat)
 |next (r s:Nat)
def Z9 (n:Nat) (D:Fd) (r:Nat):b9p:=match F5 D.F (fun j=>decide (D.A r j<0)) n with
 |none=>.row r
 |some s=>.next r s
def a01 (m:Nat) (D:Fd) (s:Nat):b9p:=match F5 D.O (fun i=>decide (0<D.A i s)) m with
 |none=>.col s
 |some r=>.next r s
def B5 (m n:Nat) (D:Fd):b9p:=match F5 D.O (fun i=>decide (D.V i<0)) m,F5 D.F (fun j=>decide (0<D.G j)) n with
 |none,none=>.best
 |some r,none=>Z9 n D r
 |none,some s=>a01 m D s
 |some r,some s=>if D.O r<D.F s then Z9 n D r else a01 m D s
structure aL0 (m n:Nat) (D:Fd) (r s:Nat):Prop where
 v:D.V r<0
 a:D.A r s<0
 f:∀j,j<n->D.F j<D.F s->0<=D.A r j
 o:∀i,i<m->D.O i<D.O r->0<=D.V i
 g:∀j,j<n->D.F j<D.O r->D.G j<=0
structure aN7 (m n:Nat) (D:Fd) (r s:Nat):Prop where
 g:0<D.G s
 a:0<D.A r s
 o:∀i,i<m->D.O i<D.O r->D.A i s<=0
 f:∀j,j<n->D.F j<D.F s->D.G j<=0
 v:∀i,i<m->D.O i<D.F s->0<=D.V i
def b1l {m n:Nat} {D:Fd} {r r' s:Nat} (hr:F5 D.O (fun i=>decide (D.V i<0)) m=some r) (hg:∀j,j<n->D.F j<D.O r->D.G j<=0) (h:Z9 n D r=.next r' s):r'<m/\s<n/\aL0 m n D r' s:=by
 have ⟨a1,a2,a3⟩:=G3 hr;unfold Z9 at h;split at h
 ·cases h
 ·rename_i s' hs';injection h with h1 h2;subst h1;subst h2
  have ⟨b1,b2,b3⟩:=G3 hs';refine ⟨a1,b1,lbL a2,lbL b2,fun j hj hlt=>?_,fun i hi hlt=>?_,hg⟩
  ·exact lb4.1 fun h=>by have:=b3 j hj (lbH h);omega
  ·exact lb4.1 fun h=>by have:=a3 i hi (lbH h);omega
def b2a {m n:Nat} {D:Fd} {s s' r:Nat} (hs:F5 D.F (fun j=>decide (0<D.G j)) n=some s) (hv:∀i,i<m->D.O i<D.F s->0<=D.V i) (h:a01 m D s=.next r s'):r<m/\s'<n/\aN7 m n D r s':=by
 have ⟨a1,a2,a3⟩:=G3 hs;unfold a01 at h;split at h
 ·cases h
 ·rename_i r' hr';injection h with h1 h2;subst h1;subst h2
  have ⟨b1,b2,b3⟩:=G3 hr';refine ⟨b1,a1,lbL a2,lbL b2,fun i hi hlt=>?_,fun j hj hlt=>?_,hv⟩
  ·exact lb4.1 fun h=>by have:=b3 i hi (lbH h);omega
  ·exact lb4.1 fun h=>by have:=a3 j hj (lbH h);omega
def a4A {m n:Nat} {D:Fd} {r s:Nat} (h:B5 m n D=.next r s):r<m/\s<n/\(aL0 m n D r s\/aN7 m n D r s):=by
 unfold B5 at h;cases hr:F5 D.O (fun i=>decide (D.V i<0)) m with
 |none=>
  have hv:∀i,i<m->0<=D.V i:=fun i hi=>lb4.1 (lbM (a2g hr i hi))
  cases hs:F5 D.F (fun j=>decide (0<D.G j)) n with
  |none=>rw [hr,hs] at h;cases h
  |some s'=>
   rw [hr,hs] at h;have ⟨q1,q2,q3⟩:=b2a hs (fun i hi _=>hv i hi) h;exact ⟨q1,q2,.inr q3⟩
 |some r'=>
  have ⟨a1,a2,a3⟩:=G3 hr;cases hs:F5 D.F (fun j=>decide (0<D.G j)) n with
  |none=>
   rw [hr,hs] at h;have ⟨q1,q2,q3⟩:=b1l (n:=n) hr (fun j hj _=>lb4.1 (lbM (a2g hs j hj))) h;exact ⟨q1,q2,.inl q3⟩
  |some s'=>
   rw [hr,hs] at h;have ⟨b1,b2,b3⟩:=G3 hs;simp only at h;split at h
   ·rename_i hlt;have ⟨q1,q2,q3⟩:=b1l (n:=n) hr (fun j hj hj2=>lb4.1 fun h=>by have:=b3 j hj (lbH h);omega) h;exact ⟨q1,q2,.inl q3⟩
   ·rename_i hlt;have ⟨q1,q2,q3⟩:=b2a hs (fun i hi hi2=>lb4.1 fun h=>by have:=a3 i hi (lbH h);omega) h;exact ⟨q1,q2,.inr q3⟩
def a5d {m n:Nat} {D:Fd} {r s:Nat} (h:aL0 m n D r s\/aN7 m n D r s):D.A r s≠0:=by
 rcases h with h|h
 ·have:=h.a;intro h0;rw [h0] at this;exact absurd this zg
 ·have:=h.a;intro h0;rw [h0] at this;exact absurd this zg
def b8f {m n:Nat} {D D':Fd} {g0:Nat->Rat} {z z':Rat} (hP:a03 m n D) (hP':a03 m n D') (hI:∀y c,Ids m n D y c↔Ids m n D' y c) (hG:a1i n D g0 m z) (hG':a1i n D' g0 m z')
 {r s r' s' q:Nat} (hr:r<m) (hs:s<n) (hr':r'<m) (hs':s'<n) (h:aL0 m n D r s\/aN7 m n D r s) (h':aL0 m n D' r' s'\/aN7 m n D' r' s') (hq:D.F s=q) (hq':D'.O r'=q)
 (hrq:D.O r<q) (hsq:D'.F s'<q) (hst:∀w,q<w->((∃ j,j<n/\D.F j=w)↔∃j,j<n/\D'.F j=w)):False:=by
 have hfree:∀j,j<n->q<D.F j->∃k,k<n/\D'.F k=D.F j:=fun j hj hlt=>(hst _ hlt).1 ⟨j,hj,rfl⟩
 obtain ⟨c,y,hc,hy,ypos,yq,yfree,hobj⟩:∃(c:Rat) (y:Nat->Rat),(c=0\/c=1)/\Ids m n D' y c/\(∀ w,w<n+m->w<q->0<=y w)/\y q<0/\(∀ j,j<n->q<D.F j->y (D.F j)=0)/\
  ((c=0/\0<p6 (fun j=>g0 j*y j) n)\/(c=1/\p6 (fun j=>g0 j*y j) n=z'/\∀j,j<n->D'.F j<q->D'.G j<=0)):=by
  rcases h' with h'|h'
  ·refine ⟨1,R6 m n D' 1 (fun _=>0),.inr rfl,a0v hP' 1 _,fun w hw hwq=>?_,?_,fun j hj hlt=>?_,.inr ⟨rfl,?_,fun j hj hlt=>h'.g j hj (by rw [hq'];exact hlt)⟩⟩
   ·rcases hP'.all w hw with ⟨i,hi,rfl⟩|⟨j,hj,rfl⟩
    ·rw [a5U hP' hi,D7 fun j _=>by grind];have:=h'.o i hi (by rw [hq'];exact hwq);grind
    ·rw [a1E hP' hj];grind
   ·rw [← hq',a5U hP' hr',D7 fun j _=>by grind];have:=h'.v;grind
   ·have ⟨k,hk,he⟩:=hfree j hj hlt;rw [← he,a1E hP' hk]
   ·rw [hG' _ 1 (a0v hP' 1 _),D7 fun j hj=>by rw [a1E hP' hj];grind];grind
  ·refine ⟨0,R6 m n D' 0 (fun j=>if j=s' then 1 else 0),.inl rfl,a0v hP' 0 _,fun w hw hwq=>?_,?_,fun j hj hlt=>?_,.inl ⟨rfl,?_⟩⟩
   ·have hone:∀i,p6 (fun j=>D'.A i j*(if j=s' then 1 else 0)) n=D'.A i s':=fun i=>by
     rw [H7 hs',D7 fun j _=>by by_cases hj:j=s'<;>simp [hj]];simp;grind
    rcases hP'.all w hw with ⟨i,hi,rfl⟩|⟨j,hj,rfl⟩
    ·rw [a5U hP' hi,hone];have:=h'.o i hi (by rw [hq'];exact hwq);grind
    ·rw [a1E hP' hj];split<;>grind
   ·have hone:p6 (fun j=>D'.A r' j*(if j=s' then 1 else 0)) n=D'.A r' s':=by
     rw [H7 hs',D7 fun j _=>by by_cases hj:j=s'<;>simp [hj]];simp;grind
    rw [← hq',a5U hP' hr',hone];have:=h'.a;grind
   ·have ⟨k,hk,he⟩:=hfree j hj hlt;rw [← he,a1E hP' hk,iC];intro hks;rw [hks] at he;omega
   ·rw [hG' _ 0 (a0v hP' 0 _)];have:p6 (fun j=>D'.G j*R6 m n D' 0 (fun j=>if j=s' then 1 else 0) (D'.F j)) n=D'.G s':=by
     rw [p5 (g:=fun j=>D'.G j*(if j=s' then 1 else 0)) fun j hj=>by rw [a1E hP' hj],H7 hs',D7 fun j _=>by by_cases hj:j=s'<;>simp [hj]];simp;grind
    rw [this];have:=h'.g;grind
 have hy2:=(hI y c).2 hy;have hF:∀j,j<n->(D.F j<q/\0<=y (D.F j))\/(j=s/\y (D.F j)<0)\/y (D.F j)=0:=fun j hj=>by
  rcases aX6 (D.F j) q with hlt|heq|hgt
  ·exact .inl ⟨hlt,ypos _ (hP.fb j hj) hlt⟩
  ·refine .inr (.inl ⟨hP.fi j s hj hs om,by rw [heq];exact yq⟩)
  ·exact .inr (.inr (yfree j hj hgt))
 rcases h with h|h
 · -- by its row
   have hid:=hy2 r hr;have h1:0<p6 (fun j=>D.A r j*y (D.F j)) n:=bu0 (s:=s) (fun j hj=>by
    rcases hF j hj with ⟨a,b⟩|⟨rfl,b⟩|b
    ·exact lb1 (h.f j hj (by rw [hq];exact a)) b
    ·have:=h.a;exact Rat.le_of_lt (by have:=lb2 (a:=-D.A r j) (b:=-y (D.F j)) zg zg;grind)
    ·rw [b];grind) hs (by
    have:=h.a;have hyq:y (D.F s)<0:=by rw [hq];exact yq
    have:=lb2 (a:=-D.A r s) (b:=-y (D.F s)) zg zg;grind)
   have h2:0<=y (D.O r):=ypos _ (hP.ob r hr) hrq;have h3:=h.v;rcases hc with rfl|rfl
   ·grind
   ·grind
 · -- by its goal
   have h1:p6 (fun j=>D.G j*y (D.F j)) n<0:=bx3 (s:=s) (fun j hj=>by
    rcases hF j hj with ⟨a,b⟩|⟨rfl,b⟩|b
    ·have:=h.f j hj (by rw [hq];exact a);have:=lb1 (a:=-D.G j) (b:=y (D.F j)) zg b;grind
    ·have:=h.g;have:=lb2 (a:=D.G j) (b:=-y (D.F j)) zg zg;grind
    ·rw [b];grind) hs (by
    have:=h.g;have hyq:y (D.F s)<0:=by rw [hq];exact yq
    have:=lb2 (a:=D.G s) (b:=-y (D.F s)) zg zg;grind)
   have hg:=hG y c hy2;rcases hobj with ⟨rfl,ho⟩|⟨rfl,ho,hneg⟩
   ·grind
   · -- the basic point of the first dictionary
     have k1:=hG (R6 m n D 1 (fun _=>0)) 1 (a0v hP 1 _);rw [D7 (f:=fun j=>D.G j*R6 m n D 1 (fun _=>0) (D.F j)) fun j hj=>by rw [a1E hP hj];grind] at k1;have k2:=hG' (R6 m n D 1 (fun _=>0)) 1 ((hI _ 1).1 (a0v hP 1 _));have k3:p6 (fun j=>D'.G j*R6 m n D 1 (fun _=>0) (D'.F j)) n<=0:=al0 fun j hj=>by
      have hv:∀w,w<n+m->w<q->0<=R6 m n D 1 (fun _=>0) w:=fun w hw hwq=>by
       rcases hP.all w hw with ⟨i,hi,rfl⟩|⟨k,hk,rfl⟩
       ·rw [a5U hP hi,D7 fun j _=>by grind];have:=h.v i hi (by rw [hq];exact hwq);grind
       ·rw [a1E hP hk];grind
      rcases aX6 (D'.F j) q with hlt|heq|hgt
      ·have a1:=hneg j hj hlt;have a2:=hv _ (hP'.fb j hj) hlt;have:=lb1 (a:=-D'.G j) zg a2;grind
      ·exact absurd (hq'.trans heq.symm) (hP'.of r' j hr' hj)
      ·have ⟨k,hk,he⟩:=(hst _ hgt).2 ⟨j,hj,rfl⟩;rw [← he,a1E hP hk];grind
     grind
def G8 (m n:Nat) (D:Fd):Option Fd:=match B5 m n D with
 |.next r s=>some (D.exch r s)
 |_=>none
def a8t {m n:Nat} {D D':Fd} (h:G8 m n D=some D'):∃r s,B5 m n D=.next r s/\D'=D.exch r s:=by
 unfold G8 at h;split at h
 ·rename_i r s hs;injection h with h;exact ⟨r,s,hs,h.symm⟩
 ·cases h
def aA5 {P:Nat->Nat->Prop}:∀N:Nat,(∀ w,w<N->∃T,∀k,T<=k->¬P k w)->∃T,∀w,w<N->∀k,T<=k->¬P k w
 |0,_=>⟨0,fun w hw=>om⟩
 |N+1,h=>by
  have ⟨T,hT⟩:=aA5 (P:=P) N fun w hw=>h w om
  have ⟨T',hT'⟩:=h N om;refine ⟨max T T',fun w hw k hk=>?_⟩;by_cases hwn:w=N
  ·subst hwn;exact hT' k om
  ·exact hT w om k om
def aB7 {p:Nat->Prop}:∀N:Nat,(∃ w,w<N/\p w)->∃q,q<N/\p q/\∀w,q<w->w<N->¬p w
 |0,⟨w,hw,_⟩=>om
 |N+1,⟨w,hw,hp⟩=>by
  by_cases h:p N
  ·exact ⟨N,om,h,fun w h1 h2=>om⟩
  ·have hwN:w≠N:=fun e=>h (e ▸ hp)
   have ⟨q,h1,h2,h3⟩:=aB7 N ⟨w,om,hp⟩;refine ⟨q,om,h2,fun w h4 h5=>?_⟩;by_cases hw2:w=N
   ·subst hw2;exact h
   ·exact h3 w h4 om
def a55 (p:Nat->Prop) (h:∃n,p n):∃n,p n/\∀m,p m->n<=m:=by
 have ⟨n,hn⟩:=h;induction n using Nat.strongRecOn with
 |_ n ih=>
  by_cases hex:∃m,m<n/\p m
  ·have ⟨m,hm,hp⟩:=hex;exact ih m hm hp
  ·exact ⟨n,hn,fun m hm=>aX4 fun h=>hex ⟨m,h,hm⟩⟩
def bC7 {m n:Nat} {f:Nat->Fd} {g0:Nat->Rat} (hP0:a03 m n (f 0)) (hG0:∃z,a1i n (f 0) g0 m z) (hf:∀k,G8 m n (f k)=some (f (k+1))):False:=by
 have hstep:∀k,∃rs:Nat × Nat,rs.1<m/\rs.2<n/\(aL0 m n (f k) rs.1 rs.2\/aN7 m n (f k) rs.1 rs.2)/\f (k+1)=(f k).exch rs.1 rs.2:=fun k=>by
  have ⟨r,s,h1,h2⟩:=a8t (hf k);have ⟨a,b,c⟩:=a4A h1;exact ⟨(r,s),a,b,c,h2⟩
 have ⟨W,hW⟩:=Classical.axiomOfChoice hstep;have hP:∀k,a03 m n (f k):=fun k=>by
  induction k with
  |zero=>exact hP0
  |succ k ih=>have ⟨a,b,_,d⟩:=hW k;rw [d];exact aI1 a b ih
 have hI:∀k y c,Ids m n (f 0) y c↔Ids m n (f k) y c:=fun k=>by
  induction k with
  |zero=>exact fun _ _=>Iff.rfl
  |succ k ih=>have ⟨a,b,c',d⟩:=hW k;rw [d];exact fun y c=>(ih y c).trans (au6 a b (a5d c'))
 have hG:∀k,∃z,a1i n (f k) g0 m z:=fun k=>by
  induction k with
  |zero=>exact hG0
  |succ k ih=>have ⟨a,b,c',d⟩:=hW k;have ⟨z,hz⟩:=ih;rw [d];exact ⟨_,aK8 a b (a5d c') hz⟩
 let E:Nat->Nat:=fun k=>(f k).F (W k).2
 let L:Nat->Nat:=fun k=>(f k).O (W k).1
 have hE:∀k,E k<n+m:=fun k=>(hP k).fb _ (hW k).2.1
 have hL:∀k,L k<n+m:=fun k=>(hP k).ob _ (hW k).1
 have hEL:∀k,L k≠E k:=fun k=>(hP k).of _ _ (hW k).1 (hW k).2.1
 let fre:Nat->Nat->Prop:=fun k w=>∃j,j<n/\(f k).F j=w
 have hfre:∀k w,w≠E k->w≠L k->(fre (k+1) w↔fre k w):=fun k w h1 h2=>by
  have ⟨a,b,_,d⟩:=hW k;show (∃ j,j<n/\(f (k+1)).F j=w)↔∃j,j<n/\(f k).F j=w;rw [d];constructor
  ·rintro ⟨j,hj,he⟩;rw [a3b] at he;by_cases hjs:j=(W k).2
   ·rw [iB hjs] at he;exact absurd he.symm h2
   ·rw [iC hjs] at he;exact ⟨j,hj,he⟩
  ·rintro ⟨j,hj,he⟩;have hjs:j≠(W k).2:=fun h=>h1 (by rw [← he,h])
   exact ⟨j,hj,by rw [a3b,iC hjs];exact he⟩
 have hin:∀k,fre k (E k):=fun k=>⟨_,(hW k).2.1,rfl⟩
 have hout:∀k,¬fre k (L k):=fun k=>by rintro ⟨j,hj,he⟩;exact (hP k).of _ _ (hW k).1 hj he.symm
 have hin2:∀k,fre (k+1) (L k):=fun k=>by
  have ⟨a,b,_,d⟩:=hW k;show ∃j,j<n/\(f (k+1)).F j=L k;rw [d];exact ⟨_,b,by rw [a3b,iB rfl]⟩
 have hout2:∀k,¬fre (k+1) (E k):=fun k=>by
  have ⟨a,b,_,d⟩:=hW k;show ¬∃j,j<n/\(f (k+1)).F j=E k;rw [d];rintro ⟨j,hj,he⟩;rw [a3b] at he;by_cases hjs:j=(W k).2
  ·rw [iB hjs] at he;exact hEL k he
  ·rw [iC hjs] at he;exact hjs ((hP k).fi _ _ hj b he)
 let mv:Nat->Nat->Prop:=fun k w=>E k=w\/L k=w
 have ⟨q,hqN,hio,hmax⟩:=aB7 (p:=fun w=>∀T,∃k,T<=k/\mv k w) (n+m) (a02 fun hno=>by
  have h1:∀w,w<n+m->∃T,∀k,T<=k->¬mv k w:=fun w hw=>a02 fun h=>hno ⟨w,hw,fun T=>a02 fun h'=>h ⟨T,fun k hk hm=>h' ⟨k,hk,hm⟩⟩⟩
  have ⟨T,hT⟩:=aA5 (P:=mv) _ h1;exact hT _ (hE T) T (lbR _) (.inl rfl))
 obtain ⟨T,hT⟩:∃T,∀w,q<w->∀k,T<=k->¬mv k w:=by
  have ⟨T,hT⟩:=aA5 (P:=fun k w=>q<w/\mv k w) (n+m) fun w hw=>by
   by_cases hqw:q<w
   ·have:=hmax w hqw hw;have ⟨T,hT⟩:=Classical.not_forall.1 this;exact ⟨T,fun k hk ⟨_,hm⟩=>hT ⟨k,hk,hm⟩⟩
   ·exact ⟨0,fun k _ ⟨h,_⟩=>hqw h⟩
  refine ⟨T,fun w hqw k hk hm=>?_⟩;have hw:w<n+m:=by rcases hm with hm|hm<;>rw [← hm];exact hE k;exact hL k
  exact hT w hw k hk ⟨hqw,hm⟩
 have hEq:∀k,T<=k->E k<=q:=fun k hk=>aX4 fun h=>hT _ h k hk (.inl rfl)
 have hLq:∀k,T<=k->L k<=q:=fun k hk=>aX4 fun h=>hT _ h k hk (.inr rfl)
 have hconst:∀w,q<w->∀d,fre (T+d) w↔fre T w:=fun w hw d=>by
  induction d with
  |zero=>exact Iff.rfl
  |succ d ih=>
   have h1:=hEq (T+d) om;have h2:=hLq (T+d) om;exact (hfre (T+d) w om om).trans ih
 have hsame:∀w,q<w->∀t u,T<=t->T<=u->(fre t w↔fre u w):=fun w hw t u ht hu=>by
  have h1:=hconst w hw (t - T);have h2:=hconst w hw (u - T);rw [show T+(t - T)=t by omega] at h1;rw [show T+(u - T)=u by omega] at h2;exact h1.trans h2.symm
 have hnext:∀k1,T<=k1->mv k1 q->∃k2,T<=k2/\mv k2 q/\(fre k2 q↔fre (k1+1) q):=fun k1 h1 _=>by
  have ⟨k2,⟨h2,h3⟩,hleast⟩:=a55 (fun k=>k1+1<=k/\mv k q) (hio (k1+1));refine ⟨k2,om,h3,?_⟩;have key:∀d,k1+1+d<=k2->(fre (k1+1+d) q↔fre (k1+1) q):=fun d=>by
   induction d with
   |zero=>exact fun _=>Iff.rfl
   |succ d ih=>
    intro hd;have hnm:¬mv (k1+1+d) q:=fun h=>by have:=hleast (k1+1+d) ⟨om,h⟩;omega
    exact (hfre (k1+1+d) q (fun h=>hnm (.inl h.symm)) (fun h=>hnm (.inr h.symm))).trans (ih om)
  have:=key (k2 - (k1+1)) om;rwa [show k1+1+(k2 - (k1+1))=k2 by omega] at this
 have hboth:∃t u,T<=t/\T<=u/\E t=q/\L u=q:=by
  have ⟨k1,h1,hm1⟩:=hio T;have ⟨k2,h2,hm2,hs⟩:=hnext k1 h1 hm1;rcases hm1 with hm1|hm1
  ·rcases hm2 with hm2|hm2
   ·have a:=hin k2;rw [hm2] at a;have b:=hout2 k1;rw [hm1] at b;exact absurd (hs.1 a) b
   ·exact ⟨k1,k2,h1,h2,hm1,hm2⟩
  ·rcases hm2 with hm2|hm2
   ·exact ⟨k2,k1,h2,h1,hm2,hm1⟩
   ·have a:=hout k2;rw [hm2] at a;have b:=hin2 k1;rw [hm1] at b;exact absurd (hs.2 b) a
 have ⟨t,u,ht,hu,het,hlu⟩:=hboth;have ⟨z,hz⟩:=hG t;have ⟨z',hz'⟩:=hG u;have ⟨a1,a2,a3,_⟩:=hW t;have ⟨b1,b2,b3,_⟩:=hW u;have hl:L t<q:=by have:=hLq t ht;have:=hEL t;omega
 have he:E u<q:=by have:=hEq u hu;have:=hEL u;omega
 exact b8f (hP t) (hP u) (fun y c=>(hI t y c).symm.trans (hI u y c)) hz hz' a1 a2 b1 b2 a3 b3 het hlu hl he (fun w hw=>hsame w hw t u ht hu)
def itS (m n:Nat):Nat->Fd->Option Fd
 |0,D=>some D
 |k+1,D=>match G8 m n D with
  |none=>none
  |some D'=>itS m n k D'
def a1s {m n:Nat}:∀(k:Nat) (D:Fd),itS m n (k+1) D=(itS m n k D).bind (G8 m n)
 |0,D=>by
  show (match G8 m n D with|none=>none|some D'=>some D')=G8 m n D;cases G8 m n D<;>rfl
 |k+1,D=>by
  show (match G8 m n D with|none=>none|some D'=>itS m n (k+1) D')=(match G8 m n D with|none=>none|some D'=>itS m n k D').bind (G8 m n);cases G8 m n D with
  |none=>rfl
  |some D'=>exact a1s k D'
def b9E {m n:Nat} {D:Fd} {g0:Nat->Rat} (hP:a03 m n D) (hG:∃z,a1i n D g0 m z):∃k,itS m n k D=none:=a02 fun h=>by
 have h1:∀k,∃D',itS m n k D=some D':=fun k=>by
  cases hk:itS m n k D with
  |none=>exact absurd ⟨k,hk⟩ h
  |some D'=>exact ⟨D',rfl⟩
 have ⟨f,hf⟩:=Classical.axiomOfChoice h1;have hf:∀k,itS m n k D=some (f k):=hf;have h0:f 0=D:=by have:=hf 0;injection this with this;exact this.symm
 refine bC7 (f:=f) (g0:=g0) (by rw [h0];exact hP) (by rw [h0];exact hG) fun k=>?_
 have h2:=a1s (m:=m) (n:=n) k D;rw [hf k,hf (k+1)] at h2;exact h2.symm
noncomputable def a6E (m n:Nat) (D:Fd):Nat:=Classical.epsilon fun k=>itS m n k D=none/\∀j,itS m n j D=none->k<=j
def aB8 {m n:Nat} {D D':Fd} (h:∃k,itS m n k D=none) (hn:G8 m n D=some D'):a6E m n D'<a6E m n D:=by
 have hD:=aX0 (a55 _ h);have h':∃k,itS m n k D'=none:=by
  have ⟨k,hk⟩:=h;cases k with
  |zero=>cases hk
  |succ k=>
   have hk:(match G8 m n D with|none=>none|some D'=>itS m n k D')=none:=hk;rw [hn] at hk;exact ⟨k,hk⟩
 have hD':=aX0 (a55 _ h');have e:a6E m n D=Classical.epsilon fun k=>itS m n k D=none/\∀j,itS m n j D=none->k<=j:=rfl
 have e':a6E m n D'=Classical.epsilon fun k=>itS m n k D'=none/\∀j,itS m n j D'=none->k<=j:=rfl
 rw [← e] at hD;rw [← e'] at hD';have ⟨a1,a2⟩:=hD;have ⟨b1,b2⟩:=hD';generalize a6E m n D=k at a1 a2;cases k with
 |zero=>cases a1
 |succ k=>
  have a1:(match G8 m n D with|none=>none|some D'=>itS m n k D')=none:=a1;rw [hn] at a1;have:=b2 k a1;omega
structure EqI where
 co:Nat->Int
 rhs:Int
def ad6 (k:Nat) (e:EqI) (u:Nat->Rat):Prop:=p6 (fun l=>((e.co l:Int):Rat)*u l) (k+1)=((e.rhs:Int):Rat)
def bu5 {f g:Nat->Rat} (a b:Rat) (n:Nat):p6 (fun j=>a*f j - b*g j) n=a*p6 f n - b*p6 g n:=by
 rw [← K4 a,←K4 b];have:p6 (fun j=>a*f j - b*g j) n=p6 (fun j=>a*f j+(-1)*(b*g j)) n:=p5 fun j _=>zg
 rw [this,a2E,K4 (-1)];grind
def ax4 (k:Nat) (e0 e:EqI):EqI:=⟨fun l=>e0.co (k+1)*e.co l - e.co (k+1)*e0.co l,e0.co (k+1)*e.rhs - e.co (k+1)*e0.rhs⟩
def b27 {k:Nat} {e0 e:EqI} {u:Nat->Rat}:p6 (fun l=>(((ax4 k e0 e).co l:Int):Rat)*u l) (k+1)=
 ((e0.co (k+1):Int):Rat)*p6 (fun l=>((e.co l:Int):Rat)*u l) (k+1) - ((e.co (k+1):Int):Rat)*p6 (fun l=>((e0.co l:Int):Rat)*u l) (k+1):=by
 rw [← bu5];refine p5 fun l _=>?_
 unfold ax4;simp only;rw [Rat.intCast_sub,aX5,aX5];grind
def b0V {k:Nat} {e0 e:EqI}:(((ax4 k e0 e).rhs:Int):Rat)=((e0.co (k+1):Int):Rat)*((e.rhs:Int):Rat) - ((e.co (k+1):Int):Rat)*((e0.rhs:Int):Rat):=by
 unfold ax4;simp only;rw [Rat.intCast_sub,aX5,aX5]
def bv2 {k:Nat} {e0 e:EqI} {s:Nat} (h0:(∀ l,l<=k+1->bl (e0.co l)<=s)/\bl e0.rhs<=s) (h:(∀ l,l<=k+1->bl (e.co l)<=s)/\bl e.rhs<=s):(∀ l,l<=k->bl ((ax4 k e0 e).co l)<=2*s+1)/\bl (ax4 k e0 e).rhs<=2*s+1:=by
 have key:∀a b c d:Int,bl a<=s->bl b<=s->bl c<=s->bl d<=s->bl (a*b - c*d)<=2*s+1:=fun a b c d ha hb hc hd=>by
  have h1:=I5 a b;have h2:=I5 c d;have h3:=a8u (a*b) (-(c*d));rw [Z7,←ad3] at h3;omega
 exact ⟨fun l hl=>key _ _ _ _ (h0.1 _ om) (h.1 _ om) (h.1 _ om) (h0.1 _ om),key _ _ _ _ (h0.1 _ om) h.2 (h.1 _ om) h0.2⟩
def a8w:∀(k s:Nat) (E:List EqI) (u:Nat->Rat),(∀ e ∈ E,(∀ l,l<=k->bl (e.co l)<=s)/\bl e.rhs<=s)->(∀ e ∈ E,ad6 k e u)->(∀ u',(∀ e ∈ E,ad6 k e u')->u' 0=u 0)->rl (u 0)<=2 ^ k*(s+1)
 |0,s,E,u,hb,hu,hq=>by
  by_cases hex:∃e ∈ E,e.co 0≠0
  ·have ⟨e,he,hc⟩:=hex;have h1:((0:Int):Rat)+((e.co 0:Int):Rat)*u 0=((e.rhs:Int):Rat):=hu e he;have hne:((e.co 0:Int):Rat)≠0:=fun h=>hc (by exact_mod_cast h)
   have h2:u 0=Rat.divInt e.rhs (e.co 0):=by
    rw [a84,←h1];have:((0:Int):Rat)=0:=rfl;rw [this];grind
   rw [h2];have h3:=(hb e he).1 0 (lbR _);have h4:=(hb e he).2;have:=Y7 (p:=e.rhs) (q:=e.co 0) hc;omega
  ·have hz:∀e ∈ E,e.co 0=0:=fun e he=>a02 fun h=>hex ⟨e,he,h⟩
   have:=hq (fun _=>u 0+1) fun e he=>by
    have h1:((0:Int):Rat)+((e.co 0:Int):Rat)*u 0=((e.rhs:Int):Rat):=hu e he;show ((0:Int):Rat)+((e.co 0:Int):Rat)*(u 0+1)=((e.rhs:Int):Rat);rw [← h1,hz e he];have:((0:Int):Rat)=0:=rfl;rw [this];grind
   grind
 |k+1,s,E,u,hb,hu,hq=>by
  have hlast:∀(e:EqI) (v:Nat->Rat),p6 (fun l=>((e.co l:Int):Rat)*v l) (k+1+1)=p6 (fun l=>((e.co l:Int):Rat)*v l) (k+1)+((e.co (k+1):Int):Rat)*v (k+1):=fun e v=>rfl
  by_cases hex:∃e ∈ E,e.co (k+1)≠0
  ·have ⟨e0,he0,hc⟩:=hex;have hne:((e0.co (k+1):Int):Rat)≠0:=fun h=>hc (by exact_mod_cast h)
   have ih:=a8w k (2*s+1) (E.map (ax4 k e0)) u (fun e he=>by
    obtain ⟨e1,he1,rfl⟩:=lbx.1 he;exact bv2 (hb e0 he0) (hb e1 he1)) (fun e he=>by
    obtain ⟨e1,he1,rfl⟩:=lbx.1 he;have a1:p6 _ (k+1+1)=_:=hu e0 he0;have a2:p6 _ (k+1+1)=_:=hu e1 he1;rw [hlast] at a1 a2;unfold ad6;rw [b27,b0V,←a1,←a2];grind) (fun u' hu'=>by
    have hnew:=hq (fun l=>if l=k+1 then (((e0.rhs:Int):Rat) - p6 (fun l=>((e0.co l:Int):Rat)*u' l) (k+1)) / ((e0.co (k+1):Int):Rat) else u' l) fun e he=>by
     have b1:=hu' _ (lbx.2 ⟨e,he,rfl⟩);unfold ad6 at b1 ⊢;rw [b27,b0V] at b1;rw [hlast,p5 (g:=fun l=>((e.co l:Int):Rat)*u' l) fun l hl=>by rw [iC om],iB rfl];generalize p6 (fun l=>((e.co l:Int):Rat)*u' l) (k+1)=X at *;generalize p6 (fun l=>((e0.co l:Int):Rat)*u' l) (k+1)=Y at *;generalize ((e0.co (k+1):Int):Rat)=c at *;generalize ((e.co (k+1):Int):Rat)=d at *;generalize ((e.rhs:Int):Rat)=r at *;generalize ((e0.rhs:Int):Rat)=r0 at *;have h1:c*(X+d*((r0 - Y) / c))=c*r:=by
      have:c*((r0 - Y) / c)=r0 - Y:=zg;have h2:c*(X+d*((r0 - Y) / c))=c*X+d*(c*((r0 - Y) / c)):=zg;rw [h2,this];grind
     grind
    rw [iC om] at hnew;exact hnew)
   have e1:2 ^ (k+1)*(s+1)=2 ^ k*(2*s+1+1):=by rw [Nat.pow_succ,Nat.mul_assoc,show 2*(s+1)=2*s+1+1 by omega]
   rw [e1];exact ih
  ·have hz:∀e ∈ E,e.co (k+1)=0:=fun e he=>a02 fun h=>hex ⟨e,he,h⟩
   have hiff:∀e ∈ E,∀v,ad6 (k+1) e v↔ad6 k e v:=fun e he v=>by
    unfold ad6;rw [hlast,hz e he];have:((0:Int):Rat)=0:=rfl;rw [this];constructor
    ·intro h;rw [← h];grind
    ·intro h;rw [← h];grind
   have ih:=a8w k s E u (fun e he=>⟨fun l hl=>(hb e he).1 l om,(hb e he).2⟩) (fun e he=>(hiff e he u).1 (hu e he)) fun u' hu'=>hq u' fun e he=>(hiff e he u').2 (hu' e he)
   have:2 ^ k<=2 ^ (k+1):=a86 de om;exact lbS ih (lbU _ this)
structure a9P (m n s:Nat) (D:Fd):Prop where
 o:∀i,i<m->D.O i=n+i
 f:∀j,j<n->D.F j=j
 w:∀i,i<m->∃(q v:Int) (a:Nat->Int),q≠0/\bl q<=s/\bl v<=s/\(∀ j,j<n->bl (a j)<=s)/\((q:Int):Rat)*D.V i=((v:Int):Rat)/\∀j,j<n->((q:Int):Rat)*D.A i j=((a j:Int):Rat)
def a7s (x:Int):bl (-x)=bl x:=by unfold bl;rw [a2v]
def b7K (x y:Int):bl (x - y)<=max (bl x) (bl y)+1:=by
 have:=a8u x (-y);rw [a7s] at this;rw [ad3];exact this
def aM3 {f:Nat->Rat}:∀n:Nat,p6 f (n+1)=f 0+p6 (fun l=>f (l+1)) n
 |0=>by simp only [p6];grind
 |n+1=>by
  have ih:=aM3 (f:=f) n;have e:p6 f (n+1+1)=p6 f (n+1)+f (n+1):=rfl;rw [e,ih];simp only [p6];grind
def b6s (q0:Int) (b:Nat->Int) (r:Int):EqI:=⟨fun l=>match l with|0=>q0|l+1=>b l,r⟩
def au0 {n:Nat} {q0 r:Int} {b:Nat->Int} {u:Nat->Rat}:ad6 n (b6s q0 b r) u↔((q0:Int):Rat)*u 0+p6 (fun l=>((b l:Int):Rat)*u (l+1)) n=((r:Int):Rat):=by
 unfold ad6 b6s;simp only;rw [aM3]
def a5E {n v:Nat} {u:Nat->Rat} (hv:v<n):p6 (fun l=>(((if l=v then (1:Int) else 0):Int):Rat)*u l) n=u v:=by
 rw [H7 hv,D7 fun j hj=>?_]
 ·simp only [if_true];have:((1:Int):Rat)=1:=rfl;rw [this];grind
 ·by_cases h:j=v
  ·simp only [h,if_true]
  ·simp only [iC h];have:((0:Int):Rat)=0:=rfl;rw [this];grind
def bz4 {s:Nat} (hs:1<=s) (b:Prop) [Decidable b]:bl (if b then (1:Int) else 0)<=s:=by
 split
 ·exact lbS (w9 de de) hs
 ·exact lbS (w9 de de) hs
def a6Q {m n s:Nat} {D0 D:Fd} (h0:a9P m n s D0) (hs:1<=s) (hP:a03 m n D) (hI:∀y c,Ids m n D0 y c↔Ids m n D y c) {c:Int} {t:Nat->Int} (hc:c=0\/c=1) (ht:∀j,t j=0\/t j=1)
 {q r:Int} {b:Nat->Int} {φ:Rat} (hq:q≠0) (hqs:bl q<=s) (hr:bl r<=s) (hb:∀l,l<n->bl (b l)<=s)
 (hφ:((q:Int):Rat)*φ=((r:Int):Rat)*((c:Int):Rat)+p6 (fun l=>((b l:Int):Rat)*R6 m n D ((c:Int):Rat) (fun j=>((t j:Int):Rat)) l) n):rl φ<=2 ^ n*(s+2):=by
 obtain ⟨y,hy⟩:∃y,y=R6 m n D ((c:Int):Rat) (fun j=>((t j:Int):Rat)):=⟨_,rfl⟩;rw [← hy] at hφ;have hyD:Ids m n D y ((c:Int):Rat):=by rw [hy];exact a0v hP _ _
 have hy0:=(hI y _).2 hyD;have hyF:∀j,j<n->y (D.F j)=((t j:Int):Rat):=fun j hj=>by rw [hy];exact a1E hP hj
 have eqs:∀j,j<n->∃e:EqI,(∀ l,l<=n->bl (e.co l)<=s+1)/\bl e.rhs<=s+1/\
  ∀(y' u':Nat->Rat),(∀ l,l<n->u' (l+1)=y' l)->Ids m n D0 y' ((c:Int):Rat)->(ad6 n e u'↔y' (D.F j)=((t j:Int):Rat)):=by
  intro j hj;have htb:bl (t j)<=1:=by rcases ht j with h|h<;>rw [h]<;>exact w9 de de
  by_cases hv:D.F j<n
  ·refine ⟨b6s 0 (fun l=>if l=D.F j then 1 else 0) (t j),fun l hl=>?_,lbS htb om,fun y' u' hu hy'=>?_⟩
   ·cases l with
    |zero=>exact lbS (w9 (x:=0) de de) om
    |succ l=>exact bz4 om _
   ·rw [au0];rw [p5 (g:=fun l=>(((if l=D.F j then (1:Int) else 0):Int):Rat)*y' l) fun l hl=>by rw [hu l hl],a5E hv];have:((0:Int):Rat)=0:=rfl;rw [this];constructor<;>intro h<;>grind
  ·have hb1:=hP.fb j hj;obtain ⟨i,hi⟩:∃i,D.F j=n+i:=⟨D.F j - n,om⟩;have him:i<m:=om;have ⟨qi,vi,ai,q1,q2,q3,q4,q5,q6⟩:=h0.w i him;have hrhs:bl (vi*c - qi*t j)<=s+1:=by
    have h1:bl (vi*c)<=s:=by rcases hc with h|h<;>rw [h]<;>simp<;>first|exact q3|exact lbS (w9 (x:=0) de de) hs
    have h2:bl (qi*t j)<=s:=by rcases ht j with h|h<;>rw [h]<;>simp<;>first|exact q2|exact lbS (w9 (x:=0) de de) hs
    have:=b7K (vi*c) (qi*t j);omega
   refine ⟨b6s 0 ai (vi*c - qi*t j),fun l hl=>?_,hrhs,fun y' u' hu hy'=>?_⟩
   ·cases l with
    |zero=>exact lbS (w9 (x:=0) de de) om
    |succ l=>exact lbS (q4 l om) om
   ·rw [au0,hi];have hid:=hy' i him;rw [h0.o i him] at hid;have hsum:p6 (fun l=>((ai l:Int):Rat)*u' (l+1)) n=((qi:Int):Rat)*p6 (fun j=>D0.A i j*y' (D0.F j)) n:=by
     rw [← K4];refine p5 fun l hl=>?_
     rw [hu l hl,h0.f l hl,←q6 l hl];grind
    rw [hsum];have e0:((0:Int):Rat)=0:=rfl;have e1:((vi*c - qi*t j:Int):Rat)=((vi:Int):Rat)*((c:Int):Rat) - ((qi:Int):Rat)*((t j:Int):Rat):=by push_cast;rfl
    rw [e0,e1,←q5];have hqn:((qi:Int):Rat)≠0:=by intro h;exact q1 (by exact_mod_cast h)
    constructor
    ·intro h;have:((qi:Int):Rat)*(y' (n+i) - ((t j:Int):Rat))=0:=by rw [hid];grind
     have:=(aA8.1 this).resolve_left hqn;grind
    ·intro h;rw [← h,hid];grind
 obtain ⟨E,hE⟩:∃E:Nat->EqI,∀j,(hj:j<n)->E j=Classical.choose (eqs j hj):=⟨fun j=>if hj:j<n then Classical.choose (eqs j hj) else ⟨fun _=>0,0⟩,fun j hj=>by simp [hj]⟩;have hEs:∀j,j<n->(∀ l,l<=n->bl ((E j).co l)<=s+1)/\bl (E j).rhs<=s+1/\
  ∀(y' u':Nat->Rat),(∀ l,l<n->u' (l+1)=y' l)->Ids m n D0 y' ((c:Int):Rat)->(ad6 n (E j) u'↔y' (D.F j)=((t j:Int):Rat)):=fun j hj=>by
  rw [hE j hj];exact a8k (eqs j hj)
 let e0:EqI:=b6s q (fun l=>0 - b l) (r*c)
 have he0:∀(y' u':Nat->Rat),(∀ l,l<n->u' (l+1)=y' l)->(ad6 n e0 u'↔((q:Int):Rat)*u' 0=((r:Int):Rat)*((c:Int):Rat)+p6 (fun l=>((b l:Int):Rat)*y' l) n):=by
  intro y' u' hu;show ad6 n (b6s q (fun l=>0 - b l) (r*c)) u'↔_;rw [au0];have e1:p6 (fun l=>(((0 - b l:Int)):Rat)*u' (l+1)) n=0 - p6 (fun l=>((b l:Int):Rat)*y' l) n:=by
   have:p6 (fun l=>(((0 - b l:Int)):Rat)*u' (l+1)) n=p6 (fun l=>(-1:Rat)*(((b l:Int):Rat)*y' l)) n:=p5 fun l hl=>by
    rw [hu l hl];push_cast;grind
   rw [this,K4];grind
  rw [e1];have e2:((r*c:Int):Rat)=((r:Int):Rat)*((c:Int):Rat):=by push_cast;rfl
  rw [e2];constructor<;>intro h<;>grind
 let u:Nat->Rat:=fun l=>match l with|0=>φ|l+1=>y l
 have hu:∀l,l<n->u (l+1)=y l:=fun l _=>rfl
 have key:=a8w n (s+1) (e0::(List.range n).map E) u (fun e he=>?_) (fun e he=>?_) (fun u' hu'=>?_)
 ·exact key
 ·rcases lbA.1 he with rfl|he
  ·refine ⟨fun l hl=>?_,?_⟩
   ·cases l with
    |zero=>exact lbS hqs om
    |succ l=>
     show bl (0 - b l)<=s+1;have:=hb l om;have h1:=b7K 0 (b l);have h2:=w9 (x:=0) de de;omega
   ·show bl (r*c)<=s+1;rcases hc with h|h<;>rw [h]<;>simp
    ·exact lbS (w9 (x:=0) de de) om
    ·omega
  ·obtain ⟨j,hj,rfl⟩:=lbx.1 he;have:=hEs j (lbB.1 hj);exact ⟨this.1,this.2.1⟩
 ·rcases lbA.1 he with rfl|he
  ·exact (he0 y u hu).2 hφ
  ·obtain ⟨j,hj,rfl⟩:=lbx.1 he;have hj:=lbB.1 hj;exact ((hEs j hj).2.2 y u hu hy0).2 (hyF j hj)
 ·let y':Nat->Rat:=fun w=>if w<n then u' (w+1) else ((c:Int):Rat)*D0.V (w - n) - p6 (fun j=>D0.A (w - n) j*u' (j+1)) n
  have huy:∀l,l<n->u' (l+1)=y' l:=fun l hl=>by show _=if l<n then _ else _;rw [iB hl]
  have hy':Ids m n D0 y' ((c:Int):Rat):=by
   intro i hi;rw [h0.o i hi];show (if n+i<n then _ else _)=_;rw [iC om,show n+i - n=i by omega]
   congr 1
   refine p5 fun j hj=>?_
   rw [h0.f j hj,huy j hj]
  have hyD':=(hI y' _).1 hy';have hF':∀j,j<n->y' (D.F j)=((t j:Int):Rat):=fun j hj=>((hEs j hj).2.2 y' u' huy hy').1 (hu' _ (List.mem_cons_of_mem _ (lbx.2 ⟨j,lbB.2 hj,rfl⟩)))
  have same:∀w,w<n+m->y' w=y w:=by
   intro w hw;rcases hP.all w hw with ⟨i,hi,rfl⟩|⟨j,hj,rfl⟩
   ·rw [hyD' i hi,hyD i hi]
    congr 1
    exact p5 fun j hj=>by rw [hF' j hj,hyF j hj]
   ·rw [hF' j hj,hyF j hj]
  have h1:=(he0 y' u' huy).1 (hu' e0 (av8));have h2:p6 (fun l=>((b l:Int):Rat)*y' l) n=p6 (fun l=>((b l:Int):Rat)*y l) n:=p5 fun l hl=>by rw [same l om]
  rw [h2,←hφ] at h1;have hqn:((q:Int):Rat)≠0:=by intro h;exact hq (by exact_mod_cast h)
  show u' 0=φ;have h3:((q:Int):Rat)*(u' 0 - φ)=0:=zg;have:=(aA8.1 h3).resolve_left hqn;grind
def aO0 {m n s:Nat} {D0 D:Fd} (h0:a9P m n s D0) (hs:1<=s) (hP:a03 m n D) (hI:∀y c,Ids m n D0 y c↔Ids m n D y c) {c:Int} {t:Nat->Int} (hc:c=0\/c=1) (ht:∀j,t j=0\/t j=1) {w:Nat} (hw:w<n+m):
 rl (R6 m n D ((c:Int):Rat) (fun j=>((t j:Int):Rat)) w)<=2 ^ n*(s+2):=by
 by_cases hv:w<n
 ·refine a6Q h0 hs hP hI hc ht (q:=1) (r:=0) (b:=fun l=>if l=w then 1 else 0) de (lbS (w9 de de) hs) (lbS (w9 de de) hs) (fun l hl=>bz4 hs _) ?_;rw [a5E hv];have e0:((0:Int):Rat)=0:=rfl;have e1:((1:Int):Rat)=1:=rfl;rw [e0,e1];grind
 ·obtain ⟨i,rfl⟩:∃i,w=n+i:=⟨w - n,om⟩;have him:i<m:=om;have ⟨qi,vi,ai,q1,q2,q3,q4,q5,q6⟩:=h0.w i him;have hy0:=(hI _ _).2 (a0v hP ((c:Int):Rat) (fun j=>((t j:Int):Rat))) i him;rw [h0.o i him] at hy0;refine a6Q h0 (lbS hs (lbR _)) hP hI hc ht (q:=qi) (r:=vi) (b:=fun l=>0 - ai l) q1 q2 q3 (fun l hl=>?_) ?_
  ·rw [show (0:Int) - ai l=-(ai l) by omega,a7s];exact q4 l hl
  ·rw [hy0,←q5];have e1:p6 (fun l=>(((0 - ai l:Int)):Rat)*R6 m n D ((c:Int):Rat) (fun j=>((t j:Int):Rat)) l) n=0 - ((qi:Int):Rat)*p6 (fun j=>D0.A i j*R6 m n D ((c:Int):Rat) (fun j=>((t j:Int):Rat)) (D0.F j)) n:=by
    have:p6 (fun l=>(((0 - ai l:Int)):Rat)*R6 m n D ((c:Int):Rat) (fun j=>((t j:Int):Rat)) l) n=p6 (fun l=>(0 - ((qi:Int):Rat))*(D0.A i l*R6 m n D ((c:Int):Rat) (fun j=>((t j:Int):Rat)) (D0.F l))) n:=p5 fun l hl=>by
     rw [h0.f l hl];have:=q6 l hl;have e:((0 - ai l:Int):Rat)=0 - ((ai l:Int):Rat):=by push_cast;rfl
     rw [e,←this];grind
    rw [this,K4];grind
   rw [e1];grind
def bu1 {m n s:Nat} {D0 D:Fd} (h0:a9P m n s D0) (hs:1<=s) (hP:a03 m n D) (hI:∀y c,Ids m n D0 y c↔Ids m n D y c) {i:Nat} (hi:i<m):rl (D.V i)<=2 ^ n*(s+2):=by
 have:=aO0 h0 hs hP hI (c:=1) (t:=fun _=>0) (.inr rfl) (fun _=>.inl rfl) (hP.ob i hi);rw [a5U hP hi] at this;have e:p6 (fun j=>D.A i j*(((fun _=>(0:Int)) j:Int):Rat)) n=0:=D7 fun j hj=>by
  show D.A i j*((0:Int):Rat)=0;have e0:((0:Int):Rat)=0:=rfl;rw [e0];grind
 rw [e] at this;have e2:((1:Int):Rat)*D.V i - 0=D.V i:=by have e1:((1:Int):Rat)=1:=rfl;rw [e1];grind
 rw [e2] at this;exact this
def bm6 {m n s:Nat} {D0 D:Fd} (h0:a9P m n s D0) (hs:1<=s) (hP:a03 m n D) (hI:∀y c,Ids m n D0 y c↔Ids m n D y c) {i j:Nat} (hi:i<m) (hj:j<n):rl (D.A i j)<=2 ^ n*(s+2):=by
 have:=aO0 h0 hs hP hI (c:=0) (t:=fun l=>if l=j then 1 else 0) (.inl rfl) (fun l=>by by_cases h:l=j;exact .inr (iB h);exact .inl (iC h)) (hP.ob i hi);rw [a5U hP hi] at this;have e:p6 (fun l=>D.A i l*(((if l=j then (1:Int) else 0):Int):Rat)) n=D.A i j:=by
  rw [p5 (g:=fun l=>(((if l=j then (1:Int) else 0):Int):Rat)*D.A i l) fun l hl=>by grind,a5E (u:=fun l=>D.A i l) hj]
 rw [e] at this;have e2:((0:Int):Rat)*D.V i - D.A i j=-(D.A i j):=by have e1:((0:Int):Rat)=0:=rfl;rw [e1];grind
 rw [e2,a3i] at this;exact this
def bk7 {m n s:Nat} {D0 D:Fd} (h0:a9P m n s D0) (hs:1<=s) (hP:a03 m n D) (hI:∀y c,Ids m n D0 y c↔Ids m n D y c) {g0:Nat->Rat} {z:Rat} (hG:a1i n D g0 m z) {q:Int} {b:Nat->Int} (hq:q≠0) (hqs:bl q<=s) (hb:∀l,l<n->bl (b l)<=s) (hg:∀l,l<n->((q:Int):Rat)*g0 l=((b l:Int):Rat)) {j:Nat} (hj:j<n):rl (D.G j)<=2 ^ n*(s+2):=by
 have h1:=hG _ _ (a0v hP ((0:Int):Rat) (fun l=>(((if l=j then (1:Int) else 0):Int):Rat)));have e:p6 (fun l=>D.G l*R6 m n D ((0:Int):Rat) (fun l=>(((if l=j then (1:Int) else 0):Int):Rat)) (D.F l)) n=D.G j:=by
  rw [p5 (g:=fun l=>(((if l=j then (1:Int) else 0):Int):Rat)*D.G l) fun l hl=>by rw [a1E hP hl];grind,a5E (u:=fun l=>D.G l) hj]
 rw [e] at h1;refine a6Q h0 hs hP hI (c:=0) (t:=fun l=>if l=j then 1 else 0) (.inl rfl) (fun l=>by by_cases h:l=j;exact .inr (iB h);exact .inl (iC h)) (q:=q) (r:=0) (b:=b) hq hqs (lbS (w9 de de) hs) hb ?_;have e0:((0:Int):Rat)=0:=rfl;have h2:D.G j=p6 (fun l=>g0 l*R6 m n D ((0:Int):Rat) (fun l=>(((if l=j then (1:Int) else 0):Int):Rat)) l) n:=by
  rw [h1];simp only [e0];grind
 rw [h2,←K4];have h3:p6 (fun l=>((b l:Int):Rat)*R6 m n D ((0:Int):Rat) (fun l=>(((if l=j then (1:Int) else 0):Int):Rat)) l) n=p6 (fun l=>((q:Int):Rat)*(g0 l*R6 m n D ((0:Int):Rat) (fun l=>(((if l=j then (1:Int) else 0):Int):Rat)) l)) n:=p5 fun l hl=>by rw [← hg l hl];grind
 rw [h3];grind
def b6N (m n:Nat) (y:Nat->Rat):Prop:=∀w,w<n+m->0<=y w
def b7w {m n:Nat} {D:Fd} {g0:Nat->Rat} {z:Rat} (hP:a03 m n D) (hG:a1i n D g0 m z) (hv:∀i,i<m->0<=D.V i) (hg:∀j,j<n->D.G j<=0):
 (∃ y,Ids m n D y 1/\b6N m n y/\p6 (fun j=>g0 j*y j) n=z/\y=R6 m n D 1 (fun _=>0))/\∀y,Ids m n D y 1->b6N m n y->p6 (fun j=>g0 j*y j) n<=z:=by
 refine ⟨⟨_,a0v hP 1 (fun _=>0),fun w hw=>?_,?_,rfl⟩,fun y hy hp=>?_⟩
 ·rcases hP.all w hw with ⟨i,hi,rfl⟩|⟨j,hj,rfl⟩
  ·rw [a5U hP hi,D7 fun j hj=>by grind];have:=hv i hi;grind
  ·rw [a1E hP hj];grind
 ·rw [hG _ _ (a0v hP 1 (fun _=>0)),D7 fun j hj=>by rw [a1E hP hj];grind];grind
 ·rw [hG _ _ hy];have:p6 (fun j=>D.G j*y (D.F j)) n<=0:=al0 fun j hj=>by
   have h1:=hg j hj;have h2:=hp (D.F j) (hP.fb j hj);have:=lb1 (show 0<=-(D.G j) by grind) h2;grind
  grind
def bo3 {m n:Nat} {D:Fd} (hP:a03 m n D) {r:Nat} (hr:r<m) (hv:D.V r<0) (ha:∀j,j<n->0<=D.A r j):∀y,Ids m n D y 1->¬b6N m n y:=by
 intro y hy hp;have h1:=hy r hr;have h2:=hp (D.O r) (hP.ob r hr);have h3:0<=p6 (fun j=>D.A r j*y (D.F j)) n:=a4l fun j hj=>lb1 (ha j hj) (hp _ (hP.fb j hj))
 grind
def bo9 {m n:Nat} {D:Fd} {g0:Nat->Rat} {z:Rat} (hP:a03 m n D) (hG:a1i n D g0 m z) {s:Nat} (hs:s<n) (hg:0<D.G s) (ha:∀i,i<m->D.A i s<=0):
 ∃y,Ids m n D y 0/\b6N m n y/\0<p6 (fun j=>g0 j*y j) n/\y=R6 m n D 0 (fun j=>if j=s then 1 else 0):=by
 have hsum:∀f:Nat->Rat,p6 (fun j=>f j*(if j=s then (1:Rat) else 0)) n=f s:=fun f=>by
  rw [H7 hs,D7 fun j hj=>by by_cases h:j=s;simp only [h,if_true];simp only [iC h];grind];simp only [if_true];grind
 refine ⟨_,a0v hP 0 _,fun w hw=>?_,?_,rfl⟩
 ·rcases hP.all w hw with ⟨i,hi,rfl⟩|⟨j,hj,rfl⟩
  ·rw [a5U hP hi,hsum];have:=ha i hi;grind
  ·rw [a1E hP hj];split<;>grind
 ·rw [hG _ _ (a0v hP 0 _),p5 (g:=fun j=>D.G j*(if j=s then (1:Rat) else 0)) fun j hj=>by rw [a1E hP hj],hsum];grind
structure C7 where
 terms:List (Int × Rat)
 kind:Int
 value:Rat
structure m7 where
 n:Int
 rows:List C7
def n9 (l:List (Int × Rat)) (z:List Rat):Rat:=l.foldl (fun a t=>a+t.2*z.getD t.1.toNat 0) ((0:Int):Rat)
def L0 (l:List (Int × Rat)) (t:Int × Rat) (z:List Rat):n9 (l++[t]) z=n9 l z+t.2*z.getD t.1.toNat 0:=by unfold n9;rw [List.foldl_append];rfl
def m8:Int->Int->List (Int × Rat)->Bool
 |_,_,[]=>true
 |last,n,t::r=>decide (last<t.1) && decide (t.1<n) && decide (t.2≠0) && m8 t.1 n r
def A7 (n:Int) (w:C7):Bool:=m8 (-1) n w.terms && decide (0<=w.kind) && decide (w.kind<3)
def q9 (s:m7):Bool:=decide (0<=s.n) && decide (s.n<=1500) && decide (s.rows.length<=6000) && s.rows.all (A7 s.n)
def a0w (w:C7) (z:List Rat):Bool:=!((decide (n9 w.terms z<w.value) && decide (w.kind≠1)) || (decide (w.value<n9 w.terms z) && decide (w.kind≠0)))
def k7 (s:m7) (z:List Rat):Bool:=q9 s && decide ((z.length:Int)=s.n) && z.all (fun v=>decide (0<=v)) && s.rows.all (fun w=>a0w w z)
def s7 (e:Ev) (p:Int):Nat->List (Int × Rat)
 |0=>[]
 |k+1=>match e.moves[k]? with
  |none=>s7 e p k
  |some y=>if y.dst=p then s7 e p k++[((k:Int),((1:Int):Rat))] else if y.src=p then s7 e p k++[((k:Int),((-1:Int):Rat))] else s7 e p k
def C3 (e:Ev) (i:Nat) (x:C6):C7:=⟨s7 e x.src i++[((i:Int),((-1:Int):Rat))],if x.all then 2 else 0,((0:Int):Rat)⟩
def E7 (i:Nat) (kind:Int) (v:Rat):C7:=⟨[((i:Int),((1:Int):Rat))],kind,v⟩
def a0n (iv:Option (Rat × Rat)) (i:Nat):List C7:=match iv with
 |none=>[]
 |some (_,hi)=>[E7 i 1 hi]
def N5 (t:j9) (kind:Int) (i:Nat) (x:C6):List C7:=
 (if O2 t.ev x.src=0 then [] else [C3 t.ev i x])++a0n (R3 t.ev x) i++(z7 t.finds kind i).map (fun g:Int=>E7 i 0 (g:Rat))++List.replicate (F2 t.cleans kind i) (E7 i 2 ((0:Int):Rat))
def w6 (t:j9) (kind:Int):Nat->List C7
 |0=>[]
 |k+1=>match t.ev.moves[k]? with
  |none=>w6 t kind k
  |some x=>w6 t kind k++N5 t kind k x
def p7 (t:j9) (kind:Int):m7:=⟨t.ev.moves.length,w6 t kind t.ev.moves.length⟩
def ar6 {e:Ev} (h0:I4 e=0) (z:List Rat) (p:Nat):∀k,n9 (s7 e p k) z=a5A e z k p
 |0=>rfl
 |k+1=>by
  have ih:=ar6 h0 z p k;unfold s7;cases hx:e.moves[k]? with
  |none=>rw [b9G hx];exact ih
  |some y=>
   have hm:=T2 h0 (lbm hx);have hne:y.src≠y.dst:=by unfold P1 at hm;simp only [lbN,lbI] at hm;exact hm.1.1.1.1.1.2
   rw [b62 hx];simp only;by_cases c1:y.dst=(p:Int)
   ·rw [iB c1,iC om,iB c1,L0,ih];simp only [lbY];have:((1:Int):Rat)=1:=rfl;rw [this];grind
   ·rw [iC c1];by_cases c2:y.src=(p:Int)
    ·rw [iB c2,iB c2,L0,ih];simp only [lbY];have:((-1:Int):Rat)=-1:=rfl;rw [this];grind
    ·rw [iC c2,iC c2,iC c1];exact ih
def a4H {w:C7} {z:List Rat}:a0w w z=true↔(n9 w.terms z<w.value->w.kind=1)/\(w.value<n9 w.terms z->w.kind=0):=by
 unfold a0w;simp only [a6X,a2t,lbP,lbK,Classical.not_not];constructor
 ·rintro ⟨h1,h2⟩;exact ⟨fun h=>h1.resolve_left (fun h'=>h' h),fun h=>h2.resolve_left (fun h'=>h' h)⟩
 ·rintro ⟨h1,h2⟩;refine ⟨?_,?_⟩
  ·by_cases h:n9 w.terms z<w.value
   ·exact .inr (h1 h)
   ·exact .inl h
  ·by_cases h:w.value<n9 w.terms z
   ·exact .inr (h2 h)
   ·exact .inl h
def aX7 (i:Nat) (kind:Int) (v:Rat) (z:List Rat):n9 (E7 i kind v).terms z=z.getD i 0:=by
 show ((0:Int):Rat)+((1:Int):Rat)*z.getD ((i:Int)).toNat 0=_;rw [lbY];have h0:((0:Int):Rat)=0:=rfl;have h1:((1:Int):Rat)=1:=rfl;rw [h0,h1];grind
def b7d {i:Nat} {v:Rat} {z:List Rat}:a0w (E7 i 1 v) z=true↔z.getD i 0<=v:=by
 rw [a4H,aX7];show (_->(1:Int)=1)/\(v<z.getD i 0->(1:Int)=0)↔_;constructor
 ·rintro ⟨_,h⟩;exact lb4.1 fun h'=>absurd (h h') de
 ·intro h;exact ⟨fun _=>rfl,fun h'=>absurd h' (lb4.2 h)⟩
def aL7 {i:Nat} {v:Rat} {z:List Rat}:a0w (E7 i 0 v) z=true↔v<=z.getD i 0:=by
 rw [a4H,aX7];show (z.getD i 0<v->(0:Int)=1)/\(_->(0:Int)=0)↔_;constructor
 ·rintro ⟨h,_⟩;exact lb4.1 fun h'=>absurd (h h') de
 ·intro h;exact ⟨fun h'=>absurd h' (lb4.2 h),fun _=>rfl⟩
def a4g {i:Nat} {v:Rat} {z:List Rat}:a0w (E7 i 2 v) z=true↔z.getD i 0=v:=by
 rw [a4H,aX7];show (z.getD i 0<v->(2:Int)=1)/\(v<z.getD i 0->(2:Int)=0)↔_;constructor
 ·rintro ⟨h,h2⟩;have q1:¬z.getD i 0<v:=fun h'=>absurd (h h') de
  have q2:¬v<z.getD i 0:=fun h'=>absurd (h2 h') de
  grind
 ·intro h;exact ⟨fun h'=>by grind,fun h'=>by grind⟩
theorem stock_holds {e:Ev} (h0:I4 e=0) {i:Nat} {x:C6} (hx:e.moves[i]? =some x) {z:List Rat}:a0w (C3 e i x) z=true↔z.getD i 0<=a5A e z i x.src.toNat/\(x.all=true->z.getD i 0=a5A e z i x.src.toNat):=by
 have hm:=T2 h0 (lbm hx);have ms:=a1H hm;have hv:n9 (C3 e i x).terms z=a5A e z i x.src.toNat - z.getD i 0:=by
  unfold C3;simp only;rw [L0,show s7 e x.src i=s7 e ((x.src.toNat:Nat):Int) i by rw [show ((x.src.toNat:Nat):Int)=x.src by omega],ar6 h0];simp only [lbY];have:((-1:Int):Rat)=-1:=rfl;rw [this];grind
 have hz:(C3 e i x).value=0:=rfl;have hk:(C3 e i x).kind=if x.all then 2 else 0:=rfl
 rw [a4H,hv,hz,hk];cases hal:x.all with
 |true=>
  simp only [if_true];constructor
  ·rintro ⟨h,h2⟩;have q1:¬a5A e z i x.src.toNat - z.getD i 0<0:=fun h'=>absurd (h h') de
   have q2:¬0<a5A e z i x.src.toNat - z.getD i 0:=fun h'=>absurd (h2 h') de
   exact ⟨by grind,fun _=>by grind⟩
  ·rintro ⟨h,h2⟩;have h2:=h2 trivial;exact ⟨fun h'=>by grind,fun h'=>by grind⟩
 |false=>
  simp only [a7S,if_false];constructor
  ·rintro ⟨h,h2⟩;have q1:¬a5A e z i x.src.toNat - z.getD i 0<0:=fun h'=>absurd (h h') de
   exact ⟨by grind,fun h=>(by cases h)⟩
  ·rintro ⟨h,_⟩;exact ⟨fun h'=>by grind,fun _=>trivial⟩
theorem move_holds {t:j9} {kind:Int} (h0:I4 t.ev=0) {i:Nat} {x:C6} (hx:t.ev.moves[i]? =some x) {z:List Rat} (hz:0<=z.getD i 0):
 (N5 t kind i x).all (fun w=>a0w w z)=true↔bO4 t.ev x (z.getD i 0) (a5A t.ev z i x.src.toNat)/\bf1 t kind i x (z.getD i 0):=by
 have hmo:=T2 h0 (lbm hx);unfold N5;simp only [a0z,lbN,List.all_map];have e1:(if O2 t.ev x.src=0 then ([]:List C7) else [C3 t.ev i x]).all (fun w=>a0w w z)=true↔(O2 t.ev x.src≠0->z.getD i 0<=a5A t.ev z i x.src.toNat/\(x.all=true->z.getD i 0=a5A t.ev z i x.src.toNat)):=by
  by_cases hb:O2 t.ev x.src=0
  ·rw [iB hb];exact ⟨fun _ h=>absurd hb h,fun _=>rfl⟩
  ·rw [iC hb];simp only [aQ7,List.all_nil,Bool.and_true];rw [stock_holds h0 hx];exact ⟨fun h _=>h,fun h=>h hb⟩
 have e2:(a0n (R3 t.ev x) i).all (fun w=>a0w w z)=true↔bH6 (R3 t.ev x) (z.getD i 0)=true:=by
  cases hiv:R3 t.ev x with
  |none=>exact ⟨fun _=>rfl,fun _=>rfl⟩
  |some p=>
   have ⟨lo,hi⟩:=p;simp only [a0n,bH6,aQ7,List.all_nil,Bool.and_true,lbI];exact b7d
 have e3:(z7 t.finds kind i).all ((fun w=>a0w w z) ∘ fun g:Int=>E7 i 0 (g:Rat))=true↔∀g ∈ z7 t.finds kind i,(g:Rat)<=z.getD i 0:=by
  rw [lbv];exact ⟨fun h g hg=>aL7.1 (h g hg),fun h g hg=>aL7.2 (h g hg)⟩
 have e4:(List.replicate (F2 t.cleans kind i) (E7 i 2 ((0:Int):Rat))).all (fun w=>a0w w z)=true↔(0<F2 t.cleans kind i->z.getD i 0=0):=by
  rw [lbv];constructor
  ·intro h hc;exact a4g.1 (h _ (a95.2 ⟨om,rfl⟩))
  ·intro h w hw;obtain ⟨h1,rfl⟩:=a95.1 hw;exact a4g.2 (h om)
 rw [e1,e2,e3,e4];constructor
 ·rintro ⟨⟨⟨q1,q2⟩,q3⟩,q4⟩;exact ⟨⟨hz,fun h=>(q1 h).1,fun h=>(q1 (b32 hmo h)).2 h⟩,⟨q2,q3,q4⟩⟩
 ·rintro ⟨p1,p2⟩;exact ⟨⟨⟨fun h=>⟨p1.most h,p1.all⟩,p2.cap⟩,p2.fin⟩,p2.cln⟩
def a0j {t:j9} {kind:Int} {q:C7->Bool}:∀n,n<=t.ev.moves.length->((w6 t kind n).all q=true↔∀i x,i<n->t.ev.moves[i]? =some x->(N5 t kind i x).all q=true)
 |0,_=>⟨fun _ i x h=>om,fun _=>rfl⟩
 |n+1,h=>by
  have ⟨y,hy⟩:=@iA _ t.ev.moves n om;unfold w6;rw [hy];simp only [a0z,lbN];rw [a0j n om];constructor
  ·rintro ⟨h1,h2⟩ i x hi hx;rcases I0 i n with h3|h3
   ·exact h1 i x h3 hx
   ·obtain rfl:i=n:=by omega
    rw [hy] at hx;injection hx with hx;subst hx;exact h2
  ·intro h1;exact ⟨fun i x hi hx=>h1 i x om hx,h1 n y om hy⟩
def a5s {last n i:Int} {c:Rat} (h1:last<i) (h2:i<n) (h3:c≠0):m8 last n [(i,c)]=true:=by
 unfold m8;simp [h1,h2,h3,m8]
def a6L {n:Int} {c:Rat} {i:Int} (h2:i<n) (h3:c≠0):∀{l:List (Int × Rat)} {last:Int},m8 last n l=true->last<i->(∀ t ∈ l,t.1<i)->m8 last n (l++[(i,c)])=true
 |[],last,_,h,_=>a5s h h2 h3
 |t::r,last,h,h1,ht=>by
  unfold m8 at h;simp only [lbN,lbI] at h;show m8 last n (t::(r++[(i,c)]))=true;unfold m8;simp only [lbN,lbI];exact ⟨h.1,a6L h2 h3 h.2 (ht t zq) fun u hu=>ht u (by simp [hu])⟩
def a5P:((1:Int):Rat)≠0:=by decide
def ah8:((-1:Int):Rat)≠0:=by decide
def a80 {e:Ev} {p:Int} {n:Int}:∀k:Nat,(k:Int)<=n->m8 (-1) n (s7 e p k)=true/\∀t ∈ s7 e p k,t.1<(k:Int)
 |0,_=>⟨rfl,fun t ht=>by cases ht⟩
 |k+1,h=>by
  have ⟨h1,h2⟩:=a80 (e:=e) (p:=p) (n:=n) k om;have h3:∀c:Rat,c≠0->m8 (-1) n (s7 e p k++[((k:Int),c)])=true/\∀t ∈ s7 e p k++[((k:Int),c)],t.1<((k+1:Nat):Int):=fun c hc=>
   ⟨a6L om hc h1 om h2,fun t ht=>by
     rcases lbz.1 ht with ht|ht
     ·have:=h2 t ht;omega
     ·simp at ht;subst ht;simp;omega⟩
  unfold s7;cases hx:e.moves[k]? with
  |none=>exact ⟨h1,fun t ht=>by have:=h2 t ht;omega⟩
  |some y=>
   simp only;split
   ·exact h3 _ a5P
   ·split
    ·exact h3 _ ah8
    ·exact ⟨h1,fun t ht=>by have:=h2 t ht;omega⟩
def b2x {t:j9} {kind:Int} {i:Nat} {x:C6} {n:Int} (hi:(i:Int)<n):(N5 t kind i x).all (A7 n)=true:=by
 have ho:∀(k:Int) (v:Rat),0<=k->k<3->A7 n (E7 i k v)=true:=fun k v h1 h2=>by
  unfold A7 E7;simp only [lbN,lbI];exact ⟨⟨a5s om hi a5P,h1⟩,h2⟩
 unfold N5;simp only [a0z,lbN,lbv];refine ⟨⟨⟨fun w hw=>?_,fun w hw=>?_⟩,fun w hw=>?_⟩,fun w hw=>?_⟩
 ·by_cases hb:O2 t.ev x.src=0
  ·rw [iB hb] at hw;cases hw
  ·rw [iC hb] at hw;simp at hw;subst hw;have ⟨h1,h2⟩:=a80 (e:=t.ev) (p:=x.src) (n:=n) i om;unfold A7 C3;simp only [lbN,lbI];refine ⟨⟨a6L hi ah8 h1 om h2,?_⟩,?_⟩<;>split<;>decide
 ·cases hiv:R3 t.ev x with
  |none=>rw [hiv] at hw;cases hw
  |some p=>
   have ⟨lo,hi⟩:=p;rw [hiv] at hw;simp [a0n] at hw;subst hw;exact ho 1 hi de de
 ·obtain ⟨g,_,rfl⟩:=lbx.1 hw;exact ho 0 _ de de
 ·obtain ⟨_,rfl⟩:=a95.1 hw;exact ho 2 _ de de
def aZ0 {t:j9} {kind:Int} {i:Nat} {x:C6}:(N5 t kind i x).length<=2+t.finds.length+t.cleans.length:=by
 unfold N5;have h1:(a0n (R3 t.ev x) i).length<=1:=by unfold a0n;split<;>simp
 have h2:(z7 t.finds kind i).length<=t.finds.length:=by unfold z7;rw [lbr];exact lbt _ _
 have h3:F2 t.cleans kind i<=t.cleans.length:=lbt _ _;have h4:(if O2 t.ev x.src=0 then ([]:List C7) else [C3 t.ev i x]).length<=1:=by split<;>simp
 simp only [lbq,lbr,aR8];omega
def O5 {t:j9} {kind:Int}:∀n,(w6 t kind n).length<=n*(2+t.finds.length+t.cleans.length)
 |0=>by simp [w6]
 |n+1=>by
  have ih:=O5 (t:=t) (kind:=kind) n;unfold w6;rw [lbV];cases hx:t.ev.moves[n]? with
  |none=>simp only;omega
  |some x=>
   have:=aZ0 (t:=t) (kind:=kind) (i:=n) (x:=x);simp only [lbq];omega
def a1M {t:j9} {kind:Int} (hm:t.ev.moves.length<=14) (hf:t.finds.length<=20) (hc:t.cleans.length<=50):q9 (p7 t kind)=true:=by
 unfold q9 p7;have h1:=O5 (t:=t) (kind:=kind) t.ev.moves.length;have h2:t.ev.moves.length*(2+t.finds.length+t.cleans.length)<=14*72:=lbT hm om;simp only [lbN,lbI];refine ⟨⟨⟨om,om⟩,om⟩,?_⟩;rw [a0j _ (lbR _)];intro i x hi hx;exact b2x om
theorem sys_holds {t:j9} {kind:Int} {z:List Rat} (ht:t5 t=0) (k0:0<=kind) (k1:kind<8) (hm:t.ev.moves.length<=14):k7 (p7 t kind) z=true↔bP2 t kind z:=by
 have ⟨q1,q2,q3,q4,q5⟩:=H6 ht;unfold k7;rw [a1M hm q2 q3];simp only [P5,lbN,lbI];constructor
 ·rintro ⟨⟨h1,h2⟩,h3⟩;have hl:z.length=t.ev.moves.length:=by have:(z.length:Int)=t.ev.moves.length:=h1;omega
  refine ⟨ht,k0,k1,hl,fun i x hx=>?_⟩;have hi:i<t.ev.moves.length:=(lbe.1 hx).1;have hz:0<=z.getD i 0:=lbL (lbv.1 h2 _ (lbm (getD_some om)));exact (move_holds q1 hx hz).1 ((a0j _ (lbR _)).1 h3 i x hi hx)
 ·intro h;refine ⟨⟨?_,?_⟩,?_⟩
  ·show (z.length:Int)=t.ev.moves.length;rw [h.len]
  ·rw [lbv];intro v hv;obtain ⟨i,hi,rfl⟩:=a0D hv;obtain ⟨x,hx⟩:∃x,t.ev.moves[i]? =some x:=⟨_,lbf (by rw [← h.len];exact hi)⟩;have:=(h.step i x hx).1.pos;rw [lbl,lbf hi] at this;exact lbH this
  ·show (w6 t kind t.ev.moves.length).all _=true;rw [a0j _ (lbR _)];intro i x hi hx;have ⟨a,b⟩:=h.step i x hx;exact (move_holds q1 hx a.pos).2 ⟨a,b⟩
def T4 (l:List (Int × Rat)):Nat->Nat->Rat
 |0=>fun _=>0
 |k+1=>match l[k]? with
  |none=>T4 l k
  |some t=>fun j=>if j=t.1.toNat then t.2 else T4 l k j
def L9 (l:List (Int × Rat)):Nat->Rat:=T4 l l.length
def Q9 {l:List (Int × Rat)} {k:Nat} {t:Int × Rat} (h:l[k]? =some t):T4 l (k+1)=fun j=>if j=t.1.toNat then t.2 else T4 l k j:=by rw [T4,h]
def ae8 {l:List (Int × Rat)} {v:Nat}:∀k,(∀ i t,i<k->l[i]? =some t->t.1.toNat≠v)->T4 l k v=0
 |0,_=>rfl
 |k+1,h=>by
  have ih:=ae8 (l:=l) (v:=v) k fun i t hi ht=>h i t om ht
  cases hk:l[k]? with
  |none=>rw [T4,hk];exact ih
  |some t=>
   rw [Q9 hk];simp only;rw [iC (fun e=>h k t om hk e.symm),ih]
def L1:∀{last n:Int} {l:List (Int × Rat)},m8 last n l=true->∀t ∈ l,last<t.1/\t.1<n/\t.2≠0
 |_,_,[],_,t,ht=>by cases ht
 |last,n,a::r,h,t,ht=>by
  unfold m8 at h;simp only [lbN,lbI] at h;rcases lbA.1 ht with rfl|ht
  ·exact ⟨h.1.1.1,h.1.1.2,h.1.2⟩
  ·have:=L1 h.2 t ht;exact ⟨om,this.2⟩
def a8D:∀{last n:Int} {l:List (Int × Rat)},m8 last n l=true->∀(i j:Nat) (t u:Int × Rat),i<j->l[i]? =some t->l[j]? =some u->t.1<u.1
 |_,_,[],_,i,j,t,u,_,ht,_=>by simp at ht
 |last,n,a::r,h,i,j,t,u,hij,ht,hu=>by
  unfold m8 at h;simp only [lbN,lbI] at h;cases j with
  |zero=>omega
  |succ j=>
   simp only [List.getElem?_cons_succ] at hu;cases i with
   |zero=>
    simp only [List.getElem?_cons_zero] at ht;injection ht with ht;subst ht
    exact (L1 h.2 u (lbm hu)).1
   |succ i=>
    simp only [List.getElem?_cons_succ] at ht;exact a8D h.2 i j t u om ht hu
def N0 {α:Type} {l:List α} {k:Nat} {x:α} (h:l[k]? =some x):l.take (k+1)=l.take k++[x]:=by rw [lbG,h];rfl
def b1E {n:Nat} {l:List (Int × Rat)} (h:m8 (-1) (n:Int) l=true) (z:List Rat):∀k,k<=l.length->n9 (l.take k) z=p6 (fun j=>T4 l k j*z.getD j 0) n
 |0,_=>by
  rw [a85,D7 fun j hj=>by show (0:Rat)*_=0;grind]
  rfl
 |k+1,hk=>by
  have ih:=b1E h z k om;have ⟨t,ht⟩:=@iA _ l k om;have hm:=L1 h t (lbm ht);have hv:t.1.toNat<n:=om;have h0:T4 l k t.1.toNat=0:=ae8 k fun i u hi hu=>by
   have:=a8D h i k u t hi hu ht;have h2:=L1 h u (lbm hu);omega
  rw [N0 ht,L0,ih,Q9 ht];rw [H7 (f:=fun j=>(if j=t.1.toNat then t.2 else T4 l k j)*z.getD j 0) hv,H7 (f:=fun j=>T4 l k j*z.getD j 0) hv];simp only [if_true,h0];rw [p5 (f:=fun j=>if j=t.1.toNat then 0 else (if j=t.1.toNat then t.2 else T4 l k j)*z.getD j 0) (g:=fun j=>if j=t.1.toNat then 0 else T4 l k j*z.getD j 0) fun j hj=>by
   by_cases hj:j=t.1.toNat
   ·rw [iB hj,iB hj]
   ·rw [iC hj,iC hj,iC hj]]
  grind
def a06 {n:Nat} {l:List (Int × Rat)} (h:m8 (-1) (n:Int) l=true) (z:List Rat):n9 l z=p6 (fun j=>L9 l j*z.getD j 0) n:=by
 have:=b1E h z l.length (lbR _);rw [X9] at this;exact this
def J8 (s:m7):Nat->LB
 |0=>[]
 |k+1=>match s.rows[k]? with
  |none=>J8 s k
  |some w=>J8 s k++(if w.kind≠0 then [(k,false)] else [])++(if w.kind≠1 then [(k,true)] else [])
def j0 (s:m7):LB:=J8 s s.rows.length
def Z4 (b:Bool) (x:Rat):Rat:=if b then -x else x
def a3Q (s:m7) (f:Nat × Bool):Rat:=match s.rows[f.1]? with
 |none=>0
 |some w=>Z4 f.2 w.value
def a3D (s:m7) (f:Nat × Bool) (j:Nat):Rat:=match s.rows[f.1]? with
 |none=>0
 |some w=>Z4 f.2 (L9 w.terms j)
def k9 (s:m7) (g:List (Int × Rat)):Fd where
 V:=fun i=>a3Q s ((j0 s).getD i (0,false))
 A:=fun i j=>a3D s ((j0 s).getD i (0,false)) j
 G:=fun j=>-(L9 g j)
 O:=fun i=>s.n.toNat+i
 F:=fun j=>j
def aK9 {s:m7} {f:Nat × Bool}:∀k,f ∈ J8 s k↔f.1<k/\∃w,s.rows[f.1]? =some w/\(f.2=false->w.kind≠0)/\(f.2=true->w.kind≠1)
 |0=>by simp [J8]
 |k+1=>by
  have ih:=aK9 (s:=s) (f:=f) k;unfold J8;cases hw:s.rows[k]? with
  |none=>
   simp only;rw [ih];constructor
   ·rintro ⟨h1,h2⟩;exact ⟨om,h2⟩
   ·rintro ⟨h1,w,h2,h3⟩;refine ⟨?_,w,h2,h3⟩;by_cases he:f.1=k
    ·rw [he,hw] at h2;cases h2
    ·omega
  |some w=>
   simp only;rw [lbz,lbz,ih];have ⟨a,b⟩:=f;simp only;constructor
   ·rintro ((⟨h1,h2⟩|h)|h)
    ·exact ⟨om,h2⟩
    ·split at h
     ·rename_i hk;simp at h;obtain ⟨rfl,rfl⟩:=h;exact ⟨om,w,hw,fun _=>hk,fun h=>by cases h⟩
     ·simp at h
    ·split at h
     ·rename_i hk;simp at h;obtain ⟨rfl,rfl⟩:=h;exact ⟨om,w,hw,fun h=>(by cases h),fun _=>hk⟩
     ·simp at h
   ·rintro ⟨h1,w',h2,h3,h4⟩;by_cases he:a=k
    ·subst he;rw [hw] at h2;injection h2 with h2;subst h2
     cases b with
     |false=>rw [iB (h3 rfl)];simp
     |true=>rw [iB (h4 rfl)];simp
    ·exact .inl (.inl ⟨om,w',h2,h3,h4⟩)
def Y8 {s:m7} {f:Nat × Bool}:f ∈ j0 s↔∃w,s.rows[f.1]? =some w/\(f.2=false->w.kind≠0)/\(f.2=true->w.kind≠1):=by
 unfold j0;rw [aK9];constructor
 ·rintro ⟨_,h⟩;exact h
 ·rintro ⟨w,h⟩;exact ⟨(lbe.1 h.1).1,w,h⟩
def b2W {s:m7} {g:List (Int × Rat)}:a03 (j0 s).length s.n.toNat (k9 s g) where
 oi:=fun i i' _ _ h=>by have:s.n.toNat+i=s.n.toNat+i':=h;omega
 fi:=fun j j' _ _ h=>h
 of:=fun i j _ hj h=>by have:s.n.toNat+i=j:=h;omega
 all:=fun w hw=>by
  by_cases h:w<s.n.toNat
  ·exact .inr ⟨w,h,rfl⟩
  ·exact .inl ⟨w - s.n.toNat,om,by show s.n.toNat+(w - s.n.toNat)=w;omega⟩
 ob:=fun i hi=>by show s.n.toNat+i<_;omega
 fb:=fun j hj=>by show j<_;omega
def b2b {s:m7} {g:List (Int × Rat)}:a1i s.n.toNat (k9 s g) (fun j=>-(L9 g j)) (j0 s).length 0:=by
 intro y c _;have:c*(0:Rat)=0:=zg;rw [this];have e:p6 (fun j=>(k9 s g).G j*y ((k9 s g).F j)) s.n.toNat=p6 (fun j=>-(L9 g j)*y j) s.n.toNat:=rfl;rw [e];grind
def a8d (s:m7) (g:List (Int × Rat)) (z:List Rat) (w:Nat):Rat:=if w<s.n.toNat then z.getD w 0 else (k9 s g).V (w - s.n.toNat) - p6 (fun j=>(k9 s g).A (w - s.n.toNat) j*z.getD j 0) s.n.toNat
def b5H {s:m7} {g:List (Int × Rat)} (z:List Rat):Ids (j0 s).length s.n.toNat (k9 s g) (a8d s g z) 1:=by
 intro i hi;show a8d s g z (s.n.toNat+i)=_;unfold a8d;rw [iC om,show s.n.toNat+i - s.n.toNat=i by omega];have:(1:Rat)*(k9 s g).V i=(k9 s g).V i:=zg;rw [this]
 congr 1
 refine p5 fun j hj=>?_
 show _=(k9 s g).A i j*(if j<s.n.toNat then z.getD j 0 else _);rw [iB hj]
def aN0 {s:m7} {g:List (Int × Rat)} (hr:q9 s=true) {z:List Rat} {i:Nat} {f:Nat × Bool} {w:C7} (hf:(j0 s)[i]? =some f) (hw:s.rows[f.1]? =some w):a8d s g z (s.n.toNat+i)=Z4 f.2 (w.value - n9 w.terms z):=by
 unfold a8d;rw [iC om,show s.n.toNat+i - s.n.toNat=i by omega];have hfd:(j0 s).getD i (0,false)=f:=by rw [lbl,hf];rfl
 show a3Q s ((j0 s).getD i (0,false)) - p6 (fun j=>a3D s ((j0 s).getD i (0,false)) j*z.getD j 0) s.n.toNat=_;rw [hfd];have hrow:A7 s.n w=true:=by
  unfold q9 at hr;simp only [lbN,lbI,lbv] at hr;exact hr.2 w (lbm hw)
 have hn:(s.n.toNat:Int)=s.n:=by
  unfold q9 at hr;simp only [lbN,lbI] at hr;omega
 unfold A7 at hrow;simp only [lbN,lbI] at hrow;have hrt:=hrow.1.1;rw [← hn] at hrt;have e1:a3Q s f=Z4 f.2 w.value:=by unfold a3Q;rw [hw]
 have e2:∀j,a3D s f j=Z4 f.2 (L9 w.terms j):=fun j=>by unfold a3D;rw [hw]
 rw [e1,a06 hrt z];cases hb:f.2 with
 |false=>
  rw [p5 (g:=fun j=>L9 w.terms j*z.getD j 0) fun j hj=>by rw [e2 j,hb];rfl]
  rfl
 |true=>
  rw [p5 (g:=fun j=>(-1:Rat)*(L9 w.terms j*z.getD j 0)) fun j hj=>by rw [e2 j,hb];show -(L9 w.terms j)*_=_;grind,K4];show -w.value - _=-(w.value - _);grind
theorem first_holds {s:m7} {g:List (Int × Rat)} (hr:q9 s=true) {z:List Rat} (hl:(z.length:Int)=s.n):k7 s z=true↔b6N (j0 s).length s.n.toNat (a8d s g z):=by
 have hn:z.length=s.n.toNat:=om;unfold k7;rw [hr,lbH hl];simp only [P5,lbN,lbv,lbI];constructor
 ·rintro ⟨h1,h2⟩ w hw;by_cases hv:w<s.n.toNat
  ·unfold a8d;rw [iB hv,lbl,lbf om];exact h1 _ (lbE _)
  ·obtain ⟨i,rfl⟩:∃i,w=s.n.toNat+i:=⟨w - s.n.toNat,om⟩;have hi:i<(j0 s).length:=om;have ⟨f,hf⟩:=iA hi;have ⟨x,hx,hk1,hk2⟩:=Y8.1 (lbm hf);rw [aN0 hr hf hx];have hb:=h2 x (lbm hx);unfold a0w at hb;simp only [a6X,a2t,lbP,lbK] at hb;cases hfb:f.2 with
   |false=>
    have:=hk1 hfb;show 0<=x.value - n9 x.terms z;rcases hb.2 with h|h
    ·grind
    ·exact absurd this h
   |true=>
    have:=hk2 hfb;show 0<=-(x.value - n9 x.terms z);rcases hb.1 with h|h
    ·grind
    ·exact absurd this h
 ·intro hp;refine ⟨fun v hv=>?_,fun x hx=>?_⟩
  ·obtain ⟨j,hj,rfl⟩:=a0D hv;have:=hp j om;unfold a8d at this;rw [iB om,lbl,lbf hj] at this;exact this
  ·have ⟨k,hk,hkx⟩:=a0D hx;have hxk:s.rows[k]? =some x:=by rw [lbf hk,hkx]
   have side:∀b:Bool,(b=false->x.kind≠0)->(b=true->x.kind≠1)->0<=Z4 b (x.value - n9 x.terms z):=by
    intro b h1 h2;have hm:((k,b):Nat × Bool) ∈ j0 s:=Y8.2 ⟨x,hxk,h1,h2⟩;have ⟨i,hi,hif⟩:=a0D hm;have hf:(j0 s)[i]? =some (k,b):=by rw [lbf hi,hif]
    have:=hp (s.n.toNat+i) om;rw [aN0 hr hf hxk] at this;exact this
   unfold a0w;simp only [a6X,a2t,lbP,lbK];constructor
   ·by_cases h:x.kind≠1
    ·left
     have:=side true (fun h=>by cases h) (fun _=>h);have h2:0<=-(x.value - n9 x.terms z):=this;grind
    ·right;exact h
   ·by_cases h:x.kind≠0
    ·left
     have:=side false (fun _=>h) (fun h=>by cases h);have h2:0<=x.value - n9 x.terms z:=this;grind
    ·right;exact h
def al7 (x:Rat):((x.den:Int):Rat)*x=((x.num:Int):Rat):=by
 have hq:((x.den:Int):Rat)≠0:=by
  intro h;have:(x.den:Int)=0:=by exact_mod_cast h
  have:=x.den_pos;omega
 have h1:x=((x.num:Int):Rat) / ((x.den:Int):Rat):=by rw [← a84,Rat.num_divInt_den]
 have h2:((x.den:Int):Rat)*(((x.num:Int):Rat) / ((x.den:Int):Rat))=((x.num:Int):Rat):=by
  rw [af3,ar3,aa8,Rat.inv_mul_cancel _ hq,Rat.mul_one]
 rw [← h1] at h2;exact h2
def b61 (B:Nat) (w:C7):Prop:=(∀ t ∈ w.terms,∃c:Int,t.2=((c:Int):Rat)/\bl c<=1)/\rl w.value<=B
def a39 {l:List (Int × Rat)} (h:∀t ∈ l,∃c:Int,t.2=((c:Int):Rat)/\bl c<=1):∀(k j:Nat),∃c:Int,T4 l k j=((c:Int):Rat)/\bl c<=1
 |0,j=>⟨0,rfl,w9 de de⟩
 |k+1,j=>by
  cases hk:l[k]? with
  |none=>rw [T4,hk];exact a39 h k j
  |some t=>
   rw [Q9 hk];simp only;split
   ·exact h t (lbm hk)
   ·exact a39 h k j
def bx6 {b:Bool} {x:Rat} {c:Int} (h:x=((c:Int):Rat)):∃c':Int,Z4 b x=((c':Int):Rat)/\bl c'=bl c:=by
 cases b with
 |false=>exact ⟨c,h,rfl⟩
 |true=>exact ⟨-c,by show -x=_;rw [h];push_cast;rfl,a7s c⟩
def b6t {s:m7} {g:List (Int × Rat)} {B:Nat} (hI:∀w ∈ s.rows,b61 B w):a9P (j0 s).length s.n.toNat (B+2) (k9 s g) where
 o:=fun i _=>rfl
 f:=fun j _=>rfl
 w:=fun i hi=>by
  have ⟨f,hf⟩:=iA hi;have ⟨x,hx,_⟩:=Y8.1 (lbm hf);have ⟨h1,h2⟩:=hI x (lbm hx);have hfd:(j0 s).getD i (0,false)=f:=by rw [lbl,hf];rfl
  have eV:(k9 s g).V i=Z4 f.2 x.value:=by show a3Q s ((j0 s).getD i (0,false))=_;rw [hfd];unfold a3Q;rw [hx]
  have eA:∀j,(k9 s g).A i j=Z4 f.2 (L9 x.terms j):=fun j=>by show a3D s ((j0 s).getD i (0,false)) j=_;rw [hfd];unfold a3D;rw [hx]
  have hc:∀j,∃c:Int,(k9 s g).A i j=((c:Int):Rat)/\bl c<=1:=fun j=>by
   have ⟨c,hc,hb⟩:=a39 h1 x.terms.length j;have ⟨c',hc',hb'⟩:=bx6 (b:=f.2) (x:=L9 x.terms j) hc;exact ⟨c',by rw [eA,hc'],om⟩
  refine ⟨(x.value.den:Int),if f.2 then -x.value.num else x.value.num,fun j=>(x.value.den:Int)*Classical.choose (hc j),?_,?_,?_,fun j hj=>?_,?_,fun j hj=>?_⟩
  ·have:=x.value.den_pos;omega
  ·have:=K3 x.value;omega
  ·have:=K9 x.value;split
   ·rw [a7s];omega
   ·omega
  ·have hb:=(a8k (hc j)).2;have h3:=I5 (x.value.den:Int) (Classical.choose (hc j));have h4:=K3 x.value;have e5:bl ((x.value.den:Int)*Classical.choose (hc j))<=B+2:=om;exact e5
  ·rw [eV];cases hb:f.2 with
   |false=>exact al7 x.value
   |true=>
    show _*(-x.value)=((-x.value.num:Int):Rat);have:=al7 x.value;have e:((-x.value.num:Int):Rat)=-((x.value.num:Int):Rat):=by push_cast;rfl
    rw [e,←this];grind
  ·have hs:=(a8k (hc j)).1;conv=>lhs;rw [hs]
   push_cast;rfl
instance:Inhabited Fd:=⟨⟨fun _=>0,fun _ _=>0,fun _=>0,fun _=>0,fun _=>0⟩⟩
structure a5j (m n:Nat) (D0:Fd) (g0:Nat->Rat) (D:Fd):Prop where
 p:a03 m n D
 i:∀y c,Ids m n D0 y c↔Ids m n D y c
 g:∃z,a1i n D g0 m z
def bb8 {m n r s:Nat} {D0 D:Fd} {g0:Nat->Rat} (h:a5j m n D0 g0 D) (hs:B5 m n D=.next r s):a5j m n D0 g0 (D.exch r s):=by
 have ⟨hr,hsn,hb⟩:=a4A hs;have hp:=a5d hb;have ⟨z,hz⟩:=h.g;exact ⟨aI1 hr hsn h.p,fun y c=>(h.i y c).trans (au6 hr hsn hp),_,aK8 hr hsn hp hz⟩
def P6 (m n:Nat) (D0 D:Fd):Prop:=∃k,itS m n k D0=some D
def a8j {m n:Nat} {D0:Fd}:P6 m n D0 D0:=⟨0,rfl⟩
def a5o {m n:Nat} {D0 D D':Fd} (h:P6 m n D0 D) (hn:G8 m n D=some D'):P6 m n D0 D':=by
 have ⟨k,hk⟩:=h;exact ⟨k+1,by rw [a1s,hk];exact hn⟩
def a0p {m n:Nat} {D0:Fd} {g0:Nat->Rat} (h0:a5j m n D0 g0 D0):∀{k:Nat} {D:Fd},itS m n k D0=some D->a5j m n D0 g0 D
 |0,D,h=>by injection h with h;subst h;exact h0
 |k+1,D,h=>by
  rw [a1s] at h;cases hk:itS m n k D0 with
  |none=>rw [hk] at h;cases h
  |some D1=>
   rw [hk] at h;have h:G8 m n D1=some D:=h;obtain ⟨r,s,hs,rfl⟩:=a8t h;exact bb8 (a0p h0 hk) hs
def au1 {m n:Nat} {D0:Fd} {k:Nat} (h:itS m n k D0=none):∀j,itS m n (k+j) D0=none
 |0=>h
 |j+1=>by rw [show k+(j+1)=(k+j)+1 by omega,a1s,au1 h j];rfl
def b3g {m n:Nat} {D0 D D':Fd} (h:P6 m n D0 D) (hn:G8 m n D=none) (h':P6 m n D0 D') (hn':G8 m n D'=none):D=D':=by
 have ⟨k,hk⟩:=h;have ⟨l,hl⟩:=h';have a1:itS m n (k+1) D0=none:=by rw [a1s,hk];exact hn
 have a2:itS m n (l+1) D0=none:=by rw [a1s,hl];exact hn'
 have hkl:k=l:=by
  rcases aX6 k l with h|h|h
  ·have:=au1 a1 (l - (k+1));rw [show k+1+(l - (k+1))=l by omega,hl] at this;cases this
  ·exact h
  ·have:=au1 a2 (k - (l+1));rw [show l+1+(k - (l+1))=k by omega,hk] at this;cases this
 subst hkl;rw [hk] at hl;injection hl
def bI7 {m n:Nat} {D0:Fd} {g0:Nat->Rat} (h0:a5j m n D0 g0 D0):∃D,P6 m n D0 D/\G8 m n D=none:=by
 have ⟨k,hk,hmin⟩:=a55 (fun k=>itS m n k D0=none) (b9E h0.p h0.g);cases k with
 |zero=>cases hk
 |succ k=>
  cases hk':itS m n k D0 with
  |none=>have:=hmin k hk';omega
  |some D=>
   rw [a1s,hk'] at hk;exact ⟨D,⟨k,hk'⟩,hk⟩
noncomputable def a4P (m n:Nat) (D0:Fd):Fd:=Classical.epsilon fun D=>P6 m n D0 D/\G8 m n D=none
def a3v {m n:Nat} {D0:Fd} {g0:Nat->Rat} (h0:a5j m n D0 g0 D0):P6 m n D0 (a4P m n D0)/\G8 m n (a4P m n D0)=none:=aX0 (bI7 h0)
def b8V {m n:Nat} {D0 D:Fd} {g0:Nat->Rat} (h0:a5j m n D0 g0 D0) (h:P6 m n D0 D) (hn:G8 m n D=none):D=a4P m n D0:=b3g h hn (a3v h0).1 (a3v h0).2
def by2 {m n:Nat} {D0:Fd} {g0:Nat->Rat} (h0:a5j m n D0 g0 D0):a5j m n D0 g0 (a4P m n D0):=by
 have ⟨k,hk⟩:=(a3v h0).1;exact a0p h0 hk
def b6g {m n:Nat} {D:Fd} (h:B5 m n D=.best):(∀ i,i<m->0<=D.V i)/\∀j,j<n->D.G j<=0:=by
 unfold B5 at h;split at h
 ·rename_i h1 h2;refine ⟨fun i hi=>?_,fun j hj=>?_⟩
  ·have:=a2g h1 i hi;simp at this;grind
  ·have:=a2g h2 j hj;simp at this;grind
 ·unfold Z9 at h;split at h<;>cases h
 ·unfold a01 at h;split at h<;>cases h
 ·split at h
  ·unfold Z9 at h;split at h<;>cases h
  ·unfold a01 at h;split at h<;>cases h
def aO2 {n r r':Nat} {D:Fd} (h:Z9 n D r=.row r'):r'=r/\∀j,j<n->0<=D.A r j:=by
 unfold Z9 at h;split at h
 ·rename_i h1;injection h with h;exact ⟨h.symm,fun j hj=>by have:=a2g h1 j hj;simp at this;grind⟩
 ·cases h
def aI5 {m s s':Nat} {D:Fd} (h:a01 m D s=.col s'):s'=s/\∀i,i<m->D.A i s<=0:=by
 unfold a01 at h;split at h
 ·rename_i h1;injection h with h;exact ⟨h.symm,fun i hi=>by have:=a2g h1 i hi;simp at this;grind⟩
 ·cases h
def a9O {m n r:Nat} {D:Fd} (h:B5 m n D=.row r):r<m/\D.V r<0/\∀j,j<n->0<=D.A r j:=by
 unfold B5 at h;split at h
 ·cases h
 ·rename_i r0 h1 h2;obtain ⟨rfl,h4⟩:=aO2 h;have h3:=G3 h1;exact ⟨h3.1,by simpa using h3.2.1,h4⟩
 ·unfold a01 at h;split at h<;>cases h
 ·rename_i r0 s0 h1 h2;split at h
  ·obtain ⟨rfl,h4⟩:=aO2 h;have h3:=G3 h1;exact ⟨h3.1,by simpa using h3.2.1,h4⟩
  ·unfold a01 at h;split at h<;>cases h
def a74 {m n s:Nat} {D:Fd} (h:B5 m n D=.col s):s<n/\0<D.G s/\∀i,i<m->D.A i s<=0:=by
 unfold B5 at h;split at h
 ·cases h
 ·unfold Z9 at h;split at h<;>cases h
 ·rename_i s0 h1 h2;obtain ⟨rfl,h4⟩:=aI5 h;have h3:=G3 h2;exact ⟨h3.1,by simpa using h3.2.1,h4⟩
 ·rename_i r0 s0 h1 h2;split at h
  ·unfold Z9 at h;split at h<;>cases h
  ·obtain ⟨rfl,h4⟩:=aI5 h;have h3:=G3 h2;exact ⟨h3.1,by simpa using h3.2.1,h4⟩
def b8F {m n:Nat} {D:Fd} (h:G8 m n D=none):B5 m n D=.best\/(∃ r,B5 m n D=.row r)\/∃s,B5 m n D=.col s:=by
 unfold G8 at h;cases hs:B5 m n D with
 |best=>exact .inl rfl
 |row r=>exact .inr (.inl ⟨r,rfl⟩)
 |col s=>exact .inr (.inr ⟨s,rfl⟩)
 |next r s=>rw [hs] at h;cases h
def zOf (n:Nat) (y:Nat->Rat):List Rat:=(List.range n).map y
def am7 {n:Nat} {y:Nat->Rat}:(zOf n y).length=n:=by simp [zOf]
def as4 {n:Nat} {y:Nat->Rat} {j:Nat} (h:j<n):(zOf n y).getD j 0=y j:=by simp [zOf,lbl,h]
def a9l {n:Nat} {y:Nat->Rat} {v:Rat} (h:v ∈ zOf n y):∃j,j<n/\v=y j:=by
 obtain ⟨j,hj,rfl⟩:=lbx.1 h;exact ⟨j,lbB.1 hj,rfl⟩
def b24 {n:Nat} {l:List (Int × Rat)} (h:m8 (-1) (n:Int) l=true) (y:Nat->Rat):n9 l (zOf n y)=p6 (fun j=>L9 l j*y j) n:=by
 rw [a06 h];exact p5 fun j hj=>by rw [as4 hj]
def X0 {s:m7} (hr:q9 s=true):((s.n.toNat:Nat):Int)=s.n:=by
 unfold q9 at hr;simp only [lbN,lbI] at hr;omega
def a1t {s:m7} (hr:q9 s=true) {i:Nat} {w:C7} (hw:s.rows[i]? =some w):m8 (-1) ((s.n.toNat:Nat):Int) w.terms=true/\0<=w.kind/\w.kind<3:=by
 rw [X0 hr];unfold q9 at hr;simp only [lbN,lbv] at hr;have:=hr.2 w (lbm hw);unfold A7 at this;simp only [lbN,lbI] at this;exact ⟨this.1.1,this.1.2,this.2⟩
def bp3 {s:m7} {g:List (Int × Rat)} (hr:q9 s=true) {y:Nat->Rat} {c:Rat} (hy:Ids (j0 s).length s.n.toNat (k9 s g) y c) {i k:Nat} {b:Bool} {w:C7}
 (hf:(j0 s)[i]? =some (k,b)) (hw:s.rows[k]? =some w):y (s.n.toNat+i)=Z4 b (c*w.value - n9 w.terms (zOf s.n.toNat y)):=by
 have hi:i<(j0 s).length:=(lbe.1 hf).1;have h1:y (s.n.toNat+i)=c*(k9 s g).V i - p6 (fun j=>(k9 s g).A i j*y j) s.n.toNat:=hy i hi;have hd:(j0 s).getD i (0,false)=(k,b):=by rw [lbl,hf];rfl
 have hV:(k9 s g).V i=Z4 b w.value:=by show a3Q s ((j0 s).getD i (0,false))=_;rw [hd];unfold a3Q;simp only [hw]
 have hA:∀j,(k9 s g).A i j=Z4 b (L9 w.terms j):=fun j=>by show a3D s ((j0 s).getD i (0,false)) j=_;rw [hd];unfold a3D;simp only [hw]
 rw [h1,hV,b24 (a1t hr hw).1];cases b with
 |false=>rw [p5 (g:=fun j=>L9 w.terms j*y j) fun j hj=>by rw [hA j];rfl];rfl
 |true=>
  rw [p5 (g:=fun j=>(-1:Rat)*(L9 w.terms j*y j)) fun j hj=>by rw [hA j];show -(L9 w.terms j)*_=_;grind,K4];show c*-w.value - _=-(c*w.value - _);grind
noncomputable def F8 (s:m7) (g:List (Int × Rat)):Fd:=a4P (j0 s).length s.n.toNat (k9 s g)
noncomputable def H8 (s:m7) (g:List (Int × Rat)):b9p:=B5 (j0 s).length s.n.toNat (F8 s g)
def V3 {s:m7} {g:List (Int × Rat)}:a5j (j0 s).length s.n.toNat (k9 s g) (fun j=>-(L9 g j)) (k9 s g):=⟨b2W,fun _ _=>Iff.rfl,0,b2b⟩
def W6 {s:m7} {g:List (Int × Rat)}:a5j (j0 s).length s.n.toNat (k9 s g) (fun j=>-(L9 g j)) (F8 s g):=by2 V3
def a4C (s:m7) (g:List (Int × Rat)):H8 s g=.best\/(∃ r,H8 s g=.row r)\/∃c,H8 s g=.col c:=b8F (a3v V3).2
noncomputable def s8 (s:m7) (g:List (Int × Rat)):List Rat:=zOf s.n.toNat (R6 (j0 s).length s.n.toNat (F8 s g) 1 (fun _=>0))
noncomputable def a6x (s:m7) (g:List (Int × Rat)) (c:Nat):List Rat:=zOf s.n.toNat (R6 (j0 s).length s.n.toNat (F8 s g) 0 (fun j=>if j=c then 1 else 0))
def b80 {s:m7} {g:List (Int × Rat)} {y:Nat->Rat} (hy:Ids (j0 s).length s.n.toNat (k9 s g) y 1):∀w,w<s.n.toNat+(j0 s).length->a8d s g (zOf s.n.toNat y) w=y w:=by
 intro w hw;unfold a8d;split
 ·rename_i h;exact as4 h
 ·have h1:y (s.n.toNat+(w - s.n.toNat))=1*(k9 s g).V (w - s.n.toNat) - p6 (fun j=>(k9 s g).A (w - s.n.toNat) j*y j) s.n.toNat:=hy (w - s.n.toNat) om;rw [show s.n.toNat+(w - s.n.toNat)=w by omega] at h1;rw [h1,p5 (g:=fun j=>(k9 s g).A (w - s.n.toNat) j*y j) fun j hj=>by rw [as4 hj]];grind
def b65 {s:m7} {g:List (Int × Rat)} (hr:q9 s=true) {y:Nat->Rat} (hy:Ids (j0 s).length s.n.toNat (k9 s g) y 1) (hp:b6N (j0 s).length s.n.toNat y):k7 s (zOf s.n.toNat y)=true:=by
 refine (first_holds (g:=g) hr (by rw [am7];exact X0 hr)).2 fun w hw=>?_
 rw [b80 hy w hw];exact hp w hw
def a1a {s:m7} {z:List Rat} (h:k7 s z=true):q9 s=true/\(z.length:Int)=s.n:=by
 unfold k7 at h;simp only [lbN,lbI] at h;exact ⟨h.1.1.1,h.1.1.2⟩
def b0p {s:m7} {g:List (Int × Rat)} (hg:m8 (-1) ((s.n.toNat:Nat):Int) g=true) (z:List Rat):p6 (fun j=>-(L9 g j)*a8d s g z j) s.n.toNat=-(n9 g z):=by
 rw [a06 hg z,p5 (g:=fun j=>(-1:Rat)*(L9 g j*z.getD j 0)) fun j hj=>by
  have:a8d s g z j=z.getD j 0:=by unfold a8d;rw [iB hj]
  rw [this];grind,K4]
 grind
def Y1 {s:m7} {g:List (Int × Rat)} (hr:q9 s=true) (hg:m8 (-1) ((s.n.toNat:Nat):Int) g=true) (h:H8 s g=.best):
 k7 s (s8 s g)=true/\∀z,k7 s z=true->n9 g (s8 s g)<=n9 g z:=by
 have ⟨hv,hgj⟩:=b6g h;have hi:=W6 (s:=s) (g:=g);have ⟨v,hv'⟩:=hi.g;have ⟨⟨y,h1,h2,h3,h4⟩,h5⟩:=b7w hi.p hv' hv hgj;have h1':=(hi.i y 1).2 h1;have e:s8 s g=zOf s.n.toNat y:=by unfold s8;rw [h4]
 rw [e];refine ⟨b65 hr h1' h2,fun z hz=>?_⟩;have hx:=h5 (a8d s g z) ((hi.i _ 1).1 (b5H z)) ((first_holds hr (a1a hz).2).1 hz);rw [b0p hg z] at hx;have h6:p6 (fun j=>-(L9 g j)*y j) s.n.toNat=-(n9 g (zOf s.n.toNat y)):=by
  rw [← b0p hg];exact p5 fun j hj=>by rw [b80 h1' j om]
 rw [h6] at h3;grind
def a5i {s:m7} {g:List (Int × Rat)} {r:Nat} (h:H8 s g=.row r):∀z,k7 s z=false:=by
 intro z;cases hz:k7 s z with
 |false=>rfl
 |true=>
  have ⟨hr1,hv,ha⟩:=a9O h;have hi:=W6 (s:=s) (g:=g);exact absurd ((first_holds (a1a hz).1 (a1a hz).2).1 hz) (bo3 hi.p hr1 hv ha (a8d s g z) ((hi.i _ 1).1 (b5H z)))
structure bb0 (s:m7) (d:List Rat):Prop where
 len:d.length=s.n.toNat
 pos:∀v ∈ d,0<=v
 up:∀(k:Nat) (w:C7),s.rows[k]? =some w->w.kind≠0->n9 w.terms d<=0
 down:∀(k:Nat) (w:C7),s.rows[k]? =some w->w.kind≠1->0<=n9 w.terms d
def a7g {s:m7} {g:List (Int × Rat)} {c:Nat} (hr:q9 s=true) (hg:m8 (-1) ((s.n.toNat:Nat):Int) g=true) (h:H8 s g=.col c):bb0 s (a6x s g c)/\n9 g (a6x s g c)<0:=by
 have ⟨hc,hgc,ha⟩:=a74 h;have hi:=W6 (s:=s) (g:=g);have ⟨v,hv⟩:=hi.g;have ⟨y,h1,h2,h3,h4⟩:=bo9 hi.p hv hc hgc ha;have h1':=(hi.i y 0).2 h1;have e:a6x s g c=zOf s.n.toNat y:=by unfold a6x;rw [h4]
 rw [e];have side:∀(k:Nat) (w:C7) (b:Bool),s.rows[k]? =some w->(b=false->w.kind≠0)->(b=true->w.kind≠1)->0<=Z4 b (-(n9 w.terms (zOf s.n.toNat y))):=by
  intro k w b hw hb1 hb2;have hm:((k,b):Nat × Bool) ∈ j0 s:=Y8.2 ⟨w,hw,hb1,hb2⟩;have ⟨i,hil,hif⟩:=a0D hm;have hf:(j0 s)[i]? =some (k,b):=by rw [lbf hil,hif]
  have:=bp3 hr h1' hf hw;have hp:=h2 (s.n.toNat+i) om;rw [this] at hp;have e2:(0:Rat)*w.value - n9 w.terms (zOf s.n.toNat y)=-(n9 w.terms (zOf s.n.toNat y)):=zg;rw [e2] at hp;exact hp
 refine ⟨⟨am7,fun v hv=>?_,fun k w hw hk=>?_,fun k w hw hk=>?_⟩,?_⟩
 ·obtain ⟨j,hj,rfl⟩:=a9l hv;exact h2 j om
 ·have:0<=-(n9 w.terms (zOf s.n.toNat y)):=side k w false hw (fun _=>hk) (fun h=>by cases h);grind
 ·have:0<=-(-(n9 w.terms (zOf s.n.toNat y))):=side k w true hw (fun h=>by cases h) (fun _=>hk);grind
 ·rw [b24 hg,p5 (g:=fun j=>(-1:Rat)*(-(L9 g j)*y j)) fun j hj=>by grind,K4];grind
def ab6 (x d:List Rat):List Rat:=List.zipWith (·+·) x d
def aw5 {x d:List Rat} {n:Nat} (hx:x.length=n) (hd:d.length=n):(ab6 x d).length=n:=by simp [ab6,hx,hd]
def aO3 {x d:List Rat} {n j:Nat} (hx:x.length=n) (hd:d.length=n) (hj:j<n):(ab6 x d).getD j 0=x.getD j 0+d.getD j 0:=by
 simp only [ab6,lbl,List.getElem?_zipWith];rw [lbf (show j<x.length by omega),lbf (show j<d.length by omega)]
 rfl
def a4F {x d:List Rat} {n:Nat} {l:List (Int × Rat)} (hx:x.length=n) (hd:d.length=n) (h:m8 (-1) (n:Int) l=true):n9 l (ab6 x d)=n9 l x+n9 l d:=by
 rw [a06 h,a06 h,a06 h,←a2E];exact p5 fun j hj=>by rw [aO3 hx hd hj];grind
def af2 {s:m7} {z:List Rat} (h:k7 s z=true):∀v ∈ z,0<=v:=by
 unfold k7 at h;simp only [lbN,lbI,lbv] at h;exact h.1.2
def bb2 {w:C7} {z:List Rat}:a0w w z=true↔(w.kind≠1->w.value<=n9 w.terms z)/\(w.kind≠0->n9 w.terms z<=w.value):=by
 unfold a0w;simp only [a6X,a2t,lbP,lbK,lb4];constructor
 ·rintro ⟨h1,h2⟩;exact ⟨fun h=>h1.elim id fun h'=>absurd h h',fun h=>h2.elim id fun h'=>absurd h h'⟩
 ·rintro ⟨h1,h2⟩;refine ⟨?_,?_⟩
  ·by_cases h:w.kind≠1
   ·exact .inl (h1 h)
   ·exact .inr h
  ·by_cases h:w.kind≠0
   ·exact .inl (h2 h)
   ·exact .inr h
def Z0 {s:m7} {z:List Rat}:k7 s z=true↔q9 s=true/\(z.length:Int)=s.n/\(∀ v ∈ z,0<=v)/\∀w ∈ s.rows,(w.kind≠1->w.value<=n9 w.terms z)/\(w.kind≠0->n9 w.terms z<=w.value):=by
 unfold k7;simp only [lbN,lbI,lbv,bb2];constructor
 ·rintro ⟨⟨⟨h1,h2⟩,h3⟩,h4⟩;exact ⟨h1,h2,h3,h4⟩
 ·rintro ⟨h1,h2,h3,h4⟩;exact ⟨⟨⟨h1,h2⟩,h3⟩,h4⟩
def ad4 {s:m7} {x d:List Rat} (hx:k7 s x=true) (hd:bb0 s d):k7 s (ab6 x d)=true:=by
 have ⟨h1,h2,h3,h4⟩:=Z0.1 hx;have hn:=X0 h1;have hxl:x.length=s.n.toNat:=om;refine Z0.2 ⟨h1,by rw [aw5 hxl hd.len];exact hn,fun v hv=>?_,fun w hw=>?_⟩
 ·obtain ⟨j,hj,rfl⟩:=a0D hv;rw [aw5 hxl hd.len] at hj;have h5:0<=x[j]:=h3 _ (lbE _);have h6:0<=d[j]'(by rw [hd.len];exact hj):=hd.pos _ (lbE _);simp only [ab6,List.getElem_zipWith];grind
 ·have ⟨k,hk,hkw⟩:=a0D hw;have hkw':s.rows[k]? =some w:=by rw [lbf hk,hkw]
  have h7:=a4F hxl hd.len (a1t h1 hkw').1;have ⟨h8,h9⟩:=h4 w hw;rw [h7];exact ⟨fun h=>by have:=h8 h;have:=hd.down k w hkw' h;grind,fun h=>by have:=h9 h;have:=hd.up k w hkw' h;grind⟩
theorem zk {p:Prop} (h:p:=by decide +kernel):p:=h
def bn6 {s:m7} (hr:q9 s=true) {c:Nat}:H8 s []≠.col c:=fun h=>by
 have:=(a7g hr rfl h).2;have h2:n9 [] (a6x s [] c)=((0:Int):Rat):=rfl;rw [h2] at this;exact absurd this zk
def uV (n:Nat) (D0:Fd) (w:Nat):Nat->Rat
 |0=>if w<n then 0 else D0.V (w - n)
 |l+1=>if w<n then (if w=l then 1 else 0) else -(D0.A (w - n) l)
def uG (g0:Nat->Rat):Nat->Rat
 |0=>0
 |l+1=>g0 l
structure a07 (m n:Nat) (D:Fd):Prop where
 o:∀i,i<m->D.O i=n+i
 f:∀j,j<n->D.F j=j
def muF (n:Nat) (D0 D:Fd):Nat->Nat->Rat
 |0=>a64 0
 |j+1=>uV n D0 (D.F j)
def b9Z {m n:Nat} {D0:Fd} (h0:a07 m n D0) (l:Nat) (hl:l<n+1):Ids m n D0 (fun w=>uV n D0 w l) (a64 0 l):=by
 intro i hi;rw [h0.o i hi];rw [p5 (g:=fun j=>D0.A i j*uV n D0 j l) fun j hj=>by rw [h0.f j hj]];cases l with
 |zero=>
  rw [D7 fun j hj=>by show D0.A i j*(if j<n then (0:Rat) else _)=0;rw [iB hj];grind];show (if n+i<n then (0:Rat) else D0.V (n+i - n))=a64 0 0*D0.V i - 0;rw [iC om,show n+i - n=i by omega];have:a64 0 0=1:=rfl;rw [this];grind
 |succ l=>
  rw [p5 (g:=fun j=>if j=l then D0.A i l else 0) fun j hj=>by
   show D0.A i j*(if j<n then (if j=l then (1:Rat) else 0) else _)=_;rw [iB hj];by_cases h:j=l
   ·subst h;rw [iB rfl,iB rfl];grind
   ·rw [iC h,iC h];grind]
  rw [H7 (s:=l) om,iB rfl,D7 fun j hj=>by
   by_cases h:j=l
   ·rw [iB h]
   ·rw [iC h,iC h]]
  show (if n+i<n then _ else -(D0.A (n+i - n) l))=a64 0 (l+1)*D0.V i - _;rw [iC om,show n+i - n=i by omega];have:a64 0 (l+1)=0:=rfl;rw [this];grind
section
variable {m n:Nat} {D0 D:Fd}
def coV (D:Fd) (i:Nat):Nat->Rat
 |0=>D.V i
 |j+1=>-(D.A i j)
def coG (z:Rat) (D:Fd):Nat->Rat
 |0=>z
 |j+1=>D.G j
def b5K (h0:a07 m n D0) (hI:∀y c,Ids m n D0 y c↔Ids m n D y c) {i:Nat} (hi:i<m):∀l,l<n+1->uV n D0 (D.O i) l=p6 (fun k=>coV D i k*muF n D0 D k l) (n+1):=by
 intro l hl;have h:=(hI _ _).1 (b9Z h0 l hl) i hi;rw [h,a3s];show _=D.V i*a64 0 l+p6 (fun j=>-(D.A i j)*uV n D0 (D.F j) l) n;rw [p5 (f:=fun j=>-(D.A i j)*uV n D0 (D.F j) l) (g:=fun j=>(-1:Rat)*(D.A i j*uV n D0 (D.F j) l)) fun j hj=>by grind,K4];grind
def bj9 (h0:a07 m n D0) (hI:∀y c,Ids m n D0 y c↔Ids m n D y c) {g0:Nat->Rat} {z:Rat} (hg:a1i n D g0 m z):∀l,l<n+1->uG g0 l=p6 (fun k=>coG z D k*muF n D0 D k l) (n+1):=by
 intro l hl;have h:=hg _ _ ((hI _ _).1 (b9Z h0 l hl));rw [a3s];show _=z*a64 0 l+p6 (fun j=>D.G j*uV n D0 (D.F j) l) n;have e:p6 (fun j=>g0 j*uV n D0 j l) n=uG g0 l:=by
  cases l with
  |zero=>rw [D7 fun j hj=>by show g0 j*(if j<n then (0:Rat) else _)=0;rw [iB hj];grind];rfl
  |succ l=>
   rw [p5 (g:=fun j=>if j=l then g0 l else 0) fun j hj=>by
    show g0 j*(if j<n then (if j=l then (1:Rat) else 0) else _)=_;rw [iB hj];by_cases h:j=l
    ·subst h;rw [iB rfl,iB rfl];grind
    ·rw [iC h,iC h];grind]
   rw [H7 (s:=l) om,iB rfl,D7 fun j hj=>by
    by_cases h:j=l
    ·rw [iB h]
    ·rw [iC h,iC h]]
   show _=g0 l;grind
 rw [← e,h];grind
def b8z (h0:a07 m n D0) (hI:∀y c,Ids m n D0 y c↔Ids m n D y c) {i:Nat} (hi:i<m):M8 (n+1) (J7 (muF n D0 D) 0 (uV n D0 (D.O i)))=D.V i*M8 (n+1) (muF n D0 D):=ax9 (b5K h0 hI hi) (j:=0) om
def b4a (h0:a07 m n D0) (hI:∀y c,Ids m n D0 y c↔Ids m n D y c) {i j:Nat} (hi:i<m) (hj:j<n):M8 (n+1) (J7 (muF n D0 D) (j+1) (uV n D0 (D.O i)))=-(D.A i j)*M8 (n+1) (muF n D0 D):=ax9 (b5K h0 hI hi) (j:=j+1) om
def b81 (h0:a07 m n D0) (hI:∀y c,Ids m n D0 y c↔Ids m n D y c) {g0:Nat->Rat} {z:Rat} (hg:a1i n D g0 m z) {j:Nat} (hj:j<n):M8 (n+1) (J7 (muF n D0 D) (j+1) (uG g0))=D.G j*M8 (n+1) (muF n D0 D):=ax9 (bj9 h0 hI hg) (j:=j+1) om
def aJ5 (h0:a07 m n D0):M8 (n+1) (muF n D0 D0)=1:=by
 rw [← b54 (n+1)];refine a3m fun i j hi hj=>?_
 cases i with
 |zero=>rfl
 |succ i=>
  show uV n D0 (D0.F i) j=_;rw [h0.f i om];cases j with
  |zero=>show (if i<n then (0:Rat) else _)=_;rw [iB om];rfl
  |succ j=>
   show (if i<n then (if i=j then (1:Rat) else 0) else _)=_;rw [iB om];unfold a64;by_cases h:i=j
   ·rw [iB h,iB om]
   ·rw [iC h,iC om]
def b0e (h0:a07 m n D0) (hI:∀y c,Ids m n D0 y c↔Ids m n D y c) {r s:Nat} (hr:r<m) (hs:s<n):M8 (n+1) (muF n D0 (D.exch r s))=-(D.A r s)*M8 (n+1) (muF n D0 D):=by
 rw [← b4a h0 hI hr hs];refine a3m fun i j hi hj=>?_
 cases i with
 |zero=>rfl
 |succ i=>
  show uV n D0 ((D.exch r s).F i) j=J7 (muF n D0 D) (s+1) (uV n D0 (D.O r)) (i+1) j;rw [a3b];by_cases h:i=s
  ·subst h;rw [iB rfl,a20]
  ·rw [iC h,a1e om];rfl
end
def b3h {m n:Nat} {D0:Fd} {g0:Nat->Rat} (h0:a07 m n D0) (hv:a5j m n D0 g0 D0):∀{k:Nat} {D:Fd},itS m n k D0=some D->M8 (n+1) (muF n D0 D)≠0
 |0,D,h=>by injection h with h;subst h;rw [aJ5 h0];decide
 |k+1,D,h=>by
  rw [a1s] at h;cases hk:itS m n k D0 with
  |none=>rw [hk] at h;cases h
  |some D1=>
   rw [hk] at h;have h:G8 m n D1=some D:=h;obtain ⟨r,s,hs,rfl⟩:=a8t h;have ⟨h1,h2,h3⟩:=a4A hs;have hp:=a5d h3;rw [b0e h0 (a0p hv hk).i h1 h2];intro e;rcases aA8.1 e with e|e
   ·exact hp zg
   ·exact b3h h0 hv hk e
def bl4 (K:Rat) (M:Nat->Nat->Rat):Nat->Nat->Rat:=fun i j=>if j=0 then K*M i 0 else M i j
def bx2 (n:Nat) (K:Rat) (M:Nat->Nat->Rat):M8 (n+1) (bl4 K M)=K*M8 (n+1) M:=by
 rw [U6,U6,←K4];refine p5 fun i hi=>?_
 have e:F6 i (bl4 K M)=F6 i M:=by
  funext a c;unfold F6 bl4;rw [iC om]
 rw [e];show aj9 i*(if (0:Nat)=0 then K*M i 0 else _)*_=_;rw [iB rfl];grind
def aR1 {n:Nat} {M:Nat->Nat->Rat} {r:Nat} (hr:r<n) (h:∀c,c<n->M r c=0):M8 n M=0:=by
 have e:M8 n M=M8 n (J7 M r fun c=>(0:Rat)*0+0*0):=a3m fun i j hi hj=>by
  unfold J7;by_cases hir:i=r
  ·subst hir;rw [iB rfl,h j hj];grind
  ·rw [iC hir]
 rw [e,a7l (v:=fun _=>0) (w:=fun _=>0) hr];grind
def b4t {n:Nat} {M:Nat->Nat->Rat} (h1:M 0 0=1) (h0:∀c,c<n->M 0 (c+1)=0):M8 (n+1) M=M8 n (F6 0 M):=by
 rw [U6,a3s (f:=fun i=>aj9 i*M i 0*M8 n (F6 i M)),D7 fun i hi=>?_]
 ·have:aj9 0=1:=rfl;rw [this,h1];grind
 ·rw [aR1 (n:=n) (M:=F6 (i+1) M) (r:=0) om fun c hc=>by
   unfold F6;rw [iB om];exact h0 c hc]
  grind
structure aG0 (m n K BV BA BG:Nat) (D0:Fd) (g0:Nat->Rat):Prop where
 k:0<K
 v:∀i,i<m->∃z:Int,(K:Rat)*D0.V i=((z:Int):Rat)/\z.natAbs<=BV
 a:∀i j,i<m->j<n->∃z:Int,D0.A i j=((z:Int):Rat)/\z.natAbs<=BA
 g:∀j,j<n->∃z:Int,g0 j=((z:Int):Rat)/\z.natAbs<=BG
 a1:1<=BA
 ag:BA<=BG
def ab7 {m n K BV BA BG:Nat} {D0:Fd} {g0:Nat->Rat} (h:aG0 m n K BV BA BG D0 g0) {w l:Nat} (hw:w<n+m) (hl:l<n):∃z:Int,uV n D0 w (l+1)=((z:Int):Rat)/\z.natAbs<=BA:=by
 have:=h.a1;show ∃z:Int,(if w<n then (if w=l then (1:Rat) else 0) else -(D0.A (w - n) l))=_/\_;by_cases h1:w<n
 ·rw [iB h1];by_cases h2:w=l
  ·rw [iB h2];exact ⟨1,rfl,by simpa using this⟩
  ·rw [iC h2];exact ⟨0,rfl,zq⟩
 ·rw [iC h1];have ⟨z,hz,hb⟩:=h.a (w - n) l om hl;exact ⟨-z,by rw [hz];push_cast;rfl,by rw [a2v];exact hb⟩
def bt3 {m n K BV BA BG:Nat} {D0:Fd} {g0:Nat->Rat} (h:aG0 m n K BV BA BG D0 g0) {w:Nat} (hw:w<n+m):∃z:Int,(K:Rat)*uV n D0 w 0=((z:Int):Rat)/\z.natAbs<=BV:=by
 show ∃z:Int,(K:Rat)*(if w<n then (0:Rat) else D0.V (w - n))=_/\_;by_cases h1:w<n
 ·rw [iB h1];exact ⟨0,by show _=(0:Rat);grind,zq⟩
 ·rw [iC h1];exact h.v _ om
def aR7 {m n K BV BA BG:Nat} {D0 D:Fd} {g0:Nat->Rat} (h:aG0 m n K BV BA BG D0 g0) (hf:∀j,j<n->D.F j<n+m):∃z:Int,M8 (n+1) (muF n D0 D)=((z:Int):Rat)/\z.natAbs<=a51 n fun _=>BA:=by
 rw [b4t (M:=muF n D0 D) rfl fun c hc=>rfl];refine a7m fun i j hi hj=>?_
 unfold F6;rw [iC om];exact ab7 h (hf i hi) hj
def a4q {m n K BV BA BG:Nat} {D0 D:Fd} {g0:Nat->Rat} (h:aG0 m n K BV BA BG D0 g0) (hf:∀j,j<n->D.F j<n+m) {B:Nat} {u:Nat->Rat} (hB:BA<=B) (hu:∀l,l<n->∃z:Int,u (l+1)=((z:Int):Rat)/\z.natAbs<=B) (j:Nat):∃z:Int,M8 (n+1) (J7 (muF n D0 D) (j+1) u)=((z:Int):Rat)/\z.natAbs<=a51 n fun _=>B:=by
 rw [b4t (M:=J7 (muF n D0 D) (j+1) u) (by rw [a1e om];rfl) fun c hc=>by rw [a1e om];rfl];refine a7m fun i k hi hk=>?_
 have em:F6 0 (J7 (muF n D0 D) (j+1) u) i k=J7 (muF n D0 D) (j+1) u (i+1) (k+1):=by unfold F6;rw [iC om]
 rw [em];by_cases e:i+1=j+1
 ·rw [e,a20];exact hu k hk
 ·rw [a1e e];have ⟨z,hz,hb⟩:=ab7 h (hf i hi) hk;exact ⟨z,hz,om⟩
def aq0 {m n K BV BA BG:Nat} {D0 D:Fd} {g0:Nat->Rat} (h:aG0 m n K BV BA BG D0 g0) (hf:∀j,j<n->D.F j<n+m) {w:Nat} (hw:w<n+m):∃z:Int,(K:Rat)*M8 (n+1) (J7 (muF n D0 D) 0 (uV n D0 w))=((z:Int):Rat)/\z.natAbs<=a51 (n+1) fun c=>if c=0 then BV else BA:=by
 rw [← bx2];refine a7m fun i j hi hj=>?_
 have key:∀w,w<n+m->∃z:Int,(if j=0 then (K:Rat)*uV n D0 w 0 else uV n D0 w j)=((z:Int):Rat)/\z.natAbs<=if j=0 then BV else BA:=fun w hw=>by
  by_cases h1:j=0
  ·rw [iB h1,iB h1];exact bt3 h hw
  ·rw [iC h1,iC h1];obtain ⟨l,rfl⟩:∃l,j=l+1:=⟨j - 1,om⟩;exact ab7 h hw om
 unfold bl4 J7;cases i with
 |zero=>simp only [if_true];exact key w hw
 |succ i=>
  simp only [iC (show i+1≠0 by omega)];exact key (D.F i) (hf i om)
def an5 {x:Rat} {p q:Int} (hq:q≠0) (h:((q:Int):Rat)*x=((p:Int):Rat)):rl x<=max (bl p) (bl q):=by
 have hqn:((q:Int):Rat)≠0:=by intro e;exact hq (by exact_mod_cast e)
 have e:x=Rat.divInt p q:=by
  rw [a84,←h];rw [ar3,af3,aa8,b2f _ hqn];grind
 rw [e];exact Y7 hq
def a2W {z:Int} {X k:Nat} (h:z.natAbs<=X) (hX:(X:Int)<pw k):bl z<=k:=Q8 om
def aC0 {m n K BV BA BG b:Nat} {D0 D:Fd} {g0:Nat->Rat} (h0:a07 m n D0) (h:aG0 m n K BV BA BG D0 g0) (hv:a5j m n D0 g0 D0) (hD:P6 m n D0 D)
 (b1:((a51 (n+1) fun c=>if c=0 then BV else BA:Nat):Int)<pw b) (b2:((a51 n fun _=>BG:Nat):Int)<pw b) (b3:((K*a51 n fun _=>BA:Nat):Int)<pw b) (b4:((a51 n fun _=>BA:Nat):Int)<pw b):
 (∀ i,i<m->rl (D.V i)<=b)/\(∀ i j,i<m->j<n->rl (D.A i j)<=b)/\∀j,j<n->rl (D.G j)<=b:=by
 have ⟨k,hk⟩:=hD;have hi:=a0p hv hk;have hn:=b3h h0 hv hk;have ⟨d,hd,hdb⟩:=aR7 h (D:=D) hi.p.fb;rw [hd] at hn;have hd0:d≠0:=fun e=>hn (by rw [e];rfl)
 refine ⟨fun i him=>?_,fun i j him hj=>?_,fun j hj=>?_⟩
 ·have ⟨p,hp,hpb⟩:=aq0 h (D:=D) hi.p.fb (hi.p.ob i him);rw [b8z h0 hi.i him,hd] at hp;have hK:=h.k;have e:=an5 (x:=D.V i) (p:=p) (q:=(K:Int)*d) (by
   intro e;rcases Int.mul_eq_zero.1 e with e|e
   ·omega
   ·exact hd0 e) (by rw [← hp];push_cast;grind)
  have q1:=a2W hpb b1;have q2:bl ((K:Int)*d)<=b:=a2W (X:=K*a51 n fun _=>BA) (by rw [a3y];exact lbT zq hdb) b3;omega
 ·have ⟨p,hp,hpb⟩:=a4q h (D:=D) hi.p.fb (lbR _) (u:=uV n D0 (D.O i)) (fun l hl=>ab7 h (hi.p.ob i him) hl) j;rw [b4a h0 hi.i him hj,hd] at hp;have e:=an5 (x:=-(D.A i j)) (p:=p) (q:=d) hd0 (by rw [← hp];grind);rw [a3i] at e;have q1:=a2W hpb b4;have q2:=a2W hdb b4;omega
 ·have ⟨z,hz⟩:=hi.g;have ⟨p,hp,hpb⟩:=a4q h (D:=D) hi.p.fb h.ag (u:=uG g0) (fun l hl=>h.g l hl) j;rw [b81 h0 hi.i hz hj,hd] at hp;have e:=an5 (x:=D.G j) (p:=p) (q:=d) hd0 (by rw [← hp];grind);have q1:=a2W hpb b2;have q2:=a2W hdb b4;omega
def Whole (x:Rat):Prop:=∃z:Int,x=((z:Int):Rat)
structure a9n (m n:Nat) (D0 D:Fd) (q:Int):Prop where
 pos:0<q
 det:M8 (n+1) (muF n D0 D)=((q:Int):Rat)\/M8 (n+1) (muF n D0 D)=-((q:Int):Rat)
 v:∀i,i<m->Whole ((q:Rat)*D.V i)
 a:∀i j,i<m->j<n->Whole ((q:Rat)*D.A i j)
 g:∀j,j<n->Whole ((q:Rat)*D.G j)
def aO1 {x:Rat} (h:Whole x):Whole (-x):=by
 obtain ⟨z,rfl⟩:=h;exact ⟨-z,by push_cast;rfl⟩
def a5e {d q:Int} {x:Rat} (hq:q=d\/q=-d) (h:Whole (x*((d:Int):Rat))):Whole ((q:Rat)*x):=by
 rcases hq with e|e
 ·subst e;rwa [ar3] at h
 ·subst e;have:=aO1 h;have e2:(((-d:Int):Int):Rat)*x=-(x*((d:Int):Rat)):=by push_cast;grind
  rw [e2];exact this
def bM8 {m n BV BA BG:Nat} {D0 D:Fd} {g0:Nat->Rat} (h0:a07 m n D0) (h:aG0 m n 1 BV BA BG D0 g0) (hv:a5j m n D0 g0 D0) (hD:P6 m n D0 D):∃q:Int,a9n m n D0 D q:=by
 have ⟨k,hk⟩:=hD;have hi:=a0p hv hk;have hn:=b3h h0 hv hk;have ⟨d,hd,hdb⟩:=aR7 h (D:=D) hi.p.fb;have hn2:=hn;rw [hd] at hn2;have hd0:d≠0:=fun e=>hn2 (by rw [e];rfl)
 have key:∀q:Int,(q=d\/q=-d)->(∀ i,i<m->Whole ((q:Rat)*D.V i))/\(∀ i j,i<m->j<n->Whole ((q:Rat)*D.A i j))/\(∀ j,j<n->Whole ((q:Rat)*D.G j)):=by
  intro q hq;refine ⟨fun i him=>a5e hq ?_,fun i j him hj=>a5e hq ?_,fun j hj=>a5e hq ?_⟩
  ·have ⟨p,hp,_⟩:=aq0 h (D:=D) hi.p.fb (hi.p.ob i him);rw [b8z h0 hi.i him,hd] at hp;exact ⟨p,by rw [← hp];push_cast;grind⟩
  ·have ⟨p,hp,_⟩:=a4q h (D:=D) hi.p.fb (lbR _) (u:=uV n D0 (D.O i)) (fun l hl=>ab7 h (hi.p.ob i him) hl) j;rw [b4a h0 hi.i him hj,hd] at hp;have:=aO1 (x:=-(D.A i j)*((d:Int):Rat)) ⟨p,hp⟩;have e:D.A i j*((d:Int):Rat)=-(-(D.A i j)*((d:Int):Rat)):=zg;rw [e];exact this
  ·have ⟨z,hz⟩:=hi.g;have ⟨p,hp,_⟩:=a4q h (D:=D) hi.p.fb h.ag (u:=uG g0) (fun l hl=>h.g l hl) j;rw [b81 h0 hi.i hz hj,hd] at hp;exact ⟨p,hp⟩
 rcases b3o hd0 with hneg|hpos
 ·have ⟨k1,k2,k3⟩:=key (-d) (.inr rfl);exact ⟨-d,om,.inr (by rw [hd];push_cast;grind),k1,k2,k3⟩
 ·have ⟨k1,k2,k3⟩:=key d (.inl rfl);exact ⟨d,hpos,.inl hd,k1,k2,k3⟩
section
variable {D:Fd} {r s:Nat} {q:Rat}
def ag7 {a b:Rat} (h:b≠0):a / b*b=a:=by rw [af3,aa8,Rat.inv_mul_cancel _ h];grind
def bL2 (h:D.A r s≠0):(q*D.A r s)*(D.exch r s).V r=q*D.V r:=by
 show (q*D.A r s)*(if r=r then D.V r / D.A r s else _)=_;rw [iB rfl];have:=ag7 (a:=D.V r) h;grind
def bP1 (h:D.A r s≠0) {i:Nat} (hi:i≠r):(q*D.V i)*(q*D.A r s) - (q*D.A i s)*(q*D.V r)=q*((q*D.A r s)*(D.exch r s).V i):=by
 show _=q*((q*D.A r s)*(if i=r then _ else D.V i - D.A i s*(D.V r / D.A r s)));rw [iC hi];have:=ag7 (a:=D.V r) h;generalize D.V r / D.A r s=c at this;rw [← this];grind
def bi8 (h:D.A r s≠0):(q*D.A r s)*(D.exch r s).A r s=q:=by
 show (q*D.A r s)*(if r=r then (if s=s then 1 / D.A r s else _) else _)=_;rw [iB rfl,iB rfl];have:=ag7 (a:=1) h;grind
def bs1 (h:D.A r s≠0) {j:Nat} (hj:j≠s):(q*D.A r s)*(D.exch r s).A r j=q*D.A r j:=by
 show (q*D.A r s)*(if r=r then (if j=s then _ else D.A r j / D.A r s) else _)=_;rw [iB rfl,iC hj];have:=ag7 (a:=D.A r j) h;grind
def bh4 (h:D.A r s≠0) {i:Nat} (hi:i≠r):(q*D.A r s)*(D.exch r s).A i s=-(q*D.A i s):=by
 show (q*D.A r s)*(if i=r then _ else if s=s then 0 - D.A i s*(if s=s then 1 / D.A r s else _) else _)=_;rw [iC hi,iB rfl,iB rfl];have:=ag7 (a:=1) h;generalize 1 / D.A r s=c at this;have e:q*D.A r s*(0 - D.A i s*c)=-(q*D.A i s*(c*D.A r s)):=zg;rw [e,this];grind
def bS9 (h:D.A r s≠0) {i j:Nat} (hi:i≠r) (hj:j≠s):(q*D.A i j)*(q*D.A r s) - (q*D.A i s)*(q*D.A r j)=q*((q*D.A r s)*(D.exch r s).A i j):=by
 show _=q*((q*D.A r s)*(if i=r then _ else if j=s then _ else D.A i j - D.A i s*(if j=s then _ else D.A r j / D.A r s)));rw [iC hi,iC hj,iC hj];have:=ag7 (a:=D.A r j) h;generalize D.A r j / D.A r s=c at this;rw [← this];grind
def bE4 (h:D.A r s≠0):(q*D.A r s)*(D.exch r s).G s=-(q*D.G s):=by
 show (q*D.A r s)*(if s=s then 0 - D.G s*(if s=s then 1 / D.A r s else _) else _)=_;rw [iB rfl,iB rfl];have:=ag7 (a:=1) h;generalize 1 / D.A r s=c at this;have e:q*D.A r s*(0 - D.G s*c)=-(q*D.G s*(c*D.A r s)):=zg;rw [e,this];grind
def bU5 (h:D.A r s≠0) {j:Nat} (hj:j≠s):(q*D.G j)*(q*D.A r s) - (q*D.G s)*(q*D.A r j)=q*((q*D.A r s)*(D.exch r s).G j):=by
 show _=q*((q*D.A r s)*(if j=s then _ else D.G j - D.G s*(if j=s then _ else D.A r j / D.A r s)));rw [iC hj,iC hj];have:=ag7 (a:=D.A r j) h;generalize D.A r j / D.A r s=c at this;rw [← this];grind
end
def ba6 {m n:Nat} {D0 D:Fd} {q q':Int} {r s:Nat} (h0:a07 m n D0) (hI:∀y c,Ids m n D0 y c↔Ids m n D y c) (hr:r<m) (hs:s<n) (h:a9n m n D0 D q) (h':a9n m n D0 (D.exch r s) q'):
 ((q:Int):Rat)*D.A r s=((q':Int):Rat)\/((q:Int):Rat)*D.A r s=-((q':Int):Rat):=by
 have e:=b0e h0 hI hr hs;rcases h.det with a|a<;>rcases h'.det with b|b<;>rw [a,b] at e
 ·right;grind
 ·left;grind
 ·left;grind
 ·right;grind
structure Zd where
 V:Nat->Int
 A:Nat->Nat->Int
 C:Nat->Int
 D:Int
 O:Nat->Nat
 F:Nat->Nat
namespace Zd
def nx (Z:Zd) (a p b c:Int):Int:=(a*p - b*c) / Z.D
def exV (Z:Zd) (r s:Nat):Nat->Int:=fun i=>if i=r then Z.V r else Z.nx (Z.V i) (Z.A r s) (Z.A i s) (Z.V r)
def exA (Z:Zd) (r s:Nat):Nat->Nat->Int:=fun i j=>if i=r then (if j=s then Z.D else Z.A r j) else if j=s then -(Z.A i s) else Z.nx (Z.A i j) (Z.A r s) (Z.A i s) (Z.A r j)
def exC (Z:Zd) (r s:Nat):Nat->Int:=fun j=>if j=s then -(Z.C s) else Z.nx (Z.C j) (Z.A r s) (Z.C s) (Z.A r j)
def exch (Z:Zd) (r s:Nat):Zd where
 V:=fun i=>if Z.A r s<0 then -(Z.exV r s i) else Z.exV r s i
 A:=fun i j=>if Z.A r s<0 then -(Z.exA r s i j) else Z.exA r s i j
 C:=fun j=>if Z.A r s<0 then -(Z.exC r s j) else Z.exC r s j
 D:=if Z.A r s<0 then -(Z.A r s) else Z.A r s
 O:=fun i=>if i=r then Z.F s else Z.O i
 F:=fun j=>if j=s then Z.O r else Z.F j
end Zd
structure b07 (m n:Nat) (Z:Zd) (D:Fd):Prop where
 d:0<Z.D
 v:∀i,i<m->((Z.V i:Int):Rat)=((Z.D:Int):Rat)*D.V i
 a:∀i,i<m->∀j,j<n->((Z.A i j:Int):Rat)=((Z.D:Int):Rat)*D.A i j
 c:∀j,j<n->((Z.C j:Int):Rat)=((Z.D:Int):Rat)*D.G j
 o:Z.O=D.O
 f:Z.F=D.F
structure bJ1 (m n:Nat) (Z:Zd) (r s:Nat):Prop where
 v:∀i,i<m->i≠r->Z.D ∣ Z.V i*Z.A r s - Z.A i s*Z.V r
 a:∀i,i<m->i≠r->∀j,j<n->j≠s->Z.D ∣ Z.A i j*Z.A r s - Z.A i s*Z.A r j
 c:∀j,j<n->j≠s->Z.D ∣ Z.C j*Z.A r s - Z.C s*Z.A r j
def bw4 {x d e y:Int} (hd:0<d) (h:x=d*(e*y)):d ∣ x/\x / d=e*y:=by
 subst h;exact ⟨⟨_,rfl⟩,aP7 _ om⟩
def b7B {m n r s:Nat} {Z:Zd} {D0 D:Fd} {q:Int} (h0:a07 m n D0) (hI:∀y c,Ids m n D0 y c↔Ids m n D y c) (hr:r<m) (hs:s<n) (hp:D.A r s≠0)
 (h:b07 m n Z D) (hd:a9n m n D0 D Z.D) (hd':a9n m n D0 (D.exch r s) q):bJ1 m n Z r s/\b07 m n (Z.exch r s) (D.exch r s)/\(Z.exch r s).D=q:=by
 have hz0:=h.d
 have hars:=h.a r hr s hs
 have hq:=hd'.pos
 obtain ⟨e,he,hA⟩:∃e:Int,(e=1\/e=-1)/\Z.A r s=e*q:=by
  rcases ba6 h0 hI hr hs hd hd' with k|k
  ·rw [← hars] at k
   exact ⟨1,.inl rfl,by have:Z.A r s=q:=by exact_mod_cast k
                        omega⟩
  ·rw [← hars] at k
   exact ⟨-1,.inr rfl,by have e2:((Z.A r s:Int):Rat)=(((-q:Int):Int):Rat):=by rw [k];push_cast;rfl
                         have:Z.A r s=-q:=by exact_mod_cast e2
                         omega⟩
 have hAq:((Z.D:Int):Rat)*D.A r s=((e:Int):Rat)*((q:Int):Rat):=by rw [← hars,hA];push_cast;rfl
 have he2:e*e=1:=by rcases he with rfl|rfl<;>rfl
 have hsg:∀x:Int,(if Z.A r s<0 then -(e*x) else e*x)=x:=by
  intro x
  rcases he with rfl|rfl
  ·rw [iC (by rw [hA];omega)];omega
  ·rw [iB (by rw [hA];omega)];omega
 have hsg2:∀x y:Int,x=e*y->(if Z.A r s<0 then -x else x)=y:=fun x y hx=>by rw [hx];exact hsg y
 have hD:(if Z.A r s<0 then -(Z.A r s) else Z.A r s)=q:=hsg2 _ _ hA
 have ent:∀(a b c:Int) (x:Rat),(Whole (((q:Int):Rat)*x))->((a:Int):Rat)*(((Z.D:Int):Rat)*D.A r s) - ((b:Int):Rat)*((c:Int):Rat)=((Z.D:Int):Rat)*((((Z.D:Int):Rat)*D.A r s)*x)->
  Z.D ∣ a*Z.A r s - b*c/\(((if Z.A r s<0 then -(Z.nx a (Z.A r s) b c) else Z.nx a (Z.A r s) b c):Int):Rat)=((q:Int):Rat)*x:=by
  intro a b c x hw hx
  have ⟨z,hz⟩:=hw
  have e1:a*Z.A r s - b*c=Z.D*(e*z):=by
   have:(((a*Z.A r s - b*c:Int):Int):Rat)=((Z.D*(e*z):Int):Rat):=by
    push_cast
    rw [← hz,hars,hx,hAq];grind
   exact_mod_cast this
  have ⟨d1,d2⟩:=bw4 hz0 e1
  refine ⟨d1,?_⟩
  rw [hsg2 (Z.nx a (Z.A r s) b c) z d2,hz]
 have sam:∀(a:Int) (x:Rat),((a:Int):Rat)=(((Z.D:Int):Rat)*D.A r s)*x->(((if Z.A r s<0 then -a else a):Int):Rat)=((q:Int):Rat)*x:=by
  intro a x hx
  have:(((e*(if Z.A r s<0 then -a else a):Int)):Rat)=((e:Int):Rat)*(((q:Int):Rat)*x):=by
   have e1:e*(if Z.A r s<0 then -a else a)=a:=by
    rcases he with rfl|rfl
    ·rw [iC (by rw [hA];omega)];omega
    ·rw [iB (by rw [hA];omega)];omega
   rw [e1,hx,hAq];grind
  rcases he with rfl|rfl
  ·push_cast at this;simpa using this
  ·push_cast at this;grind
 have kv:∀i,i<m->i≠r->_:=fun i hi hir=>ent (Z.V i) (Z.A i s) (Z.V r) ((D.exch r s).V i) (hd'.v i hi) (by rw [h.v i hi,h.a i hi s hs,h.v r hr];exact bP1 hp hir)
 have ka:∀i,i<m->i≠r->∀j,j<n->j≠s->_:=fun i hi hir j hj hjs=>ent (Z.A i j) (Z.A i s) (Z.A r j) ((D.exch r s).A i j) (hd'.a i j hi hj) (by rw [h.a i hi j hj,h.a i hi s hs,h.a r hr j hj];exact bS9 hp hir hjs)
 have kc:∀j,j<n->j≠s->_:=fun j hj hjs=>ent (Z.C j) (Z.C s) (Z.A r j) ((D.exch r s).G j) (hd'.g j hj) (by rw [h.c j hj,h.c s hs,h.a r hr j hj];exact bU5 hp hjs)
 refine ⟨⟨fun i hi hir=>(kv i hi hir).1,fun i hi hir j hj hjs=>(ka i hi hir j hj hjs).1,fun j hj hjs=>(kc j hj hjs).1⟩,⟨?_,?_,?_,?_,?_,?_⟩,hD⟩
 ·show 0<(if Z.A r s<0 then -(Z.A r s) else Z.A r s);omega
 ·intro i hi
  show (((if Z.A r s<0 then -(Z.exV r s i) else Z.exV r s i):Int):Rat)=(((if Z.A r s<0 then -(Z.A r s) else Z.A r s):Int):Rat)*_
  rw [hD]
  by_cases hir:i=r
  ·subst hir
   unfold Zd.exV
   rw [iB rfl]
   exact sam _ _ (by rw [h.v i hi];exact (bL2 hp).symm)
  ·unfold Zd.exV
   rw [iC hir]
   exact (kv i hi hir).2
 ·intro i hi j hj
  show (((if Z.A r s<0 then -(Z.exA r s i j) else Z.exA r s i j):Int):Rat)=(((if Z.A r s<0 then -(Z.A r s) else Z.A r s):Int):Rat)*_
  rw [hD]
  unfold Zd.exA
  by_cases hir:i=r
  ·subst hir
   rw [iB rfl]
   by_cases hjs:j=s
   ·subst hjs;rw [iB rfl];exact sam _ _ (bi8 hp).symm
   ·rw [iC hjs];exact sam _ _ (by rw [h.a i hi j hj];exact (bs1 hp hjs).symm)
  ·rw [iC hir]
   by_cases hjs:j=s
   ·subst hjs;rw [iB rfl];exact sam _ _ (by push_cast;rw [h.a i hi j hj];exact (bh4 hp hir).symm)
   ·rw [iC hjs];exact (ka i hi hir j hj hjs).2
 ·intro j hj
  show (((if Z.A r s<0 then -(Z.exC r s j) else Z.exC r s j):Int):Rat)=(((if Z.A r s<0 then -(Z.A r s) else Z.A r s):Int):Rat)*_
  rw [hD]
  unfold Zd.exC
  by_cases hjs:j=s
  ·subst hjs;rw [iB rfl];exact sam _ _ (by push_cast;rw [h.c j hj];exact (bE4 hp).symm)
  ·rw [iC hjs];exact (kc j hj hjs).2
 ·funext i;show (if i=r then Z.F s else Z.O i)=(if i=r then D.F s else D.O i);rw [h.o,h.f]
 ·funext j;show (if j=s then Z.O r else Z.F j)=(if j=s then D.O r else D.F j);rw [h.o,h.f]
noncomputable def b3s (m n:Nat) (D0 D:Fd):Int:=Classical.epsilon fun q=>a9n m n D0 D q
noncomputable def a0s (m n:Nat) (D0 D:Fd):Zd where
 V:=fun i=>(((b3s m n D0 D:Int):Rat)*D.V i).num
 A:=fun i j=>(((b3s m n D0 D:Int):Rat)*D.A i j).num
 C:=fun j=>(((b3s m n D0 D:Int):Rat)*D.G j).num
 D:=b3s m n D0 D
 O:=D.O
 F:=D.F
def ae4 {x:Rat} (h:Whole x):((x.num:Int):Rat)=x:=by
 obtain ⟨z,rfl⟩:=h;rw [a89]
def a7A {m n:Nat} {D0 D:Fd} (h:∃q,a9n m n D0 D q):a9n m n D0 D (a0s m n D0 D).D/\b07 m n (a0s m n D0 D) D:=by
 have hd:a9n m n D0 D (b3s m n D0 D):=aX0 h
 exact ⟨hd,hd.pos,fun i hi=>ae4 (hd.v i hi),fun i hi j hj=>ae4 (hd.a i j hi hj),fun j hj=>ae4 (hd.g j hj),rfl,rfl⟩
structure ba8 (m n:Nat) (Z Z':Zd):Prop where
 v:∀i,i<m->Z.V i=Z'.V i
 a:∀i,i<m->∀j,j<n->Z.A i j=Z'.A i j
 c:∀j,j<n->Z.C j=Z'.C j
 d:Z.D=Z'.D
 o:Z.O=Z'.O
 f:Z.F=Z'.F
def b7T {m n:Nat} {Z Z':Zd} {D:Fd} (h:b07 m n Z D) (h':b07 m n Z' D) (hd:Z.D=Z'.D):ba8 m n Z Z':=
 ⟨fun i hi=>by have a:=h.v i hi;have b:=h'.v i hi;rw [hd,←b] at a;exact_mod_cast a,
  fun i hi j hj=>by have a:=h.a i hi j hj;have b:=h'.a i hi j hj;rw [hd,←b] at a;exact_mod_cast a,
  fun j hj=>by have a:=h.c j hj;have b:=h'.c j hj;rw [hd,←b] at a;exact_mod_cast a,hd,h.o.trans h'.o.symm,h.f.trans h'.f.symm⟩
def b7q {m n r s:Nat} {D0 D:Fd} (h0:a07 m n D0) (hI:∀y c,Ids m n D0 y c↔Ids m n D y c) (hr:r<m) (hs:s<n) (hp:D.A r s≠0) (h:∃q,a9n m n D0 D q) (h':∃q,a9n m n D0 (D.exch r s) q):
 bJ1 m n (a0s m n D0 D) r s/\ba8 m n ((a0s m n D0 D).exch r s) (a0s m n D0 (D.exch r s)):=by
 have ⟨a1,a2⟩:=a7A h;have ⟨b1,b2⟩:=a7A h';have ⟨c1,c2,c3⟩:=b7B h0 hI hr hs hp a2 a1 b1;exact ⟨c1,b7T c2 b2 c3⟩
def al1 {q:Int} {z:Int} {x:Rat} (hq:0<q) (h:((z:Int):Rat)=((q:Int):Rat)*x):(z<0↔x<0)/\(0<z↔0<x):=by
 have hq':(0:Rat)<((q:Int):Rat):=by exact_mod_cast hq
 have k1:x<0->z<0:=fun hx=>by
  have:((q:Int):Rat)*(-x) > 0:=lb2 hq' zg;have:((z:Int):Rat)<((0:Int):Rat):=by rw [h];show _<(0:Rat);grind
  exact_mod_cast this
 have k2:0<x->0<z:=fun hx=>by
  have:((q:Int):Rat)*x > 0:=lb2 hq' hx;have:((0:Int):Rat)<((z:Int):Rat):=by rw [h];show (0:Rat)<_;grind
  exact_mod_cast this
 have k3:x=0->z=0:=fun hx=>by
  have:((z:Int):Rat)=((0:Int):Rat):=by rw [h,hx];show _=(0:Rat);grind
  exact_mod_cast this
 have tri:x<0\/x=0\/0<x:=zg;rcases tri with hx|hx|hx
 ·have:=k1 hx;constructor<;>constructor<;>intro _<;>first|assumption|omega|grind
 ·have:=k3 hx;constructor<;>constructor<;>intro _<;>first|omega|grind
 ·have:=k2 hx;constructor<;>constructor<;>intro _<;>first|assumption|omega|grind
section
variable {α β:Type}
def al4 {l:List α}:∀{i:Nat} {x:α} {k:α->Prop},l[i]? =some x->k x->a4M i l k:=by
 induction l with
 |nil=>intro i x k h;simp at h
 |cons a r ih=>
  intro i x k h hk;cases i with
  |zero=>simp at h;subst h;exact hk
  |succ i=>exact ih (by simpa using h) hk
def aW1 {v:α} {l:List α} {i:Nat} {k:List α->Prop} (h:k (l.set i v)):a7F i v l k:=S0.2 h
def a52 {r l:List α} {k:List α->Prop} (h:k (l++r)):av9 l r k:=a4z.2 h
def G4 {l:List α} {k:List α->Prop} (h:k l):av9 l [] k:=a52 (by rw [a05];exact h)
def b48 {l:List α} {n:Nat} {k:Nat->Prop} (h:k (l.length+n)):ak6 l n k:=a2d.2 (by rw [aL6];exact h)
def a6T {f:β->α} {M:List β} {N n:Nat} {k:Nat->Prop} (h:M.length=N) (hk:k (N+n)):ak6 (M.map f) n k:=b48 (by simpa [h] using hk)
def i9 {f:β->α} {M:List β} {T:List α} {N n:Nat} {k:Nat->Prop} (h:M.length=N) (hk:ak6 T n fun m=>k (N+m)):ak6 (M.map f++T) n k:=by
 refine b48 ?_;have:=(a2d (k:=fun m=>k (N+m))).1 hk;simpa [h,a3w,aL6 n] using this
def i7 {f:β->α} {M:List β} {T r:List α} {k:List α->Prop} (h:av9 T r fun q=>k (M.map f++q)):av9 (M.map f++T) r k:=by
 refine a52 ?_;rw [lbD];exact (a4z (k:=fun q=>k (M.map f++q))).1 h
def b0P {f:β->α} {M:List β} {i:Nat} {x:β} {k:α->Prop} (h:M[i]? =some x) (hk:k (f x)):a4M i (M.map f) k:=al4 (by rw [lba,h];rfl) hk
def J9 {f:β->α} {M:List β} {T:List α} {i:Nat} {x:β} {k:α->Prop} (h:M[i]? =some x) (hk:k (f x)):a4M i (M.map f++T) k:=
 al4 (by rw [lbb (by simpa using (lbe.1 h).1),lba,h];rfl) hk
def j1 {f:β->α} {M:List β} {T:List α} {N t:Nat} {k:α->Prop} (h:M.length=N) (hk:a4M t T k):a4M (N+t) (M.map f++T) k:=by
 have ⟨x,h1,h2⟩:=U9 hk;exact al4 (by rw [lbc (by simp [h])];simpa [h] using h1) h2
def s9 {f:β->α} {M:List β} {T:List α} {N:Nat} {k:α->Prop} (h:M.length=N) (hk:a4M 0 T k):a4M N (M.map f++T) k:=j1 (t:=0) h hk
def a2L {f:β->α} {M:List β} {T:List α} {i:Nat} {v:α} {x:β} {k:List α->Prop} (hi:i<M.length) (hv:v=f x) (h:k ((M.set i x).map f++T)):a7F i v (M.map f++T) k:=
 aW1 (by rw [b4S _ _ (by simpa using hi),hv,←a67];exact h)
def k5 {f:β->α} {M:List β} {T:List α} {N t:Nat} {v:α} {k:List α->Prop} (h:M.length=N) (hk:a7F t v T fun q=>k (M.map f++q)):a7F (N+t) v (M.map f++T) k:=by
 refine aW1 ?_;rw [List.set_append_right _ _ (by simp [h])];simpa [h] using (S0 (k:=fun q=>k (M.map f++q))).1 hk
def C5 {f:β->α} {M:List β} {T:List α} {N:Nat} {v:α} {k:List α->Prop} (h:M.length=N) (hk:a7F 0 v T fun q=>k (M.map f++q)):a7F N v (M.map f++T) k:=k5 (t:=0) h hk
end
def idR (n:Nat):List (Option Nat):=(List.range n).map some
def b04 (n:Nat):(idR n).length=n:=by simp [idR]
def j5 {n i:Nat} (h:i<n):(idR n)[i]? =some (some i):=by simp [idR,h]
def b5J {n i j:Nat} (h:(idR n)[i]? =some (some j)):i=j:=by
 have ⟨h1,h2⟩:=lbe.1 h;simp [idR] at h2;exact h2
def a7E {n:Nat}:∀{m:Nat},m<=n->a3d (idR n) m=true
 |0,_=>rfl
 |m+1,h=>by
  unfold a3d;rw [j5 om,a7E om];simp
def b0n:∀{r:List (Option Nat)} {H:Hp} {n:Nat},(∀ j:Nat,r[j]?≠some (some n))->a5Y n r H=false
 |[],H,n,_=>by cases H<;>rfl
 |x::r,[],n,_=>by cases x<;>rfl
 |x::r,k::H,n,h=>by
  unfold a5Y;rw [b0n (r:=r) (H:=H) (n:=n) (fun j=>by simpa using h (j+1)),Bool.or_false];split
  ·rfl
  ·rename_i m _;have:m≠n:=by rintro rfl;exact h 0 rfl
   cases hb:Nat.beq m n with
   |false=>rfl
   |true=>exact absurd (a1A hb) this
  ·rfl
def a1K:∀{r:List (Option Nat)} {H:Hp},(∀ i j n:Nat,r[i]? =some (some n)->r[j]? =some (some n)->i=j)->Z5 r H=true
 |[],H,_=>by cases H<;>rfl
 |x::r,[],_=>by cases x<;>rfl
 |none::r,k::H,h=>a1K (r:=r) fun i j n h1 h2=>by have:=h (i+1) (j+1) n (by simpa using h1) (by simpa using h2);omega
 |some n::r,k::H,h=>by
  unfold Z5;rw [a1K (r:=r) (H:=H) fun i j n h1 h2=>by have:=h (i+1) (j+1) n (by simpa using h1) (by simpa using h2);omega];rw [b0n (r:=r) (n:=n) (fun j hj=>by have:=h 0 (j+1) n rfl (by simpa using hj);omega)];cases k.mode<;>rfl
def a9R {n:Nat} {H:Hp}:Z5 (idR n) H=true:=a1K fun i j n h1 h2=>by rw [b5J h1,b5J h2]
def a3T {ρ:List (Option Nat)} {H:Hp}:∀{r:List (Option Nat)} {H':Hp},r.length=H'.length->(∀ (i:Nat) (k':Blk),H'[i]? =some k'->∃(j:Nat) (k:Blk),r[i]? =some (some j)/\H[j]? =some k/\a3o ρ H k k')->a4w ρ H r H'
 |[],[],_,_=>trivial
 |[],_::_,h,_=>by simp at h
 |_::_,[],h,_=>by simp at h
 |x::r,k'::H',hl,h=>by
  have ⟨j,k,h1,h2,h3⟩:=h 0 k' rfl;simp at h1;subst h1;refine ⟨?_,a3T (by simpa using hl) fun i k1 hk=>by simpa using h (i+1) k1 (by simpa using hk)⟩;simp only [h2];exact h3
def aH4 {n:Nat} {H:Hp}:∀{l:List C},(∀ c ∈ l,match c with|.t _=>True|.ptr id _ _=>id<n|.own id _ _ _=>id<n|.fn _ _=>False)->a5c (idR n) H l l
 |[],_=>trivial
 |c::r,h=>by
  refine ⟨?_,aH4 fun c hc=>h c (by simp [hc])⟩;have h0:=h c zq;cases c with
  |t x=>exact a1Q x
  |ptr id r o=>exact ⟨j5 h0,rz⟩
  |own id lo len app=>exact ⟨j5 h0,rfl,rfl,fun h=>h⟩
  |fn f caps=>exact h0.elim
def okB (n:Nat) (k:Blk):Prop:=∀r ∈ k.rows,∀c ∈ r,match c with|.t _=>True|.ptr id _ _=>id<n|.own id _ _ _=>id<n|.fn _ _=>False
def A8 {n:Nat} {k:Blk} {rows:List (List T)} (h:k.rows=toC rows):okB n k:=by
 intro r hr c hc;rw [h] at hr;obtain ⟨r0,_,rfl⟩:=lbx.1 hr;obtain ⟨t,_,rfl⟩:=lbx.1 hc;trivial
def aM4 {n:Nat} {H:Hp}:∀{l:List (List C)},(∀ r ∈ l,∀c ∈ r,match c with|.t _=>True|.ptr id _ _=>id<n|.own id _ _ _=>id<n|.fn _ _=>False)->a4Y (idR n) H l l
 |[],_=>trivial
 |r::l,h=>⟨aH4 (h r zq),aM4 fun r hr=>h r (by simp [hr])⟩
def a9V {n:Nat} {H:Hp} {k:Blk} (h:okB n k):a3o (idR n) H k k:=⟨by unfold a45;cases k.mode<;>simp,rfl,rfl,.inr (aM4 h)⟩
def bu8 {n0 n:Nat} {env env':Env} {H H':Hp} (hn:H'.length=n) (h0:n0<=n) (hB:∀(i:Nat) (k':Blk),H'[i]? =some k'->∃k:Blk,H[i]? =some k/\a3o (idR n) H k k') (hE:a0A (idR n) H env env'):Ent n0 (idR n) env H env' H':=
 ⟨a7E h0,a9R,a3T (by rw [b04,hn]) fun i k' hk=>by
   have hi:i<n:=by rw [← hn];exact (lbe.1 hk).1
   have ⟨k,h1,h2⟩:=hB i k' hk;exact ⟨i,k,j5 hi,h1,h2⟩,hE⟩
def a2n {ρ:List (Option Nat)} {H:Hp}:∀{xs ys:List (List C)},xs.length=ys.length->(∀ (i:Nat) (x y:List C),xs[i]? =some x->ys[i]? =some y->a5c ρ H x y)->a4Y ρ H xs ys
 |[],[],_,_=>trivial
 |[],_::_,h,_=>by simp at h
 |_::_,[],h,_=>by simp at h
 |x::xs,y::ys,h,hh=>⟨hh 0 x y rfl rfl,a2n (by simpa using h) fun i a b ha hb=>hh (i+1) a b (by simpa using ha) (by simpa using hb)⟩
def a7k {n0 n:Nat} {env env':Env} {H H':Hp} (hn:H'.length=n) (h0:n0<=n) (hok:∀k ∈ H',okB n k) (hH:∀i,i<n->H[i]? =H'[i]?) (hE:a0A (idR n) H env env'):Ent n0 (idR n) env H env' H':=
 ⟨a7E h0,a9R,a3T (by rw [b04,hn]) fun i k' hk=>by
   have hi:i<n:=by rw [← hn];exact (lbe.1 hk).1
   exact ⟨i,k',j5 hi,by rw [hH i hi];exact hk,a9V (hok k' (lbm hk))⟩,hE⟩
def b30 {n0 n:Nat} {env env':Env} {H' T:Hp} (hn:H'.length=n) (h0:n0<=n) (hok:∀k ∈ H',okB n k) (hE:a0A (idR n) (H'++T) env env'):Ent n0 (idR n) env (H'++T) env' H':=
 a7k hn h0 hok (fun i hi=>by rw [lbb om]) hE
def a7C {n0 n:Nat} {r s:S} {H H':Hp} (hn:H'.length=n) (h0:n0<=n) (hok:∀k ∈ H',okB n k) (hH:∀i,i<n->H[i]? =H'[i]?) (hE:a9j (idR n) H r s):Fin n0 r H s H':=
 ⟨idR n,a7E h0,a9R,a3T (by rw [b04,hn]) fun i k' hk=>by
   have hi:i<n:=by rw [← hn];exact (lbe.1 hk).1
   exact ⟨i,k',j5 hi,by rw [hH i hi];exact hk,a9V (hok k' (lbm hk))⟩,hE⟩
def a5C {n i:Nat} (h:i<n):(List.range n).getD i 0=i:=by simp [h]
mutual
def ao5 {n:Nat}:∀c:C,okC n c=true->a0C (List.range n) c=c
 |.t x,_=>by simp [a0C]
 |.ptr id r o,h=>by simp only [a0C];rw [a5C (by simpa [okC] using h)]
 |.own id lo len app,h=>by simp only [a0C];rw [a5C (by simpa [okC] using h)]
 |.fn f caps,h=>by simp only [a0C];rw [a4R caps (by simpa [okC] using h)]
def a4R {n:Nat}:∀l:List C,okL n l=true->a1X (List.range n) l=l
 |[],_=>by simp [a1X]
 |c::r,h=>by
  simp only [okL,lbN] at h;simp only [a1X];rw [ao5 c h.1,a4R r h.2]
end
def b3K {n:Nat} {s:S} (h:okS n s=true):a65 (List.range n) s=s:=by
 cases s with
 |junk=>rfl
 |c x=>simp only [a65];rw [ao5 x h]
 |agg cs=>simp only [a65];rw [a4R cs h]
 |tup ss=>simp [okS] at h
def b2L {n:Nat}:∀{l:List C},(∀ c ∈ l,match c with|.t _=>True|.ptr id _ _=>id<n|.own id _ _ _=>id<n|.fn _ _=>False)->okL n l=true
 |[],_=>by simp [okL]
 |c::r,h=>by
  simp only [okL,lbN];refine ⟨?_,b2L fun c hc=>h c (by simp [hc])⟩;have h0:=h c zq;cases c with
  |t x=>simp [okC]
  |ptr id r o=>simp only [okC];exact a1o ▸ h0
  |own id lo len app=>simp only [okC];exact a1o ▸ h0
  |fn f caps=>exact h0.elim
def ao6 {n:Nat} {k:Blk} (h:okB n k):aS5 (List.range n) k k:=by
 refine ⟨rfl,rfl,rfl,rfl,?_⟩;unfold a8q;rw [lbp (g:=id) fun r hr=>a4R r (b2L (h r hr))];simp
def b09 {σ:List Nat} {l:List C} (h:l.all C.isT=true):a1X σ l=l:=by
 rw [T9];conv=>rhs;rw [← List.map_id l]
 exact lbp fun c hc=>aw6 (lbv.1 h c hc)
def a3P {P:Program} {g:FuncId} {args:List S} {Hs Hs':Hp} {r:S} {n:Nat} (T:Hp) (h:e8 P g args Hs r Hs') (hn:Hs.length=n) (hn':Hs'.length=n) (hok:args.all (okS n)=true)
 (hin:∀k ∈ Hs,k.mode=.live/\k.app=false/\okB n k) (hout:∀k ∈ Hs',k.mode≠.old/\okB n k) (hr:aA9 r=true) (hr':r.isT=true):e8 P g args (Hs++T) r (Hs'++T):=by
 have e0:Hs'.length - Hs.length=0:=om;have ex:∀m,a4E (List.range n) m (Hs'.length - Hs.length)=List.range n:=fun m=>by rw [e0];simp [a4E]
 have hargs:args=args.map (a65 (List.range n)):=by
  conv=>lhs;rw [← List.map_id args]
  exact lbp fun s hs=>(b3K (lbv.1 hok s hs)).symm
 refine W9 (List.range n) h hargs (by simpa using hok) (by simp [hn]) List.nodup_range ?_ (fun k hk=>(hout k hk).1) om hr ?_ zo ?_ ?_
 ·intro i k hk;have hi:i<n:=by rw [← hn];exact (lbe.1 hk).1
  have ⟨h1,h2,h3⟩:=hin k (lbm hk);refine ⟨h1,h2,fun r hr=>by rw [List.length_range];exact b2L (h3 r hr),k,?_,ao6 h3⟩;rw [a5C hi,lbb om,hk]
 ·rw [ex];cases r with
  |junk=>rfl
  |c x=>simp only [a65];rw [aw6 hr']
  |agg cs=>
   simp only [a65];rw [b09 hr']
  |tup ss=>
   simp only [a65]
   congr 1
   conv=>lhs;rw [← List.map_id ss]
   refine lbp fun s hs=>?_
   have h1:=lbv.1 hr' s hs;cases s with
   |junk=>rfl
   |c x=>simp only [id];rw [aw6 h1]
   |agg cs=>
    simp only [id];rw [b09 h1]
   |tup ss=>rfl
 ·intro i k hk;have hi:i<n:=by rw [← hn'];exact (lbe.1 hk).1
  have ⟨h1,h3⟩:=hout k (lbm hk);rw [ex];exact ⟨k,by rw [a5C hi,lbb om,hk],ao6 h3⟩
 ·intro j hj hnj;have:n<=j:=by
   rcases I0 j n with h|h
   ·exact absurd (lbB.2 h) hnj
   ·exact h
  rw [lbc om,lbc om,hn,hn']
def M6 {P : Program} {τ : Tab} (hτ : G7 P τ) {f : FuncId} {fn : Func} {c : Code} {args : List S} {H : Hp} {s : S} {H' : Hp} (hf : P.funcs[f]? = some fn) (hb : fn.body = some c) (hn : fn.name ≠ "runtime.NumGoroutine")
    (h:Awp P H.length c (args++List.replicate (fn.ntmps - args.length) .junk) H fun x env' H1=>match x with
      |.exit _=>False
      |_=>a9x τ fn env' H1 fun r=>Fin H.length r H1 s H'):e8 P f args H s H':=by
  refine ⟨⟨fn,hf,by rw [hb];rfl,hn⟩,fun w ι M vals hl hr hH hM hF=>?_⟩;refine calls_of_wp hf hb ?_;have hi:=Sim.init hl hr hH hM hF (fn.ntmps - args.length);have:=h.out w ι M H _ w rfl hM hi;have e:vals.toArray.size=args.length:=by simpa using hl
  rw [e];refine wp_mono this ?_;rintro e a' w' ⟨x,env',H1,rfl,hq,ι',M',hd,hsz,he,hH',hM',hF',hst⟩;have key:(a9x τ fn env' H1 fun r=>Fin H.length r H1 s H')->a'.defers=[]/\∃v,(results fn a'.tmps).run P w'=.ok v w'/\∃v',Ending.returned v=.returned v'/\K7 w ι M H s H' v' w':=by
   intro hq;refine ⟨hd,?_⟩;have ⟨l,hk,vs,h1,h2,h3⟩:=a8O hτ he hH' fn.results.toList hq;have hrun:∃v,(results fn a'.tmps).run P w'=.ok v w'/\v=(if h:vs.length=1 then vs[0] else .tuple vs.toArray):=by
    refine ⟨_,?_,rfl⟩;unfold results;rw [Array.mapM_eq_mapM_toList,Sem.run_bind,Sem.run_map];refine (congrArg (fun r=>Result.andThen (Result.andThen r _) _) h1).trans ?_;simp
   obtain ⟨v,hv1,rfl⟩:=hrun;refine ⟨_,hv1,_,rfl,?_⟩;have hsr:∃r,RS w' ι' M' r (if h:vs.length=1 then vs[0] else .tuple vs.toArray)/\Fin H.length r H1 s H':=by
    match l,hk,h2,h3 with
    |[s1],hk,h2,h3=>
     refine ⟨s1,?_,hk⟩;rw [dif_pos (by simpa using h2)];have:=h3 0 s1 rfl;rw [lbl,lbf (by simp at h2;omega)] at this;exact this
    |[],hk,h2,h3=>
     refine ⟨_,?_,hk⟩;rw [dif_neg (by simp at h2;simp [h2])];exact .tup vs h2 h3
    |s1::s2::r,hk,h2,h3=>
     refine ⟨_,?_,hk⟩;rw [dif_neg (by simp at h2;omega)];exact .tup vs h2 h3
   have ⟨r,h4,ρ,f1,f2,f3,f4⟩:=hsr;have ⟨g1,g2,g3⟩:=a4w.all f1 f2 f3 rfl hM hH' hst;exact ⟨X2 ρ ι',_,f4.rs hH' h4,g1,fun b hb=>hM' b hb.1,g2,g3⟩
  cases x with
  |normal=>exact key hq
  |ret=>exact key hq
  |exit id=>exact hq.elim
def w8 {P:Program} {τ:Tab} (hτ:G7 P τ) {n0:Nat} {x y:Code} {env:Env} {H:Hp} {Q:AX->Env->Hp->Prop}
 (h:a5V P τ n0 x env H fun a env' H'=>match a with
   |.normal=>Awp P n0 y env' H' Q
   |a=>Q a env' H'):Awp P n0 (.seq x y) env H Q:=by
 refine ⟨fun w0 ι0 M0 H0 a w hn hM hs=>?_⟩;refine wp_seq (wp_mono ((t4 hτ x h).out w0 ι0 M0 H0 a w hn hM hs) ?_);rintro e a' w' ⟨x,env',H',rfl,hq,hs'⟩;cases x with
 |normal=>exact hq.out w0 ι0 M0 H0 a' w' hn hM hs'
 |exit id=>exact ⟨_,env',H',rfl,hq,hs'⟩
 |ret=>exact ⟨_,env',H',rfl,hq,hs'⟩
def a9i {P:Program} {n0:Nat} {x y:Code} {env:Env} {H:Hp} {Q:AX->Env->Hp->Prop}
 (h:Awp P n0 x env H fun a env' H'=>match a with
   |.normal=>Awp P n0 y env' H' Q
   |a=>Q a env' H'):Awp P n0 (.seq x y) env H Q:=by
 refine ⟨fun w0 ι0 M0 H0 a w hn hM hs=>?_⟩;refine wp_seq (wp_mono (h.out w0 ι0 M0 H0 a w hn hM hs) ?_);rintro e a' w' ⟨x,env',H',rfl,hq,hs'⟩;cases x with
 |normal=>exact hq.out w0 ι0 M0 H0 a' w' hn hM hs'
 |exit id=>exact ⟨_,env',H',rfl,hq,hs'⟩
 |ret=>exact ⟨_,env',H',rfl,hq,hs'⟩
def a8A {P:Program} {n0 id:Nat} {c:Code} {env:Env} {H:Hp} {Q:AX->Env->Hp->Prop} (h:Awp P n0 c env H (bO1 id Q)):Awp P n0 (.block id c) env H Q:=by
 refine ⟨fun w0 ι0 M0 H0 a w hn hM hs=>?_⟩;refine wp_block (wp_mono (h.out w0 ι0 M0 H0 a w hn hM hs) ?_);rintro e a' w' ⟨x,env',H',rfl,hq,hs'⟩;cases x with
 |normal=>exact ⟨_,env',H',rfl,hq,hs'⟩
 |exit j=>
  have hq:cond (Nat.beq j id) (Q .normal env' H') (Q (.exit j) env' H'):=hq;show if j=id then _ else _
  by_cases hj:j=id
  ·subst hj;rw [iB rfl];simp only [aw1,cond_true] at hq;exact ⟨_,env',H',rfl,hq,hs'⟩
  ·rw [iC hj];have:Nat.beq j id=false:=by
    cases hb:Nat.beq j id with
    |false=>rfl
    |true=>exact absurd (a1A hb) hj
   simp only [this,cond_false] at hq;exact ⟨_,env',H',rfl,hq,hs'⟩
 |ret=>exact ⟨_,env',H',rfl,hq,hs'⟩
def b4h {P:Program} {n0:Nat} {c:Code} {env env':Env} {H H':Hp} {Q:AX->Env->Hp->Prop} (ρ:List (Option Nat)) (he:Ent n0 ρ env H env' H') (h:Awp P n0 c env' H' Q):Awp P n0 c env H Q:=
 ⟨fun w0 ι0 M0 H0 a w hn hM hs=>h.out w0 ι0 M0 H0 a w hn hM (he.sim hn hM hs)⟩
def B4 {P:Program} {τ:Tab} (hτ:G7 P τ) {n0:Nat} {x y:Code} {env:Env} {H:Hp} {Q:AX->Env->Hp->Prop} (E2:Env) (H2:Hp)
 (h:a5V P τ n0 x env H fun a env' H'=>match a with
   |.normal=>∃ρ,Ent n0 ρ env' H' E2 H2
   |a=>Q a env' H') (h2:Awp P n0 y E2 H2 Q):Awp P n0 (.seq x y) env H Q:=by
 refine ⟨fun w0 ι0 M0 H0 a w hn hM hs=>?_⟩;refine wp_seq (wp_mono ((t4 hτ x h).out w0 ι0 M0 H0 a w hn hM hs) ?_);rintro e a' w' ⟨x,env',H',rfl,hq,hs'⟩;cases x with
 |normal=>have ⟨ρ,he⟩:=hq;exact h2.out w0 ι0 M0 H0 a' w' hn hM (he.sim hn hM hs')
 |exit id=>exact ⟨_,env',H',rfl,hq,hs'⟩
 |ret=>exact ⟨_,env',H',rfl,hq,hs'⟩
def at5 {P:Program} {n0:Nat} {c:Code} {env:Env} {H:Hp} {Q:AX->Env->Hp->Prop} (E:Nat->Env × Hp) (n:Nat) (I:Nat->Prop) (ρ0:List (Option Nat))
 (hI:I 0) (h0:Ent n0 ρ0 env H (E 0).1 (E 0).2)
 (round:∀k,k<=n->I k->Awp P n0 c (E k).1 (E k).2 fun a env' H'=>match a with
   |.normal=>k<n/\I (k+1)/\∃ρ,Ent n0 ρ env' H' (E (k+1)).1 (E (k+1)).2
   |a=>Q a env' H'):Awp P n0 (.loop c) env H Q:=by
 refine a9Q (σ:={ k:Nat // k<=n/\I k }) (fun k=>E k.1) (fun k=>n - k.1) ⟨0,G0 _,hI⟩ ρ0 h0 ?_;rintro ⟨k,hk,hi⟩;refine (round k hk hi).mono ?_;intro a env' H' h;cases a with
 |normal=>
  have ⟨h1,h2,ρ,h3⟩:=h;exact ⟨ρ,⟨k+1,h1,h2⟩,h3,by show n - (k+1)<n - k;omega⟩
 |exit id=>exact h
 |ret=>exact h
inductive VY (H:Hp) (p:Nat->Prop):C->T->Prop
 |vc {x:C} {y:T} (h:VC H p x y):VY H p x y
 |own {id lo len:Nat} {app:Bool} {size:Nat} {k:Blk} {rows:List (List T)} (hp:p id) (hk:H[id]? =some k) (hd:¬k.mode.gone) (hs:k.size=size) (hl:rows.length=len)
   (hw:∀r ∈ rows,r.length=size) (g:Nat->Nat->C) (hc:∀i j c,at2 rows i j=some c->at2 k.rows (lo+i) j=some (g i j))
   (hx:∀i j c,at2 rows i j=some c->VY H p (g i j) c):VY H p (.own id lo len app) (.sl size .any rows)
 |ptr {id r o:Nat} {k:Blk} {row:List C} {cells:List T} (hp:p id) (hk:H[id]? =some k) (hd:¬k.mode.gone) (hr:k.rows[r]? =some row)
   (g:Nat->C) (hc:∀j c,cells[j]? =some c->row[o+j]? =some (g j)) (hx:∀j c,cells[j]? =some c->VY H p (g j) c):VY H p (.ptr id r o) (.ptr cells)
 |fn {f:Fn} {caps:List C} {caps':List T} (hl:caps.length=caps'.length) (g:Nat->C) (hc:∀j c,caps'[j]? =some c->caps[j]? =some (g j))
   (hx:∀j c,caps'[j]? =some c->VY H p (g j) c):VY H p (.fn f caps) (.fn f caps')
def VYL (H:Hp) (p:Nat->Prop):List C->List T->Prop
 |[],[]=>True
 |x::r,y::r'=>VY H p x y/\VYL H p r r'
 |_,_=>False
def VYL.get {H:Hp} {p:Nat->Prop}:∀{xs:List C} {ys:List T},VYL H p xs ys->xs.length=ys.length/\∀(j:Nat) (c:T),ys[j]? =some c->∃x,xs[j]? =some x/\VY H p x c
 |[],[],_=>⟨rfl,zq⟩
 |x::xs,y::ys,h=>by
  have ⟨h1,h2⟩:=VYL.get h.2;refine ⟨by simp [h1],fun j c hc=>?_⟩;cases j with
  |zero=>simp at hc;subst hc;exact ⟨x,rfl,h.1⟩
  |succ j=>simpa using h2 j c (by simpa using hc)
 |[],_::_,h=>h.elim
 |_::_,[],h=>h.elim
def a1C {H:Hp} {p:Nat->Prop} {x:T}:VY H p (.t x) x:=.vc (av7 (a1Q x))
def a6Z {H:Hp} {p:Nat->Prop} {id r o:Nat} {k:Blk} {row:List C} {cells:List T} (hp:p id) (hk:H[id]? =some k) (hd:¬k.mode.gone) (hr:k.rows[r]? =some row) (h:VYL H p (row.drop o) cells):VY H p (.ptr id r o) (.ptr cells):=by
 have ⟨h1,h2⟩:=h.get;refine .ptr hp hk hd hr (fun j=>(row.drop o).getD j (.t (.ptr []))) (fun j c hc=>?_) (fun j c hc=>?_)
 ·have ⟨x,hx,_⟩:=h2 j c hc;rw [lbj] at hx;rw [lbl,lbj,hx];rfl
 ·have ⟨x,hx,hv⟩:=h2 j c hc;rw [lbl,hx];exact hv
def b4U {H:Hp} {p:Nat->Prop} {f:Fn} {caps:List C} {caps':List T} (h:VYL H p caps caps'):VY H p (.fn f caps) (.fn f caps'):=by
 have ⟨h1,h2⟩:=h.get;refine .fn h1 (fun j=>caps.getD j (.t (.ptr []))) (fun j c hc=>?_) (fun j c hc=>?_)
 ·have ⟨x,hx,_⟩:=h2 j c hc;rw [lbl,hx];rfl
 ·have ⟨x,hx,hv⟩:=h2 j c hc;rw [lbl,hx];exact hv
def b3e {H:Hp} {p:Nat->Prop} {id len size:Nat} {app:Bool} {k:Blk} {rows:List (List T)} (hp:p id) (hk:H[id]? =some k) (hd:¬k.mode.gone) (hs:k.size=size) (hl:rows.length=len)
 (hw:∀r ∈ rows,r.length=size) (h:∀(i:Nat) (r:List T),rows[i]? =some r->∃row,k.rows[i]? =some row/\VYL H p row r):VY H p (.own id 0 len app) (.sl size .any rows):=by
 have key:∀i j c,at2 rows i j=some c->∃x,at2 k.rows i j=some x/\VY H p x c:=fun i j c hc=>by
  have ⟨r,h1,h2⟩:=J4 hc;have ⟨row,h3,h4⟩:=h i r h1;have ⟨x,h5,h6⟩:=h4.get.2 j c h2;exact ⟨x,G5 h3 h5,h6⟩
 refine .own hp hk hd hs hl hw (fun i j=>(at2 k.rows i j).getD (.t (.ptr []))) (fun i j c hc=>?_) (fun i j c hc=>?_)
 ·have ⟨x,hx,_⟩:=key i j c hc;rw [W7,hx];rfl
 ·have ⟨x,hx,hv⟩:=key i j c hc;rw [hx];exact hv
def VY.rt {H:Hp} {p:Nat->Prop} {w:World} {ι:Io} {M M':Ms} (hH:v5 w ι M H) (hM:∀b,M' b->M b) (hp:∀id k b cap size,p id->H[id]? =some k->¬k.mode.gone->ι id=some (.blk b cap size)->¬M' b)
 {x:C} {y:T} (h:VY H p x y):∀{v:Value},RC w ι M x v->RT w M' y v:=by
 induction h with
 |vc h=>intro v hr;exact VC.rt hH hM hp _ _ _ h hr
 |@own id lo len app size k rows hpi hk hd hs hl hw g hc hx ih=>
  intro v hr;cases hr with
  |@own _ _ _ _ b cap sz A cap' hi q1 q2 q3 q4 q5=>
   subst hl;have hbr:=hH.blk id k hk (fun e=>hd (by rw [e];trivial)) _ hi;have ⟨r1,r2,r3,r4,r5,cur,r6,r7,r8⟩:=hbr;have hnm:=hp id k b cap sz hpi hk hd hi;have hse:sz=size:=by rw [← hs,r1]
   subst hse;have hat:∀(i j:Nat) (c:T),at2 rows i j=some c->∃u,cur[(lo+i)*sz+j]? =some u/\RT w M' c u:=fun i j c hij=>by
    have ⟨u,t1,t2⟩:=r8 _ _ _ (hc i j c hij);exact ⟨u,t1,ih i j c hij t2⟩
   refine .sl (b:=b) (off:=lo*sz) (fun i j=>cur.getD ((lo+i)*sz+j) undef) hw q3 q4 zi zi (fun hne=>q2 (a7N.2 hne)) ?_ ?_
   ·intro i j c hc';have ⟨u,s1,s2⟩:=hat i j c hc';refine ⟨?_,hnm⟩;have e:lo*sz+(i*sz+j)=(lo+i)*sz+j:=by rw [Y3,a3w]
    simp only [World.cell?];rw [r6,e];simp [s1]
   ·intro i j c hc';have ⟨u,s1,s2⟩:=hat i j c hc';have:cur.getD ((lo+i)*sz+j) undef=u:=by simp [s1]
    rw [this];exact s2
  |nil hi=>
   have hr0:rows=[]:=lbF hl;subst hr0;exact .sl (b:=0) (off:=0) (fun _ _=>undef) zq zq (by unfold maxLen;omega) zq zq zq (by simp [at2]) (by simp [at2])
 |@ptr id r o k row cells hpi hk hd hrow g hc hx ih=>
  intro v hr;cases hr with
  |@ptr _ _ _ b cap size hi=>
   have hb:=(hH.blk id k hk (fun e=>hd (by rw [e];trivial)) _ hi).row hrow;have hnm:=hp id k b cap size hpi hk hd hi;refine .ptr (fun j=>(w.cell? ⟨b,r*size+o+j,none⟩).getD undef) (fun j c hj=>?_) (fun j c hj=>?_)
   ·have ⟨u,h1,h2⟩:=hb _ _ (hc j c hj);rw [a3w,h1];exact ⟨rfl,hnm⟩
   ·have ⟨u,h1,h2⟩:=hb _ _ (hc j c hj);rw [a3w,h1];exact ih j c hj h2
 |@fn f caps caps' hl g hc hx ih=>
  intro v hr;cases hr with
  |fn vs hl' hr=>
   exact .fn vs om fun j c hj=>ih j c hj (hr j _ (hc j c hj))
def VYS (H:Hp) (p:Nat->Prop) (s s':S):Prop:=
 match s' with
 |.junk=>True
 |.c y=>match s,y with
  |.c x,.t y=>VY H p x y
  |_,_=>False
 |.agg ys=>match s with
  |.agg xs=>∃ts,ys=ts.map C.t/\VYL H p xs ts
  |_=>False
 |.tup _=>False
def VYS.rs {H:Hp} {p:Nat->Prop} {w:World} {ι ι':Io} {M M':Ms} (hH:v5 w ι M H) (hM:∀b,M' b->M b) (hp:∀id k b cap size,p id->H[id]? =some k->¬k.mode.gone->ι id=some (.blk b cap size)->¬M' b)
 {x y:S} {v:Value} (h:VYS H p x y) (hr:RS w ι M x v):RS w ι' M' y v:=by
 cases y with
 |junk=>exact .junk
 |c y=>
  cases x with
  |c x=>
   cases y with
   |t y=>
    cases hr with
    |c hr=>exact .c (.t (VY.rt hH hM hp h hr))
   |_=>exact False.elim h
  |_=>exact False.elim h
 |agg ys=>
  cases x with
  |agg xs=>
   obtain ⟨ts,rfl,h⟩:=h;have ⟨h1,h2⟩:=h.get;cases hr with
   |agg vs hl hr=>
    refine .agg vs zo fun j c hj=>?_
    rw [lba] at hj;cases hj':ts[j]? with
    |none=>rw [hj'] at hj;cases hj
    |some c'=>
     rw [hj'] at hj;injection hj with hj;subst hj;have ⟨x,hx,hv⟩:=h2 j c' hj';exact .t (VY.rt hH hM hp hv (hr j x hx))
  |_=>exact False.elim h
 |tup _=>exact False.elim h
def a10 (H:Hp) (p:Nat->Prop):List S->List S->Prop
 |[],[]=>True
 |s::r,s'::r'=>VYS H p s s'/\a10 H p r r'
 |_,_=>False
def a10.get {H:Hp} {p:Nat->Prop}:∀{l l':List S},a10 H p l l'->l.length=l'.length/\∀(j:Nat) (s':S),l'[j]? =some s'->∃s,l[j]? =some s/\VYS H p s s'
 |[],[],_=>⟨rfl,zq⟩
 |s::r,s'::r',h=>by
  have ⟨h1,h2⟩:=a10.get h.2;refine ⟨by simp [h1],fun j t ht=>?_⟩;cases j with
  |zero=>simp at ht;subst ht;exact ⟨s,rfl,h.1⟩
  |succ j=>simpa using h2 j t (by simpa using ht)
 |[],_::_,h=>h.elim
 |_::_,[],h=>h.elim
def m6 {P:Program} {g:FuncId} {args args':List S} {H:Hp} {r:S} (h:e8 P g args' [] r []) (ha:a10 H tT args args') (hr:r.flat=true):a0x P g args H r []:=by
 refine ⟨h.1,fun w ι M vals hl hv hH hM hf=>?_⟩;have ⟨hlen,hget⟩:=a10.get ha;have:=h.2 w (fun _=>none) (fun _=>False) vals om (fun j s hj=>by
  have ⟨x,hx,hs⟩:=hget j s hj;exact hs.rs hH (fun _ h=>h.elim) (fun _ _ _ _ _ _ _ _ _ h=>h) (hv j x hx))
  .none (fun _ h=>h.elim) (fun _ _=>rfl)
 refine Calls.mono this ?_;rintro e w' ⟨v,rfl,ι',M',h1,h2,h3,h4,h5⟩;exact ⟨v,rfl,P4.of_none (h1.flat hr) ⟨h5.os,h5.tape,h5.output,h5.size,fun b hb=>h5.keep b hb zB⟩⟩
def b2s {w0:World} {ι0:Io} {M0:Ms} {a:Act} {w:World} {env env':Env} {H:Hp} (hM0:MB w0 M0) (h:a10 H tT env env') (hs:Sim w0 ι0 M0 [] a w env H):Sim w0 ι0 M0 [] a w env' []:=by
 have ⟨ι,M,hd,hsz,he,hH,hM,hF,hst⟩:=hs;have ⟨hel,heg⟩:=h.get;have ⟨q1,q2,q3⟩:=a4w.all (ρ:=[]) (H:=H) (H':=[]) (n0:=0) rfl rfl trivial rfl hM0 hH hst;refine ⟨X2 [] ι,_,hd,om,fun t s' ht=>?_,q1,fun b hb=>hM b hb.1,q2,q3⟩;have ⟨s,r1,r2⟩:=heg t s' ht;refine r2.rs hH (fun b hb=>hb.1) ?_ (he t s r1);intro id k b cap size _ hk hd hi hb;exact hb.2 ⟨id,k,cap,size,rfl,hk,hd,hi⟩
def b8c {P:Program} {τ:Tab} (hτ:G7 P τ) {x y:Code} {env:Env} {H:Hp} {Q:AX->Env->Hp->Prop} (E2:Env)
 (h:a5V P τ 0 x env H fun a env' H'=>match a with
   |.normal=>a10 H' tT env' E2
   |a=>Q a env' H') (h2:Awp P 0 y E2 [] Q):Awp P 0 (.seq x y) env H Q:=by
 refine ⟨fun w0 ι0 M0 H0 a w hn hM hs=>?_⟩;obtain rfl:H0=[]:=lbF hn;refine wp_seq (wp_mono ((t4 hτ x h).out w0 ι0 M0 [] a w hn hM hs) ?_);rintro e a' w' ⟨x,env',H',rfl,hq,hs'⟩;cases x with
 |normal=>exact h2.out w0 ι0 M0 [] a' w' hn hM (b2s hM hq hs')
 |exit id=>exact ⟨_,env',H',rfl,hq,hs'⟩
 |ret=>exact ⟨_,env',H',rfl,hq,hs'⟩
def a5L (i n:Int):ec 55 [eI i,eI n] [] (n7 (idx i n)) []:=by
 refine ac Tryz.func55 ?_;conv=>whnf
 repeat' (first|refine zx ?_|apply zD<;>intro<;>try omega)<;>conv=>whnf
 all_goals (refine j6 ?_;simp only [idx];simp;omega)
def a4v (n lo hi:Int):ec 56 [eI n,eI lo,eI hi] [] (n7 (btw n lo hi)) []:=by
 refine ac Tryz.func56 ?_;conv=>whnf
 repeat' (first|refine zx ?_|apply zD<;>intro<;>try omega)<;>conv=>whnf
 all_goals (refine j6 ?_;simp only [btw];simp;omega)
def b5f (p:Int × Int):List T:=[ti p.1,ti p.2]
def aI7 (e:Ev):List (Int × Int):=[(e.mats,6),(e.hhs,100),(e.scs,30),(e.places.length,100),(e.moves.length,200),(e.certs.length,100),(e.recalls.length,30),(e.purities.length,200)]
def aH9 (e:Ev):a3x e=(aI7 e).any fun p=>decide (p.2<p.1):=by
 rw [Bool.eq_iff_iff];simp [a3x,aI7];omega
set_option maxRecDepth 100000 in
def bJ0 (e:Ev) (hs:e.Sized):e8 Tryz.prog 30 [evS e] [] (n7 (a3x e)) []:=by
 (refine ac Tryz.func30 ?_;(conv=>whnf);repeat (refine zy ?_;conv=>whnf))
 have hl:(aI7 e).length=8:=rfl
 refine k6 g8 (fun k=>(Jn 34++[S.c (C.t (T.sl 2 .full ((aI7 e).map b5f))),e7 .i64 8,e7 .i64 k]++Jn 9,[])) 8 (fun k=>((aI7 e).take k).any (fun p=>decide (p.2<p.1))=false) [] rfl
  ⟨rfl,rfl,trivial,⟨m9 (by simp [aI7,b5f]),rfl,rfl,trivial⟩⟩ ?_
 intro k hk hI
 conv=>whnf
 repeat' (first|refine zx ?_|refine zd ?_ ?_<;>intro h<;>try omega|fail)<;>conv=>whnf
 ·have hlt:k<8:=by omega
  refine j4 (lbf (hl ▸ hlt)) ?_
  conv=>whnf
  repeat' (first|refine zx ?_|refine zd ?_ ?_<;>intro h<;>try omega|fail)<;>conv=>whnf
  ·refine j6 ?_
   rw [aH9,a5k (lbf (hl ▸ hlt))]
   simpa using ‹_ > _›
  ·refine ⟨hlt,?_,[],rfl,rfl,trivial,⟨rfl,rfl,rfl,trivial⟩⟩
   rw [a24 (lbf (hl ▸ hlt)),hI]
   have h:=‹¬ _ > _›
   simp;omega
 ·refine j6 ?_
  rw [aH9,←hI,lbn om]
def b7l (e:Ev) (hs:e.Sized):e8 Tryz.prog 31 [evS e] [] (n7 (e.places.all (a0O e))) []:=by
 have l1:=hs.s1
 have l2:(e.places.map a0y.row).length=e.places.length:=zq
 (refine ac Tryz.func31 ?_;(conv=>whnf);repeat (refine zy ?_;conv=>whnf))
 refine k6 g8 (fun k=>([J,S.c (C.ptr 0 0 0),J,J,J,J,S.c (C.t (a7D e.places)),e7 .i64 e.places.length,e7 .i64 k]++Jn 36,[evB e])) e.places.length (fun k=>(e.places.take k).all (a0O e)=true) [some 0] rfl
  ⟨rfl,rfl,⟨⟨rfl,rfl,rfl,.inl ⟨rfl,F3 e⟩⟩,trivial⟩,⟨⟨rfl,rfl,rfl⟩,m9 rfl,g9 zq,g9 rfl,trivial⟩⟩ ?_
 intro k hk hI
 conv=>whnf
 repeat' (first|refine zx ?_|refine zd ?_ ?_<;>intro h<;>try omega|fail)<;>conv=>whnf
 ·have hlt:k<e.places.length:=by omega
  have ⟨x,hx⟩:=iA hlt
  refine j4 hx ?_
  conv=>whnf
  repeat' (first|refine zx ?_|refine qp (a5L _ _) ?_|refine zd ?_ ?_<;>intro h<;>try omega|fail)<;>conv=>whnf
  all_goals first
   |(refine ⟨hlt,?_,[some 0],rfl,rfl,⟨⟨rfl,rfl,rfl,.inl ⟨rfl,F3 e⟩⟩,trivial⟩,⟨⟨rfl,rfl,rfl⟩,rfl,rfl,rfl,trivial⟩⟩;rw [D5 hx,hI];simp_all [a0O];done)
   |(refine j6 ?_;rw [H3 hx];simp_all [a0O];done)
 ·refine j6 ?_
  rw [← hI,lbn om]
def a7y {e:Ev} {i:Int} (h:idx i e.places.length=true):0<=i/\∃x,e.places[i.toNat]? =some x/\O2 e i=x.kind:=by
 have h':=aQ9.1 h;have hlt:i.toNat<e.places.length:=om;refine ⟨h'.1,_,lbf hlt,?_⟩;unfold O2;rw [lbf hlt];rfl
def bD5 (e:Ev) (m:C6) (hs:e.Sized):ec 32 [evS e,b5M m] [] (n7 (P1 e m)) []:=by
 have l1:=hs.s1;have l2:(e.places.map a0y.row).length=e.places.length:=zq;by_cases h1:idx m.src e.places.length=true
 ·have ⟨hs0,x,hx,kx⟩:=a7y h1;by_cases h2:idx m.dst e.places.length=true
  ·have ⟨hd0,y,hy,ky⟩:=a7y h2;refine ac Tryz.func32 ?_;conv=>whnf
   rw [← l2] at h1 h2
   repeat' (first|refine zx ?_|refine qp (a5L _ _) ?_|refine qp (a4v _ _ _) ?_|refine K6 hs0 hx ?_|refine K6 hd0 hy ?_|apply zD<;>intro<;>try omega)<;>conv=>whnf
   all_goals (refine j6 ?_;simp_all [P1];done)
  ·refine ac Tryz.func32 ?_;conv=>whnf
   rw [← l2] at h1 h2
   repeat' (first|refine zx ?_|refine qp (a5L _ _) ?_|apply zD<;>intro<;>try omega)<;>conv=>whnf
   all_goals first|(exfalso;simp_all;done)|(refine j6 ?_;simp_all [P1];done)
 ·refine ac Tryz.func32 ?_;conv=>whnf
  rw [← l2] at h1
  repeat' (first|refine zx ?_|refine qp (a5L _ _) ?_|apply zD<;>intro<;>try omega)<;>conv=>whnf
  all_goals first|(exfalso;simp_all;done)|(refine j6 ?_;simp_all [P1];done)
def bM4 (e:Ev) (hs:e.Sized):e8 Tryz.prog 33 [evS e] [] (n7 (a0X e)) []:=by
 have l1:=hs.s3
 have l2:(e.certs.map Q3.row).length=e.certs.length:=zq
 have l3:=hs.s4
 have l4:(e.recalls.map J5.row).length=e.recalls.length:=zq
 have l5:=hs.s5
 have l6:(e.purities.map a2w.row).length=e.purities.length:=zq
 have l7:=hs.s2
 have l8:(e.moves.map C6.row).length=e.moves.length:=zq
 (refine ac Tryz.func33 ?_;(conv=>whnf);repeat (refine zy ?_;conv=>whnf))
 refine k6 g8 (fun k=>([J,S.c (C.ptr 0 0 0),J,J,J,J,J,J,J,J,J,S.c (C.t (a1L e.certs)),e7 .i64 e.certs.length,e7 .i64 k]++Jn 107,[evB e])) e.certs.length (fun k=>(e.certs.take k).all (a54 e)=true) [some 0] rfl
  ⟨rfl,rfl,⟨⟨rfl,rfl,rfl,.inl ⟨rfl,F3 e⟩⟩,trivial⟩,⟨⟨rfl,rfl,rfl⟩,m9 rfl,g9 zq,g9 rfl,trivial⟩⟩ ?_
 intro k hk hI
 conv=>whnf
 repeat' (first|refine zx ?_|refine zd ?_ ?_<;>intro h<;>try omega|fail)<;>conv=>whnf
 ·have hlt:k<e.certs.length:=by omega
  have ⟨x,hx⟩:=iA hlt
  refine j4 hx ?_
  conv=>whnf
  repeat' (first|refine zx ?_|refine qp (a5L _ _) ?_|refine qp (a4v _ _ _) ?_|refine zd ?_ ?_<;>intro h<;>try omega|fail)<;>conv=>whnf
  all_goals first
   |(refine ⟨hlt,?_,[some 0],rfl,rfl,⟨⟨rfl,rfl,rfl,.inl ⟨rfl,F3 e⟩⟩,trivial⟩,⟨⟨rfl,rfl,rfl⟩,rfl,rfl,rfl,trivial⟩⟩;rw [D5 hx,hI];simp_all [a54];done)
   |(refine j6 ?_;rw [a0X,H3 hx];rfl;simp_all [a54];(try omega);done)
 ·have hc:e.certs.all (a54 e)=true:=by rw [← hI,lbn om]
  clear hI h hk
  refine k6 g8 (fun k=>([J,S.c (C.ptr 0 0 0)]++Jn 60++[S.c (C.t (S2 e.recalls)),e7 .i64 e.recalls.length,e7 .i64 k]++Jn 56,[evB e])) e.recalls.length (fun k=>(e.recalls.take k).all (a1m e)=true) [some 0] rfl
   ⟨rfl,rfl,⟨⟨rfl,rfl,rfl,.inl ⟨rfl,F3 e⟩⟩,trivial⟩,⟨⟨rfl,rfl,rfl⟩,m9 rfl,g9 zq,g9 rfl,trivial⟩⟩ ?_
  intro k hk hI
  conv=>whnf
  repeat' (first|refine zx ?_|refine zd ?_ ?_<;>intro h<;>try omega|fail)<;>conv=>whnf
  ·have hlt:k<e.recalls.length:=by omega
   have ⟨x,hx⟩:=iA hlt
   refine j4 hx ?_
   conv=>whnf
   repeat' (first|refine zx ?_|refine qp (a5L _ _) ?_|refine qp (a4v _ _ _) ?_|refine zd ?_ ?_<;>intro h<;>try omega|fail)<;>conv=>whnf
   all_goals first
    |(refine ⟨hlt,?_,[some 0],rfl,rfl,⟨⟨rfl,rfl,rfl,.inl ⟨rfl,F3 e⟩⟩,trivial⟩,⟨⟨rfl,rfl,rfl⟩,rfl,rfl,rfl,trivial⟩⟩;rw [D5 hx,hI];simp_all [a1m];done)
    |(refine j6 ?_;rw [a0X,hc,H3 hx];rfl;simp_all [a1m];done)
  ·have hr:e.recalls.all (a1m e)=true:=by rw [← hI,lbn om]
   clear hI h hk
   refine k6 g8 (fun k=>([J,S.c (C.ptr 0 0 0)]++Jn 80++[S.c (C.t (a2Q e.purities)),e7 .i64 e.purities.length,e7 .i64 k]++Jn 36,[evB e])) e.purities.length (fun k=>(e.purities.take k).all (a1g e)=true) [some 0] rfl
    ⟨rfl,rfl,⟨⟨rfl,rfl,rfl,.inl ⟨rfl,F3 e⟩⟩,trivial⟩,⟨⟨rfl,rfl,rfl⟩,m9 rfl,g9 zq,g9 rfl,trivial⟩⟩ ?_
   intro k hk hI
   conv=>whnf
   repeat' (first|refine zx ?_|refine zd ?_ ?_<;>intro h<;>try omega|fail)<;>conv=>whnf
   ·have hlt:k<e.purities.length:=by omega
    have ⟨x,hx⟩:=iA hlt
    refine j4 hx ?_
    conv=>whnf
    repeat' (first|refine zx ?_|refine qp (a5L _ _) ?_|refine qp (a4v _ _ _) ?_|refine zd ?_ ?_<;>intro h<;>try omega|fail)<;>conv=>whnf
    all_goals first
     |(refine ⟨hlt,?_,[some 0],rfl,rfl,⟨⟨rfl,rfl,rfl,.inl ⟨rfl,F3 e⟩⟩,trivial⟩,⟨⟨rfl,rfl,rfl⟩,rfl,rfl,rfl,trivial⟩⟩;rw [D5 hx,hI];simp_all [a1g];done)
     |(refine j6 ?_;rw [a0X,hc,hr,H3 hx];rfl;simp_all [a1g];(try omega);done)
   ·have hp:e.purities.all (a1g e)=true:=by rw [← hI,lbn om]
    refine j6 ?_
    rw [a0X,hc,hr,hp];rfl
def a4i (e:Ev):Nat->Int
 |0=>0
 |k+1=>((e.moves[k]?).map (·.day)).getD 0
def a2X {e:Ev} {k:Nat} {m:C6} (h:e.moves[k]? =some m):a4i e (k+1)=m.day:=by simp [a4i,h]
def a2a {α:Type} {l:List α} {k:Nat} {x:α} (h:l[k]? =some x):l.drop k=x::l.drop (k+1):=by
 have ⟨h1,h2⟩:=lbe.1 h;rw [a3r h1,h2]
def b5m (e:Ev) (hs:e.Sized):e8 Tryz.prog 20 [evS e] [] (e7 .i64 (I4 e)) []:=by
 have l7:=hs.s2
 have l8:(e.moves.map C6.row).length=e.moves.length:=zq
 (refine ac Tryz.func20 ?_;(conv=>whnf);repeat (refine zy ?_;conv=>whnf))
 repeat' (first|refine zx ?_|refine qp (bJ0 _ hs) ?_|refine qp (b7l _ hs) ?_|refine zd ?_ ?_<;>intro h<;>try omega|fail)<;>conv=>whnf
 case refine_2.refine_2.refine_2.refine_2.refine_1 hf h1 h2 h3=>
  have h4:=h
  clear h
  have hpre:¬(e.mats<1\/e.hhs<0\/e.scs<0\/e.places.all (a0O e)=false):=by
   rintro (h|h|h|h)
   ·omega
   ·omega
   ·omega
   ·rw [h4] at h;cases h
  have hck:I4 e=if E9 e 0 e.moves≠0 then E9 e 0 e.moves else if a0X e then 0 else 1:=by
   unfold I4;rw [iC (by simp [hf]),iC hpre]
  refine k6 g8 (fun k=>([J,S.c (C.ptr 0 0 0),J,e7 .i64 (a4i e k)]++Jn 25++[S.c (C.t (a5q e.moves)),e7 .i64 e.moves.length,e7 .i64 k]++Jn 22,[evB e])) e.moves.length (fun k=>E9 e 0 e.moves=E9 e (a4i e k) (e.moves.drop k)) [some 0] rfl
   ⟨rfl,rfl,⟨⟨rfl,rfl,rfl,.inl ⟨rfl,F3 e⟩⟩,trivial⟩,⟨⟨rfl,rfl,rfl⟩,g9 rfl,m9 rfl,g9 zq,g9 rfl,trivial⟩⟩ ?_
  intro k hk hI
  conv=>whnf
  repeat' (first|refine zx ?_|refine zd ?_ ?_<;>intro h<;>try omega|fail)<;>conv=>whnf
  ·have hlt:k<e.moves.length:=by omega
   have ⟨x,hx⟩:=iA hlt
   rw [a2a hx,E9] at hI
   refine j4 hx ?_
   conv=>whnf
   repeat' (first|refine zx ?_|refine qp (bD5 _ x hs) ?_|refine zd ?_ ?_<;>intro h<;>try omega|fail)<;>conv=>whnf
   all_goals first
    |(refine ⟨hlt,?_,[some 0],rfl,rfl,⟨⟨rfl,rfl,rfl,.inl ⟨rfl,F3 e⟩⟩,trivial⟩,⟨⟨rfl,rfl,rfl⟩,?_,rfl,rfl,rfl,trivial⟩⟩
      ·rw [a2X hx,hI,iC om,iB (by assumption)]
      ·rw [a2X hx];exact rfl)
    |(have e1:E9 e 0 e.moves=17:=by rw [hI,iB om]
      refine p9 ?_;rw [hck,e1];rfl)
    |(have e1:E9 e 0 e.moves=1:=by rw [hI,iC om,iC (by simp_all)]
      refine p9 ?_;rw [hck,e1];rfl)
  ·rw [b3i om,E9] at hI
   repeat' (first|refine zx ?_|refine qp (bM4 _ hs) ?_|refine zd ?_ ?_<;>intro h<;>try omega|fail)<;>conv=>whnf
   all_goals (refine p9 ?_;rw [hck,hI];simp_all)
 all_goals (refine p9 ?_;unfold I4;simp_all;try omega)
def aV7 {x y:Rat}:a8B x y<0↔x<y:=by unfold a8B;split<;>(try split)<;>simp_all
def b9S (x y:Rat):-1<=a8B x y/\a8B x y<=1:=by unfold a8B;split<;>(try split)<;>omega
def bC0 (x y:Rat) (lx:rl x<=60000) (ly:rl y<=60000):ec 144 [frS (fz x),frS (fz y)] [] (.tup [frS (fz (aO9 x y)),eI 0]) []:=by
 have e:ec 184 [frS (fz x),frS (fz y),eI 1] [] (.tup [frS (fz (aO9 x y)),eI 0]) []:=by
  have r1:=P9 x om;have r2:=P9 y om;have x1:=K9 x;have x2:=K3 x;have y1:=K9 y;have y2:=K3 y;have c:=aC6 x y lx ly;have hr:=b9S x y;have s1:=av2 x.num om;have s2:=av2 x.den om;have s3:=av2 y.num om;have s4:=av2 y.den om;refine ac Tryz.func184 ?_;conv=>whnf
  repeat' (first|refine zx ?_|apply zD<;>intro h<;>try omega)<;>conv=>whnf
  ·have h:a8B x y<0:=by omega
   refine a0U (f:=fz y) ?_;unfold aO9;rw [iB (aV7.1 h)]
  ·have h:¬a8B x y<0:=by omega
   refine a0U (f:=fz x) ?_;unfold aO9;rw [iC (fun h'=>h (aV7.2 h'))]
 refine ac Tryz.func144 ?_;conv=>whnf
 repeat' (first|refine zx ?_|apply zD<;>intro h<;>try omega)<;>conv=>whnf
 all_goals exact a0U rfl
def a6r (n m:Int):ec 179 [eI n,eI m] [] (n7 (btw n 0 m)) []:=by
 refine ac Tryz.func179 ?_;conv=>whnf
 repeat' (first|refine zx ?_|apply zD<;>intro<;>try omega)<;>conv=>whnf
 all_goals (refine j6 ?_;unfold btw;simp;omega)
abbrev b0C (c:Q3):S:=.agg (c.row.map .t)
def aK1 (n:Int):btw n 0 29=idx n 30:=b4z n 30
def b0Y (c:Q3):ec 213 [b0C c] [] (n7 (V6 c)) []:=by
 have w1:=a6r c.scale 29;have w2:=a6r c.grams 1099511627776;have w3:=a6r c.permille 1000;have w4:=a6r c.drift 10000000;rw [aK1] at w1;unfold V6;cases h1:idx c.scale 30<;>cases h2:btw c.grams 0 1099511627776<;>cases h3:btw c.permille 0 1000<;>cases h4:btw c.drift 0 10000000<;>rw [h1] at w1<;>rw [h2] at w2<;>rw [h3] at w3<;>rw [h4] at w4<;>
 ·refine ac Tryz.func213 ?_;conv=>whnf
  repeat' (first|refine zx ?_|apply zD<;>intro<;>try omega)<;>conv=>whnf
  all_goals (refine j6 ?_;simp;try omega)
def b0U (c:Q3) (day:Int):ec 176 [b0C c,eI day] [] (n7 (O3 c day)) []:=by
 have w1:=b0Y c;unfold O3;cases h1:V6 c<;>rw [h1] at w1<;>
 ·refine ac Tryz.func176 ?_;conv=>whnf
  repeat' (first|refine zx ?_|apply zD<;>intro<;>try omega)<;>conv=>whnf
  all_goals (refine j6 ?_;simp [btw];try omega)
def b26 {cs:List Q3} {k:Nat} {c:Q3} (h:cs[k]? =some c):aU8 cs k=c.since:=by unfold aU8;rw [h];rfl
abbrev bs6 (n:Int):T:=.ptr [ti n]
def b53 {a b:Bool} {ρ:List (Option Nat)} {H:Hp} (h:a=b):a7H ρ H (n7 a) (n7 b):=by subst h;exact rfl
def ab1 (o:Option Nat):Nat:=o.getD 0
def bC1 (cs:List Q3) (scale day:Int) (hl:cs.length<=1000000):
 ec 139 [.c (.t (a1L cs)),eI scale,eI day] [] (.tup [eI (ab1 (H4 cs scale day cs.length)),n7 (H4 cs scale day cs.length).isSome]) []:=by
 have l1:(cs.map Q3.row).length=cs.length:=zq;refine ac Tryz.func139 ?_;conv=>whnf
 repeat' (first|refine zx ?_|apply zD<;>intro<;>try omega)<;>conv=>whnf
 refine k6 g8 (fun k=>([S.c (C.t (a1L cs)),eI scale,eI day,J,J,J,J,J,eI (ab1 (H4 cs scale day k)),n7 (H4 cs scale day k).isSome,J,J,S.c (C.t (a1L cs)),eI cs.length,eI k]++Jn 31,[])) cs.length tT [] trivial
  ⟨rfl,rfl,trivial,⟨m9 rfl,rfl,rfl,rfl,rfl,m9 rfl,g9 zq,rz⟩⟩ ?_
 intro k hk _;by_cases hlt:k<cs.length
 ·have ⟨c,hc⟩:=iA hlt;have cv:=b0U c day;have hst:H4 cs scale day (k+1)=if decide (c.scale=scale) && O3 c day && a5T cs (H4 cs scale day k) c then some k else H4 cs scale day k:=by
   conv=>lhs;unfold H4
   rw [hc]
  cases hcv:O3 c day with
  |false=>
   rw [hcv] at cv hst;simp only [Bool.and_false,ac4,a7S,if_false] at hst;rw [← hst];conv=>whnf
   repeat' (first|refine zx ?_|refine j4 hc ?_|apply zD<;>intro<;>try omega)<;>conv=>whnf
   all_goals first
    |omega
    |exact ⟨hlt,trivial,[],rz⟩
  |true=>
   rw [hcv] at cv hst;cases hf:H4 cs scale day k with
   |none=>
    rw [hf] at hst;conv=>whnf
    repeat' (first|refine zx ?_|refine j4 hc ?_|apply zD<;>intro<;>try omega)<;>conv=>whnf
    ·exact ⟨hlt,trivial,[],rfl,rfl,trivial,⟨rfl,rfl,rfl,g9 (by rw [hst];simp [*,a5T,ab1]),b53 (by rw [hst];simp [*,a5T]),rz⟩⟩
    ·exact ⟨hlt,trivial,[],rfl,rfl,trivial,⟨rfl,rfl,rfl,g9 (by rw [hst];simp [*,a5T,ab1]),b53 (by rw [hst];simp [*,a5T]),rz⟩⟩
   |some b=>
    rw [hf] at hst;have ⟨hb,cb,hcb,_⟩:=S1 hf;have hsb:=b26 hcb;conv=>whnf
    repeat' (first|refine zx ?_|refine j4 hc ?_|refine j4 hcb ?_|apply zD<;>intro<;>try omega)<;>conv=>whnf
    all_goals first|exact ⟨hlt,trivial,[],rfl,rfl,trivial,⟨rfl,rfl,rfl,g9 (by rw [hst];simp [*,a5T,ab1]),b53 (by rw [hst];simp [*,a5T]),rz⟩⟩|(exfalso;simp_all;done)
 ·have hke:k=cs.length:=by omega
  subst hke;conv=>whnf
  repeat' (first|refine zx ?_|apply zD<;>intro<;>try omega)<;>conv=>whnf
  all_goals first|omega|exact n8 rz
def aU9 (r:J5) (scale day:Int):ec 178 (.agg (r.row.map .t)::[bs6 scale,bs6 day].map fun x=>.c (.t x)) [] (n7 (decide (r.scale=scale) && decide (r.since<=day))) []:=by
 refine ac Tryz.func178 ?_;conv=>whnf
 repeat' (first|refine zx ?_|apply zD<;>intro<;>try omega)<;>conv=>whnf
 all_goals (refine j6 ?_;simp [*];try omega)
abbrev bG9 (r:J5):S:=.agg (r.row.map .t)
def N9 {α:Type} (q:α->Bool):List α->Nat->Int
 |[],_=>-1
 |x::r,k=>if q x then k else N9 q r (k+1)
def a3n {α:Type} (q:α->Bool):∀(l:List α) (k:Nat),decide (0<=N9 q l k)=l.any q
 |[],k=>by simp [N9]
 |x::r,k=>by
  unfold N9;rw [List.any_cons];cases h:q x with
  |true=>simp
  |false=>simpa using a3n q r (k+1)
def b2U (rs:List J5) (hl:rs.length<=1000000) (g:FuncId) (caps:List T) (q:J5->Bool) (hg:∀r ∈ rs,ec g (bG9 r::caps.map fun x=>.c (.t x)) [] (n7 (q r)) []):
 ec 214 [.c (.t (S2 rs)),.c (.t (.fn (.func g) caps))] [] (eI (N9 q rs 0)) []:=by
 have l1:(rs.map J5.row).length=rs.length:=zq;refine ac Tryz.func214 ?_;conv=>whnf
 repeat' (first|refine zx ?_|apply zD<;>intro<;>try omega)<;>conv=>whnf
 refine k6 g8 (fun k=>([S.c (C.t (S2 rs)),S.c (C.t (T.fn (.func g) caps)),J,J,J,J,J,eI rs.length,eI k]++Jn 10,[])) rs.length (fun k=>N9 q (rs.drop k) k=N9 q rs 0) [] rfl
  ⟨rfl,rfl,trivial,⟨m9 rfl,m9 rfl,g9 zq,rz⟩⟩ ?_
 intro k hk hI;by_cases hlt:k<rs.length
 ·have ⟨r,hr⟩:=iA hlt;have hd:rs.drop k=r::rs.drop (k+1):=by
   rw [a3r hlt];rw [lbf hlt] at hr;injection hr with hr;rw [hr]
  have hgr:=hg r (lbm hr);have ha:(bG9 r::caps.map fun x=>S.c (C.t x)).all S.isT=true:=by simp [S.isT,C.isT,J5.row]
  rw [hd] at hI;have hI:(if q r then (k:Int) else N9 q (rs.drop (k+1)) (k+1))=N9 q rs 0:=hI;cases hq:q r with
  |true=>
   rw [hq] at hgr hI;conv=>whnf
   repeat' (first|refine zx ?_|refine .inl ⟨_,_,I8 hgr ha rfl,?_⟩|refine j4 hr ?_|apply zD<;>intro<;>try omega)<;>conv=>whnf
   all_goals first
    |omega
    |exact p9 hI
  |false=>
   rw [hq] at hgr hI;conv=>whnf
   repeat' (first|refine zx ?_|refine .inl ⟨_,_,I8 hgr ha rfl,?_⟩|refine j4 hr ?_|apply zD<;>intro<;>try omega)<;>conv=>whnf
   all_goals first|omega|exact ⟨hlt,by simpa using hI,[],rz⟩
 ·have hke:k=rs.length:=by omega
  subst hke;rw [lbo (lbR _)] at hI;conv=>whnf
  repeat' (first|refine zx ?_|apply zD<;>intro<;>try omega)<;>conv=>whnf
  all_goals first|omega|exact p9 hI
def aF1 (rs:List J5) (hl:rs.length<=1000000) (g:FuncId) (caps:List T) (q:J5->Bool) (hg:∀r ∈ rs,ec g (bG9 r::caps.map fun x=>.c (.t x)) [] (n7 (q r)) []):
 ec 177 [.c (.t (S2 rs)),.c (.t (.fn (.func g) caps))] [] (n7 (rs.any q)) []:=by
 have ix:=b2U rs hl g caps q hg;refine ac Tryz.func177 ?_;conv=>whnf
 repeat' (first|refine zx ?_|apply zD<;>intro<;>try omega)<;>conv=>whnf
 all_goals (refine j6 ?_;rw [← a3n q rs 0];simp;omega)
def b3m (rs:List J5) (hl:rs.length<=1000000) (scale day:Int):ec 140 [.c (.t (S2 rs)),eI scale,eI day] [] (n7 (a2S rs scale day)) []:=by
 have ct:=aF1 rs hl 178 [bs6 scale,bs6 day] _ (fun r _=>aU9 r scale day)
 (refine ac Tryz.func140 ?_;(conv=>whnf);repeat ((first|refine b0x ?_|refine zy ?_);conv=>whnf))
 repeat' (first|refine zx ?_|apply zD<;>intro<;>try omega)<;>conv=>whnf
 all_goals (refine j6 ?_;symm;assumption)
def a4Z {c:Q3} {day:Int} (h:O3 c day=true):0<=c.since/\c.since<=day/\day<=c.till/\c.till<=100000/\0<=c.grams/\c.grams<=1099511627776/\0<=c.permille/\c.permille<=1000/\0<=c.drift/\c.drift<=10000000:=by
 unfold O3 V6 btw at h;simp only [lbN,lbI] at h;omega
abbrev a0L:Fr:=⟨⟨0,[]⟩,⟨0,[]⟩⟩
def b8R {f f':Fr} {b b':Bool} {H1:Hp} (h:f=f') (h2:b=b'):Fin 0 (.tup [frS f,n7 b]) H1 (.tup [frS f',n7 b']) []:=by
 subst h h2;exact n8 rz
structure bc5 (c:Q3) (reading day:Int):Prop where
 p0:0<=c.permille*reading
 p1:c.permille*reading<=1000*1099511627776
 d0:0<=c.drift*(day - c.since)
 d1:c.drift*(day - c.since)<=10000000*100000
def bc5.of {c:Q3} {reading day:Int} (h:O3 c day=true) (hr:btw reading 0 1099511627776=true):bc5 c reading day:=by
 have hc:=a4Z h;rw [a0q] at hr;exact ⟨lb0 om om,a5N om om om om,lb0 om om,a5N om om om om⟩
def b2F {c:Q3} {reading day:Int} (h:O3 c day=true) (hr:btw reading 0 1099511627776=true):rl (a3u c reading day)<=9:=by
 have i:=bc5.of h hr;have hc:=a4Z h;have ⟨p0,p1,d0,d1⟩:=i;unfold a3u;have h1:=a48 (Rat.divInt (c.permille*reading) 1000) ((c.grams+c.drift*(day - c.since):Int):Rat);have h2:rl (Rat.divInt (c.permille*reading) 1000)<=4:=lbS (Y7 de) (by have:=U5 (x:=c.permille*reading) om om;have:=U5 (x:=1000) de de;omega);have h3:rl ((c.grams+c.drift*(day - c.since):Int):Rat)<=4:=by rw [a0T];have:=U5 (x:=c.grams+c.drift*(day - c.since)) om om;omega
 omega
def bi1 (c:Q3) (reading day:Int) (h:O3 c day=true):ec 141 [b0C c,eI reading,eI day] []
 (.tup [frS (if btw reading 0 1099511627776 then fz (a3u c reading day) else a0L),n7 (btw reading 0 1099511627776)]) []:=by
 have cv:=b0U c day;have wi:=a6r reading 1099511627776;rw [h] at cv;have hc:=a4Z h;cases hr:btw reading 0 1099511627776 with
 |false=>
  rw [hr] at wi;refine ac Tryz.func141 ?_;conv=>whnf
  repeat' (first|refine zx ?_|apply zD<;>intro h<;>try omega)<;>conv=>whnf
  all_goals first
   |(exfalso;simp_all;done)
   |exact n8 rz
 |true=>
  rw [hr] at wi;have ⟨p0,p1,d0,d1⟩:=bc5.of h hr;rw [a0q] at hr;have fo:=bT0 (c.permille*reading) 1000 de om om de de;have fi:=V4 (c.grams+c.drift*(day - c.since)) om om;have h2:rl (Rat.divInt (c.permille*reading) 1000)<=4:=lbS (Y7 de) (by have:=U5 (x:=c.permille*reading) om om;have:=U5 (x:=1000) de de;omega);have h3:rl ((c.grams+c.drift*(day - c.since):Int):Rat)<=4:=by rw [a0T];have:=U5 (x:=c.grams+c.drift*(day - c.since)) om om;omega
  have ad:=a8H (Rat.divInt (c.permille*reading) 1000) ((c.grams+c.drift*(day - c.since):Int):Rat) om om;refine ac Tryz.func141 ?_;conv=>whnf
  repeat' (first|refine zx ?_|refine bl0 [7] ?_|refine bl0 [15] ?_|apply zD<;>intro h<;>try omega)<;>conv=>whnf
  all_goals first|(exfalso;simp_all;done)|exact b8R rfl rfl
abbrev ivL (o:Option (Rat × Rat)):List S:=match o with
 |some (lo,hi)=>[frS (fz lo),frS (fz hi),n7 true]
 |none=>[frS a0L,frS a0L,n7 false]
def bl9 {x y:Rat} {n:Nat} (h1:rl x<=n) (h2:rl y<=n):rl (aO9 x y)<=n:=by unfold aO9;split<;>assumption
def b0G {cs:List Q3} {rs:List J5} {scale reading day:Int} {lo hi:Rat} (h:S5 cs rs scale reading day=some (lo,hi)):rl lo<=20/\rl hi<=20:=by
 unfold S5 at h;split at h
 ·cases h
 ·rename_i i hi;have ⟨hb,c,hc,_,hcv⟩:=S1 hi;have e:a2r cs i=c:=by unfold a2r;rw [hc];rfl
  rw [e] at h;split at h
  ·cases h
  ·split at h
   ·rename_i hr;injection h with h;injection h with h1 h2;have l1:=b2F hcv hr;rw [a0q] at hr;have l2:rl (reading:Rat)<=4:=by rw [a0T];have:=U5 (x:=reading) om om;omega
    have l3:=a48 (reading:Rat) (a3u c reading day);have l4:=aV4 (reading:Rat) (a3u c reading day);refine ⟨?_,by rw [← h2];omega⟩;rw [← h1];exact bl9 om (by rw [b4l];omega)
   ·cases h
def b3F (cs:List Q3) (rs:List J5) (hl:cs.length<=1000000) (hl2:rs.length<=1000000) (scale reading day:Int):
 ec 95 [.c (.t (a1L cs)),.c (.t (S2 rs)),eI scale,eI reading,eI day] [] (.tup (ivL (S5 cs rs scale reading day))) []:=by
 have f:=bC1 cs scale day hl;have r:=b3m rs hl2 scale day;unfold S5;cases hf:H4 cs scale day cs.length with
 |none=>
  rw [hf] at f;refine ac Tryz.func95 ?_;conv=>whnf
  repeat' (first|refine zx ?_|refine bl0 [1] ?_|refine bl0 [6] ?_|apply zD<;>intro<;>try omega)<;>conv=>whnf
  all_goals first
   |(exfalso;simp_all;done)
   |exact n8 rz
 |some i=>
  rw [hf] at f;have ⟨hb,c,hc,_,hcv⟩:=S1 hf;have e:a2r cs i=c:=by unfold a2r;rw [hc];rfl
  have er:=bi1 c reading day hcv;simp only [e];cases hrec:a2S rs scale day with
  |true=>
   rw [hrec] at r;refine ac Tryz.func95 ?_;conv=>whnf
   repeat' (first|refine zx ?_|refine bl0 [1] ?_|refine bl0 [6] ?_|apply zD<;>intro<;>try omega)<;>conv=>whnf
   all_goals first
    |(exfalso;simp_all;done)
    |exact n8 rz
  |false=>
   rw [hrec] at r;cases hr:btw reading 0 1099511627776 with
   |false=>
    rw [hr] at er;refine ac Tryz.func95 ?_;conv=>whnf
    repeat' (first|refine zx ?_|refine j4 hc ?_|refine bl0 [1] ?_|refine bl0 [9] ?_|apply zD<;>intro<;>try omega)<;>conv=>whnf
    all_goals first
     |exact n8 rz
     |(exfalso;simp_all;done)
   |true=>
    have l1:=b2F hcv hr;rw [hr] at er;rw [a0q] at hr;have l2:rl (reading:Rat)<=4:=by rw [a0T];have:=U5 (x:=reading) om om;omega
    have fi:=V4 reading om om;have f0:=V4 0 om om;have sb:=ba5 (reading:Rat) (a3u c reading day) om om;have ad:=a8H (reading:Rat) (a3u c reading day) om om;have l4:=aV4 (reading:Rat) (a3u c reading day);have mx:=bC0 ((reading:Rat) - a3u c reading day) ((0:Int):Rat) om (by rw [b4l];omega);refine ac Tryz.func95 ?_;conv=>whnf
    repeat' (first|refine zx ?_|refine j4 hc ?_|refine bl0 [1] ?_|refine bl0 [9] ?_|refine bl0 [5] ?_|apply zD<;>intro<;>try omega)<;>conv=>whnf
    all_goals first|exact n8 rz|(exfalso;simp_all;done)
def B3 (f:Fr):List T:=[ti f.p.sg,w5 f.p.dl,ti f.q.sg,w5 f.q.dl]
abbrev V7 (l:List Fr):T:=.sl 4 .any (l.map B3)
abbrev H9 (l:List Fr):S:=.c (.t (V7 l))
def b9s (l:List Rat) {k:Nat} {x:Rat} (h:l[k]? =some x):(l.map fz)[k]? =some (fz x):=by rw [lba,h];rfl
def bS6 {f f':Fr} {H1:Hp} (h:f=f'):Fin 0 (frS f) H1 (frS f') []:=by subst h;exact n8 rz
abbrev frB (f:Fr):Blk:={ mode:=.live,elem:=89,size:=4,rows:=[frC f],box:=true }
def a4f (f:Fr):L6 [frC f]:=by
 intro r hr c hc;simp at hr;subst hr;simp [frC] at hc;rcases hc with rfl|rfl|rfl|rfl<;>rfl
def bl2 {x:Rat}:sgR x<0↔x<0:=by unfold sgR;split<;>(try split)<;>simp_all
def br9 {x y:Rat}:a8B x y<=0↔x<=y:=by
 unfold a8B;split
 ·simp;grind
 ·split
  ·simp;grind
  ·simp;grind
def b9i {x y:Rat}:a8B x y > 0↔y<x:=by
 have:=br9 (x:=x) (y:=y);constructor
 ·intro h;have h2:¬x<=y:=fun h'=>by have:=this.2 h';omega
  grind
 ·intro h;have h2:¬a8B x y<=0:=fun h'=>by have:=this.1 h';grind
  omega
def Q4.row (f:Q4):List T:=[ti f.mv,ti f.kind,ti f.grams]
def H5.row (c:H5):List T:=[ti c.mv,ti c.kind]
abbrev ac7 (l:List Q4):T:=.sl 3 .any (l.map Q4.row)
abbrev a7v (l:List H5):T:=.sl 2 .any (l.map H5.row)
def trT (t:j9):List T:=[ti t.ev.mats,ti t.ev.hhs,ti t.ev.scs,a7D t.ev.places,a5q t.ev.moves,a1L t.ev.certs,S2 t.ev.recalls,a2Q t.ev.purities,ac7 t.finds,a7v t.cleans]
def trC (t:j9):List C:=[.t (ti t.ev.mats),.t (ti t.ev.hhs),.t (ti t.ev.scs),.t (a7D t.ev.places),.t (a5q t.ev.moves),.t (a1L t.ev.certs),.t (S2 t.ev.recalls),.t (a2Q t.ev.purities),.t (ac7 t.finds),.t (a7v t.cleans)]
abbrev trS (t:j9):S:=.agg (trC t)
structure j9.Sized (t:j9):Prop where
 ev:t.ev.Sized
 f:t.finds.length<=1000000
 c:t.cleans.length<=1000000
def b1A {x:Rat}:sgR x=0↔x=0:=by unfold sgR;split<;>(try split)<;>simp_all<;>grind
def b7P (e:Ev) (mv kind:Int):ec 21 [evS e,eI mv,eI kind] [] (eI (a2z e mv kind)) []:=by
 have l2:(e.moves.map C6.row).length=e.moves.length:=zq;refine ac Tryz.func21 ?_;conv=>whnf
 repeat' (first|refine zx ?_|apply zD<;>intro<;>try omega)<;>conv=>whnf
 all_goals (refine p9 ?_;unfold a2z;(repeat' split)<;>first|rfl|omega)
def a8X (t:j9) (hs:t.Sized):ec 12 [trS t] [] (eI (t5 t)) []:=by
 have l1:=hs.f;have l2:=hs.c;have ck:=b5m t.ev hs.ev;have m1:(t.finds.map Q4.row).length=t.finds.length:=zq;have m2:(t.cleans.map H5.row).length=t.cleans.length:=zq;by_cases h0:I4 t.ev≠0
 ·have e1:t5 t=I4 t.ev:=by unfold t5;rw [iB h0]
  rw [e1]
  (refine ac Tryz.func12 ?_;(conv=>whnf);repeat ((first|refine b0x ?_|refine zy ?_);conv=>whnf))
  repeat' (first|refine zx ?_|apply zD<;>intro<;>try omega)<;>conv=>whnf
  all_goals first|omega|exact p9 rfl
 have h0:I4 t.ev=0:=om;rw [h0] at ck;by_cases h1:20<t.finds.length\/50<t.cleans.length
 ·have e1:t5 t=6:=by unfold t5;rw [iC om,iB h1]
  rw [e1]
  (refine ac Tryz.func12 ?_;(conv=>whnf);repeat ((first|refine b0x ?_|refine zy ?_);conv=>whnf))
  repeat' (first|refine zx ?_|apply zD<;>intro<;>try omega)<;>conv=>whnf
  all_goals first|omega|exact p9 rfl
 have e1:t5 t=if S8 t.ev t.finds≠0 then S8 t.ev t.finds else U0 t.ev t.cleans:=by unfold t5;rw [iC om,iC h1]
 rw [e1]
 (refine ac Tryz.func12 ?_;(conv=>whnf);repeat ((first|refine b0x ?_|refine zy ?_);conv=>whnf))
 repeat' (first|refine zx ?_|apply zD<;>intro<;>try omega)<;>conv=>whnf
 all_goals try omega
 refine k6 g8 (fun k=>([J,S.c (C.t (T.ptr (trT t)))]++Jn 25++[S.c (C.t (ac7 t.finds)),eI t.finds.length,eI k]++Jn 40,[])) t.finds.length (fun k=>S8 t.ev t.finds=S8 t.ev (t.finds.drop k)) [] rfl
  ⟨rfl,rfl,trivial,⟨rfl,rfl,g9 zq,rz⟩⟩ ?_
 intro k hk hI;by_cases hlt:k<t.finds.length
 ·have ⟨f,hf⟩:=iA hlt;have mk:=b7P t.ev f.mv f.kind;rw [a2a hf,S8] at hI;by_cases hm:a2z t.ev f.mv f.kind≠0
  ·rw [iB hm] at hI;rw [hI,iB hm];conv=>whnf
   repeat' (first|refine zx ?_|refine j4 hf ?_|apply zD<;>intro<;>try omega)<;>conv=>whnf
   all_goals first|omega|exact p9 rfl
  ·rw [iC hm] at hI;by_cases hg:f.grams<1\/1099511627776<f.grams
   ·rw [iB hg] at hI;rw [hI];conv=>whnf
    repeat' (first|refine zx ?_|refine j4 hf ?_|apply zD<;>intro<;>try omega)<;>conv=>whnf
    all_goals first|omega|exact p9 rfl
   ·rw [iC hg] at hI;conv=>whnf
    repeat' (first|refine zx ?_|refine j4 hf ?_|apply zD<;>intro<;>try omega)<;>conv=>whnf
    all_goals first|omega|exact ⟨hlt,hI,[],rz⟩
 ·rw [lbo om] at hI;have hI:S8 t.ev t.finds=0:=hI;rw [hI,iC om];conv=>whnf
  repeat' (first|refine zx ?_|apply zD<;>intro<;>try omega)<;>conv=>whnf
  all_goals try omega
  refine k6 g8 (fun k=>([J,S.c (C.t (T.ptr (trT t)))]++Jn 51++[S.c (C.t (a7v t.cleans)),eI t.cleans.length,eI k]++Jn 14,[])) t.cleans.length (fun k=>U0 t.ev t.cleans=U0 t.ev (t.cleans.drop k)) [] rfl
   ⟨rfl,rfl,trivial,⟨rfl,rfl,g9 zq,rz⟩⟩ ?_
  intro j hj hJ;by_cases hjt:j<t.cleans.length
  ·have ⟨c,hc⟩:=iA hjt;have mk:=b7P t.ev c.mv c.kind;rw [a2a hc,U0] at hJ;by_cases hm:a2z t.ev c.mv c.kind≠0
   ·rw [iB hm] at hJ;rw [hJ];conv=>whnf
    repeat' (first|refine zx ?_|refine j4 hc ?_|apply zD<;>intro<;>try omega)<;>conv=>whnf
    all_goals first|omega|exact p9 rfl
   ·rw [iC hm] at hJ;conv=>whnf
    repeat' (first|refine zx ?_|refine j4 hc ?_|apply zD<;>intro<;>try omega)<;>conv=>whnf
    all_goals first|omega|exact ⟨hjt,hJ,[],rz⟩
  ·rw [lbo om] at hJ;have hJ:U0 t.ev t.cleans=0:=hJ;rw [hJ];conv=>whnf
   repeat' (first|refine zx ?_|apply zD<;>intro<;>try omega)<;>conv=>whnf
   all_goals first|omega|exact p9 rfl
def bU6 (e:Ev) {i:Nat} {x:C6} (h0:I4 e=0) (hx:e.moves[i]? =some x):ec 61 [evS e,eI i] [] (n7 (decide (O2 e x.src=0))) []:=by
 have hm:=T2 h0 (lbm hx);have ms:=a1H hm;obtain ⟨s,hsn⟩:∃s:Nat,x.src=s:=⟨x.src.toNat,om⟩;have ⟨pl,hpl⟩:=@iA _ e.places s om;have hkd:O2 e x.src=pl.kind:=by rw [hsn];exact aO4 hpl
 rw [hkd];refine ac Tryz.func61 ?_;conv=>whnf
 repeat' (first|refine zx ?_|refine j4 hx ?_|refine N7 hsn hpl ?_|apply zD<;>intro<;>try omega)<;>conv=>whnf
 all_goals (refine j6 ?_;simp [*])
def B9 (x:Int × Rat):List T:=ti x.1::B3 (fz x.2)
abbrev aW2 (l:List (Int × Rat)):T:=.sl 5 .any (l.map B9)
def v6 (w:C7):List T:=aW2 w.terms::ti w.kind::B3 (fz w.value)
def bW4 (w:C7):List C:=.t (aW2 w.terms)::.t (ti w.kind)::frC (fz w.value)
abbrev aU0 (w:C7):S:=.agg (bW4 w)
abbrev a0h (l:List C7):T:=.sl 6 .any (l.map v6)
abbrev W8 (s:m7):S:=.agg [.t (ti s.n),.t (a0h s.rows)]
abbrev zR:Rat:=((0:Int):Rat)
def a1k {e:Ev} (h:I4 e=0):1<=e.mats/\e.mats<=6/\e.places.length<=100/\e.moves.length<=200:=by
 have ⟨h1,h2,_⟩:=a8p h;unfold a3x at h1;simp only [a2t,lbK] at h1;omega
abbrev s6 (l:List (Int × Rat)):S:=.c (.t (aW2 l))
def a4O (l:List (Int × Rat)):Nat->Int
 |0=>-1
 |k+1=>((l[k]?).map (·.1)).getD 0
def a08 {l:List (Int × Rat)} {k:Nat} {t:Int × Rat} (h:l[k]? =some t):a4O l (k+1)=t.1:=by simp [a4O,h]
def a0r (l:List (Int × Rat)) (n:Int) (hl:l.length<=1000000) (hB:∀t ∈ l,rl t.2<=200):ec 145 [s6 l,eI n] [] (n7 (decide (0<=n) && m8 (-1) n l)) []:=by
 have m1:(l.map B9).length=l.length:=zq;by_cases h0:n<0
 ·rw [lbJ om,ac4];refine ac Tryz.func145 ?_;conv=>whnf
  repeat' (first|refine zx ?_|apply zD<;>intro h<;>try omega)<;>conv=>whnf
  all_goals first|omega|exact j6 rfl
 rw [lbH om,P5];refine ac Tryz.func145 ?_;conv=>whnf
 repeat' (first|refine zx ?_|apply zD<;>intro h<;>try omega)<;>conv=>whnf
 all_goals try omega
 refine k6 g8 (fun k=>([J,eI n,J,J,J,eI (a4O l k),J,J,J,J,s6 l,eI l.length,eI k]++Jn 22,[])) l.length (fun k=>m8 (-1) n l=m8 (a4O l k) n (l.drop k)) [] rfl
  ⟨rfl,rfl,trivial,⟨rfl,rfl,rfl,g9 zq,rz⟩⟩ ?_
 intro k hk hI;by_cases hlt:k<l.length
 ·have ⟨t,ht⟩:=iA hlt;have ⟨v,c⟩:=t;have bc:=hB _ (lbm ht);simp only at bc;have sg:=a2C c om;have sz:=b1A (x:=c);rw [a2a ht,m8] at hI;simp only at hI;by_cases hok:a4O l k<v/\v<n/\c≠0
  ·rw [lbH hok.1,lbH hok.2.1,lbH hok.2.2] at hI;simp only [P5] at hI;have hne:sgR c≠0:=fun h=>hok.2.2 (sz.1 h)
   have ⟨q1,q2,_⟩:=hok;conv=>whnf
   repeat' (first|refine zx ?_|refine j4 ht ?_|apply zD<;>intro h<;>try omega)<;>conv=>whnf
   all_goals first|omega|exact ⟨hlt,by rw [a08 ht];exact hI,[],rfl,rfl,trivial,⟨rfl,g9 (by rw [a08 ht]),rz⟩⟩
  ·have hF:m8 (-1) n l=false:=by
    rw [hI];rw [← lbQ];simp only [lbN,lbI];exact fun h=>hok ⟨h.1.1.1,h.1.1.2,h.1.2⟩
   rw [hF];have hor:v<=a4O l k\/n<=v\/sgR c=0:=by
    by_cases q1:a4O l k<v
    ·by_cases q2:v<n
     ·refine .inr (.inr (sz.2 ?_));by_cases q3:c=0
      ·exact q3
      ·exact absurd ⟨q1,q2,q3⟩ hok
     ·exact .inr (.inl om)
    ·exact .inl om
   clear hI hok;conv=>whnf
   repeat' (first|refine zx ?_|refine j4 ht ?_|apply zD<;>intro h<;>try omega)<;>conv=>whnf
   all_goals first|omega|exact j6 rfl
 ·rw [lbo om] at hI;have hI:m8 (-1) n l=true:=hI;rw [hI];conv=>whnf
  repeat' (first|refine zx ?_|apply zD<;>intro h<;>try omega)<;>conv=>whnf
  all_goals first|omega|exact j6 rfl
structure b2m (s:m7):Prop where
 n0:s.rows.length<=1000000
 t:∀w ∈ s.rows,w.terms.length<=100/\(∀ t ∈ w.terms,rl t.2<=200)/\rl w.value<=200
def a90 (s:m7) (hb:b2m s):ec 101 [W8 s] [] (n7 (q9 s)) []:=by
 have m1:(s.rows.map v6).length=s.rows.length:=zq;have l1:=hb.n0;by_cases h0:¬(0<=s.n/\s.n<=1500/\s.rows.length<=6000)
 ·have e1:q9 s=false:=by
   unfold q9;rw [← lbQ];simp only [lbN,lbI];exact fun h=>h0 ⟨h.1.1.1,h.1.1.2,h.1.2⟩
  rw [e1]
  (refine ac Tryz.func101 ?_;(conv=>whnf);repeat ((first|refine b0x ?_|refine zy ?_);conv=>whnf))
  repeat' (first|refine zx ?_|apply zD<;>intro h<;>try omega)<;>conv=>whnf
  all_goals first|omega|exact j6 rfl
 have ⟨c1,c2,c3⟩:=Decidable.not_not.1 h0;have e1:q9 s=s.rows.all (A7 s.n):=by
  unfold q9;rw [lbH c1,lbH c2,lbH c3];rfl
 rw [e1];clear h0
 (refine ac Tryz.func101 ?_;(conv=>whnf);repeat ((first|refine b0x ?_|refine zy ?_);conv=>whnf))
 repeat' (first|refine zx ?_|apply zD<;>intro h<;>try omega)<;>conv=>whnf
 all_goals try omega
 refine k6 g8 (fun k=>([J,S.c (C.t (T.ptr [ti s.n,a0h s.rows]))]++Jn 18++[S.c (C.t (a0h s.rows)),eI s.rows.length,eI k]++Jn 26,[])) s.rows.length (fun k=>(s.rows.take k).all (A7 s.n)=true) [] rfl
  ⟨rfl,rfl,trivial,⟨rfl,rfl,g9 zq,rz⟩⟩ ?_
 intro k hk hI;by_cases hlt:k<s.rows.length
 ·have ⟨w,hw⟩:=iA hlt;have ⟨b1,b2,b3⟩:=hb.t w (lbm hw);have rt:=a0r w.terms s.n om b2;rw [lbH c1,P5] at rt;have rv:=P9 w.value om;cases hrt:m8 (-1) s.n w.terms with
  |false=>
   rw [hrt] at rt;have hF:A7 s.n w=false:=by unfold A7;rw [hrt];rfl
   rw [H3 hw hF];conv=>whnf
   repeat' (first|refine zx ?_|refine j4 hw ?_|apply zD<;>intro h<;>try omega)<;>conv=>whnf
   all_goals first
    |omega
    |(exfalso;simp_all;done)
    |exact j6 rfl
  |true=>
   rw [hrt] at rt;by_cases hk3:0<=w.kind/\w.kind<3
   ·have hT:A7 s.n w=true:=by unfold A7;rw [hrt,lbH hk3.1,lbH hk3.2];rfl
    conv=>whnf
    repeat' (first|refine zx ?_|refine j4 hw ?_|apply zD<;>intro h<;>try omega)<;>conv=>whnf
    all_goals first|omega|(exfalso;simp_all;done)|exact ⟨hlt,by rw [D5 hw,hI,hT];rfl,[],rz⟩
   ·have hF:A7 s.n w=false:=by
     unfold A7;rw [← lbQ];simp only [lbN,lbI];exact fun h=>hk3 ⟨h.1.2,h.2⟩
    rw [H3 hw hF];conv=>whnf
    repeat' (first|refine zx ?_|refine j4 hw ?_|apply zD<;>intro h<;>try omega)<;>conv=>whnf
    all_goals first|omega|(exfalso;simp_all;done)|exact j6 rfl
 ·rw [lbn om] at hI;rw [hI];conv=>whnf
  repeat' (first|refine zx ?_|apply zD<;>intro h<;>try omega)<;>conv=>whnf
  all_goals first|omega|exact j6 rfl
def b79 (rs:List Fr) (hl:rs.length<=1000000) (g:FuncId) (caps:List T) (q:Fr->Bool) (hg:∀r ∈ rs,ec g (frS r::caps.map fun x=>.c (.t x)) [] (n7 (q r)) []):
 ec 198 [.c (.t (V7 rs)),.c (.t (.fn (.func g) caps))] [] (eI (N9 q rs 0)) []:=by
 have l1:(rs.map B3).length=rs.length:=zq;refine ac Tryz.func198 ?_;conv=>whnf
 repeat' (first|refine zx ?_|apply zD<;>intro<;>try omega)<;>conv=>whnf
 refine k6 g8 (fun k=>([S.c (C.t (V7 rs)),S.c (C.t (T.fn (.func g) caps)),J,J,J,J,J,eI rs.length,eI k]++Jn 10,[])) rs.length (fun k=>N9 q (rs.drop k) k=N9 q rs 0) [] rfl
  ⟨rfl,rfl,trivial,⟨m9 rfl,m9 rfl,g9 zq,rz⟩⟩ ?_
 intro k hk hI;by_cases hlt:k<rs.length
 ·have ⟨r,hr⟩:=iA hlt;have hd:rs.drop k=r::rs.drop (k+1):=by
   rw [a3r hlt];rw [lbf hlt] at hr;injection hr with hr;rw [hr]
  have hgr:=hg r (lbm hr);have ha:(frS r::caps.map fun x=>S.c (C.t x)).all S.isT=true:=by simp [S.isT,C.isT,B3]
  rw [hd] at hI;have hI:(if q r then (k:Int) else N9 q (rs.drop (k+1)) (k+1))=N9 q rs 0:=hI;cases hq:q r with
  |true=>
   rw [hq] at hgr hI;conv=>whnf
   repeat' (first|refine zx ?_|refine .inl ⟨_,_,I8 hgr ha rfl,?_⟩|refine j4 hr ?_|apply zD<;>intro<;>try omega)<;>conv=>whnf
   all_goals first
    |omega
    |exact p9 hI
  |false=>
   rw [hq] at hgr hI;conv=>whnf
   repeat' (first|refine zx ?_|refine .inl ⟨_,_,I8 hgr ha rfl,?_⟩|refine j4 hr ?_|apply zD<;>intro<;>try omega)<;>conv=>whnf
   all_goals first|omega|exact ⟨hlt,by simpa using hI,[],rz⟩
 ·have hke:k=rs.length:=by omega
  subst hke;rw [lbo (lbR _)] at hI;conv=>whnf
  repeat' (first|refine zx ?_|apply zD<;>intro<;>try omega)<;>conv=>whnf
  all_goals first|omega|exact p9 hI
def aZ7 (rs:List Fr) (hl:rs.length<=1000000) (g:FuncId) (caps:List T) (q:Fr->Bool) (hg:∀r ∈ rs,ec g (frS r::caps.map fun x=>.c (.t x)) [] (n7 (q r)) []):
 ec 154 [.c (.t (V7 rs)),.c (.t (.fn (.func g) caps))] [] (n7 (rs.any q)) []:=by
 have ix:=b79 rs hl g caps q hg;refine ac Tryz.func154 ?_;conv=>whnf
 repeat' (first|refine zx ?_|apply zD<;>intro<;>try omega)<;>conv=>whnf
 all_goals (refine j6 ?_;rw [← a3n q rs 0];simp;omega)
def b7G (f:Fr) (lp:f.p.dl.length<=200000) (lq:f.q.dl.length<=200000):ec 155 (frS f::[].map fun x=>.c (.t x)) [] (n7 (!X5 f)) []:=by
 have r:=b1p f lp lq;refine ac Tryz.func155 ?_;conv=>whnf
 repeat' (first|refine zx ?_|apply zD<;>intro<;>try omega)<;>conv=>whnf
 all_goals (refine j6 ?_;simp [*])
def b50 (z:List Fr) (hl:z.length<=1000000) (hd:∀f ∈ z,f.p.dl.length<=200000/\f.q.dl.length<=200000):ec 102 [H9 z] [] (n7 (z.all X5)) []:=by
 have ct:=aZ7 z hl 155 [] _ (fun f hf=>b7G f (hd f hf).1 (hd f hf).2);have e:(z.any fun f=>!X5 f)=!(z.all X5):=by rw [List.not_all_eq_any_not]
 rw [e] at ct;cases hz:z.all X5<;>rw [hz] at ct<;>
 ·refine ac Tryz.func102 ?_;conv=>whnf
  repeat' (first|refine zx ?_|apply zD<;>intro<;>try omega)<;>conv=>whnf
  all_goals exact j6 rfl
def ad0 {n:Int}:∀{l:List (Int × Rat)} {last:Int},m8 last n l=true->∀t ∈ l,last<t.1/\t.1<n
 |[],_,_,t,ht=>by cases ht
 |u::r,last,h,t,ht=>by
  unfold m8 at h;simp only [lbN,lbI] at h;rcases lbA.1 ht with rfl|ht
  ·exact ⟨h.1.1.1,h.1.1.2⟩
  ·have:=ad0 h.2 t ht;omega
def b0f {f:Nat->Nat->Rat} (m:Nat):∀n:Nat,p6 (fun i=>p6 (f i) m) n=p6 (fun j=>p6 (fun i=>f i j) n) m
 |0=>by
  show p6 _ 0=_;rw [D7 (f:=fun j=>p6 (fun i=>f i j) 0) (n:=m) fun j hj=>by simp only [p6,a23]];simp only [p6,a23]
 |n+1=>by
  simp only [p6];rw [b0f m n,←a2E]
def b7e {n a:Nat} (ha:a<n) (v:Rat) (c:Nat->Rat):p6 (fun i=>(if a=i then v else 0)*c i) n=v*c a:=by
 rw [H7 ha,D7 fun j hj=>by
  by_cases h:j=a
  ·rw [iB h]
  ·rw [iC h,iC (fun e=>h e.symm)];grind]
 rw [iB rfl];grind
def Z8 (s:m7) (i:Nat):C7:=s.rows.getD i ⟨[],2,0⟩
def b2R {s:m7} {i:Nat} {w:C7} (h:s.rows[i]? =some w):Z8 s i=w:=by unfold Z8;rw [lbl,h];rfl
def aV2 (s:m7) (k:Nat):Nat × Bool:=(j0 s).getD k (0,false)
def chg (s:m7) (w:Nat) (p:Rat) (i:Nat):Rat:=if s.n.toNat<=w/\(aV2 s (w - s.n.toNat)).1=i then -(Z4 (aV2 s (w - s.n.toNat)).2 p) else 0
def b3a (s:m7) (y:Nat->Rat) (l:Nat):Rat:=p6 (fun i=>y i*L9 (Z8 s i).terms l) s.rows.length
def b72 (s:m7) (y:Nat->Rat):Rat:=p6 (fun i=>y i*(Z8 s i).value) s.rows.length
def bR0 (s:m7) (y:Nat->Rat):Prop:=∀(i:Nat) (w:C7),s.rows[i]? =some w->(w.kind=0->0<=y i)/\(w.kind=1->y i<=0)
def a3R (s:m7) (E:Fd) (i:Nat):Rat:=p6 (fun j=>chg s (E.F j) (-(E.G j)) i) s.n.toNat
def ah9 (s:m7) (E:Fd) (r i:Nat):Rat:=chg s (E.O r) 1 i+p6 (fun j=>chg s (E.F j) (E.A r j) i) s.n.toNat
def b7X {s:m7} {f:Nat->Nat->Rat} {c:Nat->Rat} {n R:Nat}:p6 (fun i=>p6 (fun j=>f j i) n*c i) R=p6 (fun j=>p6 (fun i=>f j i*c i) R) n:=by
 rw [← b0f];refine p5 fun i hi=>?_
 rw [p5 (f:=fun j=>f j i*c i) (g:=fun j=>c i*f j i) fun j hj=>by grind,K4];grind
structure bU4 (s:m7) (g:Nat->Rat) (y:Nat->Rat) (v:Rat):Prop where
 sign:bR0 s y
 mix:∀l,l<s.n.toNat->b3a s y l<=g l
 val:b72 s y=v
def aH2 {s:m7} {g:List (Int × Rat)} {c y:Nat->Rat} {v:Rat} (h:bU4 s c y v) {z:List Rat} (hz:k7 s z=true):v<=p6 (fun l=>c l*z.getD l 0) s.n.toNat:=by
 have ⟨hr,hl,hp,hw⟩:=Z0.1 hz;have hn:=X0 hr;have h0:∀l,l<s.n.toNat->0<=z.getD l 0:=fun l hl'=>by
  rw [lbl,lbf om];exact hp _ (lbE _)
 have h1:p6 (fun l=>b3a s y l*z.getD l 0) s.n.toNat<=p6 (fun l=>c l*z.getD l 0) s.n.toNat:=by
  have:=a4l (f:=fun l=>(c l - b3a s y l)*z.getD l 0) (n:=s.n.toNat) fun l hl'=>lb1 (by have:=h.mix l hl';grind) (h0 l hl')
  rw [p5 (g:=fun l=>c l*z.getD l 0+(-1:Rat)*(b3a s y l*z.getD l 0)) fun l hl'=>by grind,a2E,K4] at this;grind
 have h2:p6 (fun l=>b3a s y l*z.getD l 0) s.n.toNat=p6 (fun i=>y i*n9 (Z8 s i).terms z) s.rows.length:=by
  unfold b3a;rw [b7X (s:=s) (f:=fun i l=>y i*L9 (Z8 s i).terms l)];refine p5 fun i hi=>?_
  have hx:s.rows[i]? =some (Z8 s i):=by unfold Z8;rw [lbl,lbf hi];rfl
  rw [a06 (a1t hr hx).1 z,←K4];exact p5 fun l hl=>zg
 have h3:0<=p6 (fun i=>y i*(n9 (Z8 s i).terms z - (Z8 s i).value)) s.rows.length:=a4l fun i hi=>by
  have hx:s.rows[i]? =some (Z8 s i):=by unfold Z8;rw [lbl,lbf hi];rfl
  have ⟨_,k1,k2⟩:=a1t hr hx;have ⟨s1,s2⟩:=h.sign i _ hx;have ⟨b1,b2⟩:=hw _ (lbm hx);by_cases e0:(Z8 s i).kind=0
  ·have:=b1 om;exact lb1 (s1 e0) zg
  ·by_cases e1:(Z8 s i).kind=1
   ·have:=b2 e0;have:=lb1 (show 0<=-(y i) by have:=s2 e1;grind) (show 0<=-(n9 (Z8 s i).terms z - (Z8 s i).value) by grind);grind
   ·have a1:=b1 e1;have a2:=b2 e0;have:n9 (Z8 s i).terms z - (Z8 s i).value=0:=zg;rw [this];grind
 rw [p5 (g:=fun i=>y i*n9 (Z8 s i).terms z+(-1:Rat)*(y i*(Z8 s i).value)) fun i hi=>by grind,a2E,K4] at h3;have h4:=h.val;unfold b72 at h4;grind
def rF (n:Nat) (g:Nat->Rat):List Fr:=(List.range n).map fun j=>fz (g j)
def mF (m n:Nat) (A:Nat->Nat->Rat):List (List Fr):=(List.range m).map fun i=>rF n (A i)
def P7 (n:Nat) (g:Nat->Rat):(rF n g).length=n:=by simp [rF]
def i8 (m n:Nat) (A:Nat->Nat->Rat):(mF m n A).length=m:=by simp [mF]
def L5 {n:Nat} {g:Nat->Rat} {j:Nat} (h:j<n):(rF n g)[j]? =some (fz (g j)):=by simp [rF,h]
def Z3 {m n:Nat} {A:Nat->Nat->Rat} {i:Nat} (h:i<m):(mF m n A)[i]? =some (rF n (A i)):=by simp [mF,h]
def a0W {n:Nat} {g:Nat->Rat} {s:Nat} {v:Rat} (h:s<n):(rF n g).set s (fz v)=rF n (fun j=>if j=s then v else g j):=by
 apply a16;intro j;by_cases hj:j<n
 ·rw [L5 hj,lbg,P7];by_cases hjm:s=j
  ·subst hjm;simp [h]
  ·rw [iC hjm,L5 hj,iC om]
 ·rw [lbd (by simp [P7];omega),lbd (by simp [P7];omega)]
def F9 {n:Nat} {g h:Nat->Rat} (e:∀j,j<n->g j=h j):rF n g=rF n h:=lbp fun j hj=>by rw [e j (lbB.1 hj)]
def b1S {m n:Nat} {A B:Nat->Nat->Rat} (e:∀i,i<m->∀j,j<n->A i j=B i j):mF m n A=mF m n B:=lbp fun i hi=>F9 (e i (lbB.1 hi))
def b7M {m n:Nat} {A:Nat->Nat->Rat} {r:Nat} {g:Nat->Rat} (h:r<m):(mF m n A).set r (rF n g)=mF m n (fun i=>if i=r then g else A i):=by
 apply a16;intro j;by_cases hj:j<m
 ·rw [Z3 hj,lbg,i8];by_cases hjm:r=j
  ·subst hjm;simp [h]
  ·rw [iC hjm,Z3 hj,iC om]
 ·rw [lbd (by simp [i8];omega),lbd (by simp [i8];omega)]
abbrev flB (l:List Fr):Blk:={ mode:=.live,elem:=89,size:=4,rows:=toC (l.map B3),box:=false }
def R4 {row:List Fr} {i n:Nat} {y:Fr} (h:n=i):D6 (flB row) ((toC (row.map B3)).set n (frC y))=flB (row.set i y):=by
 subst h;unfold D6;simp [toC,a67,B3]
def a0d (b m n:Nat) (V:Nat->Rat):List (List C):=(List.range m).map fun i=>frC (fz (V i))++[C.own (i+b) 0 n true]
def a04 (m:Nat) (O:Nat->Nat):List (List T):=(List.range m).map fun i=>[ti (O i)]
def a1D (l:LB):List (List T):=l.map fun f=>[ti f.1,tb f.2]
def J3 (b m n:Nat) (V:Nat->Rat):(a0d b m n V).length=m:=by simp [a0d]
def p4 (m:Nat) (O:Nat->Nat):(a04 m O).length=m:=by simp [a04]
def a4j {b m n:Nat} {V:Nat->Rat} {i:Nat} (h:i<m):(a0d b m n V)[i]? =some (frC (fz (V i))++[C.own (i+b) 0 n true]):=by simp [a0d,h]
def a8T {m:Nat} {O:Nat->Nat} {i:Nat} (h:i<m):(a04 m O)[i]? =some [ti (O i)]:=by simp [a04,h]
def b5U {b m n:Nat} {V:Nat->Rat} {r:Nat} {v:Rat} (h:r<m):(a0d b m n V).set r (frC (fz v)++[C.own (r+b) 0 n true])=a0d b m n (fun i=>if i=r then v else V i):=by
 apply a16;intro j;by_cases hj:j<m
 ·rw [a4j hj,lbg,J3];by_cases hjm:r=j
  ·subst hjm;simp [h]
  ·rw [iC hjm,a4j hj,iC om]
 ·rw [lbd (by simp [J3];omega),lbd (by simp [J3];omega)]
def bd5 {m:Nat} {O:Nat->Nat} {r v:Nat} (h:r<m):(a04 m O).set r [ti v]=a04 m (fun i=>if i=r then v else O i):=by
 apply a16;intro j;by_cases hj:j<m
 ·rw [a8T hj,lbg,p4];by_cases hjm:r=j
  ·subst hjm;simp [h]
  ·rw [iC hjm,a8T hj,iC om]
 ·rw [lbd (by simp [p4];omega),lbd (by simp [p4];omega)]
abbrev b42 (m n k:Nat):Blk:={ mode:=.live,elem:=212,size:=6,rows:=[[C.t (ti n),.own 1 0 m true,.own 2 0 n true,.own 3 0 m true,.own 4 0 n true,.own 5 0 k true]],box:=true }
abbrev a29 (b m n:Nat) (V:Nat->Rat):Blk:={ mode:=.live,elem:=216,size:=5,rows:=a0d b m n V,box:=false }
abbrev U7 (m:Nat) (O:Nat->Nat):Blk:={ mode:=.live,elem:=3,size:=1,rows:=toC (a04 m O),box:=false }
abbrev a2U (l:LB):Blk:={ mode:=.live,elem:=229,size:=2,rows:=toC (a1D l),box:=false }
abbrev a1w (m n:Nat) (fr:LB) (D:Fd):Hp:=
 b42 m n fr.length::a29 6 m n D.V::flB (rF n D.G)::U7 m D.O::U7 n D.F::a2U fr::(mF m n D.A).map flB
def a4o {m n:Nat} {fr:LB} {D:Fd}:(a1w m n fr D).length=m+6:=by simp [i8]
def ay3 {b m n N:Nat} {V:Nat->Rat} (h:m+b<=N):okB N (a29 b m n V):=by
 intro r hr c hc;obtain ⟨i,hi,rfl⟩:=lbx.1 hr;have:=lbB.1 hi;simp [frC] at hc;rcases hc with rfl|rfl|rfl|rfl|rfl<;>first|trivial|(simp only;omega)
def b5C {m n k N:Nat} (h:6<=N):okB N (b42 m n k):=by
 intro r hr c hc;simp at hr;subst hr;simp at hc;rcases hc with rfl|rfl|rfl|rfl|rfl|rfl<;>first|trivial|(simp only;omega)
def a9p {m n:Nat} {fr:LB} {D:Fd}:∀k ∈ a1w m n fr D,okB (m+6) k:=by
 intro k hk;simp only [lbA] at hk;rcases hk with rfl|rfl|rfl|rfl|rfl|rfl|hk
 ·exact b5C om
 ·exact ay3 (lbR _)
 ·exact A8 rfl
 ·exact A8 rfl
 ·exact A8 rfl
 ·exact A8 rfl
 ·obtain ⟨l,_,rfl⟩:=lbx.1 hk;exact A8 rfl
def b4Z (x:Rat):(fz x).p.sg=0↔x=0:=by
 show x.num.sign=0↔_;rw [b3B,Rat.num_eq_zero]
def rl0:rl 0<=1:=by
 have h0:=w9 (x:=0) de de;have h1:=w9 (x:=1) de de;show max (bl 0) (bl 1)<=1;omega
def rl1:rl 1<=1:=by
 have h1:=w9 (x:=1) de de;show max (bl 1) (bl 1)<=1;omega
def bJ5 (x y:Rat) (hy:y≠0) (lx:rl x<=60000) (ly:rl y<=60000):ec 231 [frS (fz x),frS (fz y)] [] (.tup [frS (fz (x / y)),eI 0]) []:=by
 have r1:=P9 x om;have r2:=P9 y om;have x1:=K9 x;have x2:=K3 x;have y1:=K9 y;have y2:=K3 y;have hn:y.num≠0:=fun h=>hy (Rat.num_eq_zero.1 h)
 have hs:y.num.sign≠0:=fun h=>hn (b3B.1 h)
 have hsg:=b4Z y;have l1:=I5 x.num y.den;have l3:=I5 x.den y.num;have t1:=a2F x.num y.den om om;have t3:=a2F x.den y.num om om;have n:=aQ5 (x.num*y.den) (x.den*y.num) (Int.mul_ne_zero (b34 x) hn) om om;rw [← bk2] at n;refine ac Tryz.func231 ?_;conv=>whnf
 repeat' (first|refine zx ?_|apply zD<;>intro h<;>try omega)<;>conv=>whnf
 all_goals first|(exfalso;simp_all;done)|exact a0U rfl
def a8z (x:Rat) (lx:rl x<=60000):ec 187 [frS (fz x)] [] (frS (fz (-x))) []:=by
 have r1:=P9 x om;have x1:=K9 x;have x2:=K3 x;have n:=ac1 x.num om;have s:=av2 x.den om;have e:fz (-x)=⟨bz (-x.num),bz x.den⟩:=rfl;rw [e];refine ac Tryz.func187 ?_;conv=>whnf
 repeat' (first|refine zx ?_|apply zD<;>intro<;>try omega)<;>conv=>whnf
 all_goals first|(exfalso;simp_all;done)|exact n8 rz
def ax2 (x:Rat):ec 222 [frS (fz x)] [] (n7 (decide (x=0))) []:=by
 have h:=b4Z x;refine ac Tryz.func222 ?_;conv=>whnf
 repeat' (first|refine zx ?_|apply zD<;>intro h<;>try omega)<;>conv=>whnf
 all_goals (refine j6 ?_;simp_all)
def b3G (a b c:Rat) (la:rl a<=60000) (lb:rl b<=30000) (lc:rl c<=30000):ec 223 [frS (fz a),frS (fz b),frS (fz c)] [] (frS (fz (a - b*c))) []:=by
 have z1:=ax2 b;have z2:=ax2 c;have m:=b3C b c om om;have lm:=aY3 b c;have s:=ba5 a (b*c) la om;by_cases hb:b=0
 ·have e:a - b*c=a:=by rw [hb];grind
  rw [e];refine ac Tryz.func223 ?_;conv=>whnf
  repeat' (first|refine zx ?_|apply zD<;>intro<;>try omega)<;>conv=>whnf
  all_goals first|(exfalso;simp_all;done)|exact n8 rz
 ·by_cases hc:c=0
  ·have e:a - b*c=a:=by rw [hc];grind
   rw [e];refine ac Tryz.func223 ?_;conv=>whnf
   repeat' (first|refine zx ?_|apply zD<;>intro<;>try omega)<;>conv=>whnf
   all_goals first|(exfalso;simp_all;done)|exact n8 rz
  ·refine ac Tryz.func223 ?_;conv=>whnf
   repeat' (first|refine zx ?_|apply zD<;>intro<;>try omega)<;>conv=>whnf
   all_goals first|(exfalso;simp_all;done)|exact n8 rz
def b2v (a b:Rat) (hb:b≠0) (la:rl a<=60000) (lb:rl b<=60000):ec 221 [frS (fz a),frS (fz b)] [] (frS (fz (a / b))) []:=by
 have d:=bJ5 a b hb la lb;refine ac Tryz.func221 ?_;conv=>whnf
 repeat' (first|refine zx ?_|apply zD<;>intro<;>try omega)<;>conv=>whnf
 all_goals exact n8 rz
def tkF (a row:Nat->Rat) (s k:Nat):Nat->Rat:=fun j=>if j<k/\j≠s then a j - a s*row j else a j
def tkA (a row:Nat->Rat) (s:Nat):Nat->Rat:=fun j=>if j=s then 0 - a s*row s else a j - a s*row j
def pZ (k n:Nat):List Fr:=(List.range n).map fun j=>if j<k then fz 0 else a0L
def az0 (k n:Nat):(pZ k n).length=n:=by simp [pZ]
def a6S {k n j:Nat} (h:j<n):(pZ k n)[j]? =some (if j<k then fz 0 else a0L):=by simp [pZ,h]
def b7j {k n:Nat} (h:k<n):(pZ k n).set k (fz 0)=pZ (k+1) n:=by
 apply a16;intro j;by_cases hj:j<n
 ·rw [a6S hj,lbg,az0];by_cases hjk:k=j
  ·subst hjk;simp [h]
  ·rw [iC hjk,a6S hj];have:(j<k+1)↔(j<k):=om;simp only [this]
 ·rw [lbd (by simp [az0];omega),lbd (by simp [az0];omega)]
def aS3 (n:Nat):pZ n n=rF n (fun _=>0):=lbp fun j hj=>by rw [iB (lbB.1 hj)]
def bp6 (n:Nat) (hn:n<=1000):ec 185 [eI n] [] (.c (.own 0 0 n true)) [flB (rF n fun _=>0)]:=by
 have i0:=V4 0 de de;have hnn:(n:Int).toNat=n:=om;refine ac Tryz.func185 ?_;conv=>whnf
 repeat' (first|refine zx ?_|refine a2y om om om de ?_|apply zD<;>intro h<;>try omega)<;>conv=>whnf
 refine k6 g8 (fun k=>([eI n,J,J,S.c (C.own 0 0 n true),J,J,J,J,eI n,eI k]++Jn 8,[flB (pZ k n)])) n tT [some 0] trivial
  ⟨rfl,rfl,⟨⟨rfl,rfl,rfl,.inr (a2n ?_ ?_)⟩,trivial⟩,⟨m9 rfl,⟨rfl,rfl,om,fun h=>h⟩,g9 om,g9 rfl,trivial⟩⟩ ?_
 ·simp [D8,toC,az0]
 ·intro i x y hx hy;simp only [D8,lbk] at hx;split at hx
  ·rename_i hi;injection hx with hx;subst hx;have hy:(toC ((pZ 0 n).map B3))[i]? =some y:=hy;rw [toC,lba,lba,a6S om,iC om] at hy;injection hy with hy;subst hy;exact rz
  ·cases hx
 intro k hk _;by_cases hlt:k<n
 ·obtain ⟨pf,hpf⟩:∃pf,(pZ k n)[k]? =some pf:=⟨_,a6S hlt⟩;have gp:(pZ k n)[0+(k:Int).toNat]? =some pf:=by rw [W7,show (k:Int).toNat=k by omega];exact hpf
  have eM:0+(k:Int).toNat=k:=om;conv=>whnf
  repeat' (first|refine zx ?_|refine z6 gp ?_|apply zD<;>intro h<;>try omega)<;>conv=>whnf
  all_goals first
   |omega
   |(refine ⟨hlt,trivial,[some 0],rfl,rfl,⟨i6 (rows:=(pZ (k+1) n).map B3) rfl rfl rfl ?_ rfl,trivial⟩,⟨rfl,⟨rfl,rfl,rfl,fun h=>h⟩,rfl,g9 om,trivial⟩⟩
     have e:=R4 (row:=pZ k n) (y:=fz 0) eM;rw [b7j hlt] at e;exact congrArg Blk.rows e)
 ·have hke:k=n:=by omega
  subst hke;conv=>whnf
  repeat' (first|refine zx ?_|apply zD<;>intro h<;>try omega)<;>conv=>whnf
  all_goals first|omega|exact ⟨[some 0],rfl,rfl,⟨i6 (rows:=(rF k fun _=>0).map B3) rfl rfl rfl (by rw [← aS3]) rfl,trivial⟩,⟨rfl,rfl,rfl,fun h=>h⟩⟩
def bc2 (a row:Nat->Rat) (s:Nat):tkF a row s 0=a:=by funext j;unfold tkF;rw [iC om]
def bN6 (a row:Nat->Rat) (s k:Nat):tkF a row s k k=a k:=by unfold tkF;rw [iC om]
def bS7 (a row:Nat->Rat) (s k:Nat):tkF a row s k s=a s:=by unfold tkF;rw [iC om]
def b7J {a row:Nat->Rat} {s k:Nat} (h:k≠s):(fun j=>if j=k then a k - a s*row k else tkF a row s k j)=tkF a row s (k+1):=by
 funext j;by_cases hj:j=k
 ·subst hj;rw [iB rfl];unfold tkF;rw [iB ⟨om,h⟩]
 ·rw [iC hj];unfold tkF;have:(j<k/\j≠s)↔(j<k+1/\j≠s):=om;simp only [this]
def bb1 {a row:Nat->Rat} {s:Nat}:tkF a row s s=tkF a row s (s+1):=by
 funext j;unfold tkF;have:(j<s/\j≠s)↔(j<s+1/\j≠s):=om;simp only [this]
def bj8 {a row:Nat->Rat} {s n:Nat}:rF n (fun j=>if j=s then 0 - a s*row s else tkF a row s n j)=rF n (tkA a row s):=F9 fun j hj=>by
 unfold tkA tkF;by_cases h:j=s
 ·rw [iB h,iB h]
 ·rw [iC h,iC h,iB ⟨hj,h⟩]
abbrev frX (x:Rat):Blk:={ mode:=.live,elem:=89,size:=4,rows:=[frC (fz x)],box:=true }
def bL4 {ρ:List (Option Nat)} {H:Hp} (x:Rat):a3o ρ H (frX x) (frX x):=⟨rfl,rfl,rfl,.inl ⟨rfl,j2 [B3 (fz x)]⟩⟩
def bH9 (n s:Nat) (a row:Nat->Rat) (hn:n<=1000) (hs:s<n) (ha:∀j,j<n->rl (a j)<=30000) (hr:∀j,j<n->rl (row j)<=30000):
 ec 224 [.c (.own 0 0 n true),.c (.own 1 0 n true),eI s] [flB (rF n a),flB (rF n row)] (.tup []) [flB (rF n (tkA a row s)),flB (rF n row)]:=by
 have i0:=V4 0 de de;have ls:=ha s hs;have eS:0+(s:Int).toNat=s:=om;have gs:(rF n a)[0+(s:Int).toNat]? =some (fz (a s)):=by rw [eS,L5 hs]
 refine ac Tryz.func224 ?_;conv=>whnf
 repeat' (first|refine zx ?_|refine z6 gs ?_|apply zD<;>intro h<;>try omega)<;>conv=>whnf
 refine k6 g8 (fun k=>([S.c (C.own 0 0 n true),S.c (C.own 1 0 n true),eI s,J,J,J,sP 2 0 0,J,J,J,J,J,J,eI n,eI k]++Jn 29,[flB (rF n (tkF a row s k)),flB (rF n row),frX (a s)])) n tT [some 0,some 1,some 2] trivial
  ⟨rfl,rfl,⟨i6 (rows:=(rF n a).map B3) rfl rfl rfl rfl (by rw [bc2]),i6 rfl rfl rfl rfl rfl,bL4 _,trivial⟩,⟨⟨rfl,rfl,rfl,fun h=>h⟩,⟨rfl,rfl,rfl,fun h=>h⟩,rfl,rz,g9 rfl,g9 rfl,trivial⟩⟩ ?_
 intro k hk _;by_cases hlt:k<n
 ·have eM:0+(k:Int).toNat=k:=by omega
  have lk:=ha k hlt;have lr:=hr k hlt;have g1:(rF n (tkF a row s k))[0+(k:Int).toNat]? =some (fz (a k)):=by rw [eM,L5 hlt,bN6]
  have g2:(rF n row)[0+(k:Int).toNat]? =some (fz (row k)):=by rw [eM,L5 hlt]
  have le:=b3G (a k) (a s) (row k) om om om;by_cases hks:k=s
  ·subst hks;conv=>whnf
   repeat' (first|refine zx ?_|refine z6 g1 ?_|refine z6 g2 ?_|apply zD<;>intro h<;>try omega)<;>conv=>whnf
   all_goals first|omega|exact ⟨hlt,trivial,[some 0,some 1,some 2],rfl,rfl,⟨i6 (rows:=(rF n (tkF a row k k)).map B3) rfl rfl rfl rfl (by rw [bb1]),i6 rfl rfl rfl rfl rfl,bL4 _,trivial⟩,⟨⟨rfl,rfl,rfl,fun h=>h⟩,⟨rfl,rfl,rfl,fun h=>h⟩,rfl,rz,g9 rfl,g9 rfl,trivial⟩⟩
  ·conv=>whnf
   repeat' (first|refine zx ?_|refine z6 g1 ?_|refine z6 g2 ?_|apply zD<;>intro h<;>try omega)<;>conv=>whnf
   all_goals first
    |omega
    |(refine ⟨hlt,trivial,[some 0,some 1,some 2],rfl,rfl,⟨i6 (rows:=(rF n (tkF a row s (k+1))).map B3) rfl rfl rfl ?_ rfl,i6 rfl rfl rfl rfl rfl,bL4 _,trivial⟩,⟨⟨rfl,rfl,rfl,fun h=>h⟩,⟨rfl,rfl,rfl,fun h=>h⟩,rfl,rz,g9 rfl,g9 rfl,trivial⟩⟩
      have e:=R4 (row:=rF n (tkF a row s k)) (y:=fz (a k - a s*row k)) eM;rw [a0W hlt,b7J hks] at e;exact congrArg Blk.rows e)
 ·have hke:k=n:=by omega
  subst hke;have g2:(rF k row)[0+(s:Int).toNat]? =some (fz (row s)):=by rw [eS,L5 hs]
  have lr:=hr s hs;have le:=b3G 0 (a s) (row s) (by have:=rl0;omega) om om;have le:ec 223 [frS (fz ((0:Int):Rat)),frS (fz (a s)),frS (fz (row s))] [] (frS (fz (0 - a s*row s))) []:=le;conv=>whnf
  have g1:(rF k (tkF a row s k))[0+(s:Int).toNat]? =some (fz (a s)):=by rw [eS,L5 hs,bS7]
  repeat' (first|refine zx ?_|refine z6 g2 ?_|refine z6 g1 ?_|apply zD<;>intro h<;>try omega)<;>conv=>whnf
  all_goals first
   |omega
   |(refine ⟨[some 0,some 1],rfl,rfl,⟨i6 (rows:=(rF k (tkA a row s)).map B3) rfl rfl rfl ?_ rfl,i6 rfl rfl rfl rfl rfl,trivial⟩,trivial⟩
     have e:=R4 (row:=rF k (tkF a row s k)) (y:=fz (0 - a s*row s)) eS;rw [a0W hs,bj8] at e;exact congrArg Blk.rows e)
def leI:Option Nat->Int
 |none=>-1
 |some a=>a
def Z2 (f:Nat->Nat) (p:Nat->Bool) (k:Nat):F5 f p (k+1)=match F5 f p k with
 |none=>if p k then some k else none
 |some a=>if p k && decide (f k<f a) then some k else some a:=rfl
def t7 {m:Nat} {f:Nat->Nat} {n:Int} {i:Nat} {K:List T->Prop} (e:n=i) (h:i<m) (k:K [ti (f i)]):∃row,0<=n/\(a04 m f)[n.toNat]? =some row/\K row:=by
 subst e;exact ⟨_,om,by rw [show (i:Int).toNat=i by omega,a8T h],k⟩
abbrev a8E (m:Nat) (f:Nat->Nat):S:=.c (.t (.sl 1 .any (a04 m f)))
def a7z (m:Nat) (hm:m<=100000) (f:Nat->Nat) (p:Nat->Bool) (g:FuncId) (caps:List T) (hg:∀i:Nat,i<m->ec g (eI i::caps.map fun x=>.c (.t x)) [] (n7 (p i)) []):
 ec 188 [a8E m f,.c (.t (.fn (.func g) caps))] [] (eI (leI (F5 f p m))) []:=by
 have m1:(a04 m f).length=m:=p4 m f;refine ac Tryz.func188 ?_;conv=>whnf
 repeat' (first|refine zx ?_|apply zD<;>intro<;>try omega)<;>conv=>whnf
 refine k6 g8 (fun k=>([a8E m f,S.c (C.t (T.fn (.func g) caps)),J,J,J,eI (leI (F5 f p k)),J,J,a8E m f,eI m,eI k]++Jn 22,[])) m tT [] trivial
  ⟨rfl,rfl,trivial,⟨m9 rfl,m9 rfl,g9 rfl,m9 rfl,g9 om,g9 rfl,trivial⟩⟩ ?_
 intro k hk _;by_cases hlt:k<m
 ·have hgr:=hg k hlt;have ha:(eI (k:Int)::caps.map fun x=>S.c (C.t x)).all S.isT=true:=by simp [S.isT,C.isT,e7]
  cases hp:p k with
  |false=>
   rw [hp] at hgr;have e1:leI (F5 f p k)=leI (F5 f p (k+1)):=by
    rw [Z2,hp];cases F5 f p k<;>rfl
   conv=>whnf
   repeat' (first|refine zx ?_|refine .inl ⟨_,_,I8 hgr ha rfl,?_⟩|refine t7 rfl hlt ?_|apply zD<;>intro<;>try omega)<;>conv=>whnf
   all_goals first
    |omega
    |exact ⟨hlt,trivial,[],rfl,rfl,trivial,⟨rfl,rfl,g9 e1,rfl,rfl,g9 rfl,trivial⟩⟩
  |true=>
   rw [hp] at hgr;cases hl:F5 f p k with
   |none=>
    have hle:leI none=-1:=rfl;have e1:(k:Int)=leI (F5 f p (k+1)):=by rw [Z2,hl,hp];rfl
    conv=>whnf
    repeat' (first|refine zx ?_|refine .inl ⟨_,_,I8 hgr ha rfl,?_⟩|refine t7 rfl hlt ?_|apply zD<;>intro<;>try omega)<;>conv=>whnf
    all_goals first
     |omega
     |exact ⟨hlt,trivial,[],rfl,rfl,trivial,⟨rfl,rfl,g9 e1,rfl,rfl,g9 rfl,trivial⟩⟩
   |some b=>
    have hb:=(G3 hl).1;have hle:leI (some b)=b:=rfl;by_cases hc:f k<f b
    ·have e1:(k:Int)=leI (F5 f p (k+1)):=by rw [Z2,hl,hp];simp [hc,leI]
     conv=>whnf
     repeat' (first|refine zx ?_|refine .inl ⟨_,_,I8 hgr ha rfl,?_⟩|refine t7 rfl hlt ?_|refine t7 (i:=b) hle om ?_|apply zD<;>intro<;>try omega)<;>conv=>whnf
     all_goals first|omega|exact ⟨hlt,trivial,[],rfl,rfl,trivial,⟨rfl,rfl,g9 e1,rfl,rfl,g9 rfl,trivial⟩⟩
    ·have e1:leI (some b)=leI (F5 f p (k+1)):=by rw [Z2,hl,hp];simp [hc,leI]
     conv=>whnf
     repeat' (first|refine zx ?_|refine .inl ⟨_,_,I8 hgr ha rfl,?_⟩|refine t7 rfl hlt ?_|refine t7 (i:=b) hle om ?_|apply zD<;>intro<;>try omega)<;>conv=>whnf
     all_goals first|omega|exact ⟨hlt,trivial,[],rfl,rfl,trivial,⟨rfl,rfl,g9 e1,rfl,rfl,g9 rfl,trivial⟩⟩
 ·have hke:k=m:=by omega
  subst hke;conv=>whnf
  repeat' (first|refine zx ?_|apply zD<;>intro<;>try omega)<;>conv=>whnf
  all_goals first|omega|exact p9 rfl
def ah5 (m n:Nat) (D:Fd):List (List T):=(List.range m).map fun i=>B3 (fz (D.V i))++[T.sl 4 .any ((rF n (D.A i)).map B3)]
def bx5 (m n:Nat) (fr:LB) (D:Fd):List T:=[ti n,.sl 5 .any (ah5 m n D),.sl 4 .any ((rF n D.G).map B3),.sl 1 .any (a04 m D.O),.sl 1 .any (a04 n D.F),.sl 2 .any (a1D fr)]
def ae0 {m n:Nat} {D:Fd} {i:Nat} (h:i<m):(ah5 m n D)[i]? =some (B3 (fz (D.V i))++[T.sl 4 .any ((rF n (D.A i)).map B3)]):=by simp [ah5,h]
def a7i (m n:Nat) (D:Fd):(ah5 m n D).length=m:=by simp [ah5]
def a2l {m n:Nat} {D:Fd} {x:Int} {i:Nat} {K:List T->Prop} (e:x=i) (h:i<m) (k:K (B3 (fz (D.V i))++[T.sl 4 .any ((rF n (D.A i)).map B3)])):∃row,0<=x/\(ah5 m n D)[x.toNat]? =some row/\K row:=by
 subst e;exact ⟨_,om,by rw [show (i:Int).toNat=i by omega,ae0 h],k⟩
def a5F {n:Nat} {g:Nat->Rat} {x:Int} {j:Nat} {K:List T->Prop} (e:x=j) (h:j<n) (k:K (B3 (fz (g j)))):∃row,0<=x/\((rF n g).map B3)[x.toNat]? =some row/\K row:=by
 subst e;exact ⟨_,om,by rw [show (j:Int).toNat=j by omega,lba,L5 h];rfl,k⟩
def b7Y (x:Rat):(fz x).p.sg<0↔x<0:=by
 show x.num.sign<0↔_;rw [a9E];unfold sgR;split<;>(try split)<;>simp_all
def b7Z (x:Rat):(fz x).p.sg > 0↔0<x:=by
 show x.num.sign > 0↔_;rw [a9E];unfold sgR;split
 ·constructor
  ·intro h;omega
  ·intro h;grind
 ·split<;>simp_all
abbrev a8o (m n:Nat) (fr:LB) (D:Fd):T:=.ptr [.ptr (bx5 m n fr D)]
def b6Y (m n:Nat) (fr:LB) (D:Fd) (i:Nat) (hi:i<m):
 ec 189 (eI i::[a8o m n fr D].map fun x=>.c (.t x)) [] (n7 (decide (D.V i<0))) []:=by
 have h:=b7Y (D.V i);refine ac Tryz.func189 ?_;conv=>whnf
 repeat' (first|refine zx ?_|refine a2l rfl hi ?_|apply zD<;>intro h<;>try omega)<;>conv=>whnf
 all_goals (refine j6 ?_;simp_all)
def b6z (m n:Nat) (fr:LB) (D:Fd) (j:Nat) (hj:j<n):
 ec 190 (eI j::[a8o m n fr D].map fun x=>.c (.t x)) [] (n7 (decide (0<D.G j))) []:=by
 have h:=b7Z (D.G j);refine ac Tryz.func190 ?_;conv=>whnf
 repeat' (first|refine zx ?_|refine a5F rfl hj ?_|apply zD<;>intro h<;>try omega)<;>conv=>whnf
 all_goals (refine j6 ?_;simp_all)
def aJ9 (m n:Nat) (fr:LB) (D:Fd) (r j:Nat) (hr:r<m) (hj:j<n):
 ec 191 (eI j::[a8o m n fr D,T.ptr [ti r]].map fun x=>.c (.t x)) [] (n7 (decide (D.A r j<0))) []:=by
 have h:=b7Y (D.A r j);refine ac Tryz.func191 ?_;conv=>whnf
 repeat' (first|refine zx ?_|refine a2l rfl hr ?_|refine a5F rfl hj ?_|apply zD<;>intro h<;>try omega)<;>conv=>whnf
 all_goals (refine j6 ?_;simp_all)
def aJ2 (m n:Nat) (fr:LB) (D:Fd) (i s:Nat) (hi:i<m) (hs:s<n):
 ec 192 (eI i::[a8o m n fr D,T.ptr [ti s]].map fun x=>.c (.t x)) [] (n7 (decide (0<D.A i s))) []:=by
 have h:=b7Z (D.A i s);refine ac Tryz.func192 ?_;conv=>whnf
 repeat' (first|refine zx ?_|refine a2l rfl hi ?_|refine a5F rfl hs ?_|apply zD<;>intro h<;>try omega)<;>conv=>whnf
 all_goals (refine j6 ?_;simp_all)
def b4g {H:Hp} {ia ir n s:Nat} {a row:Nat->Rat} (hne:ia≠ir) (ga:H[ia]? =some (flB (rF n a))) (gr:H[ir]? =some (flB (rF n row))) (hn:n<=1000) (hs:s<n) (ha:∀j,j<n->rl (a j)<=30000) (hr:∀j,j<n->rl (row j)<=30000):
 ec 224 [.c (.own ia 0 n true),.c (.own ir 0 n true),eI s] H (.tup []) (H.set ia (flB (rF n (tkA a row s)))):=by
 have la:ia<H.length:=(lbe.1 ga).1;refine W9 [ia,ir] (bH9 n s a row hn hs ha hr) rfl rfl rfl (by simp;exact hne) ?_ ?_ zq rfl rfl zq ?_ ?_
 ·intro i k hk
  match i,hk with
  |0,hk=>injection hk with hk;subst hk;exact ⟨rfl,rfl,a5I _,_,ga,E5 rfl⟩
  |1,hk=>injection hk with hk;subst hk;exact ⟨rfl,rfl,a5I _,_,gr,E5 rfl⟩
 ·intro k hk;simp at hk;rcases hk with rfl|rfl<;>(intro h;cases h)
 ·intro i k hk
  match i,hk with
  |0,hk=>
   injection hk with hk;subst hk
   refine ⟨_,?_,E5 rfl⟩;show (H.set ia _)[ia]? =_;rw [lbg,iB rfl,iB la]
  |1,hk=>
   injection hk with hk;subst hk
   refine ⟨_,?_,E5 rfl⟩;show (H.set ia _)[ir]? =_;rw [lbg,iC hne];exact gr
 ·intro j hj hjn;simp at hjn;rw [lbg,iC (fun h=>hjn.1 h.symm)]
def a41 {b m n i r:Nat} {V:Nat->Rat} {K:List C->Prop} (e:i=r) (h:r<m) (k:K (frC (fz (V r))++[C.own (r+b) 0 n true])):∃row,(a0d b m n V)[i]? =some row/\K row:=by
 subst e;exact ⟨_,a4j h,k⟩
def aT5 {rows:List (List C)} {i:Nat} {x:List C} {K:List C->Prop} (h:i<rows.length) (k:K x):∃row,(rows.set i x)[i]? =some row/\K row:=⟨x,List.getElem?_set_self h,k⟩
def bw7 {rows:List (List C)} {i j:Nat} {x:List C} {K:List C->Prop} (h:i≠j) (k:∃row,rows[j]? =some row/\K row):∃row,(rows.set i x)[j]? =some row/\K row:=by
 rw [List.getElem?_set_ne h];exact k
def a6w (a:Nat->Rat) (p:Rat) (s k:Nat):Nat->Rat:=fun j=>if j<k/\j≠s then a j / p else a j
def A1 (D:Fd) (r s k:Nat):Nat->Nat->Rat:=fun i=>if i=r then a6w (D.A r) (D.A r s) s k else D.A i
def bS5 {D:Fd} {r s k:Nat}:A1 D r s k r k=D.A r k:=by unfold A1 a6w;rw [iB rfl,iC om]
def bW9 {D:Fd} {r s k:Nat}:A1 D r s k r s=D.A r s:=by unfold A1 a6w;rw [iB rfl,iC om]
def bx4 {D:Fd} {r s k:Nat} (h:k≠s):(fun i=>if i=r then (fun j=>if j=k then D.A r k / D.A r s else A1 D r s k r j) else A1 D r s k i)=A1 D r s (k+1):=by
 funext i j;by_cases hi:i=r
 ·subst hi;simp only [if_true];unfold A1 a6w;simp only [if_true];by_cases hj:j=k
  ·subst hj;rw [iB rfl,iB ⟨om,h⟩]
  ·rw [iC hj];have:(j<k/\j≠s)↔(j<k+1/\j≠s):=om;simp only [this]
 ·rw [iC hi];unfold A1;rw [iC hi,iC hi]
def bi0 {D:Fd} {r s:Nat}:A1 D r s s=A1 D r s (s+1):=by
 funext i j;unfold A1 a6w;have:(j<s/\j≠s)↔(j<s+1/\j≠s):=om;split
 ·simp only [this]
 ·rfl
def bn7 {D:Fd} {r s k:Nat} (h:D.A r k=0):A1 D r s k=A1 D r s (k+1):=by
 funext i j;unfold A1 a6w;split
 ·show (if j<k/\j≠s then D.A r j / D.A r s else D.A r j)=if j<k+1/\j≠s then D.A r j / D.A r s else D.A r j
  by_cases hj:j=k
  ·subst hj;rw [iC (show ¬(j<j/\j≠s) by omega)];split
   ·rw [h];grind
   ·rfl
  ·have:(j<k/\j≠s)↔(j<k+1/\j≠s):=by omega
   simp only [this]
 ·rfl
def b5t {m n r:Nat} {A B:Nat->Nat->Rat} {g:Nat->Rat} (h:r<m) (e:(fun i=>if i=r then g else A i)=B):(mF m n A).set r (rF n g)=mF m n B:=by rw [b7M h,e]
def V1 (D:Fd) (r s:Nat):Nat->Rat:=fun i=>if i=r then D.V r / D.A r s else D.V i
def V2 (D:Fd) (r s k:Nat):Nat->Rat:=fun i=>if i=r then D.V r / D.A r s else if i<k then D.V i - D.A i s*(D.V r / D.A r s) else D.V i
def A2 (D:Fd) (r s k:Nat):Nat->Nat->Rat:=fun i=>if i=r then D.pRow r s else if i<k then tkA (D.A i) (D.pRow r s) s else D.A i
def b0M {a row:Nat->Rat} {s:Nat} (h:a s=0):tkA a row s=a:=by
 funext j;unfold tkA;by_cases hj:j=s
 ·rw [iB hj,hj,h];grind
 ·rw [iC hj,h];grind
def Q7 {m i r:Nat} {f:Nat->Nat} {K:List C->Prop} (e:i=r) (h:r<m) (k:K [C.t (ti (f r))]):∃row,(toC (a04 m f))[i]? =some row/\K row:=by
 subst e;exact ⟨_,by simp [toC,a8T h],k⟩
def J1 {α β:Type} {f:β->α} {M:List β} {T:List α} {i:Nat} {x:β} (h:M[i]? =some x):(M.map f++T)[i]? =some (f x):=by
 rw [lbb (by simpa using (lbe.1 h).1),lba,h];rfl
def b7Q {α β:Type} {f:β->α} {M:List β} {T:List α} {i:Nat} {x:β} (h:i<M.length):(M.map f++T).set i (f x)=(M.set i x).map f++T:=by
 rw [b4S _ _ (by simpa using h),←a67]
def bi3 {m n:Nat} {D:Fd} {r s:Nat} (hr:r<m) (hs:s<n):(mF m n (A1 D r s n)).set r ((rF n (A1 D r s n r)).set s (fz (((1:Int):Rat) / D.A r s)))=mF m n (A2 D r s 0):=by
 rw [a0W hs,b7M hr];refine b1S fun i hi j hj=>?_
 unfold A2;by_cases hir:i=r
 ·rw [iB hir,iB hir];unfold Fd.pRow A1 a6w;rw [iB rfl];by_cases hjs:j=s
  ·rw [iB hjs,iB hjs];rfl
  ·rw [iC hjs,iC hjs,iB ⟨hj,hjs⟩]
 ·rw [iC hir,iC hir,iC om];unfold A1;rw [iC hir]
def bl3 {D:Fd} {r s:Nat}:V2 D r s 0=V1 D r s:=by
 funext i;unfold V2 V1;split
 ·rfl
 ·rw [iC om]
def bR3 {D:Fd} {r s k:Nat}:V2 D r s k r=D.V r / D.A r s:=by unfold V2;rw [iB rfl]
def ba2 {D:Fd} {r s k:Nat} (h:k≠r):V2 D r s k k=D.V k:=by unfold V2;rw [iC h,iC om]
def bV9 {D:Fd} {r s k:Nat}:A2 D r s k r=D.pRow r s:=by unfold A2;rw [iB rfl]
def bz3 {D:Fd} {r s k:Nat} (h:k≠r):A2 D r s k k=D.A k:=by unfold A2;rw [iC h,iC om]
def b56 {D:Fd} {r s k:Nat} (h:k≠r):(fun i=>if i=k then D.V k - D.A k s*(D.V r / D.A r s) else V2 D r s k i)=V2 D r s (k+1):=by
 funext i;by_cases hi:i=k
 ·subst hi;rw [iB rfl];unfold V2;rw [iC h,iB om]
 ·rw [iC hi];unfold V2;have:(i<k)↔(i<k+1):=om;simp only [this]
def b4y {D:Fd} {r s k:Nat} (h:k≠r):(fun i=>if i=k then tkA (D.A k) (D.pRow r s) s else A2 D r s k i)=A2 D r s (k+1):=by
 funext i;by_cases hi:i=k
 ·subst hi;rw [iB rfl];unfold A2;rw [iC h,iB om]
 ·rw [iC hi];unfold A2;have:(i<k)↔(i<k+1):=om;simp only [this]
def bj1 {D:Fd} {r s:Nat}:V2 D r s r=V2 D r s (r+1):=by
 funext i;unfold V2;by_cases h:i=r
 ·rw [iB h,iB h]
 ·have:(i<r)↔(i<r+1):=by omega
  simp only [this]
def bt7 {D:Fd} {r s:Nat}:A2 D r s r=A2 D r s (r+1):=by
 funext i;unfold A2;by_cases h:i=r
 ·rw [iB h,iB h]
 ·have:(i<r)↔(i<r+1):=by omega
  simp only [this]
def bk8 {D:Fd} {r s k:Nat} (h:k≠r) (hz:D.A k s=0):V2 D r s k=V2 D r s (k+1):=by
 rw [← b56 h,hz];funext i;by_cases hi:i=k
 ·subst hi;rw [iB rfl,ba2 h];grind
 ·rw [iC hi]
def by5 {D:Fd} {r s k:Nat} (h:k≠r) (hz:D.A k s=0):A2 D r s k=A2 D r s (k+1):=by
 rw [← b4y h,b0M hz];funext i;by_cases hi:i=k
 ·subst hi;rw [iB rfl,bz3 h]
 ·rw [iC hi]
def bF8 {D:Fd} {r s m i:Nat} (h:i<m):V2 D r s m i=(D.exch r s).V i:=by
 unfold V2 Fd.exch;simp only;split
 ·rfl
 ·first|rfl|rw [iB h]
def bD3 {D:Fd} {r s m i j:Nat} (h:i<m):A2 D r s m i j=(D.exch r s).A i j:=by
 unfold A2 Fd.exch;simp only;split
 ·rfl
 ·first|rfl|(rw [iB h];rfl)
abbrev Q6 (m n:Nat) (fr:LB) (V:Nat->Rat) (G:Nat->Rat) (O F:Nat->Nat) (A:Nat->Nat->Rat) (T:Hp):Hp:=
 b42 m n fr.length::a29 6 m n V::flB (rF n G)::U7 m O::U7 n F::a2U fr::((mF m n A).map flB++T)
structure BdD (m n B:Nat) (D:Fd):Prop where
 v:∀i,i<m->rl (D.V i)<=B
 a:∀i,i<m->∀j,j<n->rl (D.A i j)<=B
 g:∀j,j<n->rl (D.G j)<=B
def b3N {b m n r i:Nat} {V:Nat->Rat} {x:List C} {v:Rat} (e:i=r) (h:r<m) (hx:x=frC (fz v)++[C.own (r+b) 0 n true]):(a0d b m n V).set i x=a0d b m n (fun i=>if i=r then v else V i):=by
 subst e hx;exact b5U h
def b23 {m n:Nat} {fr:LB} {V G:Nat->Rat} {O F:Nat->Nat} {A:Nat->Nat->Rat} {T T':Hp}:Q6 m n fr V G O F A (T++T')=Q6 m n fr V G O F A T++T':=by
 show b42 m n fr.length::a29 6 m n V::flB (rF n G)::U7 m O::U7 n F::a2U fr::((mF m n A).map flB++(T++T'))=b42 m n fr.length::a29 6 m n V::flB (rF n G)::U7 m O::U7 n F::a2U fr::(((mF m n A).map flB++T)++T');rw [lbD]
def a8W {m n:Nat} {fr:LB} {V G:Nat->Rat} {O F:Nat->Nat} {A:Nat->Nat->Rat} {T:Hp}:(Q6 m n fr V G O F A T).length=m+6+T.length:=by simp [i8];omega
def b5l {m n N:Nat} {fr:LB} {V G:Nat->Rat} {O F:Nat->Nat} {A:Nat->Nat->Rat} {T:Hp} (h:m+6<=N) (hT:∀k ∈ T,okB N k):∀k ∈ Q6 m n fr V G O F A T,okB N k:=by
 intro k hk;simp only [lbA,lbz] at hk;rcases hk with rfl|rfl|rfl|rfl|rfl|rfl|hk|hk
 ·exact b5C om
 ·exact ay3 h
 ·exact A8 rfl
 ·exact A8 rfl
 ·exact A8 rfl
 ·exact A8 rfl
 ·obtain ⟨l,_,rfl⟩:=lbx.1 hk;exact A8 rfl
 ·exact hT k hk
def a0F {n0 N m n:Nat} {fr:LB} {V G:Nat->Rat} {O F:Nat->Nat} {A:Nat->Nat->Rat} {T T' H:Hp} {env env':Env} (hH:H=Q6 m n fr V G O F A (T++T')) (hN:m+6+T.length=N) (h0:n0<=N) (hT:∀k ∈ T,okB N k)
 (hE:a0A (idR N) H env env'):Ent n0 (idR N) env H env' (Q6 m n fr V G O F A T):=by
 refine a7k (by rw [a8W];exact hN) h0 (b5l om hT) (fun i hi=>?_) hE;rw [hH,b23,lbb (by rw [a8W];omega)]
def as6 {n0 N m n:Nat} {fr:LB} {V G:Nat->Rat} {O F:Nat->Nat} {A:Nat->Nat->Rat} {T H:Hp} {r s:S} (hH:H=Q6 m n fr V G O F A T) (hN:m+6=N) (h0:n0<=N) (hE:a9j (idR N) H r s):
 Fin n0 r H s (Q6 m n fr V G O F A []):=by
 refine a7C (by rw [a8W];exact hN) h0 (b5l om zq) (fun i hi=>?_) hE;have e:Q6 m n fr V G O F A T=Q6 m n fr V G O F A []++T:=b23 (T:=[]) (T':=T);rw [hH,e,lbb (by rw [a8W];simp;omega)]
def a2x {b0 b1 b2 b3 b4 b5 c0 c1 c2 c3 c4 c5:Blk} {L L':Hp} (h0:b0=c0) (h1:b1=c1) (h2:b2=c2) (h3:b3=c3) (h4:b4=c4) (h5:b5=c5) (h6:L=L'):b0::b1::b2::b3::b4::b5::L=c0::c1::c2::c3::c4::c5::L':=by
 subst h0 h1 h2 h3 h4 h5 h6;rfl
def aH8 {b m n r i:Nat} {V V':Nat->Rat} {x:List C} {v:Rat} (e:i=r) (h:r<m) (hx:x=frC (fz v)++[C.own (r+b) 0 n true]) (hV:(fun i=>if i=r then v else V i)=V'):D6 (a29 b m n V) ((a29 b m n V).rows.set i x)=a29 b m n V':=by
 have:=b3N (V:=V) e h hx;subst hV;unfold D6;simp only [this]
def a4y {m r i v:Nat} {O:Nat->Nat} (e:i=r) (h:r<m):D6 (U7 m O) ((U7 m O).rows.set i [C.t (ti v)])=U7 m (fun i=>if i=r then v else O i):=by
 subst e;have:(toC (a04 m O)).set i [C.t (ti v)]=toC (a04 m (fun j=>if j=i then v else O j)):=by
  rw [← bd5 h];simp [toC,a67]
 unfold D6;simp only [this]
def aX3 {N:Nat} {x:Rat}:okB N (frX x):=A8 (rows:=[B3 (fz x)]) rfl
theorem zV {p:Prop} (h:p:=by simp [i8]):p:=h
def b3E (m n:Nat) (fr:LB) (D:Fd) (r s:Nat) (hm:m<=100000) (hn:n<=1000) (hr:r<m) (hs:s<n) (hp:D.A r s≠0) (hB:BdD m n 30000 D) (hB':BdD m n 30000 (D.exch r s)):
 ec 193 [.c (.ptr 0 0 0),eI r,eI s] (a1w m n fr D) (.tup []) (a1w m n fr (D.exch r s)):=by
 have eR:0+(r:Int).toNat=r:=om;have eS:0+(s:Int).toNat=s:=om;have gA:(mF m n D.A)[r]? =some (rF n (D.A r)):=Z3 hr;have gs:(rF n (D.A r))[0+(s:Int).toNat]? =some (fz (D.A r s)):=by rw [eS,L5 hs]
 have bp:=hB.a r hr s hs;have ov:=b2v (D.V r) (D.A r s) hp (by have:=hB.v r hr;omega) om;refine ac Tryz.func193 ?_;conv=>whnf
 repeat' (first|refine zx ?_|refine qp J3 ?_|refine a6T (i8 _ _ _) ?_|refine G4 ?_|refine a52 ?_|refine a41 eR hr ?_|refine b0P gA ?_|refine J9 gA ?_|refine s9 (i8 _ _ _) ?_|refine C5 (i8 _ _ _) ?_|refine z6 gs ?_|refine aT5 (by show _<(a0d _ _ _ _).length;rw [J3];omega) ?_|apply zD<;>intro<;>try omega)<;>conv=>whnf
 refine k6 g8 (fun k=>([sP 0 0 0,eI r,eI s,J,J,J,S.c (C.ptr 1 r 0),S.c (C.ptr (m+6) 0 0)]++Jn 29++[eI n,eI k]++Jn 144,Q6 m n fr (V1 D r s) D.G D.O D.F (A1 D r s k) [frX (D.A r s)])) n tT (idR (m+7)) trivial ?_ ?_
 ·refine a0F (T':=[]) ?_ rfl zV (by intro k hk;simp at hk;subst hk;exact aX3) ?_
  ·refine a2x rfl (aH8 eR hr rfl rfl) rfl rfl rfl rfl ?_;have:A1 D r s 0=D.A:=by funext i j;unfold A1 a6w;split<;>simp_all
   rw [this];rfl
  ·exact ⟨⟨j5 om,rz⟩,rfl,rfl,⟨j5 om,eR,rfl⟩,⟨j5 om,rz⟩,g9 om,g9 rfl,trivial⟩
 intro k hk _;have gA1:(mF m n (A1 D r s k))[r]? =some (rF n (A1 D r s k r)):=Z3 hr;have lA:r<(mF m n (A1 D r s k)).length:=by rw [i8];exact hr
 by_cases hlt:k<n
 ·have eK:0+(k:Int).toNat=k:=by omega
  have gk:(rF n (A1 D r s k r))[0+(k:Int).toNat]? =some (fz (D.A r k)):=by rw [eK,L5 hlt,bS5]
  have bk:=hB.a r hr k hlt;have ze:=ax2 (D.A r k);have ovk:=b2v (D.A r k) (D.A r s) hp om om;by_cases hks:k=s
  ·subst hks;conv=>whnf
   repeat' (first|refine zx ?_|refine i9 (i8 _ _ _) ?_|refine G4 ?_|refine i7 ?_|refine a41 rfl hr ?_|refine J9 gA1 ?_|refine s9 (i8 _ _ _) ?_|refine z6 gk ?_|apply zD<;>intro<;>try omega)<;>conv=>whnf
   all_goals first|omega|exact ⟨hlt,trivial,idR (m+7),a0F (T':=[]) (a2x rfl rfl rfl rfl rfl rfl (by rw [← bi0];rfl)) rfl zV (by intro k hk;simp at hk;subst hk;exact aX3) ⟨⟨j5 om,rz⟩,rfl,rfl,⟨j5 om,rz⟩,⟨j5 om,rz⟩,rfl,g9 om,trivial⟩⟩
  ·by_cases hz:D.A r k=0
   ·rw [lbH hz] at ze;conv=>whnf
    repeat' (first|refine zx ?_|refine i9 (i8 _ _ _) ?_|refine G4 ?_|refine i7 ?_|refine a41 rfl hr ?_|refine J9 gA1 ?_|refine s9 (i8 _ _ _) ?_|refine z6 gk ?_|apply zD<;>intro<;>try omega)<;>conv=>whnf
    all_goals first|omega|exact ⟨hlt,trivial,idR (m+7),a0F (T':=[]) (a2x rfl rfl rfl rfl rfl rfl (by rw [← bn7 hz];rfl)) rfl zV (by intro k hk;simp at hk;subst hk;exact aX3) ⟨⟨j5 om,rz⟩,rfl,rfl,⟨j5 om,rz⟩,⟨j5 om,rz⟩,rfl,g9 om,trivial⟩⟩
   ·rw [lbJ hz] at ze;conv=>whnf
    repeat' (first|refine zx ?_|refine i9 (i8 _ _ _) ?_|refine G4 ?_|refine i7 ?_|refine a41 rfl hr ?_|refine J9 gA1 ?_|refine s9 (i8 _ _ _) ?_|refine z6 gk ?_|refine a2L lA (R4 (y:=fz (D.A r k / D.A r s)) eK) ?_|apply zD<;>intro<;>try omega)<;>conv=>whnf
    all_goals first|omega|exact ⟨hlt,trivial,idR (m+7),a0F (T':=[]) (a2x rfl rfl rfl rfl rfl rfl (by rw [a0W hlt,b5t hr (bx4 hks)];rfl)) rfl zV (by intro k hk;simp at hk;subst hk;exact aX3) ⟨⟨j5 om,rz⟩,rfl,rfl,⟨j5 om,rz⟩,⟨j5 om,rz⟩,rfl,g9 om,trivial⟩⟩
 ·have hke:k=n:=by omega
  subst hke;have gs1:(rF k (A1 D r s k r))[0+(s:Int).toNat]? =some (fz (D.A r s)):=by rw [eS,L5 hs,bW9]
  have i1:=V4 1 de de;have ov1:=b2v ((1:Int):Rat) (D.A r s) hp (by have:=rl1;show rl 1<=_;omega) om;conv=>whnf
  repeat' (first|refine zx ?_|refine i9 (i8 _ _ _) ?_|refine G4 ?_|refine i7 ?_|refine a41 rfl hr ?_|refine J9 gA1 ?_|refine s9 (i8 _ _ _) ?_|refine z6 gs1 ?_|refine a2L lA (R4 (y:=fz (((1:Int):Rat) / D.A r s)) eS) ?_|apply zD<;>intro<;>try omega)<;>conv=>whnf
  all_goals try omega
  refine k6 g8 (fun q=>([sP 0 0 0,eI r,eI s,J,J,J,S.c (C.ptr 1 r 0)]++Jn 77++[eI m,eI q]++Jn 97,Q6 m k fr (V2 D r s q) D.G D.O D.F (A2 D r s q) [])) m tT (idR (m+6)) trivial ?_ ?_
  ·refine a0F (T:=[]) (T':=[frX (D.A r s)]) (a2x rfl (by rw [bl3]) rfl rfl rfl rfl (by rw [bi3 hr hs];rfl)) rfl zV zq ⟨⟨j5 om,rz⟩,rfl,rfl,⟨j5 om,rz⟩,g9 om,g9 rfl,trivial⟩
  have eP:∀j,(D.exch r s).A r j=D.pRow r s j:=fun j=>by show (if r=r then _ else _)=_;rw [iB rfl]
  have har:∀j,j<k->rl (D.pRow r s j)<=30000:=fun j hj=>by rw [← eP];exact hB'.a r hr j hj
  intro q hq _;have gAr:(mF m k (A2 D r s q))[r]? =some (rF k (D.pRow r s)):=by rw [Z3 hr,bV9]
  by_cases hqm:q<m
  ·have eQ:0+(q:Int).toNat=q:=by omega
   have lQ:q<(mF m k (A2 D r s q)).length:=by rw [i8];exact hqm
   have ze:=ax2 (D.A q s);by_cases hqr:q=r
   ·subst hqr;conv=>whnf
    repeat' (first|refine zx ?_|refine i9 (i8 _ _ _) ?_|refine G4 ?_|refine i7 ?_|apply zD<;>intro<;>try omega)<;>conv=>whnf
    all_goals first|omega|exact ⟨hqm,trivial,idR (m+6),a0F (T:=[]) (T':=[]) (a2x rfl (by rw [← bj1]) rfl rfl rfl rfl (by rw [← bt7];rfl)) rfl zV zq ⟨⟨j5 om,rz⟩,rfl,rfl,⟨j5 om,rz⟩,rfl,g9 om,trivial⟩⟩
   ·have gAq:(mF m k (A2 D r s q))[q]? =some (rF k (D.A q)):=by rw [Z3 hqm,bz3 hqr]
    have gqs:(rF k (D.A q))[0+(s:Int).toNat]? =some (fz (D.A q s)):=by rw [eS,L5 hs]
    by_cases hz:D.A q s=0
    ·rw [lbH hz] at ze;conv=>whnf
     repeat' (first|refine zx ?_|refine i9 (i8 _ _ _) ?_|refine G4 ?_|refine i7 ?_|refine a41 eQ hqm ?_|refine J9 gAq ?_|refine z6 gqs ?_|apply zD<;>intro<;>try omega)<;>conv=>whnf
     all_goals first|omega|exact ⟨hqm,trivial,idR (m+6),a0F (T:=[]) (T':=[]) (a2x rfl (by rw [← bk8 hqr hz]) rfl rfl rfl rfl (by rw [← by5 hqr hz];rfl)) rfl zV zq ⟨⟨j5 om,rz⟩,rfl,rfl,⟨j5 om,rz⟩,rfl,g9 om,trivial⟩⟩
    ·rw [lbJ hz] at ze;have b1:=hB.v q hqm;have b2:=hB.a q hqm s hs;have b3:=hB'.v r hr;have haq:∀j,j<k->rl (D.A q j)<=30000:=hB.a q hqm;have le:=b3G (V2 D r s q q) (D.A q s) (V2 D r s q r) (by rw [ba2 hqr];omega) om (by rw [bR3];have e:(D.exch r s).V r=D.V r / D.A r s:=(by show (if r=r then _ else _)=_;rw [iB rfl]);rw [← e];omega);conv=>whnf
     repeat' (first|refine zx ?_|refine qp J3 ?_|refine i9 (i8 _ _ _) ?_|refine G4 ?_|refine i7 ?_|refine a41 eQ hqm ?_|refine a41 rfl hr ?_|refine J9 gAq ?_|refine z6 gqs ?_|refine aT5 (by show _<(a0d _ _ _ _).length;rw [J3];omega) ?_|refine bw7 om (a41 rfl hr ?_)|refine .inr ⟨_,_,b4g (ia:=q+6) (ir:=r+6) om (J1 gAq) (J1 gAr) hn hs haq har,?_⟩|apply zD<;>intro<;>try omega)<;>conv=>whnf
     all_goals first|omega|exact ⟨hqm,trivial,idR (m+6),a0F (T:=[]) (T':=[]) (a2x rfl (aH8 (v:=V2 D r s q q - D.A q s*V2 D r s q r) eQ hqm rfl (by rw [ba2 hqr,bR3];exact b56 hqr)) rfl rfl rfl rfl (by rw [b7Q lQ,b5t hqm (b4y hqr)];rfl)) rfl zV zq ⟨⟨j5 om,rz⟩,rfl,rfl,⟨j5 om,rz⟩,rfl,g9 om,trivial⟩⟩
  ·have hqe:q=m:=by omega
   subst hqe;have ggs:(rF k D.G)[0+(s:Int).toNat]? =some (fz (D.G s)):=by rw [eS,L5 hs]
   have ze:=ax2 (D.G s);have eL:a29 6 q k (V2 D r s q)=a29 6 q k (D.exch r s).V:=by
    have:a0d 6 q k (V2 D r s q)=a0d 6 q k (D.exch r s).V:=lbp fun i hi=>by rw [bF8 (lbB.1 hi)]
    unfold a29;rw [this]
   have eA:mF q k (A2 D r s q)=mF q k (D.exch r s).A:=b1S fun i hi j _=>bD3 hi
   have eO:a04 q (fun i=>if i=r then D.F s else D.O i)=a04 q (D.exch r s).O:=rfl;have eF:a04 k (fun j=>if j=s then D.O r else D.F j)=a04 k (D.exch r s).F:=rfl;have e0:a1w q k fr (D.exch r s)=Q6 q k fr (D.exch r s).V (D.exch r s).G (D.exch r s).O (D.exch r s).F (D.exch r s).A []:=by
    show _::_::_::_::_::_::_=_::_::_::_::_::_::(_++[]);rw [a05]
   by_cases hz:D.G s=0
   ·have eG:(D.exch r s).G=D.G:=by have:=b0M (row:=D.pRow r s) hz;exact this
    rw [lbH hz] at ze;conv=>whnf
    repeat' (first|refine zx ?_|refine i9 (i8 _ _ _) ?_|refine G4 ?_|refine i7 ?_|refine z6 ggs ?_|refine Q7 eR hr ?_|refine Q7 eS hs ?_|refine bl0 [9] ?_|apply zD<;>intro<;>try omega)<;>conv=>whnf
    all_goals first|omega|(rw [e0];exact as6 (T:=[]) (a2x rfl eL (by rw [eG]) (a4y eR hr) (a4y eS hs) rfl (by rw [eA])) rfl zV trivial)
   ·have eG:(D.exch r s).G=tkA D.G (D.pRow r s) s:=rfl;rw [lbJ hz] at ze;conv=>whnf
    repeat' (first|refine zx ?_|refine i9 (i8 _ _ _) ?_|refine G4 ?_|refine i7 ?_|refine z6 ggs ?_|refine a41 rfl hr ?_|refine Q7 eR hr ?_|refine Q7 eS hs ?_|refine bl0 [9] ?_|refine .inr ⟨_,_,b4g (ia:=2) (ir:=r+6) om rfl (J1 gAr) hn hs hB.g har,?_⟩|apply zD<;>intro<;>try omega)<;>conv=>whnf
    all_goals first|omega|(rw [e0];exact as6 (T:=[]) (a2x rfl eL (by rw [eG]) (a4y eR hr) (a4y eS hs) rfl (by rw [eA])) rfl zV trivial)
def aT9 {H:Hp} {p:Nat->Prop} {ys:List C} {us:List T} (h2:VYL H p ys us):∀{ts:List T},VYL H p (ts.map C.t++ys) (ts++us)
 |[]=>h2
 |t::r=>⟨a1C,aT9 h2⟩
def bg8 {m n:Nat} {fr:LB} {D:Fd} {X:Hp}:VY (Q6 m n fr D.V D.G D.O D.F D.A X) tT (.own 1 0 m true) (.sl 5 .any (ah5 m n D)):=by
 refine b3e (k:=a29 6 m n D.V) trivial rfl (fun h=>h) rfl (a7i m n D) ?_ ?_
 ·intro r hr;obtain ⟨i,_,rfl⟩:=lbx.1 hr
  rfl
 ·intro i r hi;have him:i<m:=by have:=(lbe.1 hi).1;rwa [a7i] at this
  rw [ae0 him] at hi;injection hi with hi;subst hi;refine ⟨_,a4j him,?_⟩;show VYL _ _ ((B3 (fz (D.V i))).map C.t++[C.own (i+6) 0 n true]) _;have hv:VY (Q6 m n fr D.V D.G D.O D.F D.A X) tT (C.own (i+6) 0 n true) (T.sl 4 .any ((rF n (D.A i)).map B3)):=
   .vc (v7 (k:=flB (rF n (D.A i))) trivial (J1 (Z3 him)) (fun h=>h) rfl rfl (by simp [P7]))
  exact aT9 (ys:=[C.own (i+6) 0 n true]) (us:=[T.sl 4 .any ((rF n (D.A i)).map B3)]) (show _/\True from ⟨hv,trivial⟩)
def bJ7 {m n:Nat} {fr:LB} {D:Fd} {X:Hp}:VY (Q6 m n fr D.V D.G D.O D.F D.A X) tT (.ptr 0 0 0) (.ptr (bx5 m n fr D)):=by
 refine a6Z (k:=b42 m n fr.length) trivial rfl (fun h=>h) rfl ⟨a1C,bg8,?_,?_,?_,?_,trivial⟩
 ·exact .vc (v7 (k:=flB (rF n D.G)) trivial rfl (fun h=>h) rfl rfl (by simp [P7]))
 ·exact .vc (v7 (k:=U7 m D.O) trivial rfl (fun h=>h) rfl rfl (by simp [p4]))
 ·exact .vc (v7 (k:=U7 n D.F) trivial rfl (fun h=>h) rfl rfl (by simp [p4]))
 ·exact .vc (v7 (k:=a2U fr) trivial rfl (fun h=>h) rfl rfl (by simp [a1D]))
abbrev bxD:Blk:={ mode:=.live,elem:=190,size:=1,rows:=[[.ptr 0 0 0]],box:=true }
abbrev bxI (i:Int):Blk:={ mode:=.live,elem:=3,size:=1,rows:=[[.t (ti i)]],box:=true }
def aW3 {m n:Nat} {fr:LB} {D:Fd} {X:Hp}:VY (Q6 m n fr D.V D.G D.O D.F D.A (bxD::X)) tT (.ptr (m+6) 0 0) (a8o m n fr D):=by
 refine a6Z (k:=bxD) trivial ?_ (fun h=>h) rfl ⟨bJ7,trivial⟩;show (((mF m n D.A).map flB)++bxD::X)[m]? =_;rw [lbc zV];simp [i8]
def b8x {m n t:Nat} {fr:LB} {D:Fd} {X:Hp} {i:Int} (h:X[t]? =some (bxI i)):VY (Q6 m n fr D.V D.G D.O D.F D.A X) tT (.ptr (m+6+t) 0 0) (.ptr [ti i]):=by
 refine a6Z (k:=bxI i) trivial ?_ (fun h=>h) rfl ⟨a1C,trivial⟩;show (Q6 m n fr D.V D.G D.O D.F D.A X)[m+6+t]? =_;rw [show m+6+t=m+t+6 by omega];show (((mF m n D.A).map flB)++X)[m+t]? =_;rw [lbc zV];simpa [i8] using h
def bN8 {m n:Nat} {fr:LB} {D:Fd} {X:Hp}:VYS (Q6 m n fr D.V D.G D.O D.F D.A X) tT (.c (.own 3 0 m true)) (a8E m D.O):=.vc (v7 (k:=U7 m D.O) trivial rfl (fun h=>h) rfl rfl (by simp [p4]))
def bP6 {m n:Nat} {fr:LB} {D:Fd} {X:Hp}:VYS (Q6 m n fr D.V D.G D.O D.F D.A X) tT (.c (.own 4 0 n true)) (a8E n D.F):=.vc (v7 (k:=U7 n D.F) trivial rfl (fun h=>h) rfl rfl (by simp [p4]))
def an9 {m n:Nat} {fr:LB} {D:Fd} {r s:Nat} (X:Hp) (h:ec 193 [.c (.ptr 0 0 0),eI r,eI s] (a1w m n fr D) (.tup []) (a1w m n fr (D.exch r s))):
 ec 193 [.c (.ptr 0 0 0),eI r,eI s] (Q6 m n fr D.V D.G D.O D.F D.A X) (.tup []) (Q6 m n fr (D.exch r s).V (D.exch r s).G (D.exch r s).O (D.exch r s).F (D.exch r s).A X):=by
 have hl:∀{D:Fd},∀k ∈ a1w m n fr D,k.mode=.live/\k.app=false:=by
  intro D k hk;simp only [lbA] at hk;rcases hk with rfl|rfl|rfl|rfl|rfl|rfl|hk
  ·exact rz
  ·exact rz
  ·exact rz
  ·exact rz
  ·exact rz
  ·exact rz
  ·obtain ⟨l,_,rfl⟩:=lbx.1 hk;exact rz
 exact a3P (n:=m+6) X h a4o a4o (by simp [okS,okC,e7,a1o]) (fun k hk=>⟨(hl k hk).1,(hl k hk).2,a9p k hk⟩) (fun k hk=>⟨(by rw [(hl k hk).1];intro h;cases h),a9p k hk⟩) rfl rfl
def a73:b9p->Int × Int
 |.best=>(-1,-1)
 |.row r=>(r,-1)
 |.col s=>(-1,s)
 |.next r s=>(r,s)
def b9x {N:Nat} (h:0<N):okB N bxD:=by
 intro r hr c hc;simp at hr;subst hr;simp at hc;subst hc;exact h
def b8M (m n:Nat) (fr:LB) (D0:Fd) (g0:Nat->Rat) (hm:m<=100000) (hn:n<=1000) (h0:a5j m n D0 g0 D0) (hB:∀D,P6 m n D0 D->BdD m n 30000 D):
 ec 147 [.c (.ptr 0 0 0)] (a1w m n fr D0) (.tup [eI (a73 (B5 m n (a4P m n D0))).1,eI (a73 (B5 m n (a4P m n D0))).2]) (a1w m n fr (a4P m n D0)):=by
 refine ac Tryz.func147 ?_;conv=>whnf
 repeat' (first|refine zx ?_|refine a6T (i8 _ _ _) ?_|refine a52 ?_|apply zD<;>intro<;>try omega)<;>conv=>whnf
 refine w7 g8 (σ:=Fd) (fun D=>([J,S.c (C.ptr (m+6) 0 0)]++Jn 69,Q6 m n fr D.V D.G D.O D.F D.A [bxD])) (fun D=>P6 m n D0 D) (fun D=>a6E m n D) D0 (idR (m+7)) a8j ?_ ?_
 ·refine a0F (T':=[]) (a2x rfl rfl rfl rfl rfl rfl (by rw [a05,a05];rfl)) rfl zV (by intro k hk;simp at hk;subst hk;exact b9x om) ⟨⟨j5 om,rz⟩,trivial⟩
 intro D hD;have bd:=hB D hD;have inv:a5j m n D0 g0 D:=by have ⟨k,hk⟩:=hD;exact a0p h0 hk
 have l1:=a7z m hm D.O (fun i=>decide (D.V i<0)) 189 [a8o m n fr D] (fun i hi=>b6Y m n fr D i hi);have l2:=a7z n om D.F (fun j=>decide (0<D.G j)) 190 [a8o m n fr D] (fun j hj=>b6z m n fr D j hj);have va1:∀X,a10 (Q6 m n fr D.V D.G D.O D.F D.A (bxD::X)) tT [.c (.own 3 0 m true),.c (.fn (.func 189) [.ptr (m+6) 0 0])] [a8E m D.O,.c (.t (.fn (.func 189) [a8o m n fr D]))]:=
  fun X=>⟨bN8,b4U (show _/\True from ⟨aW3,trivial⟩),trivial⟩
 have va2:∀X,a10 (Q6 m n fr D.V D.G D.O D.F D.A (bxD::X)) tT [.c (.own 4 0 n true),.c (.fn (.func 190) [.ptr (m+6) 0 0])] [a8E n D.F,.c (.t (.fn (.func 190) [a8o m n fr D]))]:=
  fun X=>⟨bP6,b4U (show _/\True from ⟨aW3,trivial⟩),trivial⟩
 have va3:∀X (r:Nat),a10 (Q6 m n fr D.V D.G D.O D.F D.A (bxD::bxI r::X)) tT [.c (.own 4 0 n true),.c (.fn (.func 191) [.ptr (m+6) 0 0,.ptr (m+7) 0 0])] [a8E n D.F,.c (.t (.fn (.func 191) [a8o m n fr D,.ptr [ti r]]))]:=
  fun X r=>⟨bP6,b4U (show _/\_/\True from ⟨aW3,b8x (t:=1) rfl,trivial⟩),trivial⟩
 have va4:∀X (x:Int) (s:Nat),a10 (Q6 m n fr D.V D.G D.O D.F D.A (bxD::bxI x::bxI s::X)) tT [.c (.own 3 0 m true),.c (.fn (.func 192) [.ptr (m+6) 0 0,.ptr (m+8) 0 0])] [a8E m D.O,.c (.t (.fn (.func 192) [a8o m n fr D,.ptr [ti s]]))]:=
  fun X x s=>⟨bN8,b4U (show _/\_/\True from ⟨aW3,b8x (t:=2) rfl,trivial⟩),trivial⟩
 have fin0:∀(X:Hp) (r c:Int),G8 m n D=none->(r,c)=a73 (B5 m n D)->Fin (a1w m n fr D0).length (.tup [eI r,eI c]) (Q6 m n fr D.V D.G D.O D.F D.A X) (.tup [eI (a73 (B5 m n (a4P m n D0))).1,eI (a73 (B5 m n (a4P m n D0))).2]) (a1w m n fr (a4P m n D0)):=by
  intro X r c hn ho;have e:=b8V h0 hD hn;rw [← e,←ho];have e0:a1w m n fr D=Q6 m n fr D.V D.G D.O D.F D.A []:=by
   show _::_::_::_::_::_::_=_::_::_::_::_::_::(_++[]);rw [a05]
  rw [e0];exact as6 (N:=m+6) rfl rfl zV rz
 have go:∀(X:Hp) (env:Env) (r s:Nat),B5 m n D=.next r s->a0A (idR (m+7)) (Q6 m n fr (D.exch r s).V (D.exch r s).G (D.exch r s).O (D.exch r s).F (D.exch r s).A (bxD::X)) env ([J,S.c (C.ptr (m+6) 0 0)]++Jn 69)->
  ∃ρ x',Ent (a1w m n fr D0).length ρ env (Q6 m n fr (D.exch r s).V (D.exch r s).G (D.exch r s).O (D.exch r s).F (D.exch r s).A (bxD::X)) ([J,S.c (C.ptr (m+6) 0 0)]++Jn 69) (Q6 m n fr x'.V x'.G x'.O x'.F x'.A [bxD])/\P6 m n D0 x'/\a6E m n x'<a6E m n D:=by
  intro X env r s hs hE;have hnx:G8 m n D=some (D.exch r s):=by unfold G8;rw [hs]
  exact ⟨idR (m+7),D.exch r s,a0F (T:=[bxD]) (T':=X) rfl rfl zV (by intro k hk;simp at hk;subst hk;exact b9x om) hE,a5o hD hnx,aB8 (b9E inv.p inv.g) hnx⟩
 have exc:∀r s:Nat,B5 m n D=.next r s->ec 193 [.c (.ptr 0 0 0),eI r,eI s] (a1w m n fr D) (.tup []) (a1w m n fr (D.exch r s)):=fun r s hs=>by
  have ⟨q1,q2,q3⟩:=a4A hs;exact b3E m n fr D r s hm hn q1 q2 (a5d q3) bd (hB _ (a5o hD (by unfold G8;rw [hs])))
 cases hR:F5 D.O (fun i=>decide (D.V i<0)) m with
 |none=>
  rw [hR,show leI none=-1 from rfl] at l1;cases hS:F5 D.F (fun j=>decide (0<D.G j)) n with
  |none=>
   rw [hS,show leI none=-1 from rfl] at l2;have hst:B5 m n D=.best:=by unfold B5;rw [hR,hS]
   conv=>whnf
   repeat' (first|refine zx ?_|refine .inl ⟨_,_,m6 l1 (va1 _) rfl,?_⟩|refine .inl ⟨_,_,m6 l2 (va2 _) rfl,?_⟩|refine i9 (i8 _ _ _) ?_|refine i7 ?_|refine s9 (i8 _ _ _) ?_|refine j1 (t:=1) (i8 _ _ _) ?_|refine j1 (t:=2) (i8 _ _ _) ?_|refine k5 (t:=1) (i8 _ _ _) ?_|refine k5 (t:=2) (i8 _ _ _) ?_|apply zD<;>intro<;>try omega)<;>conv=>whnf
   all_goals first
    |omega
    |exact fin0 _ _ _ (by unfold G8;rw [hst]) (by rw [hst];rfl)
  |some ss=>
   rw [hS,show leI (some ss)=ss from rfl] at l2;have hss:=(G3 hS).1;have l4:=a7z m hm D.O (fun i=>decide (0<D.A i ss)) 192 [a8o m n fr D,T.ptr [ti ss]] (fun i hi=>aJ2 m n fr D i ss hi hss);cases hC:F5 D.O (fun i=>decide (0<D.A i ss)) m with
   |none=>
    rw [hC,show leI none=-1 from rfl] at l4;have hst:B5 m n D=.col ss:=by unfold B5;rw [hR,hS];show a01 m D ss=_;unfold a01;rw [hC]
    conv=>whnf
    repeat' (first|refine zx ?_|refine .inl ⟨_,_,m6 l1 (va1 _) rfl,?_⟩|refine .inl ⟨_,_,m6 l2 (va2 _) rfl,?_⟩|refine .inl ⟨_,_,m6 l4 (va4 _ _ ss) rfl,?_⟩|refine i9 (i8 _ _ _) ?_|refine i7 ?_|refine s9 (i8 _ _ _) ?_|refine j1 (t:=1) (i8 _ _ _) ?_|refine j1 (t:=2) (i8 _ _ _) ?_|refine k5 (t:=1) (i8 _ _ _) ?_|refine k5 (t:=2) (i8 _ _ _) ?_|apply zD<;>intro<;>try omega)<;>conv=>whnf
    all_goals first
     |omega
     |exact fin0 _ _ _ (by unfold G8;rw [hst]) (by rw [hst];rfl)
   |some rq=>
    rw [hC,show leI (some rq)=rq from rfl] at l4;have hst:B5 m n D=.next rq ss:=by unfold B5;rw [hR,hS];show a01 m D ss=_;unfold a01;rw [hC]
    have exr:=exc _ _ hst;conv=>whnf
    repeat' (first|refine zx ?_|refine .inl ⟨_,_,m6 l1 (va1 _) rfl,?_⟩|refine .inl ⟨_,_,m6 l2 (va2 _) rfl,?_⟩|refine .inl ⟨_,_,m6 l4 (va4 _ _ ss) rfl,?_⟩|refine .inr ⟨_,_,an9 _ exr,?_⟩|refine i9 (i8 _ _ _) ?_|refine i7 ?_|refine s9 (i8 _ _ _) ?_|refine j1 (t:=1) (i8 _ _ _) ?_|refine j1 (t:=2) (i8 _ _ _) ?_|refine k5 (t:=1) (i8 _ _ _) ?_|refine k5 (t:=2) (i8 _ _ _) ?_|apply zD<;>intro<;>try omega)<;>conv=>whnf
    all_goals first
     |omega
     |exact go _ _ _ _ hst ⟨⟨j5 om,rz⟩,trivial⟩
 |some rr=>
  rw [hR,show leI (some rr)=rr from rfl] at l1;cases hS:F5 D.F (fun j=>decide (0<D.G j)) n with
  |none=>
   rw [hS,show leI none=-1 from rfl] at l2;have hrr:=(G3 hR).1;have l3:=a7z n om D.F (fun j=>decide (D.A rr j<0)) 191 [a8o m n fr D,T.ptr [ti rr]] (fun j hj=>aJ9 m n fr D rr j hrr hj);cases hC:F5 D.F (fun j=>decide (D.A rr j<0)) n with
   |none=>
    rw [hC,show leI none=-1 from rfl] at l3;have hst:B5 m n D=.row rr:=by unfold B5;rw [hR,hS];show Z9 n D rr=_;unfold Z9;rw [hC]
    conv=>whnf
    repeat' (first|refine zx ?_|refine .inl ⟨_,_,m6 l1 (va1 _) rfl,?_⟩|refine .inl ⟨_,_,m6 l2 (va2 _) rfl,?_⟩|refine .inl ⟨_,_,m6 l3 (va3 _ rr) rfl,?_⟩|refine i9 (i8 _ _ _) ?_|refine i7 ?_|refine s9 (i8 _ _ _) ?_|refine j1 (t:=1) (i8 _ _ _) ?_|refine j1 (t:=2) (i8 _ _ _) ?_|refine k5 (t:=1) (i8 _ _ _) ?_|refine k5 (t:=2) (i8 _ _ _) ?_|apply zD<;>intro<;>try omega)<;>conv=>whnf
    all_goals first
     |omega
     |exact fin0 _ _ _ (by unfold G8;rw [hst]) (by rw [hst];rfl)
   |some sq=>
    rw [hC,show leI (some sq)=sq from rfl] at l3;have hst:B5 m n D=.next rr sq:=by unfold B5;rw [hR,hS];show Z9 n D rr=_;unfold Z9;rw [hC]
    have exr:=exc _ _ hst;conv=>whnf
    repeat' (first|refine zx ?_|refine .inl ⟨_,_,m6 l1 (va1 _) rfl,?_⟩|refine .inl ⟨_,_,m6 l2 (va2 _) rfl,?_⟩|refine .inl ⟨_,_,m6 l3 (va3 _ rr) rfl,?_⟩|refine .inr ⟨_,_,an9 _ exr,?_⟩|refine i9 (i8 _ _ _) ?_|refine i7 ?_|refine s9 (i8 _ _ _) ?_|refine j1 (t:=1) (i8 _ _ _) ?_|refine j1 (t:=2) (i8 _ _ _) ?_|refine k5 (t:=1) (i8 _ _ _) ?_|refine k5 (t:=2) (i8 _ _ _) ?_|apply zD<;>intro<;>try omega)<;>conv=>whnf
    all_goals first
     |omega
     |exact go _ _ _ _ hst ⟨⟨j5 om,rz⟩,trivial⟩
  |some ss=>
   rw [hS,show leI (some ss)=ss from rfl] at l2;have hrr:=(G3 hR).1;have hss:=(G3 hS).1;by_cases hlt:D.O rr<D.F ss
   ·skip
    have l3:=a7z n om D.F (fun j=>decide (D.A rr j<0)) 191 [a8o m n fr D,T.ptr [ti rr]] (fun j hj=>aJ9 m n fr D rr j hrr hj);cases hC:F5 D.F (fun j=>decide (D.A rr j<0)) n with
    |none=>
     rw [hC,show leI none=-1 from rfl] at l3;have hst:B5 m n D=.row rr:=by unfold B5 Z9;rw [hR,hS];simp only [iB hlt];rw [hC]
     conv=>whnf
     repeat' (first|refine zx ?_|refine .inl ⟨_,_,m6 l1 (va1 _) rfl,?_⟩|refine .inl ⟨_,_,m6 l2 (va2 _) rfl,?_⟩|refine .inl ⟨_,_,m6 l3 (va3 _ rr) rfl,?_⟩|refine i9 (i8 _ _ _) ?_|refine i7 ?_|refine s9 (i8 _ _ _) ?_|refine j1 (t:=1) (i8 _ _ _) ?_|refine j1 (t:=2) (i8 _ _ _) ?_|refine k5 (t:=1) (i8 _ _ _) ?_|refine k5 (t:=2) (i8 _ _ _) ?_|refine Q7 (r:=rr) om hrr ?_|refine Q7 (r:=ss) om hss ?_|apply zD<;>intro<;>try omega)<;>conv=>whnf
     all_goals first
      |omega
      |exact fin0 _ _ _ (by unfold G8;rw [hst]) (by rw [hst];rfl)
    |some sq=>
     rw [hC,show leI (some sq)=sq from rfl] at l3;have hst:B5 m n D=.next rr sq:=by unfold B5 Z9;rw [hR,hS];simp only [iB hlt];rw [hC]
     have exr:=exc _ _ hst;conv=>whnf
     repeat' (first|refine zx ?_|refine .inl ⟨_,_,m6 l1 (va1 _) rfl,?_⟩|refine .inl ⟨_,_,m6 l2 (va2 _) rfl,?_⟩|refine .inl ⟨_,_,m6 l3 (va3 _ rr) rfl,?_⟩|refine .inr ⟨_,_,an9 _ exr,?_⟩|refine i9 (i8 _ _ _) ?_|refine i7 ?_|refine s9 (i8 _ _ _) ?_|refine j1 (t:=1) (i8 _ _ _) ?_|refine j1 (t:=2) (i8 _ _ _) ?_|refine k5 (t:=1) (i8 _ _ _) ?_|refine k5 (t:=2) (i8 _ _ _) ?_|refine Q7 (r:=rr) om hrr ?_|refine Q7 (r:=ss) om hss ?_|apply zD<;>intro<;>try omega)<;>conv=>whnf
     all_goals first|omega|exact go _ _ _ _ hst ⟨⟨j5 om,rz⟩,trivial⟩
   ·skip
    have l4:=a7z m hm D.O (fun i=>decide (0<D.A i ss)) 192 [a8o m n fr D,T.ptr [ti ss]] (fun i hi=>aJ2 m n fr D i ss hi hss);cases hC:F5 D.O (fun i=>decide (0<D.A i ss)) m with
    |none=>
     rw [hC,show leI none=-1 from rfl] at l4;have hst:B5 m n D=.col ss:=by unfold B5 a01;rw [hR,hS];simp only [iC hlt];rw [hC]
     conv=>whnf
     repeat' (first|refine zx ?_|refine .inl ⟨_,_,m6 l1 (va1 _) rfl,?_⟩|refine .inl ⟨_,_,m6 l2 (va2 _) rfl,?_⟩|refine .inl ⟨_,_,m6 l4 (va4 _ _ ss) rfl,?_⟩|refine i9 (i8 _ _ _) ?_|refine i7 ?_|refine s9 (i8 _ _ _) ?_|refine j1 (t:=1) (i8 _ _ _) ?_|refine j1 (t:=2) (i8 _ _ _) ?_|refine k5 (t:=1) (i8 _ _ _) ?_|refine k5 (t:=2) (i8 _ _ _) ?_|refine Q7 (r:=rr) om hrr ?_|refine Q7 (r:=ss) om hss ?_|apply zD<;>intro<;>try omega)<;>conv=>whnf
     all_goals first
      |omega
      |exact fin0 _ _ _ (by unfold G8;rw [hst]) (by rw [hst];rfl)
    |some rq=>
     rw [hC,show leI (some rq)=rq from rfl] at l4;have hst:B5 m n D=.next rq ss:=by unfold B5 a01;rw [hR,hS];simp only [iC hlt];rw [hC]
     have exr:=exc _ _ hst;conv=>whnf
     repeat' (first|refine zx ?_|refine .inl ⟨_,_,m6 l1 (va1 _) rfl,?_⟩|refine .inl ⟨_,_,m6 l2 (va2 _) rfl,?_⟩|refine .inl ⟨_,_,m6 l4 (va4 _ _ ss) rfl,?_⟩|refine .inr ⟨_,_,an9 _ exr,?_⟩|refine i9 (i8 _ _ _) ?_|refine i7 ?_|refine s9 (i8 _ _ _) ?_|refine j1 (t:=1) (i8 _ _ _) ?_|refine j1 (t:=2) (i8 _ _ _) ?_|refine k5 (t:=1) (i8 _ _ _) ?_|refine k5 (t:=2) (i8 _ _ _) ?_|refine Q7 (r:=rr) om hrr ?_|refine Q7 (r:=ss) om hss ?_|apply zD<;>intro<;>try omega)<;>conv=>whnf
     all_goals first|omega|exact go _ _ _ _ hst ⟨⟨j5 om,rz⟩,trivial⟩
def a0m {P:Program} {g:FuncId} {args:List S} {H:Hp} {b:Blk} {n:Nat} {app:Bool} (h:e8 P g args [] (.c (.own 0 0 n app)) [b]) (ha:args.all S.isT=true) (hm:b.mode=.live) (hb:L6 b.rows):
 a0x P g args H (.c (.own H.length 0 n app)) [b]:=by
 refine ⟨h.1,fun w ι M vals hl hv hH hM hf=>?_⟩;have:=h.2 w (fun _=>none) M vals hl (fun j s hj=>(hv j s hj).tree (lbv.1 ha s (lbm hj)))
  ⟨zq,zq,zq,zq,zq⟩ hM (fun _ _=>rfl)
 refine Calls.mono this ?_;rintro e w' ⟨v,rfl,ι',M',h1,h2,h3,h4,h5⟩;have hnl:∀x,¬a4k (fun _=>none) ([]:Hp) x:=by rintro x ⟨id,k,_,_,hk,_⟩;simp at hk
 obtain ⟨l,hl0⟩:∃l,ι' 0=some l:=by
  cases h1 with
  |c h1=>cases h1 with
   |own hi=>exact ⟨_,hi⟩
   |nil hi=>exact ⟨_,hi⟩
 have hnew:G1 ι H.length [b].length (fun _=>l) H.length=some l:=by unfold G1;simp
 have hMM:∀x,a6U M [b].length (fun _=>l) x->M' x:=by
  intro x hx;rcases hx with hx|⟨k,hk,cap,size,he⟩
  ·rcases h5.mold x hx with h|h
   ·exact h
   ·exact absurd h (hnl x)
  ·have he:l=.blk x cap size:=he;subst he;exact h2.liv 0 b rfl hm x cap size hl0
 refine ⟨v,rfl,fun _=>l,?_,⟨h5.os,h5.tape,h5.output,h5.size,fun x hx=>h5.keep x hx (hnl x)⟩,?_,?_,?_⟩
 ·cases h1 with
  |c h1=>cases h1 with
   |own hi q1 q2 q3 q4 q5=>
    rw [hl0] at hi;injection hi with hi
    subst hi;exact .c (.own hnew q1 q2 q3 q4 q5)
   |nil hi=>
    rw [hl0] at hi;injection hi with hi
    subst hi;exact .c (.nil hnew)
 ·intro k blk hk;cases k with
  |succ k=>simp at hk
  |zero=>
   simp at hk;subst hk;refine ⟨hm,?_⟩;have hbr:=h2.blk 0 b rfl (by rw [hm];intro h;cases h) l hl0;cases l with
   |nil=>exact hbr
   |blk x cap size=>
    have ⟨r1,r2,r3,r4,r5,cur,r6,r7,r8⟩:=hbr;refine ⟨r1,r2,r3,r4,r5,cur,r6,r7,fun i j c hc=>?_⟩;have ⟨u,u1,u2⟩:=r8 i j c hc;exact ⟨u,u1,aC4 hMM hb hc u2⟩
 ·intro k x cap size hk he;have he:l=.blk x cap size:=he;subst he;refine ⟨?_,h3 x (h2.liv 0 b rfl hm x cap size hl0)⟩;rcases h5.live x ⟨0,b,cap,size,rfl,hm,hl0⟩ with h|h
  ·exact absurd h (hnl x)
  ·exact h
 ·intro k k' x cap size cap' size' hk hk' _ _;simp at hk hk';omega
def b6r (H:Hp) (n:Nat) (hn:n<=1000):a0x Tryz.prog 185 [eI n] H (.c (.own H.length 0 n true)) [flB (rF n fun _=>0)]:=
 a0m (bp6 n hn) rfl rfl (j2 _)
def a6N (l:List (Int × Rat)):Nat->Nat->Rat
 |0=>L9 l
 |k+1=>match l[k]? with
  |none=>a6N l k
  |some t=>fun j=>if j=t.1.toNat then -t.2 else a6N l k j
def aM5 {l:List (Int × Rat)} {k:Nat} {t:Int × Rat} (h:l[k]? =some t):a6N l (k+1)=fun j=>if j=t.1.toNat then -t.2 else a6N l k j:=by rw [a6N,h]
def b5B (l:List (Int × Rat)) (j:Nat):∀k,k<=l.length->a6N l k j=-(T4 l k j)\/(T4 l k j=0/\a6N l k j=L9 l j)
 |0,_=>.inr rz
 |k+1,hk=>by
  have ⟨t,ht⟩:=@iA _ l k om;rw [aM5 ht,Q9 ht];simp only;by_cases hj:j=t.1.toNat
  ·rw [iB hj,iB hj];exact .inl rfl
  ·rw [iC hj,iC hj];exact b5B l j k om
def b8K (l:List (Int × Rat)):a6N l l.length=fun j=>-(L9 l j):=by
 funext j;rcases b5B l j l.length (lbR _) with h|⟨h1,h2⟩
 ·exact h
 ·rw [h2];have:L9 l j=0:=h1;rw [this];decide
def sgF (b:Bool) (l:List (Int × Rat)):Nat->Rat:=fun j=>Z4 b (L9 l j)
end Go.Proofs.YtbcdidimaioapaaGreat
