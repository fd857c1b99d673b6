/- Chapter 21 in plain Lean: the system of a kind of foreign matter, and its solutions. No program is in sight. -/
import Derived.ProofKit
import Derived.OpenShut
import Derived.Deep.Slices
import Derived.Deep.Fields
import Derived.Test.YtikokmdpigploaaGreatRows
import Derived.Deep.DeepMust
import Derived.BigQuiet
import Derived.Deep.Light
import Derived.Test.YtikokmdpigploaaGreatQk16
namespace Go.Proofs.YtikokmdpigploaaGreat
set_option linter.all false
set_option maxRecDepth 100000
set_option maxHeartbeats 8000000
open Go.RowKit
open St1 St2 St3 St4 St5 St6 St7 St8 StA StB StC
def bc9 {t:j6} {kind:Int} {mv k:Nat} (h:k<(v4 t.ev).length):(a37 t kind mv t.ev.moves.length)[k]? =some (P2 t kind mv k):=by
 unfold a37;rw [lba,T8 h];rfl
def aN3 (t:j6) (hs:t.Sized) (find:Int) (h:a00 t find=false):ec 46 [trS t,eI find] [] (.tup [.c (.t (.sl 0 .nil [])),.c (.t (.sl 0 .nil [])),eI 1]) []:=by
 have fi:=a5a t hs find;rw [h] at fi;refine ac Tryz.func46 ?_;conv=>whnf
 repeat' (first|refine zx ?_|apply zD<;>intro h<;>try omega)<;>conv=>whnf
 all_goals first|omega|exact n9 rz
def b76 (t:j6) (hs:t.Sized) (h:QT t) (find:Int) (f:P5) (f0:0<=find) (hf:t.finds[find.toNat]? =some f):
 ec 46 [trS t,eI find] [] (.tup [j3 (D6 (Q8 t f.kind f.mv.toNat)),j3 (D6 (N6 t f.kind f.mv.toNat)),eI 0]) []:=by
 have fi:=a5a t hs find;rw [a1w h f0 hf] at fi;have al:=b8h t hs h find f f0 hf;have hm:=h.m;have hp:=h.p;have gl:=a2j t.ev;have m1:(t.ev.moves.map A8.row).length=t.ev.moves.length:=zq;have lO:=aX2 t f.kind f.mv.toNat t.ev.moves.length;have m2:((a37 t f.kind f.mv.toNat t.ev.moves.length).map V9).length=t.ev.moves.length+t.ev.places.length:=by rw [lbr,lO,gl]
 have hO:=fun k=>bc9 (t:=t) (kind:=f.kind) (mv:=f.mv.toNat) (k:=k)
 generalize a37 t f.kind f.mv.toNat t.ev.moves.length=O at al m2 hO;generalize hN:t.ev.moves.length+t.ev.places.length=N at *;refine ac Tryz.func46 ?_;conv=>whnf
 repeat' (first|refine zx ?_|refine bl0 [5] ?_|apply zD<;>intro h<;>try omega)<;>conv=>whnf
 all_goals try omega
 refine i7 d9 (fun k=>(Jn 8++[a99 O,S.c (C.own 0 0 (D6 (H8 t f.kind f.mv.toNat k)).length true),S.c (C.own 1 0 (D6 (D2 t f.kind f.mv.toNat k)).length true),eI t.ev.moves.length,eI k]++Jn 50,[o8 (D6 (H8 t f.kind f.mv.toNat k)),o8 (D6 (D2 t f.kind f.mv.toNat k))])) N tT [none,none] trivial
  ⟨rfl,rfl,rz,⟨rfl,rz,rz,d7 zq,rz⟩⟩ ?_
 intro k hk _;have c1:=a4l t f.kind f.mv.toNat k;have c2:=a61 t f.kind f.mv.toNat k;have d1:=a03 (H8 t f.kind f.mv.toNat k);have d2:=a03 (D2 t f.kind f.mv.toNat k);by_cases hlt:k<N
 ·have lA:(D6 (H8 t f.kind f.mv.toNat k)).length<=(o8 (D6 (H8 t f.kind f.mv.toNat k))).rows.length:=by show _<=(toC _).length;simp [toC]
  have lB:(D6 (D2 t f.kind f.mv.toNat k)).length<=(o8 (D6 (D2 t f.kind f.mv.toNat k))).rows.length:=by show _<=(toC _).length;simp [toC]
  have hok:=hO k om;rw [ac6,a8L];generalize H8 t f.kind f.mv.toNat k=X at *;generalize D2 t f.kind f.mv.toNat k=Y at *;cases hb:P2 t f.kind f.mv.toNat k with
  |false=>
   rw [hb] at hok;conv=>whnf
   repeat' (first|refine zx ?_|refine f7 hok ?_|apply zD<;>intro h<;>try omega)<;>conv=>whnf
   all_goals first
    |omega
    |exact ⟨hlt,trivial,[some 0,some 1],rfl,rfl,⟨f5 (e7 _),f5 (e7 _),trivial⟩,⟨rfl,⟨rfl,rfl,rfl,fun h=>h⟩,⟨rfl,rfl,rfl,fun h=>h⟩,rfl,d7 om,trivial⟩⟩
  |true=>
   rw [hb] at hok;rw [if_pos rfl,if_pos rfl];by_cases hkm:k<t.ev.moves.length
   ·rw [if_pos hkm,if_pos hkm,a60];conv=>whnf
    repeat' (first|refine zx ?_|refine f7 hok ?_|refine o6 lA zu ?_|apply zD<;>intro h<;>try omega)<;>conv=>whnf
    all_goals first
     |omega
     |(refine ⟨hlt,trivial,[some 2,some 1],rfl,rfl,⟨d8 (rows:=(D6 X++[(k:Int)]).map j0) rfl rfl rfl ?_ rfl,f5 (e7 _),trivial⟩,⟨rfl,⟨rfl,rfl,?_,fun h=>h⟩,⟨rfl,rfl,rfl,fun h=>h⟩,rfl,d7 om,trivial⟩⟩
       ·exact u6 (f:=j0) (x:=(k:Int)) rfl
       ·simp [toC])
   ·rw [if_neg hkm,if_neg hkm,a60];have eP:((k - t.ev.moves.length:Nat):Int)=(k:Int) - (t.ev.moves.length:Int):=om;rw [eP];conv=>whnf
    repeat' (first|refine zx ?_|refine f7 hok ?_|refine o6 lB zu ?_|apply zD<;>intro h<;>try omega)<;>conv=>whnf
    all_goals first
     |omega
     |(refine ⟨hlt,trivial,[some 0,some 2],rfl,rfl,⟨f5 (e7 _),d8 (rows:=(D6 Y++[(k:Int) - (t.ev.moves.length:Int)]).map j0) rfl rfl rfl ?_ rfl,trivial⟩,⟨rfl,⟨rfl,rfl,rfl,fun h=>h⟩,⟨rfl,rfl,?_,fun h=>h⟩,rfl,d7 om,trivial⟩⟩
       ·exact u6 (f:=j0) (x:=(k:Int) - (t.ev.moves.length:Int)) rfl
       ·simp [toC])
 ·have hke:k=N:=by omega
  subst hke;have e1:Q8 t f.kind f.mv.toNat=H8 t f.kind f.mv.toNat k:=by unfold Q8;rw [hN]
  have e2:N6 t f.kind f.mv.toNat=D2 t f.kind f.mv.toNat k:=by unfold N6;rw [hN]
  rw [e1,e2];generalize H8 t f.kind f.mv.toNat k=X at *;generalize D2 t f.kind f.mv.toNat k=Y at *;conv=>whnf
  repeat' (first|refine zx ?_|apply zD<;>intro h<;>try omega)<;>conv=>whnf
  all_goals first|omega|exact n9 ⟨(show VC _ (fun id=>G8 [] id=true) _ _ from a4f rfl rfl),(show VC _ (fun id=>G8 [] id=true) _ _ from a4f rfl rfl),rz⟩
def bi7 {s:j2} {g:List (Int × Rat)} {Y:List Rat} (hr:n7 s=true) (h:a4D s g Y=true):bi4 s (A7 g) (yN Y) (a4b s (yN Y)):=by
 unfold a4D a5q at h;simp only [lbO,lbJ,lbw] at h;obtain ⟨⟨⟨h1,h2⟩,h3⟩,h4⟩:=h;refine ⟨fun i w hw=>?_,fun l hl=>?_,rfl⟩
 ·have:=h2 i (lbC.2 (lbe.1 hw).1);unfold sgB at this;rw [S3 hw] at this;simp only [a9W,a1h,lbQ,lbL] at this;obtain ⟨a,b⟩:=this;exact ⟨fun hk=>by
   rcases a with a|a
   ·exact absurd hk a
   ·exact lb5.1 a,fun hk=>by
   rcases b with b|b
   ·exact absurd hk b
   ·exact lb5.1 b⟩
 ·exact h4 l (lbC.2 hl)
theorem never_holds {s:j2} {g:List (Int × Rat)} {z:List Rat} (hr:n7 s=true) (hl:s.rows.length<6000) (hg:j9 (-1) s.n g=true) (hz:m9 s z=true) (h0:n8 g z=0):m9 (b20 s g) z=true:=by
 obtain ⟨h1,h2,h3,h4⟩:=Y3.1 hz;refine Y3.2 ⟨b0c hr hl hg,h2,h3,fun w hw=>?_⟩;rcases lbA.1 hw with h|h
 ·exact h4 w h
 ·have h:=List.mem_singleton.1 h;subst h;have e1:((0:Int):Rat)=0:=rfl;simp only;rw [h0,e1];exact ⟨fun _=>lb4,fun _=>lb4⟩
def b4e {f:Nat->Rat} {B N:Nat} (h:∀i,rl (f i)<=B) (h0:∀i,N<=i->f i=0):∀k,rl (k7 f k)<=N*(B+1)+1:=by
 intro k;by_cases hk:k<=N
 ·have h1:=ag9 (f:=f) (B:=B) k fun j _=>h j
  have h2:=lbV (B+1) hk;omega
 ·obtain ⟨d,rfl⟩:∃d,k=N+d:=⟨k - N,om⟩;have e:k7 f (N+d)=k7 f N:=by
   clear hk;induction d with
   |zero=>rfl
   |succ d ih=>show k7 f (N+d)+f (N+d)=_;rw [h0 _ om,ih];grind
  rw [e];exact ag9 (f:=f) (B:=B) N fun j _=>h j
def b8s {s:j2} {Y:List Rat} {B C N:Nat} (hl:Y.length=s.rows.length) (hN:Y.length<=N) (hB:1<=B) (hy:∀v ∈ Y,rl v<=B) (hc:∀w ∈ s.rows,(∀ t ∈ w.terms,rl t.2<=C)∧rl w.value<=C) (hC:1<=C) (hn:N*(B+C+1)+1<=40000) (hm:N<=1000000):b8n s Y:=by
 have hyi:∀i,rl (yN Y i)<=B:=fun i=>by
  unfold yN;by_cases h:i<Y.length
  ·rw [lbl,lbf h];exact hy _ (lbF _)
  ·rw [lbl,lbd om];have:=rl0;show rl 0<=B;omega
 have hy0:∀i,N<=i->yN Y i=0:=fun i hi=>by unfold yN;rw [lbl,lbd om];rfl
 have hrow:∀i,(∀ t ∈ (C1 s i).terms,rl t.2<=C)∧rl (C1 s i).value<=C:=fun i=>by
  by_cases h:i<s.rows.length
  ·rw [S3 (lbf h)];exact hc _ (lbF _)
  ·have e:C1 s i=⟨[],2,0⟩:=by unfold C1;rw [lbl,lbd om];rfl
   rw [e];exact ⟨fun (t:Int × Rat) (ht:t ∈ [])=>by simp at ht,by have:=rl0;show rl 0<=C;omega⟩
 have hcof:∀i l,rl (A7 (C1 s i).terms l)<=C:=fun i l=>by
  have key:∀k,rl (L0 (C1 s i).terms k l)<=C:=by
   intro k;induction k with
   |zero=>have:=rl0;show rl 0<=C;omega
   |succ k ih=>
    cases hk:(C1 s i).terms[k]? with
    |none=>rw [L0,hk];exact ih
    |some t=>
     rw [I1 hk];simp only;split
     ·exact (hrow i).1 t (lbm hk)
     ·exact ih
  exact key _
 refine ⟨fun v hv=>by
  have h1:=hy v hv;by_cases h2:N=0
  ·have:Y=[]:=a0I.1 om;subst this;cases hv
  ·have:1*(B+C+1)<=N*(B+C+1):=lbV _ om;omega,fun l k=>?_,fun k=>?_,hl,om⟩
 ·have:=b4e (f:=fun i=>yN Y i*A7 (C1 s i).terms l) (B:=B+C) (N:=N) (fun i=>by have:=a52 (yN Y i) (A7 (C1 s i).terms l);have:=hyi i;have:=hcof i l;omega) (fun i hi=>by rw [hy0 i hi];grind) k;have e:rl (a7f s (yN Y) l k)<=N*(B+C+1)+1:=this;omega
 ·have:=b4e (f:=fun i=>yN Y i*(C1 s i).value) (B:=B+C) (N:=N) (fun i=>by have:=a52 (yN Y i) (C1 s i).value;have:=hyi i;have:=(hrow i).2;omega) (fun i hi=>by rw [hy0 i hi];grind) k;have e:rl (a7i s (yN Y) k)<=N*(B+C+1)+1:=this;omega
def bq0 {x:Rat}:decide (x=0)=decide (sgR x=0):=by
 rw [decide_eq_decide];have p1:=a9q (x:=x);have p2:=b7s (x:=x);constructor
 ·intro h;subst h;have q1:¬(0:Rat)<0:=by decide
  have:=mt p1.1 q1;have:=mt p2.1 q1;omega
 ·intro h;have q1:¬0<x:=fun h'=>by have:=p1.2 h';omega
  have q2:¬x<0:=fun h'=>by have:=p2.2 h';omega
  grind
structure b4I (s:j2) (Y:List Rat):Prop where
 y:∀v ∈ Y,rl v<=40000
 l:Y.length<=1000000
 m:Y.length=s.rows.length->b8n s Y
def be7 {s:j2} {g:List (Int × Rat)} {Y:List Rat}:b1L s g (Y.map fz)=(decide (Y.length=s.rows.length) && (a4D s g Y && decide (a4b s (yN Y)=0))):=by
 unfold b1L;rw [br0,a9F,lbr,Bool.and_true]
def aF6 {s:j2} {Y:List Rat} {g:List (Int × Rat)} (h:a4D s g Y=true):Y.length=s.rows.length:=by
 unfold a4D a5q at h;simp only [lbO,lbJ] at h;omega
def ap0 {s:j2} {g:List (Int × Rat)} {Y:List Rat}:b1L s g (Y.map fz)=(a4D s g Y && decide (a4b s (yN Y)=0)):=by
 rw [be7];cases h:a4D s g Y with
 |false=>simp
 |true=>rw [lbI (aF6 h)];rfl
def b0M (s:j2) (h:I8 s) (v:Nat) (Y:List Rat) (hy:b4I s Y):
 ec 174 [S9 s,eI v,p5 (Y.map fz)] [] (j8 (b1L s (ax6 v) (Y.map fz))) []:=by
 have h9:=h.n;have on:=au5 v (-1) de de;have lo:=b9r s (ar7 h) h.r (ax6 v) (by simp [ax6]) (fun t ht=>by simp [ax6] at ht;subst ht;have h1:=bD0;show rl ((-1:Int):Rat)<=200;omega) Y hy.y hy.l hy.m;rw [ap0];unfold aw5 at lo;cases hb:a4D s (ax6 v) Y with
 |false=>
  rw [hb,if_neg de] at lo;rw [a1Z];refine ac Tryz.func174 ?_;conv=>whnf
  repeat' (first|refine zx ?_|refine bl0 [7] ?_|apply zD<;>intro h<;>try omega)<;>conv=>whnf
  all_goals first
   |omega
   |exact g9 rfl
 |true=>
  rw [hb,if_pos rfl] at lo;rw [H9];have hx:=(hy.m (aF6 hb)).v s.rows.length;have hx2:rl (a4b s (yN Y))<=50000:=hx;generalize a4b s (yN Y)=x at lo hx2;have sg:=a6j x om;rw [bq0];generalize sgR x=U at sg;refine ac Tryz.func174 ?_;conv=>whnf
  repeat' (first|refine zx ?_|refine bl0 [7] ?_|apply zD<;>intro h<;>try omega)<;>conv=>whnf
  all_goals first|omega|(refine g9 ?_;symm;simp;omega)
def b5N (t:j6) (hs:t.Sized) (h:QT t) (find:Int) (f:P5) (f0:0<=find) (hf:t.finds[find.toNat]? =some f) (g:Nat) (hg:g<t.ev.moves.length) (i:Nat) (hi:i ∈ n6 t.ev) (Z:List Rat) (hp:PtB (u4 t f.kind i) Z)
 (hH:m9 (u4 t f.kind i) Z=true) (pa:0<Z.getD g 0) (pb:0<Z.getD f.mv.toNat 0):
 ec 100 [trS t,eI find,eI g,eI i,p5 (Z.map fz)] [] (j8 true) []:=by
 have hfit:=a1w h f0 hf;have hm:=h.m;obtain ⟨q1,q2,q3,q4,q5⟩:=v3 h.h;have hfg:=I0 q4 f (lbm hf);have ha:X5 t find i=true:=by unfold X5;rw [hfit,lbI (by exact ⟨om,by rw [lbZ];exact hi⟩)];rfl
 have al:=a8k t hs find f hf i ha om;have ss:=a0r (kind:=f.kind) i h;have ho:=bg0 (u4 t f.kind i) (ar7 ss) ss.r Z hp;rw [hH] at ho;have eN:(u4 t f.kind i).n=((t.ev.moves.length:Nat):Int):=rfl;have zl:(Z.length:Int)=t.ev.moves.length:=by have:=(S1 hH).2;exact this
 obtain ⟨a,ha⟩:∃a,Z[g]? =some a:=⟨_,lbf om⟩;obtain ⟨b,hb⟩:∃b,Z[f.mv.toNat]? =some b:=⟨_,lbf om⟩;have ga:(Z.map fz)[g]? =some (fz a):=by rw [lba,ha];rfl
 have gb:(Z.map fz)[f.mv.toNat]? =some (fz b):=by rw [lba,hb];rfl
 have sa:=a6j a (by have:=hp.v a (lbm ha);omega);have sb:=a6j b (by have:=hp.v b (lbm hb);omega);have ea:Z.getD g 0=a:=by rw [lbl,ha];rfl
 have eb:Z.getD f.mv.toNat 0=b:=by rw [lbl,hb];rfl
 rw [ea] at pa;rw [eb] at pb;have ua:=a9q.2 pa;have ub:=a9q.2 pb;generalize sgR a=U at sa ua;generalize sgR b=V at sb ub;have hg1:=hfg.1;refine ac Tryz.func100 ?_;conv=>whnf
 repeat' (first|refine zx ?_|refine f7 ga ?_|refine x5 f0 hf ?_|refine x5 hg1 gb ?_|refine bl0 [7] ?_|apply zD<;>intro h<;>try omega)<;>conv=>whnf
 all_goals first|omega|exact g9 rfl
def ac2 {e:Ev}:∀{k n:Nat},k<=n->∃l,u0 e n=u0 e k++l:=by
 intro k n h;induction n with
 |zero=>have:k=0:=by omega
        subst this;exact ⟨[],zq⟩
 |succ n ih=>
  by_cases hk:k=n+1
  ·subst hk;exact ⟨[],zq⟩
  ·obtain ⟨l,hl⟩:=ih om;conv=>enter [1,l,1];unfold u0
   split
   ·split
    ·exact ⟨l++[n],by rw [hl,lbE]⟩
    ·exact ⟨l,hl⟩
   ·exact ⟨l,hl⟩
def b0X {e:Ev} {k:Nat} (h:k ∈ n6 e):(n6 e)[(u0 e k).length]? =some k:=by
 obtain ⟨m,hm,h0⟩:=a0h.1 h;have hk:=(lbe.1 hm).1;obtain ⟨l,hl⟩:=ac2 (e:=e) (show k+1<=e.moves.length by omega);have e1:u0 e (k+1)=u0 e k++[k]:=by conv=>lhs;unfold u0;rw [hm];simp only [if_pos h0]
 show (u0 e e.moves.length)[_]? =_;rw [hl,e1,lbE,lbc (lbS _)];simp
def aI7 {e:Ev} {k:Nat} (hk:k<e.moves.length):(u0 e (k+1)).length=(u0 e k).length+if k ∈ n6 e then 1 else 0:=by
 obtain ⟨m,hm⟩:∃m,e.moves[k]? =some m:=⟨_,lbf hk⟩;have h1:k ∈ n6 e↔w9 e m.src=0:=by
  rw [a0h];exact ⟨fun ⟨x,hx,h⟩=>by rw [hm] at hx;injection hx with hx;rw [hx];exact h,fun h=>⟨m,hm,h⟩⟩
 conv=>lhs;unfold u0
 rw [hm];simp only;by_cases h:w9 e m.src=0
 ·rw [if_pos h,if_pos (h1.2 h)];simp
 ·rw [if_neg h,if_neg (fun h'=>h (h1.1 h'))];simp
theorem b4q (t:j6) (hs:t.Sized) (hQ:QT t) (find:Int) (f:P5) (f0:0<=find) (hf:t.finds[find.toNat]? =some f) (g:Nat) (hg:g<t.ev.moves.length) (pf:List (List Rat))
 (hp:∀(k i:Nat) (y:List Rat),(n6 t.ev)[k]? =some i->pf[k]? =some y->b4I (u4 t f.kind i) y) (hc:am6 t f.kind f.mv.toNat g (pf.map fun y=>y.map fz)=true):
 d6 Tryz.prog 101 [trS t,c9 .i64 find,c9 .i64 g,b0o (pf.map fun y=>y.map fz)] [] (j8 true) []:=by
 have fi:=a5a t hs find
 rw [a1w hQ f0 hf] at fi
 have hm:=hQ.m
 obtain ⟨q1,q2,q3,q4,q5⟩:=v3 hQ.h
 have hfg:=I0 q4 f (lbm hf)
 obtain ⟨mv,hmv⟩:∃mv:Nat,f.mv=mv:=⟨f.mv.toNat,by omega⟩
 have hmv2:f.mv.toNat=mv:=by omega
 rw [hmv2] at hc
 unfold am6 at hc
 rw [lbO,lbJ,lbr,lbw] at hc
 obtain ⟨hl,hc⟩:=hc
 obtain ⟨P,hP⟩:∃P,P=pf.map fun y=>y.map fz:=⟨_,rfl⟩
 rw [← hP] at hc ⊢
 have m1:(t.ev.moves.map A8.row).length=t.ev.moves.length:=by simp
 have m2:(P.map a2J).length=pf.length:=by rw [hP];simp
 have ll:(n6 t.ev).length<=t.ev.moves.length:=B1 _
 (refine ac Tryz.func101 ?_;(conv=>whnf);repeat ((first|refine b0x ?_|refine zy ?_);conv=>whnf))
 repeat' (first|refine zx ?_|refine qp fi ?_|refine zd ?_ ?_<;>intro h<;>try omega|fail)<;>conv=>whnf
 all_goals try omega
 refine i7 d9 (fun k=>([J,c9 .i64 find,c9 .i64 g,b0o P,S.c (C.t (T.ptr (trT t))),J,J,J,J,c9 .i64 (u0 t.ev k).length,c9 .i64 k]++Jn 71,[])) t.ev.moves.length (fun _=>True) [] trivial
  ⟨rfl,rfl,trivial,⟨rfl,rfl,rfl,rfl,rfl,rfl,trivial⟩⟩ ?_
 intro k hk _
 obtain ⟨lp,hlp⟩:=ac2 (e:=t.ev) hk
 have lle:(u0 t.ev k).length<=(n6 t.ev).length:=by show _<=(u0 t.ev t.ev.moves.length).length;rw [hlp];simp
 by_cases hlt:k<t.ev.moves.length
 ·have lf:=a8p t.ev q1 k hlt
  have nx:=aI7 hlt
  by_cases hkl:k ∈ n6 t.ev
  ·have e1:a5i t.ev k=true:=lbI hkl
   rw [e1] at lf
   rw [if_pos hkl] at nx
   have gi:=b0X hkl
   have gl:=(lbe.1 gi).1
   obtain ⟨Y,hY⟩:∃Y,pf[(u0 t.ev k).length]? =some Y:=⟨_,lbf (by omega)⟩
   have hy:P[(u0 t.ev k).length]? =some (Y.map fz):=by rw [hP,lba,hY];rfl
   have hcl:=hc _ (lbC.2 gl)
   have hid:(n6 t.ev).getD (u0 t.ev k).length 0=k:=by rw [lbl,gi];rfl
   have hyd:P.getD (u0 t.ev k).length []=Y.map fz:=by rw [lbl,hy];rfl
   rw [hid,hyd] at hcl
   have ha:X5 t find k=true:=by unfold X5;rw [a1w hQ f0 hf,lbI (by exact ⟨by omega,by rw [lbZ];exact hkl⟩)];rfl
   have al:=a8k t hs find f hf k ha (by omega)
   have ss:=a0r (kind:=f.kind) k hQ
   have my:=hp _ k Y gi hY
   have n1:=b0M (u4 t f.kind k) ss mv Y my
   have n2:=b0M (u4 t f.kind k) ss g Y my
   rw [← hmv] at n1
   unfold bt5 at hcl
   rw [nx]
   generalize u0 t.ev k=L at *
   cases h1:b1L (u4 t f.kind k) (ax6 mv) (Y.map fz) with
   |true=>
    rw [h1] at n1
    conv=>whnf
    repeat' (first|refine zx ?_|refine qp lf ?_|refine qp al ?_|refine qp n1 ?_|refine qp n2 ?_|refine qp 7 ?_|refine x5 f0 hf ?_|refine f7 hy ?_|refine bl0 [7] ?_|refine zd ?_ ?_<;>intro h<;>try omega|fail)<;>conv=>whnf
    all_goals first
     |omega
     |exact ⟨hlt,trivial,[],rfl,rfl,trivial,⟨rfl,rfl,rfl,rfl,d7 (by omega),d7 (by omega),trivial⟩⟩
   |false=>
    rw [h1,a4M] at hcl
    rw [h1] at n1
    rw [hcl] at n2
    conv=>whnf
    repeat' (first|refine zx ?_|refine qp lf ?_|refine qp al ?_|refine qp n1 ?_|refine qp n2 ?_|refine qp 7 ?_|refine x5 f0 hf ?_|refine f7 hy ?_|refine bl0 [7] ?_|refine zd ?_ ?_<;>intro h<;>try omega|fail)<;>conv=>whnf
    all_goals first
     |omega
     |exact ⟨hlt,trivial,[],rfl,rfl,trivial,⟨rfl,rfl,rfl,rfl,d7 (by omega),d7 (by omega),trivial⟩⟩
  ·have e1:a5i t.ev k=false:=lbK hkl
   rw [e1] at lf
   rw [if_neg hkl,aD3] at nx
   rw [nx]
   generalize u0 t.ev k=L at *
   conv=>whnf
   repeat' (first|refine zx ?_|refine qp lf ?_|refine zd ?_ ?_<;>intro h<;>try omega|fail)<;>conv=>whnf
   all_goals first
    |omega
    |exact ⟨hlt,trivial,[],rfl,rfl,trivial,⟨rfl,rfl,rfl,rfl,rfl,d7 (by omega),trivial⟩⟩
 ·have hke:k=t.ev.moves.length:=by omega
  subst hke
  have e1:(u0 t.ev t.ev.moves.length).length=pf.length:=hl.symm
  rw [e1]
  conv=>whnf
  repeat' (first|refine zx ?_|refine zd ?_ ?_<;>intro h<;>try omega|fail)<;>conv=>whnf
  all_goals first
   |omega
   |exact g9 rfl
def b4d (v:Nat):C4 (D4 v)=ax6 v:=by
 unfold C4 a0H D4 ax6;have:((1:Int):Rat)*((-1:Int):Rat)=((-1:Int):Rat):=zk;simp only [ad9,List.map_nil,this]
def b4Y {s:j2} {g:List (Int × Rat)} {Y:List Rat} (hr:n7 s=true) (hg:j9 (-1) ((s.n.toNat:Nat):Int) g=true) (h:a4D s (C4 g) Y=true) (h0:a4b s (yN Y)=0) {z:List Rat} (hz:m9 s z=true):n8 g z<=0:=by
 have hb:=b4r (g:=C4 g) (bi7 hr h) hz;have e:k7 (fun l=>A7 (C4 g) l*z.getD l 0) s.n.toNat=n8 (C4 g) z:=(P9 (Y1 hg) z).symm;rw [e,a0M (s:=s) (g:=g),h0] at hb;grind
def aB6 {s:j2} {g:List (Int × Rat)} (h:aE2 s g) (hp:a14 g (V8 s g)=false):a4D s (C4 g) (a0D s g)=true∧a4b s (yN (a0D s g))=0:=by
 unfold a14 at hp;have hp:=lbN hp;rcases aO3 (g:=C4 g) h.r h.z with ho|⟨c,ho⟩
 ·unfold V8 at hp;unfold a0D;rw [ho] at hp ⊢;simp only at hp ⊢;obtain ⟨p1,p2⟩:=a1A h.r h.og ho;obtain ⟨b1,b2⟩:=be0 (Y:=zOf s.rows.length (V4 s (y8 s (C4 g)))) h.r h.og (b8P h.r h.og ho) S8 (fun i hi=>b6X hi);refine ⟨b1,?_⟩;rw [b2,a0M (s:=s) (g:=g)];have:=h.p _ p1;grind
 ·exfalso;obtain ⟨r1,r2⟩:=ah1 h.r h.og ho;unfold V8 at hp;rw [ho] at hp;simp only at hp;have h0:=(a1A h.r rfl h.z).1;have h3:=S1 h0;have hn:=L3 h.r;rw [a2k (n:=s.n.toNat) om r1.len h.t] at hp;rw [a0M (s:=s) (g:=g)] at r2;have:=h.p _ h0;grind
def b5H {t:j6} {kind:Int} {i v:Nat} (h:QT t) (k0:0<=kind) (k1:kind<8) (hv:v<t.ev.moves.length):(isA t kind i).getD v false=true↔∃z,aA9 t kind i z∧0<z.getD v 0:=by
 rw [be9 h om k0 k1 om];unfold b5t;simp only [if_pos hv]
def b5l {t:j6} {kind:Int} {g:Nat} {l:List Nat}:a7l t kind g l=none↔∀i ∈ l,(isA t kind i).getD g false=false:=by
 unfold a7l;rw [List.find?_eq_none];exact ⟨fun h i hi=>by simpa using h i hi,fun h i hi=>by simpa using h i hi⟩
def b2K {t:j6} {kind:Int} {mv g:Nat}:a7l t kind g (R7 t kind mv)=none↔P2 t kind mv g=false:=by
 rw [b5l];unfold P2;rw [a9h];exact ⟨fun h i hi=>by rw [h i hi];decide,fun h i hi=>by simpa using h i hi⟩
def a93 {t:j6} {kind:Int} {i v:Nat} (h:QT t) (k0:0<=kind) (k1:kind<8) (hv:v<t.ev.moves.length):aE2 (u4 t kind i) (D4 v):=by
 have hG:=J1 (kind:=kind) i h om k0 k1;have hm:D4 v ∈ v4 t.ev:=by
  unfold v4 B8;exact List.mem_append_left _ (lby.2 ⟨v,lbC.2 hv,rfl⟩)
 exact ⟨hG.p.r,hG.p.z,hG.p.g _ hm,hG.p.p _ hm⟩
def aj5 {t:j6} {kind:Int} {i v:Nat} (h:QT t) (k0:0<=kind) (k1:kind<8) (hv:v<t.ev.moves.length):a14 (D4 v) (V8 (u4 t kind i) (D4 v))=(isA t kind i).getD v false:=by
 have hG:=a93 (i:=i) h k0 k1 hv;obtain ⟨m1,m2⟩:=am7 hG;rw [aj3,b5H h k0 k1 hv];unfold a14;rw [lbJ];constructor
 ·intro hp;exact ⟨_,(a0y h k0 k1).1 m1,by rw [← a6F];exact hp⟩
 ·rintro ⟨z,hz,hp⟩;exact m2 ⟨z,(a0y h k0 k1).2 hz,by rw [a6F];exact hp⟩
def b1I {t:j6} {kind:Int} {mv g:Nat} (h:QT t) (k0:0<=kind) (k1:kind<8) (hmv:mv<t.ev.moves.length) (hg:g<t.ev.moves.length) (hw:P2 t kind mv g=false):am6 t kind mv g (a3s t kind mv g (n6 t.ev))=true:=by
 unfold am6;rw [aW8,lbI rfl,H9,lbw];intro k hk;have hk:=lbC.1 hk;obtain ⟨i,hi⟩:∃i,(n6 t.ev)[k]? =some i:=⟨_,lbf hk⟩;have hid:(n6 t.ev).getD k 0=i:=by rw [lbl,hi];rfl
 have hyd:(a3s t kind mv g (n6 t.ev)).getD k []=(aP2 t kind mv g i).map fz:=by rw [lbl];unfold a3s;rw [lba,hi];rfl
 rw [hid,hyd];unfold bt5 aP2;rw [aj5 h k0 k1 hmv,ap0,ap0,←b4d,←b4d];cases hb:(isA t kind i).getD mv false with
 |true=>
  have hi2:i ∈ R7 t kind mv:=lbz.2 ⟨lbm hi,hb⟩;unfold P2 at hw;have hr:(isA t kind i).getD g false=false:=by simpa using a9h.1 hw i hi2
  obtain ⟨a,b⟩:=aB6 (a93 (i:=i) h k0 k1 hg) (by rw [aj5 h k0 k1 hg];exact hr);rw [if_pos rfl,a,b];simp
 |false=>
  obtain ⟨a,b⟩:=aB6 (a93 (i:=i) h k0 k1 hmv) (by rw [aj5 h k0 k1 hmv];exact hb);rw [if_neg de,a,b]
  rfl
def b26 {s:j2} (h:I8 s):∀w ∈ s.rows,al3 11 w:=fun w hw=>by
 obtain ⟨a,b⟩:=h.i w hw;exact ⟨a,by have:=a8J b;omega⟩
def b5s {s:j2} {g:List (Int × Rat)} (h:I8 s) (h8:s.n.toNat<=8) (hw:z5 g):b4I s (a0D s g):=by
 have hl:=h.l;unfold a0D;split
 ·have hr:∀w ∈ s.rows,(∀ t ∈ w.terms,rl t.2<=11)∧rl w.value<=11:=fun w hw=>⟨fun t ht=>by have:=D5 (h.i w hw).1 t ht;omega,by have:=a8J (h.i w hw).2;omega⟩
  exact ⟨fun v hv=>absurd hv (List.not_mem_nil),J0 _,fun e=>b8s (B:=1) (C:=11) (N:=0) e (lbS _) de (fun v hv=>absurd hv (List.not_mem_nil)) hr de de de⟩
 ·exact ⟨b6f (b26 h) (a0u hw) h8,by rw [S8];omega,fun _=>b5i (b26 h) (a0u hw) h8 om⟩
def b02 {t:j6} {kind:Int} {i:Nat} (j:Nat) (h:QT t):b4I (u4 t kind i) (a0D (u4 t kind i) (D4 j)):=
 b5s (a0r i h) (by show ((t.ev.moves.length:Nat):Int).toNat<=8;have:=h.m;omega) (a0v _)
def b4D {t:j6} {kind:Int} {a b:Nat} (h:QT t) (k i:Nat) (y:List Rat) (hi:(n6 t.ev)[k]? =some i) (hy:((n6 t.ev).map fun i=>aP2 t kind a b i)[k]? =some y):b4I (u4 t kind i) y:=by
 rw [lba,hi] at hy;injection hy with hy;subst hy;show b4I _ (aP2 t kind a b i);unfold aP2;split
 ·exact b02 b h
 ·exact b02 a h
def b5b {s:j2} {x:List Rat} {B:Nat} (h:I8 s) (hB:B<=2000) (hl:x.length<=1000000) (hx:∀v ∈ x,rl v<=B):PtB s x:=by
 have h9:=h.n;have:=lbU (show s.n.toNat<=9 by omega) (show B+4<=2004 by omega);exact bq9 h.r (b26 h) (B:=B) om om hl hx
def b9H {t:j6} {kind:Int} {i:Nat} (h:QT t) (h0:0<t.ev.moves.length) (k0:0<=kind) (k1:kind<8):∀v ∈ a7p t kind i,rl v<=1100:=by
 have hG:=J1 (kind:=kind) i h h0 k0 k1;intro v hv;unfold a7p ap2 at hv;obtain ⟨u,hu,rfl⟩:=lby.1 hv;have hk:a1P (u4 t kind i) (v4 t.ev)<=(v4 t.ev).length:=a5E (a6Y _ _).2;have hl:=hG.l;have h1:=ah4 hG _ u hu;generalize a1P (u4 t kind i) (v4 t.ev)=K at *;have h2:=lbV 32 (show K+1<=31 by omega);have h3:=a52 u (Rat.divInt 1 ((K+1:Nat):Int));have h4:=N1 (p:=1) (q:=((K+1:Nat):Int)) om;have h5:=o7 (x:=1) de de;have h6:=o7 (x:=((K+1:Nat):Int)) om om;omega
def b7c {t:j6} {kind:Int} {i:Nat} (h:QT t) (h0:0<t.ev.moves.length) (k0:0<=kind) (k1:kind<8):PtB (u4 t kind i) (a7p t kind i):=by
 have hA:=(aE8 (i:=i) h h0 k0 k1).1;have hl:=hA.p.len;have hm:=h.m;have e:(B9 t).ev.moves.length=t.ev.moves.length:=rfl;exact b5b (B:=1100) (a0r i h) de om (b9H h h0 k0 k1)

def af6 (k:Nat):List K8:=[⟨0,0,0⟩,⟨0,1,0⟩]++([1,1,2,5].take k).map fun x=>⟨x,-1,-1⟩
def exQ (cl:List Y8):j6:=⟨⟨1,2,0,af6 4,[⟨0,0,2,-1,0,false⟩,⟨0,1,3,-1,0,false⟩,⟨0,2,4,-1,0,true⟩,⟨0,4,5,-1,0,false⟩,⟨0,3,4,-1,0,true⟩],[],[],[]⟩,[⟨3,0,1⟩,⟨4,0,1⟩],cl⟩
abbrev bu1 (l:List K8):Blk:={ mode:=.live,elem:=160,size:=3,rows:=toC (l.map K8.row),box:=false }
abbrev bI0 (id len:Nat):Blk:={ mode:=.live,elem:=28,size:=8,rows:=[[.t (ti 1),.t (ti 2),.t (ti 0),.own id 0 len true,.t (.sl 0 .nil []),.t (.sl 0 .nil []),.t (.sl 0 .nil []),.t (.sl 0 .nil [])]],box:=true }
abbrev bH1:Blk:={ mode:=.live,elem:=32,size:=10,rows:=[[.t (ti 0),.t (ti 0),.t (ti 0),.t (.sl 0 .nil []),.t (.sl 0 .nil []),.t (.sl 0 .nil []),.t (.sl 0 .nil []),.t (.sl 0 .nil []),.t (.sl 0 .nil []),.t (.sl 0 .nil [])]],box:=true }
def b5K {k:Nat} (h:k<=4):(af6 k).length=2+k:=by simp [af6];omega
def ab4 (cl:List Y8):ec 96 [.c (.t (a3j cl))] [] (trS (exQ cl)) []:=by
 refine ac Tryz.func96 ?_;conv=>whnf
 refine a4d.own ?_;conv=>whnf
 repeat' (first|refine zx ?_|apply zD<;>intro h<;>try omega)<;>conv=>whnf
 refine i7 d9 (fun k=>([S.c (C.t (a3j cl)),J,sP 0 0 0,eI (-1),sP 1 0 0,j3 [1,1,2,5],eI k]++Jn 42,[bH1,bI0 2 (af6 k).length,bu1 (af6 k)])) 4 tT [some 0,some 1,some 2] trivial
  ⟨rfl,rfl,⟨f5 (e7 [[ti 0,ti 0,ti 0,.sl 0 .nil [],.sl 0 .nil [],.sl 0 .nil [],.sl 0 .nil [],.sl 0 .nil [],.sl 0 .nil [],.sl 0 .nil []]]),⟨rfl,rfl,rfl,.inr ⟨⟨rfl,rfl,rfl,⟨rfl,rfl,rfl,fun h=>h⟩,rz⟩,trivial⟩⟩,d8 (rows:=(af6 0).map K8.row) rfl rfl rfl rfl rfl,trivial⟩,⟨k8 rfl,rz⟩⟩ ?_
 have m1:(([1,1,2,5]:LI).map j0).length=4:=rfl;intro k hk _;by_cases hlt:k<4
 ·obtain ⟨x,hx,hb⟩:∃x:Int,([1,1,2,5]:LI)[k]? =some x∧af6 (k+1)=af6 k++[⟨x,-1,-1⟩]:=by
   match k,hlt with
   |0,_=>exact ⟨1,rz⟩
   |1,_=>exact ⟨1,rz⟩
   |2,_=>exact ⟨2,rz⟩
   |3,_=>exact ⟨5,rz⟩
  have el:=b5K hk;rw [hb];generalize af6 k=L at *;have lA:L.length<=(bu1 L).rows.length:=by show _<=(toC _).length;simp [toC]
  conv=>whnf
  repeat' (first|refine zx ?_|refine f7 hx ?_|refine o6 lA zu ?_|refine bl0 [0,1] ?_|apply zD<;>intro h<;>try omega)<;>conv=>whnf
  all_goals first
   |omega
   |(refine ⟨hlt,trivial,[some 0,some 1,some 3],rfl,rfl,⟨f5 (e7 [[ti 0,ti 0,ti 0,.sl 0 .nil [],.sl 0 .nil [],.sl 0 .nil [],.sl 0 .nil [],.sl 0 .nil [],.sl 0 .nil [],.sl 0 .nil []]]),⟨rfl,rfl,rfl,.inr ⟨⟨rfl,rfl,rfl,⟨rfl,rfl,?_,fun h=>h⟩,rz⟩,trivial⟩⟩,d8 (rows:=(L++[(⟨x,-1,-1⟩:K8)]).map K8.row) rfl rfl rfl ?_ rfl,trivial⟩,⟨rfl,rz,rfl,rz,rfl,d7 om,trivial⟩⟩
     ·simp [toC]
     ·exact u6 (f:=K8.row) (x:=(⟨x,-1,-1⟩:K8)) rfl)
 ·have hke:k=4:=by omega
  subst hke;conv=>whnf
  repeat' (first|refine zz ?_|refine a4d.weak ?_|apply zD<;>intro h<;>try omega|refine zy ?_|fail)<;>conv=>whnf
  all_goals first|omega|exact n9 ⟨rfl,rfl,rfl,(show VC _ (fun id=>G8 [] id=true) (C.own 2 0 _ true) _ from s6 (k:=bu1 (af6 4)) rfl rfl (fun h=>h) rfl rfl rfl),rz⟩
def bl4 (s:j2) (gL:List (List (Int × Rat))) (w:List Rat) (Ys:List (List Rat)) (out:List Bool):Bool:=
 decide (out.length=gL.length) && m9 s w && (List.range gL.length).all fun g=>if out.getD g false=true then decide (0<n8 (gL.getD g []) w) else a4D s (C4 (gL.getD g [])) (Ys.getD g []) && decide (a4b s (yN (Ys.getD g []))=0)
def ah9 {s:j2} {gL:List (List (Int × Rat))} {w:List Rat} {Ys:List (List Rat)} {out:List Bool} (h:a1b s gL) (hc:bl4 s gL w Ys out=true):isF s gL=out:=by
 unfold bl4 at hc;simp only [lbO,lbJ,lbw] at hc;obtain ⟨⟨h1,h2⟩,h3⟩:=hc;have hl:(isF s gL).length=gL.length:=L6 _ _ _;refine a1r om fun i hi=>?_
 have hi2:i<gL.length:=om;have h4:=h3 i (lbC.2 hi2);have hiff:=aN5 h hi2;cases ho:out.getD i false with
 |true=>
  rw [ho,if_pos rfl,lbJ] at h4;exact hiff.2 ⟨w,h2,h4⟩
 |false=>
  rw [ho,if_neg de,lbO,lbJ] at h4;cases hb:(isF s gL).getD i false with
  |false=>rfl
  |true=>
   obtain ⟨z,hz,hp⟩:=hiff.1 hb;have:=b4Y h.r (h.g _ (N3 hi2)) h4.1 h4.2 hz;grind
def q0:List Rat:=[]
def qe (l:LI):List Rat:=l.map fun x=>((x:Int):Rat)
def b1V:y7 (exQ [])=0:=by decide +kernel
def b2U:y7 (exQ [⟨2,0⟩])=0:=by decide +kernel
def a5J:QT (exQ []):=⟨b1V,de,de⟩
def bw8:QT (exQ [⟨2,0⟩]):=⟨b2U,de,de⟩
def N4 (cl:List Y8) (h:cl.length<=1000000):(exQ cl).Sized:=⟨⟨by simp [exQ,af6],by simp [exQ,af6],by simp [exQ],by simp [exQ],by simp [exQ]⟩,by simp [exQ],by simpa [exQ] using h⟩
def b8f:isA (exQ []) 0 0=[true,false,true,true,false,false,false,false,false,true,true]:=
 ah9 (J1 0 a5J de de de).p (w:=qe [2,0,2,1,0]) (Ys:=[[],qe [0,0,0,-1],[],[],qe [0,0,1,-1],qe [0,0,0,0],qe [0,0,0,0],qe [-1,0,0,0],qe [0,0,-1,0],[],[]]) zk
def bz9:isA (exQ []) 0 1=[false,true,false,false,true,false,false,false,false,true,false]:=
 ah9 (J1 1 a5J de de de).p (w:=qe [0,2,0,0,2]) (Ys:=[qe [0,0,0,-1],[],qe [1,0,0,-1],qe [1,1,0,-1],[],qe [0,0,0,0],qe [0,0,0,0],qe [-1,0,0,0],qe [0,0,-1,0],[],qe [1,1,0,-1]]) zk
def bH0:isA (exQ [⟨2,0⟩]) 0 0=[false,false,false,false,false,false,false,false,false,false,false]:=
 ah9 (J1 0 bw8 de de de).p (w:=qe [0,0,0,0,0]) (Ys:=[qe [-1,-1,0,0,0],qe [0,0,0,0,-1],qe [0,-1,0,0,0],qe [0,-1,1,0,0],qe [0,0,0,1,-1],qe [0,0,0,0,0],qe [0,0,0,0,0],qe [-1,0,0,0,0],qe [0,0,0,-1,0],qe [0,-1,0,1,-1],qe [0,-1,1,0,0]]) zk
def bG9:isA (exQ [⟨2,0⟩]) 0 1=[false,true,false,false,true,false,false,false,false,true,false]:=
 ah9 (J1 1 bw8 de de de).p (w:=qe [0,2,0,0,2]) (Ys:=[qe [0,0,0,0,-1],[],qe [0,-1,0,0,0],qe [0,-1,1,0,0],[],qe [0,0,0,0,0],qe [0,0,0,0,0],qe [-1,0,0,0,0],qe [0,0,0,-1,0],[],qe [0,-1,1,0,0]]) zk
def b70:n6 (exQ []).ev=[0,1]:=by decide +kernel
def bH8:n6 (exQ [⟨2,0⟩]).ev=[0,1]:=by decide +kernel
def bC8 (mv:Nat):R7 (exQ []) 0 mv=[0,1].filter fun i=>((if i=0 then [true,false,true,true,false,false,false,false,false,true,true] else [false,true,false,false,true,false,false,false,false,true,false]):List Bool).getD mv false:=by
 unfold R7;rw [b70];refine List.filter_congr fun i hi=>?_
 have hi:i=0∨i=1:=by simpa using hi
 rcases hi with rfl|rfl
 ·rw [b8f];rfl
 ·rw [bz9];rfl
def b7E:R7 (exQ []) 0 3=[0]:=by rw [bC8];decide +kernel
def bj7:R7 (exQ []) 0 4=[1]:=by rw [bC8];decide +kernel
def bE2:R7 (exQ [⟨2,0⟩]) 0 3=[]:=by
 unfold R7;rw [bH8];simp [bH0,bG9]
def ap9 (g:Nat):P2 (exQ []) 0 3 g=([true,false,true,true,false,false,false,false,false,true,true]:List Bool).getD g false:=by
 unfold P2;rw [b7E];show ((isA (exQ []) 0 0).getD g false || false)=_;rw [b8f,ao2]
def b7X (g:Nat):P2 (exQ []) 0 4 g=([false,true,false,false,true,false,false,false,false,true,false]:List Bool).getD g false:=by
 unfold P2;rw [bj7];show ((isA (exQ []) 0 1).getD g false || false)=_;rw [bz9,ao2]
def bv7:Q8 (exQ []) 0 3=[0,2,3]∧N6 (exQ []) 0 3=[4,5]:=by
 unfold Q8 N6 H8 D2 a3z;have:(fun g=>P2 (exQ []) 0 3 g)=fun g=>([true,false,true,true,false,false,false,false,false,true,true]:List Bool).getD g false:=funext ap9
 rw [this]
 decide +kernel
def br1:Q8 (exQ []) 0 4=[1,4]∧N6 (exQ []) 0 4=[4]:=by
 unfold Q8 N6 H8 D2 a3z;have:(fun g=>P2 (exQ []) 0 4 g)=fun g=>([false,true,false,false,true,false,false,false,false,true,false]:List Bool).getD g false:=funext b7X
 rw [this]
 decide +kernel
def bG2:ae7 (exQ []) 0 3=[3]:=by
 unfold ae7;rw [bv7.1];decide +kernel
def bH2:ae7 (exQ []) 0 4=[]:=by
 unfold ae7;rw [br1.1];decide +kernel
def exW:a7l (exQ []) 0 2 (R7 (exQ []) 0 3)=some 0:=by
 rw [b7E];unfold a7l;have:(isA (exQ []) 0 0).getD 2 false=true:=by rw [b8f];rfl
 simp [List.find?_cons];rw [lbl] at this;simp [this]
def exN:a7l (exQ []) 0 4 (R7 (exQ []) 0 3)=none:=by
 rw [b2K,ap9];rfl
def a1J (a b:LI) (ha:a.length<=1000000) (hb:b.length<=1000000):ec 48 [j3 a,j3 b] [] (j8 (decide (a=b))) []:=by
 have s:=b2k a b ha hb;refine ac Tryz.func48 ?_;conv=>whnf
 repeat' (first|refine zx ?_|apply zD<;>intro<;>try omega)<;>conv=>whnf
 all_goals (refine g9 ?_;symm;assumption)
def f03:P5:=⟨3,0,1⟩
def f14:P5:=⟨4,0,1⟩
def bE1:ec 43 [trS (exQ []),eI 0] [] (.tup [j3 [0],eI 0]) []:=by
 have h:=a6S (exQ []) (N4 _ de) a5J 0 f03 de rfl;rw [show R7 (exQ []) f03.kind f03.mv.toNat=[0] from b7E] at h;exact h
def bF0:ec 43 [trS (exQ []),eI 1] [] (.tup [j3 [1],eI 0]) []:=by
 have h:=a6S (exQ []) (N4 _ de) a5J 1 f14 de rfl;rw [show R7 (exQ []) f14.kind f14.mv.toNat=[1] from bj7] at h;exact h
def bB2:ec 43 [trS (exQ []),eI 2] [] (.tup [.c (.t (.sl 0 .nil [])),eI 1]) []:=
 a79 (exQ []) (N4 _ de) 2 (by unfold a00;simp [exQ])
def bA6:ec 43 [trS (exQ [⟨2,0⟩]),eI 0] [] (.tup [j3 [],eI 0]) []:=by
 have h:=a6S (exQ [⟨2,0⟩]) (N4 _ de) bw8 0 f03 de rfl;rw [show R7 (exQ [⟨2,0⟩]) f03.kind f03.mv.toNat=[] from bE2] at h;exact h
def bA2:ec 45 [trS (exQ []),eI 0] [] (.tup [j3 [0,2,3],j3 [4,5],eI 0]) []:=by
 have h:=al2 (exQ []) (N4 _ de) a5J 0 f03 de rfl;rw [show Q8 (exQ []) f03.kind f03.mv.toNat=[0,2,3] from bv7.1,show N6 (exQ []) f03.kind f03.mv.toNat=[4,5] from bv7.2] at h;exact h
def bz5:ec 45 [trS (exQ []),eI 1] [] (.tup [j3 [1,4],j3 [4],eI 0]) []:=by
 have h:=al2 (exQ []) (N4 _ de) a5J 1 f14 de rfl;rw [show Q8 (exQ []) f14.kind f14.mv.toNat=[1,4] from br1.1,show N6 (exQ []) f14.kind f14.mv.toNat=[4] from br1.2] at h;exact h
def by3:ec 97 [trS (exQ []),eI 0] [] (.tup [j3 [3],eI 0]) []:=by
 have h:=b8L (exQ []) (N4 _ de) a5J 0 f03 de rfl;rw [show ae7 (exQ []) f03.kind f03.mv.toNat=[3] from bG2] at h;exact h
def bB3:ec 97 [trS (exQ []),eI 1] [] (.tup [j3 [],eI 0]) []:=by
 have h:=b8L (exQ []) (N4 _ de) a5J 1 f14 de rfl;rw [show ae7 (exQ []) f14.kind f14.mv.toNat=[] from bH2] at h;exact h
def bG8:ec 98 [trS (exQ []),eI 0,eI 2] [] (.tup [eI 0,p5 ((a7p (exQ []) 0 0).map fz),j8 true]) []:=by
 have h:=aD5 (exQ []) (N4 _ de) a5J 0 f03 de rfl 2 de;rw [show a7l (exQ []) f03.kind 2 (R7 (exQ []) f03.kind f03.mv.toNat)=some 0 from exW] at h;exact h
def bE7:ec 100 [trS (exQ []),eI 0,eI 2,eI 0,p5 ((a7p (exQ []) 0 0).map fz)] [] (j8 true) []:=by
 obtain ⟨w1,w2⟩:=aE8 (kind:=0) (i:=0) a5J de de de;have p2:=w2 2 de (by rw [b8f];rfl);have p3:=w2 3 de (by rw [b8f];rfl);unfold b5t at p2 p3;rw [if_pos de] at p2 p3;exact b5N (exQ []) (N4 _ de) a5J 0 f03 de rfl 2 de 0 (by rw [b70];decide) (a7p (exQ []) 0 0) (b7c a5J de de de) ((a0y a5J de de).2 w1) p2 p3
def bI2:ec 99 [trS (exQ []),eI 0,eI 4] [] (.tup [b0o (a3s (exQ []) 0 3 4 [0,1]),j8 true]) []:=by
 have h:=b9I (exQ []) (N4 _ de) a5J 0 f03 de rfl 4 de exN;rw [b70] at h;exact h
def bH4:ec 101 [trS (exQ []),eI 0,eI 4,b0o (a3s (exQ []) 0 3 4 [0,1])] [] (j8 true) []:=by
 have hc:am6 (exQ []) 0 3 4 (a3s (exQ []) 0 3 4 [0,1])=true:=by
  have:=b1I (kind:=0) (mv:=3) (g:=4) a5J de de de de (by rw [ap9];rfl);rwa [b70] at this
 have e:a3s (exQ []) 0 3 4 [0,1]=((n6 (exQ []).ev).map fun i=>aP2 (exQ []) 0 3 4 i).map fun y=>y.map fz:=by rw [b70];unfold a3s;rw [a4P];rfl
 rw [e] at hc ⊢;refine b4q (exQ []) (N4 _ de) a5J 0 f03 de rfl 4 de _ (fun k i y hi hy=>b4D a5J k i y hi hy) hc
def aU5:ec 40 [] [] (j8 true) []:=by
 have x0:=ab4 [];have x1:=ab4 [⟨2,0⟩];have o0:=bE1;have o1:=bF0;have o2:=bB2;have oc:=bA6;have l0:=bA2;have l1:=bz5;have d0:=by3;have d1:=bB3;have wi:=bG8;have sh:=bE7;have pr:=bI2;have cl:=bH4;have m1:=a1J [0] [0] de de;have m2:=a1J [1] [1] de de;have m3:=a1J [0,2,3] [0,2,3] de de;have m4:=a1J [4,5] [4,5] de de;have m5:=a1J [1,4] [1,4] de de;have m6:=a1J [4] [4] de de;have m7:=a1J [3] [3] de de;rw [lbI rfl] at m1 m2 m3 m4 m5 m6 m7;generalize exQ []=t0 at *;generalize exQ [⟨2,0⟩]=t1 at *;generalize (a7p t0 0 0).map fz=wz at *;generalize a3s t0 0 3 4 [0,1]=pz at *;refine ac Tryz.func40 ?_;conv=>whnf
 repeat' (first|refine zz ?_|refine qp x1 ?_|refine qp o0 ?_|refine qp o1 ?_|refine qp o2 ?_|refine qp oc ?_|refine qp l0 ?_|refine qp l1 ?_|refine qp d0 ?_|refine qp d1 ?_|refine qp wi ?_|refine qp sh ?_|refine qp pr ?_|refine qp cl ?_|refine qp m1 ?_|refine qp m2 ?_|refine qp m3 ?_|refine qp m4 ?_|refine qp m5 ?_|refine qp m6 ?_|refine qp m7 ?_|refine .inl ⟨_,_,a1k x0 rz rfl,?_⟩|refine a4d.weak ?_|apply zD<;>intro h<;>try omega|refine zy ?_|fail)<;>conv=>whnf
 all_goals first|omega|exact g9 rfl|exact absurd rfl h
structure by0 (t:j6) (find:Int) (f:P5):Prop where
 q:QT t
 s:t.Sized
 f0:0<=find
 hf:t.finds[find.toNat]? =some f
 k0:0<=f.kind
 k1:f.kind<8
 m0:0<=f.mv
 m1:f.mv<t.ev.moves.length
 ml:f.mv.toNat<t.ev.moves.length
def b9Z {t:j6} {m:Int} {find:Int} (hm:m<=8) (hs:a5e t m=true) (hf:a00 t find=true):∃f,by0 t find f:=by
 obtain ⟨s1,s2,s3⟩:=a7k om hs;obtain ⟨h1,h2,f,h3⟩:=a3P hf;obtain ⟨q1,q2,q3,q4,q5⟩:=v3 h1;have hg:=I0 q4 f (lbm h3);unfold a5e a6x at hs;simp only [lbO,lbJ] at hs;exact ⟨f,⟨h1,om,om⟩,s1,h2,h3,om,om,om,om,om⟩
def b49 {x:Rat} (h:rl x<=200):(fz x).p.dl.length<=1000000∧(fz x).q.dl.length<=1000000:=by
 have h4:=G9 x;have h5:=H6 x;exact ⟨show bl x.num<=1000000 by omega,show bl x.den<=1000000 by omega⟩
def b8j (l:List (Int × Rat)) (hl:l.length<=100) (hd:∀t ∈ l,rl t.2<=200):ec 30 [.c (.t (Z5 l)),.c (.t (Z5 l))] [] (j8 true) []:=by
 have m1:(l.map k6).length=l.length:=zq;refine ac Tryz.func30 ?_;conv=>whnf
 repeat' (first|refine zx ?_|apply zD<;>intro<;>try omega)<;>conv=>whnf
 all_goals try omega
 refine i7 d9 (fun k=>([S.c (C.t (Z5 l)),S.c (C.t (Z5 l)),J,J,J,eI k]++Jn 36,[])) l.length tT [] trivial
  rz ?_
 intro k hk _;by_cases hlt:k<l.length
 ·obtain ⟨t,ht⟩:∃t,l[k]? =some t:=⟨_,lbf hlt⟩;have q:=b49 (hd t (lbm ht));have r:=b3s (fz t.2) q.1 q.2;conv=>whnf
  repeat' (first|refine zx ?_|refine f7 ht ?_|apply zD<;>intro<;>try omega)<;>conv=>whnf
  all_goals first|omega|exact ⟨hlt,trivial,[],rz⟩
 ·conv=>whnf
  repeat' (first|refine zx ?_|apply zD<;>intro<;>try omega)<;>conv=>whnf
  all_goals first|omega|exact g9 rfl
structure b87 (s:j2):Prop where
 n0:s.rows.length<=1000000
 t:∀w ∈ s.rows,w.terms.length<=100∧(∀ t ∈ w.terms,rl t.2<=200)∧rl w.value<=200
theorem b8H (s:j2) (hs:b87 s):d6 Tryz.prog 47 [S9 s,S9 s] [] (j8 true) []:=by
 have m1:(s.rows.map w5).length=s.rows.length:=by simp
 have l1:=hs.n0
 (refine ac Tryz.func47 ?_;(conv=>whnf);repeat ((first|refine b0x ?_|refine zy ?_);conv=>whnf))
 repeat' (first|refine zx ?_|refine zd ?_ ?_<;>intro h<;>try omega|fail)<;>conv=>whnf
 all_goals try omega
 refine i7 d9 (fun k=>([J,J,S.c (C.t (T.ptr [ti s.n,J7 s.rows])),S.c (C.t (T.ptr [ti s.n,J7 s.rows])),J,c9 .i64 k]++Jn 66,[])) s.rows.length (fun _=>True) [] trivial
  ⟨rfl,rfl,trivial,⟨rfl,rfl,rfl,trivial⟩⟩ ?_
 intro k hk _
 by_cases hlt:k<s.rows.length
 ·obtain ⟨w,hw⟩:∃w,s.rows[k]? =some w:=⟨_,lbf hlt⟩
  obtain ⟨b1,b2,b3⟩:=hs.t w (lbm hw)
  have q:=b49 b3
  have r:=b3s (fz w.value) q.1 q.2
  have st:=b8j w.terms b1 b2
  conv=>whnf
  repeat' (first|refine zx ?_|refine qp r ?_|refine qp st ?_|refine f7 hw ?_|refine zd ?_ ?_<;>intro h<;>try omega|fail)<;>conv=>whnf
  all_goals first
   |omega
   |exact ⟨hlt,trivial,[],rfl,rfl,trivial,⟨rfl,rfl,rfl,trivial⟩⟩
 ·conv=>whnf
  repeat' (first|refine zx ?_|refine zd ?_ ?_<;>intro h<;>try omega|fail)<;>conv=>whnf
  all_goals first
   |omega
   |exact g9 rfl
def a8A (t:j6) (hs:t.Sized) (find lift:Int) (h:X5 t find lift=false):
 ec 42 [trS t,eI find,eI lift] [] (.tup [S9 ⟨0,[]⟩,eI 1]) []:=by
 have fi:=a5a t hs find;have m1:(t.ev.moves.map A8.row).length=t.ev.moves.length:=zq;cases hf:a00 t find with
 |false=>
  rw [hf] at fi;refine ac Tryz.func42 ?_;conv=>whnf
  repeat' (first|refine zx ?_|apply zD<;>intro h<;>try omega)<;>conv=>whnf
  all_goals first
   |omega
   |exact n9 rz
 |true=>
  rw [hf] at fi;have h1:=(a3P hf).1;have hck:=(v3 h1).1;by_cases hl:0<=lift∧lift<t.ev.moves.length
  ·obtain ⟨i,rfl⟩:∃i:Nat,lift=i:=⟨lift.toNat,om⟩;have lf:=a8p t.ev hck i om;have e:a5i t.ev i=false:=by
    unfold X5 at h;rw [hf,H9] at h;have h:=lbN h;rw [lbZ] at h;exact lbK fun hx=>h ⟨om,hx⟩
   rw [e] at lf;refine ac Tryz.func42 ?_;conv=>whnf
   repeat' (first|refine zx ?_|apply zD<;>intro h<;>try omega)<;>conv=>whnf
   all_goals first|omega|exact n9 rz
  ·refine ac Tryz.func42 ?_;conv=>whnf
   repeat' (first|refine zx ?_|apply zD<;>intro h<;>try omega)<;>conv=>whnf
   all_goals first|omega|exact n9 rz
def a6r (a:LI) (h:a.length<=1000000):ec 48 [j3 a,j3 a] [] (j8 true) []:=by
 have:=a1J a a h h;rw [lbI rfl] at this;exact this
def a9o (t:j6) (find lift:Int) (Z:j2) (hZ:b87 Z) (e1 e2:Int) (C M P:LI) (hC:C.length<=1000000) (hM:M.length<=1000000) (hP:P.length<=1000000)
 (sm:ec 26 [trS t,eI 7] [] (j8 true) [])
 (a1:ec 41 [trS t,eI find,eI lift] [] (.tup [S9 Z,eI e1]) [])
 (a2:ec 42 [trS t,eI find,eI lift] [] (.tup [S9 Z,eI e1]) [])
 (o1:ec 43 [trS t,eI find] [] (.tup [j3 C,eI e2]) [])
 (o2:ec 44 [trS t,eI find] [] (.tup [j3 C,eI e2]) [])
 (l1:ec 45 [trS t,eI find] [] (.tup [j3 M,j3 P,eI e2]) [])
 (l2:ec 46 [trS t,eI find] [] (.tup [j3 M,j3 P,eI e2]) []):
 ec 9 [trS t,eI find,eI lift] [] (j8 true) []:=by
 have sa:=aU5;have s1:=b8H Z hZ;have c1:=a6r C hC;have c2:=a6r M hM;have c3:=a6r P hP;refine ac Tryz.func9 ?_;conv=>whnf
 repeat' (first|refine zx ?_|apply zD<;>intro<;>try omega)<;>conv=>whnf
 all_goals first|omega|(exfalso;contradiction)|exact g9 rfl
def a8d (t:j6) (find lift:Int):ec 9 [trS t,eI find,eI lift] [] (j8 true) []:=by
 have sa:=aU5;have sm:=b7Q t 7;cases hsm:a5e t 7 with
 |false=>
  rw [hsm] at sm;refine ac Tryz.func9 ?_;conv=>whnf
  repeat' (first|refine zx ?_|apply zD<;>intro h<;>try omega)<;>conv=>whnf
  all_goals first
   |omega
   |(exfalso;contradiction)
   |exact g9 rfl
 |true=>
 rw [hsm] at sm;obtain ⟨s1,s2,s3⟩:=a7k de hsm;have hb:a00 t find=false->X5 t find lift=false:=fun h=>by unfold X5;rw [h];rfl
 have z0:b87 ⟨0,[]⟩:=⟨zq,fun w hw=>by cases hw⟩;cases hf:a00 t find with
 |false=>
  exact a9o t find lift ⟨0,[]⟩ z0 1 1 [] [] [] zq zq zq sm (ae8 t s1 find lift (hb hf)) (a8A t s1 find lift (hb hf))
   (a3T (a79 t s1 find hf) (n9 rz)) (a3T (aj0 t s1 find hf) (n9 rz))
   (a3T (b00 t s1 find hf) (n9 rz)) (a3T (aN3 t s1 find hf) (n9 rz))
 |true=>
  obtain ⟨f,hF⟩:=b9Z de hsm hf;have hm8:=hF.q.m;have hp20:=hF.q.p;have lr:(D6 (R7 t f.kind f.mv.toNat)).length<=1000000:=by
   have:(R7 t f.kind f.mv.toNat).length<=t.ev.moves.length:=lbT (lbt _ _) (B1 _);rw [a03];omega
  have lm:(D6 (Q8 t f.kind f.mv.toNat)).length<=1000000:=by
   have:=a4l t f.kind f.mv.toNat (t.ev.moves.length+t.ev.places.length);rw [a03];show (H8 _ _ _ _).length<=_;omega
  have lp:(D6 (N6 t f.kind f.mv.toNat)).length<=1000000:=by
   have:=a61 t f.kind f.mv.toNat (t.ev.moves.length+t.ev.places.length);rw [a03];show (D2 _ _ _ _).length<=_;omega
  have o1:=a6S t s1 hF.q find f hF.f0 hF.hf;have o2:=b2H t s1 hF.q find f hF.f0 hF.hf;have l1:=al2 t s1 hF.q find f hF.f0 hF.hf;have l2:=b76 t s1 hF.q find f hF.f0 hF.hf;cases ha:X5 t find lift with
  |false=>exact a9o t find lift ⟨0,[]⟩ z0 1 0 _ _ _ lr lm lp sm (ae8 t s1 find lift ha) (a8A t s1 find lift ha) o1 o2 l1 l2
  |true=>
   have h2:=ha;unfold X5 at h2;rw [hf,H9] at h2;have h3:=(lbM h2).1;obtain ⟨i,rfl⟩:∃i:Nat,lift=i:=⟨lift.toNat,om⟩;have hB:=aQ8 (a0r (kind:=f.kind) i hF.q);exact a9o t find i (u4 t f.kind i) ⟨lbT hB.n0 de,hB.t⟩ 0 0 _ _ _ lr lm lp sm (b95 t s1 find f hF.hf i ha om) (a8k t s1 find f hF.hf i ha om) o1 o2 l1 l2
section
open Go.RowKit Go.ChangeShapes Go.WideShapes Go.Deep
section
variable {H:Type} {enc:TypeId × Value->H} {P:Program}
def ax8 (hl:laidOutB P=true) {W W':World} {sp:Nat->Bool}:∀{ts:List TypeId} {vs:List Value} {ds:List (DataW H)} {ps:List MemPlace},(∀ t ∈ ts,P.readableRec t=true∧t<P.types.size)->
 DataW.TrodAll enc P W 0 (fun _=>true) true ts vs ds ps->(∀ p ∈ ps,W.sameAt W' p)->(∀ p ∈ ps,sp p.block=true)->DataW.TrodAll enc P W' 0 sp true ts vs ds ps:=by
 intro ts;induction ts with
 |nil=>
  intro vs ds ps _ h _ _;obtain ⟨rfl,rfl,rfl⟩:=trodAll_nil h;exact trodAll_mk0
 |cons t ts ih=>
  intro vs ds ps hr h hsame hs;obtain ⟨v,vs',d,ds',p,q,rfl,rfl,rfl,h1,h2⟩:=trodAll_cons h;obtain ⟨ht,hlt⟩:=hr t zq;exact trodAll_cons_mk (WideElems.Trod_stays hl ht hlt h1 (fun x hx=>hsame x (by simp [hx])) (fun x hx=>hs x (by simp [hx]))) (ih (fun t ht=>hr t (by simp [ht])) h2 (fun x hx=>hsame x (by simp [hx])) (fun x hx=>hs x (by simp [hx])))
def b7U {f:Func} {s:ChangeSpec} {fresh handsOn:Bool} {W W':World} {args:Array Value} {ds gs:List (DataW H)} {before:List MemPlace} {tb:TypeId}
 (hW:DataW.Whole enc P f.params.toList s.vars false W args.toList ds gs before) (hl:laidOutB P=true) (hr:∀t ∈ f.params.toList,P.readableRec t=true∧t<P.types.size) (hv:s.vars=[])
 (hfn:s.fn H (ds++gs)={ results:=[.lit (.bool true)],args:=ds }) (hres:f.resultTypes=#[tb]) (hbool:P.underlying tb=some .bool) (hb:Below W.heap.size W W'):
 s.post enc P f false fresh handsOn false W args (.bool true) W':=by
 have hW':=hW;obtain ⟨p,q,hA,hV,rfl,hfz,hnd⟩:=hW;rw [hv] at hV;obtain ⟨rfl,rfl⟩:=trodVars_none hV;have hlt:∀x ∈ p,x.block<W.heap.size:=fun x hx=>by have:=hW'.lt x (by simpa using hx);simpa using this
 refine ⟨ds,[],p++[],[],p,[],hW',?_,?_,?_,hb.frame _,fun h=>by cases h⟩
 ·rw [hfn,hres];exact trodAll_mk1 (shut_bool hbool true)
 ·rw [hfn];exact ax8 hl hr hA (fun x hx=>hb.same (hlt x hx)) (fun x hx=>by simpa using hlt x hx)
 ·rw [hv,hfn];exact rfl
variable {w:World} {base:Nat} {spare:Nat->Bool} {held:Bool}
end
end
section
open Go.RowKit Go.ChangeShapes Go.WideShapes Go.Deep
section
variable {H:Type} {enc:TypeId × Value->H} {w:World} {base:Nat} {spare:Nat->Bool} {held:Bool}
end
def bd4:ownKnob Tryz.prog.godebug=none:=by kernel_rfl
def b61:laidOutB Tryz.prog=true:=by kernel_rfl
end
def b63 {w:World} {n:Int}:RS w (fun _=>none) (fun _=>False) (eI n) (.int .i64 n):=RS.int
inductive ay1 (w:World):List S->List Value->Prop
 |nil:ay1 w [] []
 |cons {s:S} {v:Value} {ss:List S} {vs:List Value} (h:RS w (fun _=>none) (fun _=>False) s v) (hs:ay1 w ss vs):ay1 w (s::ss) (v::vs)
def ay1.get {w:World} {ss:List S} {vs:List Value} (h:ay1 w ss vs):vs.length=ss.length∧∀(j:Nat) (s:S),ss[j]? =some s->RS w (fun _=>none) (fun _=>False) s (vs.getD j undef):=by
 induction h with
 |nil=>exact ⟨rfl,zq⟩
 |cons h hs ih=>
  refine ⟨by simp [ih.1],fun j s hj=>?_⟩;cases j with
  |zero=>simp at hj;subst hj;exact h
  |succ j=>simpa using ih.2 j s (by simpa using hj)
def aN0 {P:Program} {g:FuncId} {ss:List S} {b:Bool} (h:d6 P g ss [] (j8 b) []) {w:World} {vs:List Value} (ha:ay1 w ss vs):
 Calls P g vs.toArray w fun e w'=>e=.returned (.bool b)∧Below w.heap.size w w':=by
 obtain ⟨h1,h2⟩:=ha.get;refine Calls.mono (h.2 w (fun _=>none) (fun _=>False) vs h1 h2 ⟨zq,zq,zq,zq,zq⟩ (fun _ h=>h.elim) (fun _ _=>rfl)) ?_;rintro e w' ⟨v,rfl,ι',M',q1,q2,q3,q4,q5⟩;rw [q1.inv_atm];exact ⟨rfl,q5.os,q5.tape,q5.output,q5.size,fun k hk=>q5.keep k hk zA⟩
open Go.RowKit Go.ChangeShapes Go.WideShapes Go.ChangeAt
def b5u {P:Program} {f:FuncId} {fn:Func} {s:ChangeSpec} {c:OpenClaim}
 (h1:c.wf (OpenSpec.ofChange s)=true) (h2:laidOutB P=true) (h3:mapsRowed P=true) (h4:fn.params.all (P.readableRec ·)=true) (h5:namedTie P c.named s.vars=true)
 (h6:(c.stops == [])=true) (h7:(P.stops == [])=true) (h8:(c.knobs == [])=true) (h9:(P.stopKnobs == [])=true)
 (h10:(c.inPlace == P.inPlace f)=true) (h11:(c.unfollowed == P.unfollowed f)=true) (h12:(c.recurses == P.recurses f)=true) (h13:(c.named == P.varsNamed f)=true)
 (h14:(c.maps == (fn.params.toList++s.plain.varTypes P).any (P.mapsRec ·))=true) (h15:(c.ifaces == (fn.params.toList++s.plain.varTypes P).any (P.ifacesRec ·))=true) (h16:(c.mapsOut == P.mapsAmong fn.resultTypes.toList)=true)
 (h17:(c.loops == (fn.params.toList++s.plain.varTypes P).any (P.loopsFrom ·))=true) (h18:(c.wideKeys == (fn.params.toList++s.plain.varTypes P++fn.resultTypes.toList).any (P.wideKeysFrom ·))=true)
 (h19:s.vars.all (P.varReadable ·)=true) (h20:fn.resultTypes.all (fun t=>P.readableRec t && decide (t<P.types.size))=true) (h21:(c.ifacesOut == fn.resultTypes.toList.any (P.ifacesRec ·))=true) (h22:(c.loopsOut == fn.resultTypes.toList.any (P.loopsFrom ·))=true)
 (h23:(c.plainKeys == P.plainKeys)=true) (h24:c.shortTexts.isNone=true) (h25:P.stopsHeard=true) (h26:P.mayEnter=true) (h27:(c.lifted == P.liftsFinal)=true) (h28:(P.make == some c.make)=true)
 (h29:c.domain.isEmpty=true) (h29b:(c.kinds == [])=true) (h30:(c.pinned == c.pinnedBy)=true)
 (h31:(c.veiled == (fn.params.toList++s.plain.varTypes P++fn.resultTypes.toList).any (P.veiledRec ·))=true) (h32:c.veiledFits P fn.params.toList (fn.params.toList++s.plain.varTypes P++fn.resultTypes.toList)=true):
 joinedFacts P f fn s c=true:=by
 unfold joinedFacts;rw [h1,h2,h3,h4,h5,h6,h7,h8,h9,h10,h11,h12,h13,h14,h15,h16,h17,h18,h19,h20,h21,h22,h23,h24,h25,h26,h27,h28,if_pos h29,h29b,h30,h31,h32]
 rfl
def bg7:laidOutB Tryz.pinned.checked.prog=true:=by kernel_rfl
def b91:mapsRowed Tryz.pinned.checked.prog=true:=by kernel_rfl
def bh1:Tryz.pinned.checked.prog.plainKeys=true:=by kernel_rfl
def b7a:Tryz.pinned.checked.prog.stopsHeard=true:=by kernel_rfl
def b7B:Tryz.pinned.checked.prog.mayEnter=true:=by kernel_rfl
def ba1:(Rows.explainFewestRow.lifted == Tryz.pinned.checked.prog.liftsFinal)=true:=by kernel_rfl
def b9J:(Tryz.pinned.checked.prog.make == some Rows.explainFewestRow.make)=true:=by kernel_rfl
section
open Go.RowKit Go.ChangeShapes Go.WideShapes Go.Deep
inductive Sh where
 |int (k:IntKind)
 |bool
 |sl (row:List Sh)
inductive Fit:Sh->T->Prop
 |int {k:IntKind} {n:Int} (h:(Lit.int k n).wf=true):Fit (.int k) (.atm (.int k n))
 |bool {b:Bool}:Fit .bool (.atm (.bool b))
 |sl {row:List Sh} {rows:List (List T)} (hl:∀r ∈ rows,r.length=row.length) (h:∀r ∈ rows,∀(j:Nat) (s:Sh) (t:T),row[j]? =some s->r[j]? =some t->Fit s t):Fit (.sl row) (.sl row.length .any rows)
inductive K0 (P:Program):TypeId->List Sh->Prop
 |int {t:TypeId} {k:IntKind} (h:P.underlying t=some (.int k)):K0 P t [.int k]
 |bool {t:TypeId} (h:P.underlying t=some .bool):K0 P t [.bool]
 |sl {t e:TypeId} {row:List Sh} (h:P.underlying t=some (.slice e)) (hc:P.cellsOf e=row.length) (hp:0<row.length) (he:K0 P e row):K0 P t [.sl row]
 |struct {t:TypeId} {fs:Array Field} (parts:List (List Sh)) (h:P.underlying t=some (.struct fs)) (hl:parts.length=fs.size)
   (ho:∀(i:Nat) (f:Field) (p:List Sh),fs[i]? =some f->parts[i]? =some p->f.offset=(parts.take i).flatten.length∧P.cellsOf f.type=p.length)
   (hc:P.cellsOf t=parts.flatten.length)
   (he:∀(i:Nat) (f:Field) (p:List Sh),fs[i]? =some f->parts[i]? =some p->K0 P f.type p):K0 P t parts.flatten
section
variable {H:Type} {enc:TypeId × Value->H} {P:Program} {w:World} {base:Nat} {spare:Nat->Bool} {held:Bool}
def aO5 (w:World) (shs:List Sh) (cs:List Value):Prop:=
 cs.length=shs.length∧∃ts:List T,ts.length=shs.length∧∀(j:Nat) (s:Sh),shs[j]? =some s->∃u t,cs[j]? =some u∧ts[j]? =some t∧RT w (fun _=>False) t u∧Fit s t
def au3 {α:Type}:∀(parts:List (List α)) (j:Nat) (x:α),parts.flatten[j]? =some x->∃i p k,parts[i]? =some p∧p[k]? =some x∧j=(parts.take i).flatten.length+k
 |[],j,x,h=>by simp at h
 |p::r,j,x,h=>by
  rw [List.flatten_cons] at h;by_cases hj:j<p.length
  ·rw [lbb hj] at h;exact ⟨0,p,j,rfl,h,zq⟩
  ·rw [lbc om] at h;obtain ⟨i,q,k,h1,h2,h3⟩:=au3 r _ x h;exact ⟨i+1,q,k,by simpa using h1,h2,by rw [List.take_succ_cons,List.flatten_cons,lbq];omega⟩
def a2b {α:Type} {p:Nat->α->Prop}:∀(n:Nat),(∀ i,i<n->∃x,p i x)->∃xs:List α,xs.length=n∧∀i x,xs[i]? =some x->p i x
 |0,_=>⟨[],rfl,zq⟩
 |n+1,h=>by
  obtain ⟨xs,h1,h2⟩:=a2b n fun i hi=>h i om
  obtain ⟨x,hx⟩:=h n om;refine ⟨xs++[x],by simp [h1],fun i y hy=>?_⟩;by_cases hi:i<xs.length
  ·rw [lbb hi] at hy;exact h2 i y hy
  ·rw [lbc om] at hy;have:i=n:=by
    have:=(lbe.1 hy).1;simp at this;omega
   subst this;rw [h1] at hy;simp at hy;subst hy;exact hx
def b9U {t:TypeId} {shs:List Sh} (h:K0 P t shs):∀(n:Nat) (cs:List Value) (x:DataW H × List MemPlace),DataW.trod enc P w base spare held n t cs=some x->aO5 w shs cs:=by
 induction h with
 |int h=>
  intro n cs x hx;obtain ⟨a,rfl,_,hw⟩:=DataW.trod_int h hx;exact ⟨rfl,[.atm (.int _ a)],rfl,fun j s hj=>by
   match j,hj with
   |0,hj=>simp at hj;subst hj;exact ⟨_,_,rfl,rfl,.atm rfl,.int hw⟩⟩
 |bool h=>
  intro n cs x hx;obtain ⟨a,rfl,_⟩:=DataW.trod_bool h hx;exact ⟨rfl,[.atm (.bool a)],rfl,fun j s hj=>by
   match j,hj with
   |0,hj=>simp at hj;subst hj;exact ⟨_,_,rfl,rfl,.atm rfl,.bool⟩⟩
 |@sl t e row h hc hp he ih=>
  intro n cs x hx;have key:∀(rows:List (List T)) (u:Value),cs=[u]->RT w (fun _=>False) (.sl row.length .any rows) u->(∀ r ∈ rows,r.length=row.length)->(∀ r ∈ rows,∀(j:Nat) (s:Sh) (t:T),row[j]? =some s->r[j]? =some t->Fit s t)->aO5 w [.sl row] cs:=by
   rintro rows u rfl hu h1 h2;exact ⟨rfl,[.sl row.length .any rows],rfl,fun j s hj=>by
    match j,hj with
    |0,hj=>simp at hj;subst hj;exact ⟨_,_,rfl,rfl,hu,.sl h1 h2⟩⟩
  rcases open_slice h hx with ⟨h0,_⟩|⟨a,len,cap,m,n,D,Pl,hcs,hb,hl,hm,hmm,hx,hi⟩
  ·exact key [] _ h0 (.sl (b:=0) (off:=0) (fun _ _=>undef) zq zq (by unfold maxLen;omega) zi zi zq (by simp [at2]) (by simp [at2])) zq zq
  ·by_cases hz:len=0
   ·subst hz;exact key [] _ hcs (.sl (b:=0) (off:=0) (fun _ _=>undef) zq zq hm zi zi zq (by simp [at2]) (by simp [at2])) zq zq
   have hlm:len<=m:=by rw [hmm];split<;>omega
   have each:∀i,i<len->∃cs':List Value,(∀ j,j<row.length->w.cell? (a.add (i*row.length+j))=cs'[j]?)∧aO5 w row cs':=by
    intro i hil;obtain ⟨cs',hc',ht'⟩:=hi i om;rw [hc] at hc';obtain ⟨_,hcl,hat⟩:=World.cells?_some hc';exact ⟨cs',fun j hj=>by rw [← Go.Deep.add_add];exact hat j hj,ih n cs' _ ht'⟩
   obtain ⟨css,hcl,hcs2⟩:=a2b len each;obtain ⟨rows,hrl,hrows⟩:=a2b (α:=List T) (p:=fun i ts=>ts.length=row.length∧∀(j:Nat) (s:Sh),row[j]? =some s->∃u t,(css.getD i [])[j]? =some u∧ts[j]? =some t∧RT w (fun _=>False) t u∧Fit s t) len (fun i hi=>by
    have hg:css[i]? =some (css[i]' om):=lbf om;obtain ⟨_,_,ts,h1,h2⟩:=hcs2 i _ hg;refine ⟨ts,h1,?_⟩;rw [lbl,hg];exact h2)
   have hcell:∀i j,i<len->j<row.length->w.cell? (a.add (i*row.length+j))=some ((css.getD i []).getD j undef):=by
    intro i j hi hj;have hg:css[i]? =some (css[i]' om):=lbf om;obtain ⟨h1,h2,_⟩:=hcs2 i _ hg;rw [h1 j hj];have hgd:css.getD i []=css[i]' om:=by rw [lbl,hg];rfl
    rw [hgd,lbl,lbf om];rfl
   have hspot:a.spot=none:=by
    have:=World.cell?_spot (hcell 0 0 om hp);simpa [Addr.add] using this
   obtain ⟨b,off,sp⟩:=a;simp only at hspot;subst hspot;have hadd:∀k,(⟨b,off,none⟩:Addr).add k=⟨b,off+k,none⟩:=by
    intro k;unfold Addr.add;split
    ·subst_vars;rfl
    ·rfl
   have hat:∀i j c,at2 rows i j=some c->i<len∧j<row.length∧∃r s,rows[i]? =some r∧r[j]? =some c∧row[j]? =some s:=by
    intro i j c hc;obtain ⟨r,q1,q2⟩:=G5 hc;have hil:i<len:=by rw [← hrl];exact (lbe.1 q1).1
    have hjl:j<row.length:=by rw [← (hrows i r q1).1];exact (lbe.1 q2).1
    exact ⟨hil,hjl,r,_,q1,q2,lbf hjl⟩
   refine key rows (.slice (some ⟨b,off,none⟩) len cap) hcs ?_ ?_ ?_
   ·rw [← hrl];refine .sl (b:=b) (off:=off) (fun i j=>(css.getD i []).getD j undef) ?_ om hm zi zi (fun _=>rfl) ?_ ?_
    ·intro r hr;obtain ⟨i,hi⟩:=az9.1 hr;exact (hrows i r hi).1
    ·intro i j c hc;obtain ⟨hil,hjl,_⟩:=hat i j c hc;have:=hcell i j hil hjl;rw [hadd] at this;exact ⟨this,fun h=>h⟩
    ·intro i j c hc;obtain ⟨hil,hjl,r,s,q1,q2,q3⟩:=hat i j c hc;obtain ⟨u,t,h1,h2,h3,h4⟩:=(hrows i r q1).2 j s q3;rw [q2] at h2;injection h2 with h2;subst h2;rw [lbl (l:=css.getD i []),h1];exact h3
   ·intro r hr;obtain ⟨i,hi⟩:=az9.1 hr;exact (hrows i r hi).1
   ·intro r hr j s t hs ht;obtain ⟨i,hi⟩:=az9.1 hr;obtain ⟨u,t',h1,h2,h3,h4⟩:=(hrows i r hi).2 j s hs;rw [ht] at h2;injection h2 with h2;subst h2;exact h4
 |@struct t fs parts h hl ho hc he ih=>
  intro n cs x hx;obtain ⟨xs,n',hn',hy,hlen,hyl,hf⟩:=DataW.trod_struct h hx;have hlen':cs.length=parts.flatten.length:=by rw [hlen,hc]
  have each:∀j,j<parts.flatten.length->∃t,∀s,parts.flatten[j]? =some s->∃u,cs[j]? =some u∧RT w (fun _=>False) t u∧Fit s t:=by
   intro j hj;obtain ⟨i,p,k,q1,q2,q3⟩:=au3 parts j _ (lbf hj);have hi:i<fs.size:=by rw [← hl];exact (lbe.1 q1).1
   have hfi:fs[i]? =some fs[i]:=Array.getElem?_eq_getElem hi;obtain ⟨o1,o2⟩:=ho i _ p hfi q1;have h1:=hf i _ hfi;have hxi:xs[i]? =some (xs[i]' om):=lbf om;obtain ⟨r1,ts,r2,r3⟩:=ih i _ p hfi q1 n' _ _ (h1.trans hxi);obtain ⟨u,t,e1,e2,e3,e4⟩:=r3 k _ q2;refine ⟨t,fun s hs=>⟨u,?_,e3,?_⟩⟩
   ·have hk:k<p.length:=(lbe.1 q2).1;rw [lbi,o2,if_pos hk,lbj,o1,←q3] at e1;exact e1
   ·rw [lbf hj] at hs;injection hs with hs;rw [← hs];exact e4
  obtain ⟨ts,t1,t2⟩:=a2b parts.flatten.length each;refine ⟨hlen',ts,t1,fun j s hj=>?_⟩;have hjl:=(lbe.1 hj).1;have htj:ts[j]? =some (ts[j]' om):=lbf om;obtain ⟨u,h1,h2,h3⟩:=t2 j _ htj s hj;exact ⟨u,_,h1,htj,h2,h3⟩
end
def Fit.int_inv {k:IntKind} {t:T} (h:Fit (.int k) t):∃n,t=.atm (.int k n)∧(Lit.int k n).wf=true:=by cases h with|int h=>exact ⟨_,rfl,h⟩
def Fit.bool_inv {t:T} (h:Fit .bool t):∃b,t=.atm (.bool b):=by cases h with|bool=>exact ⟨_,rfl⟩
def aX0 {α:Type} {f:α->List T} {p:α->Prop}:∀{rows:List (List T)},(∀ r ∈ rows,∃x,r=f x∧p x)->∃xs:List α,rows=xs.map f∧∀x ∈ xs,p x
 |[],_=>⟨[],rfl,zq⟩
 |r::rs,h=>by
  obtain ⟨x,rfl,hx⟩:=h r zq;obtain ⟨xs,rfl,hxs⟩:=aX0 (rows:=rs) (f:=f) (p:=p) fun r hr=>h r (a20 _ hr)
  exact ⟨x::xs,rfl,fun y hy=>by rcases lbB.1 hy with rfl|hy;exact hx;exact hxs y hy⟩
def Fit.sl_inv {α:Type} (f:α->List T) (p:α->Prop) {row:List Sh} {t:T} (h:Fit (.sl row) t)
 (hrow:∀r:List T,r.length=row.length->(∀ (j:Nat) (s:Sh) (t:T),row[j]? =some s->r[j]? =some t->Fit s t)->∃x,r=f x∧p x):
 ∃xs:List α,t=.sl row.length .any (xs.map f)∧∀x ∈ xs,p x:=by
 cases h with
 |sl hl h=>
  obtain ⟨xs,rfl,hx⟩:=aX0 (f:=f) (p:=p) (fun r hr=>hrow r (hl r hr) (h r hr));exact ⟨xs,rfl,hx⟩
end
section
open Go.RowKit Go.ChangeShapes Go.WideShapes Go.Deep
abbrev k5:Sh:=.int .i64
def C3:K0 Tryz.prog 3 [k5]:=.int Tryz.underlying3
def aV3 {P:Program} {t:TypeId} {fs:Array Field} {p0 p1:List Sh} (h:P.underlying t=some (.struct fs)) (hl:fs.size=2)
 (h0:∃f,fs[0]? =some f∧f.offset=0∧P.cellsOf f.type=p0.length∧K0 P f.type p0) (h1:∃f,fs[1]? =some f∧f.offset=p0.length∧P.cellsOf f.type=p1.length∧K0 P f.type p1)
 (hc:P.cellsOf t=p0.length+p1.length):K0 P t (p0++p1):=by
 obtain ⟨f0,a1,a2,a3,a4⟩:=h0;obtain ⟨f1,b1,b2,b3,b4⟩:=h1;have:=K0.struct (P:=P) (t:=t) (fs:=fs) [p0,p1] h (by simp [hl]) (fun i f p hf hp=>by
  match i,hp with
  |0,hp=>simp at hp;subst hp;rw [a1] at hf;injection hf with hf;subst hf;exact ⟨by simp [a2],a3⟩
  |1,hp=>simp at hp;subst hp;rw [b1] at hf;injection hf with hf;subst hf;exact ⟨by simp [b2],b3⟩
  |n+2,hp=>simp at hp) (by simp [hc]) (fun i f p hf hp=>by
  match i,hp with
  |0,hp=>simp at hp;subst hp;rw [a1] at hf;injection hf with hf;subst hf;exact a4
  |1,hp=>simp at hp;subst hp;rw [b1] at hf;injection hf with hf;subst hf;exact b4
  |n+2,hp=>simp at hp)
 simpa using this
def b1N:K0 Tryz.prog 264 [k5,k5]:=
 aV3 (p0:=[k5]) (p1:=[k5]) Tryz.underlying264 zr ⟨_,rfl,rfl,zr,C3⟩ ⟨_,rfl,rfl,zr,C3⟩ zr
section
variable {H:Type} {enc:TypeId × Value->H} {w:World} {base:Nat} {spare:Nat->Bool} {held:Bool}
def b5S {shs:List Sh} {l:List Value} (h:aO5 w shs l):∃ts:List T,ts.length=shs.length∧(∀ (j:Nat) (s:Sh) (t:T),shs[j]? =some s->ts[j]? =some t->Fit s t)∧RS w (fun _=>none) (fun _=>False) (.agg (ts.map C.t)) (.agg ⟨l⟩):=by
 obtain ⟨h0,ts,h1,h2⟩:=h;refine ⟨ts,h1,fun j s t hs ht=>?_,?_⟩
 ·obtain ⟨u,t',e1,e2,e3,e4⟩:=h2 j s hs;rw [ht] at e2;injection e2 with e2;subst e2;exact e4
 ·refine .agg l (by simp [h0,h1]) fun j c hc=>?_
  rw [lba] at hc;obtain ⟨t,ht,rfl⟩:=am8.1 hc;have hj:j<shs.length:=by rw [← h1];exact (lbe.1 ht).1
  obtain ⟨u,t',e1,e2,e3,e4⟩:=h2 j _ (lbf hj);rw [ht] at e2;injection e2 with e2;subst e2
  rw [lbl,e1];exact .t e3
end
end
section
open Go.RowKit Go.ChangeShapes Go.WideShapes Go.Deep
def aZ0 (P:Program):List Field->List (List Sh)->Nat->Prop
 |[],[],_=>True
 |f::fs,p::ps,o=>(f.offset=o∧P.cellsOf f.type=p.length∧K0 P f.type p)∧aZ0 P fs ps (o+p.length)
 |_,_,_=>False
def aZ0.get {P:Program}:∀{fs:List Field} {ps:List (List Sh)} {o:Nat},aZ0 P fs ps o->ps.length=fs.length∧∀(i:Nat) (f:Field) (p:List Sh),fs[i]? =some f->ps[i]? =some p->f.offset=o+(ps.take i).flatten.length∧P.cellsOf f.type=p.length∧K0 P f.type p
 |[],[],o,_=>⟨rfl,zq⟩
 |f::fs,p::ps,o,h=>by
  obtain ⟨⟨h1,h2,h3⟩,h4⟩:=h;obtain ⟨l,g⟩:=aZ0.get h4;refine ⟨by simp [l],fun i f' p' hf hp=>?_⟩;cases i with
  |zero=>simp at hf hp;subst hf hp;exact ⟨by simp [h1],h2,h3⟩
  |succ i=>
   obtain ⟨g1,g2,g3⟩:=g i f' p' (by simpa using hf) (by simpa using hp);exact ⟨by rw [g1];simp;omega,g2,g3⟩
 |[],_::_,_,h=>h.elim
 |_::_,[],_,h=>h.elim
def W8 {P:Program} {t:TypeId} {fs:Array Field} (parts:List (List Sh)) (h:P.underlying t=some (.struct fs)) (hf:aZ0 P fs.toList parts 0) (hc:P.cellsOf t=parts.flatten.length):K0 P t parts.flatten:=by
 obtain ⟨l,g⟩:=hf.get;refine K0.struct parts h (by simpa using l) (fun i f p hi hp=>?_) hc (fun i f p hi hp=>?_)
 ·obtain ⟨g1,g2,g3⟩:=g i f p (by simpa using hi) hp;exact ⟨by rw [g1];simp,g2⟩
 ·exact (g i f p (by simpa using hi) hp).2.2
def b7L:K0 Tryz.prog 4 [.bool]:=.bool Tryz.underlying4
def b4s:K0 Tryz.prog 160 [k5,k5,k5]:=
 W8 [[k5],[k5],[k5]] Tryz.underlying160 ⟨⟨zr,zr,C3⟩,⟨zr,zr,C3⟩,⟨zr,zr,C3⟩,trivial⟩ zr
def b5T:K0 Tryz.prog 149 [k5,k5,k5,k5,k5,.bool]:=
 W8 [[k5],[k5],[k5],[k5],[k5],[.bool]] Tryz.underlying149 ⟨⟨zr,zr,C3⟩,⟨zr,zr,C3⟩,⟨zr,zr,C3⟩,⟨zr,zr,C3⟩,⟨zr,zr,C3⟩,⟨zr,zr,b7L⟩,trivial⟩ zr
def b7Y:K0 Tryz.prog 255 [k5,k5,k5,k5,k5,k5]:=
 W8 [[k5],[k5],[k5],[k5],[k5],[k5]] Tryz.underlying255 ⟨⟨zr,zr,C3⟩,⟨zr,zr,C3⟩,⟨zr,zr,C3⟩,⟨zr,zr,C3⟩,⟨zr,zr,C3⟩,⟨zr,zr,C3⟩,trivial⟩ zr
def b1l:K0 Tryz.prog 266 [k5,k5,k5,k5]:=
 W8 [[k5],[k5],[k5],[k5]] Tryz.underlying266 ⟨⟨zr,zr,C3⟩,⟨zr,zr,C3⟩,⟨zr,zr,C3⟩,⟨zr,zr,C3⟩,trivial⟩ zr
def b6B:K0 Tryz.prog 43 [k5,k5,k5]:=
 W8 [[k5],[k5],[k5]] Tryz.underlying43 ⟨⟨zr,zr,C3⟩,⟨zr,zr,C3⟩,⟨zr,zr,C3⟩,trivial⟩ zr
def b4F:K0 Tryz.prog 45 [k5,k5]:=
 W8 [[k5],[k5]] Tryz.underlying45 ⟨⟨zr,zr,C3⟩,⟨zr,zr,C3⟩,trivial⟩ zr
def b2t:K0 Tryz.prog 22 [.sl [k5,k5,k5]]:=.sl Tryz.underlying22 zr de b4s
def b5c:K0 Tryz.prog 23 [.sl [k5,k5,k5,k5,k5,.bool]]:=.sl Tryz.underlying23 zr de b5T
def b53:K0 Tryz.prog 24 [.sl [k5,k5,k5,k5,k5,k5]]:=.sl Tryz.underlying24 zr de b7Y
def aT9:K0 Tryz.prog 25 [.sl [k5,k5]]:=.sl Tryz.underlying25 zr de b1N
def aH7:K0 Tryz.prog 26 [.sl [k5,k5,k5,k5]]:=.sl Tryz.underlying26 zr de b1l
def b5v:K0 Tryz.prog 29 [.sl [k5,k5,k5]]:=.sl Tryz.underlying29 zr de b6B
def b1v:K0 Tryz.prog 30 [.sl [k5,k5]]:=.sl Tryz.underlying30 zr de b4F
abbrev bx0:List Sh:=[k5,k5,k5,.sl [k5,k5,k5],.sl [k5,k5,k5,k5,k5,.bool],.sl [k5,k5,k5,k5,k5,k5],.sl [k5,k5],.sl [k5,k5,k5,k5]]
def bu6:K0 Tryz.prog 28 bx0:=
 W8 [[k5],[k5],[k5],[.sl [k5,k5,k5]],[.sl [k5,k5,k5,k5,k5,.bool]],[.sl [k5,k5,k5,k5,k5,k5]],[.sl [k5,k5]],[.sl [k5,k5,k5,k5]]] Tryz.underlying28
  ⟨⟨zr,zr,C3⟩,⟨zr,zr,C3⟩,⟨zr,zr,C3⟩,⟨zr,zr,b2t⟩,⟨zr,zr,b5c⟩,⟨zr,zr,b53⟩,⟨zr,zr,aT9⟩,⟨zr,zr,aH7⟩,trivial⟩ zr
abbrev bG3:List Sh:=bx0++[.sl [k5,k5,k5],.sl [k5,k5]]
def bn5:K0 Tryz.prog 32 bG3:=
 W8 [bx0,[.sl [k5,k5,k5]],[.sl [k5,k5]]] Tryz.underlying32
  ⟨⟨zr,zr,bu6⟩,⟨zr,zr,b5v⟩,⟨zr,zr,b1v⟩,trivial⟩ zr
def H3 {t:T} (h:Fit k5 t):∃n,t=ti n:=by obtain ⟨n,h,_⟩:=h.int_inv;exact ⟨n,h⟩
section
variable {α:Type} {t:T}
def b1p (h:Fit (.sl [k5,k5,k5]) t):∃l:List K8,t=a2a l:=by
 obtain ⟨xs,rfl,_⟩:=h.sl_inv K8.row (fun _=>True) (fun r hl hr=>by
  match r,hl with
  |[a,b,c],_=>
   obtain ⟨a,rfl⟩:=H3 (hr 0 _ _ rfl rfl)
   obtain ⟨b,rfl⟩:=H3 (hr 1 _ _ rfl rfl)
   obtain ⟨c,rfl⟩:=H3 (hr 2 _ _ rfl rfl)
   exact ⟨⟨a,b,c⟩,rfl,trivial⟩)
 exact ⟨xs,rfl⟩
def b59 (h:Fit (.sl [k5,k5,k5]) t):∃l:List P5,t=aq9 l:=by
 obtain ⟨xs,rfl,_⟩:=h.sl_inv P5.row (fun _=>True) (fun r hl hr=>by
  match r,hl with
  |[a,b,c],_=>
   obtain ⟨a,rfl⟩:=H3 (hr 0 _ _ rfl rfl)
   obtain ⟨b,rfl⟩:=H3 (hr 1 _ _ rfl rfl)
   obtain ⟨c,rfl⟩:=H3 (hr 2 _ _ rfl rfl)
   exact ⟨⟨a,b,c⟩,rfl,trivial⟩)
 exact ⟨xs,rfl⟩
def b1d (h:Fit (.sl [k5,k5]) t):∃l:List Y8,t=a3j l:=by
 obtain ⟨xs,rfl,_⟩:=h.sl_inv Y8.row (fun _=>True) (fun r hl hr=>by
  match r,hl with
  |[a,b],_=>
   obtain ⟨a,rfl⟩:=H3 (hr 0 _ _ rfl rfl)
   obtain ⟨b,rfl⟩:=H3 (hr 1 _ _ rfl rfl)
   exact ⟨⟨a,b⟩,rfl,trivial⟩)
 exact ⟨xs,rfl⟩
def b0e (h:Fit (.sl [k5,k5]) t):∃l:List F6,t=L7 l:=by
 obtain ⟨xs,rfl,_⟩:=h.sl_inv F6.row (fun _=>True) (fun r hl hr=>by
  match r,hl with
  |[a,b],_=>
   obtain ⟨a,rfl⟩:=H3 (hr 0 _ _ rfl rfl)
   obtain ⟨b,rfl⟩:=H3 (hr 1 _ _ rfl rfl)
   exact ⟨⟨a,b⟩,rfl,trivial⟩)
 exact ⟨xs,rfl⟩
def aP8 (h:Fit (.sl [k5,k5,k5,k5]) t):∃l:List a21,t=a1l l:=by
 obtain ⟨xs,rfl,_⟩:=h.sl_inv a21.row (fun _=>True) (fun r hl hr=>by
  match r,hl with
  |[a,b,c,d],_=>
   obtain ⟨a,rfl⟩:=H3 (hr 0 _ _ rfl rfl)
   obtain ⟨b,rfl⟩:=H3 (hr 1 _ _ rfl rfl)
   obtain ⟨c,rfl⟩:=H3 (hr 2 _ _ rfl rfl)
   obtain ⟨d,rfl⟩:=H3 (hr 3 _ _ rfl rfl)
   exact ⟨⟨a,b,c,d⟩,rfl,trivial⟩)
 exact ⟨xs,rfl⟩
def b52 (h:Fit (.sl [k5,k5,k5,k5,k5,k5]) t):∃l:List M9,t=a0O l:=by
 obtain ⟨xs,rfl,_⟩:=h.sl_inv M9.row (fun _=>True) (fun r hl hr=>by
  match r,hl with
  |[a,b,c,d,e,f],_=>
   obtain ⟨a,rfl⟩:=H3 (hr 0 _ _ rfl rfl)
   obtain ⟨b,rfl⟩:=H3 (hr 1 _ _ rfl rfl)
   obtain ⟨c,rfl⟩:=H3 (hr 2 _ _ rfl rfl)
   obtain ⟨d,rfl⟩:=H3 (hr 3 _ _ rfl rfl)
   obtain ⟨e,rfl⟩:=H3 (hr 4 _ _ rfl rfl)
   obtain ⟨f,rfl⟩:=H3 (hr 5 _ _ rfl rfl)
   exact ⟨⟨a,b,c,d,e,f⟩,rfl,trivial⟩)
 exact ⟨xs,rfl⟩
def b50 (h:Fit (.sl [k5,k5,k5,k5,k5,.bool]) t):∃l:List A8,t=a2M l:=by
 obtain ⟨xs,rfl,_⟩:=h.sl_inv A8.row (fun _=>True) (fun r hl hr=>by
  match r,hl with
  |[a,b,c,d,e,f],_=>
   obtain ⟨a,rfl⟩:=H3 (hr 0 _ _ rfl rfl)
   obtain ⟨b,rfl⟩:=H3 (hr 1 _ _ rfl rfl)
   obtain ⟨c,rfl⟩:=H3 (hr 2 _ _ rfl rfl)
   obtain ⟨d,rfl⟩:=H3 (hr 3 _ _ rfl rfl)
   obtain ⟨e,rfl⟩:=H3 (hr 4 _ _ rfl rfl)
   obtain ⟨f,rfl⟩:=(hr 5 _ _ rfl rfl).bool_inv
   exact ⟨⟨a,b,c,d,e,f⟩,rfl,trivial⟩)
 exact ⟨xs,rfl⟩
end
section
variable {H:Type} {enc:TypeId × Value->H} {w:World} {base:Nat} {spare:Nat->Bool} {held:Bool}
def open_trace {v:Value} {d:DataW H} {p:List MemPlace} {r:Reach} {b0:Nat} (hv:Value.okWide Tryz.prog w r b0 32 v) (h:DataW.Trod enc Tryz.prog w base spare held 32 v d p):∃t:j6,RS w (fun _=>none) (fun _=>False) (trS t) v:=by
 obtain ⟨⟨l⟩,rfl,_⟩:=okWide_struct Tryz.underlying32 hv;obtain ⟨fuel,hf⟩:=h;obtain ⟨ts,h1,h2,h3⟩:=b5S (b9U bn5 fuel _ _ hf)
 match ts,h1 with
 |[a,b,c,d,e,f,g,h,i,j],_=>
  obtain ⟨a,rfl⟩:=H3 (h2 0 _ _ rfl rfl);obtain ⟨b,rfl⟩:=H3 (h2 1 _ _ rfl rfl);obtain ⟨c,rfl⟩:=H3 (h2 2 _ _ rfl rfl);obtain ⟨d,rfl⟩:=b1p (h2 3 _ _ rfl rfl);obtain ⟨e,rfl⟩:=b50 (h2 4 _ _ rfl rfl);obtain ⟨f,rfl⟩:=b52 (h2 5 _ _ rfl rfl);obtain ⟨g,rfl⟩:=b0e (h2 6 _ _ rfl rfl);obtain ⟨h,rfl⟩:=aP8 (h2 7 _ _ rfl rfl);obtain ⟨i,rfl⟩:=b59 (h2 8 _ _ rfl rfl);obtain ⟨j,rfl⟩:=b1d (h2 9 _ _ rfl rfl);exact ⟨⟨⟨a,b,c,d,e,f,g,h⟩,i,j⟩,h3⟩
end
end
section
open Go.RowKit Go.ChangeShapes Go.WideShapes Go.ChangeAt
set_option maxRecDepth 100000 in
def a4p (os:Os) (started:os.Started) (H:Type) (enc:TypeId × Value->H):
 ReturnsInHanded {} Tryz.checked os 9 .any (Rows.quarantineTellsSpec.pre6 enc Tryz.prog Tryz.f9 Rows.quarantineTellsRow.domain false) (Rows.quarantineTellsSpec.post enc Tryz.prog Tryz.f9 false true false false):=by
 refine returnsInHanded_of_change (C:=Tryz.checked) bd4 started zr Tryz.func9
  (ChangeSpec.witness6 (enc:=enc) (C:=Tryz.checked) false ⟨#[],#[.agg #[.int .i64 0,.int .i64 0,.int .i64 0,.slice none 0 0,.slice none 0 0,.slice none 0 0,.slice none 0 0,.slice none 0 0,.slice none 0 0,.slice none 0 0],.int .i64 0,.int .i64 0],[]⟩ 12 zr zr zr zr) ?_
 intro W base args ds gs before hval0 hW hcnd _;have hval:∀(j:Nat) t v,Tryz.f9.params[j]? =some t->args[j]? =some v->Value.okWide Tryz.prog W .any base t v:=hval0;have hW':=hW;obtain ⟨p,q,hA0,hV,rfl,hfz,hnd⟩:=hW;have hA:DataW.TrodAll enc Tryz.prog W 0 (fun _=>true) true Tryz.f9.params.toList args.toList ds p:=hA0;rw [Tryz.params9] at hA hval;obtain ⟨v0,vs0,d0,ds0,p0,q0,hargs,rfl,rfl,h0,r0⟩:=trodAll_cons hA;obtain ⟨v1,vs1,d1,ds1,p1,q1,rfl,rfl,rfl,h1,r1⟩:=trodAll_cons r0;obtain ⟨v2,vs2,d2,ds2,p2,q2,rfl,rfl,rfl,h2,r2⟩:=trodAll_cons r1;obtain ⟨rfl,rfl,rfl⟩:=trodAll_nil r2;obtain rfl:args=#[v0,v1,v2]:=by cases args;simp_all
 obtain ⟨rfl,rfl⟩:=trodVars_none hV;obtain ⟨a0,t0⟩:=Go.Proofs.YtikokmdpigploaaGreat.open_trace (hval 0 32 v0 rfl rfl) h0;obtain ⟨a1,rfl,rfl,rfl,w1⟩:=open_int Tryz.underlying3 (hval 1 3 v1 rfl rfl) h1;obtain ⟨a2,rfl,rfl,rfl,w2⟩:=open_int Tryz.underlying3 (hval 2 3 v2 rfl rfl) h2;refine (aN0 (a8d a0 a1 a2) (.cons (t0) (.cons (b63) (.cons (b63) (.nil))))).mono fun ee W' ⟨he,hg⟩=>?_
 subst he;exact ⟨_,rfl,b7U hW' b61 (by rw [Tryz.params9];intro t ht;simp at ht;first|(rcases ht with rfl|rfl|rfl<;>exact ⟨zr,lbM zr⟩)|(rcases ht with rfl|rfl<;>exact ⟨zr,lbM zr⟩)) rfl rfl zr Tryz.underlying4 hg⟩
def a5y:(Rows.quarantineTellsRow.inPlace == Tryz.pinned.checked.prog.inPlace 9)=true:=by kernel_rfl
def a72:(Rows.quarantineTellsRow.unfollowed == Tryz.pinned.checked.prog.unfollowed 9)=true:=by kernel_rfl
def a74:(Rows.quarantineTellsRow.recurses == Tryz.pinned.checked.prog.recurses 9)=true:=by kernel_rfl
def a5z:(Rows.quarantineTellsRow.named == Tryz.pinned.checked.prog.varsNamed 9)=true:=by kernel_rfl
def a5x:(Rows.quarantineTellsRow.loops == (Tryz.f9.params.toList++Rows.quarantineTellsSpec.plain.varTypes Tryz.pinned.checked.prog).any (Tryz.pinned.checked.prog.loopsFrom ·))=true:=by kernel_rfl
set_option maxRecDepth 100000 in
def a4A:joinedFacts Tryz.pinned.checked.prog 9 Tryz.f9 (Rows.quarantineTellsSpec) Rows.quarantineTellsRow=true:=b5u zr bg7 b91 zr zr zr zr zr zr a5y a72 a74 a5z zr zr zr a5x zr zr zr zr zr bh1 zr b7a b7B ba1 b9J zr zr zr zr zr
theorem quarantineTells_holds:Rows.QuarantineTellsSaid:=
 OpenClaim.holds_of_wide 9 Tryz.f9 rfl rfl rfl rfl rfl rfl rfl rz rfl rfl rfl rfl rfl zr Tryz.func9 a4A
  (lbM zr) (by unfold Func.isWrapper;first|(rw [if_pos zk];kernel_rfl)|(rw [if_neg zk];exact rz))
  (fun os started H enc _=>a4p os started H enc)
end
end Go.Proofs.YtikokmdpigploaaGreat
