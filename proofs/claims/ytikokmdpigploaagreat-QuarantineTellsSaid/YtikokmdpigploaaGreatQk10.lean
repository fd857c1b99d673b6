/- Part 10. -/
import Derived.Test.YtikokmdpigploaaGreatQk9
namespace Go.Proofs.YtikokmdpigploaaGreat
set_option linter.all false
set_option maxRecDepth 100000
set_option maxHeartbeats 8000000
open Go.RowKit
open St1 St2 St3 St4 St5 St6 St7 St8 StA StB StC
def a2Q {H:Hp} {N n:Nat} (hN:H.length=N) (hn:n<=1000):a02 Tryz.prog 289 [eI n] H (.c (.own N 0 n true)) [flB (rF n fun _=>0)]:=by subst hN;exact b4Q H n hn
abbrev pB (n k l i f:Nat):Blk:={ mode:=.live,elem:=285,size:=6,rows:=[[C.t (ti n),.own l 0 k true,.own 2 0 n true,.own i 0 k true,.t (.sl 0 .nil []),.own f 0 k true]],box:=true }
abbrev ak2 (t:TypeId) (s:Nat):Blk:=⟨.dead,t,s,[],false,false⟩
abbrev a7x (n k:Nat) (V G:Nat->Rat) (O:Nat->Nat) (fr:LB) (A:Nat->Nat->Rat) (X:Hp):Hp:=
 pB n k 1 3 4::a1x 5 k n V::flB (rF n G)::R3 k O::a2o fr::((mF k n A).map flB++X)
abbrev lnX (k n:Nat) (v:Rat):Blk:={ mode:=.live,elem:=288,size:=5,rows:=[frC (fz v)++[C.own (k+6) 0 n true]],box:=true }
abbrev b4f (n k:Nat) (v:Rat) (a V G:Nat->Rat) (O:Nat->Nat) (fr:LB) (f:Nat × Bool) (A:Nat->Nat->Rat) (bx:Blk):Hp:=
 pB n (k+1) (k+8) (k+7) (k+9)::ak2 288 5::flB (rF n G)::ak2 3 1::ak2 306 2::((mF k n A).map flB++
  [bx,flB (rF n a),R3 (k+1) O,{ mode:=.live,elem:=288,size:=5,rows:=W6 5 k n V++[frC (fz v)++[C.own (k+6) 0 n true]],box:=false },a2o (fr++[f])])
def aQ1 {k n N:Nat} {v:Rat} (h:k+6<N):okB N (lnX k n v):=by
 intro r hr c hc;simp at hr;subst hr;simp [frC] at hc;rcases hc with rfl|rfl|rfl|rfl|rfl<;>first|trivial|exact h
def bA8 {n k N l i f:Nat} (h1:l<N) (h2:i<N) (h3:f<N) (h4:2<N):okB N (pB n k l i f):=by
 intro r hr c hc;simp at hr;subst hr;simp at hc;rcases hc with rfl|rfl|rfl|rfl|rfl|rfl<;>first|trivial|assumption
def b0A {n k:Nat} {V G:Nat->Rat} {O:Nat->Nat} {fr:LB} {A:Nat->Nat->Rat} {X:Hp}:(a7x n k V G O fr A X).length=k+5+X.length:=by simp [f6];omega
def b9V {n k N:Nat} {V G:Nat->Rat} {O:Nat->Nat} {fr:LB} {A:Nat->Nat->Rat} {X:Hp} (h:k+5<=N) (hX:∀b ∈ X,okB N b):∀b ∈ a7x n k V G O fr A X,okB N b:=by
 intro b hb;simp only [lbB,lbA] at hb;rcases hb with rfl|rfl|rfl|rfl|rfl|hb|hb
 ·exact bA8 om om om om
 ·exact ar5 h
 ·exact t7 rfl
 ·exact t7 rfl
 ·exact t7 rfl
 ·obtain ⟨l,_,rfl⟩:=lby.1 hb;exact t7 rfl
 ·exact hX b hb
def b6R {n k:Nat} {V G:Nat->Rat} {O:Nat->Nat} {fr:LB} {A:Nat->Nat->Rat} {X X':Hp}:a7x n k V G O fr A (X++X')=a7x n k V G O fr A X++X':=by
 show _::_::_::_::_::(_++(X++X'))=_::_::_::_::_::((_++X)++X');rw [lbE]
def a0Y {n0 N n k:Nat} {V G:Nat->Rat} {O:Nat->Nat} {fr:LB} {A:Nat->Nat->Rat} {X X' H:Hp} {env env':Env} (hH:H=a7x n k V G O fr A (X++X')) (hN:k+5+X.length=N) (h0:n0<=N) (hX:∀b ∈ X,okB N b)
 (hE:Z1 (idR N) H env env'):Ent n0 (idR N) env H env' (a7x n k V G O fr A X):=by
 refine a6E (by rw [b0A];exact hN) h0 (b9V om hX) (fun i hi=>?_) hE;rw [hH,b6R,lbb (by rw [b0A];omega)]
def a2V {b0 b1 b2 b3 b4 c0 c1 c2 c3 c4:Blk} {L L':Hp} (h0:b0=c0) (h1:b1=c1) (h2:b2=c2) (h3:b3=c3) (h4:b4=c4) (h6:L=L'):b0::b1::b2::b3::b4::L=c0::c1::c2::c3::c4::L':=by
 subst h0 h1 h2 h3 h4 h6;rfl
def fR (N:Nat) (f:Nat->Nat):List (Option Nat):=(List.range N).map fun i=>some (f i)
def x3 {N i:Nat} {f:Nat->Nat} (h:i<N):(fR N f)[i]? =some (some (f i)):=by simp [fR,h]
def bu7 (N:Nat) (f:Nat->Nat):(fR N f).length=N:=by simp [fR]
def b64 {N i j:Nat} {f:Nat->Nat} (h:(fR N f)[i]? =some (some j)):i<N∧f i=j:=by
 obtain ⟨h1,h2⟩:=lbe.1 h;simp [fR] at h1 h2;exact ⟨h1,h2⟩
def as6 {ρ:List (Option Nat)}:∀{m:Nat},(∀ i:Nat,i<m->ρ[i]? =some (some i))->a2L ρ m=true
 |0,_=>rfl
 |m+1,h=>by
  unfold a2L;rw [h m om,as6 fun i hi=>h i om];simp
def b3W {N:Nat} {f:Nat->Nat} {H H':Hp} (hn:H'.length=N) (hB:∀(i:Nat) (k':Blk),H'[i]? =some k'->∃k:Blk,H[f i]? =some k∧a30 (fR N f) H k k'):a4S (fR N f) H (fR N f) H':=
 a3m (by rw [bu7,hn]) fun i k' hk=>by
  have hi:i<N:=by rw [← hn];exact (lbe.1 hk).1
  obtain ⟨k,h1,h2⟩:=hB i k' hk;exact ⟨f i,k,x3 hi,h1,h2⟩
def b0q {N:Nat} {f:Nat->Nat} {H:Hp} (hinj:∀i j,i<N->j<N->f i=f j->i=j):U4 (fR N f) H=true:=a1c fun i j n h1 h2=>by
 obtain ⟨a1,a2⟩:=b64 h1;obtain ⟨b1,b2⟩:=b64 h2;exact hinj i j a1 b1 om
def a9A {n0 N:Nat} {f:Nat->Nat} {env env':Env} {H H':Hp} (hn:H'.length=N) (h0:n0<=N) (hk:∀i,i<n0->f i=i) (hinj:∀i j,i<N->j<N->f i=f j->i=j)
 (hB:∀(i:Nat) (k':Blk),H'[i]? =some k'->∃k:Blk,H[f i]? =some k∧a30 (fR N f) H k k') (hE:Z1 (fR N f) H env env'):Ent n0 (fR N f) env H env' H':=
 ⟨as6 fun i hi=>by rw [x3 om,hk i hi],b0q hinj,b3W hn hB,hE⟩
def bt8 {n0 N:Nat} {f:Nat->Nat} {r s:S} {H H':Hp} (hn:H'.length=N) (h0:n0<=N) (hk:∀i,i<n0->f i=i) (hinj:∀i j,i<N->j<N->f i=f j->i=j)
 (hB:∀(i:Nat) (k':Blk),H'[i]? =some k'->∃k:Blk,H[f i]? =some k∧a30 (fR N f) H k k') (hE:a9K (fR N f) H r s):Fin n0 r H s H':=
 ⟨fR N f,as6 fun i hi=>by rw [x3 om,hk i hi],b0q hinj,b3W hn hB,hE⟩
def bh2 (k:Blk):a3w k k=true:=by unfold a3w;cases k.mode<;>simp
def f5 {ρ:List (Option Nat)} {H:Hp} {k:Blk} (h:J9 k.rows):a30 ρ H k k:=⟨bh2 k,rfl,rfl,.inl ⟨rfl,h⟩⟩
def b3d {ρ:List (Option Nat)} {H:Hp} {l l':List C} (h:a4E ρ H l l'):∀ts:List T,a4E ρ H (ts.map C.t++l) (ts.map C.t++l')
 |[]=>h
 |t::r=>⟨a2g t,b3d h r⟩
def a2Y {ρ:List (Option Nat)} {H:Hp} {m n:Nat} {V:Nat->Rat} {h h':Nat->Nat} (hh:∀i,i<m->ρ[h' i]? =some (some (h i))):
 a30 ρ H { mode:=.live,elem:=288,size:=5,rows:=(List.range m).map fun i=>frC (fz (V i))++[C.own (h i) 0 n true],box:=false } { mode:=.live,elem:=288,size:=5,rows:=(List.range m).map fun i=>frC (fz (V i))++[C.own (h' i) 0 n true],box:=false }:=by
 refine ⟨rfl,rfl,rfl,.inr (a1O zq fun i x y hx hy=>?_)⟩;have hi:i<m:=by have:=(lbe.1 hx).1;simpa using this
 simp [hi] at hx hy;subst hx hy;exact b3d (ts:=t5 (fz (V i))) (l:=[C.own (h i) 0 n true]) (l':=[C.own (h' i) 0 n true]) ⟨⟨hh i hi,rfl,rfl,fun h=>h⟩,trivial⟩
def a3c {a b:Nat} {K:Prop} (h:a<=b) (k:K):a<=b∧K:=⟨h,k⟩
def a6c {N:Nat} {b:Blk} (h:J9 b.rows):okB N b:=by
 intro r hr c hc;have:=h r hr c hc;cases c<;>first|trivial|cases this
def aT1 (k n:Nat) (v:Rat) (V:Nat->Rat):Nat->Rat:=fun i=>if i=k then v else V i
def hnd (k:Nat):Nat->Nat:=fun i=>if i=k then k+6 else i+5
def aj9 {k n:Nat} {v:Rat} {V:Nat->Rat}:W6 5 k n V++[frC (fz v)++[C.own (k+6) 0 n true]]=(List.range (k+1)).map fun i=>frC (fz (aT1 k n v V i))++[C.own (hnd k i) 0 n true]:=by
 rw [a3D,lbD]
 congr 1
 ·refine lbp fun i hi=>?_
  have:=lbC.1 hi;unfold aT1 hnd;rw [if_neg om,if_neg om]
 ·unfold aT1 hnd;simp
abbrev by5 (n k:Nat) (v:Rat) (a V G:Nat->Rat) (O:Nat->Nat) (fr:LB) (f:Nat × Bool) (A:Nat->Nat->Rat) (bx lx lit:Blk):Hp:=
 pB n (k+1) (k+10) (k+8) (k+11)::ak2 288 5::flB (rF n G)::ak2 3 1::ak2 306 2::((mF k n A).map flB++
  [bx,flB (rF n a),lx,R3 (k+1) O,lit,{ mode:=.live,elem:=288,size:=5,rows:=W6 5 k n V++[frC (fz v)++[C.own (k+6) 0 n true]],box:=false },a2o (fr++[f])])
def aq4 (k:Nat):Nat->Nat:=fun i=>if i<k+7 then i else if i=k+7 then k+8 else if i=k+8 then k+10 else k+11
def a2v {α β:Type} {f:β->α} {M:List β} {X:List α} {N t:Nat} (h:M.length=N):(M.map f++X)[N+t]? =X[t]?:=by
 rw [lbc (by simp [h])];simp [h]
def bl6 {n0 n:Nat} {r s:S} {H H':Hp} (e:n0=n) (h:Fin n r H s H'):Fin n0 r H s H':=by subst e;exact h
def b3K {n k:Nat} {v:Rat} {a V G:Nat->Rat} {O:Nat->Nat} {fr:LB} {f:Nat × Bool} {A:Nat->Nat->Rat} {bx lx lit:Blk} {H:Hp} (hbx:J9 bx.rows) (hH:H=by5 n k v a V G O fr f A bx lx lit):
 Fin (k+6) (.tup []) H (.tup []) (b4f n k v a V G O fr f A bx):=by
 subst hH;refine bt8 (N:=k+10) (f:=aq4 k) (by simp [f6]) om (fun i hi=>by unfold aq4;rw [if_pos om]) (fun i j hi hj h=>by unfold aq4 at h;(repeat' split at h)<;>omega) ?_ trivial;have r7:aq4 k (k+7)=k+8:=by unfold aq4;rw [if_neg om,if_pos rfl]
 have r8:aq4 k (k+8)=k+10:=by unfold aq4;rw [if_neg om,if_neg om,if_pos rfl]
 have r9:aq4 k (k+9)=k+11:=by unfold aq4;rw [if_neg om,if_neg om,if_neg om]
 have rl:∀i,i<k+7->aq4 k i=i:=fun i hi=>by unfold aq4;rw [if_pos hi]
 intro i k' hk;rcases i with _|_|_|_|_|i
 ·injection hk with hk;subst hk
  rw [rl 0 om];exact ⟨_,rfl,rfl,rfl,rfl,.inr ⟨⟨rfl,⟨by rw [x3 om,r8],rfl,rfl,fun h=>h⟩,⟨by rw [x3 om,rl 2 om],rfl,rfl,fun h=>h⟩,⟨by rw [x3 om,r7],rfl,rfl,fun h=>h⟩,rfl,⟨by rw [x3 om,r9],rfl,rfl,fun h=>h⟩,trivial⟩,trivial⟩⟩
 ·injection hk with hk;subst hk;rw [rl 1 om];exact ⟨_,rfl,f5 (by simp [J9])⟩
 ·injection hk with hk;subst hk;rw [rl 2 om];exact ⟨_,rfl,f5 (e7 _)⟩
 ·injection hk with hk;subst hk;rw [rl 3 om];exact ⟨_,rfl,f5 (by simp [J9])⟩
 ·injection hk with hk;subst hk;rw [rl 4 om];exact ⟨_,rfl,f5 (by simp [J9])⟩
 ·have hk:((mF k n A).map flB++[bx,flB (rF n a),R3 (k+1) O,{ mode:=.live,elem:=288,size:=5,rows:=W6 5 k n V++[frC (fz v)++[C.own (k+6) 0 n true]],box:=false },a2o (fr++[f])])[i]? =some k':=hk;by_cases hi:i<k
  ·rw [E9 (U3 hi)] at hk;injection hk with hk;subst hk
   rw [rl (i+5) om];exact ⟨_,E9 (U3 hi),f5 (e7 _)⟩
  ·obtain ⟨t,rfl⟩:∃t,i=k+t:=⟨i - k,om⟩;rw [a2v (f6 _ _ _)] at hk;have lk:∀j,(by5 n k v a V G O fr f A bx lx lit)[k+j+5]? =([bx,flB (rF n a),lx,R3 (k+1) O,lit,{ mode:=.live,elem:=288,size:=5,rows:=W6 5 k n V++[frC (fz v)++[C.own (k+6) 0 n true]],box:=false },a2o (fr++[f])]:Hp)[j]?:=fun j=>a2v (f6 _ _ _)
   rcases t with _|_|_|_|_|t
   ·injection hk with hk;subst hk
    rw [rl (k+0+5) om];exact ⟨_,lk 0,f5 hbx⟩
   ·injection hk with hk;subst hk
    rw [rl (k+1+5) om];exact ⟨_,lk 1,f5 (e7 _)⟩
   ·injection hk with hk;subst hk
    rw [show k+2+5=k+7 by omega,r7];exact ⟨_,lk 3,f5 (e7 _)⟩
   ·injection hk with hk;subst hk
    rw [show k+3+5=k+8 by omega,r8];refine ⟨_,lk 5,?_⟩;rw [aj9];refine a2Y fun j hj=>?_
    have:hnd k j<k+7:=by unfold hnd;split<;>omega
    rw [x3 om,rl _ this]
   ·injection hk with hk;subst hk
    rw [show k+4+5=k+9 by omega,r9];exact ⟨_,lk 6,f5 (e7 _)⟩
   ·simp at hk
def l7 {a0 a1 a2 a3 a4 a5 a6 b0 b1 b2 b3 b4 b5 b6:Blk} (h0:a0=b0) (h1:a1=b1) (h2:a2=b2) (h3:a3=b3) (h4:a4=b4) (h5:a5=b5) (h6:a6=b6):([a0,a1,a2,a3,a4,a5,a6]:Hp)=[b0,b1,b2,b3,b4,b5,b6]:=by
 subst h0 h1 h2 h3 h4 h5 h6;rfl
def a48 {k:Nat} {O:Nat->Nat} {x:Int} (h:x=O k):(toC (X6 k O)).take k++toC [[ti x]]=toC (X6 (k+1) O):=by
 rw [lbn (by simp [toC,l9])];unfold X6;rw [a3D,lbD,h];simp [toC]
def as1 {fr:LB} {k:Nat} (h:fr.length=k) (f:Nat × Bool):(toC (a15 fr)).take k++toC [[ti f.1,tb f.2]]=toC (a15 (fr++[f])):=by
 rw [lbn (by simp [toC,a15,h])];unfold a15;simp [toC]
def bB0 (n k row:Nat) (w:z7) (b:Bool) (V G:Nat->Rat) (fr:LB) (hfr:fr.length=k) (A:Nat->Nat->Rat) (bx:Blk) (hbx:J9 bx.rows) (hn:n<=1000) (hk:k<=10000) (hrow:row<=100000)
 (hr:j9 (-1) n w.terms=true) (hl:w.terms.length<=1000) (hb:∀t ∈ w.terms,rl t.2<=60000) (hv:rl w.value<=60000):
 ec 290 [.c (.ptr 0 0 0),eI row,aw9 w,j8 b] (a7x n k V G (fun i=>n+i) fr A [bx]) (.tup []) (b4f n k (S0 b w.value) (sgF b w.terms) V G (fun i=>n+i) fr (row,b) A bx):=by
 have m1:(w.terms.map k6).length=w.terms.length:=zq;refine ac Tryz.func290 ?_;conv=>whnf
 repeat' (first|refine zz ?_|refine qp f6 ?_|refine b0x ?_|refine .inl ⟨_,_,a2Q (N:=k+6) (by simp [f6]) hn,?_⟩|refine g8 (f6 _ _ _) ?_|refine f8 ?_|refine i5 (t:=1) (f6 _ _ _) ?_|refine i5 (t:=2) (f6 _ _ _) ?_|refine i5 (t:=3) (f6 _ _ _) ?_|refine i9 (t:=1) (f6 _ _ _) ?_|refine i9 (t:=2) (f6 _ _ _) ?_|refine i9 (t:=3) (f6 _ _ _) ?_|apply zD<;>intro<;>try omega|refine zy ?_|fail)<;>conv=>whnf
 refine i7 d9 (fun q=>([sP 0 0 0,eI row,J,j8 b,J,J,S.c (C.t (T.ptr (w5 w))),J,S.c (C.ptr (k+7) 0 0)]++Jn 13++[m8 w.terms,eI w.terms.length,eI q]++Jn 73,a7x n k V G (fun i=>n+i) fr A [bx,flB (rF n (L0 w.terms q)),lnX k n w.value])) w.terms.length tT (idR (k+8)) trivial ?_ ?_
 ·refine a0Y (X':=[]) (a2V rfl rfl rfl rfl rfl ?_) rfl (by simp [f6]) ?_ ?_
  ·rfl
  ·intro b hb;simp at hb;rcases hb with rfl|rfl|rfl
   ·exact a6c hbx
   ·exact t7 rfl
   ·exact aQ1 om
  ·exact ⟨⟨i6 om,rz⟩,rfl,rfl,k8 rfl,⟨i6 om,rz⟩,k8 rfl,d7 om,d7 rfl,trivial⟩
 intro q hq _;by_cases hlt:q<w.terms.length
 ·obtain ⟨t,ht⟩:∃t,w.terms[q]? =some t:=⟨_,lbf hlt⟩;obtain ⟨t0,t1,t2⟩:=E7 hr t (lbm ht);have gp:(rF n (L0 w.terms q))[0+t.1.toNat]? =some (fz (L0 w.terms q t.1.toNat)):=by rw [O5,E6 om]
  have eV:0+t.1.toNat=t.1.toNat:=om;have e:t4 (flB (rF n (L0 w.terms q))) ((flB (rF n (L0 w.terms q))).rows.set (0+t.1.toNat) (frC (fz t.2)))=flB (rF n (L0 w.terms (q+1))):=by
   have e1:=I5 (row:=rF n (L0 w.terms q)) (y:=fz t.2) eV;rw [S4 om,←I1 ht] at e1;exact e1
  conv=>whnf
  repeat' (first|refine zx ?_|refine f7 ht ?_|refine p8 gp ?_|refine g8 (f6 _ _ _) ?_|refine f8 ?_|refine i5 (t:=1) (f6 _ _ _) ?_|refine i5 (t:=2) (f6 _ _ _) ?_|refine i5 (t:=3) (f6 _ _ _) ?_|refine i9 (t:=1) (f6 _ _ _) ?_|refine i9 (t:=2) (f6 _ _ _) ?_|refine i9 (t:=3) (f6 _ _ _) ?_|apply zD<;>intro<;>try omega)<;>conv=>whnf
  all_goals first
   |omega
   |(refine ⟨hlt,trivial,idR (k+8),a0Y (X:=[bx,flB (rF n (L0 w.terms (q+1))),lnX k n w.value]) (a2V rfl rfl rfl rfl rfl (congrArg (fun z=>(mF k n A).map flB++(bx::z::lnX k n w.value::[_])) e)) rfl (by simp [f6]) ?_ ⟨⟨i6 om,rz⟩,rfl,rfl,rfl,⟨i6 om,rz⟩,rfl,rfl,d7 om,trivial⟩⟩
     intro b hb;simp at hb;rcases hb with rfl|rfl|rfl
     ·exact a6c hbx
     ·exact t7 rfl
     ·exact aQ1 om)
 ·have hqe:q=w.terms.length:=by omega
  subst hqe;cases b with
  |false=>
   conv=>whnf
   repeat' (first|refine b08 [0,1,2,3,4,5,6,7,9,10,11,12,13,14,15,16,8,17,18,19,20,21,22,23] zk zk ?_|refine zz ?_|refine o6 (by simp [toC,l9,F2,a15,hfr]) (by simp [toC,l9,F2,a15];omega) ?_|refine bl0 [0] ?_|refine bl0 [0,1,8,9,10,11,12,13,14,15] ?_|refine bl0 [0,1] ?_|refine bl0 [1] ?_|refine g8 (f6 _ _ _) ?_|refine f8 ?_|refine i5 (t:=1) (f6 _ _ _) ?_|refine i5 (t:=2) (f6 _ _ _) ?_|refine i5 (t:=3) (f6 _ _ _) ?_|refine i9 (t:=1) (f6 _ _ _) ?_|refine i9 (t:=2) (f6 _ _ _) ?_|refine i9 (t:=3) (f6 _ _ _) ?_|refine i5 (t:=4) (f6 _ _ _) ?_|refine a3c (lbS 1) ?_|apply zD<;>intro<;>try omega|refine zy ?_|fail)<;>conv=>whnf
   all_goals try omega
   all_goals refine bl6 (n:=k+6) (by simp [f6]) (b3K (lit:=_) hbx (a2V rfl rfl rfl rfl rfl (congrArg (fun z=>(mF k n A).map flB++z) (l7 rfl rfl rfl ?_ rfl ?_ ?_))))
   ·exact congrArg (fun z=>({ mode:=.live,elem:=3,size:=1,rows:=z,box:=false }:Blk)) (a48 (x:=(n:Int)+k) zq)
   ·exact congrArg (fun z=>({ mode:=.live,elem:=288,size:=5,rows:=z,box:=false }:Blk)) (congrArg (fun z=>z++[frC (fz w.value)++[C.own (k+6) 0 n true]]) (lbn (by simp [F2])))
   ·exact congrArg (fun z=>({ mode:=.live,elem:=306,size:=2,rows:=z,box:=false }:Blk)) (as1 hfr (row,false))
  |true=>
   have nv:=a58 w.value hv;conv=>whnf
   repeat' (first|refine zx ?_|refine g8 (f6 _ _ _) ?_|refine f8 ?_|refine i5 (t:=1) (f6 _ _ _) ?_|refine i5 (t:=2) (f6 _ _ _) ?_|refine i5 (t:=3) (f6 _ _ _) ?_|refine i9 (t:=1) (f6 _ _ _) ?_|refine i9 (t:=2) (f6 _ _ _) ?_|refine i9 (t:=3) (f6 _ _ _) ?_|apply zD<;>intro<;>try omega)<;>conv=>whnf
   all_goals try omega
   refine i7 d9 (fun q=>([sP 0 0 0,eI row,J,j8 true,J,J,J,J,S.c (C.ptr (k+7) 0 0)]++Jn 33++[m8 w.terms,eI w.terms.length,eI q]++Jn 53,a7x n k V G (fun i=>n+i) fr A [bx,flB (rF n (a6d w.terms q)),lnX k n (-w.value)])) w.terms.length tT (idR (k+8)) trivial ?_ ?_
   ·refine a0Y (X':=[]) (a2V rfl rfl rfl rfl rfl rfl) rfl (by simp [f6]) ?_ ?_
    ·intro b hb;simp at hb;rcases hb with rfl|rfl|rfl
     ·exact a6c hbx
     ·exact t7 rfl
     ·exact aQ1 om
    ·exact ⟨⟨i6 om,rz⟩,rfl,rfl,⟨i6 om,rz⟩,k8 rfl,d7 om,d7 rfl,trivial⟩
   intro q hq _;by_cases hlt:q<w.terms.length
   ·obtain ⟨t,ht⟩:∃t,w.terms[q]? =some t:=⟨_,lbf hlt⟩;obtain ⟨t0,t1,t2⟩:=E7 hr t (lbm ht);have nt:=a58 t.2 (hb t (lbm ht));have gp:(rF n (a6d w.terms q))[0+t.1.toNat]? =some (fz (a6d w.terms q t.1.toNat)):=by rw [O5,E6 om]
    have eV:0+t.1.toNat=t.1.toNat:=om;have e:t4 (flB (rF n (a6d w.terms q))) ((flB (rF n (a6d w.terms q))).rows.set (0+t.1.toNat) (frC (fz (-t.2))))=flB (rF n (a6d w.terms (q+1))):=by
     have e1:=I5 (row:=rF n (a6d w.terms q)) (y:=fz (-t.2)) eV;rw [S4 om,←aE3 ht] at e1;exact e1
    conv=>whnf
    repeat' (first|refine zx ?_|refine f7 ht ?_|refine p8 gp ?_|refine g8 (f6 _ _ _) ?_|refine f8 ?_|refine i5 (t:=1) (f6 _ _ _) ?_|refine i5 (t:=2) (f6 _ _ _) ?_|refine i5 (t:=3) (f6 _ _ _) ?_|refine i9 (t:=1) (f6 _ _ _) ?_|refine i9 (t:=2) (f6 _ _ _) ?_|refine i9 (t:=3) (f6 _ _ _) ?_|apply zD<;>intro<;>try omega)<;>conv=>whnf
    all_goals first
     |omega
     |(refine ⟨hlt,trivial,idR (k+8),a0Y (X:=[bx,flB (rF n (a6d w.terms (q+1))),lnX k n (-w.value)]) (a2V rfl rfl rfl rfl rfl (congrArg (fun z=>(mF k n A).map flB++(bx::z::lnX k n (-w.value)::[_])) e)) rfl (by simp [f6]) ?_ ⟨⟨i6 om,rz⟩,rfl,rfl,⟨i6 om,rz⟩,rfl,rfl,d7 om,trivial⟩⟩
       intro b hb;simp at hb;rcases hb with rfl|rfl|rfl
       ·exact a6c hbx
       ·exact t7 rfl
       ·exact aQ1 om)
   ·have hqe:q=w.terms.length:=by omega
    subst hqe;have ea:a6d w.terms w.terms.length=sgF true w.terms:=b6W w.terms;conv=>whnf
    repeat' (first|refine b08 [0,1,2,3,4,5,6,7,9,10,11,12,13,14,15,16,8,17,18,19,20,21,22,23] zk zk ?_|refine zz ?_|refine o6 (by simp [toC,l9,F2,a15,hfr]) (by simp [toC,l9,F2,a15];omega) ?_|refine bl0 [0] ?_|refine bl0 [0,1,8,9,10,11,12,13,14,15] ?_|refine bl0 [0,1] ?_|refine bl0 [1] ?_|refine g8 (f6 _ _ _) ?_|refine f8 ?_|refine i5 (t:=1) (f6 _ _ _) ?_|refine i5 (t:=2) (f6 _ _ _) ?_|refine i5 (t:=3) (f6 _ _ _) ?_|refine i9 (t:=1) (f6 _ _ _) ?_|refine i9 (t:=2) (f6 _ _ _) ?_|refine i9 (t:=3) (f6 _ _ _) ?_|refine i5 (t:=4) (f6 _ _ _) ?_|refine a3c (lbS 1) ?_|apply zD<;>intro<;>try omega|refine zy ?_|fail)<;>conv=>whnf
    all_goals try omega
    all_goals refine bl6 (n:=k+6) (by simp [f6]) (b3K (lit:=_) hbx (a2V rfl rfl rfl rfl rfl (congrArg (fun z=>(mF k n A).map flB++z) (l7 rfl (by rw [ea]) rfl ?_ rfl ?_ ?_))))
    ·exact congrArg (fun z=>({ mode:=.live,elem:=3,size:=1,rows:=z,box:=false }:Blk)) (a48 (x:=(n:Int)+k) zq)
    ·exact congrArg (fun z=>({ mode:=.live,elem:=288,size:=5,rows:=z,box:=false }:Blk)) (congrArg (fun z=>z++[frC (fz (-w.value))++[C.own (k+6) 0 n true]]) (lbn (by simp [F2])))
    ·exact congrArg (fun z=>({ mode:=.live,elem:=306,size:=2,rows:=z,box:=false }:Blk)) (as1 hfr (row,true))
def gR (N:Nat) (f:Nat->Option Nat):List (Option Nat):=(List.range N).map f
def a4j {N i:Nat} {f:Nat->Option Nat} (h:i<N):(gR N f)[i]? =some (f i):=by simp [gR,h]
def b6x {N i:Nat} {x:Option Nat} {f:Nat->Option Nat} (h:(gR N f)[i]? =some x):i<N∧f i=x:=by
 obtain ⟨h1,h2⟩:=lbe.1 h;simp [gR] at h1 h2;exact ⟨h1,h2⟩
def b07 {ρ:List (Option Nat)} {H:Hp}:∀{r:List (Option Nat)} {H':Hp},r.length=H'.length->(∀ (i:Nat) (k':Blk),H'[i]? =some k'->(r[i]? =some none∧k'.rows=[]∧k'.mode=.live)∨∃(j:Nat) (k:Blk),r[i]? =some (some j)∧H[j]? =some k∧a30 ρ H k k')->a4S ρ H r H'
 |[],[],_,_=>trivial
 |[],_::_,h,_=>by simp at h
 |_::_,[],h,_=>by simp at h
 |x::r,k'::H',hl,h=>by
  refine ⟨?_,b07 (by simpa using hl) fun i k1 hk=>by simpa using h (i+1) k1 (by simpa using hk)⟩;rcases h 0 k' rfl with ⟨h1,h2,h3⟩|⟨j,k,h1,h2,h3⟩
  ·simp at h1;subst h1;exact ⟨h2,h3⟩
  ·simp at h1;subst h1;simp only [h2];exact h3
def b1x {N:Nat} {f:Nat->Option Nat} {env env':Env} {H H':Hp} (hn:H'.length=N) (hinj:∀i j x,i<N->j<N->f i=some x->f j=some x->i=j)
 (hB:∀(i:Nat) (k':Blk),H'[i]? =some k'->(f i=none∧k'.rows=[]∧k'.mode=.live)∨∃(j:Nat) (k:Blk),f i=some j∧H[j]? =some k∧a30 (gR N f) H k k') (hE:Z1 (gR N f) H env env'):Ent 0 (gR N f) env H env' H':=
 ⟨rfl,a1c fun i j n h1 h2=>by
   obtain ⟨a1,a2⟩:=b6x h1;obtain ⟨b1,b2⟩:=b6x h2;exact hinj i j n a1 b1 a2 b2,b07 (by simp [gR,hn]) fun i k' hk=>by
   have hi:i<N:=by rw [← hn];exact (lbe.1 hk).1
   rcases hB i k' hk with ⟨h1,h2⟩|⟨j,k,h1,h2⟩
   ·exact .inl ⟨by rw [a4j hi,h1],h2⟩
   ·exact .inr ⟨j,k,by rw [a4j hi,h1],h2⟩,hE⟩
def a7v {s:j2} (k:Nat):G3 s (k+1)=match s.rows[k]? with
 |none=>G3 s k
 |some w=>G3 s k++(if w.kind≠0 then [(k,false)] else [])++(if w.kind≠1 then [(k,true)] else []):=rfl
def aD0 {s:j2} {i:Nat}:∀d,∃rest,G3 s (i+d)=G3 s i++rest
 |0=>⟨[],zq⟩
 |d+1=>by
  obtain ⟨r,hr⟩:=aD0 (s:=s) (i:=i) d;rw [show i+(d+1)=(i+d)+1 by omega,a7v];cases s.rows[i+d]? with
  |none=>exact ⟨r,hr⟩
  |some w=>exact ⟨r++((if w.kind≠0 then [(i+d,false)] else [])++(if w.kind≠1 then [(i+d,true)] else [])),by simp only;rw [hr,lbE,lbE]⟩
def a6R {s:j2} {i k:Nat} {f:Nat × Bool} (hi:i<=s.rows.length) (h:(G3 s i)[k]? =some f):(i8 s).getD k (0,false)=f:=by
 obtain ⟨r,hr⟩:=aD0 (s:=s) (i:=i) (s.rows.length - i);rw [show i+(s.rows.length - i)=s.rows.length by omega] at hr;unfold i8;rw [hr,lbl,lbb (lbe.1 h).1,h];rfl
def a0C {s:j2}:∀i,(G3 s i).length<=2*i
 |0=>by simp [G3]
 |i+1=>by
  have ih:=a0C (s:=s) i;rw [a7v];cases s.rows[i]? with
  |none=>simp only;omega
  |some w=>
   simp only [lbq];split<;>split<;>simp<;>omega
def a7t {s:j2} {i:Nat} {w:z7} (h:s.rows[i]? =some w):G3 s (i+1)=(G3 s i++if w.kind≠0 then [(i,false)] else [])++if w.kind≠1 then [(i,true)] else []:=by
 rw [a7v,h]
def a01 (k:Nat):Nat->Nat:=fun i=>if i=0 then 0 else if i=1 then k+8 else if i=2 then 2 else if i=3 then k+7 else if i=4 then k+9 else if i<k+5 then i else if i=k+5 then k+6 else k+5
def aq7 {k:Nat} (i:Nat) (hi:i<k+7):(i=0∧a01 k i=0)∨(i=1∧a01 k i=k+8)∨(i=2∧a01 k i=2)∨(i=3∧a01 k i=k+7)∨(i=4∧a01 k i=k+9)∨(5<=i∧i<k+5∧a01 k i=i)∨(5<=i∧i=k+5∧a01 k i=k+6)∨(5<=i∧i=k+6∧a01 k i=k+5):=by
 unfold a01;by_cases h0:i=0
 ·rw [if_pos h0];omega
 ·rw [if_neg h0];by_cases h1:i=1
  ·rw [if_pos h1];omega
  ·rw [if_neg h1];by_cases h2:i=2
   ·rw [if_pos h2];omega
   ·rw [if_neg h2];by_cases h3:i=3
    ·rw [if_pos h3];omega
    ·rw [if_neg h3];by_cases h4:i=4
     ·rw [if_pos h4];omega
     ·rw [if_neg h4];by_cases h5:i<k+5
      ·rw [if_pos h5];omega
      ·rw [if_neg h5];by_cases h6:i=k+5
       ·rw [if_pos h6];omega
       ·rw [if_neg h6];omega
def b96 {k:Nat}:a01 k (k+6)=k+5:=by
 have:=aq7 (k:=k) (k+6) om;omega
def b2Y {n k:Nat} {a V G:Nat->Rat} {v:Rat} {O:Nat->Nat} {fr:LB} {f:Nat × Bool} {A:Nat->Nat->Rat} {bx:Blk} {env env':Env} (hbx:J9 bx.rows) (hv:v=V k) (ha:a=A k)
 (hE:Z1 (fR (k+7) (a01 k)) (b4f n k v a V G O fr f A bx) env env'):Ent 0 (fR (k+7) (a01 k)) env (b4f n k v a V G O fr f A bx) env' (a7x n (k+1) V G O (fr++[f]) A [bx]):=by
 subst hv ha;have r1:a01 k 1=k+8:=rfl;have r3:a01 k 3=k+7:=rfl;have r4:a01 k 4=k+9:=rfl;have ra:∀i,i<k->a01 k (i+5)=i+5:=fun i hi=>by
  unfold a01;rw [if_neg om,if_neg om,if_neg om,if_neg om,if_neg om,if_pos om]
 have rk:a01 k (k+5)=k+6:=by
  unfold a01;rw [if_neg om,if_neg om,if_neg om,if_neg om,if_neg om,if_neg om,if_pos rfl]
 have rb:a01 k (k+6)=k+5:=by
  unfold a01;rw [if_neg om,if_neg om,if_neg om,if_neg om,if_neg om,if_neg om,if_neg om]
 have lk:∀j,(b4f n k (V k) (A k) V G O fr f A bx)[k+j+5]? =([bx,flB (rF n (A k)),R3 (k+1) O,{ mode:=.live,elem:=288,size:=5,rows:=W6 5 k n V++[frC (fz (V k))++[C.own (k+6) 0 n true]],box:=false },a2o (fr++[f])]:Hp)[j]?:=fun j=>a2v (f6 _ _ _)
 have eV:aT1 k n (V k) V=V:=by funext i;unfold aT1;split<;>simp_all
 refine a9A (by simp [f6]) om (fun i hi=>om) (fun i j hi hj h=>by have:=aq7 i hi;have:=aq7 j hj;omega) ?_ hE;intro i k' hk;rcases i with _|_|_|_|_|i
 ·injection hk with hk;subst hk
  exact ⟨_,rfl,rfl,rfl,rfl,.inr ⟨⟨rfl,⟨by rw [x3 om,r1],rfl,rfl,fun h=>h⟩,⟨by rw [x3 om];rfl,rfl,rfl,fun h=>h⟩,⟨by rw [x3 om,r3],rfl,rfl,fun h=>h⟩,rfl,⟨by rw [x3 om,r4],rfl,rfl,fun h=>h⟩,trivial⟩,trivial⟩⟩
 ·injection hk with hk;subst hk
  refine ⟨_,lk 3,?_⟩;rw [aj9,eV];refine a2Y (h':=fun i=>i+5) fun j hj=>?_
  rw [x3 om];unfold hnd;by_cases hjk:j=k
  ·subst hjk;rw [if_pos rfl,rk]
  ·rw [if_neg hjk,ra j om]
 ·injection hk with hk;subst hk;exact ⟨_,rfl,f5 (e7 _)⟩
 ·injection hk with hk;subst hk;exact ⟨_,lk 2,f5 (e7 _)⟩
 ·injection hk with hk;subst hk;exact ⟨_,lk 4,f5 (e7 _)⟩
 ·have hk:((mF (k+1) n A).map flB++[bx])[i]? =some k':=hk;by_cases hi:i<k+1
  ·rw [E9 (U3 hi)] at hk;injection hk with hk;subst hk
   by_cases hik:i=k
   ·subst hik;rw [rk];exact ⟨_,lk 1,f5 (e7 _)⟩
   ·rw [ra i om];exact ⟨_,E9 (U3 om),f5 (e7 _)⟩
  ·obtain ⟨t,rfl⟩:∃t,i=(k+1)+t:=⟨i - (k+1),om⟩;rw [a2v (f6 _ _ _)] at hk;rcases t with _|t
   ·injection hk with hk;subst hk
    rw [show k+1+0+5=k+6 by omega,rb];exact ⟨_,lk 0,f5 hbx⟩
   ·simp at hk
def b98 {b0 b1 b2 b3 b4 b5 c0 c1 c2 c3 c4 c5:Blk} {L L':Hp} (h0:b0=c0) (h1:b1=c1) (h2:b2=c2) (h3:b3=c3) (h4:b4=c4) (h5:b5=c5) (h6:L=L'):b0::b1::b2::b3::b4::b5::L=c0::c1::c2::c3::c4::c5::L':=a22 h0 h1 h2 h3 h4 h5 h6
def v8:∀{last n:Int} {l:List (Int × Rat)},j9 last n l=true->l.length=0∨(l.length:Int)<=n - last - 1
 |_,_,[],_=>.inl rfl
 |last,n,a::r,h=>by
  unfold j9 at h;simp only [lbO,lbJ] at h;have ih:=v8 h.2;have h1:=h.1.1.1;have h2:=h.1.1.2
  right
  rw [lbu];rcases ih with h0|h0
  ·rw [h0];omega
  ·omega
structure bj3 (s:j2) (g:List (Int × Rat)) (n:Nat):Prop where
 r:n7 s=true
 tg:j9 (-1) n g=true
 en:s.n=n
 n1:n<=1000
 b:∀w ∈ s.rows,rl w.value<=60000∧∀t ∈ w.terms,rl t.2<=60000
 bg:∀t ∈ g,rl t.2<=60000
 l:s.rows.length<=4000
abbrev rbx (w:z7):Blk:={ mode:=.live,elem:=133,size:=6,rows:=[(w5 w).map C.t],box:=true }
def aU9 (w:z7):J9 (rbx w).rows:=e7 [w5 w]
def a1F (s:j2):List T:=[ti s.n,J7 s.rows]
def pF1:Nat->Option Nat:=fun i=>if i=0 then some 1 else if i=2 then some 0 else none
def aJ5 {s:j2} {g:List (Int × Rat)} {k:Nat} {b:Bool} {i:Nat} {w:z7} (h:(i8 s).getD k (0,false)=(i,b)) (hw:s.rows[i]? =some w):S0 b w.value=(j5 s g).V k:=by
 show _=a3k s ((i8 s).getD k (0,false));rw [h];unfold a3k;simp only [hw]
def aR9 {s:j2} {g:List (Int × Rat)} {k:Nat} {b:Bool} {i:Nat} {w:z7} (h:(i8 s).getD k (0,false)=(i,b)) (hw:s.rows[i]? =some w):sgF b w.terms=(j5 s g).A k:=by
 funext j;show _=a23 s ((i8 s).getD k (0,false)) j;rw [h];unfold a23;simp only [hw];rfl
abbrev dF (m n j q:Nat):Blk:={ mode:=.live,elem:=285,size:=6,rows:=[[C.t (ti n),.own 1 0 m true,.own 2 0 n true,.own 3 0 m true,.own 4 0 j true,.own 5 0 q true]],box:=true }
abbrev bb1 (m n j:Nat) (V G:Nat->Rat) (O:Nat->Nat) (fr:LB) (A:Nat->Nat->Rat) (X:Hp):Hp:=
 dF m n j fr.length::a1x 6 m n V::flB (rF n G)::R3 m O::R3 j (fun j=>j)::a2o fr::((mF m n A).map flB++X)
def fF1:Nat->Option Nat:=fun i=>if i=4 then none else if i<4 then some i else some (i - 1)
def b8U {m n:Nat} {V G:Nat->Rat} {O:Nat->Nat} {fr:LB} {A:Nat->Nat->Rat} {env env':Env} {H:Hp} (hm:fr.length=m) (hH:H=a7x n m V G O fr A []) (hE:Z1 (gR (m+6) fF1) H env env'):
 Ent 0 (gR (m+6) fF1) env H env' (bb1 m n 0 V G O fr A []):=by
 subst hH;refine b1x (by simp [f6]) (fun i j x hi hj h1 h2=>by unfold fF1 at h1 h2;(repeat' split at h1)<;>(repeat' split at h2)<;>first|(cases h1;done)|(cases h2;done)|(injection h1 with h1;injection h2 with h2;omega)) ?_ hE;intro i k' hk;have fa:∀i,fF1 (i+6)=some (i+5):=fun i=>by unfold fF1;rw [if_neg om,if_neg om];rfl
 rcases i with _|_|_|_|_|_|i
 ·injection hk with hk;subst hk
  exact .inr ⟨0,_,rfl,rfl,rfl,rfl,rfl,.inr ⟨⟨rfl,⟨by rw [a4j om];rfl,rfl,rfl,fun h=>h⟩,⟨by rw [a4j om];rfl,rfl,rfl,fun h=>h⟩,⟨by rw [a4j om];rfl,rfl,rfl,fun h=>h⟩,⟨by rw [a4j om];rfl,rz⟩,⟨by rw [a4j om];rfl,rfl,hm.symm,fun h=>h⟩,trivial⟩,trivial⟩⟩
 ·injection hk with hk;subst hk
  refine .inr ⟨1,_,rfl,rfl,a2Y (h:=fun i=>i+5) (h':=fun i=>i+6) fun j hj=>?_⟩;rw [a4j om,fa]
 ·injection hk with hk;subst hk;exact .inr ⟨2,_,rfl,rfl,f5 (e7 _)⟩
 ·injection hk with hk;subst hk;exact .inr ⟨3,_,rfl,rfl,f5 (e7 _)⟩
 ·injection hk with hk;subst hk;exact .inl ⟨rfl,rfl,rfl⟩
 ·injection hk with hk;subst hk;exact .inr ⟨4,_,rfl,rfl,f5 (e7 _)⟩
 ·have hk:((mF m n A).map flB++[])[i]? =some k':=hk;have hi:i<m:=by have:=(lbe.1 hk).1;simpa [f6] using this
  rw [E9 (U3 hi)] at hk;injection hk with hk;subst hk
  exact .inr ⟨i+5,_,fa i,E9 (U3 hi),f5 (e7 _)⟩
abbrev bI1 (m n j:Nat) (V G:Nat->Rat) (O:Nat->Nat) (fr:LB) (A:Nat->Nat->Rat):Hp:=
 { mode:=.live,elem:=285,size:=6,rows:=[[C.t (ti n),.own 1 0 m true,.own 2 0 n true,.own 3 0 m true,.own (m+6) 0 (j+1) true,.own 5 0 fr.length true]],box:=true }::
   a1x 6 m n V::flB (rF n G)::R3 m O::ak2 3 1::a2o fr::((mF m n A).map flB++[R3 (j+1) (fun j=>j)])
def fF2 (m:Nat):Nat->Nat:=fun i=>if i=4 then m+6 else i
def bb3 {m n j:Nat} {V G:Nat->Rat} {O:Nat->Nat} {fr:LB} {A:Nat->Nat->Rat} {env env':Env} {H:Hp} (hH:H=bI1 m n j V G O fr A) (hE:Z1 (fR (m+6) (fF2 m)) H env env'):
 Ent 0 (fR (m+6) (fF2 m)) env H env' (bb1 m n (j+1) V G O fr A []):=by
 subst hH;have fa:∀i,i≠4->fF2 m i=i:=fun i hi=>by unfold fF2;rw [if_neg hi]
 refine a9A (by simp [f6]) om (fun i hi=>om) (fun i j hi hj h=>by unfold fF2 at h;(repeat' split at h)<;>omega) ?_ hE;intro i k' hk;rcases i with _|_|_|_|_|_|i
 ·injection hk with hk;subst hk
  exact ⟨_,rfl,rfl,rfl,rfl,.inr ⟨⟨rfl,⟨by rw [x3 om];rfl,rfl,rfl,fun h=>h⟩,⟨by rw [x3 om];rfl,rfl,rfl,fun h=>h⟩,⟨by rw [x3 om];rfl,rfl,rfl,fun h=>h⟩,⟨by rw [x3 om];rfl,rfl,rfl,fun h=>h⟩,⟨by rw [x3 om];rfl,rfl,rfl,fun h=>h⟩,trivial⟩,trivial⟩⟩
 ·injection hk with hk;subst hk
  refine ⟨_,rfl,a2Y (h:=fun i=>i+6) (h':=fun i=>i+6) fun j hj=>?_⟩;rw [x3 om,fa _ om]
 ·injection hk with hk;subst hk;exact ⟨_,rfl,f5 (e7 _)⟩
 ·injection hk with hk;subst hk;exact ⟨_,rfl,f5 (e7 _)⟩
 ·injection hk with hk;subst hk
  refine ⟨_,a2v (t:=0) (f6 _ _ _),f5 (e7 _)⟩
 ·injection hk with hk;subst hk;exact ⟨_,rfl,f5 (e7 _)⟩
 ·have hk:((mF m n A).map flB++[])[i]? =some k':=hk;have hi:i<m:=by have:=(lbe.1 hk).1;simpa [f6] using this
  rw [E9 (U3 hi)] at hk;injection hk with hk;subst hk
  rw [fa _ om];exact ⟨_,E9 (U3 hi),f5 (e7 _)⟩
def b1O (s:j2) (g:List (Int × Rat)) (n:Nat) (h:bj3 s g n):
 ec 218 [S9 s,m8 g] [] (.c (.ptr 0 0 0)) (a10 (i8 s).length n (i8 s) (j5 s g)):=by
 have m1:(s.rows.map w5).length=s.rows.length:=zq;have m2:(g.map k6).length=g.length:=zq;have z0:∀H:Hp,H.length=0->a02 Tryz.prog 289 [eI s.n] H (.c (.own 0 0 n true)) [flB (rF n fun _=>0)]:=fun H hH=>by rw [h.en];exact a2Q hH h.n1
 have hsl:=h.l;have htg:=h.tg;have hbg:=h.bg;have hgl:=v8 htg;have hn1:=h.n1;have hen:=h.en;have put0:∀(K i:Nat) (w:z7) (b:Bool) (F:LB) (bx:Blk),s.rows[i]? =some w->F.length=K->J9 bx.rows->K<=10000->i<=100000->
  ec 290 [.c (.ptr 0 0 0),eI i,aw9 w,j8 b] (a7x n K (j5 s g).V (fun _=>0) (fun i=>n+i) F (j5 s g).A [bx]) (.tup []) (b4f n K (S0 b w.value) (sgF b w.terms) (j5 s g).V (fun _=>0) (fun i=>n+i) F (i,b) (j5 s g).A bx):=by
  intro K i w b F bx hw hF hbx hK hi;have hn:=L3 h.r;have hrw:=(Y4 h.r hw).1;rw [hn,h.en] at hrw;have hl:=v8 hrw;have hb:=h.b w (lbm hw);exact bB0 n K i w b _ _ F hF _ bx hbx h.n1 hK hi hrw (by have:=h.n1;omega) hb.2 hb.1
 refine ac Tryz.func218 ?_;conv=>whnf
 repeat' (first|refine zz ?_|refine b0x ?_|refine .inl ⟨_,_,z0 _ rfl,?_⟩|apply zD<;>intro h<;>try omega|refine zy ?_|fail)<;>conv=>whnf
 refine an0 (fun i=>([J,m8 g,S.c (C.t (T.ptr (a1F s))),J,J,sP 0 0 0]++Jn 13++[S.c (C.t (J7 s.rows)),eI s.rows.length,eI i]++Jn 53,a7x n (G3 s i).length (j5 s g).V (fun _=>0) (fun i=>n+i) (G3 s i) (j5 s g).A [])) s.rows.length tT (gR 5 pF1) trivial ?_ ?_
 ·refine b1x rfl (fun i j x hi hj h1 h2=>by unfold pF1 at h1 h2;(repeat' split at h1)<;>(repeat' split at h2)<;>first|(cases h1;done)|(cases h2;done)|(injection h1 with h1;injection h2 with h2;omega)) ?_ ?_
  ·intro i k' hk;rcases i with _|_|_|_|_|i
   ·injection hk with hk;subst hk
    exact .inr ⟨1,_,rfl,rfl,rfl,rfl,rfl,.inr ⟨⟨ah3 (by rw [h.en]),rz,⟨rfl,rfl,rfl,fun h=>h⟩,rz⟩,trivial⟩⟩
   ·injection hk with hk;subst hk;exact .inl ⟨rfl,rfl,rfl⟩
   ·injection hk with hk;subst hk;exact .inr ⟨0,_,rfl,rfl,f5 (e7 _)⟩
   ·injection hk with hk;subst hk;exact .inl ⟨rfl,rfl,rfl⟩
   ·injection hk with hk;subst hk;exact .inl ⟨rfl,rfl,rfl⟩
   ·simp [mF,G3] at hk
  ·exact ⟨rfl,k8 rfl,rz,k8 rfl,d7 om,d7 rfl,trivial⟩
 intro i hi _;refine y4 d9 ?_;conv=>whnf
 repeat' (first|refine zx ?_|refine f8 ?_|apply zD<;>intro h<;>try omega)<;>conv=>whnf
 ·have hlt:i<s.rows.length:=by omega
  obtain ⟨w,hw⟩:∃w,s.rows[i]? =some w:=⟨_,lbf hlt⟩;obtain ⟨K,hK⟩:∃K,K=(G3 s i).length:=⟨_,rfl⟩;rw [← hK];obtain ⟨K1,hK1⟩:∃K1,K1=(G3 s i++if w.kind≠0 then [(i,false)] else []).length:=⟨_,rfl⟩;obtain ⟨F1,hF1⟩:∃F1,F1=(G3 s i++if w.kind≠0 then [(i,false)] else []):=⟨_,rfl⟩;have hKb:K<=10000:=by have:=a0C (s:=s) i;omega
  refine y4 d9 ?_;conv=>whnf
  refine a8u (a7U ?_);refine y4 d9 ?_;conv=>whnf
  repeat' (first|refine zx ?_|refine f7 hw ?_|refine g8 (f6 _ _ _) ?_|refine f8 ?_|refine i5 (t:=0) (f6 _ _ _) ?_|refine i9 (t:=0) (f6 _ _ _) ?_|apply zD<;>intro h<;>try omega)<;>conv=>whnf
  refine x9 d9 ([J,m8 g,S.c (C.t (T.ptr (a1F s))),J,J,sP 0 0 0,eI i,S.c (C.ptr (K1+5) 0 0)]++Jn 11++[S.c (C.t (J7 s.rows)),eI s.rows.length,eI i]++Jn 53) (a7x n K1 (j5 s g).V (fun _=>0) (fun i=>n+i) F1 (j5 s g).A [rbx w]) ?_ ?_
  ·by_cases hk:w.kind=0
   ·have e1:F1=G3 s i:=by rw [hF1,if_neg (by simp [hk]),Y7]
    have e2:K1=K:=by rw [hK1,if_neg (by simp [hk]),Y7,hK]
    subst e1 e2;conv=>whnf
    repeat' (first|refine zx ?_|refine g8 (f6 _ _ _) ?_|refine f8 ?_|refine i5 (t:=0) (f6 _ _ _) ?_|refine i9 (t:=0) (f6 _ _ _) ?_|apply zD<;>intro h<;>try omega)<;>conv=>whnf
    all_goals first|omega|exact ⟨idR (K1+6),a0Y (X:=[rbx w]) (X':=[]) (a2V rfl rfl rfl rfl rfl rfl) rfl (J0 _) (by intro b hb;simp at hb;subst hb;exact a6c (aU9 w)) ⟨rfl,rfl,⟨i6 om,rz⟩,rfl,⟨i6 om,rz⟩,rz⟩⟩
   ·have e1:F1=G3 s i++[(i,false)]:=by rw [hF1,if_pos hk]
    have e2:K1=K+1:=by rw [hK1,if_pos hk,lbq,←hK];rfl
    have hg:(i8 s).getD K (0,false)=(i,false):=by
     refine a6R (i:=i+1) om ?_;rw [a7t hw,if_pos hk,lbE,lbc om,hK];simp
    subst e1 e2;have pu:=put0 K i w false (G3 s i) (rbx w) hw hK.symm (aU9 w) hKb om;conv=>whnf
    repeat' (first|refine zx ?_|refine .inr ⟨_,_,pu,?_⟩|refine g8 (f6 _ _ _) ?_|refine f8 ?_|refine i5 (t:=0) (f6 _ _ _) ?_|refine i9 (t:=0) (f6 _ _ _) ?_|apply zD<;>intro h<;>try omega)<;>conv=>whnf
    all_goals first|omega|exact ⟨_,b2Y (aU9 w) (aJ5 hg hw) (aR9 hg hw) ⟨rfl,rfl,⟨by rw [x3 om];rfl,rz⟩,rfl,⟨by rw [x3 om,b96],rz⟩,rz⟩⟩
  ·have hl1:F1.length=K1:=by rw [hF1,hK1]
   have eF:G3 s (i+1)=F1++if w.kind≠1 then [(i,true)] else []:=by rw [a7t hw,hF1]
   have hK1b:K1<=10000:=by
    have:=a0C (s:=s) i;rw [hK1,lbq];split<;>simp<;>omega
   by_cases hk:w.kind=1
   ·have e1:G3 s (i+1)=F1:=by rw [eF,if_neg (by simp [hk]),Y7]
    refine p6 d9 _ ?_;conv=>whnf
    repeat' (first|refine zx ?_|refine g8 (f6 _ _ _) ?_|refine f8 ?_|refine i5 (t:=0) (f6 _ _ _) ?_|refine i9 (t:=0) (f6 _ _ _) ?_|apply zD<;>intro h<;>try omega)<;>conv=>whnf
    all_goals try omega
    refine p6 d9 _ ?_;conv=>whnf
    repeat' (first|refine zx ?_|refine g8 (f6 _ _ _) ?_|refine f8 ?_|refine i5 (t:=0) (f6 _ _ _) ?_|refine i9 (t:=0) (f6 _ _ _) ?_|apply zD<;>intro h<;>try omega)<;>conv=>whnf
    refine ⟨hlt,trivial,idR (K1+5),?_⟩;rw [e1,hl1];exact a0Y (X:=[]) (X':=[rbx w]) (a2V rfl rfl rfl rfl rfl rfl) rfl (J0 _) zq ⟨rfl,rfl,⟨i6 om,rz⟩,rfl,rfl,d7 om,trivial⟩
   ·have e1:G3 s (i+1)=F1++[(i,true)]:=by rw [eF,if_pos hk]
    have hg:(i8 s).getD K1 (0,false)=(i,true):=by
     refine a6R (i:=i+1) om ?_;rw [e1,lbc om,hl1];simp
    have pu:=put0 K1 i w true F1 (rbx w) hw hl1 (aU9 w) hK1b om;refine p6 d9 _ ?_;conv=>whnf
    repeat' (first|refine zx ?_|refine .inr ⟨_,_,pu,?_⟩|refine g8 (f6 _ _ _) ?_|refine f8 ?_|refine i5 (t:=0) (f6 _ _ _) ?_|refine i9 (t:=0) (f6 _ _ _) ?_|apply zD<;>intro h<;>try omega)<;>conv=>whnf
    all_goals try omega
    refine b34 (env':=[J,m8 g,S.c (C.t (T.ptr (a1F s))),J,J,sP 0 0 0]++Jn 13++[S.c (C.t (J7 s.rows)),eI s.rows.length,eI i]++Jn 53) _ (b2Y (aU9 w) (aJ5 hg hw) (aR9 hg hw) ⟨rfl,rfl,⟨by rw [x3 om];rfl,rz⟩,rz⟩) ?_;refine p6 d9 _ ?_;conv=>whnf
    repeat' (first|refine zx ?_|refine g8 (f6 _ _ _) ?_|refine f8 ?_|refine i5 (t:=0) (f6 _ _ _) ?_|refine i9 (t:=0) (f6 _ _ _) ?_|apply zD<;>intro h<;>try omega)<;>conv=>whnf
    refine ⟨hlt,trivial,idR (K1+1+5),?_⟩;rw [e1,show (F1++[(i,true)]).length=K1+1 by simp [hl1]];exact a0Y (X:=[]) (X':=[rbx w]) (a2V rfl rfl rfl rfl rfl rfl) rfl (J0 _) zq ⟨rfl,rfl,⟨i6 om,rz⟩,rfl,rfl,d7 om,trivial⟩
 ·have hie:i=s.rows.length:=by omega
  subst hie;refine p6 d9 _ ?_;conv=>whnf
  repeat' (first|refine zx ?_|refine g8 (f6 _ _ _) ?_|refine f8 ?_|refine i5 (t:=0) (f6 _ _ _) ?_|refine i9 (t:=0) (f6 _ _ _) ?_|apply zD<;>intro h<;>try omega)<;>conv=>whnf
  all_goals try omega
  refine i7 d9 (fun q=>([J,J,S.c (C.t (T.ptr (a1F s))),J,J,sP 0 0 0]++Jn 35++[m8 g,eI g.length,eI q]++Jn 31,a7x n (i8 s).length (j5 s g).V (fun j=>-(L0 g q j)) (fun i=>n+i) (i8 s) (j5 s g).A [])) g.length tT (idR ((i8 s).length+5)) trivial ?_ ?_
  ·refine a0Y (X:=[]) (X':=[]) (a2V rfl rfl ?_ rfl rfl rfl) rfl (J0 _) zq ⟨k8 rfl,⟨i6 om,rz⟩,k8 rfl,d7 om,d7 rfl,trivial⟩;rw [s9 (g:=fun _=>0) (h:=fun j=>-(L0 g 0 j)) fun j hj=>by show (0:Rat)=-0;decide]
  intro q hq _;by_cases hlt:q<g.length
  ·obtain ⟨t,ht⟩:∃t,g[q]? =some t:=⟨_,lbf hlt⟩;obtain ⟨t0,t1,t2⟩:=E7 htg t (lbm ht);have nt:=a58 t.2 (hbg t (lbm ht));have gp:(rF n (fun j=>-(L0 g q j)))[0+t.1.toNat]? =some (fz (-(L0 g q t.1.toNat))):=by rw [O5,E6 om]
   have eV:0+t.1.toNat=t.1.toNat:=om;have e:t4 (flB (rF n (fun j=>-(L0 g q j)))) ((flB (rF n (fun j=>-(L0 g q j)))).rows.set (0+t.1.toNat) (frC (fz (-t.2))))=flB (rF n (fun j=>-(L0 g (q+1) j))):=by
    have e1:=I5 (row:=rF n (fun j=>-(L0 g q j))) (y:=fz (-t.2)) eV;rw [S4 om] at e1;refine e1.trans ?_;rw [I1 ht];refine congrArg flB ?_;exact s9 fun j hj=>by show (if j=t.1.toNat then -t.2 else -(L0 g q j))=-(if j=t.1.toNat then t.2 else L0 g q j);split<;>rfl
   conv=>whnf
   repeat' (first|refine zx ?_|refine f7 ht ?_|refine p8 gp ?_|refine g8 (f6 _ _ _) ?_|refine f8 ?_|refine i5 (t:=0) (f6 _ _ _) ?_|refine i9 (t:=0) (f6 _ _ _) ?_|apply zD<;>intro h<;>try omega)<;>conv=>whnf
   all_goals first|omega|exact ⟨hlt,trivial,idR ((i8 s).length+5),a0Y (X:=[]) (X':=[_]) (a2V rfl rfl e rfl rfl rfl) rfl (J0 _) zq ⟨rfl,⟨i6 om,rz⟩,rfl,rfl,d7 om,trivial⟩⟩
  ·have hqe:q=g.length:=by omega
   subst hqe;conv=>whnf
   repeat' (first|refine zx ?_|refine g8 (f6 _ _ _) ?_|refine f8 ?_|refine i5 (t:=0) (f6 _ _ _) ?_|refine i9 (t:=0) (f6 _ _ _) ?_|apply zD<;>intro h<;>try omega)<;>conv=>whnf
   all_goals try omega
   refine i7 d9 (fun q=>([J,J,J,J,J,sP 0 0 0]++Jn 53++[eI n,eI q]++Jn 14,bb1 (i8 s).length n q (j5 s g).V (j5 s g).G (fun i=>n+i) (i8 s) (j5 s g).A [])) n tT (gR ((i8 s).length+6) fF1) trivial ?_ ?_
   ·exact b8U rfl rfl ⟨⟨by rw [a4j om];rfl,rz⟩,d7 hen,d7 rfl,trivial⟩
   intro q hq _;by_cases hlt:q<n
   ·conv=>whnf
    repeat' (first|refine zx ?_|refine o6 (by simp [toC,l9]) (by simp [toC,l9];omega) ?_|refine bl0 [0] ?_|refine g8 (f6 _ _ _) ?_|refine f8 ?_|refine i5 (t:=0) (f6 _ _ _) ?_|refine i9 (t:=0) (f6 _ _ _) ?_|apply zD<;>intro h<;>try omega)<;>conv=>whnf
    all_goals first
     |omega
     |(refine ⟨hlt,trivial,fR ((i8 s).length+6) (fF2 (i8 s).length),bb3 (b98 rfl rfl rfl rfl rfl rfl (congrArg (fun z=>(mF (i8 s).length n (j5 s g).A).map flB++[z]) ?_)) ⟨⟨by rw [x3 om];rfl,rz⟩,rfl,d7 om,trivial⟩⟩
       exact congrArg (fun z=>({ mode:=.live,elem:=3,size:=1,rows:=z,box:=false }:Blk)) (a48 (O:=fun j=>j) (x:=(q:Int)) rfl))
   ·have hqe:q=n:=by omega
    subst hqe;conv=>whnf
    repeat' (first|refine zx ?_|refine g8 (f6 _ _ _) ?_|refine f8 ?_|refine i5 (t:=0) (f6 _ _ _) ?_|refine i9 (t:=0) (f6 _ _ _) ?_|apply zD<;>intro h<;>try omega)<;>conv=>whnf
    all_goals try omega
    refine a6Z (n:=(i8 s).length+6) a3Q (J0 _) a8B (fun i _=>?_) ⟨i6 om,rz⟩;have e0:a10 (i8 s).length q (i8 s) (j5 s g)=bb1 (i8 s).length q q (j5 s g).V (j5 s g).G (fun i=>q+i) (i8 s) (j5 s g).A []:=by
     have eO:(j5 s g).O=fun i=>q+i:=by funext i;show s.n.toNat+i=_;rw [hen];rfl
     show _::_::_::R3 _ (j5 s g).O::_::_::_=_::_::_::_::_::_::(_++[]);rw [Y7,eO];rfl
    rw [e0]
def ptK (n:Nat) (O:Nat->Nat) (v x0:Nat->Rat):Nat->Nat->Rat
 |0=>x0
 |k+1=>fun j=>if O k<n∧j=O k then v k else ptK n O v x0 k j
def G0 {n:Nat} {O:Nat->Nat} {v x0:Nat->Rat} {k:Nat}:ptK n O v x0 (k+1)=fun j=>if O k<n∧j=O k then v k else ptK n O v x0 k j:=rfl
def av7 {n:Nat} {O:Nat->Nat} {v x0:Nat->Rat} {j:Nat}:∀{k:Nat},(∀ i,i<k->O i≠j)->ptK n O v x0 k j=x0 j
 |0,_=>rfl
 |k+1,h=>by rw [G0];simp only;rw [if_neg (fun e=>h k om e.2.symm),av7 fun i hi=>h i om]
def au4 {n:Nat} {O:Nat->Nat} {v x0:Nat->Rat} {i:Nat}:∀{k:Nat},i<k->O i<n->(∀ a,a<k->O a=O i->a=i)->ptK n O v x0 k (O i)=v i
 |0,h,_,_=>om
 |k+1,h,hn,hu=>by
  rw [G0];simp only;by_cases he:O k=O i
  ·have:=hu k om he;subst this;rw [if_pos ⟨hn,rfl⟩]
  ·rw [if_neg (fun e=>he e.2.symm)];have:i≠k:=fun e=>he (by rw [e])
   exact au4 om hn fun a ha=>hu a om
def a9p {m n:Nat} {D:Fd} (hP:X8 m n D) {j:Nat} (hj:j<n):ptK n D.O D.V (fun _=>0) m j=a0j m n D 1 (fun _=>0) j:=by
 rcases hP.all j om with ⟨i,hi,rfl⟩|⟨q,hq,rfl⟩
 ·rw [au4 hi hj fun a ha he=>hP.oi a i ha hi he,a7b hP hi,x4 fun j _=>by grind];grind
 ·rw [av7 fun i hi=>hP.of i q hi hq,a16 hP hq]
def ag6 {m n c:Nat} {D:Fd} (hP:X8 m n D) (hc:c<n) {j:Nat} (hj:j<n):ptK n D.O (fun i=>-(D.A i c)) (fun j=>if D.F c<n∧j=D.F c then 1 else 0) m j=a0j m n D 0 (fun q=>if q=c then 1 else 0) j:=by
 rcases hP.all j om with ⟨i,hi,rfl⟩|⟨q,hq,rfl⟩
 ·rw [au4 hi hj fun a ha he=>hP.oi a i ha hi he,a7b hP hi,j7 (g:=fun q=>(if c=q then (1:Rat) else 0)*D.A i q) fun q _=>by
   by_cases h:q=c
   ·subst h;simp only [if_true];grind
   ·rw [if_neg h,if_neg (fun e=>h e.symm)];grind,a5C hc]
  grind
 ·rw [av7 fun i hi=>hP.of i q hi hq,a16 hP hq];by_cases h:q=c
  ·subst h;rw [if_pos rfl,if_pos ⟨hj,rfl⟩]
  ·rw [if_neg h,if_neg (fun e=>h (hP.fi q c hq hc e.2))]
def a7D (n:Nat) (y:Nat->Rat):(zOf n y).map fz=rF n y:=by unfold zOf rF;rw [a4P];rfl
abbrev dT (m n:Nat) (fr:LB) (D:Fd):S:=.c (.t (.ptr (bi2 m n fr D)))
def b8F (m n:Nat) (fr:LB) (D:Fd) (hP:X8 m n D) (hm:m<=100000) (hn:n<=1000):ec 220 [dT m n fr D] [] (p5 ((zOf n (a0j m n D 1 (fun _=>0))).map fz)) []:=by
 have m1:(X6 m D.O).length=m:=l9 _ _;have z0:∀H:Hp,H.length=0->a02 Tryz.prog 289 [eI n] H (.c (.own 0 0 n true)) [flB (rF n fun _=>0)]:=fun H hH=>a2Q hH hn
 rw [a7D,←s9 (g:=ptK n D.O D.V (fun _=>0) m) fun j hj=>a9p hP hj];refine ac Tryz.func220 ?_;conv=>whnf
 repeat' (first|refine zx ?_|refine .inl ⟨_,_,z0 _ rfl,?_⟩|apply zD<;>intro h<;>try omega)<;>conv=>whnf
 refine i7 d9 (fun k=>([dT m n fr D,J,J,S.c (C.own 0 0 n true)]++Jn 10++[ab1 m D.O,eI m,eI k]++Jn 23,[flB (rF n (ptK n D.O D.V (fun _=>0) k))])) m tT [some 0] trivial
  ⟨rfl,rfl,⟨f5 (e7 _),trivial⟩,⟨k8 rfl,⟨rfl,rfl,rfl,fun h=>h⟩,k8 rfl,d7 om,d7 rfl,trivial⟩⟩ ?_
 intro k hk _;by_cases hlt:k<m
 ·by_cases ho:D.O k<n
  ·have gp:(rF n (ptK n D.O D.V (fun _=>0) k))[0+((D.O k:Nat):Int).toNat]? =some (fz (ptK n D.O D.V (fun _=>0) k (D.O k))):=by rw [show 0+((D.O k:Nat):Int).toNat=D.O k by omega,E6 ho]
   have e:t4 (flB (rF n (ptK n D.O D.V (fun _=>0) k))) ((flB (rF n (ptK n D.O D.V (fun _=>0) k))).rows.set (0+((D.O k:Nat):Int).toNat) (frC (fz (D.V k))))=flB (rF n (ptK n D.O D.V (fun _=>0) (k+1))):=by
    rw [I5 (show 0+((D.O k:Nat):Int).toNat=D.O k by omega),S4 ho,G0];refine congrArg flB (s9 fun j hj=>?_);simp only [ho,true_and]
   conv=>whnf
   repeat' (first|refine zx ?_|refine s8 rfl hlt ?_|refine a42 rfl hlt ?_|refine p8 gp ?_|apply zD<;>intro h<;>try omega)<;>conv=>whnf
   all_goals first|omega|exact ⟨hlt,trivial,[some 0],rfl,rfl,⟨⟨rfl,rfl,rfl,.inl ⟨congrArg Blk.rows e,(congrArg Blk.rows e) ▸ e7 _⟩⟩,trivial⟩,⟨rfl,⟨rfl,rfl,rfl,fun h=>h⟩,rfl,rfl,d7 om,trivial⟩⟩
  ·have e:ptK n D.O D.V (fun _=>0) (k+1)=ptK n D.O D.V (fun _=>0) k:=by rw [G0];funext j;rw [if_neg (fun h=>ho h.1)]
   conv=>whnf
   repeat' (first|refine zx ?_|refine s8 rfl hlt ?_|apply zD<;>intro h<;>try omega)<;>conv=>whnf
   all_goals first|omega|exact ⟨hlt,trivial,[some 0],rfl,rfl,⟨d8 (rows:=(rF n (ptK n D.O D.V (fun _=>0) k)).map t5) rfl rfl rfl rfl (by rw [e]),trivial⟩,⟨rfl,⟨rfl,rfl,rfl,fun h=>h⟩,rfl,rfl,d7 om,trivial⟩⟩
 ·have hke:k=m:=by omega
  subst hke;conv=>whnf
  repeat' (first|refine zx ?_|apply zD<;>intro h<;>try omega)<;>conv=>whnf
  all_goals first|omega|exact I4 rfl (fun h=>h) rfl rfl (by simp [K5])
def bp6 (m n:Nat) (fr:LB) (D:Fd) (c:Nat) (hc:c<n) (hP:X8 m n D) (hm:m<=100000) (hn:n<=1000) (hB:∀i,i<m->rl (D.A i c)<=60000):
 ec 221 [dT m n fr D,eI c] [] (p5 ((zOf n (a0j m n D 0 (fun q=>if q=c then 1 else 0))).map fz)) []:=by
 have m1:(X6 m D.O).length=m:=l9 _ _;have z0:∀H:Hp,H.length=0->a02 Tryz.prog 289 [eI n] H (.c (.own 0 0 n true)) [flB (rF n fun _=>0)]:=fun H hH=>a2Q hH hn
 have i1:=W9 1 de de;obtain ⟨x0,hx0⟩:∃x0:Nat->Rat,x0=fun j=>if D.F c<n∧j=D.F c then 1 else 0:=⟨_,rfl⟩
 rw [a7D,←s9 (g:=ptK n D.O (fun i=>-(D.A i c)) x0 m) fun j hj=>by rw [hx0];exact ag6 hP hc hj];by_cases hf:D.F c<n
 ·have gp0:(rF n (fun _=>(0:Rat)))[0+((D.F c:Nat):Int).toNat]? =some (fz 0):=by rw [show 0+((D.F c:Nat):Int).toNat=D.F c by omega,E6 hf]
  have e0:t4 (flB (rF n (fun _=>(0:Rat)))) ((flB (rF n (fun _=>(0:Rat)))).rows.set (0+((D.F c:Nat):Int).toNat) (frC (fz ((1:Int):Rat))))=flB (rF n x0):=by
   rw [I5 (show 0+((D.F c:Nat):Int).toNat=D.F c by omega),S4 hf,hx0];refine congrArg flB (s9 fun j hj=>?_);simp only [hf,true_and];rfl
  refine ac Tryz.func221 ?_;conv=>whnf
  repeat' (first|refine zx ?_|refine .inl ⟨_,_,z0 _ rfl,?_⟩|refine s8 rfl hc ?_|refine p8 gp0 ?_|apply zD<;>intro h<;>try omega)<;>conv=>whnf
  all_goals try omega
  refine i7 d9 (fun k=>([dT m n fr D,eI c,J,J,J,S.c (C.own 0 0 n true)]++Jn 28++[ab1 m D.O,eI m,eI k]++Jn 27,[flB (rF n (ptK n D.O (fun i=>-(D.A i c)) x0 k))])) m tT [some 0] trivial
   ⟨rfl,rfl,⟨⟨rfl,rfl,rfl,.inl ⟨congrArg Blk.rows e0,(congrArg Blk.rows e0) ▸ e7 _⟩⟩,trivial⟩,⟨k8 rfl,d7 rfl,⟨rfl,rfl,rfl,fun h=>h⟩,k8 rfl,d7 om,d7 rfl,trivial⟩⟩ ?_
  intro k hk _;by_cases hlt:k<m
  ·have ng:=a58 (D.A k c) (hB k hlt);by_cases ho:D.O k<n
   ·have gp:(rF n (ptK n D.O (fun i=>-(D.A i c)) x0 k))[0+((D.O k:Nat):Int).toNat]? =some (fz (ptK n D.O (fun i=>-(D.A i c)) x0 k (D.O k))):=by rw [show 0+((D.O k:Nat):Int).toNat=D.O k by omega,E6 ho]
    have e:t4 (flB (rF n (ptK n D.O (fun i=>-(D.A i c)) x0 k))) ((flB (rF n (ptK n D.O (fun i=>-(D.A i c)) x0 k))).rows.set (0+((D.O k:Nat):Int).toNat) (frC (fz (-(D.A k c)))))=flB (rF n (ptK n D.O (fun i=>-(D.A i c)) x0 (k+1))):=by
     rw [I5 (show 0+((D.O k:Nat):Int).toNat=D.O k by omega),S4 ho,G0];refine congrArg flB (s9 fun j hj=>?_);simp only [ho,true_and]
    conv=>whnf
    repeat' (first|refine zx ?_|refine s8 rfl hlt ?_|refine a42 rfl hlt ?_|refine a55 rfl hc ?_|refine p8 gp ?_|apply zD<;>intro h<;>try omega)<;>conv=>whnf
    all_goals first|omega|exact ⟨hlt,trivial,[some 0],rfl,rfl,⟨⟨rfl,rfl,rfl,.inl ⟨congrArg Blk.rows e,(congrArg Blk.rows e) ▸ e7 _⟩⟩,trivial⟩,⟨rfl,rfl,⟨rfl,rfl,rfl,fun h=>h⟩,rfl,rfl,d7 om,trivial⟩⟩
   ·have e:ptK n D.O (fun i=>-(D.A i c)) x0 (k+1)=ptK n D.O (fun i=>-(D.A i c)) x0 k:=by rw [G0];funext j;rw [if_neg (fun h=>ho h.1)]
    conv=>whnf
    repeat' (first|refine zx ?_|refine s8 rfl hlt ?_|apply zD<;>intro h<;>try omega)<;>conv=>whnf
    all_goals first|omega|exact ⟨hlt,trivial,[some 0],rfl,rfl,⟨d8 (rows:=(rF n (ptK n D.O (fun i=>-(D.A i c)) x0 k)).map t5) rfl rfl rfl rfl (by rw [e]),trivial⟩,⟨rfl,rfl,⟨rfl,rfl,rfl,fun h=>h⟩,rfl,rfl,d7 om,trivial⟩⟩
  ·have hke:k=m:=by omega
   subst hke;conv=>whnf
   repeat' (first|refine zx ?_|apply zD<;>intro h<;>try omega)<;>conv=>whnf
   all_goals first|omega|exact I4 rfl (fun h=>h) rfl rfl (by simp [K5])
 ·have e0:x0=fun _=>0:=by rw [hx0];funext j;rw [if_neg (fun h=>hf h.1)]
  refine ac Tryz.func221 ?_;conv=>whnf
  repeat' (first|refine zx ?_|refine .inl ⟨_,_,z0 _ rfl,?_⟩|refine s8 rfl hc ?_|apply zD<;>intro h<;>try omega)<;>conv=>whnf
  all_goals try omega
  refine i7 d9 (fun k=>([dT m n fr D,eI c,J,J,J,S.c (C.own 0 0 n true)]++Jn 28++[ab1 m D.O,eI m,eI k]++Jn 27,[flB (rF n (ptK n D.O (fun i=>-(D.A i c)) x0 k))])) m tT [some 0] trivial
   ⟨rfl,rfl,⟨d8 (rows:=(rF n (fun _=>0)).map t5) rfl rfl rfl rfl (by rw [e0];rfl),trivial⟩,⟨k8 rfl,d7 rfl,⟨rfl,rfl,rfl,fun h=>h⟩,k8 rfl,d7 om,d7 rfl,trivial⟩⟩ ?_
  intro k hk _;by_cases hlt:k<m
  ·have ng:=a58 (D.A k c) (hB k hlt);by_cases ho:D.O k<n
   ·have gp:(rF n (ptK n D.O (fun i=>-(D.A i c)) x0 k))[0+((D.O k:Nat):Int).toNat]? =some (fz (ptK n D.O (fun i=>-(D.A i c)) x0 k (D.O k))):=by rw [show 0+((D.O k:Nat):Int).toNat=D.O k by omega,E6 ho]
    have e:t4 (flB (rF n (ptK n D.O (fun i=>-(D.A i c)) x0 k))) ((flB (rF n (ptK n D.O (fun i=>-(D.A i c)) x0 k))).rows.set (0+((D.O k:Nat):Int).toNat) (frC (fz (-(D.A k c)))))=flB (rF n (ptK n D.O (fun i=>-(D.A i c)) x0 (k+1))):=by
     rw [I5 (show 0+((D.O k:Nat):Int).toNat=D.O k by omega),S4 ho,G0];refine congrArg flB (s9 fun j hj=>?_);simp only [ho,true_and]
    conv=>whnf
    repeat' (first|refine zx ?_|refine s8 rfl hlt ?_|refine a42 rfl hlt ?_|refine a55 rfl hc ?_|refine p8 gp ?_|apply zD<;>intro h<;>try omega)<;>conv=>whnf
    all_goals first|omega|exact ⟨hlt,trivial,[some 0],rfl,rfl,⟨⟨rfl,rfl,rfl,.inl ⟨congrArg Blk.rows e,(congrArg Blk.rows e) ▸ e7 _⟩⟩,trivial⟩,⟨rfl,rfl,⟨rfl,rfl,rfl,fun h=>h⟩,rfl,rfl,d7 om,trivial⟩⟩
   ·have e:ptK n D.O (fun i=>-(D.A i c)) x0 (k+1)=ptK n D.O (fun i=>-(D.A i c)) x0 k:=by rw [G0];funext j;rw [if_neg (fun h=>ho h.1)]
    conv=>whnf
    repeat' (first|refine zx ?_|refine s8 rfl hlt ?_|apply zD<;>intro h<;>try omega)<;>conv=>whnf
    all_goals first|omega|exact ⟨hlt,trivial,[some 0],rfl,rfl,⟨d8 (rows:=(rF n (ptK n D.O (fun i=>-(D.A i c)) x0 k)).map t5) rfl rfl rfl rfl (by rw [e]),trivial⟩,⟨rfl,rfl,⟨rfl,rfl,rfl,fun h=>h⟩,rfl,rfl,d7 om,trivial⟩⟩
  ·have hke:k=m:=by omega
   subst hke;conv=>whnf
   repeat' (first|refine zx ?_|apply zD<;>intro h<;>try omega)<;>conv=>whnf
   all_goals first|omega|exact I4 rfl (fun h=>h) rfl rfl (by simp [K5])
def aD7 (y:Nat->Rat) (r:Nat) (p:Rat):Nat->Rat:=fun i=>if i=r then y i+p else y i
def bv3 (b:Bool) (p:Rat):rl (S0 b p)=rl p:=by cases b;rfl;exact U6 p
def b5W (m n:Nat) (fr:LB) (D:Fd) (R:Nat) (y:Nat->Rat) (k row:Nat) (b:Bool) (p:Rat) (hk:fr[k]? =some (row,b)) (hr:row<R) (hp:rl p<=50000) (hy:rl (y row)<=50000):
 ec 298 [dT m n fr D,.c (.own 0 0 R true),eI k,frS (fz p)] [flB (rF R y)] (.tup []) [flB (rF R (aD7 y row (-(S0 b p))))]:=by
 have m1:(a15 fr).length=fr.length:=by simp [a15]
 have eR:0+(row:Int).toNat=row:=om;have gp:(rF R y)[0+(row:Int).toNat]? =some (fz (y row)):=by rw [eR,E6 hr]
 have ng:=a58 p om;cases b with
 |true=>
  have ad:=a5h (y row) p om om;have e:t4 (flB (rF R y)) ((flB (rF R y)).rows.set (0+(row:Int).toNat) (frC (fz (y row+p))))=flB (rF R (aD7 y row (-(S0 true p)))):=by
   rw [I5 eR,S4 hr];refine congrArg flB (s9 fun j hj=>?_);show (if j=row then y row+p else y j)=if j=row then y j+- -p else y j
   by_cases h:j=row
   ·subst h;rw [if_pos rfl,if_pos rfl,Rat.neg_neg]
   ·rw [if_neg h,if_neg h]
  refine ac Tryz.func298 ?_;conv=>whnf
  repeat' (first|refine zx ?_|refine f7 hk ?_|refine p8 gp ?_|refine bl0 [12] ?_|apply zD<;>intro h<;>try omega)<;>conv=>whnf
  all_goals first
   |omega
   |(exfalso;simp_all;done)
   |exact ⟨[some 0],rfl,rfl,⟨⟨rfl,rfl,rfl,.inl ⟨congrArg Blk.rows e,(congrArg Blk.rows e) ▸ e7 _⟩⟩,trivial⟩,trivial⟩
 |false=>
  have ad:=a5h (y row) (-p) om (by rw [U6];omega);have e:t4 (flB (rF R y)) ((flB (rF R y)).rows.set (0+(row:Int).toNat) (frC (fz (y row+-p))))=flB (rF R (aD7 y row (-(S0 false p)))):=by
   rw [I5 eR,S4 hr];refine congrArg flB (s9 fun j hj=>?_);show (if j=row then y row+-p else y j)=if j=row then y j+-p else y j
   by_cases h:j=row
   ·subst h;rfl
   ·rw [if_neg h,if_neg h]
  refine ac Tryz.func298 ?_;conv=>whnf
  repeat' (first|refine zx ?_|refine f7 hk ?_|refine p8 gp ?_|refine bl0 [12] ?_|apply zD<;>intro h<;>try omega)<;>conv=>whnf
  all_goals first|omega|(exfalso;simp_all;done)|exact ⟨[some 0],rfl,rfl,⟨⟨rfl,rfl,rfl,.inl ⟨congrArg Blk.rows e,(congrArg Blk.rows e) ▸ e7 _⟩⟩,trivial⟩,trivial⟩
def yK (z:Nat->Rat) (f:Nat->Nat->Rat) (k:Nat):Nat->Rat:=fun i=>z i+k7 (fun j=>f j i) k
def b3b {z:Nat->Rat} {f:Nat->Nat->Rat} {k:Nat}:yK z f (k+1)=fun i=>yK z f k i+f k i:=by
 funext i;unfold yK;simp only [k7];grind
def ag9 {f:Nat->Rat} {B:Nat}:∀k:Nat,(∀ j,j<k->rl (f j)<=B)->rl (k7 f k)<=k*(B+1)+1
 |0,_=>by
  have h0:=rl0;have e:k7 f 0=0:=by simp only [k7,a0Q]
  rw [e];omega
 |k+1,h=>by
  have h1:=ag9 k fun j hj=>h j om
  have h2:=h k om;have h3:=a3A (k7 f k) (f k);simp only [k7];rw [lbW];omega
def bx5 {s:j2} {w i B:Nat} {p:Rat} (h:rl p<=B) (hB:1<=B):rl (chg s w p i)<=B:=by
 unfold chg;split
 ·rw [U6,bv3];exact h
 ·have:=rl0;omega
def bc7 {s:j2} {w:Nat} {p:Rat} (h:w<s.n.toNat):chg s w p=fun _=>0:=by
 funext i;unfold chg;rw [if_neg (fun e=>om)]
def bs5 {s:j2} {w k row:Nat} {b:Bool} {p:Rat} (hw:w=s.n.toNat+k) (hf:(i8 s)[k]? =some (row,b)) (y:Nat->Rat):aD7 y row (-(S0 b p))=fun i=>y i+chg s w p i:=by
 funext i;have e:F7 s (w - s.n.toNat)=(row,b):=by unfold F7;rw [show w - s.n.toNat=k by omega,lbl,hf];rfl
 unfold aD7 chg;rw [e];by_cases h:i=row
 ·subst h;rw [if_pos rfl,if_pos ⟨om,rfl⟩]
 ·rw [if_neg h,if_neg (fun e=>h e.2.symm)];grind
def b6P {s:j2} {k:Nat} {f:Nat × Bool} (h:(i8 s)[k]? =some f):f.1<s.rows.length:=by
 obtain ⟨w,hw,_⟩:=Q1.1 (lbm h);exact (lbe.1 hw).1
def b5z (s:j2) (n:Nat) (hn:s.n=n) (E:Fd) (hP:X8 (i8 s).length n E) (B:Nat) (hB:∀j,j<n->rl (E.G j)<=B) (hB1:1<=B) (hBn:(n+2)*(B+2)<=50000) (hm:(i8 s).length<=100000) (hR:s.rows.length<=1000) (hn1:n<=1000):
 ec 223 [dT (i8 s).length n (i8 s) E,eI s.rows.length] [] (.c (.own 0 0 s.rows.length true)) [flB (rF s.rows.length (V4 s E))]:=by
 have m1:(X6 n E.F).length=n:=l9 _ _;have hnn:s.n.toNat=n:=om;have z0:∀H:Hp,H.length=0->a02 Tryz.prog 289 [eI s.rows.length] H (.c (.own 0 0 s.rows.length true)) [flB (rF s.rows.length fun _=>0)]:=fun H hH=>a2Q hH hR
 have eB:B<=50000:=by
  have:(n+2)*(B+2)=n*(B+2)+2*(B+2):=by rw [T4]
  omega
 obtain ⟨f,hf⟩:∃f:Nat->Nat->Rat,f=fun j=>chg s (E.F j) (-(E.G j)):=⟨_,rfl⟩
 have e9:V4 s E=yK (fun _=>0) f n:=by
  funext i;unfold V4 yK;rw [hf,hnn];grind
 rw [e9];refine ac Tryz.func223 ?_;conv=>whnf
 repeat' (first|refine zx ?_|refine .inl ⟨_,_,z0 _ rfl,?_⟩|apply zD<;>intro h<;>try omega)<;>conv=>whnf
 refine i7 d9 (fun k=>([dT (i8 s).length n (i8 s) E,J,J,J,J,S.c (C.own 0 0 s.rows.length true),J,J,J,J,J,J,J,ab1 n E.F,eI n,eI k]++Jn 29,[flB (rF s.rows.length (yK (fun _=>0) f k))])) n tT [some 0] trivial
  ⟨rfl,rfl,⟨d8 (rows:=(rF s.rows.length (fun _=>0)).map t5) rfl rfl rfl rfl ?_,trivial⟩,⟨k8 rfl,⟨rfl,rfl,rfl,fun h=>h⟩,k8 rfl,d7 om,d7 rfl,trivial⟩⟩ ?_
 ·rw [s9 (g:=yK (fun _=>0) f 0) (h:=fun _=>0) fun j hj=>by unfold yK;simp only [k7,a0Q];grind]
 intro k hk _;by_cases hlt:k<n
 ·have ng:=a58 (E.G k) (by have:=hB k hlt;omega);by_cases ho:E.F k<n
  ·have e:yK (fun _=>0) f (k+1)=yK (fun _=>0) f k:=by
    rw [b3b,hf];funext i;have e0:chg s (E.F k) (-(E.G k)) i=0:=by rw [bc7 om]
    show _+chg s (E.F k) (-(E.G k)) i=_;rw [e0];grind
   conv=>whnf
   repeat' (first|refine zx ?_|refine s8 rfl hlt ?_|apply zD<;>intro h<;>try omega)<;>conv=>whnf
   all_goals first|omega|exact ⟨hlt,trivial,[some 0],rfl,rfl,⟨d8 (rows:=(rF s.rows.length (yK (fun _=>0) f k)).map t5) rfl rfl rfl rfl (by rw [e]),trivial⟩,⟨rfl,⟨rfl,rfl,rfl,fun h=>h⟩,rfl,rfl,d7 om,trivial⟩⟩
  ·have hfb:=hP.fb k hlt;obtain ⟨q,hq⟩:∃q,E.F k=n+q:=⟨E.F k - n,om⟩;obtain ⟨⟨row,b⟩,hfr⟩:∃x,(i8 s)[q]? =some x:=⟨_,lbf om⟩;have hrow:row<s.rows.length:=b6P hfr;have by1:rl (yK (fun _=>0) f k row)<=50000:=by
    have h1:=ag9 (f:=fun j=>f j row) (B:=B) k fun j hj=>by rw [hf];exact bx5 (by rw [U6];exact hB j om) hB1
    have e:yK (fun _=>0) f k row=k7 (fun j=>f j row) k:=by unfold yK;grind
    rw [e];have:k*(B+1)<=n*(B+1):=lbV _ om;have:(n+2)*(B+2)=n*(B+1)+n+2*(B+2):=by rw [T4,show n*(B+2)=n*(B+1)+n by rw [Nat.mul_add,Nat.mul_add];omega]
    omega
   have ch:=b5W (i8 s).length n (i8 s) E s.rows.length (yK (fun _=>0) f k) q row b (-(E.G k)) hfr hrow (by rw [U6];have:=hB k hlt;omega) by1;have e:aD7 (yK (fun _=>0) f k) row (-(S0 b (-(E.G k))))=yK (fun _=>0) f (k+1):=by rw [bs5 (s:=s) (w:=E.F k) om hfr,b3b,hf]
   rw [e,show ((q:Nat):Int)=(E.F k:Int) - n by omega] at ch;conv=>whnf
   repeat' (first|refine zx ?_|refine s8 rfl hlt ?_|refine a55 rfl hlt ?_|refine .inr ⟨_,_,ch,?_⟩|apply zD<;>intro h<;>try omega)<;>conv=>whnf
   all_goals first|omega|exact ⟨hlt,trivial,[some 0],rfl,rfl,⟨f5 (e7 _),trivial⟩,⟨rfl,⟨rfl,rfl,rfl,fun h=>h⟩,rfl,rfl,d7 om,trivial⟩⟩
 ·have hke:k=n:=by omega
  subst hke;conv=>whnf
  repeat' (first|refine zx ?_|apply zD<;>intro h<;>try omega)<;>conv=>whnf
  all_goals first|omega|exact ⟨[some 0],rfl,rfl,⟨f5 (e7 _),trivial⟩,⟨rfl,rfl,rfl,fun h=>h⟩⟩
def a7c (ρ:List (Option Nat)) (H:Hp):Env->Env->Prop
 |[],[]=>True
 |s::r,s'::r'=>match s' with
  |.junk=>a7c ρ H r r'
  |s'=>(a68 ρ H s s'∨VYS H (fun id=>G8 ρ id=true) s s')∧a7c ρ H r r'
 |_,_=>False
def a7c.rel {ρ:List (Option Nat)} {H:Hp}:∀{env env':Env},a7c ρ H env env'->env.length=env'.length∧∀(t:Nat) (s':S),env'[t]? =some s'->∃s,env[t]? =some s∧(a68 ρ H s s'∨VYS H (fun id=>G8 ρ id=true) s s')
 |[],[],_=>⟨rfl,zq⟩
 |s::r,s'::r',h=>by
  have h':(a68 ρ H s s'∨VYS H (fun id=>G8 ρ id=true) s s')∧a7c ρ H r r':=by
   cases s' with
   |junk=>exact ⟨.inl trivial,h⟩
   |_=>exact h
  obtain ⟨h1,h2⟩:=a7c.rel h'.2;refine ⟨by simp [h1],fun t s'' ht=>?_⟩;cases t with
  |zero=>simp at ht;subst ht;exact ⟨s,rfl,h'.1⟩
  |succ t=>simpa using h2 t s'' (by simpa using ht)
 |[],_::_,h=>h.elim
 |_::_,[],h=>h.elim
structure b7f (n0:Nat) (ρ:List (Option Nat)) (env:Env) (H:Hp) (env':Env) (H':Hp):Prop where
 k:a2L ρ n0=true
 n:U4 ρ H'=true
 h:a4S ρ H ρ H'
 e:a7c ρ H env env'
def b7f.sim {n0:Nat} {ρ:List (Option Nat)} {env env':Env} {H H':Hp} (h:b7f n0 ρ env H env' H') {w0:World} {ι0:Io} {M0:Ms} {H0:Hp} {a:Act} {w:World} (hn:H0.length=n0) (hM0:MB w0 M0)
 (hs:Sim w0 ι0 M0 H0 a w env H):Sim w0 ι0 M0 H0 a w env' H':=by
 obtain ⟨h1,h2,h3,h4⟩:=h;obtain ⟨ι,M,hd,hsz,he,hH,hM,hF,hst⟩:=hs;obtain ⟨hel,heg⟩:=a7c.rel h4;obtain ⟨q1,q2,q3⟩:=a4S.all h1 h2 h3 hn hM0 hH hst;refine ⟨T6 ρ ι,_,hd,om,fun t s' ht=>?_,q1,fun b hb=>hM b hb.1,q2,q3⟩;obtain ⟨s,r1,r2⟩:=heg t s' ht;rcases r2 with r2|r2
 ·exact r2.rs hH (he t s r1)
 ·refine r2.rs hH (fun b hb=>hb.1) ?_ (he t s r1);intro id k b cap size hp hk hd hi hb;exact hb.2 ⟨id,k,cap,size,hp,hk,hd,hi⟩
def a1E {P:Program} {τ:Tab} (hτ:E0 P τ) {n0:Nat} {x y:Code} {env:Env} {H:Hp} {Q:AX->Env->Hp->Prop} (E2:Env) (H2:Hp)
 (h:a3g P τ n0 x env H fun a env' H'=>match a with
   |.normal=>∃ρ,b7f n0 ρ env' H' E2 H2
   |a=>Q a env' H') (h2:Awp P n0 y E2 H2 Q):Awp P n0 (.seq x y) env H Q:=by
 refine ⟨fun w0 ι0 M0 H0 a w hn hM hs=>?_⟩;refine wp_seq (wp_mono ((p6 hτ x h).out w0 ι0 M0 H0 a w hn hM hs) ?_);rintro e a' w' ⟨x,env',H',rfl,hq,hs'⟩;cases x with
 |normal=>obtain ⟨ρ,he⟩:=hq;exact h2.out w0 ι0 M0 H0 a' w' hn hM (he.sim hn hM hs')
 |exit id=>exact ⟨_,env',H',rfl,hq,hs'⟩
 |ret=>exact ⟨_,env',H',rfl,hq,hs'⟩
def b4V {P:Program} {n0:Nat} {c:Operand} {t e:Code} {env:Env} {H:Hp} {Q:AX->Env->Hp->Prop} {b:Bool} (hb:J3 env c=j8 b) (h:Awp P n0 (cond b t e) env H Q):Awp P n0 (.cond c t e) env H Q:=by
 refine ⟨fun w0 ι0 M0 H0 a w hn hM hs=>?_⟩;have hs0:=hs;obtain ⟨ι,M,hd,hsz,he,hH,hMB,hF,hst⟩:=hs;have hv:=(he.ev.to hb).inv_atm;refine wp_cond hv ?_;cases b with
 |true=>exact h.out w0 ι0 M0 H0 a w hn hM hs0
 |false=>exact h.out w0 ι0 M0 H0 a w hn hM hs0
def b8N {m n:Nat} {fr:LB} {D:Fd} {X:Hp} {p:Nat->Prop} (hp:∀i,i<m+6->p i):VY (N8 m n fr D.V D.G D.O D.F D.A X) p (.own 1 0 m true) (.sl 5 .any (ac7 m n D)):=by
 refine b21 (k:=a1x 6 m n D.V) (hp _ om) rfl (fun h=>h) rfl (a6C m n D) ?_ ?_
 ·intro r hr;obtain ⟨i,_,rfl⟩:=lby.1 hr
  rfl
 ·intro i r hi;have him:i<m:=by have:=(lbe.1 hi).1;rwa [a6C] at this
  rw [a9Z him] at hi;injection hi with hi;subst hi;refine ⟨_,a3O him,?_⟩;show VYL _ _ ((t5 (fz (D.V i))).map C.t++[C.own (i+6) 0 n true]) _;have hv:VY (N8 m n fr D.V D.G D.O D.F D.A X) p (C.own (i+6) 0 n true) (T.sl 4 .any ((rF n (D.A i)).map t5)):=
   .vc (s6 (k:=flB (rF n (D.A i))) (hp _ om) (E9 (U3 him)) (fun h=>h) rfl rfl (by simp [K5]))
  exact aL6 (ys:=[C.own (i+6) 0 n true]) (us:=[T.sl 4 .any ((rF n (D.A i)).map t5)]) (show _∧True from ⟨hv,trivial⟩)
def aN9 {m n:Nat} {fr:LB} {D:Fd} {X:Hp} {p:Nat->Prop} (hp:∀i,i<m+6->p i):VY (N8 m n fr D.V D.G D.O D.F D.A X) p (.ptr 0 0 0) (.ptr (bi2 m n fr D)):=by
 refine aa3 (k:=b2T m n fr.length) (hp _ om) rfl (fun h=>h) rfl ⟨av8,b8N hp,?_,?_,?_,?_,trivial⟩
 ·exact .vc (s6 (k:=flB (rF n D.G)) (hp _ om) rfl (fun h=>h) rfl rfl (by simp [K5]))
 ·exact .vc (s6 (k:=R3 m D.O) (hp _ om) rfl (fun h=>h) rfl rfl (by simp [l9]))
 ·exact .vc (s6 (k:=R3 n D.F) (hp _ om) rfl (fun h=>h) rfl rfl (by simp [l9]))
 ·exact .vc (s6 (k:=a2o fr) (hp _ om) rfl (fun h=>h) rfl rfl (by simp [a15]))
abbrev bz0 (m n k:Nat):Blk:={ mode:=.live,elem:=285,size:=6,rows:=[[C.t (ti n),.own 2 0 m true,.own 3 0 n true,.own 4 0 m true,.own 5 0 n true,.own 6 0 k true]],box:=true }
abbrev bn9 (m n:Nat) (fr:LB) (D:Fd) (b:Blk):Hp:=
 b::bz0 m n fr.length::a1x 7 m n D.V::flB (rF n D.G)::R3 m D.O::R3 n D.F::a2o fr::(mF m n D.A).map flB
def b3Y {N i:Nat} (h:i<N):(a4Z [] 1 N).getD i 0=i+1:=by
 unfold a4Z;rw [aZ1,lbl,lba,lbh h];show 1+i=i+1;omega
def bp0 {σ:List Nat} (ts:List T) (l:List C):a1m σ (ts.map C.t++l)=ts.map C.t++a1m σ l:=by
 rw [P7,P7,lbD,a4P]
 congr 1
def aO7 {s:j2} {g:List (Int × Rat)} {n:Nat} (b:Blk) (h:ec 218 [S9 s,m8 g] [] (.c (.ptr 0 0 0)) (a10 (i8 s).length n (i8 s) (j5 s g))):
 ec 218 [S9 s,m8 g] [b] (.c (.ptr 1 0 0)) (bn9 (i8 s).length n (i8 s) (j5 s g) b):=by
 have hlen:(a10 (i8 s).length n (i8 s) (j5 s g)).length=(i8 s).length+6:=a3Q;have hl:∀k ∈ a10 (i8 s).length n (i8 s) (j5 s g),k.mode=.live:=by
  intro k hk;simp only [lbB] at hk;rcases hk with rfl|rfl|rfl|rfl|rfl|rfl|hk
  ·rfl
  ·rfl
  ·rfl
  ·rfl
  ·rfl
  ·rfl
  ·obtain ⟨l,_,rfl⟩:=lby.1 hk;rfl
 have hsub:(a10 (i8 s).length n (i8 s) (j5 s g)).length - ([]:Hp).length=(i8 s).length+6:=by rw [hlen];simp
 have g1:∀i,i<(i8 s).length+6->(a4Z [] ([b]:Hp).length ((a10 (i8 s).length n (i8 s) (j5 s g)).length - ([]:Hp).length)).getD i 0=i+1:=fun i hi=>by
  rw [hsub];exact b3Y hi
 refine W4 [] h rfl rfl rfl List.nodup_nil zq (fun k hk=>by rw [hl k hk];intro h;cases h) zq rfl ?_ (by rw [hsub];simp [f6];omega) ?_ ?_
 ·show S.c (.ptr 1 0 0)=S.c (.ptr _ 0 0);rw [g1 0 om]
 ·intro i k hk;have hi:i<(i8 s).length+6:=by rw [← hlen];exact (lbe.1 hk).1
  rw [g1 i hi];rcases i with _|_|_|_|_|_|i
  ·injection hk with hk;subst hk
   refine ⟨_,rfl,rfl,rfl,rfl,rfl,?_⟩;simp only [a7H,ad9,List.map_nil,a1m,Z4];rw [g1 1 om,g1 2 om,g1 3 om,g1 4 om,g1 5 om]
  ·injection hk with hk;subst hk
   refine ⟨_,rfl,rfl,rfl,rfl,rfl,?_⟩;unfold a7H;show W6 7 _ _ _=(W6 6 _ _ _).map _;unfold W6;rw [a4P];refine lbp fun j hj=>?_
   have hj:=lbC.1 hj;show _=a1m _ ((t5 (fz ((j5 s g).V j))).map C.t++[C.own (j+6) 0 n true]);rw [bp0];simp only [a1m,Z4];rw [g1 (j+6) om]
   rfl
  ·injection hk with hk;subst hk;exact ⟨_,rfl,B3 rfl⟩
  ·injection hk with hk;subst hk;exact ⟨_,rfl,B3 rfl⟩
  ·injection hk with hk;subst hk;exact ⟨_,rfl,B3 rfl⟩
  ·injection hk with hk;subst hk;exact ⟨_,rfl,B3 rfl⟩
  ·have hk:((mF (i8 s).length n (j5 s g).A).map flB)[i]? =some k:=hk;refine ⟨k,hk,?_⟩;obtain ⟨l,_,rfl⟩:=lby.1 (lbm hk);exact B3 rfl
 ·intro j hj _;have:j=0:=by simpa using hj
  subst this;rfl
def fS (m:Nat):Nat->Nat:=fun i=>if i<m+6 then i+1 else 0
def as2 {m n:Nat} {fr:LB} {D:Fd} {b:Blk} {env env':Env} {H:Hp} (hb:J9 b.rows) (hH:H=bn9 m n fr D b) (hE:Z1 (fR (m+7) (fS m)) H env env'):
 Ent 0 (fR (m+7) (fS m)) env H env' (N8 m n fr D.V D.G D.O D.F D.A [b]):=by
 subst hH;have fa:∀i,i<m+6->fS m i=i+1:=fun i hi=>by unfold fS;rw [if_pos hi]
 refine a9A (by simp [f6]) om (fun i hi=>om) (fun i j hi hj h=>by unfold fS at h;(repeat' split at h)<;>omega) ?_ hE;intro i k' hk;rcases i with _|_|_|_|_|_|i
 ·injection hk with hk;subst hk
  rw [fa 0 om];exact ⟨_,rfl,rfl,rfl,rfl,.inr ⟨⟨rfl,⟨by rw [x3 om,fa _ om],rfl,rfl,fun h=>h⟩,⟨by rw [x3 om,fa _ om],rfl,rfl,fun h=>h⟩,⟨by rw [x3 om,fa _ om],rfl,rfl,fun h=>h⟩,⟨by rw [x3 om,fa _ om],rfl,rfl,fun h=>h⟩,⟨by rw [x3 om,fa _ om],rfl,rfl,fun h=>h⟩,trivial⟩,trivial⟩⟩
 ·injection hk with hk;subst hk
  rw [fa 1 om];refine ⟨_,rfl,a2Y (h:=fun i=>i+7) (h':=fun i=>i+6) fun j hj=>?_⟩;rw [x3 om,fa _ om]
 ·injection hk with hk;subst hk;rw [fa 2 om];exact ⟨_,rfl,f5 (e7 _)⟩
 ·injection hk with hk;subst hk;rw [fa 3 om];exact ⟨_,rfl,f5 (e7 _)⟩
 ·injection hk with hk;subst hk;rw [fa 4 om];exact ⟨_,rfl,f5 (e7 _)⟩
 ·injection hk with hk;subst hk;rw [fa 5 om];exact ⟨_,rfl,f5 (e7 _)⟩
 ·have hk:((mF m n D.A).map flB++[b])[i]? =some k':=hk;by_cases hi:i<m
  ·rw [E9 (U3 hi)] at hk;injection hk with hk;subst hk
   rw [fa _ om];refine ⟨flB (rF n (D.A i)),?_,f5 (e7 _)⟩;show ((mF m n D.A).map flB)[i]? =_;rw [lba,U3 hi];rfl
  ·obtain ⟨t,rfl⟩:∃t,i=m+t:=⟨i - m,om⟩;rw [a2v (f6 _ _ _)] at hk;rcases t with _|t
   ·injection hk with hk;subst hk
    have:fS m (m+0+6)=0:=by unfold fS;rw [if_neg om]
    rw [this];exact ⟨_,rfl,f5 hb⟩
   ·simp at hk
def a9X {m n:Nat} {fr:LB} {D E:Fd} {r:S} (X:Hp) (hr:aE5 r=true) (hr':r.isT=true) (h:ec 219 [.c (.ptr 0 0 0)] (a10 m n fr D) r (a10 m n fr E)):
 ec 219 [.c (.ptr 0 0 0)] (N8 m n fr D.V D.G D.O D.F D.A X) r (N8 m n fr E.V E.G E.O E.F E.A X):=by
 have hl:∀{D:Fd},∀k ∈ a10 m n fr D,k.mode=.live∧k.app=false:=by
  intro D k hk;simp only [lbB] at hk;rcases hk with rfl|rfl|rfl|rfl|rfl|rfl|hk
  ·exact rz
  ·exact rz
  ·exact rz
  ·exact rz
  ·exact rz
  ·exact rz
  ·obtain ⟨l,_,rfl⟩:=lby.1 hk;exact rz
 exact a3i (n:=m+6) X h a3Q a3Q (by simp [okS,okC,a0T]) (fun k hk=>⟨(hl k hk).1,(hl k hk).2,a8B k hk⟩) (fun k hk=>⟨(by rw [(hl k hk).1];intro h;cases h),a8B k hk⟩) hr hr'
def b7O (l:List (Int × Rat)) (z:List Rat) (hl:l.length<=1000000) (h1:∀t ∈ l,rl t.2<=20000) (h2:∀v ∈ z,rl v<=40000) (hS:∀k,rl (n8 (l.take k) z)<=60000) (hz:z.length<=1000000) (hr:j9 (-1) z.length l=true):
 ec 208 [m8 l,p5 (z.map fz)] [] (frS (fz (n8 l z))) []:=by
 have m1:(l.map k6).length=l.length:=zq;have m2:((z.map fz).map t5).length=z.length:=zq;have i0:=W9 0 de de;refine ac Tryz.func208 ?_;conv=>whnf
 repeat' (first|refine zx ?_|apply zD<;>intro<;>try omega)<;>conv=>whnf
 refine i7 d9 (fun k=>([J,p5 (z.map fz),J,J,sP 0 0 0,sP 1 0 0,J,J,J,J,J,m8 l,eI l.length,eI k]++Jn 22,[frB M4,frB (fz (n8 (l.take k) z))])) l.length tT [some 0,some 1] trivial
  ⟨rfl,rfl,⟨⟨rfl,rfl,rfl,.inr rz⟩,⟨rfl,rfl,rfl,.inl ⟨rfl,Q0 _⟩⟩,trivial⟩,⟨rfl,rz,rz,rfl,d7 zq,rz⟩⟩ ?_
 intro k hk _;by_cases hlt:k<l.length
 ·obtain ⟨t,ht⟩:∃t,l[k]? =some t:=⟨_,lbf hlt⟩;obtain ⟨v,c⟩:=t;have hv:=a9Q hr _ (lbm ht);simp only at hv;have bc:=h1 _ (lbm ht);simp only at bc;obtain ⟨x,hx⟩:∃x,z[v.toNat]? =some x:=⟨_,lbf om⟩;have hxd:z.getD v.toNat 0=x:=by rw [lbl,hx];rfl
  have bx:=h2 x (lbm hx);have b3:=a52 c x;have bs:=hS k;have mu:=as8 c x om om;have ad:=a5h (n8 (l.take k) z) (c*x) om om;have e:n8 (l.take k) z+c*x=n8 (l.take (k+1)) z:=by
   have:l.take (k+1)=l.take k++[(v,c)]:=by rw [lbH,ht];rfl
   rw [this,R5,←hxd]
  rw [e] at ad;have xz:(z.map fz)[v.toNat]? =some (fz x):=by rw [lba,hx];rfl
  conv=>whnf
  repeat' (first|refine zx ?_|refine f7 ht ?_|refine x5 om xz ?_|refine bl0 [10] ?_|refine bl0 [5] ?_|apply zD<;>intro<;>try omega)<;>conv=>whnf
  all_goals first|omega|exact ⟨hlt,trivial,[some 0,some 1],rfl,rfl,⟨⟨rfl,rfl,rfl,.inl ⟨rfl,Q0 _⟩⟩,⟨rfl,rfl,rfl,.inl ⟨rfl,Q0 _⟩⟩,trivial⟩,rz⟩
 ·have hke:k=l.length:=by omega
  subst hke;rw [lbn (lbS _)];conv=>whnf
  repeat' (first|refine zx ?_|apply zD<;>intro<;>try omega)<;>conv=>whnf
  all_goals first|omega|exact b05 rfl
def a9F (z:List Rat):(z.map fz).all Q9=true:=by
 rw [lbw];intro f hf;obtain ⟨x,_,rfl⟩:=lby.1 hf;exact ak9 x
def b0g (l:List (Int × Rat)) (z:List Rat) (hl:l.length<=1000000) (h1:∀t ∈ l,rl t.2<=200) (h2:∀v ∈ z,rl v<=40000) (hS:∀k,rl (n8 (l.take k) z)<=60000) (hz:z.length<=1000000) (hr:j9 (-1) z.length l=true):
 ec 151 [m8 l,p5 (z.map fz)] [] (.tup [frS (fz (n8 l z)),j8 true]) []:=by
 have m2:((z.map fz).map t5).length=z.length:=zq;have rt:=S5 l z.length hl h1;rw [lbI om,hr] at rt;have pt:=bb5 (z.map fz) (by simpa using hz) (fun f hf=>by
  obtain ⟨x,hx,rfl⟩:=lby.1 hf;have:=h2 x hx;have a:=G9 x;have b:=H6 x;exact ⟨by show bl x.num<=_;omega,by show bl x.den<=_;omega⟩)
 rw [a9F] at pt;have va:=b7O l z hl (fun t ht=>by have:=h1 t ht;omega) h2 hS hz hr;have rt2:ec 153 [m8 l,eI (((z.map fz).map t5).length:Nat)] [] (j8 (true && true)) []:=by rw [m2];exact rt
 refine ac Tryz.func151 ?_;conv=>whnf
 repeat' (first|refine zx ?_|apply zD<;>intro<;>try omega)<;>conv=>whnf
 all_goals first|(exfalso;simp_all;done)|exact n9 rz
structure M8 (s:j2) (g:List (Int × Rat)) (n B:Nat):Prop where
 o:bj3 s g n
 sb:aI2 s
 gb:∀t ∈ g,rl t.2<=200
 bd:∀D,N0 (i8 s).length n (j5 s g) D->BdD (i8 s).length n B D
 b1:1<=B
 bn:(n+3)*(B+2)<=50000
 r:s.rows.length<=1000
def M8.nn {s:j2} {g:List (Int × Rat)} {n B:Nat} (h:M8 s g n B):s.n.toNat=n:=by have:=h.o.en;omega
def M8.bb {s:j2} {g:List (Int × Rat)} {n B:Nat} (h:M8 s g n B):B<=17000:=by
 have h1:=h.bn;have:(n+3)*(B+2)=n*(B+2)+3*(B+2):=by rw [T4]
 omega
def M8.m {s:j2} {g:List (Int × Rat)} {n B:Nat} (h:M8 s g n B):(i8 s).length<=2000:=by
 have:=a0C (s:=s) s.rows.length;have:=h.r;show (G3 s s.rows.length).length<=_;omega
abbrev bO (cells:List C):Blk:={ mode:=.live,elem:=174,size:=8,rows:=[cells],box:=true }
abbrev z8:List C:=[.t (ti 0),.t (ti 0),.t (.sl 0 .nil []),.t (ti 0),.t (.sl 0 .nil []),.t (.sl 0 .nil []),.t (.sl 0 .nil []),.t (.sl 0 .nil [])]
def af2:J9 (bO z8).rows:=e7 [[ti 0,ti 0,.sl 0 .nil [],ti 0,.sl 0 .nil [],.sl 0 .nil [],.sl 0 .nil [],.sl 0 .nil []]]
def a4s {s:j2} {g:List (Int × Rat)} {n B:Nat} (h:M8 s g n B):
 ec 219 [.c (.ptr 0 0 0)] (a10 (i8 s).length n (i8 s) (j5 s g)) (.tup [eI (a6q (X7 s g)).1,eI (a6q (X7 s g)).2]) (a10 (i8 s).length n (i8 s) (y8 s g)):=by
 have hn:=h.nn;subst hn;have hm:=h.m;exact b6Z _ _ (i8 s) (j5 s g) _ om h.o.n1 U0 (fun D hD=>by
  have hb:=h.bd D hD;have hB:=h.bb;exact ⟨fun i hi=>by have:=hb.v i hi;omega,fun i hi j hj=>by have:=hb.a i hi j hj;omega,fun j hj=>by have:=hb.g j hj;omega⟩)
def ar0 {s:j2} {g:List (Int × Rat)} {n B:Nat} (h:M8 s g n B):(u9 s g).length=n:=by unfold u9;rw [S8];exact h.nn
def ae1 {s:j2} {g:List (Int × Rat)} {n B:Nat} (h:M8 s g n B):ec 220 [dT (i8 s).length n (i8 s) (y8 s g)] [] (p5 ((u9 s g).map fz)) []:=by
 have hn:=h.nn;subst hn;exact b8F _ _ _ _ O3.p (by have:=h.m;omega) h.o.n1
def av2 {s:j2} {g:List (Int × Rat)} {n B:Nat} (h:M8 s g n B):BdD (i8 s).length n B (y8 s g):=by
 have hn:=h.nn;subst hn;exact h.bd _ (a34 U0).1
def aK2 {s:j2} {g:List (Int × Rat)} {n B:Nat} (h:M8 s g n B) (H:Hp):a02 Tryz.prog 223 [dT (i8 s).length n (i8 s) (y8 s g),eI s.rows.length] H (.c (.own H.length 0 s.rows.length true)) [flB (rF s.rows.length (V4 s (y8 s g)))]:=by
 have hb:=av2 h;have hp:X8 (i8 s).length n (y8 s g):=by have hn:=h.nn;subst hn;exact O3.p
 refine a2d (b5z s n h.o.en (y8 s g) hp B hb.g h.b1 ?_ (by have:=h.m;omega) h.r h.o.n1) rfl rfl (e7 _);have:=h.bn;have:(n+3)*(B+2)=(n+2)*(B+2)+(B+2):=by rw [show n+3=(n+2)+1 by omega,lbW]
 omega
def a2i {i m:Nat} (h:i<m):G8 [some m] i=true:=by
 unfold G8;have:Nat.beq m i=false:=by
  cases hb:Nat.beq m i with
  |false=>rfl
  |true=>have:=a1a hb;omega
 rw [this];rfl
def b1a {m n:Nat} {fr:LB} {D:Fd} {env env':Env} (b:Blk) (hb:J9 b.rows) (hE:a7c [some (m+6)] (N8 m n fr D.V D.G D.O D.F D.A [b]) env env'):b7f 0 [some (m+6)] env (N8 m n fr D.V D.G D.O D.F D.A [b]) env' [b]:=by
 refine ⟨rfl,?_,a3m rfl fun i k' hk=>?_,hE⟩
 ·simp only [U4,a5p];cases b.mode<;>rfl
 ·rcases i with _|i
  ·injection hk with hk;subst hk
   exact ⟨m+6,_,rfl,a2v (t:=0) (f6 _ _ _),f5 hb⟩
  ·simp at hk
def aL3 (s:j2) (g:List (Int × Rat)) (n B:Nat) (h:M8 s g n B) (hout:X7 s g=.best) (hS:∀k,rl (n8 (g.take k) (u9 s g))<=60000) (hpt:∀v ∈ u9 s g,rl v<=40000):
 ec 141 [S9 s,m8 g] [] (.tup [.agg (C.t (ti 0)::frC (fz (n8 g (u9 s g)))++[.t (z4 ((u9 s g).map fz)),.own 0 0 s.rows.length true,.t (.sl 0 .nil [])]),eI 0]) [flB (rF s.rows.length (V4 s (y8 s g)))]:=by
 have hn:=h.nn;have hm:=h.m;have hr1:=h.r;have hgl:=v8 h.o.tg;have hn1:=h.o.n1;have lr:=aW0 s h.sb;rw [h.o.r] at lr;have rt:=S5 g s.n (by have:=h.o.n1;omega) h.gb;rw [h.o.en,lbI om,h.o.tg,←h.o.en] at rt;have op:=aO7 (bO z8) (b1O s g n h.o);have se:=a4s h;rw [hout] at se;have m1:(s.rows.map w5).length=s.rows.length:=zq;have pt:=ae1 h;have va:=b0g g (u9 s g) om h.gb hpt hS (by rw [ar0 h];omega) (by rw [ar0 h];exact h.o.tg);have pr:∀H:Hp,a02 Tryz.prog 223 [dT (i8 s).length n (i8 s) (y8 s g),eI ((s.rows.map w5).length:Nat)] H (.c (.own H.length 0 s.rows.length true)) [flB (rF s.rows.length (V4 s (y8 s g)))]:=by rw [m1];exact aK2 h
 (refine U1 d9 Tryz.func141 rfl de ?_;refine y4 d9 ?_;(conv=>whnf);repeat ((first|refine b0x ?_|refine zy ?_);conv=>whnf))
 repeat' (first|refine zz ?_|refine b0x ?_|apply zD<;>intro h<;>try omega|refine zy ?_|fail)<;>conv=>whnf
 (refine y4 d9 ?_;conv=>whnf)
 repeat' (first|refine zx ?_|apply zD<;>intro h<;>try omega)<;>conv=>whnf
 all_goals try (exfalso;simp_all;done)
 refine x9 d9 ([J,m8 g,S.c (C.t (T.ptr (a1F s))),J,S.c (C.ptr ((i8 s).length+6) 0 0),eI 0,sP 0 0 0]++Jn 71) (N8 (i8 s).length n (i8 s) (j5 s g).V (j5 s g).G (j5 s g).O (j5 s g).F (j5 s g).A [bO z8]) ?_ ?_
 ·conv=>whnf
  repeat' (first|refine zx ?_|refine .inr ⟨_,_,op,?_⟩|refine G2 ?_|apply zD<;>intro h<;>try omega)<;>conv=>whnf
  exact ⟨_,as2 af2 rfl ⟨rfl,k8 rfl,⟨by rw [x3 om];simp [fS],rz⟩,rfl,⟨by rw [x3 om];simp [fS],rz⟩,trivial⟩⟩
 refine a1E d9 ([J,m8 g,S.c (C.t (T.ptr (a1F s))),J,sP 0 0 0,eI 0,dT (i8 s).length n (i8 s) (y8 s g),eI (-1),eI (-1)]++Jn 69) [bO z8] ?_ ?_
 ·have si:=a9X [bO z8] rfl rfl se;conv=>whnf
  repeat' (first|refine zx ?_|refine .inr ⟨_,_,si,?_⟩|refine f8 ?_|refine bl0 [4] ?_|apply zD<;>intro h<;>try omega)<;>conv=>whnf
  exact ⟨_,b1a (bO z8) af2 ⟨.inl (k8 rfl),.inl (k8 rfl),.inl rz,.inl rfl,.inr (aN9 fun i hi=>a2i hi),.inl rfl,.inl rfl,trivial⟩⟩
 (refine y4 d9 ?_;conv=>whnf)
 repeat' (first|refine zx ?_|apply zD<;>intro h<;>try omega)<;>conv=>whnf
 all_goals try omega
 (refine y4 d9 ?_;conv=>whnf)
 repeat' (first|refine zx ?_|apply zD<;>intro h<;>try omega)<;>conv=>whnf
 all_goals try omega
 (refine y4 d9 ?_;conv=>whnf)
 repeat' (first|refine zx ?_|apply zD<;>intro h<;>try omega)<;>conv=>whnf
 (refine y4 d9 ?_;conv=>whnf)
 repeat' (first|refine zx ?_|refine bl0 [4] ?_|refine bl0 [5] ?_|apply zD<;>intro h<;>try omega)<;>conv=>whnf
 (refine y4 d9 ?_;conv=>whnf)
 repeat' (first|refine zx ?_|refine .inl ⟨_,_,pr _,?_⟩|apply zD<;>intro h<;>try omega)<;>conv=>whnf
 refine p6 d9 _ ?_;conv=>whnf
 repeat' (first|refine zx ?_|apply zD<;>intro h<;>try omega)<;>conv=>whnf
 exact ⟨[some 2],rfl,rfl,⟨f5 (e7 _),trivial⟩,⟨⟨rfl,rfl,rfl,rfl,rfl,rfl,⟨rfl,rfl,rfl,fun h=>h⟩,rz⟩,rz⟩⟩
def a7n {P:Program} {g:FuncId} {args args':List S} {H H':Hp} {r:S} (h:d6 P g args' H r H') (hl:args.length=args'.length)
 (hw:∀(w:World) (ι:Io) (M:Ms) (j:Nat) (s s':S) (v:Value),args[j]? =some s->args'[j]? =some s'->RS w ι M s v->RS w ι M s' v):d6 P g args H r H':=by
 refine ⟨h.1,fun w ι M vals hl2 hv hH hM hf=>h.2 w ι M vals om (fun j s' hj=>?_) hH hM hf⟩;have hlt:=(lbe.1 hj).1;exact hw w ι M j _ s' _ (lbf om) hj (hv j _ (lbf om))
def b6C {s:j2} {n:Nat} (b:Blk) (h:ec 218 [S9 s,m8 []] [] (.c (.ptr 0 0 0)) (a10 (i8 s).length n (i8 s) (j5 s []))):
 ec 218 [S9 s,.c (.t (.sl 0 .nil []))] [b] (.c (.ptr 1 0 0)) (bn9 (i8 s).length n (i8 s) (j5 s []) b):=by
 refine a7n (aO7 b h) rfl fun w ι M j x y v hx hy hr=>?_
 rcases j with _|_|j
 ·injection hx with hx;injection hy with hy;subst hx hy;exact hr
 ·injection hx with hx;injection hy with hy;subst hx hy
  cases hr with
  |c hr=>cases hr with
   |t hr=>exact .c (.t (hr.weak rfl))
 ·simp at hx
def b5p {s:j2} {g:List (Int × Rat)} {n B c:Nat} (h:M8 s g n B) (hc:c<n):ec 221 [dT (i8 s).length n (i8 s) (y8 s g),eI c] [] (p5 ((a1W s g c).map fz)) []:=by
 have hb:=av2 h;have hB:=h.bb;have hn:=h.nn;subst hn;exact bp6 _ _ _ _ c hc O3.p (by have:=h.m;omega) h.o.n1 (fun i hi=>by have:=hb.a i hi c hc;omega)
abbrev bD6:List C:=frC M4
def b4l {P:Program} {n0:Nat} {c:Operand} {t e:Code} {env:Env} {H:Hp} {Q:AX->Env->Hp->Prop} (hb:J3 env c=j8 true) (h:Awp P n0 t env H Q):Awp P n0 (.cond c t e) env H Q:=b4V hb h
def aL0 (s:j2) (g:List (Int × Rat)) (n B B0 c:Nat) (h:M8 s g n B) (h0:M8 s [] n B0) (hout:X7 s g=.col c) (hout0:X7 s []=.best):
 ec 141 [S9 s,m8 g] [] (.tup [.agg (C.t (ti 2)::bD6++[.t (z4 ((u9 s []).map fz)),.t (.sl 0 .nil []),.t (z4 ((a1W s g c).map fz))]),eI 0]) []:=by
 have hn:=h.nn;have hm:=h.m;have hr1:=h.r;have hgl:=v8 h.o.tg;have hn1:=h.o.n1;have hcn:c<n:=by have:=(a4c hout).1;omega
 have lr:=aW0 s h.sb;rw [h.o.r] at lr;have rt:=S5 g s.n (by have:=h.o.n1;omega) h.gb;rw [h.o.en,lbI om,h.o.tg,←h.o.en] at rt;have op:=aO7 (bO z8) (b1O s g n h.o);have se:=a4s h;rw [hout] at se;have op0:=b6C (bO z8) (b1O s [] n h0.o);have se0:=a4s h0;rw [hout0] at se0;have m1:(s.rows.map w5).length=s.rows.length:=zq;have pt:=ae1 h0;have ra:=b5p h hcn
 (refine U1 d9 Tryz.func141 rfl de ?_;refine y4 d9 ?_;(conv=>whnf);repeat ((first|refine b0x ?_|refine zy ?_);conv=>whnf))
 repeat' (first|refine zz ?_|refine b0x ?_|apply zD<;>intro h<;>try omega|refine zy ?_|fail)<;>conv=>whnf
 (refine y4 d9 ?_;conv=>whnf)
 repeat' (first|refine zx ?_|apply zD<;>intro h<;>try omega)<;>conv=>whnf
 all_goals try (exfalso;simp_all;done)
 refine x9 d9 ([J,m8 g,S.c (C.t (T.ptr (a1F s))),J,S.c (C.ptr ((i8 s).length+6) 0 0),eI 0,sP 0 0 0]++Jn 71) (N8 (i8 s).length n (i8 s) (j5 s g).V (j5 s g).G (j5 s g).O (j5 s g).F (j5 s g).A [bO z8]) ?_ ?_
 ·conv=>whnf
  repeat' (first|refine zx ?_|refine .inr ⟨_,_,op,?_⟩|refine G2 ?_|apply zD<;>intro h<;>try omega)<;>conv=>whnf
  exact ⟨_,as2 af2 rfl ⟨rfl,k8 rfl,⟨by rw [x3 om];simp [fS],rz⟩,rfl,⟨by rw [x3 om];simp [fS],rz⟩,trivial⟩⟩
 refine a1E d9 ([J,m8 g,S.c (C.t (T.ptr (a1F s))),J,sP 0 0 0,eI 0,dT (i8 s).length n (i8 s) (y8 s g),eI (-1),eI c]++Jn 69) [bO z8] ?_ ?_
 ·have si:=a9X [bO z8] rfl rfl se;conv=>whnf
  repeat' (first|refine zx ?_|refine .inr ⟨_,_,si,?_⟩|refine f8 ?_|refine bl0 [4] ?_|apply zD<;>intro h<;>try omega)<;>conv=>whnf
  exact ⟨_,b1a (bO z8) af2 ⟨.inl (k8 rfl),.inl (k8 rfl),.inl rz,.inl rfl,.inr (aN9 fun i hi=>a2i hi),.inl rfl,.inl rfl,trivial⟩⟩
 refine a8u ?_;refine y4 d9 ?_;conv=>whnf
 repeat' (first|refine zx ?_|apply zD<;>intro h<;>try omega)<;>conv=>whnf
 all_goals try omega
 refine b4l rfl ?_;refine x9 d9 ([J,m8 g,S.c (C.t (T.ptr (a1F s))),J,S.c (C.ptr ((i8 s).length+6) 0 0),eI 0,dT (i8 s).length n (i8 s) (y8 s g),eI (-1),eI c,sP 0 0 0]++Jn 68) (N8 (i8 s).length n (i8 s) (j5 s []).V (j5 s []).G (j5 s []).O (j5 s []).F (j5 s []).A [bO z8]) ?_ ?_
 ·conv=>whnf
  repeat' (first|refine zx ?_|refine .inr ⟨_,_,op0,?_⟩|refine G2 ?_|apply zD<;>intro h<;>try omega)<;>conv=>whnf
  exact ⟨_,as2 af2 rfl ⟨rfl,k8 rfl,⟨by rw [x3 om];simp [fS],rz⟩,rfl,k8 rfl,rfl,rfl,⟨by rw [x3 om];simp [fS],rz⟩,trivial⟩⟩
 refine a1E d9 ([J,m8 g,S.c (C.t (T.ptr (a1F s))),J,sP 0 0 0,eI 0,dT (i8 s).length n (i8 s) (y8 s g),eI (-1),eI c,dT (i8 s).length n (i8 s) (y8 s []),eI (-1),eI (-1)]++Jn 66) [bO z8] ?_ ?_
 ·have si:=a9X [bO z8] rfl rfl se0;conv=>whnf
  repeat' (first|refine zx ?_|refine .inr ⟨_,_,si,?_⟩|refine f8 ?_|refine bl0 [4] ?_|apply zD<;>intro h<;>try omega)<;>conv=>whnf
  exact ⟨_,b1a (bO z8) af2 ⟨.inl (k8 rfl),.inl (k8 rfl),.inl rz,.inl rfl,.inl (k8 rfl),.inl rfl,.inl rfl,.inr (aN9 fun i hi=>a2i hi),.inl rfl,.inl rfl,trivial⟩⟩
 refine p6 d9 _ ?_;conv=>whnf
 repeat' (first|refine zx ?_|apply zD<;>intro h<;>try omega)<;>conv=>whnf
 all_goals first|omega|exact ⟨[],rz⟩
def b0v (A:Nat->List T) (g:Nat->LI) (B:Nat->List T) (id:Nat) (i:Nat):List C:=(A i).map .t++.own id 0 (g i).length true::(B i).map .t
def a3U (n:Nat) (A:Nat->List T) (g:Nat->LI) (B:Nat->List T):List (List C):=(List.range n).map fun i=>b0v A g B (i+1) i
def bo9 (el:TypeId) (size n:Nat) (A:Nat->List T) (g:Nat->LI) (B:Nat->List T):Blk:={ mode:=.live,elem:=el,size:=size,rows:=a3U n A g B,box:=false }
def a0F (el:TypeId) (size n:Nat) (A:Nat->List T) (g:Nat->LI) (B:Nat->List T):Hp:=bo9 el size n A g B::(List.range n).map fun i=>o8 (g i)
def a1o {n:Nat} {A:Nat->List T} {g:Nat->LI} {B:Nat->List T}:(a3U n A g B).length=n:=by simp [a3U]
def a45 {n i:Nat} {A:Nat->List T} {g:Nat->LI} {B:Nat->List T} (h:i<n):(a3U n A g B)[i]? =some (b0v A g B (i+1) i):=by simp [a3U,h]
def a95 {el:TypeId} {size n:Nat} {A:Nat->List T} {g:Nat->LI} {B:Nat->List T}:(a0F el size n A g B).length=n+1:=by simp [a0F]
def ae3 (n j N:Nat):List (Option Nat):=(List.range (n+1)).map fun i=>some (if i=j+1 then N else i)
def a0A {n j N i:Nat} (h:i<n+1):(ae3 n j N)[i]? =some (some (if i=j+1 then N else i)):=by simp [ae3,h]
def aG8 {n j N:Nat}:(ae3 n j N).length=n+1:=by simp [ae3]
def Q5 {ρ:List (Option Nat)} {H:Hp}:∀l:List T,a4E ρ H (l.map C.t) (l.map C.t)
 |[]=>trivial
 |x::r=>⟨a2g x,Q5 r⟩
def a5H {ρ:List (Option Nat)} {H:Hp}:∀{a b c d:List C},a4E ρ H a b->a4E ρ H c d->a4E ρ H (a++c) (b++d)
 |[],[],_,_,_,h=>h
 |x::a,y::b,_,_,h1,h2=>⟨h1.1,a5H h1.2 h2⟩
 |[],_::_,_,_,h,_=>h.elim
 |_::_,[],_,_,h,_=>h.elim
def a83 {ρ:List (Option Nat)} {H:Hp}:∀{xs ys:List (List C)},xs.length=ys.length->(∀ (i:Nat) (x y:List C),xs[i]? =some x->ys[i]? =some y->a4E ρ H x y)->a4o ρ H xs ys
 |[],[],_,_=>trivial
 |[],_::_,h,_=>by simp at h
 |_::_,[],h,_=>by simp at h
 |x::xs,y::ys,h,hh=>⟨hh 0 x y rfl rfl,a83 (by simpa using h) fun i a b ha hb=>hh (i+1) a b (by simpa using ha) (by simpa using hb)⟩
def a5M (g:Nat->LI) (j:Nat) (l:LI):Nat->LI:=fun i=>if i=j then l else g i
def b6N {el:TypeId} {size n j N:Nat} {A:Nat->List T} {g:Nat->LI} {B:Nat->List T} {l:LI} {env env':Env} {H:Hp} {k0:Blk} (hj:j<n) (hnN:n<N)
 (h0:H[0]? =some k0) (hk0:k0.mode=.live∧k0.app=false∧k0.elem=el∧k0.size=size) (hr:k0.rows=(a3U n A g B).set j ((A j).map .t++.own N 0 l.length true::(B j).map .t))
 (hm:∀m,m<n->m≠j->H[m+1]? =some (o8 (g m))) (hN:H[N]? =some (o8 l)) (hE:Z1 (ae3 n j N) H env env'):Ent 0 (ae3 n j N) env H env' (a0F el size n A (a5M g j l) B):=by
 refine ⟨rfl,a1c fun a b m h1 h2=>?_,a3m (by rw [aG8,a95]) fun i k' hk=>?_,hE⟩
 ·have ha:=(lbe.1 h1).1;have hb:=(lbe.1 h2).1;rw [aG8] at ha hb;rw [a0A ha] at h1;rw [a0A hb] at h2;simp only [lb6] at h1 h2;split at h1<;>split at h2<;>omega
 ·have hi:=(lbe.1 hk).1;rw [a95] at hi;refine ⟨if i=j+1 then N else i,?_⟩;cases i with
  |zero=>
   refine ⟨k0,a0A hi,by simpa using h0,?_⟩;simp [a0F] at hk;subst hk;obtain ⟨q1,q2,q3,q4⟩:=hk0;refine ⟨by unfold a3w;rw [q1,q2];rfl,q3,q4,.inr ?_⟩;rw [hr];refine a83 (by rw [List.length_set,a1o];exact a1o.symm) fun a x y hx hy=>?_
   have han:a<n:=by have:=(lbe.1 hy).1;rw [show (bo9 el size n A (a5M g j l) B).rows=a3U n A (a5M g j l) B from rfl,a1o] at this;exact this
   have hy:(a3U n A (a5M g j l) B)[a]? =some y:=hy;rw [a45 han] at hy;injection hy with hy;subst hy;rw [lbg,a1o] at hx;by_cases haj:j=a
   ·subst haj;rw [if_pos rfl,if_pos hj] at hx;injection hx with hx;subst hx;unfold b0v;have e1:a5M g j l j=l:=by simp [a5M]
    rw [e1];refine a5H (Q5 _) ⟨⟨?_,rfl,rfl,fun h=>h⟩,Q5 _⟩;rw [a0A om,if_pos rfl]
   ·rw [if_neg haj,a45 han] at hx;injection hx with hx;subst hx;unfold b0v;have e1:a5M g j l a=g a:=by unfold a5M;rw [if_neg (fun h=>haj h.symm)]
    rw [e1];refine a5H (Q5 _) ⟨⟨?_,rfl,rfl,fun h=>h⟩,Q5 _⟩;rw [a0A om,if_neg om]
  |succ i=>
   have hin:i<n:=om;have hk:((List.range n).map fun i=>o8 (a5M g j l i))[i]? =some k':=hk;rw [lba,lbh hin] at hk;injection hk with hk;subst hk;by_cases hij:i=j
   ·subst hij;refine ⟨o8 l,a0A hi,by rw [if_pos rfl];exact hN,?_⟩;have e1:a5M g i l i=l:=by simp [a5M]
    show a30 _ _ _ (o8 (a5M g i l i));rw [e1];exact ⟨rfl,rfl,rfl,.inl ⟨rfl,e7 _⟩⟩
   ·refine ⟨o8 (g i),a0A hi,by rw [if_neg om];exact hm i hin hij,?_⟩;have e1:a5M g j l i=g i:=by unfold a5M;rw [if_neg hij]
    show a30 _ _ _ (o8 (a5M g j l i));rw [e1];exact ⟨rfl,rfl,rfl,.inl ⟨rfl,e7 _⟩⟩
def b2j (id n:Nat):List (Option Nat):=some id::List.replicate n none
def b0f {ρ:List (Option Nat)} {H:Hp}:∀{n:Nat} {R:List Blk},R.length=n->(∀ k ∈ R,k.rows=[]∧k.mode=.live)->a4S ρ H (List.replicate n none) R
 |0,[],_,_=>trivial
 |n+1,k::R,h,hh=>⟨hh k zq,b0f (by simpa using h) fun k hk=>hh k (by simp [hk])⟩
 |0,_::_,h,_=>by simp at h
 |n+1,[],h,_=>by simp at h
def ao8 {H:Hp}:∀{n:Nat},U4 (List.replicate n none) H=true
 |0=>by cases H<;>rfl
 |n+1=>by
  rw [aN4];cases H with
  |nil=>rfl
  |cons k H=>exact ao8 (H:=H)
def aB7 {m:Nat}:∀{n:Nat} {H:Hp},a5p m (List.replicate n none) H=false
 |0,H=>by cases H<;>rfl
 |n+1,[]=>rfl
 |n+1,k::H=>by
  rw [aN4];unfold a5p;rw [aB7];cases k.mode<;>rfl
def ba8 {el:TypeId} {size n id:Nat} {A B:Nat->List T} {env env':Env} {H:Hp} {k0:Blk} {s:Nat}
 (h0:H[id]? =some k0) (hk0:k0.mode=.live∧k0.app=false∧k0.elem=el∧k0.size=size) (hr:k0.rows=(List.range n).map fun i=>(A i).map .t++.t (.sl s .nil [])::(B i).map .t)
 (hE:Z1 (b2j id n) H env env'):Ent 0 (b2j id n) env H env' (a0F el size n A (fun _=>[]) B):=by
 obtain ⟨q1,q2,q3,q4⟩:=hk0;refine ⟨rfl,?_,⟨?_,?_⟩,hE⟩
 ·unfold b2j a0F U4;rw [aB7,ao8]
  rfl
 ·simp only [h0];refine ⟨by unfold a3w;rw [q1,q2];rfl,q3,q4,.inr ?_⟩;rw [hr];refine a83 (by rw [show (bo9 el size n A (fun _=>[]) B).rows=a3U n A (fun _=>[]) B from rfl,a1o];simp) fun a x y hx hy=>?_
  have han:a<n:=by have:=(lbe.1 hx).1;simpa using this
  have hy:(a3U n A (fun _=>[]) B)[a]? =some y:=hy;rw [a45 han] at hy;injection hy with hy;subst hy;rw [lba,lbh han] at hx;injection hx with hx;subst hx;unfold b0v;refine a5H (Q5 _) ⟨⟨?_,rz⟩,Q5 _⟩;show (b2j id n)[a+1]? =some none;unfold b2j;rw [List.getElem?_cons_succ,lbk,if_pos han]
 ·refine b0f zq fun k hk=>?_
  obtain ⟨i,_,rfl⟩:=lby.1 hk;exact rz
def b7M {el:TypeId} {size n:Nat} {A:Nat->List T} {g:Nat->LI} {B:Nat->List T} {env env':Env}
 (hE:Z1 [some 0] (a0F el size n A g B) env env'):Ent 0 [some 0] env (a0F el size n A g B) env' [{ mode:=.live,elem:=el,size:=size,rows:=toC ((List.range n).map fun i=>A i++w7 (g i)::B i),box:=false }]:=by
 refine ⟨rfl,rfl,⟨⟨rfl,rfl,rfl,.inr ?_⟩,trivial⟩,hE⟩;show a4o _ _ (a3U n A g B) (toC _);refine a83 (by rw [a1o];simp [toC]) fun a x y hx hy=>?_
 have han:a<n:=by have:=(lbe.1 hx).1;rw [a1o] at this;exact this
 rw [a45 han] at hx;injection hx with hx;subst hx;have hy:(((List.range n).map fun i=>A i++w7 (g i)::B i).map (·.map C.t))[a]? =some y:=hy;rw [lba,lba,lbh han] at hy;injection hy with hy;subst hy;show a4E _ _ _ ((A a++w7 (g a)::B a).map C.t);rw [lbD,ad9];unfold b0v;refine a5H (Q5 _) ⟨?_,Q5 _⟩;have hk:(a0F el size n A g B)[a+1]? =some (o8 (g a)):=by simp [a0F,han]
 exact show VC _ _ _ _ from s6 (by simp [G8];rfl) hk zi rfl rfl zq
def b6E {el:TypeId} {size n:Nat} {A:Nat->List T} {g:Nat->LI} {B:Nat->List T}:∀k ∈ a0F el size n A g B,okB (n+1) k:=by
 intro k hk;rcases lbB.1 hk with rfl|hk
 ·intro r hr c hc;obtain ⟨i,hi,rfl⟩:=lby.1 hr;have hi:=lbC.1 hi;unfold b0v at hc;rcases lbA.1 hc with hc|hc
  ·obtain ⟨x,_,rfl⟩:=lby.1 hc;trivial
  ·rcases lbB.1 hc with rfl|hc
   ·show i+1<n+1;omega
   ·obtain ⟨x,_,rfl⟩:=lby.1 hc;trivial
 ·obtain ⟨i,_,rfl⟩:=lby.1 hk;exact t7 rfl
def b4L {el:TypeId} {size n:Nat} {A:Nat->List T} {g:Nat->LI} {B:Nat->List T} {env env':Env} {R:Hp} (hE:Z1 (idR (n+1)) (a0F el size n A g B++R) env env'):Ent 0 (idR (n+1)) env (a0F el size n A g B++R) env' (a0F el size n A g B):=
 b1Q a95 (J0 _) b6E hE
def bm8 (h:Fr) (b:Bool) (gs:LI) (n:Int):List T:=[ti h.p.sg,w7 h.p.dl,ti h.q.sg,w7 h.q.dl,tb b,w7 gs,ti n]
def hiF (o:Option (Rat × Rat)):Fr:=match o with
 |some (_,hi)=>fz hi
 |none=>M4
def a5v (e:Ev) (i:Nat):Option (Rat × Rat):=match e.moves[i]? with
 |some x=>M5 e x
 |none=>none
def aK9 {e:Ev} {i:Nat} {x:A8} (h:e.moves[i]? =some x):a5v e i=M5 e x:=by unfold a5v;rw [h]
def a6A (t:j6) (kind:Int) (i:Nat):List T:=bm8 (hiF (a5v t.ev i)) (a5v t.ev i).isSome (t8 t.finds kind i) (B2 t.cleans kind i)
abbrev aK1 (t:j6) (kind:Int):T:=.sl 7 .any ((List.range t.ev.moves.length).map (a6A t kind))
end Go.Proofs.YtikokmdpigploaaGreat
