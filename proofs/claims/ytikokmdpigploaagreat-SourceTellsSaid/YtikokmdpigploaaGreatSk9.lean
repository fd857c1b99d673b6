/- Part 9. -/
import Derived.Test.YtikokmdpigploaaGreatSk8
namespace Go.Proofs.YtikokmdpigploaaGreat
set_option linter.all false
set_option maxRecDepth 100000
set_option maxHeartbeats 8000000
open Go.RowKit
open St1 St2 St3 St4 St5 St6 St7 St8 StA StB StC
def a0R {H:Hp} {N n:Nat} (hN:H.length=N) (hn:n<=1000):X3 Tryz.prog 289 [eI n] H (.c (.own N 0 n true)) [flB (rF n fun _=>0)]:=by subst hN;exact b3N H n hn
abbrev pB (n k l i f:Nat):Blk:={ mode:=.live,elem:=285,size:=6,rows:=[[C.t (ti n),.own l 0 k true,.own 2 0 n true,.own i 0 k true,.t (.sl 0 .nil []),.own f 0 k true]],box:=true }
abbrev ag6 (t:TypeId) (s:Nat):Blk:=⟨.dead,t,s,[],false,false⟩
abbrev a74 (n k:Nat) (V G:Nat->Rat) (O:Nat->Nat) (fr:LB) (A:Nat->Nat->Rat) (X:Hp):Hp:=
 pB n k 1 3 4::a13 5 k n V::flB (rF n G)::Q0 k O::a1Q fr::((mF k n A).map flB++X)
abbrev lnX (k n:Nat) (v:Rat):Blk:={ mode:=.live,elem:=288,size:=5,rows:=[frC (fz v)++[C.own (k+6) 0 n true]],box:=true }
abbrev b3j (n k:Nat) (v:Rat) (a V G:Nat->Rat) (O:Nat->Nat) (fr:LB) (f:Nat × Bool) (A:Nat->Nat->Rat) (bx:Blk):Hp:=
 pB n (k+1) (k+8) (k+7) (k+9)::ag6 288 5::flB (rF n G)::ag6 3 1::ag6 306 2::((mF k n A).map flB++
  [bx,flB (rF n a),Q0 (k+1) O,{ mode:=.live,elem:=288,size:=5,rows:=V8 5 k n V++[frC (fz v)++[C.own (k+6) 0 n true]],box:=false },a1Q (fr++[f])])
def aM1 {k n N:Nat} {v:Rat} (h:k+6<N):okB N (lnX k n v):=by
 intro r hr c hc;simp at hr;subst hr;simp [frC] at hc;rcases hc with rfl|rfl|rfl|rfl|rfl<;>first|trivial|exact h
def br0 {n k N l i f:Nat} (h1:l<N) (h2:i<N) (h3:f<N) (h4:2<N):okB N (pB n k l i f):=by
 intro r hr c hc;simp at hr;subst hr;simp at hc;rcases hc with rfl|rfl|rfl|rfl|rfl|rfl<;>first|trivial|assumption
def aX9 {n k:Nat} {V G:Nat->Rat} {O:Nat->Nat} {fr:LB} {A:Nat->Nat->Rat} {X:Hp}:(a74 n k V G O fr A X).length=k+5+X.length:=by simp [f7];omega
def b8z {n k N:Nat} {V G:Nat->Rat} {O:Nat->Nat} {fr:LB} {A:Nat->Nat->Rat} {X:Hp} (h:k+5<=N) (hX:∀b ∈ X,okB N b):∀b ∈ a74 n k V G O fr A X,okB N b:=by
 intro b hb;simp only [lbz,lby] at hb;rcases hb with rfl|rfl|rfl|rfl|rfl|hb|hb
 ·exact br0 om om om om
 ·exact an7 h
 ·exact u0 rfl
 ·exact u0 rfl
 ·exact u0 rfl
 ·obtain ⟨l,_,rfl⟩:=lbw.1 hb;exact u0 rfl
 ·exact hX b hb
def b5F {n k:Nat} {V G:Nat->Rat} {O:Nat->Nat} {fr:LB} {A:Nat->Nat->Rat} {X X':Hp}:a74 n k V G O fr A (X++X')=a74 n k V G O fr A X++X':=by
 show _::_::_::_::_::(_++(X++X'))=_::_::_::_::_::((_++X)++X');rw [lbC]
def a0r {n0 N n k:Nat} {V G:Nat->Rat} {O:Nat->Nat} {fr:LB} {A:Nat->Nat->Rat} {X X' H:Hp} {env env':Env} (hH:H=a74 n k V G O fr A (X++X')) (hN:k+5+X.length=N) (h0:n0<=N) (hX:∀b ∈ X,okB N b)
 (hE:X5 (idR N) H env env'):Ent n0 (idR N) env H env' (a74 n k V G O fr A X):=by
 refine a6e (by rw [aX9];exact hN) h0 (b8z om hX) (fun i hi=>?_) hE;rw [hH,b5F,lbb (by rw [aX9];omega)]
def a2l {b0 b1 b2 b3 b4 c0 c1 c2 c3 c4:Blk} {L L':Hp} (h0:b0=c0) (h1:b1=c1) (h2:b2=c2) (h3:b3=c3) (h4:b4=c4) (h6:L=L'):b0::b1::b2::b3::b4::L=c0::c1::c2::c3::c4::L':=by
 subst h0 h1 h2 h3 h4 h6;rfl
def fR (N:Nat) (f:Nat->Nat):List (Option Nat):=(List.range N).map fun i=>some (f i)
def t8 {N i:Nat} {f:Nat->Nat} (h:i<N):(fR N f)[i]? =some (some (f i)):=by simp [fR,h]
def bl5 (N:Nat) (f:Nat->Nat):(fR N f).length=N:=by simp [fR]
def b4U {N i j:Nat} {f:Nat->Nat} (h:(fR N f)[i]? =some (some j)):i<N∧f i=j:=by
 obtain ⟨h1,h2⟩:=lbe.1 h;simp [fR] at h1 h2;exact ⟨h1,h2⟩
def ao4 {ρ:List (Option Nat)}:∀{m:Nat},(∀ i:Nat,i<m->ρ[i]? =some (some i))->a2e ρ m=true
 |0,_=>rfl
 |m+1,h=>by
  unfold a2e;rw [h m om,ao4 fun i hi=>h i om];simp
def b2Y {N:Nat} {f:Nat->Nat} {H H':Hp} (hn:H'.length=N) (hB:∀(i:Nat) (k':Blk),H'[i]? =some k'->∃k:Blk,H[f i]? =some k∧a2q (fR N f) H k k'):a4n (fR N f) H (fR N f) H':=
 a2N (by rw [bl5,hn]) fun i k' hk=>by
  have hi:i<N:=by rw [← hn];exact (lbe.1 hk).1
  obtain ⟨k,h1,h2⟩:=hB i k' hk;exact ⟨f i,k,t8 hi,h1,h2⟩
def aX1 {N:Nat} {f:Nat->Nat} {H:Hp} (hinj:∀i j,i<N->j<N->f i=f j->i=j):U1 (fR N f) H=true:=a0F fun i j n h1 h2=>by
 obtain ⟨a1,a2⟩:=b4U h1;obtain ⟨b1,b2⟩:=b4U h2;exact hinj i j a1 b1 om
def a8W {n0 N:Nat} {f:Nat->Nat} {env env':Env} {H H':Hp} (hn:H'.length=N) (h0:n0<=N) (hk:∀i,i<n0->f i=i) (hinj:∀i j,i<N->j<N->f i=f j->i=j)
 (hB:∀(i:Nat) (k':Blk),H'[i]? =some k'->∃k:Blk,H[f i]? =some k∧a2q (fR N f) H k k') (hE:X5 (fR N f) H env env'):Ent n0 (fR N f) env H env' H':=
 ⟨ao4 fun i hi=>by rw [t8 om,hk i hi],aX1 hinj,b2Y hn hB,hE⟩
def bk4 {n0 N:Nat} {f:Nat->Nat} {r s:S} {H H':Hp} (hn:H'.length=N) (h0:n0<=N) (hk:∀i,i<n0->f i=i) (hinj:∀i j,i<N->j<N->f i=f j->i=j)
 (hB:∀(i:Nat) (k':Blk),H'[i]? =some k'->∃k:Blk,H[f i]? =some k∧a2q (fR N f) H k k') (hE:a95 (fR N f) H r s):Fin n0 r H s H':=
 ⟨fR N f,ao4 fun i hi=>by rw [t8 om,hk i hi],aX1 hinj,b2Y hn hB,hE⟩
def b9H (k:Blk):a31 k k=true:=by unfold a31;cases k.mode<;>simp
def j0 {ρ:List (Option Nat)} {H:Hp} {k:Blk} (h:I5 k.rows):a2q ρ H k k:=⟨b9H k,rfl,rfl,.inl ⟨rfl,h⟩⟩
def b2a {ρ:List (Option Nat)} {H:Hp} {l l':List C} (h:a49 ρ H l l'):∀ts:List T,a49 ρ H (ts.map C.t++l) (ts.map C.t++l')
 |[]=>h
 |t::r=>⟨a0L t,b2a h r⟩
def a2n {ρ:List (Option Nat)} {H:Hp} {m n:Nat} {V:Nat->Rat} {h h':Nat->Nat} (hh:∀i,i<m->ρ[h' i]? =some (some (h i))):
 a2q ρ H { mode:=.live,elem:=288,size:=5,rows:=(List.range m).map fun i=>frC (fz (V i))++[C.own (h i) 0 n true],box:=false } { mode:=.live,elem:=288,size:=5,rows:=(List.range m).map fun i=>frC (fz (V i))++[C.own (h' i) 0 n true],box:=false }:=by
 refine ⟨rfl,rfl,rfl,.inr (a0s zq fun i x y hx hy=>?_)⟩;have hi:i<m:=by have:=(lbe.1 hx).1;simpa using this
 simp [hi] at hx hy;subst hx hy;exact b2a (ts:=o4 (fz (V i))) (l:=[C.own (h i) 0 n true]) (l':=[C.own (h' i) 0 n true]) ⟨⟨hh i hi,rfl,rfl,fun h=>h⟩,trivial⟩
def a2D {a b:Nat} {K:Prop} (h:a<=b) (k:K):a<=b∧K:=⟨h,k⟩
def a5K {N:Nat} {b:Blk} (h:I5 b.rows):okB N b:=by
 intro r hr c hc;have:=h r hr c hc;cases c<;>first|trivial|cases this
def aP2 (k n:Nat) (v:Rat) (V:Nat->Rat):Nat->Rat:=fun i=>if i=k then v else V i
def hnd (k:Nat):Nat->Nat:=fun i=>if i=k then k+6 else i+5
def ag3 {k n:Nat} {v:Rat} {V:Nat->Rat}:V8 5 k n V++[frC (fz v)++[C.own (k+6) 0 n true]]=(List.range (k+1)).map fun i=>frC (fz (aP2 k n v V i))++[C.own (hnd k i) 0 n true]:=by
 rw [a5R,lbB]
 congr 1
 ·refine lbp fun i hi=>?_
  have:=lbA.1 hi;unfold aP2 hnd;rw [if_neg om,if_neg om]
 ·unfold aP2 hnd;simp
abbrev bo8 (n k:Nat) (v:Rat) (a V G:Nat->Rat) (O:Nat->Nat) (fr:LB) (f:Nat × Bool) (A:Nat->Nat->Rat) (bx lx lit:Blk):Hp:=
 pB n (k+1) (k+10) (k+8) (k+11)::ag6 288 5::flB (rF n G)::ag6 3 1::ag6 306 2::((mF k n A).map flB++
  [bx,flB (rF n a),lx,Q0 (k+1) O,lit,{ mode:=.live,elem:=288,size:=5,rows:=V8 5 k n V++[frC (fz v)++[C.own (k+6) 0 n true]],box:=false },a1Q (fr++[f])])
def am7 (k:Nat):Nat->Nat:=fun i=>if i<k+7 then i else if i=k+7 then k+8 else if i=k+8 then k+10 else k+11
def a1V {α β:Type} {f:β->α} {M:List β} {X:List α} {N t:Nat} (h:M.length=N):(M.map f++X)[N+t]? =X[t]?:=by
 rw [lbc (by simp [h])];simp [h]
def bc0 {n0 n:Nat} {r s:S} {H H':Hp} (e:n0=n) (h:Fin n r H s H'):Fin n0 r H s H':=by subst e;exact h
def b2M {n k:Nat} {v:Rat} {a V G:Nat->Rat} {O:Nat->Nat} {fr:LB} {f:Nat × Bool} {A:Nat->Nat->Rat} {bx lx lit:Blk} {H:Hp} (hbx:I5 bx.rows) (hH:H=bo8 n k v a V G O fr f A bx lx lit):
 Fin (k+6) (.tup []) H (.tup []) (b3j n k v a V G O fr f A bx):=by
 subst hH;refine bk4 (N:=k+10) (f:=am7 k) (by simp [f7]) om (fun i hi=>by unfold am7;rw [if_pos om]) (fun i j hi hj h=>by unfold am7 at h;(repeat' split at h)<;>omega) ?_ trivial;have r7:am7 k (k+7)=k+8:=by unfold am7;rw [if_neg om,if_pos rfl]
 have r8:am7 k (k+8)=k+10:=by unfold am7;rw [if_neg om,if_neg om,if_pos rfl]
 have r9:am7 k (k+9)=k+11:=by unfold am7;rw [if_neg om,if_neg om,if_neg om]
 have rl:∀i,i<k+7->am7 k i=i:=fun i hi=>by unfold am7;rw [if_pos hi]
 intro i k' hk;rcases i with _|_|_|_|_|i
 ·injection hk with hk;subst hk
  rw [rl 0 om];exact ⟨_,rfl,rfl,rfl,rfl,.inr ⟨⟨rfl,⟨by rw [t8 om,r8],rfl,rfl,fun h=>h⟩,⟨by rw [t8 om,rl 2 om],rfl,rfl,fun h=>h⟩,⟨by rw [t8 om,r7],rfl,rfl,fun h=>h⟩,rfl,⟨by rw [t8 om,r9],rfl,rfl,fun h=>h⟩,trivial⟩,trivial⟩⟩
 ·injection hk with hk;subst hk;rw [rl 1 om];exact ⟨_,rfl,j0 (by simp [I5])⟩
 ·injection hk with hk;subst hk;rw [rl 2 om];exact ⟨_,rfl,j0 (i5 _)⟩
 ·injection hk with hk;subst hk;rw [rl 3 om];exact ⟨_,rfl,j0 (by simp [I5])⟩
 ·injection hk with hk;subst hk;rw [rl 4 om];exact ⟨_,rfl,j0 (by simp [I5])⟩
 ·have hk:((mF k n A).map flB++[bx,flB (rF n a),Q0 (k+1) O,{ mode:=.live,elem:=288,size:=5,rows:=V8 5 k n V++[frC (fz v)++[C.own (k+6) 0 n true]],box:=false },a1Q (fr++[f])])[i]? =some k':=hk;by_cases hi:i<k
  ·rw [E3 (U0 hi)] at hk;injection hk with hk;subst hk
   rw [rl (i+5) om];exact ⟨_,E3 (U0 hi),j0 (i5 _)⟩
  ·obtain ⟨t,rfl⟩:∃t,i=k+t:=⟨i - k,om⟩;rw [a1V (f7 _ _ _)] at hk;have lk:∀j,(bo8 n k v a V G O fr f A bx lx lit)[k+j+5]? =([bx,flB (rF n a),lx,Q0 (k+1) O,lit,{ mode:=.live,elem:=288,size:=5,rows:=V8 5 k n V++[frC (fz v)++[C.own (k+6) 0 n true]],box:=false },a1Q (fr++[f])]:Hp)[j]?:=fun j=>a1V (f7 _ _ _)
   rcases t with _|_|_|_|_|t
   ·injection hk with hk;subst hk
    rw [rl (k+0+5) om];exact ⟨_,lk 0,j0 hbx⟩
   ·injection hk with hk;subst hk
    rw [rl (k+1+5) om];exact ⟨_,lk 1,j0 (i5 _)⟩
   ·injection hk with hk;subst hk
    rw [show k+2+5=k+7 by omega,r7];exact ⟨_,lk 3,j0 (i5 _)⟩
   ·injection hk with hk;subst hk
    rw [show k+3+5=k+8 by omega,r8];refine ⟨_,lk 5,?_⟩;rw [ag3];refine a2n fun j hj=>?_
    have:hnd k j<k+7:=by unfold hnd;split<;>omega
    rw [t8 om,rl _ this]
   ·injection hk with hk;subst hk
    rw [show k+4+5=k+9 by omega,r9];exact ⟨_,lk 6,j0 (i5 _)⟩
   ·simp at hk
def l7 {a0 a1 a2 a3 a4 a5 a6 b0 b1 b2 b3 b4 b5 b6:Blk} (h0:a0=b0) (h1:a1=b1) (h2:a2=b2) (h3:a3=b3) (h4:a4=b4) (h5:a5=b5) (h6:a6=b6):([a0,a1,a2,a3,a4,a5,a6]:Hp)=[b0,b1,b2,b3,b4,b5,b6]:=by
 subst h0 h1 h2 h3 h4 h5 h6;rfl
def a3I {k:Nat} {O:Nat->Nat} {x:Int} (h:x=O k):(toC (U8 k O)).take k++toC [[ti x]]=toC (U8 (k+1) O):=by
 rw [lbn (by simp [toC,m6])];unfold U8;rw [a5R,lbB,h];simp [toC]
def ao2 {fr:LB} {k:Nat} (h:fr.length=k) (f:Nat × Bool):(toC (a0y fr)).take k++toC [[ti f.1,tb f.2]]=toC (a0y (fr++[f])):=by
 rw [lbn (by simp [toC,a0y,h])];unfold a0y;simp [toC]
def br2 (n k row:Nat) (w:x4) (b:Bool) (V G:Nat->Rat) (fr:LB) (hfr:fr.length=k) (A:Nat->Nat->Rat) (bx:Blk) (hbx:I5 bx.rows) (hn:n<=1000) (hk:k<=10000) (hrow:row<=100000)
 (hr:j2 (-1) n w.terms=true) (hl:w.terms.length<=1000) (hb:∀t ∈ w.terms,rl t.2<=60000) (hv:rl w.value<=60000):
 ec 290 [.c (.ptr 0 0 0),eI row,as7 w,i9 b] (a74 n k V G (fun i=>n+i) fr A [bx]) (.tup []) (b3j n k (O4 b w.value) (sgF b w.terms) V G (fun i=>n+i) fr (row,b) A bx):=by
 have m1:(w.terms.map o7).length=w.terms.length:=zq;refine ac Tryz.func290 ?_;conv=>whnf
 repeat' (first|refine zz ?_|refine qp f7 ?_|refine b0x ?_|refine .inl ⟨_,_,a0R (N:=k+6) (by simp [f7]) hn,?_⟩|refine f9 (f7 _ _ _) ?_|refine f5 ?_|refine g8 (t:=1) (f7 _ _ _) ?_|refine g8 (t:=2) (f7 _ _ _) ?_|refine g8 (t:=3) (f7 _ _ _) ?_|refine i7 (t:=1) (f7 _ _ _) ?_|refine i7 (t:=2) (f7 _ _ _) ?_|refine i7 (t:=3) (f7 _ _ _) ?_|apply zD<;>intro<;>try omega|refine zy ?_|fail)<;>conv=>whnf
 refine j3 d7 (fun q=>([sP 0 0 0,eI row,J,i9 b,J,J,S.c (C.t (T.ptr (p4 w))),J,S.c (C.ptr (k+7) 0 0)]++Jn 13++[k7 w.terms,eI w.terms.length,eI q]++Jn 73,a74 n k V G (fun i=>n+i) fr A [bx,flB (rF n (J5 w.terms q)),lnX k n w.value])) w.terms.length tT (idR (k+8)) trivial ?_ ?_
 ·refine a0r (X':=[]) (a2l rfl rfl rfl rfl rfl ?_) rfl (by simp [f7]) ?_ ?_
  ·rfl
  ·intro b hb;simp at hb;rcases hb with rfl|rfl|rfl
   ·exact a5K hbx
   ·exact u0 rfl
   ·exact aM1 om
  ·exact ⟨⟨g9 om,rz⟩,rfl,rfl,l9 rfl,⟨g9 om,rz⟩,l9 rfl,e7 om,e7 rfl,trivial⟩
 intro q hq _;by_cases hlt:q<w.terms.length
 ·obtain ⟨t,ht⟩:∃t,w.terms[q]? =some t:=⟨_,lbf hlt⟩;obtain ⟨t0,t1,t2⟩:=v8 hr t (lbm ht);have gp:(rF n (J5 w.terms q))[0+t.1.toNat]? =some (fz (J5 w.terms q t.1.toNat)):=by rw [P9,G4 om]
  have eV:0+t.1.toNat=t.1.toNat:=om;have e:y6 (flB (rF n (J5 w.terms q))) ((flB (rF n (J5 w.terms q))).rows.set (0+t.1.toNat) (frC (fz t.2)))=flB (rF n (J5 w.terms (q+1))):=by
   have e1:=J9 (row:=rF n (J5 w.terms q)) (y:=fz t.2) eV;rw [X6 om,←G0 ht] at e1;exact e1
  conv=>whnf
  repeat' (first|refine zx ?_|refine i6 ht ?_|refine s8 gp ?_|refine f9 (f7 _ _ _) ?_|refine f5 ?_|refine g8 (t:=1) (f7 _ _ _) ?_|refine g8 (t:=2) (f7 _ _ _) ?_|refine g8 (t:=3) (f7 _ _ _) ?_|refine i7 (t:=1) (f7 _ _ _) ?_|refine i7 (t:=2) (f7 _ _ _) ?_|refine i7 (t:=3) (f7 _ _ _) ?_|apply zD<;>intro<;>try omega)<;>conv=>whnf
  all_goals first
   |omega
   |(refine ⟨hlt,trivial,idR (k+8),a0r (X:=[bx,flB (rF n (J5 w.terms (q+1))),lnX k n w.value]) (a2l rfl rfl rfl rfl rfl (congrArg (fun z=>(mF k n A).map flB++(bx::z::lnX k n w.value::[_])) e)) rfl (by simp [f7]) ?_ ⟨⟨g9 om,rz⟩,rfl,rfl,rfl,⟨g9 om,rz⟩,rfl,rfl,e7 om,trivial⟩⟩
     intro b hb;simp at hb;rcases hb with rfl|rfl|rfl
     ·exact a5K hbx
     ·exact u0 rfl
     ·exact aM1 om)
 ·have hqe:q=w.terms.length:=by omega
  subst hqe;cases b with
  |false=>
   conv=>whnf
   repeat' (first|refine an2 [0,1,2,3,4,5,6,7,9,10,11,12,13,14,15,16,8,17,18,19,20,21,22,23] zk zk ?_|refine zz ?_|refine w6 (by simp [toC,m6,E4,a0y,hfr]) (by simp [toC,m6,E4,a0y];omega) ?_|refine bl0 [0] ?_|refine bl0 [0,1,8,9,10,11,12,13,14,15] ?_|refine bl0 [0,1] ?_|refine bl0 [1] ?_|refine f9 (f7 _ _ _) ?_|refine f5 ?_|refine g8 (t:=1) (f7 _ _ _) ?_|refine g8 (t:=2) (f7 _ _ _) ?_|refine g8 (t:=3) (f7 _ _ _) ?_|refine i7 (t:=1) (f7 _ _ _) ?_|refine i7 (t:=2) (f7 _ _ _) ?_|refine i7 (t:=3) (f7 _ _ _) ?_|refine g8 (t:=4) (f7 _ _ _) ?_|refine a2D (lbQ 1) ?_|apply zD<;>intro<;>try omega|refine zy ?_|fail)<;>conv=>whnf
   all_goals try omega
   all_goals refine bc0 (n:=k+6) (by simp [f7]) (b2M (lit:=_) hbx (a2l rfl rfl rfl rfl rfl (congrArg (fun z=>(mF k n A).map flB++z) (l7 rfl rfl rfl ?_ rfl ?_ ?_))))
   ·exact congrArg (fun z=>({ mode:=.live,elem:=3,size:=1,rows:=z,box:=false }:Blk)) (a3I (x:=(n:Int)+k) zq)
   ·exact congrArg (fun z=>({ mode:=.live,elem:=288,size:=5,rows:=z,box:=false }:Blk)) (congrArg (fun z=>z++[frC (fz w.value)++[C.own (k+6) 0 n true]]) (lbn (by simp [E4])))
   ·exact congrArg (fun z=>({ mode:=.live,elem:=306,size:=2,rows:=z,box:=false }:Blk)) (ao2 hfr (row,false))
  |true=>
   have nv:=a7s w.value hv;conv=>whnf
   repeat' (first|refine zx ?_|refine f9 (f7 _ _ _) ?_|refine f5 ?_|refine g8 (t:=1) (f7 _ _ _) ?_|refine g8 (t:=2) (f7 _ _ _) ?_|refine g8 (t:=3) (f7 _ _ _) ?_|refine i7 (t:=1) (f7 _ _ _) ?_|refine i7 (t:=2) (f7 _ _ _) ?_|refine i7 (t:=3) (f7 _ _ _) ?_|apply zD<;>intro<;>try omega)<;>conv=>whnf
   all_goals try omega
   refine j3 d7 (fun q=>([sP 0 0 0,eI row,J,i9 true,J,J,J,J,S.c (C.ptr (k+7) 0 0)]++Jn 33++[k7 w.terms,eI w.terms.length,eI q]++Jn 53,a74 n k V G (fun i=>n+i) fr A [bx,flB (rF n (a5L w.terms q)),lnX k n (-w.value)])) w.terms.length tT (idR (k+8)) trivial ?_ ?_
   ·refine a0r (X':=[]) (a2l rfl rfl rfl rfl rfl rfl) rfl (by simp [f7]) ?_ ?_
    ·intro b hb;simp at hb;rcases hb with rfl|rfl|rfl
     ·exact a5K hbx
     ·exact u0 rfl
     ·exact aM1 om
    ·exact ⟨⟨g9 om,rz⟩,rfl,rfl,⟨g9 om,rz⟩,l9 rfl,e7 om,e7 rfl,trivial⟩
   intro q hq _;by_cases hlt:q<w.terms.length
   ·obtain ⟨t,ht⟩:∃t,w.terms[q]? =some t:=⟨_,lbf hlt⟩;obtain ⟨t0,t1,t2⟩:=v8 hr t (lbm ht);have nt:=a7s t.2 (hb t (lbm ht));have gp:(rF n (a5L w.terms q))[0+t.1.toNat]? =some (fz (a5L w.terms q t.1.toNat)):=by rw [P9,G4 om]
    have eV:0+t.1.toNat=t.1.toNat:=om;have e:y6 (flB (rF n (a5L w.terms q))) ((flB (rF n (a5L w.terms q))).rows.set (0+t.1.toNat) (frC (fz (-t.2))))=flB (rF n (a5L w.terms (q+1))):=by
     have e1:=J9 (row:=rF n (a5L w.terms q)) (y:=fz (-t.2)) eV;rw [X6 om,←aA3 ht] at e1;exact e1
    conv=>whnf
    repeat' (first|refine zx ?_|refine i6 ht ?_|refine s8 gp ?_|refine f9 (f7 _ _ _) ?_|refine f5 ?_|refine g8 (t:=1) (f7 _ _ _) ?_|refine g8 (t:=2) (f7 _ _ _) ?_|refine g8 (t:=3) (f7 _ _ _) ?_|refine i7 (t:=1) (f7 _ _ _) ?_|refine i7 (t:=2) (f7 _ _ _) ?_|refine i7 (t:=3) (f7 _ _ _) ?_|apply zD<;>intro<;>try omega)<;>conv=>whnf
    all_goals first
     |omega
     |(refine ⟨hlt,trivial,idR (k+8),a0r (X:=[bx,flB (rF n (a5L w.terms (q+1))),lnX k n (-w.value)]) (a2l rfl rfl rfl rfl rfl (congrArg (fun z=>(mF k n A).map flB++(bx::z::lnX k n (-w.value)::[_])) e)) rfl (by simp [f7]) ?_ ⟨⟨g9 om,rz⟩,rfl,rfl,⟨g9 om,rz⟩,rfl,rfl,e7 om,trivial⟩⟩
       intro b hb;simp at hb;rcases hb with rfl|rfl|rfl
       ·exact a5K hbx
       ·exact u0 rfl
       ·exact aM1 om)
   ·have hqe:q=w.terms.length:=by omega
    subst hqe;have ea:a5L w.terms w.terms.length=sgF true w.terms:=b5M w.terms;conv=>whnf
    repeat' (first|refine an2 [0,1,2,3,4,5,6,7,9,10,11,12,13,14,15,16,8,17,18,19,20,21,22,23] zk zk ?_|refine zz ?_|refine w6 (by simp [toC,m6,E4,a0y,hfr]) (by simp [toC,m6,E4,a0y];omega) ?_|refine bl0 [0] ?_|refine bl0 [0,1,8,9,10,11,12,13,14,15] ?_|refine bl0 [0,1] ?_|refine bl0 [1] ?_|refine f9 (f7 _ _ _) ?_|refine f5 ?_|refine g8 (t:=1) (f7 _ _ _) ?_|refine g8 (t:=2) (f7 _ _ _) ?_|refine g8 (t:=3) (f7 _ _ _) ?_|refine i7 (t:=1) (f7 _ _ _) ?_|refine i7 (t:=2) (f7 _ _ _) ?_|refine i7 (t:=3) (f7 _ _ _) ?_|refine g8 (t:=4) (f7 _ _ _) ?_|refine a2D (lbQ 1) ?_|apply zD<;>intro<;>try omega|refine zy ?_|fail)<;>conv=>whnf
    all_goals try omega
    all_goals refine bc0 (n:=k+6) (by simp [f7]) (b2M (lit:=_) hbx (a2l rfl rfl rfl rfl rfl (congrArg (fun z=>(mF k n A).map flB++z) (l7 rfl (by rw [ea]) rfl ?_ rfl ?_ ?_))))
    ·exact congrArg (fun z=>({ mode:=.live,elem:=3,size:=1,rows:=z,box:=false }:Blk)) (a3I (x:=(n:Int)+k) zq)
    ·exact congrArg (fun z=>({ mode:=.live,elem:=288,size:=5,rows:=z,box:=false }:Blk)) (congrArg (fun z=>z++[frC (fz (-w.value))++[C.own (k+6) 0 n true]]) (lbn (by simp [E4])))
    ·exact congrArg (fun z=>({ mode:=.live,elem:=306,size:=2,rows:=z,box:=false }:Blk)) (ao2 hfr (row,true))
def gR (N:Nat) (f:Nat->Option Nat):List (Option Nat):=(List.range N).map f
def a3R {N i:Nat} {f:Nat->Option Nat} (h:i<N):(gR N f)[i]? =some (f i):=by simp [gR,h]
def b5i {N i:Nat} {x:Option Nat} {f:Nat->Option Nat} (h:(gR N f)[i]? =some x):i<N∧f i=x:=by
 obtain ⟨h1,h2⟩:=lbe.1 h;simp [gR] at h1 h2;exact ⟨h1,h2⟩
def aV6 {ρ:List (Option Nat)} {H:Hp}:∀{r:List (Option Nat)} {H':Hp},r.length=H'.length->(∀ (i:Nat) (k':Blk),H'[i]? =some k'->(r[i]? =some none∧k'.rows=[]∧k'.mode=.live)∨∃(j:Nat) (k:Blk),r[i]? =some (some j)∧H[j]? =some k∧a2q ρ H k k')->a4n ρ H r H'
 |[],[],_,_=>trivial
 |[],_::_,h,_=>by simp at h
 |_::_,[],h,_=>by simp at h
 |x::r,k'::H',hl,h=>by
  refine ⟨?_,aV6 (by simpa using hl) fun i k1 hk=>by simpa using h (i+1) k1 (by simpa using hk)⟩;rcases h 0 k' rfl with ⟨h1,h2,h3⟩|⟨j,k,h1,h2,h3⟩
  ·simp at h1;subst h1;exact ⟨h2,h3⟩
  ·simp at h1;subst h1;simp only [h2];exact h3
def b0I {N:Nat} {f:Nat->Option Nat} {env env':Env} {H H':Hp} (hn:H'.length=N) (hinj:∀i j x,i<N->j<N->f i=some x->f j=some x->i=j)
 (hB:∀(i:Nat) (k':Blk),H'[i]? =some k'->(f i=none∧k'.rows=[]∧k'.mode=.live)∨∃(j:Nat) (k:Blk),f i=some j∧H[j]? =some k∧a2q (gR N f) H k k') (hE:X5 (gR N f) H env env'):Ent 0 (gR N f) env H env' H':=
 ⟨rfl,a0F fun i j n h1 h2=>by
   obtain ⟨a1,a2⟩:=b5i h1;obtain ⟨b1,b2⟩:=b5i h2;exact hinj i j n a1 b1 a2 b2,aV6 (by simp [gR,hn]) fun i k' hk=>by
   have hi:i<N:=by rw [← hn];exact (lbe.1 hk).1
   rcases hB i k' hk with ⟨h1,h2⟩|⟨j,k,h1,h2⟩
   ·exact .inl ⟨by rw [a3R hi,h1],h2⟩
   ·exact .inr ⟨j,k,by rw [a3R hi,h1],h2⟩,hE⟩
def a71 {s:i8} (k:Nat):F7 s (k+1)=match s.rows[k]? with
 |none=>F7 s k
 |some w=>F7 s k++(if w.kind≠0 then [(k,false)] else [])++(if w.kind≠1 then [(k,true)] else []):=rfl
def ay9 {s:i8} {i:Nat}:∀d,∃rest,F7 s (i+d)=F7 s i++rest
 |0=>⟨[],zq⟩
 |d+1=>by
  obtain ⟨r,hr⟩:=ay9 (s:=s) (i:=i) d;rw [show i+(d+1)=(i+d)+1 by omega,a71];cases s.rows[i+d]? with
  |none=>exact ⟨r,hr⟩
  |some w=>exact ⟨r++((if w.kind≠0 then [(i+d,false)] else [])++(if w.kind≠1 then [(i+d,true)] else [])),by simp only;rw [hr,lbC,lbC]⟩
def a6q {s:i8} {i k:Nat} {f:Nat × Bool} (hi:i<=s.rows.length) (h:(F7 s i)[k]? =some f):(f8 s).getD k (0,false)=f:=by
 obtain ⟨r,hr⟩:=ay9 (s:=s) (i:=i) (s.rows.length - i);rw [show i+(s.rows.length - i)=s.rows.length by omega] at hr;unfold f8;rw [hr,lbl,lbb (lbe.1 h).1,h];rfl
def a0a {s:i8}:∀i,(F7 s i).length<=2*i
 |0=>by simp [F7]
 |i+1=>by
  have ih:=a0a (s:=s) i;rw [a71];cases s.rows[i]? with
  |none=>simp only;omega
  |some w=>
   simp only [lbq];split<;>split<;>simp<;>omega
def a70 {s:i8} {i:Nat} {w:x4} (h:s.rows[i]? =some w):F7 s (i+1)=(F7 s i++if w.kind≠0 then [(i,false)] else [])++if w.kind≠1 then [(i,true)] else []:=by
 rw [a71,h]
def Y4 (k:Nat):Nat->Nat:=fun i=>if i=0 then 0 else if i=1 then k+8 else if i=2 then 2 else if i=3 then k+7 else if i=4 then k+9 else if i<k+5 then i else if i=k+5 then k+6 else k+5
def am9 {k:Nat} (i:Nat) (hi:i<k+7):(i=0∧Y4 k i=0)∨(i=1∧Y4 k i=k+8)∨(i=2∧Y4 k i=2)∨(i=3∧Y4 k i=k+7)∨(i=4∧Y4 k i=k+9)∨(5<=i∧i<k+5∧Y4 k i=i)∨(5<=i∧i=k+5∧Y4 k i=k+6)∨(5<=i∧i=k+6∧Y4 k i=k+5):=by
 unfold Y4;by_cases h0:i=0
 ·rw [if_pos h0];omega
 ·rw [if_neg h0];by_cases h1:i=1
  ·rw [if_pos h1];omega
  ·rw [if_neg h1];by_cases h2:i=2
   ·rw [if_pos h2];omega
   ·rw [if_neg h2];by_cases h3:i=3
    ·rw [if_pos h3];omega
    ·rw [if_neg h3];by_cases h4:i=4
     ·rw [if_pos h4];omega
     ·rw [if_neg h4];by_cases h5:i<k+5
      ·rw [if_pos h5];omega
      ·rw [if_neg h5];by_cases h6:i=k+5
       ·rw [if_pos h6];omega
       ·rw [if_neg h6];omega
def b7H {k:Nat}:Y4 k (k+6)=k+5:=by
 have:=am9 (k:=k) (k+6) om;omega
def b1V {n k:Nat} {a V G:Nat->Rat} {v:Rat} {O:Nat->Nat} {fr:LB} {f:Nat × Bool} {A:Nat->Nat->Rat} {bx:Blk} {env env':Env} (hbx:I5 bx.rows) (hv:v=V k) (ha:a=A k)
 (hE:X5 (fR (k+7) (Y4 k)) (b3j n k v a V G O fr f A bx) env env'):Ent 0 (fR (k+7) (Y4 k)) env (b3j n k v a V G O fr f A bx) env' (a74 n (k+1) V G O (fr++[f]) A [bx]):=by
 subst hv ha;have r1:Y4 k 1=k+8:=rfl;have r3:Y4 k 3=k+7:=rfl;have r4:Y4 k 4=k+9:=rfl;have ra:∀i,i<k->Y4 k (i+5)=i+5:=fun i hi=>by
  unfold Y4;rw [if_neg om,if_neg om,if_neg om,if_neg om,if_neg om,if_pos om]
 have rk:Y4 k (k+5)=k+6:=by
  unfold Y4;rw [if_neg om,if_neg om,if_neg om,if_neg om,if_neg om,if_neg om,if_pos rfl]
 have rb:Y4 k (k+6)=k+5:=by
  unfold Y4;rw [if_neg om,if_neg om,if_neg om,if_neg om,if_neg om,if_neg om,if_neg om]
 have lk:∀j,(b3j n k (V k) (A k) V G O fr f A bx)[k+j+5]? =([bx,flB (rF n (A k)),Q0 (k+1) O,{ mode:=.live,elem:=288,size:=5,rows:=V8 5 k n V++[frC (fz (V k))++[C.own (k+6) 0 n true]],box:=false },a1Q (fr++[f])]:Hp)[j]?:=fun j=>a1V (f7 _ _ _)
 have eV:aP2 k n (V k) V=V:=by funext i;unfold aP2;split<;>simp_all
 refine a8W (by simp [f7]) om (fun i hi=>om) (fun i j hi hj h=>by have:=am9 i hi;have:=am9 j hj;omega) ?_ hE;intro i k' hk;rcases i with _|_|_|_|_|i
 ·injection hk with hk;subst hk
  exact ⟨_,rfl,rfl,rfl,rfl,.inr ⟨⟨rfl,⟨by rw [t8 om,r1],rfl,rfl,fun h=>h⟩,⟨by rw [t8 om];rfl,rfl,rfl,fun h=>h⟩,⟨by rw [t8 om,r3],rfl,rfl,fun h=>h⟩,rfl,⟨by rw [t8 om,r4],rfl,rfl,fun h=>h⟩,trivial⟩,trivial⟩⟩
 ·injection hk with hk;subst hk
  refine ⟨_,lk 3,?_⟩;rw [ag3,eV];refine a2n (h':=fun i=>i+5) fun j hj=>?_
  rw [t8 om];unfold hnd;by_cases hjk:j=k
  ·subst hjk;rw [if_pos rfl,rk]
  ·rw [if_neg hjk,ra j om]
 ·injection hk with hk;subst hk;exact ⟨_,rfl,j0 (i5 _)⟩
 ·injection hk with hk;subst hk;exact ⟨_,lk 2,j0 (i5 _)⟩
 ·injection hk with hk;subst hk;exact ⟨_,lk 4,j0 (i5 _)⟩
 ·have hk:((mF (k+1) n A).map flB++[bx])[i]? =some k':=hk;by_cases hi:i<k+1
  ·rw [E3 (U0 hi)] at hk;injection hk with hk;subst hk
   by_cases hik:i=k
   ·subst hik;rw [rk];exact ⟨_,lk 1,j0 (i5 _)⟩
   ·rw [ra i om];exact ⟨_,E3 (U0 om),j0 (i5 _)⟩
  ·obtain ⟨t,rfl⟩:∃t,i=(k+1)+t:=⟨i - (k+1),om⟩;rw [a1V (f7 _ _ _)] at hk;rcases t with _|t
   ·injection hk with hk;subst hk
    rw [show k+1+0+5=k+6 by omega,rb];exact ⟨_,lk 0,j0 hbx⟩
   ·simp at hk
def b7J {b0 b1 b2 b3 b4 b5 c0 c1 c2 c3 c4 c5:Blk} {L L':Hp} (h0:b0=c0) (h1:b1=c1) (h2:b2=c2) (h3:b3=c3) (h4:b4=c4) (h5:b5=c5) (h6:L=L'):b0::b1::b2::b3::b4::b5::L=c0::c1::c2::c3::c4::c5::L':=a1q h0 h1 h2 h3 h4 h5 h6
def s9:∀{last n:Int} {l:List (Int × Rat)},j2 last n l=true->l.length=0∨(l.length:Int)<=n - last - 1
 |_,_,[],_=>.inl rfl
 |last,n,a::r,h=>by
  unfold j2 at h;simp only [lbM,lbH] at h;have ih:=s9 h.2;have h1:=h.1.1.1;have h2:=h.1.1.2
  right
  rw [lbu];rcases ih with h0|h0
  ·rw [h0];omega
  ·omega
structure ba0 (s:i8) (g:List (Int × Rat)) (n:Nat):Prop where
 r:j6 s=true
 tg:j2 (-1) n g=true
 en:s.n=n
 n1:n<=1000
 b:∀w ∈ s.rows,rl w.value<=60000∧∀t ∈ w.terms,rl t.2<=60000
 bg:∀t ∈ g,rl t.2<=60000
 l:s.rows.length<=4000
abbrev rbx (w:x4):Blk:={ mode:=.live,elem:=133,size:=6,rows:=[(p4 w).map C.t],box:=true }
def aQ8 (w:x4):I5 (rbx w).rows:=i5 [p4 w]
def a0b (s:i8):List T:=[ti s.n,G5 s.rows]
def pF1:Nat->Option Nat:=fun i=>if i=0 then some 1 else if i=2 then some 0 else none
def aE9 {s:i8} {g:List (Int × Rat)} {k:Nat} {b:Bool} {i:Nat} {w:x4} (h:(f8 s).getD k (0,false)=(i,b)) (hw:s.rows[i]? =some w):O4 b w.value=(j4 s g).V k:=by
 show _=a2K s ((f8 s).getD k (0,false));rw [h];unfold a2K;simp only [hw]
def aN9 {s:i8} {g:List (Int × Rat)} {k:Nat} {b:Bool} {i:Nat} {w:x4} (h:(f8 s).getD k (0,false)=(i,b)) (hw:s.rows[i]? =some w):sgF b w.terms=(j4 s g).A k:=by
 funext j;show _=a1s s ((f8 s).getD k (0,false)) j;rw [h];unfold a1s;simp only [hw];rfl
abbrev dF (m n j q:Nat):Blk:={ mode:=.live,elem:=285,size:=6,rows:=[[C.t (ti n),.own 1 0 m true,.own 2 0 n true,.own 3 0 m true,.own 4 0 j true,.own 5 0 q true]],box:=true }
abbrev b8P (m n j:Nat) (V G:Nat->Rat) (O:Nat->Nat) (fr:LB) (A:Nat->Nat->Rat) (X:Hp):Hp:=
 dF m n j fr.length::a13 6 m n V::flB (rF n G)::Q0 m O::Q0 j (fun j=>j)::a1Q fr::((mF m n A).map flB++X)
def fF1:Nat->Option Nat:=fun i=>if i=4 then none else if i<4 then some i else some (i - 1)
def b7x {m n:Nat} {V G:Nat->Rat} {O:Nat->Nat} {fr:LB} {A:Nat->Nat->Rat} {env env':Env} {H:Hp} (hm:fr.length=m) (hH:H=a74 n m V G O fr A []) (hE:X5 (gR (m+6) fF1) H env env'):
 Ent 0 (gR (m+6) fF1) env H env' (b8P m n 0 V G O fr A []):=by
 subst hH;refine b0I (by simp [f7]) (fun i j x hi hj h1 h2=>by unfold fF1 at h1 h2;(repeat' split at h1)<;>(repeat' split at h2)<;>first|(cases h1;done)|(cases h2;done)|(injection h1 with h1;injection h2 with h2;omega)) ?_ hE;intro i k' hk;have fa:∀i,fF1 (i+6)=some (i+5):=fun i=>by unfold fF1;rw [if_neg om,if_neg om];rfl
 rcases i with _|_|_|_|_|_|i
 ·injection hk with hk;subst hk
  exact .inr ⟨0,_,rfl,rfl,rfl,rfl,rfl,.inr ⟨⟨rfl,⟨by rw [a3R om];rfl,rfl,rfl,fun h=>h⟩,⟨by rw [a3R om];rfl,rfl,rfl,fun h=>h⟩,⟨by rw [a3R om];rfl,rfl,rfl,fun h=>h⟩,⟨by rw [a3R om];rfl,rz⟩,⟨by rw [a3R om];rfl,rfl,hm.symm,fun h=>h⟩,trivial⟩,trivial⟩⟩
 ·injection hk with hk;subst hk
  refine .inr ⟨1,_,rfl,rfl,a2n (h:=fun i=>i+5) (h':=fun i=>i+6) fun j hj=>?_⟩;rw [a3R om,fa]
 ·injection hk with hk;subst hk;exact .inr ⟨2,_,rfl,rfl,j0 (i5 _)⟩
 ·injection hk with hk;subst hk;exact .inr ⟨3,_,rfl,rfl,j0 (i5 _)⟩
 ·injection hk with hk;subst hk;exact .inl ⟨rfl,rfl,rfl⟩
 ·injection hk with hk;subst hk;exact .inr ⟨4,_,rfl,rfl,j0 (i5 _)⟩
 ·have hk:((mF m n A).map flB++[])[i]? =some k':=hk;have hi:i<m:=by have:=(lbe.1 hk).1;simpa [f7] using this
  rw [E3 (U0 hi)] at hk;injection hk with hk;subst hk
  exact .inr ⟨i+5,_,fa i,E3 (U0 hi),j0 (i5 _)⟩
abbrev bw9 (m n j:Nat) (V G:Nat->Rat) (O:Nat->Nat) (fr:LB) (A:Nat->Nat->Rat):Hp:=
 { mode:=.live,elem:=285,size:=6,rows:=[[C.t (ti n),.own 1 0 m true,.own 2 0 n true,.own 3 0 m true,.own (m+6) 0 (j+1) true,.own 5 0 fr.length true]],box:=true }::
   a13 6 m n V::flB (rF n G)::Q0 m O::ag6 3 1::a1Q fr::((mF m n A).map flB++[Q0 (j+1) (fun j=>j)])
def fF2 (m:Nat):Nat->Nat:=fun i=>if i=4 then m+6 else i
def b8R {m n j:Nat} {V G:Nat->Rat} {O:Nat->Nat} {fr:LB} {A:Nat->Nat->Rat} {env env':Env} {H:Hp} (hH:H=bw9 m n j V G O fr A) (hE:X5 (fR (m+6) (fF2 m)) H env env'):
 Ent 0 (fR (m+6) (fF2 m)) env H env' (b8P m n (j+1) V G O fr A []):=by
 subst hH;have fa:∀i,i≠4->fF2 m i=i:=fun i hi=>by unfold fF2;rw [if_neg hi]
 refine a8W (by simp [f7]) om (fun i hi=>om) (fun i j hi hj h=>by unfold fF2 at h;(repeat' split at h)<;>omega) ?_ hE;intro i k' hk;rcases i with _|_|_|_|_|_|i
 ·injection hk with hk;subst hk
  exact ⟨_,rfl,rfl,rfl,rfl,.inr ⟨⟨rfl,⟨by rw [t8 om];rfl,rfl,rfl,fun h=>h⟩,⟨by rw [t8 om];rfl,rfl,rfl,fun h=>h⟩,⟨by rw [t8 om];rfl,rfl,rfl,fun h=>h⟩,⟨by rw [t8 om];rfl,rfl,rfl,fun h=>h⟩,⟨by rw [t8 om];rfl,rfl,rfl,fun h=>h⟩,trivial⟩,trivial⟩⟩
 ·injection hk with hk;subst hk
  refine ⟨_,rfl,a2n (h:=fun i=>i+6) (h':=fun i=>i+6) fun j hj=>?_⟩;rw [t8 om,fa _ om]
 ·injection hk with hk;subst hk;exact ⟨_,rfl,j0 (i5 _)⟩
 ·injection hk with hk;subst hk;exact ⟨_,rfl,j0 (i5 _)⟩
 ·injection hk with hk;subst hk
  refine ⟨_,a1V (t:=0) (f7 _ _ _),j0 (i5 _)⟩
 ·injection hk with hk;subst hk;exact ⟨_,rfl,j0 (i5 _)⟩
 ·have hk:((mF m n A).map flB++[])[i]? =some k':=hk;have hi:i<m:=by have:=(lbe.1 hk).1;simpa [f7] using this
  rw [E3 (U0 hi)] at hk;injection hk with hk;subst hk
  rw [fa _ om];exact ⟨_,E3 (U0 hi),j0 (i5 _)⟩
def aH1 (s:i8) (g:List (Int × Rat)) (n:Nat) (h:ba0 s g n):
 ec 218 [D8 s,k7 g] [] (.c (.ptr 0 0 0)) (a0u (f8 s).length n (f8 s) (j4 s g)):=by
 have m1:(s.rows.map p4).length=s.rows.length:=zq;have m2:(g.map o7).length=g.length:=zq;have z0:∀H:Hp,H.length=0->X3 Tryz.prog 289 [eI s.n] H (.c (.own 0 0 n true)) [flB (rF n fun _=>0)]:=fun H hH=>by rw [h.en];exact a0R hH h.n1
 have hsl:=h.l;have htg:=h.tg;have hbg:=h.bg;have hgl:=s9 htg;have hn1:=h.n1;have hen:=h.en;have put0:∀(K i:Nat) (w:x4) (b:Bool) (F:LB) (bx:Blk),s.rows[i]? =some w->F.length=K->I5 bx.rows->K<=10000->i<=100000->
  ec 290 [.c (.ptr 0 0 0),eI i,as7 w,i9 b] (a74 n K (j4 s g).V (fun _=>0) (fun i=>n+i) F (j4 s g).A [bx]) (.tup []) (b3j n K (O4 b w.value) (sgF b w.terms) (j4 s g).V (fun _=>0) (fun i=>n+i) F (i,b) (j4 s g).A bx):=by
  intro K i w b F bx hw hF hbx hK hi;have hn:=Q9 h.r;have hrw:=(a1A h.r hw).1;rw [hn,h.en] at hrw;have hl:=s9 hrw;have hb:=h.b w (lbm hw);exact br2 n K i w b _ _ F hF _ bx hbx h.n1 hK hi hrw (by have:=h.n1;omega) hb.2 hb.1
 refine ac Tryz.func218 ?_;conv=>whnf
 repeat' (first|refine zz ?_|refine b0x ?_|refine .inl ⟨_,_,z0 _ rfl,?_⟩|apply zD<;>intro h<;>try omega|refine zy ?_|fail)<;>conv=>whnf
 refine aj6 (fun i=>([J,k7 g,S.c (C.t (T.ptr (a0b s))),J,J,sP 0 0 0]++Jn 13++[S.c (C.t (G5 s.rows)),eI s.rows.length,eI i]++Jn 53,a74 n (F7 s i).length (j4 s g).V (fun _=>0) (fun i=>n+i) (F7 s i) (j4 s g).A [])) s.rows.length tT (gR 5 pF1) trivial ?_ ?_
 ·refine b0I rfl (fun i j x hi hj h1 h2=>by unfold pF1 at h1 h2;(repeat' split at h1)<;>(repeat' split at h2)<;>first|(cases h1;done)|(cases h2;done)|(injection h1 with h1;injection h2 with h2;omega)) ?_ ?_
  ·intro i k' hk;rcases i with _|_|_|_|_|i
   ·injection hk with hk;subst hk
    exact .inr ⟨1,_,rfl,rfl,rfl,rfl,rfl,.inr ⟨⟨ad9 (by rw [h.en]),rz,⟨rfl,rfl,rfl,fun h=>h⟩,rz⟩,trivial⟩⟩
   ·injection hk with hk;subst hk;exact .inl ⟨rfl,rfl,rfl⟩
   ·injection hk with hk;subst hk;exact .inr ⟨0,_,rfl,rfl,j0 (i5 _)⟩
   ·injection hk with hk;subst hk;exact .inl ⟨rfl,rfl,rfl⟩
   ·injection hk with hk;subst hk;exact .inl ⟨rfl,rfl,rfl⟩
   ·simp [mF,F7] at hk
  ·exact ⟨rfl,l9 rfl,rz,l9 rfl,e7 om,e7 rfl,trivial⟩
 intro i hi _;refine u3 d7 ?_;conv=>whnf
 repeat' (first|refine zx ?_|refine f5 ?_|apply zD<;>intro h<;>try omega)<;>conv=>whnf
 ·have hlt:i<s.rows.length:=by omega
  obtain ⟨w,hw⟩:∃w,s.rows[i]? =some w:=⟨_,lbf hlt⟩;obtain ⟨K,hK⟩:∃K,K=(F7 s i).length:=⟨_,rfl⟩;rw [← hK];obtain ⟨K1,hK1⟩:∃K1,K1=(F7 s i++if w.kind≠0 then [(i,false)] else []).length:=⟨_,rfl⟩;obtain ⟨F1,hF1⟩:∃F1,F1=(F7 s i++if w.kind≠0 then [(i,false)] else []):=⟨_,rfl⟩;have hKb:K<=10000:=by have:=a0a (s:=s) i;omega
  refine u3 d7 ?_;conv=>whnf
  refine a86 (a7t ?_);refine u3 d7 ?_;conv=>whnf
  repeat' (first|refine zx ?_|refine i6 hw ?_|refine f9 (f7 _ _ _) ?_|refine f5 ?_|refine g8 (t:=0) (f7 _ _ _) ?_|refine i7 (t:=0) (f7 _ _ _) ?_|apply zD<;>intro h<;>try omega)<;>conv=>whnf
  refine u7 d7 ([J,k7 g,S.c (C.t (T.ptr (a0b s))),J,J,sP 0 0 0,eI i,S.c (C.ptr (K1+5) 0 0)]++Jn 11++[S.c (C.t (G5 s.rows)),eI s.rows.length,eI i]++Jn 53) (a74 n K1 (j4 s g).V (fun _=>0) (fun i=>n+i) F1 (j4 s g).A [rbx w]) ?_ ?_
  ·by_cases hk:w.kind=0
   ·have e1:F1=F7 s i:=by rw [hF1,if_neg (by simp [hk]),a0x]
    have e2:K1=K:=by rw [hK1,if_neg (by simp [hk]),a0x,hK]
    subst e1 e2;conv=>whnf
    repeat' (first|refine zx ?_|refine f9 (f7 _ _ _) ?_|refine f5 ?_|refine g8 (t:=0) (f7 _ _ _) ?_|refine i7 (t:=0) (f7 _ _ _) ?_|apply zD<;>intro h<;>try omega)<;>conv=>whnf
    all_goals first|omega|exact ⟨idR (K1+6),a0r (X:=[rbx w]) (X':=[]) (a2l rfl rfl rfl rfl rfl rfl) rfl (H8 _) (by intro b hb;simp at hb;subst hb;exact a5K (aQ8 w)) ⟨rfl,rfl,⟨g9 om,rz⟩,rfl,⟨g9 om,rz⟩,rz⟩⟩
   ·have e1:F1=F7 s i++[(i,false)]:=by rw [hF1,if_pos hk]
    have e2:K1=K+1:=by rw [hK1,if_pos hk,lbq,←hK];rfl
    have hg:(f8 s).getD K (0,false)=(i,false):=by
     refine a6q (i:=i+1) om ?_;rw [a70 hw,if_pos hk,lbC,lbc om,hK];simp
    subst e1 e2;have pu:=put0 K i w false (F7 s i) (rbx w) hw hK.symm (aQ8 w) hKb om;conv=>whnf
    repeat' (first|refine zx ?_|refine .inr ⟨_,_,pu,?_⟩|refine f9 (f7 _ _ _) ?_|refine f5 ?_|refine g8 (t:=0) (f7 _ _ _) ?_|refine i7 (t:=0) (f7 _ _ _) ?_|apply zD<;>intro h<;>try omega)<;>conv=>whnf
    all_goals first|omega|exact ⟨_,b1V (aQ8 w) (aE9 hg hw) (aN9 hg hw) ⟨rfl,rfl,⟨by rw [t8 om];rfl,rz⟩,rfl,⟨by rw [t8 om,b7H],rz⟩,rz⟩⟩
  ·have hl1:F1.length=K1:=by rw [hF1,hK1]
   have eF:F7 s (i+1)=F1++if w.kind≠1 then [(i,true)] else []:=by rw [a70 hw,hF1]
   have hK1b:K1<=10000:=by
    have:=a0a (s:=s) i;rw [hK1,lbq];split<;>simp<;>omega
   by_cases hk:w.kind=1
   ·have e1:F7 s (i+1)=F1:=by rw [eF,if_neg (by simp [hk]),a0x]
    refine p5 d7 _ ?_;conv=>whnf
    repeat' (first|refine zx ?_|refine f9 (f7 _ _ _) ?_|refine f5 ?_|refine g8 (t:=0) (f7 _ _ _) ?_|refine i7 (t:=0) (f7 _ _ _) ?_|apply zD<;>intro h<;>try omega)<;>conv=>whnf
    all_goals try omega
    refine p5 d7 _ ?_;conv=>whnf
    repeat' (first|refine zx ?_|refine f9 (f7 _ _ _) ?_|refine f5 ?_|refine g8 (t:=0) (f7 _ _ _) ?_|refine i7 (t:=0) (f7 _ _ _) ?_|apply zD<;>intro h<;>try omega)<;>conv=>whnf
    refine ⟨hlt,trivial,idR (K1+5),?_⟩;rw [e1,hl1];exact a0r (X:=[]) (X':=[rbx w]) (a2l rfl rfl rfl rfl rfl rfl) rfl (H8 _) zq ⟨rfl,rfl,⟨g9 om,rz⟩,rfl,rfl,e7 om,trivial⟩
   ·have e1:F7 s (i+1)=F1++[(i,true)]:=by rw [eF,if_pos hk]
    have hg:(f8 s).getD K1 (0,false)=(i,true):=by
     refine a6q (i:=i+1) om ?_;rw [e1,lbc om,hl1];simp
    have pu:=put0 K1 i w true F1 (rbx w) hw hl1 (aQ8 w) hK1b om;refine p5 d7 _ ?_;conv=>whnf
    repeat' (first|refine zx ?_|refine .inr ⟨_,_,pu,?_⟩|refine f9 (f7 _ _ _) ?_|refine f5 ?_|refine g8 (t:=0) (f7 _ _ _) ?_|refine i7 (t:=0) (f7 _ _ _) ?_|apply zD<;>intro h<;>try omega)<;>conv=>whnf
    all_goals try omega
    refine b20 (env':=[J,k7 g,S.c (C.t (T.ptr (a0b s))),J,J,sP 0 0 0]++Jn 13++[S.c (C.t (G5 s.rows)),eI s.rows.length,eI i]++Jn 53) _ (b1V (aQ8 w) (aE9 hg hw) (aN9 hg hw) ⟨rfl,rfl,⟨by rw [t8 om];rfl,rz⟩,rz⟩) ?_;refine p5 d7 _ ?_;conv=>whnf
    repeat' (first|refine zx ?_|refine f9 (f7 _ _ _) ?_|refine f5 ?_|refine g8 (t:=0) (f7 _ _ _) ?_|refine i7 (t:=0) (f7 _ _ _) ?_|apply zD<;>intro h<;>try omega)<;>conv=>whnf
    refine ⟨hlt,trivial,idR (K1+1+5),?_⟩;rw [e1,show (F1++[(i,true)]).length=K1+1 by simp [hl1]];exact a0r (X:=[]) (X':=[rbx w]) (a2l rfl rfl rfl rfl rfl rfl) rfl (H8 _) zq ⟨rfl,rfl,⟨g9 om,rz⟩,rfl,rfl,e7 om,trivial⟩
 ·have hie:i=s.rows.length:=by omega
  subst hie;refine p5 d7 _ ?_;conv=>whnf
  repeat' (first|refine zx ?_|refine f9 (f7 _ _ _) ?_|refine f5 ?_|refine g8 (t:=0) (f7 _ _ _) ?_|refine i7 (t:=0) (f7 _ _ _) ?_|apply zD<;>intro h<;>try omega)<;>conv=>whnf
  all_goals try omega
  refine j3 d7 (fun q=>([J,J,S.c (C.t (T.ptr (a0b s))),J,J,sP 0 0 0]++Jn 35++[k7 g,eI g.length,eI q]++Jn 31,a74 n (f8 s).length (j4 s g).V (fun j=>-(J5 g q j)) (fun i=>n+i) (f8 s) (j4 s g).A [])) g.length tT (idR ((f8 s).length+5)) trivial ?_ ?_
  ·refine a0r (X:=[]) (X':=[]) (a2l rfl rfl ?_ rfl rfl rfl) rfl (H8 _) zq ⟨l9 rfl,⟨g9 om,rz⟩,l9 rfl,e7 om,e7 rfl,trivial⟩;rw [B6 (g:=fun _=>0) (h:=fun j=>-(J5 g 0 j)) fun j hj=>by show (0:Rat)=-0;decide]
  intro q hq _;by_cases hlt:q<g.length
  ·obtain ⟨t,ht⟩:∃t,g[q]? =some t:=⟨_,lbf hlt⟩;obtain ⟨t0,t1,t2⟩:=v8 htg t (lbm ht);have nt:=a7s t.2 (hbg t (lbm ht));have gp:(rF n (fun j=>-(J5 g q j)))[0+t.1.toNat]? =some (fz (-(J5 g q t.1.toNat))):=by rw [P9,G4 om]
   have eV:0+t.1.toNat=t.1.toNat:=om;have e:y6 (flB (rF n (fun j=>-(J5 g q j)))) ((flB (rF n (fun j=>-(J5 g q j)))).rows.set (0+t.1.toNat) (frC (fz (-t.2))))=flB (rF n (fun j=>-(J5 g (q+1) j))):=by
    have e1:=J9 (row:=rF n (fun j=>-(J5 g q j))) (y:=fz (-t.2)) eV;rw [X6 om] at e1;refine e1.trans ?_;rw [G0 ht];refine congrArg flB ?_;exact B6 fun j hj=>by show (if j=t.1.toNat then -t.2 else -(J5 g q j))=-(if j=t.1.toNat then t.2 else J5 g q j);split<;>rfl
   conv=>whnf
   repeat' (first|refine zx ?_|refine i6 ht ?_|refine s8 gp ?_|refine f9 (f7 _ _ _) ?_|refine f5 ?_|refine g8 (t:=0) (f7 _ _ _) ?_|refine i7 (t:=0) (f7 _ _ _) ?_|apply zD<;>intro h<;>try omega)<;>conv=>whnf
   all_goals first|omega|exact ⟨hlt,trivial,idR ((f8 s).length+5),a0r (X:=[]) (X':=[_]) (a2l rfl rfl e rfl rfl rfl) rfl (H8 _) zq ⟨rfl,⟨g9 om,rz⟩,rfl,rfl,e7 om,trivial⟩⟩
  ·have hqe:q=g.length:=by omega
   subst hqe;conv=>whnf
   repeat' (first|refine zx ?_|refine f9 (f7 _ _ _) ?_|refine f5 ?_|refine g8 (t:=0) (f7 _ _ _) ?_|refine i7 (t:=0) (f7 _ _ _) ?_|apply zD<;>intro h<;>try omega)<;>conv=>whnf
   all_goals try omega
   refine j3 d7 (fun q=>([J,J,J,J,J,sP 0 0 0]++Jn 53++[eI n,eI q]++Jn 14,b8P (f8 s).length n q (j4 s g).V (j4 s g).G (fun i=>n+i) (f8 s) (j4 s g).A [])) n tT (gR ((f8 s).length+6) fF1) trivial ?_ ?_
   ·exact b7x rfl rfl ⟨⟨by rw [a3R om];rfl,rz⟩,e7 hen,e7 rfl,trivial⟩
   intro q hq _;by_cases hlt:q<n
   ·conv=>whnf
    repeat' (first|refine zx ?_|refine w6 (by simp [toC,m6]) (by simp [toC,m6];omega) ?_|refine bl0 [0] ?_|refine f9 (f7 _ _ _) ?_|refine f5 ?_|refine g8 (t:=0) (f7 _ _ _) ?_|refine i7 (t:=0) (f7 _ _ _) ?_|apply zD<;>intro h<;>try omega)<;>conv=>whnf
    all_goals first
     |omega
     |(refine ⟨hlt,trivial,fR ((f8 s).length+6) (fF2 (f8 s).length),b8R (b7J rfl rfl rfl rfl rfl rfl (congrArg (fun z=>(mF (f8 s).length n (j4 s g).A).map flB++[z]) ?_)) ⟨⟨by rw [t8 om];rfl,rz⟩,rfl,e7 om,trivial⟩⟩
       exact congrArg (fun z=>({ mode:=.live,elem:=3,size:=1,rows:=z,box:=false }:Blk)) (a3I (O:=fun j=>j) (x:=(q:Int)) rfl))
   ·have hqe:q=n:=by omega
    subst hqe;conv=>whnf
    repeat' (first|refine zx ?_|refine f9 (f7 _ _ _) ?_|refine f5 ?_|refine g8 (t:=0) (f7 _ _ _) ?_|refine i7 (t:=0) (f7 _ _ _) ?_|apply zD<;>intro h<;>try omega)<;>conv=>whnf
    all_goals try omega
    refine a6x (n:=(f8 s).length+6) a3p (H8 _) a8b (fun i _=>?_) ⟨g9 om,rz⟩;have e0:a0u (f8 s).length q (f8 s) (j4 s g)=b8P (f8 s).length q q (j4 s g).V (j4 s g).G (fun i=>q+i) (f8 s) (j4 s g).A []:=by
     have eO:(j4 s g).O=fun i=>q+i:=by funext i;show s.n.toNat+i=_;rw [hen];rfl
     show _::_::_::Q0 _ (j4 s g).O::_::_::_=_::_::_::_::_::_::(_++[]);rw [a0x,eO];rfl
    rw [e0]
def ptK (n:Nat) (O:Nat->Nat) (v x0:Nat->Rat):Nat->Nat->Rat
 |0=>x0
 |k+1=>fun j=>if O k<n∧j=O k then v k else ptK n O v x0 k j
def G8 {n:Nat} {O:Nat->Nat} {v x0:Nat->Rat} {k:Nat}:ptK n O v x0 (k+1)=fun j=>if O k<n∧j=O k then v k else ptK n O v x0 k j:=rfl
def ar5 {n:Nat} {O:Nat->Nat} {v x0:Nat->Rat} {j:Nat}:∀{k:Nat},(∀ i,i<k->O i≠j)->ptK n O v x0 k j=x0 j
 |0,_=>rfl
 |k+1,h=>by rw [G8];simp only;rw [if_neg (fun e=>h k om e.2.symm),ar5 fun i hi=>h i om]
def aq3 {n:Nat} {O:Nat->Nat} {v x0:Nat->Rat} {i:Nat}:∀{k:Nat},i<k->O i<n->(∀ a,a<k->O a=O i->a=i)->ptK n O v x0 k (O i)=v i
 |0,h,_,_=>om
 |k+1,h,hn,hu=>by
  rw [G8];simp only;by_cases he:O k=O i
  ·have:=hu k om he;subst this;rw [if_pos ⟨hn,rfl⟩]
  ·rw [if_neg (fun e=>he e.2.symm)];have:i≠k:=fun e=>he (by rw [e])
   exact aq3 om hn fun a ha=>hu a om
def ai5 {m n:Nat} {D:Fd} (hP:R4 m n D) {j:Nat} (hj:j<n):ptK n D.O D.V (fun _=>0) m j=J1 m n D 1 (fun _=>0) j:=by
 rcases hP.all j om with ⟨i,hi,rfl⟩|⟨q,hq,rfl⟩
 ·rw [aq3 hi hj fun a ha he=>hP.oi a i ha hi he,a4T hP hi,v5 fun j _=>by grind];grind
 ·rw [ar5 fun i hi=>hP.of i q hi hq,a0z hP hq]
def a7S {m n c:Nat} {D:Fd} (hP:R4 m n D) (hc:c<n) {j:Nat} (hj:j<n):ptK n D.O (fun i=>-(D.A i c)) (fun j=>if D.F c<n∧j=D.F c then 1 else 0) m j=J1 m n D 0 (fun q=>if q=c then 1 else 0) j:=by
 rcases hP.all j om with ⟨i,hi,rfl⟩|⟨q,hq,rfl⟩
 ·rw [aq3 hi hj fun a ha he=>hP.oi a i ha hi he,a4T hP hi,k5 (g:=fun q=>(if c=q then (1:Rat) else 0)*D.A i q) fun q _=>by
   by_cases h:q=c
   ·subst h;simp only [if_true];grind
   ·rw [if_neg h,if_neg (fun e=>h e.symm)];grind,a56 hc]
  grind
 ·rw [ar5 fun i hi=>hP.of i q hi hq,a0z hP hq];by_cases h:q=c
  ·subst h;rw [if_pos rfl,if_pos ⟨hj,rfl⟩]
  ·rw [if_neg h,if_neg (fun e=>h (hP.fi q c hq hc e.2))]
def a28 (n:Nat) (y:Nat->Rat):(zOf n y).map fz=rF n y:=by unfold zOf rF;rw [a55];rfl
abbrev dT (m n:Nat) (fr:LB) (D:Fd):S:=.c (.t (.ptr (b9Q m n fr D)))
def b7n (m n:Nat) (fr:LB) (D:Fd) (hP:R4 m n D) (hm:m<=100000) (hn:n<=1000):ec 220 [dT m n fr D] [] (n6 ((zOf n (J1 m n D 1 (fun _=>0))).map fz)) []:=by
 have m1:(U8 m D.O).length=m:=m6 _ _;have z0:∀H:Hp,H.length=0->X3 Tryz.prog 289 [eI n] H (.c (.own 0 0 n true)) [flB (rF n fun _=>0)]:=fun H hH=>a0R hH hn
 rw [a28,←B6 (g:=ptK n D.O D.V (fun _=>0) m) fun j hj=>ai5 hP hj];refine ac Tryz.func220 ?_;conv=>whnf
 repeat' (first|refine zx ?_|refine .inl ⟨_,_,z0 _ rfl,?_⟩|apply zD<;>intro h<;>try omega)<;>conv=>whnf
 refine j3 d7 (fun k=>([dT m n fr D,J,J,S.c (C.own 0 0 n true)]++Jn 10++[a7v m D.O,eI m,eI k]++Jn 23,[flB (rF n (ptK n D.O D.V (fun _=>0) k))])) m tT [some 0] trivial
  ⟨rfl,rfl,⟨j0 (i5 _),trivial⟩,⟨l9 rfl,⟨rfl,rfl,rfl,fun h=>h⟩,l9 rfl,e7 om,e7 rfl,trivial⟩⟩ ?_
 intro k hk _;by_cases hlt:k<m
 ·by_cases ho:D.O k<n
  ·have gp:(rF n (ptK n D.O D.V (fun _=>0) k))[0+((D.O k:Nat):Int).toNat]? =some (fz (ptK n D.O D.V (fun _=>0) k (D.O k))):=by rw [show 0+((D.O k:Nat):Int).toNat=D.O k by omega,G4 ho]
   have e:y6 (flB (rF n (ptK n D.O D.V (fun _=>0) k))) ((flB (rF n (ptK n D.O D.V (fun _=>0) k))).rows.set (0+((D.O k:Nat):Int).toNat) (frC (fz (D.V k))))=flB (rF n (ptK n D.O D.V (fun _=>0) (k+1))):=by
    rw [J9 (show 0+((D.O k:Nat):Int).toNat=D.O k by omega),X6 ho,G8];refine congrArg flB (B6 fun j hj=>?_);simp only [ho,true_and]
   conv=>whnf
   repeat' (first|refine zx ?_|refine o9 rfl hlt ?_|refine a1i rfl hlt ?_|refine s8 gp ?_|apply zD<;>intro h<;>try omega)<;>conv=>whnf
   all_goals first|omega|exact ⟨hlt,trivial,[some 0],rfl,rfl,⟨⟨rfl,rfl,rfl,.inl ⟨congrArg Blk.rows e,(congrArg Blk.rows e) ▸ i5 _⟩⟩,trivial⟩,⟨rfl,⟨rfl,rfl,rfl,fun h=>h⟩,rfl,rfl,e7 om,trivial⟩⟩
  ·have e:ptK n D.O D.V (fun _=>0) (k+1)=ptK n D.O D.V (fun _=>0) k:=by rw [G8];funext j;rw [if_neg (fun h=>ho h.1)]
   conv=>whnf
   repeat' (first|refine zx ?_|refine o9 rfl hlt ?_|apply zD<;>intro h<;>try omega)<;>conv=>whnf
   all_goals first|omega|exact ⟨hlt,trivial,[some 0],rfl,rfl,⟨e8 (rows:=(rF n (ptK n D.O D.V (fun _=>0) k)).map o4) rfl rfl rfl rfl (by rw [e]),trivial⟩,⟨rfl,⟨rfl,rfl,rfl,fun h=>h⟩,rfl,rfl,e7 om,trivial⟩⟩
 ·have hke:k=m:=by omega
  subst hke;conv=>whnf
  repeat' (first|refine zx ?_|apply zD<;>intro h<;>try omega)<;>conv=>whnf
  all_goals first|omega|exact L7 rfl (fun h=>h) rfl rfl (by simp [L1])
def bg7 (m n:Nat) (fr:LB) (D:Fd) (c:Nat) (hc:c<n) (hP:R4 m n D) (hm:m<=100000) (hn:n<=1000) (hB:∀i,i<m->rl (D.A i c)<=60000):
 ec 221 [dT m n fr D,eI c] [] (n6 ((zOf n (J1 m n D 0 (fun q=>if q=c then 1 else 0))).map fz)) []:=by
 have m1:(U8 m D.O).length=m:=m6 _ _;have z0:∀H:Hp,H.length=0->X3 Tryz.prog 289 [eI n] H (.c (.own 0 0 n true)) [flB (rF n fun _=>0)]:=fun H hH=>a0R hH hn
 have i1:=O7 1 de de;obtain ⟨x0,hx0⟩:∃x0:Nat->Rat,x0=fun j=>if D.F c<n∧j=D.F c then 1 else 0:=⟨_,rfl⟩
 rw [a28,←B6 (g:=ptK n D.O (fun i=>-(D.A i c)) x0 m) fun j hj=>by rw [hx0];exact a7S hP hc hj];by_cases hf:D.F c<n
 ·have gp0:(rF n (fun _=>(0:Rat)))[0+((D.F c:Nat):Int).toNat]? =some (fz 0):=by rw [show 0+((D.F c:Nat):Int).toNat=D.F c by omega,G4 hf]
  have e0:y6 (flB (rF n (fun _=>(0:Rat)))) ((flB (rF n (fun _=>(0:Rat)))).rows.set (0+((D.F c:Nat):Int).toNat) (frC (fz ((1:Int):Rat))))=flB (rF n x0):=by
   rw [J9 (show 0+((D.F c:Nat):Int).toNat=D.F c by omega),X6 hf,hx0];refine congrArg flB (B6 fun j hj=>?_);simp only [hf,true_and];rfl
  refine ac Tryz.func221 ?_;conv=>whnf
  repeat' (first|refine zx ?_|refine .inl ⟨_,_,z0 _ rfl,?_⟩|refine o9 rfl hc ?_|refine s8 gp0 ?_|apply zD<;>intro h<;>try omega)<;>conv=>whnf
  all_goals try omega
  refine j3 d7 (fun k=>([dT m n fr D,eI c,J,J,J,S.c (C.own 0 0 n true)]++Jn 28++[a7v m D.O,eI m,eI k]++Jn 27,[flB (rF n (ptK n D.O (fun i=>-(D.A i c)) x0 k))])) m tT [some 0] trivial
   ⟨rfl,rfl,⟨⟨rfl,rfl,rfl,.inl ⟨congrArg Blk.rows e0,(congrArg Blk.rows e0) ▸ i5 _⟩⟩,trivial⟩,⟨l9 rfl,e7 rfl,⟨rfl,rfl,rfl,fun h=>h⟩,l9 rfl,e7 om,e7 rfl,trivial⟩⟩ ?_
  intro k hk _;by_cases hlt:k<m
  ·have ng:=a7s (D.A k c) (hB k hlt);by_cases ho:D.O k<n
   ·have gp:(rF n (ptK n D.O (fun i=>-(D.A i c)) x0 k))[0+((D.O k:Nat):Int).toNat]? =some (fz (ptK n D.O (fun i=>-(D.A i c)) x0 k (D.O k))):=by rw [show 0+((D.O k:Nat):Int).toNat=D.O k by omega,G4 ho]
    have e:y6 (flB (rF n (ptK n D.O (fun i=>-(D.A i c)) x0 k))) ((flB (rF n (ptK n D.O (fun i=>-(D.A i c)) x0 k))).rows.set (0+((D.O k:Nat):Int).toNat) (frC (fz (-(D.A k c)))))=flB (rF n (ptK n D.O (fun i=>-(D.A i c)) x0 (k+1))):=by
     rw [J9 (show 0+((D.O k:Nat):Int).toNat=D.O k by omega),X6 ho,G8];refine congrArg flB (B6 fun j hj=>?_);simp only [ho,true_and]
    conv=>whnf
    repeat' (first|refine zx ?_|refine o9 rfl hlt ?_|refine a1i rfl hlt ?_|refine a4G rfl hc ?_|refine s8 gp ?_|apply zD<;>intro h<;>try omega)<;>conv=>whnf
    all_goals first|omega|exact ⟨hlt,trivial,[some 0],rfl,rfl,⟨⟨rfl,rfl,rfl,.inl ⟨congrArg Blk.rows e,(congrArg Blk.rows e) ▸ i5 _⟩⟩,trivial⟩,⟨rfl,rfl,⟨rfl,rfl,rfl,fun h=>h⟩,rfl,rfl,e7 om,trivial⟩⟩
   ·have e:ptK n D.O (fun i=>-(D.A i c)) x0 (k+1)=ptK n D.O (fun i=>-(D.A i c)) x0 k:=by rw [G8];funext j;rw [if_neg (fun h=>ho h.1)]
    conv=>whnf
    repeat' (first|refine zx ?_|refine o9 rfl hlt ?_|apply zD<;>intro h<;>try omega)<;>conv=>whnf
    all_goals first|omega|exact ⟨hlt,trivial,[some 0],rfl,rfl,⟨e8 (rows:=(rF n (ptK n D.O (fun i=>-(D.A i c)) x0 k)).map o4) rfl rfl rfl rfl (by rw [e]),trivial⟩,⟨rfl,rfl,⟨rfl,rfl,rfl,fun h=>h⟩,rfl,rfl,e7 om,trivial⟩⟩
  ·have hke:k=m:=by omega
   subst hke;conv=>whnf
   repeat' (first|refine zx ?_|apply zD<;>intro h<;>try omega)<;>conv=>whnf
   all_goals first|omega|exact L7 rfl (fun h=>h) rfl rfl (by simp [L1])
 ·have e0:x0=fun _=>0:=by rw [hx0];funext j;rw [if_neg (fun h=>hf h.1)]
  refine ac Tryz.func221 ?_;conv=>whnf
  repeat' (first|refine zx ?_|refine .inl ⟨_,_,z0 _ rfl,?_⟩|refine o9 rfl hc ?_|apply zD<;>intro h<;>try omega)<;>conv=>whnf
  all_goals try omega
  refine j3 d7 (fun k=>([dT m n fr D,eI c,J,J,J,S.c (C.own 0 0 n true)]++Jn 28++[a7v m D.O,eI m,eI k]++Jn 27,[flB (rF n (ptK n D.O (fun i=>-(D.A i c)) x0 k))])) m tT [some 0] trivial
   ⟨rfl,rfl,⟨e8 (rows:=(rF n (fun _=>0)).map o4) rfl rfl rfl rfl (by rw [e0];rfl),trivial⟩,⟨l9 rfl,e7 rfl,⟨rfl,rfl,rfl,fun h=>h⟩,l9 rfl,e7 om,e7 rfl,trivial⟩⟩ ?_
  intro k hk _;by_cases hlt:k<m
  ·have ng:=a7s (D.A k c) (hB k hlt);by_cases ho:D.O k<n
   ·have gp:(rF n (ptK n D.O (fun i=>-(D.A i c)) x0 k))[0+((D.O k:Nat):Int).toNat]? =some (fz (ptK n D.O (fun i=>-(D.A i c)) x0 k (D.O k))):=by rw [show 0+((D.O k:Nat):Int).toNat=D.O k by omega,G4 ho]
    have e:y6 (flB (rF n (ptK n D.O (fun i=>-(D.A i c)) x0 k))) ((flB (rF n (ptK n D.O (fun i=>-(D.A i c)) x0 k))).rows.set (0+((D.O k:Nat):Int).toNat) (frC (fz (-(D.A k c)))))=flB (rF n (ptK n D.O (fun i=>-(D.A i c)) x0 (k+1))):=by
     rw [J9 (show 0+((D.O k:Nat):Int).toNat=D.O k by omega),X6 ho,G8];refine congrArg flB (B6 fun j hj=>?_);simp only [ho,true_and]
    conv=>whnf
    repeat' (first|refine zx ?_|refine o9 rfl hlt ?_|refine a1i rfl hlt ?_|refine a4G rfl hc ?_|refine s8 gp ?_|apply zD<;>intro h<;>try omega)<;>conv=>whnf
    all_goals first|omega|exact ⟨hlt,trivial,[some 0],rfl,rfl,⟨⟨rfl,rfl,rfl,.inl ⟨congrArg Blk.rows e,(congrArg Blk.rows e) ▸ i5 _⟩⟩,trivial⟩,⟨rfl,rfl,⟨rfl,rfl,rfl,fun h=>h⟩,rfl,rfl,e7 om,trivial⟩⟩
   ·have e:ptK n D.O (fun i=>-(D.A i c)) x0 (k+1)=ptK n D.O (fun i=>-(D.A i c)) x0 k:=by rw [G8];funext j;rw [if_neg (fun h=>ho h.1)]
    conv=>whnf
    repeat' (first|refine zx ?_|refine o9 rfl hlt ?_|apply zD<;>intro h<;>try omega)<;>conv=>whnf
    all_goals first|omega|exact ⟨hlt,trivial,[some 0],rfl,rfl,⟨e8 (rows:=(rF n (ptK n D.O (fun i=>-(D.A i c)) x0 k)).map o4) rfl rfl rfl rfl (by rw [e]),trivial⟩,⟨rfl,rfl,⟨rfl,rfl,rfl,fun h=>h⟩,rfl,rfl,e7 om,trivial⟩⟩
  ·have hke:k=m:=by omega
   subst hke;conv=>whnf
   repeat' (first|refine zx ?_|apply zD<;>intro h<;>try omega)<;>conv=>whnf
   all_goals first|omega|exact L7 rfl (fun h=>h) rfl rfl (by simp [L1])
def a8i (y:Nat->Rat) (r:Nat) (p:Rat):Nat->Rat:=fun i=>if i=r then y i+p else y i
def bm0 (b:Bool) (p:Rat):rl (O4 b p)=rl p:=by cases b;rfl;exact Q5 p
def a7F (m n:Nat) (fr:LB) (D:Fd) (R:Nat) (y:Nat->Rat) (k row:Nat) (b:Bool) (p:Rat) (hk:fr[k]? =some (row,b)) (hr:row<R) (hp:rl p<=50000) (hy:rl (y row)<=50000):
 ec 298 [dT m n fr D,.c (.own 0 0 R true),eI k,frS (fz p)] [flB (rF R y)] (.tup []) [flB (rF R (a8i y row (-(O4 b p))))]:=by
 have m1:(a0y fr).length=fr.length:=by simp [a0y]
 have eR:0+(row:Int).toNat=row:=om;have gp:(rF R y)[0+(row:Int).toNat]? =some (fz (y row)):=by rw [eR,G4 hr]
 have ng:=a7s p om;cases b with
 |true=>
  have ad:=a60 (y row) p om om;have e:y6 (flB (rF R y)) ((flB (rF R y)).rows.set (0+(row:Int).toNat) (frC (fz (y row+p))))=flB (rF R (a8i y row (-(O4 true p)))):=by
   rw [J9 eR,X6 hr];refine congrArg flB (B6 fun j hj=>?_);show (if j=row then y row+p else y j)=if j=row then y j+- -p else y j
   by_cases h:j=row
   ·subst h;rw [if_pos rfl,if_pos rfl,Rat.neg_neg]
   ·rw [if_neg h,if_neg h]
  refine ac Tryz.func298 ?_;conv=>whnf
  repeat' (first|refine zx ?_|refine i6 hk ?_|refine s8 gp ?_|refine bl0 [12] ?_|apply zD<;>intro h<;>try omega)<;>conv=>whnf
  all_goals first
   |omega
   |(exfalso;simp_all;done)
   |exact ⟨[some 0],rfl,rfl,⟨⟨rfl,rfl,rfl,.inl ⟨congrArg Blk.rows e,(congrArg Blk.rows e) ▸ i5 _⟩⟩,trivial⟩,trivial⟩
 |false=>
  have ad:=a60 (y row) (-p) om (by rw [Q5];omega);have e:y6 (flB (rF R y)) ((flB (rF R y)).rows.set (0+(row:Int).toNat) (frC (fz (y row+-p))))=flB (rF R (a8i y row (-(O4 false p)))):=by
   rw [J9 eR,X6 hr];refine congrArg flB (B6 fun j hj=>?_);show (if j=row then y row+-p else y j)=if j=row then y j+-p else y j
   by_cases h:j=row
   ·subst h;rfl
   ·rw [if_neg h,if_neg h]
  refine ac Tryz.func298 ?_;conv=>whnf
  repeat' (first|refine zx ?_|refine i6 hk ?_|refine s8 gp ?_|refine bl0 [12] ?_|apply zD<;>intro h<;>try omega)<;>conv=>whnf
  all_goals first|omega|(exfalso;simp_all;done)|exact ⟨[some 0],rfl,rfl,⟨⟨rfl,rfl,rfl,.inl ⟨congrArg Blk.rows e,(congrArg Blk.rows e) ▸ i5 _⟩⟩,trivial⟩,trivial⟩
def yK (z:Nat->Rat) (f:Nat->Nat->Rat) (k:Nat):Nat->Rat:=fun i=>z i+k8 (fun j=>f j i) k
def a64 {z:Nat->Rat} {f:Nat->Nat->Rat} {k:Nat}:yK z f (k+1)=fun i=>yK z f k i+f k i:=by
 funext i;unfold yK;simp only [k8];grind
def a69 {f:Nat->Rat} {B:Nat}:∀k:Nat,(∀ j,j<k->rl (f j)<=B)->rl (k8 f k)<=k*(B+1)+1
 |0,_=>by
  have h0:=rl0;have e:k8 f 0=0:=by simp only [k8,Z0]
  rw [e];omega
 |k+1,h=>by
  have h1:=a69 k fun j hj=>h j om
  have h2:=h k om;have h3:=a0O (k8 f k) (f k);simp only [k8];rw [lbU];omega
def aN6 {s:i8} {w i B:Nat} {p:Rat} (h:rl p<=B) (hB:1<=B):rl (chg s w p i)<=B:=by
 unfold chg;split
 ·rw [Q5,bm0];exact h
 ·have:=rl0;omega
def ae5 {s:i8} {w:Nat} {p:Rat} (h:w<s.n.toNat):chg s w p=fun _=>0:=by
 funext i;unfold chg;rw [if_neg (fun e=>om)]
def aJ8 {s:i8} {w k row:Nat} {b:Bool} {p:Rat} (hw:w=s.n.toNat+k) (hf:(f8 s)[k]? =some (row,b)) (y:Nat->Rat):a8i y row (-(O4 b p))=fun i=>y i+chg s w p i:=by
 funext i;have e:F2 s (w - s.n.toNat)=(row,b):=by unfold F2;rw [show w - s.n.toNat=k by omega,lbl,hf];rfl
 unfold a8i chg;rw [e];by_cases h:i=row
 ·subst h;rw [if_pos rfl,if_pos ⟨om,rfl⟩]
 ·rw [if_neg h,if_neg (fun e=>h e.2.symm)];grind
def a7W {s:i8} {k:Nat} {f:Nat × Bool} (h:(f8 s)[k]? =some f):f.1<s.rows.length:=by
 obtain ⟨w,hw,_⟩:=S9.1 (lbm h);exact (lbe.1 hw).1
def b4u (s:i8) (n:Nat) (hn:s.n=n) (E:Fd) (hP:R4 (f8 s).length n E) (B:Nat) (hB:∀j,j<n->rl (E.G j)<=B) (hB1:1<=B) (hBn:(n+2)*(B+2)<=50000) (hm:(f8 s).length<=100000) (hR:s.rows.length<=1000) (hn1:n<=1000):
 ec 223 [dT (f8 s).length n (f8 s) E,eI s.rows.length] [] (.c (.own 0 0 s.rows.length true)) [flB (rF s.rows.length (D9 s E))]:=by
 have m1:(U8 n E.F).length=n:=m6 _ _;have hnn:s.n.toNat=n:=om;have z0:∀H:Hp,H.length=0->X3 Tryz.prog 289 [eI s.rows.length] H (.c (.own 0 0 s.rows.length true)) [flB (rF s.rows.length fun _=>0)]:=fun H hH=>a0R hH hR
 have eB:B<=50000:=by
  have:(n+2)*(B+2)=n*(B+2)+2*(B+2):=by rw [R0]
  omega
 obtain ⟨f,hf⟩:∃f:Nat->Nat->Rat,f=fun j=>chg s (E.F j) (-(E.G j)):=⟨_,rfl⟩
 have e9:D9 s E=yK (fun _=>0) f n:=by
  funext i;unfold D9 yK;rw [hf,hnn];grind
 rw [e9];refine ac Tryz.func223 ?_;conv=>whnf
 repeat' (first|refine zx ?_|refine .inl ⟨_,_,z0 _ rfl,?_⟩|apply zD<;>intro h<;>try omega)<;>conv=>whnf
 refine j3 d7 (fun k=>([dT (f8 s).length n (f8 s) E,J,J,J,J,S.c (C.own 0 0 s.rows.length true),J,J,J,J,J,J,J,a7v n E.F,eI n,eI k]++Jn 29,[flB (rF s.rows.length (yK (fun _=>0) f k))])) n tT [some 0] trivial
  ⟨rfl,rfl,⟨e8 (rows:=(rF s.rows.length (fun _=>0)).map o4) rfl rfl rfl rfl ?_,trivial⟩,⟨l9 rfl,⟨rfl,rfl,rfl,fun h=>h⟩,l9 rfl,e7 om,e7 rfl,trivial⟩⟩ ?_
 ·rw [B6 (g:=yK (fun _=>0) f 0) (h:=fun _=>0) fun j hj=>by unfold yK;simp only [k8,Z0];grind]
 intro k hk _;by_cases hlt:k<n
 ·have ng:=a7s (E.G k) (by have:=hB k hlt;omega);by_cases ho:E.F k<n
  ·have e:yK (fun _=>0) f (k+1)=yK (fun _=>0) f k:=by
    rw [a64,hf];funext i;have e0:chg s (E.F k) (-(E.G k)) i=0:=by rw [ae5 om]
    show _+chg s (E.F k) (-(E.G k)) i=_;rw [e0];grind
   conv=>whnf
   repeat' (first|refine zx ?_|refine o9 rfl hlt ?_|apply zD<;>intro h<;>try omega)<;>conv=>whnf
   all_goals first|omega|exact ⟨hlt,trivial,[some 0],rfl,rfl,⟨e8 (rows:=(rF s.rows.length (yK (fun _=>0) f k)).map o4) rfl rfl rfl rfl (by rw [e]),trivial⟩,⟨rfl,⟨rfl,rfl,rfl,fun h=>h⟩,rfl,rfl,e7 om,trivial⟩⟩
  ·have hfb:=hP.fb k hlt;obtain ⟨q,hq⟩:∃q,E.F k=n+q:=⟨E.F k - n,om⟩;obtain ⟨⟨row,b⟩,hfr⟩:∃x,(f8 s)[q]? =some x:=⟨_,lbf om⟩;have hrow:row<s.rows.length:=a7W hfr;have by1:rl (yK (fun _=>0) f k row)<=50000:=by
    have h1:=a69 (f:=fun j=>f j row) (B:=B) k fun j hj=>by rw [hf];exact aN6 (by rw [Q5];exact hB j om) hB1
    have e:yK (fun _=>0) f k row=k8 (fun j=>f j row) k:=by unfold yK;grind
    rw [e];have:k*(B+1)<=n*(B+1):=lbT _ om;have:(n+2)*(B+2)=n*(B+1)+n+2*(B+2):=by rw [R0,show n*(B+2)=n*(B+1)+n by rw [Nat.mul_add,Nat.mul_add];omega]
    omega
   have ch:=a7F (f8 s).length n (f8 s) E s.rows.length (yK (fun _=>0) f k) q row b (-(E.G k)) hfr hrow (by rw [Q5];have:=hB k hlt;omega) by1;have e:a8i (yK (fun _=>0) f k) row (-(O4 b (-(E.G k))))=yK (fun _=>0) f (k+1):=by rw [aJ8 (s:=s) (w:=E.F k) om hfr,a64,hf]
   rw [e,show ((q:Nat):Int)=(E.F k:Int) - n by omega] at ch;conv=>whnf
   repeat' (first|refine zx ?_|refine o9 rfl hlt ?_|refine a4G rfl hlt ?_|refine .inr ⟨_,_,ch,?_⟩|apply zD<;>intro h<;>try omega)<;>conv=>whnf
   all_goals first|omega|exact ⟨hlt,trivial,[some 0],rfl,rfl,⟨j0 (i5 _),trivial⟩,⟨rfl,⟨rfl,rfl,rfl,fun h=>h⟩,rfl,rfl,e7 om,trivial⟩⟩
 ·have hke:k=n:=by omega
  subst hke;conv=>whnf
  repeat' (first|refine zx ?_|apply zD<;>intro h<;>try omega)<;>conv=>whnf
  all_goals first|omega|exact ⟨[some 0],rfl,rfl,⟨j0 (i5 _),trivial⟩,⟨rfl,rfl,rfl,fun h=>h⟩⟩
def aG5 (s:i8) (n r:Nat) (hn:s.n=n) (E:Fd) (hP:R4 (f8 s).length n E) (hr:r<(f8 s).length) (B:Nat) (hB:∀j,j<n->rl (E.A r j)<=B) (hB1:1<=B) (hBn:(n+3)*(B+2)<=50000) (hm:(f8 s).length<=100000) (hR:s.rows.length<=1000) (hn1:n<=1000):
 ec 222 [dT (f8 s).length n (f8 s) E,eI s.rows.length,eI r] [] (.c (.own 0 0 s.rows.length true)) [flB (rF s.rows.length (a9Q s E r))]:=by
 have m1:(U8 n E.F).length=n:=m6 _ _;have hnn:s.n.toNat=n:=om;have z0:∀H:Hp,H.length=0->X3 Tryz.prog 289 [eI s.rows.length] H (.c (.own 0 0 s.rows.length true)) [flB (rF s.rows.length fun _=>0)]:=fun H hH=>a0R hH hR
 have i1:=O7 1 de de;have eBn:(n+3)*(B+2)=n*(B+1)+n+3*(B+2):=by rw [R0,show n*(B+2)=n*(B+1)+n by rw [Nat.mul_add,Nat.mul_add];omega]
 have eB:B<=50000:=om;obtain ⟨f,hf⟩:∃f:Nat->Nat->Rat,f=fun j=>chg s (E.F j) (E.A r j):=⟨_,rfl⟩
 obtain ⟨z,hz⟩:∃z:Nat->Rat,z=chg s (E.O r) 1:=⟨_,rfl⟩;have zb:∀i,rl (z i)<=B:=fun i=>by rw [hz];exact aN6 (by have:=rl1;omega) hB1
 have e9:a9Q s E r=yK z f n:=by
  funext i;unfold a9Q yK;rw [hf,hnn,hz]
 rw [e9];have hob:=hP.ob r hr;by_cases ho:E.O r<n
 ·have ez:z=fun _=>0:=by rw [hz,ae5 om]
  refine ac Tryz.func222 ?_;conv=>whnf
  repeat' (first|refine zx ?_|refine .inl ⟨_,_,z0 _ rfl,?_⟩|refine o9 rfl hr ?_|apply zD<;>intro h<;>try omega)<;>conv=>whnf
  all_goals try omega
  refine j3 d7 (fun k=>([dT (f8 s).length n (f8 s) E,J,eI r,J,J,J,J,S.c (C.own 0 0 s.rows.length true)]++Jn 31++[a7v n E.F,eI n,eI k]++Jn 32,[flB (rF s.rows.length (yK z f k))])) n tT [some 0] trivial
   ⟨rfl,rfl,⟨e8 (rows:=(rF s.rows.length z).map o4) rfl rfl rfl (by rw [ez]) ?_,trivial⟩,⟨l9 rfl,e7 rfl,⟨rfl,rfl,rfl,fun h=>h⟩,l9 rfl,e7 om,e7 rfl,trivial⟩⟩ ?_
  ·rw [B6 (g:=yK z f 0) (h:=z) fun j hj=>by unfold yK;simp only [k8,Z0];grind]
  intro k hk _;by_cases hlt:k<n
  ·have ba:=hB k hlt;by_cases ho2:E.F k<n
   ·have e:yK z f (k+1)=yK z f k:=by
     rw [a64,hf];funext i;have e0:chg s (E.F k) (E.A r k) i=0:=by rw [ae5 om]
     show _+chg s (E.F k) (E.A r k) i=_;rw [e0];grind
    conv=>whnf
    repeat' (first|refine zx ?_|refine o9 rfl hlt ?_|apply zD<;>intro h<;>try omega)<;>conv=>whnf
    all_goals first|omega|exact ⟨hlt,trivial,[some 0],rfl,rfl,⟨e8 (rows:=(rF s.rows.length (yK z f k)).map o4) rfl rfl rfl rfl (by rw [e]),trivial⟩,⟨rfl,rfl,⟨rfl,rfl,rfl,fun h=>h⟩,rfl,rfl,e7 om,trivial⟩⟩
   ·have hfb:=hP.fb k hlt;obtain ⟨q2,hq2⟩:∃q2,E.F k=n+q2:=⟨E.F k - n,om⟩;obtain ⟨⟨row2,b2⟩,hfr2⟩:∃x,(f8 s)[q2]? =some x:=⟨_,lbf om⟩;have hrow2:row2<s.rows.length:=a7W hfr2;have by1:rl (yK z f k row2)<=50000:=by
     have h1:=a69 (f:=fun j=>f j row2) (B:=B) k fun j hj=>by rw [hf];exact aN6 (hB j om) hB1
     have h2:=a0O (z row2) (k8 (fun j=>f j row2) k);have h3:=zb row2;have:k*(B+1)<=n*(B+1):=lbT _ om;unfold yK;omega
    have ch2:=a7F (f8 s).length n (f8 s) E s.rows.length (yK z f k) q2 row2 b2 (E.A r k) hfr2 hrow2 om by1;have e:a8i (yK z f k) row2 (-(O4 b2 (E.A r k)))=yK z f (k+1):=by rw [aJ8 (s:=s) (w:=E.F k) om hfr2,a64,hf]
    rw [e,show ((q2:Nat):Int)=(E.F k:Int) - n by omega] at ch2;conv=>whnf
    repeat' (first|refine zx ?_|refine o9 rfl hlt ?_|refine a1i rfl hr ?_|refine a4G rfl hlt ?_|refine .inr ⟨_,_,ch2,?_⟩|apply zD<;>intro h<;>try omega)<;>conv=>whnf
    all_goals first|omega|exact ⟨hlt,trivial,[some 0],rfl,rfl,⟨j0 (i5 _),trivial⟩,⟨rfl,rfl,⟨rfl,rfl,rfl,fun h=>h⟩,rfl,rfl,e7 om,trivial⟩⟩
  ·have hke:k=n:=by omega
   subst hke;conv=>whnf
   repeat' (first|refine zx ?_|apply zD<;>intro h<;>try omega)<;>conv=>whnf
   all_goals first|omega|exact ⟨[some 0],rfl,rfl,⟨j0 (i5 _),trivial⟩,⟨rfl,rfl,rfl,fun h=>h⟩⟩
 ·obtain ⟨q,hq⟩:∃q,E.O r=n+q:=⟨E.O r - n,om⟩;obtain ⟨⟨row,b⟩,hfr⟩:∃x,(f8 s)[q]? =some x:=⟨_,lbf om⟩;have hrow:row<s.rows.length:=a7W hfr;have ch:=a7F (f8 s).length n (f8 s) E s.rows.length (fun _=>0) q row b 1 hfr hrow (by have:=rl1;omega) (by have:=rl0;omega);have e:rF s.rows.length (a8i (fun _=>0) row (-(O4 b 1)))=rF s.rows.length z:=B6 fun j hj=>by
   rw [aJ8 (s:=s) (w:=E.O r) om hfr,hz];grind
  rw [e,show ((q:Nat):Int)=(E.O r:Int) - n by omega] at ch;have ch:ec 298 [dT (f8 s).length n (f8 s) E,.c (.own 0 0 s.rows.length true),eI ((E.O r:Int) - n),frS (fz ((1:Int):Rat))] [flB (rF s.rows.length fun _=>0)] (.tup []) [flB (rF s.rows.length z)]:=ch;refine ac Tryz.func222 ?_;conv=>whnf
  repeat' (first|refine zx ?_|refine .inl ⟨_,_,z0 _ rfl,?_⟩|refine o9 rfl hr ?_|refine .inr ⟨_,_,ch,?_⟩|apply zD<;>intro h<;>try omega)<;>conv=>whnf
  all_goals try omega
  refine j3 d7 (fun k=>([dT (f8 s).length n (f8 s) E,J,eI r,J,J,J,J,S.c (C.own 0 0 s.rows.length true)]++Jn 31++[a7v n E.F,eI n,eI k]++Jn 32,[flB (rF s.rows.length (yK z f k))])) n tT [some 0] trivial
   ⟨rfl,rfl,⟨e8 (rows:=(rF s.rows.length z).map o4) rfl rfl rfl (rfl) ?_,trivial⟩,⟨l9 rfl,e7 rfl,⟨rfl,rfl,rfl,fun h=>h⟩,l9 rfl,e7 om,e7 rfl,trivial⟩⟩ ?_
  ·rw [B6 (g:=yK z f 0) (h:=z) fun j hj=>by unfold yK;simp only [k8,Z0];grind]
  intro k hk _;by_cases hlt:k<n
  ·have ba:=hB k hlt;by_cases ho2:E.F k<n
   ·have e:yK z f (k+1)=yK z f k:=by
     rw [a64,hf];funext i;have e0:chg s (E.F k) (E.A r k) i=0:=by rw [ae5 om]
     show _+chg s (E.F k) (E.A r k) i=_;rw [e0];grind
    conv=>whnf
    repeat' (first|refine zx ?_|refine o9 rfl hlt ?_|apply zD<;>intro h<;>try omega)<;>conv=>whnf
    all_goals first|omega|exact ⟨hlt,trivial,[some 0],rfl,rfl,⟨e8 (rows:=(rF s.rows.length (yK z f k)).map o4) rfl rfl rfl rfl (by rw [e]),trivial⟩,⟨rfl,rfl,⟨rfl,rfl,rfl,fun h=>h⟩,rfl,rfl,e7 om,trivial⟩⟩
   ·have hfb:=hP.fb k hlt;obtain ⟨q2,hq2⟩:∃q2,E.F k=n+q2:=⟨E.F k - n,om⟩;obtain ⟨⟨row2,b2⟩,hfr2⟩:∃x,(f8 s)[q2]? =some x:=⟨_,lbf om⟩;have hrow2:row2<s.rows.length:=a7W hfr2;have by1:rl (yK z f k row2)<=50000:=by
     have h1:=a69 (f:=fun j=>f j row2) (B:=B) k fun j hj=>by rw [hf];exact aN6 (hB j om) hB1
     have h2:=a0O (z row2) (k8 (fun j=>f j row2) k);have h3:=zb row2;have:k*(B+1)<=n*(B+1):=lbT _ om;unfold yK;omega
    have ch2:=a7F (f8 s).length n (f8 s) E s.rows.length (yK z f k) q2 row2 b2 (E.A r k) hfr2 hrow2 om by1;have e:a8i (yK z f k) row2 (-(O4 b2 (E.A r k)))=yK z f (k+1):=by rw [aJ8 (s:=s) (w:=E.F k) om hfr2,a64,hf]
    rw [e,show ((q2:Nat):Int)=(E.F k:Int) - n by omega] at ch2;conv=>whnf
    repeat' (first|refine zx ?_|refine o9 rfl hlt ?_|refine a1i rfl hr ?_|refine a4G rfl hlt ?_|refine .inr ⟨_,_,ch2,?_⟩|apply zD<;>intro h<;>try omega)<;>conv=>whnf
    all_goals first|omega|exact ⟨hlt,trivial,[some 0],rfl,rfl,⟨j0 (i5 _),trivial⟩,⟨rfl,rfl,⟨rfl,rfl,rfl,fun h=>h⟩,rfl,rfl,e7 om,trivial⟩⟩
  ·have hke:k=n:=by omega
   subst hke;conv=>whnf
   repeat' (first|refine zx ?_|apply zD<;>intro h<;>try omega)<;>conv=>whnf
   all_goals first|omega|exact ⟨[some 0],rfl,rfl,⟨j0 (i5 _),trivial⟩,⟨rfl,rfl,rfl,fun h=>h⟩⟩
def a6M (ρ:List (Option Nat)) (H:Hp):Env->Env->Prop
 |[],[]=>True
 |s::r,s'::r'=>match s' with
  |.junk=>a6M ρ H r r'
  |s'=>(a6E ρ H s s'∨VYS H (fun id=>L9 ρ id=true) s s')∧a6M ρ H r r'
 |_,_=>False
def a6M.rel {ρ:List (Option Nat)} {H:Hp}:∀{env env':Env},a6M ρ H env env'->env.length=env'.length∧∀(t:Nat) (s':S),env'[t]? =some s'->∃s,env[t]? =some s∧(a6E ρ H s s'∨VYS H (fun id=>L9 ρ id=true) s s')
 |[],[],_=>⟨rfl,zq⟩
 |s::r,s'::r',h=>by
  have h':(a6E ρ H s s'∨VYS H (fun id=>L9 ρ id=true) s s')∧a6M ρ H r r':=by
   cases s' with
   |junk=>exact ⟨.inl trivial,h⟩
   |_=>exact h
  obtain ⟨h1,h2⟩:=a6M.rel h'.2;refine ⟨by simp [h1],fun t s'' ht=>?_⟩;cases t with
  |zero=>simp at ht;subst ht;exact ⟨s,rfl,h'.1⟩
  |succ t=>simpa using h2 t s'' (by simpa using ht)
 |[],_::_,h=>h.elim
 |_::_,[],h=>h.elim
structure b61 (n0:Nat) (ρ:List (Option Nat)) (env:Env) (H:Hp) (env':Env) (H':Hp):Prop where
 k:a2e ρ n0=true
 n:U1 ρ H'=true
 h:a4n ρ H ρ H'
 e:a6M ρ H env env'
def b61.sim {n0:Nat} {ρ:List (Option Nat)} {env env':Env} {H H':Hp} (h:b61 n0 ρ env H env' H') {w0:World} {ι0:Io} {M0:Ms} {H0:Hp} {a:Act} {w:World} (hn:H0.length=n0) (hM0:MB w0 M0)
 (hs:Sim w0 ι0 M0 H0 a w env H):Sim w0 ι0 M0 H0 a w env' H':=by
 obtain ⟨h1,h2,h3,h4⟩:=h;obtain ⟨ι,M,hd,hsz,he,hH,hM,hF,hst⟩:=hs;obtain ⟨hel,heg⟩:=a6M.rel h4;obtain ⟨q1,q2,q3⟩:=a4n.all h1 h2 h3 hn hM0 hH hst;refine ⟨S4 ρ ι,_,hd,om,fun t s' ht=>?_,q1,fun b hb=>hM b hb.1,q2,q3⟩;obtain ⟨s,r1,r2⟩:=heg t s' ht;rcases r2 with r2|r2
 ·exact r2.rs hH (he t s r1)
 ·refine r2.rs hH (fun b hb=>hb.1) ?_ (he t s r1);intro id k b cap size hp hk hd hi hb;exact hb.2 ⟨id,k,cap,size,hp,hk,hd,hi⟩
def Y3 {P:Program} {τ:Tab} (hτ:D2 P τ) {n0:Nat} {x y:Code} {env:Env} {H:Hp} {Q:AX->Env->Hp->Prop} (E2:Env) (H2:Hp)
 (h:a4U P τ n0 x env H fun a env' H'=>match a with
   |.normal=>∃ρ,b61 n0 ρ env' H' E2 H2
   |a=>Q a env' H') (h2:Awp P n0 y E2 H2 Q):Awp P n0 (.seq x y) env H Q:=by
 refine ⟨fun w0 ι0 M0 H0 a w hn hM hs=>?_⟩;refine wp_seq (wp_mono ((p5 hτ x h).out w0 ι0 M0 H0 a w hn hM hs) ?_);rintro e a' w' ⟨x,env',H',rfl,hq,hs'⟩;cases x with
 |normal=>obtain ⟨ρ,he⟩:=hq;exact h2.out w0 ι0 M0 H0 a' w' hn hM (he.sim hn hM hs')
 |exit id=>exact ⟨_,env',H',rfl,hq,hs'⟩
 |ret=>exact ⟨_,env',H',rfl,hq,hs'⟩
def b3S {P:Program} {n0:Nat} {c:Operand} {t e:Code} {env:Env} {H:Hp} {Q:AX->Env->Hp->Prop} {b:Bool} (hb:I7 env c=i9 b) (h:Awp P n0 (cond b t e) env H Q):Awp P n0 (.cond c t e) env H Q:=by
 refine ⟨fun w0 ι0 M0 H0 a w hn hM hs=>?_⟩;have hs0:=hs;obtain ⟨ι,M,hd,hsz,he,hH,hMB,hF,hst⟩:=hs;have hv:=(he.ev.to hb).inv_atm;refine wp_cond hv ?_;cases b with
 |true=>exact h.out w0 ι0 M0 H0 a w hn hM hs0
 |false=>exact h.out w0 ι0 M0 H0 a w hn hM hs0
def b7s {m n:Nat} {fr:LB} {D:Fd} {X:Hp} {p:Nat->Prop} (hp:∀i,i<m+6->p i):VY (M4 m n fr D.V D.G D.O D.F D.A X) p (.own 1 0 m true) (.sl 5 .any (a9M m n D)):=by
 refine b18 (k:=a13 6 m n D.V) (hp _ om) rfl (fun h=>h) rfl (a6b m n D) ?_ ?_
 ·intro r hr;obtain ⟨i,_,rfl⟩:=lbw.1 hr
  rfl
 ·intro i r hi;have him:i<m:=by have:=(lbe.1 hi).1;rwa [a6b] at this
  rw [a9j him] at hi;injection hi with hi;subst hi;refine ⟨_,a3k him,?_⟩;show VYL _ _ ((o4 (fz (D.V i))).map C.t++[C.own (i+6) 0 n true]) _;have hv:VY (M4 m n fr D.V D.G D.O D.F D.A X) p (C.own (i+6) 0 n true) (T.sl 4 .any ((rF n (D.A i)).map o4)):=
   .vc (u5 (k:=flB (rF n (D.A i))) (hp _ om) (E3 (U0 him)) (fun h=>h) rfl rfl (by simp [L1]))
  exact aH3 (ys:=[C.own (i+6) 0 n true]) (us:=[T.sl 4 .any ((rF n (D.A i)).map o4)]) (show _∧True from ⟨hv,trivial⟩)
def ae2 {m n:Nat} {fr:LB} {D:Fd} {X:Hp} {p:Nat->Prop} (hp:∀i,i<m+6->p i):VY (M4 m n fr D.V D.G D.O D.F D.A X) p (.ptr 0 0 0) (.ptr (b9Q m n fr D)):=by
 refine ap9 (k:=b1R m n fr.length) (hp _ om) rfl (fun h=>h) rfl ⟨aN3,b7s hp,?_,?_,?_,?_,trivial⟩
 ·exact .vc (u5 (k:=flB (rF n D.G)) (hp _ om) rfl (fun h=>h) rfl rfl (by simp [L1]))
 ·exact .vc (u5 (k:=Q0 m D.O) (hp _ om) rfl (fun h=>h) rfl rfl (by simp [m6]))
 ·exact .vc (u5 (k:=Q0 n D.F) (hp _ om) rfl (fun h=>h) rfl rfl (by simp [m6]))
 ·exact .vc (u5 (k:=a1Q fr) (hp _ om) rfl (fun h=>h) rfl rfl (by simp [a0y]))
abbrev bp2 (m n k:Nat):Blk:={ mode:=.live,elem:=285,size:=6,rows:=[[C.t (ti n),.own 2 0 m true,.own 3 0 n true,.own 4 0 m true,.own 5 0 n true,.own 6 0 k true]],box:=true }
abbrev be4 (m n:Nat) (fr:LB) (D:Fd) (b:Blk):Hp:=
 b::bp2 m n fr.length::a13 7 m n D.V::flB (rF n D.G)::Q0 m D.O::Q0 n D.F::a1Q fr::(mF m n D.A).map flB
def b30 {N i:Nat} (h:i<N):(a3D [] 1 N).getD i 0=i+1:=by
 unfold a3D;rw [aO4,lbl,lba,lbh h];show 1+i=i+1;omega
def bf7 {σ:List Nat} (ts:List T) (l:List C):a0T σ (ts.map C.t++l)=ts.map C.t++a0T σ l:=by
 rw [P3,P3,lbB,a55]
 congr 1
def ae6 {s:i8} {g:List (Int × Rat)} {n:Nat} (b:Blk) (h:ec 218 [D8 s,k7 g] [] (.c (.ptr 0 0 0)) (a0u (f8 s).length n (f8 s) (j4 s g))):
 ec 218 [D8 s,k7 g] [b] (.c (.ptr 1 0 0)) (be4 (f8 s).length n (f8 s) (j4 s g) b):=by
 have hlen:(a0u (f8 s).length n (f8 s) (j4 s g)).length=(f8 s).length+6:=a3p;have hl:∀k ∈ a0u (f8 s).length n (f8 s) (j4 s g),k.mode=.live:=by
  intro k hk;simp only [lbz] at hk;rcases hk with rfl|rfl|rfl|rfl|rfl|rfl|hk
  ·rfl
  ·rfl
  ·rfl
  ·rfl
  ·rfl
  ·rfl
  ·obtain ⟨l,_,rfl⟩:=lbw.1 hk;rfl
 have hsub:(a0u (f8 s).length n (f8 s) (j4 s g)).length - ([]:Hp).length=(f8 s).length+6:=by rw [hlen];simp
 have g1:∀i,i<(f8 s).length+6->(a3D [] ([b]:Hp).length ((a0u (f8 s).length n (f8 s) (j4 s g)).length - ([]:Hp).length)).getD i 0=i+1:=fun i hi=>by
  rw [hsub];exact b30 hi
 refine Q8 [] h rfl rfl rfl aN7 zq (fun k hk=>by rw [hl k hk];intro h;cases h) zq rfl ?_ (by rw [hsub];simp [f7];omega) ?_ ?_
 ·show S.c (.ptr 1 0 0)=S.c (.ptr _ 0 0);rw [g1 0 om]
 ·intro i k hk;have hi:i<(f8 s).length+6:=by rw [← hlen];exact (lbe.1 hk).1
  rw [g1 i hi];rcases i with _|_|_|_|_|_|i
  ·injection hk with hk;subst hk
   refine ⟨_,rfl,rfl,rfl,rfl,rfl,?_⟩;simp only [a7f,ap1,List.map_nil,a0T,X8];rw [g1 1 om,g1 2 om,g1 3 om,g1 4 om,g1 5 om]
  ·injection hk with hk;subst hk
   refine ⟨_,rfl,rfl,rfl,rfl,rfl,?_⟩;unfold a7f;show V8 7 _ _ _=(V8 6 _ _ _).map _;unfold V8;rw [a55];refine lbp fun j hj=>?_
   have hj:=lbA.1 hj;show _=a0T _ ((o4 (fz ((j4 s g).V j))).map C.t++[C.own (j+6) 0 n true]);rw [bf7];simp only [a0T,X8];rw [g1 (j+6) om]
   rfl
  ·injection hk with hk;subst hk;exact ⟨_,rfl,z4 rfl⟩
  ·injection hk with hk;subst hk;exact ⟨_,rfl,z4 rfl⟩
  ·injection hk with hk;subst hk;exact ⟨_,rfl,z4 rfl⟩
  ·injection hk with hk;subst hk;exact ⟨_,rfl,z4 rfl⟩
  ·have hk:((mF (f8 s).length n (j4 s g).A).map flB)[i]? =some k:=hk;refine ⟨k,hk,?_⟩;obtain ⟨l,_,rfl⟩:=lbw.1 (lbm hk);exact z4 rfl
 ·intro j hj _;have:j=0:=by simpa using hj
  subst this;rfl
def fS (m:Nat):Nat->Nat:=fun i=>if i<m+6 then i+1 else 0
def a8a {m n:Nat} {fr:LB} {D:Fd} {b:Blk} {env env':Env} {H:Hp} (hb:I5 b.rows) (hH:H=be4 m n fr D b) (hE:X5 (fR (m+7) (fS m)) H env env'):
 Ent 0 (fR (m+7) (fS m)) env H env' (M4 m n fr D.V D.G D.O D.F D.A [b]):=by
 subst hH;have fa:∀i,i<m+6->fS m i=i+1:=fun i hi=>by unfold fS;rw [if_pos hi]
 refine a8W (by simp [f7]) om (fun i hi=>om) (fun i j hi hj h=>by unfold fS at h;(repeat' split at h)<;>omega) ?_ hE;intro i k' hk;rcases i with _|_|_|_|_|_|i
 ·injection hk with hk;subst hk
  rw [fa 0 om];exact ⟨_,rfl,rfl,rfl,rfl,.inr ⟨⟨rfl,⟨by rw [t8 om,fa _ om],rfl,rfl,fun h=>h⟩,⟨by rw [t8 om,fa _ om],rfl,rfl,fun h=>h⟩,⟨by rw [t8 om,fa _ om],rfl,rfl,fun h=>h⟩,⟨by rw [t8 om,fa _ om],rfl,rfl,fun h=>h⟩,⟨by rw [t8 om,fa _ om],rfl,rfl,fun h=>h⟩,trivial⟩,trivial⟩⟩
 ·injection hk with hk;subst hk
  rw [fa 1 om];refine ⟨_,rfl,a2n (h:=fun i=>i+7) (h':=fun i=>i+6) fun j hj=>?_⟩;rw [t8 om,fa _ om]
 ·injection hk with hk;subst hk;rw [fa 2 om];exact ⟨_,rfl,j0 (i5 _)⟩
 ·injection hk with hk;subst hk;rw [fa 3 om];exact ⟨_,rfl,j0 (i5 _)⟩
 ·injection hk with hk;subst hk;rw [fa 4 om];exact ⟨_,rfl,j0 (i5 _)⟩
 ·injection hk with hk;subst hk;rw [fa 5 om];exact ⟨_,rfl,j0 (i5 _)⟩
 ·have hk:((mF m n D.A).map flB++[b])[i]? =some k':=hk;by_cases hi:i<m
  ·rw [E3 (U0 hi)] at hk;injection hk with hk;subst hk
   rw [fa _ om];refine ⟨flB (rF n (D.A i)),?_,j0 (i5 _)⟩;show ((mF m n D.A).map flB)[i]? =_;rw [lba,U0 hi];rfl
  ·obtain ⟨t,rfl⟩:∃t,i=m+t:=⟨i - m,om⟩;rw [a1V (f7 _ _ _)] at hk;rcases t with _|t
   ·injection hk with hk;subst hk
    have:fS m (m+0+6)=0:=by unfold fS;rw [if_neg om]
    rw [this];exact ⟨_,rfl,j0 hb⟩
   ·simp at hk
def a6p {m n:Nat} {fr:LB} {D E:Fd} {r:S} (X:Hp) (hr:aq0 r=true) (hr':r.isT=true) (h:ec 219 [.c (.ptr 0 0 0)] (a0u m n fr D) r (a0u m n fr E)):
 ec 219 [.c (.ptr 0 0 0)] (M4 m n fr D.V D.G D.O D.F D.A X) r (M4 m n fr E.V E.G E.O E.F E.A X):=by
 have hl:∀{D:Fd},∀k ∈ a0u m n fr D,k.mode=.live∧k.app=false:=by
  intro D k hk;simp only [lbz] at hk;rcases hk with rfl|rfl|rfl|rfl|rfl|rfl|hk
  ·exact rz
  ·exact rz
  ·exact rz
  ·exact rz
  ·exact rz
  ·exact rz
  ·obtain ⟨l,_,rfl⟩:=lbw.1 hk;exact rz
 exact a2H (n:=m+6) X h a3p a3p (by simp [okS,okC,a0j]) (fun k hk=>⟨(hl k hk).1,(hl k hk).2,a8b k hk⟩) (fun k hk=>⟨(by rw [(hl k hk).1];intro h;cases h),a8b k hk⟩) hr hr'
def aW5 (l:List (Int × Rat)) (z:List Rat) (hl:l.length<=1000000) (h1:∀t ∈ l,rl t.2<=20000) (h2:∀v ∈ z,rl v<=40000) (hS:∀k,rl (m7 (l.take k) z)<=60000) (hz:z.length<=1000000) (hr:j2 (-1) z.length l=true):
 ec 208 [k7 l,n6 (z.map fz)] [] (frS (fz (m7 l z))) []:=by
 have m1:(l.map o7).length=l.length:=zq;have m2:((z.map fz).map o4).length=z.length:=zq;have i0:=O7 0 de de;refine ac Tryz.func208 ?_;conv=>whnf
 repeat' (first|refine zx ?_|apply zD<;>intro<;>try omega)<;>conv=>whnf
 refine j3 d7 (fun k=>([J,n6 (z.map fz),J,J,sP 0 0 0,sP 1 0 0,J,J,J,J,J,k7 l,eI l.length,eI k]++Jn 22,[frB C6,frB (fz (m7 (l.take k) z))])) l.length tT [some 0,some 1] trivial
  ⟨rfl,rfl,⟨⟨rfl,rfl,rfl,.inr rz⟩,⟨rfl,rfl,rfl,.inl ⟨rfl,y3 _⟩⟩,trivial⟩,⟨rfl,rz,rz,rfl,e7 zq,rz⟩⟩ ?_
 intro k hk _;by_cases hlt:k<l.length
 ·obtain ⟨t,ht⟩:∃t,l[k]? =some t:=⟨_,lbf hlt⟩;obtain ⟨v,c⟩:=t;have hv:=a99 hr _ (lbm ht);simp only at hv;have bc:=h1 _ (lbm ht);simp only at bc;obtain ⟨x,hx⟩:∃x,z[v.toNat]? =some x:=⟨_,lbf om⟩;have hxd:z.getD v.toNat 0=x:=by rw [lbl,hx];rfl
  have bx:=h2 x (lbm hx);have b3:=a39 c x;have bs:=hS k;have mu:=aK8 c x om om;have ad:=a60 (m7 (l.take k) z) (c*x) om om;have e:m7 (l.take k) z+c*x=m7 (l.take (k+1)) z:=by
   have:l.take (k+1)=l.take k++[(v,c)]:=by rw [lbF,ht];rfl
   rw [this,I6,←hxd]
  rw [e] at ad;have xz:(z.map fz)[v.toNat]? =some (fz x):=by rw [lba,hx];rfl
  conv=>whnf
  repeat' (first|refine zx ?_|refine i6 ht ?_|refine G7 om xz ?_|refine bl0 [10] ?_|refine bl0 [5] ?_|apply zD<;>intro<;>try omega)<;>conv=>whnf
  all_goals first|omega|exact ⟨hlt,trivial,[some 0,some 1],rfl,rfl,⟨⟨rfl,rfl,rfl,.inl ⟨rfl,y3 _⟩⟩,⟨rfl,rfl,rfl,.inl ⟨rfl,y3 _⟩⟩,trivial⟩,rz⟩
 ·have hke:k=l.length:=by omega
  subst hke;rw [lbn (lbQ _)];conv=>whnf
  repeat' (first|refine zx ?_|apply zD<;>intro<;>try omega)<;>conv=>whnf
  all_goals first|omega|exact aV4 rfl
def a6d (z:List Rat):(z.map fz).all t7=true:=by
 rw [lbv];intro f hf;obtain ⟨x,_,rfl⟩:=lbw.1 hf;exact ah4 x
def an9 (l:List (Int × Rat)) (z:List Rat) (hl:l.length<=1000000) (h1:∀t ∈ l,rl t.2<=200) (h2:∀v ∈ z,rl v<=40000) (hS:∀k,rl (m7 (l.take k) z)<=60000) (hz:z.length<=1000000) (hr:j2 (-1) z.length l=true):
 ec 151 [k7 l,n6 (z.map fz)] [] (.tup [frS (fz (m7 l z)),i9 true]) []:=by
 have m2:((z.map fz).map o4).length=z.length:=zq;have rt:=N3 l z.length hl h1;rw [lbG om,hr] at rt;have pt:=ae3 (z.map fz) (by simpa using hz) (fun f hf=>by
  obtain ⟨x,hx,rfl⟩:=lbw.1 hf;have:=h2 x hx;have a:=E0 x;have b:=D5 x;exact ⟨by show bl x.num<=_;omega,by show bl x.den<=_;omega⟩)
 rw [a6d] at pt;have va:=aW5 l z hl (fun t ht=>by have:=h1 t ht;omega) h2 hS hz hr;have rt2:ec 153 [k7 l,eI (((z.map fz).map o4).length:Nat)] [] (i9 (true && true)) []:=by rw [m2];exact rt
 refine ac Tryz.func151 ?_;conv=>whnf
 repeat' (first|refine zx ?_|apply zD<;>intro<;>try omega)<;>conv=>whnf
 all_goals first|(exfalso;simp_all;done)|exact m9 rz
structure F3 (s:i8) (g:List (Int × Rat)) (n B:Nat):Prop where
 o:ba0 s g n
 sb:T9 s
 gb:∀t ∈ g,rl t.2<=200
 bd:∀D,M6 (f8 s).length n (j4 s g) D->BdD (f8 s).length n B D
 b1:1<=B
 bn:(n+3)*(B+2)<=50000
 r:s.rows.length<=1000
def F3.nn {s:i8} {g:List (Int × Rat)} {n B:Nat} (h:F3 s g n B):s.n.toNat=n:=by have:=h.o.en;omega
def F3.bb {s:i8} {g:List (Int × Rat)} {n B:Nat} (h:F3 s g n B):B<=17000:=by
 have h1:=h.bn;have:(n+3)*(B+2)=n*(B+2)+3*(B+2):=by rw [R0]
 omega
def F3.m {s:i8} {g:List (Int × Rat)} {n B:Nat} (h:F3 s g n B):(f8 s).length<=2000:=by
 have:=a0a (s:=s) s.rows.length;have:=h.r;show (F7 s s.rows.length).length<=_;omega
abbrev bO (cells:List C):Blk:={ mode:=.live,elem:=174,size:=8,rows:=[cells],box:=true }
abbrev z8:List C:=[.t (ti 0),.t (ti 0),.t (.sl 0 .nil []),.t (ti 0),.t (.sl 0 .nil []),.t (.sl 0 .nil []),.t (.sl 0 .nil []),.t (.sl 0 .nil [])]
def a3n:I5 (bO z8).rows:=i5 [[ti 0,ti 0,.sl 0 .nil [],ti 0,.sl 0 .nil [],.sl 0 .nil [],.sl 0 .nil [],.sl 0 .nil []]]
def a1x {s:i8} {g:List (Int × Rat)} {n B:Nat} (h:F3 s g n B):
 ec 219 [.c (.ptr 0 0 0)] (a0u (f8 s).length n (f8 s) (j4 s g)) (.tup [eI (a5Z (F5 s g)).1,eI (a5Z (F5 s g)).2]) (a0u (f8 s).length n (f8 s) (o6 s g)):=by
 have hn:=h.nn;subst hn;have hm:=h.m;exact b5N _ _ (f8 s) (j4 s g) _ om h.o.n1 T4 (fun D hD=>by
  have hb:=h.bd D hD;have hB:=h.bb;exact ⟨fun i hi=>by have:=hb.v i hi;omega,fun i hi j hj=>by have:=hb.a i hi j hj;omega,fun j hj=>by have:=hb.g j hj;omega⟩)
def an3 {s:i8} {g:List (Int × Rat)} {n B:Nat} (h:F3 s g n B):(m8 s g).length=n:=by unfold m8;rw [K2];exact h.nn
def a9Z {s:i8} {g:List (Int × Rat)} {n B:Nat} (h:F3 s g n B):ec 220 [dT (f8 s).length n (f8 s) (o6 s g)] [] (n6 ((m8 s g).map fz)) []:=by
 have hn:=h.nn;subst hn;exact b7n _ _ _ _ I0.p (by have:=h.m;omega) h.o.n1
def a9u {s:i8} {g:List (Int × Rat)} {n B:Nat} (h:F3 s g n B):BdD (f8 s).length n B (o6 s g):=by
 have hn:=h.nn;subst hn;exact h.bd _ (a2w T4).1
def aF6 {s:i8} {g:List (Int × Rat)} {n B:Nat} (h:F3 s g n B) (H:Hp):X3 Tryz.prog 223 [dT (f8 s).length n (f8 s) (o6 s g),eI s.rows.length] H (.c (.own H.length 0 s.rows.length true)) [flB (rF s.rows.length (D9 s (o6 s g)))]:=by
 have hb:=a9u h;have hp:R4 (f8 s).length n (o6 s g):=by have hn:=h.nn;subst hn;exact I0.p
 refine a1F (b4u s n h.o.en (o6 s g) hp B hb.g h.b1 ?_ (by have:=h.m;omega) h.r h.o.n1) rfl rfl (i5 _);have:=h.bn;have:(n+3)*(B+2)=(n+2)*(B+2)+(B+2):=by rw [show n+3=(n+2)+1 by omega,lbU]
 omega
def T6 {i m:Nat} (h:i<m):L9 [some m] i=true:=by
 unfold L9;have:Nat.beq m i=false:=by
  cases hb:Nat.beq m i with
  |false=>rfl
  |true=>have:=a0J hb;omega
 rw [this];rfl
def aD0 {m n:Nat} {fr:LB} {D:Fd} {env env':Env} (b:Blk) (hb:I5 b.rows) (hE:a6M [some (m+6)] (M4 m n fr D.V D.G D.O D.F D.A [b]) env env'):b61 0 [some (m+6)] env (M4 m n fr D.V D.G D.O D.F D.A [b]) env' [b]:=by
 refine ⟨rfl,?_,a2N rfl fun i k' hk=>?_,hE⟩
 ·simp only [U1,a4X];cases b.mode<;>rfl
 ·rcases i with _|i
  ·injection hk with hk;subst hk
   exact ⟨m+6,_,rfl,a1V (t:=0) (f7 _ _ _),j0 hb⟩
  ·simp at hk
def a46 (s:i8) (g:List (Int × Rat)) (n B:Nat) (h:F3 s g n B) (hout:F5 s g=.best) (hS:∀k,rl (m7 (g.take k) (m8 s g))<=60000) (hpt:∀v ∈ m8 s g,rl v<=40000):
 ec 141 [D8 s,k7 g] [] (.tup [.agg (C.t (ti 0)::frC (fz (m7 g (m8 s g)))++[.t (O8 ((m8 s g).map fz)),.own 0 0 s.rows.length true,.t (.sl 0 .nil [])]),eI 0]) [flB (rF s.rows.length (D9 s (o6 s g)))]:=by
 have hn:=h.nn;have hm:=h.m;have hr1:=h.r;have hgl:=s9 h.o.tg;have hn1:=h.o.n1;have lr:=a3r s h.sb;rw [h.o.r] at lr;have rt:=N3 g s.n (by have:=h.o.n1;omega) h.gb;rw [h.o.en,lbG om,h.o.tg,←h.o.en] at rt;have op:=ae6 (bO z8) (aH1 s g n h.o);have se:=a1x h;rw [hout] at se;have m1:(s.rows.map p4).length=s.rows.length:=zq;have pt:=a9Z h;have va:=an9 g (m8 s g) om h.gb hpt hS (by rw [an3 h];omega) (by rw [an3 h];exact h.o.tg);have pr:∀H:Hp,X3 Tryz.prog 223 [dT (f8 s).length n (f8 s) (o6 s g),eI ((s.rows.map p4).length:Nat)] H (.c (.own H.length 0 s.rows.length true)) [flB (rF s.rows.length (D9 s (o6 s g)))]:=by rw [m1];exact aF6 h
 (refine M9 d7 Tryz.func141 rfl de ?_;refine u3 d7 ?_;(conv=>whnf);repeat ((first|refine b0x ?_|refine zy ?_);conv=>whnf))
 repeat' (first|refine zz ?_|refine b0x ?_|apply zD<;>intro h<;>try omega|refine zy ?_|fail)<;>conv=>whnf
 (refine u3 d7 ?_;conv=>whnf)
 repeat' (first|refine zx ?_|apply zD<;>intro h<;>try omega)<;>conv=>whnf
 all_goals try (exfalso;simp_all;done)
 refine u7 d7 ([J,k7 g,S.c (C.t (T.ptr (a0b s))),J,S.c (C.ptr ((f8 s).length+6) 0 0),eI 0,sP 0 0 0]++Jn 71) (M4 (f8 s).length n (f8 s) (j4 s g).V (j4 s g).G (j4 s g).O (j4 s g).F (j4 s g).A [bO z8]) ?_ ?_
 ·conv=>whnf
  repeat' (first|refine zx ?_|refine .inr ⟨_,_,op,?_⟩|refine C1 ?_|apply zD<;>intro h<;>try omega)<;>conv=>whnf
  exact ⟨_,a8a a3n rfl ⟨rfl,l9 rfl,⟨by rw [t8 om];simp [fS],rz⟩,rfl,⟨by rw [t8 om];simp [fS],rz⟩,trivial⟩⟩
 refine Y3 d7 ([J,k7 g,S.c (C.t (T.ptr (a0b s))),J,sP 0 0 0,eI 0,dT (f8 s).length n (f8 s) (o6 s g),eI (-1),eI (-1)]++Jn 69) [bO z8] ?_ ?_
 ·have si:=a6p [bO z8] rfl rfl se;conv=>whnf
  repeat' (first|refine zx ?_|refine .inr ⟨_,_,si,?_⟩|refine f5 ?_|refine bl0 [4] ?_|apply zD<;>intro h<;>try omega)<;>conv=>whnf
  exact ⟨_,aD0 (bO z8) a3n ⟨.inl (l9 rfl),.inl (l9 rfl),.inl rz,.inl rfl,.inr (ae2 fun i hi=>T6 hi),.inl rfl,.inl rfl,trivial⟩⟩
 (refine u3 d7 ?_;conv=>whnf)
 repeat' (first|refine zx ?_|apply zD<;>intro h<;>try omega)<;>conv=>whnf
 all_goals try omega
 (refine u3 d7 ?_;conv=>whnf)
 repeat' (first|refine zx ?_|apply zD<;>intro h<;>try omega)<;>conv=>whnf
 all_goals try omega
 (refine u3 d7 ?_;conv=>whnf)
 repeat' (first|refine zx ?_|apply zD<;>intro h<;>try omega)<;>conv=>whnf
 (refine u3 d7 ?_;conv=>whnf)
 repeat' (first|refine zx ?_|refine bl0 [4] ?_|refine bl0 [5] ?_|apply zD<;>intro h<;>try omega)<;>conv=>whnf
 (refine u3 d7 ?_;conv=>whnf)
 repeat' (first|refine zx ?_|refine .inl ⟨_,_,pr _,?_⟩|apply zD<;>intro h<;>try omega)<;>conv=>whnf
 refine p5 d7 _ ?_;conv=>whnf
 repeat' (first|refine zx ?_|apply zD<;>intro h<;>try omega)<;>conv=>whnf
 exact ⟨[some 2],rfl,rfl,⟨j0 (i5 _),trivial⟩,⟨⟨rfl,rfl,rfl,rfl,rfl,rfl,⟨rfl,rfl,rfl,fun h=>h⟩,rz⟩,rz⟩⟩
def a3Q {P:Program} {g:FuncId} {args args':List S} {H H':Hp} {r:S} (h:d6 P g args' H r H') (hl:args.length=args'.length)
 (hw:∀(w:World) (ι:Io) (M:Ms) (j:Nat) (s s':S) (v:Value),args[j]? =some s->args'[j]? =some s'->RS w ι M s v->RS w ι M s' v):d6 P g args H r H':=by
 refine ⟨h.1,fun w ι M vals hl2 hv hH hM hf=>h.2 w ι M vals om (fun j s' hj=>?_) hH hM hf⟩;have hlt:=(lbe.1 hj).1;exact hw w ι M j _ s' _ (lbf om) hj (hv j _ (lbf om))
def b5o {s:i8} {n:Nat} (b:Blk) (h:ec 218 [D8 s,k7 []] [] (.c (.ptr 0 0 0)) (a0u (f8 s).length n (f8 s) (j4 s []))):
 ec 218 [D8 s,.c (.t (.sl 0 .nil []))] [b] (.c (.ptr 1 0 0)) (be4 (f8 s).length n (f8 s) (j4 s []) b):=by
 refine a3Q (ae6 b h) rfl fun w ι M j x y v hx hy hr=>?_
 rcases j with _|_|j
 ·injection hx with hx;injection hy with hy;subst hx hy;exact hr
 ·injection hx with hx;injection hy with hy;subst hx hy
  cases hr with
  |c hr=>cases hr with
   |t hr=>exact .c (.t (hr.weak rfl))
 ·simp at hx
def a9b {s:i8} {g:List (Int × Rat)} {n B r:Nat} (h:F3 s g n B) (hr:r<(f8 s).length) (H:Hp):X3 Tryz.prog 222 [dT (f8 s).length n (f8 s) (o6 s g),eI s.rows.length,eI r] H (.c (.own H.length 0 s.rows.length true)) [flB (rF s.rows.length (a9Q s (o6 s g) r))]:=by
 have hb:=a9u h;have hp:R4 (f8 s).length n (o6 s g):=by have hn:=h.nn;subst hn;exact I0.p
 exact a1F (aG5 s n r h.o.en (o6 s g) hp hr B (hb.a r hr) h.b1 h.bn (by have:=h.m;omega) h.r h.o.n1) rfl rfl (i5 _)
def b4i {s:i8} {g:List (Int × Rat)} {n B c:Nat} (h:F3 s g n B) (hc:c<n):ec 221 [dT (f8 s).length n (f8 s) (o6 s g),eI c] [] (n6 ((a4h s g c).map fz)) []:=by
 have hb:=a9u h;have hB:=h.bb;have hn:=h.nn;subst hn;exact bg7 _ _ _ _ c hc I0.p (by have:=h.m;omega) h.o.n1 (fun i hi=>by have:=hb.a i hi c hc;omega)
abbrev bk5:List C:=frC C6
def aR5 (s:i8) (g:List (Int × Rat)) (n B r:Nat) (h:F3 s g n B) (hout:F5 s g=.row r):
 ec 141 [D8 s,k7 g] [] (.tup [.agg (C.t (ti 1)::bk5++[.t (.sl 0 .nil []),.own 0 0 s.rows.length true,.t (.sl 0 .nil [])]),eI 0]) [flB (rF s.rows.length (a9Q s (o6 s g) r))]:=by
 have hn:=h.nn;have hm:=h.m;have hr1:=h.r;have hgl:=s9 h.o.tg;have hn1:=h.o.n1;have hrm:r<(f8 s).length:=by have:=(a8y hout).1;exact this
 have lr:=a3r s h.sb;rw [h.o.r] at lr;have rt:=N3 g s.n (by have:=h.o.n1;omega) h.gb;rw [h.o.en,lbG om,h.o.tg,←h.o.en] at rt;have op:=ae6 (bO z8) (aH1 s g n h.o);have se:=a1x h;rw [hout] at se;have m1:(s.rows.map p4).length=s.rows.length:=zq;have rf:∀H:Hp,X3 Tryz.prog 222 [dT (f8 s).length n (f8 s) (o6 s g),eI ((s.rows.map p4).length:Nat),eI r] H (.c (.own H.length 0 s.rows.length true)) [flB (rF s.rows.length (a9Q s (o6 s g) r))]:=by rw [m1];exact a9b h hrm
 (refine M9 d7 Tryz.func141 rfl de ?_;refine u3 d7 ?_;(conv=>whnf);repeat ((first|refine b0x ?_|refine zy ?_);conv=>whnf))
 repeat' (first|refine zz ?_|refine b0x ?_|apply zD<;>intro h<;>try omega|refine zy ?_|fail)<;>conv=>whnf
 (refine u3 d7 ?_;conv=>whnf)
 repeat' (first|refine zx ?_|apply zD<;>intro h<;>try omega)<;>conv=>whnf
 all_goals try (exfalso;simp_all;done)
 refine u7 d7 ([J,k7 g,S.c (C.t (T.ptr (a0b s))),J,S.c (C.ptr ((f8 s).length+6) 0 0),eI 0,sP 0 0 0]++Jn 71) (M4 (f8 s).length n (f8 s) (j4 s g).V (j4 s g).G (j4 s g).O (j4 s g).F (j4 s g).A [bO z8]) ?_ ?_
 ·conv=>whnf
  repeat' (first|refine zx ?_|refine .inr ⟨_,_,op,?_⟩|refine C1 ?_|apply zD<;>intro h<;>try omega)<;>conv=>whnf
  exact ⟨_,a8a a3n rfl ⟨rfl,l9 rfl,⟨by rw [t8 om];simp [fS],rz⟩,rfl,⟨by rw [t8 om];simp [fS],rz⟩,trivial⟩⟩
 refine Y3 d7 ([J,k7 g,S.c (C.t (T.ptr (a0b s))),J,sP 0 0 0,eI 0,dT (f8 s).length n (f8 s) (o6 s g),eI r,eI (-1)]++Jn 69) [bO z8] ?_ ?_
 ·have si:=a6p [bO z8] rfl rfl se;conv=>whnf
  repeat' (first|refine zx ?_|refine .inr ⟨_,_,si,?_⟩|refine f5 ?_|refine bl0 [4] ?_|apply zD<;>intro h<;>try omega)<;>conv=>whnf
  exact ⟨_,aD0 (bO z8) a3n ⟨.inl (l9 rfl),.inl (l9 rfl),.inl rz,.inl rfl,.inr (ae2 fun i hi=>T6 hi),.inl rfl,.inl rfl,trivial⟩⟩
 (refine u3 d7 ?_;conv=>whnf)
 repeat' (first|refine zx ?_|apply zD<;>intro h<;>try omega)<;>conv=>whnf
 all_goals try omega
 (refine u3 d7 ?_;conv=>whnf)
 repeat' (first|refine zx ?_|refine .inl ⟨_,_,rf _,?_⟩|apply zD<;>intro h<;>try omega)<;>conv=>whnf
 all_goals first|omega|exact ⟨[some 1],rfl,rfl,⟨j0 (i5 _),trivial⟩,⟨⟨rfl,rfl,rfl,rfl,rfl,rfl,⟨rfl,rfl,rfl,fun h=>h⟩,rz⟩,rz⟩⟩
def b3q {P:Program} {n0:Nat} {c:Operand} {t e:Code} {env:Env} {H:Hp} {Q:AX->Env->Hp->Prop} (hb:I7 env c=i9 true) (h:Awp P n0 t env H Q):Awp P n0 (.cond c t e) env H Q:=b3S hb h
def aG6 (s:i8) (g:List (Int × Rat)) (n B B0 c:Nat) (h:F3 s g n B) (h0:F3 s [] n B0) (hout:F5 s g=.col c) (hout0:F5 s []=.best):
 ec 141 [D8 s,k7 g] [] (.tup [.agg (C.t (ti 2)::bk5++[.t (O8 ((m8 s []).map fz)),.t (.sl 0 .nil []),.t (O8 ((a4h s g c).map fz))]),eI 0]) []:=by
 have hn:=h.nn;have hm:=h.m;have hr1:=h.r;have hgl:=s9 h.o.tg;have hn1:=h.o.n1;have hcn:c<n:=by have:=(a3L hout).1;omega
 have lr:=a3r s h.sb;rw [h.o.r] at lr;have rt:=N3 g s.n (by have:=h.o.n1;omega) h.gb;rw [h.o.en,lbG om,h.o.tg,←h.o.en] at rt;have op:=ae6 (bO z8) (aH1 s g n h.o);have se:=a1x h;rw [hout] at se;have op0:=b5o (bO z8) (aH1 s [] n h0.o);have se0:=a1x h0;rw [hout0] at se0;have m1:(s.rows.map p4).length=s.rows.length:=zq;have pt:=a9Z h0;have ra:=b4i h hcn
 (refine M9 d7 Tryz.func141 rfl de ?_;refine u3 d7 ?_;(conv=>whnf);repeat ((first|refine b0x ?_|refine zy ?_);conv=>whnf))
 repeat' (first|refine zz ?_|refine b0x ?_|apply zD<;>intro h<;>try omega|refine zy ?_|fail)<;>conv=>whnf
 (refine u3 d7 ?_;conv=>whnf)
 repeat' (first|refine zx ?_|apply zD<;>intro h<;>try omega)<;>conv=>whnf
 all_goals try (exfalso;simp_all;done)
 refine u7 d7 ([J,k7 g,S.c (C.t (T.ptr (a0b s))),J,S.c (C.ptr ((f8 s).length+6) 0 0),eI 0,sP 0 0 0]++Jn 71) (M4 (f8 s).length n (f8 s) (j4 s g).V (j4 s g).G (j4 s g).O (j4 s g).F (j4 s g).A [bO z8]) ?_ ?_
 ·conv=>whnf
  repeat' (first|refine zx ?_|refine .inr ⟨_,_,op,?_⟩|refine C1 ?_|apply zD<;>intro h<;>try omega)<;>conv=>whnf
  exact ⟨_,a8a a3n rfl ⟨rfl,l9 rfl,⟨by rw [t8 om];simp [fS],rz⟩,rfl,⟨by rw [t8 om];simp [fS],rz⟩,trivial⟩⟩
 refine Y3 d7 ([J,k7 g,S.c (C.t (T.ptr (a0b s))),J,sP 0 0 0,eI 0,dT (f8 s).length n (f8 s) (o6 s g),eI (-1),eI c]++Jn 69) [bO z8] ?_ ?_
 ·have si:=a6p [bO z8] rfl rfl se;conv=>whnf
  repeat' (first|refine zx ?_|refine .inr ⟨_,_,si,?_⟩|refine f5 ?_|refine bl0 [4] ?_|apply zD<;>intro h<;>try omega)<;>conv=>whnf
  exact ⟨_,aD0 (bO z8) a3n ⟨.inl (l9 rfl),.inl (l9 rfl),.inl rz,.inl rfl,.inr (ae2 fun i hi=>T6 hi),.inl rfl,.inl rfl,trivial⟩⟩
 refine a86 ?_;refine u3 d7 ?_;conv=>whnf
 repeat' (first|refine zx ?_|apply zD<;>intro h<;>try omega)<;>conv=>whnf
 all_goals try omega
 refine b3q rfl ?_;refine u7 d7 ([J,k7 g,S.c (C.t (T.ptr (a0b s))),J,S.c (C.ptr ((f8 s).length+6) 0 0),eI 0,dT (f8 s).length n (f8 s) (o6 s g),eI (-1),eI c,sP 0 0 0]++Jn 68) (M4 (f8 s).length n (f8 s) (j4 s []).V (j4 s []).G (j4 s []).O (j4 s []).F (j4 s []).A [bO z8]) ?_ ?_
 ·conv=>whnf
  repeat' (first|refine zx ?_|refine .inr ⟨_,_,op0,?_⟩|refine C1 ?_|apply zD<;>intro h<;>try omega)<;>conv=>whnf
  exact ⟨_,a8a a3n rfl ⟨rfl,l9 rfl,⟨by rw [t8 om];simp [fS],rz⟩,rfl,l9 rfl,rfl,rfl,⟨by rw [t8 om];simp [fS],rz⟩,trivial⟩⟩
 refine Y3 d7 ([J,k7 g,S.c (C.t (T.ptr (a0b s))),J,sP 0 0 0,eI 0,dT (f8 s).length n (f8 s) (o6 s g),eI (-1),eI c,dT (f8 s).length n (f8 s) (o6 s []),eI (-1),eI (-1)]++Jn 66) [bO z8] ?_ ?_
 ·have si:=a6p [bO z8] rfl rfl se0;conv=>whnf
  repeat' (first|refine zx ?_|refine .inr ⟨_,_,si,?_⟩|refine f5 ?_|refine bl0 [4] ?_|apply zD<;>intro h<;>try omega)<;>conv=>whnf
  exact ⟨_,aD0 (bO z8) a3n ⟨.inl (l9 rfl),.inl (l9 rfl),.inl rz,.inl rfl,.inl (l9 rfl),.inl rfl,.inl rfl,.inr (ae2 fun i hi=>T6 hi),.inl rfl,.inl rfl,trivial⟩⟩
 refine p5 d7 _ ?_;conv=>whnf
 repeat' (first|refine zx ?_|apply zD<;>intro h<;>try omega)<;>conv=>whnf
 all_goals first|omega|exact ⟨[],rz⟩
end Go.Proofs.YtikokmdpigploaaGreat
