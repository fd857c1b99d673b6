/- Part 10. -/
import Derived.Test.YtbcdidimaioapaaGreatRl4
namespace Go.Proofs.YtbcdidimaioapaaGreat
set_option linter.all false
set_option maxRecDepth 100000
set_option maxHeartbeats 8000000
open Go.RowKit
open St1 St2 St3 St4 St5 St6 St7 St8 StA StB StC
def a1U {H:Hp} {N n:Nat} (hN:H.length=N) (hn:n<=1000):a0x Tryz.prog 185 [eI n] H (.c (.own N 0 n true)) [flB (rF n fun _=>0)]:=by subst hN;exact b6r H n hn
abbrev pB (n k l i f:Nat):Blk:={ mode:=.live,elem:=212,size:=6,rows:=[[C.t (ti n),.own l 0 k true,.own 2 0 n true,.own i 0 k true,.t (.sl 0 .nil []),.own f 0 k true]],box:=true }
abbrev ap1 (t:TypeId) (s:Nat):Blk:=⟨.dead,t,s,[],false,false⟩
abbrev a8g (n k:Nat) (V G:Nat->Rat) (O:Nat->Nat) (fr:LB) (A:Nat->Nat->Rat) (X:Hp):Hp:=
 pB n k 1 3 4::a29 5 k n V::flB (rF n G)::U7 k O::a2U fr::((mF k n A).map flB++X)
abbrev lnX (k n:Nat) (v:Rat):Blk:={ mode:=.live,elem:=216,size:=5,rows:=[frC (fz v)++[C.own (k+6) 0 n true]],box:=true }
abbrev b5O (n k:Nat) (v:Rat) (a V G:Nat->Rat) (O:Nat->Nat) (fr:LB) (f:Nat × Bool) (A:Nat->Nat->Rat) (bx:Blk):Hp:=
 pB n (k+1) (k+8) (k+7) (k+9)::ap1 216 5::flB (rF n G)::ap1 3 1::ap1 229 2::((mF k n A).map flB++
  [bx,flB (rF n a),U7 (k+1) O,{ mode:=.live,elem:=216,size:=5,rows:=a0d 5 k n V++[frC (fz v)++[C.own (k+6) 0 n true]],box:=false },a2U (fr++[f])])
def aY9 {k n N:Nat} {v:Rat} (h:k+6<N):okB N (lnX k n v):=by
 intro r hr c hc;simp at hr;subst hr;simp [frC] at hc;rcases hc with rfl|rfl|rfl|rfl|rfl<;>first|trivial|exact h
def bQ4 {n k N l i f:Nat} (h1:l<N) (h2:i<N) (h3:f<N) (h4:2<N):okB N (pB n k l i f):=by
 intro r hr c hc;simp at hr;subst hr;simp at hc;rcases hc with rfl|rfl|rfl|rfl|rfl|rfl<;>first|trivial|assumption
def b1J {n k:Nat} {V G:Nat->Rat} {O:Nat->Nat} {fr:LB} {A:Nat->Nat->Rat} {X:Hp}:(a8g n k V G O fr A X).length=k+5+X.length:=by simp [i8];omega
def bo7 {n k N:Nat} {V G:Nat->Rat} {O:Nat->Nat} {fr:LB} {A:Nat->Nat->Rat} {X:Hp} (h:k+5<=N) (hX:∀b ∈ X,okB N b):∀b ∈ a8g n k V G O fr A X,okB N b:=by
 intro b hb;simp only [lbA,lbz] at hb;rcases hb with rfl|rfl|rfl|rfl|rfl|hb|hb
 ·exact bQ4 om om om om
 ·exact ay3 h
 ·exact A8 rfl
 ·exact A8 rfl
 ·exact A8 rfl
 ·obtain ⟨l,_,rfl⟩:=lbx.1 hb;exact A8 rfl
 ·exact hX b hb
def b8D {n k:Nat} {V G:Nat->Rat} {O:Nat->Nat} {fr:LB} {A:Nat->Nat->Rat} {X X':Hp}:a8g n k V G O fr A (X++X')=a8g n k V G O fr A X++X':=by
 show _::_::_::_::_::(_++(X++X'))=_::_::_::_::_::((_++X)++X');rw [lbD]
def a1u {n0 N n k:Nat} {V G:Nat->Rat} {O:Nat->Nat} {fr:LB} {A:Nat->Nat->Rat} {X X' H:Hp} {env env':Env} (hH:H=a8g n k V G O fr A (X++X')) (hN:k+5+X.length=N) (h0:n0<=N) (hX:∀b ∈ X,okB N b)
 (hE:a0A (idR N) H env env'):Ent n0 (idR N) env H env' (a8g n k V G O fr A X):=by
 refine a7k (by rw [b1J];exact hN) h0 (bo7 om hX) (fun i hi=>?_) hE;rw [hH,b8D,lbb (by rw [b1J];omega)]
def a3j {b0 b1 b2 b3 b4 c0 c1 c2 c3 c4:Blk} {L L':Hp} (h0:b0=c0) (h1:b1=c1) (h2:b2=c2) (h3:b3=c3) (h4:b4=c4) (h6:L=L'):b0::b1::b2::b3::b4::L=c0::c1::c2::c3::c4::L':=by
 subst h0 h1 h2 h3 h4 h6;rfl
def fR (N:Nat) (f:Nat->Nat):List (Option Nat):=(List.range N).map fun i=>some (f i)
def z9 {N i:Nat} {f:Nat->Nat} (h:i<N):(fR N f)[i]? =some (some (f i)):=by simp [fR,h]
def bK8 (N:Nat) (f:Nat->Nat):(fR N f).length=N:=by simp [fR]
def b7I {N i j:Nat} {f:Nat->Nat} (h:(fR N f)[i]? =some (some j)):i<N/\f i=j:=by
 have ⟨h1,h2⟩:=lbe.1 h;simp [fR] at h1 h2;exact ⟨h1,h2⟩
def az2 {ρ:List (Option Nat)}:∀{m:Nat},(∀ i:Nat,i<m->ρ[i]? =some (some i))->a3d ρ m=true
 |0,_=>rfl
 |m+1,h=>by
  unfold a3d;rw [h m om,az2 fun i hi=>h i om];simp
def b5s {N:Nat} {f:Nat->Nat} {H H':Hp} (hn:H'.length=N) (hB:∀(i:Nat) (k':Blk),H'[i]? =some k'->∃k:Blk,H[f i]? =some k/\a3o (fR N f) H k k'):a4w (fR N f) H (fR N f) H':=
 a3T (by rw [bK8,hn]) fun i k' hk=>by
  have hi:i<N:=by rw [← hn];exact (lbe.1 hk).1
  have ⟨k,h1,h2⟩:=hB i k' hk;exact ⟨f i,k,z9 hi,h1,h2⟩
def b1B {N:Nat} {f:Nat->Nat} {H:Hp} (hinj:∀i j,i<N->j<N->f i=f j->i=j):Z5 (fR N f) H=true:=a1K fun i j n h1 h2=>by
 have ⟨a1,a2⟩:=b7I h1;have ⟨b1,b2⟩:=b7I h2;exact hinj i j a1 b1 om
def ab3 {n0 N:Nat} {f:Nat->Nat} {env env':Env} {H H':Hp} (hn:H'.length=N) (h0:n0<=N) (hk:∀i,i<n0->f i=i) (hinj:∀i j,i<N->j<N->f i=f j->i=j)
 (hB:∀(i:Nat) (k':Blk),H'[i]? =some k'->∃k:Blk,H[f i]? =some k/\a3o (fR N f) H k k') (hE:a0A (fR N f) H env env'):Ent n0 (fR N f) env H env' H':=
 ⟨az2 fun i hi=>by rw [z9 om,hk i hi],b1B hinj,b5s hn hB,hE⟩
def bJ8 {n0 N:Nat} {f:Nat->Nat} {r s:S} {H H':Hp} (hn:H'.length=N) (h0:n0<=N) (hk:∀i,i<n0->f i=i) (hinj:∀i j,i<N->j<N->f i=f j->i=j)
 (hB:∀(i:Nat) (k':Blk),H'[i]? =some k'->∃k:Blk,H[f i]? =some k/\a3o (fR N f) H k k') (hE:a9j (fR N f) H r s):Fin n0 r H s H':=
 ⟨fR N f,az2 fun i hi=>by rw [z9 om,hk i hi],b1B hinj,b5s hn hB,hE⟩
def bw6 (k:Blk):a45 k k=true:=by unfold a45;cases k.mode<;>simp
def j8 {ρ:List (Option Nat)} {H:Hp} {k:Blk} (h:L6 k.rows):a3o ρ H k k:=⟨bw6 k,rfl,rfl,.inl ⟨rfl,h⟩⟩
def b4q {ρ:List (Option Nat)} {H:Hp} {l l':List C} (h:a5c ρ H l l'):∀ts:List T,a5c ρ H (ts.map C.t++l) (ts.map C.t++l')
 |[]=>h
 |t::r=>⟨a1Q t,b4q h r⟩
def a3l {ρ:List (Option Nat)} {H:Hp} {m n:Nat} {V:Nat->Rat} {h h':Nat->Nat} (hh:∀i,i<m->ρ[h' i]? =some (some (h i))):
 a3o ρ H { mode:=.live,elem:=216,size:=5,rows:=(List.range m).map fun i=>frC (fz (V i))++[C.own (h i) 0 n true],box:=false } { mode:=.live,elem:=216,size:=5,rows:=(List.range m).map fun i=>frC (fz (V i))++[C.own (h' i) 0 n true],box:=false }:=by
 refine ⟨rfl,rfl,rfl,.inr (a2n zq fun i x y hx hy=>?_)⟩;have hi:i<m:=by have:=(lbe.1 hx).1;simpa using this
 simp [hi] at hx hy;subst hx hy;exact b4q (ts:=B3 (fz (V i))) (l:=[C.own (h i) 0 n true]) (l':=[C.own (h' i) 0 n true]) ⟨⟨hh i hi,rfl,rfl,fun h=>h⟩,trivial⟩
def a22 {a b:Nat} {K:Prop} (h:a<=b) (k:K):a<=b/\K:=⟨h,k⟩
def a6M {N:Nat} {b:Blk} (h:L6 b.rows):okB N b:=by
 intro r hr c hc;have:=h r hr c hc;cases c<;>first|trivial|cases this
def b0h (k n:Nat) (v:Rat) (V:Nat->Rat):Nat->Rat:=fun i=>if i=k then v else V i
def hnd (k:Nat):Nat->Nat:=fun i=>if i=k then k+6 else i+5
def ao7 {k n:Nat} {v:Rat} {V:Nat->Rat}:a0d 5 k n V++[frC (fz v)++[C.own (k+6) 0 n true]]=(List.range (k+1)).map fun i=>frC (fz (b0h k n v V i))++[C.own (hnd k i) 0 n true]:=by
 rw [a8x,lbC]
 congr 1
 ·refine lbp fun i hi=>?_
  have:=lbB.1 hi;unfold b0h hnd;rw [iC om,iC om]
 ·unfold b0h hnd;simp
abbrev bO2 (n k:Nat) (v:Rat) (a V G:Nat->Rat) (O:Nat->Nat) (fr:LB) (f:Nat × Bool) (A:Nat->Nat->Rat) (bx lx lit:Blk):Hp:=
 pB n (k+1) (k+10) (k+8) (k+11)::ap1 216 5::flB (rF n G)::ap1 3 1::ap1 229 2::((mF k n A).map flB++
  [bx,flB (rF n a),lx,U7 (k+1) O,lit,{ mode:=.live,elem:=216,size:=5,rows:=a0d 5 k n V++[frC (fz v)++[C.own (k+6) 0 n true]],box:=false },a2U (fr++[f])])
def ax3 (k:Nat):Nat->Nat:=fun i=>if i<k+7 then i else if i=k+7 then k+8 else if i=k+8 then k+10 else k+11
def a2Z {α β:Type} {f:β->α} {M:List β} {X:List α} {N t:Nat} (h:M.length=N):(M.map f++X)[N+t]? =X[t]?:=by
 rw [lbc (by simp [h])];simp [h]
def bB5 {n0 n:Nat} {r s:S} {H H':Hp} (e:n0=n) (h:Fin n r H s H'):Fin n0 r H s H':=by subst e;exact h
def b59 {n k:Nat} {v:Rat} {a V G:Nat->Rat} {O:Nat->Nat} {fr:LB} {f:Nat × Bool} {A:Nat->Nat->Rat} {bx lx lit:Blk} {H:Hp} (hbx:L6 bx.rows) (hH:H=bO2 n k v a V G O fr f A bx lx lit):
 Fin (k+6) (.tup []) H (.tup []) (b5O n k v a V G O fr f A bx):=by
 subst hH;refine bJ8 (N:=k+10) (f:=ax3 k) zV om (fun i hi=>by unfold ax3;rw [iB om]) (fun i j hi hj h=>by unfold ax3 at h;(repeat' split at h)<;>omega) ?_ trivial;have r7:ax3 k (k+7)=k+8:=by unfold ax3;rw [iC om,iB rfl]
 have r8:ax3 k (k+8)=k+10:=by unfold ax3;rw [iC om,iC om,iB rfl]
 have r9:ax3 k (k+9)=k+11:=by unfold ax3;rw [iC om,iC om,iC om]
 have rl:∀i,i<k+7->ax3 k i=i:=fun i hi=>by unfold ax3;rw [iB hi]
 intro i k' hk;rcases i with _|_|_|_|_|i
 ·injection hk with hk;subst hk
  rw [rl 0 om];exact ⟨_,rfl,rfl,rfl,rfl,.inr ⟨⟨rfl,⟨by rw [z9 om,r8],rfl,rfl,fun h=>h⟩,⟨by rw [z9 om,rl 2 om],rfl,rfl,fun h=>h⟩,⟨by rw [z9 om,r7],rfl,rfl,fun h=>h⟩,rfl,⟨by rw [z9 om,r9],rfl,rfl,fun h=>h⟩,trivial⟩,trivial⟩⟩
 ·injection hk with hk;subst hk;rw [rl 1 om];exact ⟨_,rfl,j8 (by simp [L6])⟩
 ·injection hk with hk;subst hk;rw [rl 2 om];exact ⟨_,rfl,j8 (j2 _)⟩
 ·injection hk with hk;subst hk;rw [rl 3 om];exact ⟨_,rfl,j8 (by simp [L6])⟩
 ·injection hk with hk;subst hk;rw [rl 4 om];exact ⟨_,rfl,j8 (by simp [L6])⟩
 ·have hk:((mF k n A).map flB++[bx,flB (rF n a),U7 (k+1) O,{ mode:=.live,elem:=216,size:=5,rows:=a0d 5 k n V++[frC (fz v)++[C.own (k+6) 0 n true]],box:=false },a2U (fr++[f])])[i]? =some k':=hk;by_cases hi:i<k
  ·rw [J1 (Z3 hi)] at hk;injection hk with hk;subst hk
   rw [rl (i+5) om];exact ⟨_,J1 (Z3 hi),j8 (j2 _)⟩
  ·obtain ⟨t,rfl⟩:∃t,i=k+t:=⟨i - k,om⟩;rw [a2Z (i8 _ _ _)] at hk;have lk:∀j,(bO2 n k v a V G O fr f A bx lx lit)[k+j+5]? =([bx,flB (rF n a),lx,U7 (k+1) O,lit,{ mode:=.live,elem:=216,size:=5,rows:=a0d 5 k n V++[frC (fz v)++[C.own (k+6) 0 n true]],box:=false },a2U (fr++[f])]:Hp)[j]?:=fun j=>a2Z (i8 _ _ _)
   rcases t with _|_|_|_|_|t
   ·injection hk with hk;subst hk
    rw [rl (k+0+5) om];exact ⟨_,lk 0,j8 hbx⟩
   ·injection hk with hk;subst hk
    rw [rl (k+1+5) om];exact ⟨_,lk 1,j8 (j2 _)⟩
   ·injection hk with hk;subst hk
    rw [show k+2+5=k+7 by omega,r7];exact ⟨_,lk 3,j8 (j2 _)⟩
   ·injection hk with hk;subst hk
    rw [show k+3+5=k+8 by omega,r8];refine ⟨_,lk 5,?_⟩;rw [ao7];refine a3l fun j hj=>?_
    have:hnd k j<k+7:=by unfold hnd;split<;>omega
    rw [z9 om,rl _ this]
   ·injection hk with hk;subst hk
    rw [show k+4+5=k+9 by omega,r9];exact ⟨_,lk 6,j8 (j2 _)⟩
   ·simp at hk
def l7 {a0 a1 a2 a3 a4 a5 a6 b0 b1 b2 b3 b4 b5 b6:Blk} (h0:a0=b0) (h1:a1=b1) (h2:a2=b2) (h3:a3=b3) (h4:a4=b4) (h5:a5=b5) (h6:a6=b6):([a0,a1,a2,a3,a4,a5,a6]:Hp)=[b0,b1,b2,b3,b4,b5,b6]:=by
 subst h0 h1 h2 h3 h4 h5 h6;rfl
def a4N {k:Nat} {O:Nat->Nat} {x:Int} (h:x=O k):(toC (a04 k O)).take k++toC [[ti x]]=toC (a04 (k+1) O):=by
 rw [lbn (by simp [toC,p4])];unfold a04;rw [a8x,lbC,h];simp [toC]
def ay7 {fr:LB} {k:Nat} (h:fr.length=k) (f:Nat × Bool):(toC (a1D fr)).take k++toC [[ti f.1,tb f.2]]=toC (a1D (fr++[f])):=by
 rw [lbn (by simp [toC,a1D,h])];unfold a1D;simp [toC]
def bQ6 (n k row:Nat) (w:C7) (b:Bool) (V G:Nat->Rat) (fr:LB) (hfr:fr.length=k) (A:Nat->Nat->Rat) (bx:Blk) (hbx:L6 bx.rows) (hn:n<=1000) (hk:k<=10000) (hrow:row<=100000)
 (hr:m8 (-1) n w.terms=true) (hl:w.terms.length<=1000) (hb:∀t ∈ w.terms,rl t.2<=60000) (hv:rl w.value<=60000):
 ec 186 [.c (.ptr 0 0 0),eI row,aU0 w,n7 b] (a8g n k V G (fun i=>n+i) fr A [bx]) (.tup []) (b5O n k (Z4 b w.value) (sgF b w.terms) V G (fun i=>n+i) fr (row,b) A bx):=by
 have m1:(w.terms.map B9).length=w.terms.length:=zq;refine ac Tryz.func186 ?_;conv=>whnf
 repeat' (first|refine zz ?_|refine qp i8 ?_|refine b0x ?_|refine .inl ⟨_,_,a1U (N:=k+6) zV hn,?_⟩|refine i9 (i8 _ _ _) ?_|refine i7 ?_|refine j1 (t:=1) (i8 _ _ _) ?_|refine j1 (t:=2) (i8 _ _ _) ?_|refine j1 (t:=3) (i8 _ _ _) ?_|refine k5 (t:=1) (i8 _ _ _) ?_|refine k5 (t:=2) (i8 _ _ _) ?_|refine k5 (t:=3) (i8 _ _ _) ?_|apply zD<;>intro<;>try omega|refine zy ?_|fail)<;>conv=>whnf
 refine k6 g8 (fun q=>([sP 0 0 0,eI row,J,n7 b,J,J,S.c (C.t (T.ptr (v6 w))),J,S.c (C.ptr (k+7) 0 0)]++Jn 13++[s6 w.terms,eI w.terms.length,eI q]++Jn 73,a8g n k V G (fun i=>n+i) fr A [bx,flB (rF n (T4 w.terms q)),lnX k n w.value])) w.terms.length tT (idR (k+8)) trivial ?_ ?_
 ·refine a1u (X':=[]) (a3j rfl rfl rfl rfl rfl ?_) rfl zV ?_ ?_
  ·rfl
  ·intro b hb;simp at hb;rcases hb with rfl|rfl|rfl
   ·exact a6M hbx
   ·exact A8 rfl
   ·exact aY9 om
  ·exact ⟨⟨j5 om,rz⟩,rfl,rfl,m9 rfl,⟨j5 om,rz⟩,m9 rfl,g9 om,g9 rfl,trivial⟩
 intro q hq _;by_cases jj:q<w.terms.length
 ·have ⟨t,ht⟩:=iA jj;have ⟨t0,t1,t2⟩:=L1 hr t (lbm ht);have gp:(rF n (T4 w.terms q))[0+t.1.toNat]? =some (fz (T4 w.terms q t.1.toNat)):=by rw [W7,L5 om]
  have eV:0+t.1.toNat=t.1.toNat:=om;have e:D6 (flB (rF n (T4 w.terms q))) ((flB (rF n (T4 w.terms q))).rows.set (0+t.1.toNat) (frC (fz t.2)))=flB (rF n (T4 w.terms (q+1))):=by
   have e1:=R4 (row:=rF n (T4 w.terms q)) (y:=fz t.2) eV;rw [a0W om,←Q9 ht] at e1;exact e1
  conv=>whnf
  repeat' (first|refine zx ?_|refine j4 ht ?_|refine z6 gp ?_|refine i9 (i8 _ _ _) ?_|refine i7 ?_|refine j1 (t:=1) (i8 _ _ _) ?_|refine j1 (t:=2) (i8 _ _ _) ?_|refine j1 (t:=3) (i8 _ _ _) ?_|refine k5 (t:=1) (i8 _ _ _) ?_|refine k5 (t:=2) (i8 _ _ _) ?_|refine k5 (t:=3) (i8 _ _ _) ?_|apply zD<;>intro<;>try omega)<;>conv=>whnf
  all_goals first
   |omega
   |(refine ⟨jj,trivial,idR (k+8),a1u (X:=[bx,flB (rF n (T4 w.terms (q+1))),lnX k n w.value]) (a3j rfl rfl rfl rfl rfl (congrArg (fun z=>(mF k n A).map flB++(bx::z::lnX k n w.value::[_])) e)) rfl zV ?_ ⟨⟨j5 om,rz⟩,rfl,rfl,rfl,⟨j5 om,rz⟩,rfl,rfl,g9 om,trivial⟩⟩
     intro b hb;simp at hb;rcases hb with rfl|rfl|rfl
     ·exact a6M hbx
     ·exact A8 rfl
     ·exact aY9 om)
 ·have hqe:q=w.terms.length:=by omega
  subst hqe;cases b with
  |false=>
   conv=>whnf
   repeat' (first|refine ax8 [0,1,2,3,4,5,6,7,9,10,11,12,13,14,15,16,8,17,18,19,20,21,22,23] zk zk ?_|refine zz ?_|refine v8 (by simp [toC,p4,J3,a1D,hfr]) (by simp [toC,p4,J3,a1D];omega) ?_|refine bl0 [0] ?_|refine bl0 [0,1,8,9,10,11,12,13,14,15] ?_|refine bl0 [0,1] ?_|refine bl0 [1] ?_|refine i9 (i8 _ _ _) ?_|refine i7 ?_|refine j1 (t:=1) (i8 _ _ _) ?_|refine j1 (t:=2) (i8 _ _ _) ?_|refine j1 (t:=3) (i8 _ _ _) ?_|refine k5 (t:=1) (i8 _ _ _) ?_|refine k5 (t:=2) (i8 _ _ _) ?_|refine k5 (t:=3) (i8 _ _ _) ?_|refine j1 (t:=4) (i8 _ _ _) ?_|refine a22 (lbR 1) ?_|apply zD<;>intro<;>try omega|refine zy ?_|fail)<;>conv=>whnf
   all_goals try omega
   all_goals refine bB5 (n:=k+6) zV (b59 (lit:=_) hbx (a3j rfl rfl rfl rfl rfl (congrArg (fun z=>(mF k n A).map flB++z) (l7 rfl rfl rfl ?_ rfl ?_ ?_))))
   ·exact congrArg (fun z=>({ mode:=.live,elem:=3,size:=1,rows:=z,box:=false }:Blk)) (a4N (x:=(n:Int)+k) zq)
   ·exact congrArg (fun z=>({ mode:=.live,elem:=216,size:=5,rows:=z,box:=false }:Blk)) (congrArg (fun z=>z++[frC (fz w.value)++[C.own (k+6) 0 n true]]) (lbn (by simp [J3])))
   ·exact congrArg (fun z=>({ mode:=.live,elem:=229,size:=2,rows:=z,box:=false }:Blk)) (ay7 hfr (row,false))
  |true=>
   have nv:=a8z w.value hv;conv=>whnf
   repeat' (first|refine zx ?_|refine i9 (i8 _ _ _) ?_|refine i7 ?_|refine j1 (t:=1) (i8 _ _ _) ?_|refine j1 (t:=2) (i8 _ _ _) ?_|refine j1 (t:=3) (i8 _ _ _) ?_|refine k5 (t:=1) (i8 _ _ _) ?_|refine k5 (t:=2) (i8 _ _ _) ?_|refine k5 (t:=3) (i8 _ _ _) ?_|apply zD<;>intro<;>try omega)<;>conv=>whnf
   all_goals try omega
   refine k6 g8 (fun q=>([sP 0 0 0,eI row,J,n7 true,J,J,J,J,S.c (C.ptr (k+7) 0 0)]++Jn 33++[s6 w.terms,eI w.terms.length,eI q]++Jn 53,a8g n k V G (fun i=>n+i) fr A [bx,flB (rF n (a6N w.terms q)),lnX k n (-w.value)])) w.terms.length tT (idR (k+8)) trivial ?_ ?_
   ·refine a1u (X':=[]) (a3j rfl rfl rfl rfl rfl rfl) rfl zV ?_ ?_
    ·intro b hb;simp at hb;rcases hb with rfl|rfl|rfl
     ·exact a6M hbx
     ·exact A8 rfl
     ·exact aY9 om
    ·exact ⟨⟨j5 om,rz⟩,rfl,rfl,⟨j5 om,rz⟩,m9 rfl,g9 om,g9 rfl,trivial⟩
   intro q hq _;by_cases jj:q<w.terms.length
   ·have ⟨t,ht⟩:=iA jj;have ⟨t0,t1,t2⟩:=L1 hr t (lbm ht);have nt:=a8z t.2 (hb t (lbm ht));have gp:(rF n (a6N w.terms q))[0+t.1.toNat]? =some (fz (a6N w.terms q t.1.toNat)):=by rw [W7,L5 om]
    have eV:0+t.1.toNat=t.1.toNat:=om;have e:D6 (flB (rF n (a6N w.terms q))) ((flB (rF n (a6N w.terms q))).rows.set (0+t.1.toNat) (frC (fz (-t.2))))=flB (rF n (a6N w.terms (q+1))):=by
     have e1:=R4 (row:=rF n (a6N w.terms q)) (y:=fz (-t.2)) eV;rw [a0W om,←aM5 ht] at e1;exact e1
    conv=>whnf
    repeat' (first|refine zx ?_|refine j4 ht ?_|refine z6 gp ?_|refine i9 (i8 _ _ _) ?_|refine i7 ?_|refine j1 (t:=1) (i8 _ _ _) ?_|refine j1 (t:=2) (i8 _ _ _) ?_|refine j1 (t:=3) (i8 _ _ _) ?_|refine k5 (t:=1) (i8 _ _ _) ?_|refine k5 (t:=2) (i8 _ _ _) ?_|refine k5 (t:=3) (i8 _ _ _) ?_|apply zD<;>intro<;>try omega)<;>conv=>whnf
    all_goals first
     |omega
     |(refine ⟨jj,trivial,idR (k+8),a1u (X:=[bx,flB (rF n (a6N w.terms (q+1))),lnX k n (-w.value)]) (a3j rfl rfl rfl rfl rfl (congrArg (fun z=>(mF k n A).map flB++(bx::z::lnX k n (-w.value)::[_])) e)) rfl zV ?_ ⟨⟨j5 om,rz⟩,rfl,rfl,⟨j5 om,rz⟩,rfl,rfl,g9 om,trivial⟩⟩
       intro b hb;simp at hb;rcases hb with rfl|rfl|rfl
       ·exact a6M hbx
       ·exact A8 rfl
       ·exact aY9 om)
   ·have hqe:q=w.terms.length:=by omega
    subst hqe;have ea:a6N w.terms w.terms.length=sgF true w.terms:=b8K w.terms;conv=>whnf
    repeat' (first|refine ax8 [0,1,2,3,4,5,6,7,9,10,11,12,13,14,15,16,8,17,18,19,20,21,22,23] zk zk ?_|refine zz ?_|refine v8 (by simp [toC,p4,J3,a1D,hfr]) (by simp [toC,p4,J3,a1D];omega) ?_|refine bl0 [0] ?_|refine bl0 [0,1,8,9,10,11,12,13,14,15] ?_|refine bl0 [0,1] ?_|refine bl0 [1] ?_|refine i9 (i8 _ _ _) ?_|refine i7 ?_|refine j1 (t:=1) (i8 _ _ _) ?_|refine j1 (t:=2) (i8 _ _ _) ?_|refine j1 (t:=3) (i8 _ _ _) ?_|refine k5 (t:=1) (i8 _ _ _) ?_|refine k5 (t:=2) (i8 _ _ _) ?_|refine k5 (t:=3) (i8 _ _ _) ?_|refine j1 (t:=4) (i8 _ _ _) ?_|refine a22 (lbR 1) ?_|apply zD<;>intro<;>try omega|refine zy ?_|fail)<;>conv=>whnf
    all_goals try omega
    all_goals refine bB5 (n:=k+6) zV (b59 (lit:=_) hbx (a3j rfl rfl rfl rfl rfl (congrArg (fun z=>(mF k n A).map flB++z) (l7 rfl (by rw [ea]) rfl ?_ rfl ?_ ?_))))
    ·exact congrArg (fun z=>({ mode:=.live,elem:=3,size:=1,rows:=z,box:=false }:Blk)) (a4N (x:=(n:Int)+k) zq)
    ·exact congrArg (fun z=>({ mode:=.live,elem:=216,size:=5,rows:=z,box:=false }:Blk)) (congrArg (fun z=>z++[frC (fz (-w.value))++[C.own (k+6) 0 n true]]) (lbn (by simp [J3])))
    ·exact congrArg (fun z=>({ mode:=.live,elem:=229,size:=2,rows:=z,box:=false }:Blk)) (ay7 hfr (row,true))
def gR (N:Nat) (f:Nat->Option Nat):List (Option Nat):=(List.range N).map f
def a4V {N i:Nat} {f:Nat->Option Nat} (h:i<N):(gR N f)[i]? =some (f i):=by simp [gR,h]
def b8e {N i:Nat} {x:Option Nat} {f:Nat->Option Nat} (h:(gR N f)[i]? =some x):i<N/\f i=x:=by
 have ⟨h1,h2⟩:=lbe.1 h;simp [gR] at h1 h2;exact ⟨h1,h2⟩
def b1n {ρ:List (Option Nat)} {H:Hp}:∀{r:List (Option Nat)} {H':Hp},r.length=H'.length->(∀ (i:Nat) (k':Blk),H'[i]? =some k'->(r[i]? =some none/\k'.rows=[]/\k'.mode=.live)\/∃(j:Nat) (k:Blk),r[i]? =some (some j)/\H[j]? =some k/\a3o ρ H k k')->a4w ρ H r H'
 |[],[],_,_=>trivial
 |[],_::_,h,_=>by simp at h
 |_::_,[],h,_=>by simp at h
 |x::r,k'::H',hl,h=>by
  refine ⟨?_,b1n (by simpa using hl) fun i k1 hk=>by simpa using h (i+1) k1 (by simpa using hk)⟩;rcases h 0 k' rfl with ⟨h1,h2,h3⟩|⟨j,k,h1,h2,h3⟩
  ·simp at h1;subst h1;exact ⟨h2,h3⟩
  ·simp at h1;subst h1;simp only [h2];exact h3
def b2K {N:Nat} {f:Nat->Option Nat} {env env':Env} {H H':Hp} (hn:H'.length=N) (hinj:∀i j x,i<N->j<N->f i=some x->f j=some x->i=j)
 (hB:∀(i:Nat) (k':Blk),H'[i]? =some k'->(f i=none/\k'.rows=[]/\k'.mode=.live)\/∃(j:Nat) (k:Blk),f i=some j/\H[j]? =some k/\a3o (gR N f) H k k') (hE:a0A (gR N f) H env env'):Ent 0 (gR N f) env H env' H':=
 ⟨rfl,a1K fun i j n h1 h2=>by
   have ⟨a1,a2⟩:=b8e h1;have ⟨b1,b2⟩:=b8e h2;exact hinj i j n a1 b1 a2 b2,b1n (by simp [gR,hn]) fun i k' hk=>by
   have hi:i<N:=by rw [← hn];exact (lbe.1 hk).1
   rcases hB i k' hk with ⟨h1,h2⟩|⟨j,k,h1,h2⟩
   ·exact .inl ⟨by rw [a4V hi,h1],h2⟩
   ·exact .inr ⟨j,k,by rw [a4V hi,h1],h2⟩,hE⟩
def a8c {s:m7} (k:Nat):J8 s (k+1)=match s.rows[k]? with
 |none=>J8 s k
 |some w=>J8 s k++(if w.kind≠0 then [(k,false)] else [])++(if w.kind≠1 then [(k,true)] else []):=rfl
def aL2 {s:m7} {i:Nat}:∀d,∃rest,J8 s (i+d)=J8 s i++rest
 |0=>⟨[],zq⟩
 |d+1=>by
  have ⟨r,hr⟩:=aL2 (s:=s) (i:=i) d;rw [show i+(d+1)=(i+d)+1 by omega,a8c];cases s.rows[i+d]? with
  |none=>exact ⟨r,hr⟩
  |some w=>exact ⟨r++((if w.kind≠0 then [(i+d,false)] else [])++(if w.kind≠1 then [(i+d,true)] else [])),by simp only;rw [hr,lbD,lbD]⟩
def a7x {s:m7} {i k:Nat} {f:Nat × Bool} (hi:i<=s.rows.length) (h:(J8 s i)[k]? =some f):(j0 s).getD k (0,false)=f:=by
 have ⟨r,hr⟩:=aL2 (s:=s) (i:=i) (s.rows.length - i);rw [show i+(s.rows.length - i)=s.rows.length by omega] at hr;unfold j0;rw [hr,lbl,lbb (lbe.1 h).1,h];rfl
def a1b {s:m7}:∀i,(J8 s i).length<=2*i
 |0=>by simp [J8]
 |i+1=>by
  have ih:=a1b (s:=s) i;rw [a8c];cases s.rows[i]? with
  |none=>simp only;omega
  |some w=>
   simp only [lbq];split<;>split<;>simp<;>omega
def a8b {s:m7} {i:Nat} {w:C7} (h:s.rows[i]? =some w):J8 s (i+1)=(J8 s i++if w.kind≠0 then [(i,false)] else [])++if w.kind≠1 then [(i,true)] else []:=by
 rw [a8c,h]
def a0I (k:Nat):Nat->Nat:=fun i=>if i=0 then 0 else if i=1 then k+8 else if i=2 then 2 else if i=3 then k+7 else if i=4 then k+9 else if i<k+5 then i else if i=k+5 then k+6 else k+5
def ax6 {k:Nat} (i:Nat) (hi:i<k+7):(i=0/\a0I k i=0)\/(i=1/\a0I k i=k+8)\/(i=2/\a0I k i=2)\/(i=3/\a0I k i=k+7)\/(i=4/\a0I k i=k+9)\/(5<=i/\i<k+5/\a0I k i=i)\/(5<=i/\i=k+5/\a0I k i=k+6)\/(5<=i/\i=k+6/\a0I k i=k+5):=by
 unfold a0I;by_cases h0:i=0
 ·rw [iB h0];omega
 ·rw [iC h0];by_cases h1:i=1
  ·rw [iB h1];omega
  ·rw [iC h1];by_cases h2:i=2
   ·rw [iB h2];omega
   ·rw [iC h2];by_cases h3:i=3
    ·rw [iB h3];omega
    ·rw [iC h3];by_cases h4:i=4
     ·rw [iB h4];omega
     ·rw [iC h4];by_cases h5:i<k+5
      ·rw [iB h5];omega
      ·rw [iC h5];by_cases h6:i=k+5
       ·rw [iB h6];omega
       ·rw [iC h6];omega
def bh5 {k:Nat}:a0I k (k+6)=k+5:=by
 have:=ax6 (k:=k) (k+6) om;omega
def b49 {n k:Nat} {a V G:Nat->Rat} {v:Rat} {O:Nat->Nat} {fr:LB} {f:Nat × Bool} {A:Nat->Nat->Rat} {bx:Blk} {env env':Env} (hbx:L6 bx.rows) (hv:v=V k) (ha:a=A k)
 (hE:a0A (fR (k+7) (a0I k)) (b5O n k v a V G O fr f A bx) env env'):Ent 0 (fR (k+7) (a0I k)) env (b5O n k v a V G O fr f A bx) env' (a8g n (k+1) V G O (fr++[f]) A [bx]):=by
 subst hv ha;have r1:a0I k 1=k+8:=rfl;have r3:a0I k 3=k+7:=rfl;have r4:a0I k 4=k+9:=rfl;have ra:∀i,i<k->a0I k (i+5)=i+5:=fun i hi=>by
  unfold a0I;rw [iC om,iC om,iC om,iC om,iC om,iB om]
 have rk:a0I k (k+5)=k+6:=by
  unfold a0I;rw [iC om,iC om,iC om,iC om,iC om,iC om,iB rfl]
 have rb:a0I k (k+6)=k+5:=by
  unfold a0I;rw [iC om,iC om,iC om,iC om,iC om,iC om,iC om]
 have lk:∀j,(b5O n k (V k) (A k) V G O fr f A bx)[k+j+5]? =([bx,flB (rF n (A k)),U7 (k+1) O,{ mode:=.live,elem:=216,size:=5,rows:=a0d 5 k n V++[frC (fz (V k))++[C.own (k+6) 0 n true]],box:=false },a2U (fr++[f])]:Hp)[j]?:=fun j=>a2Z (i8 _ _ _)
 have eV:b0h k n (V k) V=V:=by funext i;unfold b0h;split<;>simp_all
 refine ab3 zV om (fun i hi=>om) (fun i j hi hj h=>by have:=ax6 i hi;have:=ax6 j hj;omega) ?_ hE;intro i k' hk;rcases i with _|_|_|_|_|i
 ·injection hk with hk;subst hk
  exact ⟨_,rfl,rfl,rfl,rfl,.inr ⟨⟨rfl,⟨by rw [z9 om,r1],rfl,rfl,fun h=>h⟩,⟨by rw [z9 om];rfl,rfl,rfl,fun h=>h⟩,⟨by rw [z9 om,r3],rfl,rfl,fun h=>h⟩,rfl,⟨by rw [z9 om,r4],rfl,rfl,fun h=>h⟩,trivial⟩,trivial⟩⟩
 ·injection hk with hk;subst hk
  refine ⟨_,lk 3,?_⟩;rw [ao7,eV];refine a3l (h':=fun i=>i+5) fun j hj=>?_
  rw [z9 om];unfold hnd;by_cases hjk:j=k
  ·subst hjk;rw [iB rfl,rk]
  ·rw [iC hjk,ra j om]
 ·injection hk with hk;subst hk;exact ⟨_,rfl,j8 (j2 _)⟩
 ·injection hk with hk;subst hk;exact ⟨_,lk 2,j8 (j2 _)⟩
 ·injection hk with hk;subst hk;exact ⟨_,lk 4,j8 (j2 _)⟩
 ·have hk:((mF (k+1) n A).map flB++[bx])[i]? =some k':=hk;by_cases hi:i<k+1
  ·rw [J1 (Z3 hi)] at hk;injection hk with hk;subst hk
   by_cases hik:i=k
   ·subst hik;rw [rk];exact ⟨_,lk 1,j8 (j2 _)⟩
   ·rw [ra i om];exact ⟨_,J1 (Z3 om),j8 (j2 _)⟩
  ·obtain ⟨t,rfl⟩:∃t,i=(k+1)+t:=⟨i - (k+1),om⟩;rw [a2Z (i8 _ _ _)] at hk;rcases t with _|t
   ·injection hk with hk;subst hk
    rw [show k+1+0+5=k+6 by omega,rb];exact ⟨_,lk 0,j8 hbx⟩
   ·simp at hk
def bh8 {b0 b1 b2 b3 b4 b5 c0 c1 c2 c3 c4 c5:Blk} {L L':Hp} (h0:b0=c0) (h1:b1=c1) (h2:b2=c2) (h3:b3=c3) (h4:b4=c4) (h5:b5=c5) (h6:L=L'):b0::b1::b2::b3::b4::b5::L=c0::c1::c2::c3::c4::c5::L':=a2x h0 h1 h2 h3 h4 h5 h6
def E4:∀{last n:Int} {l:List (Int × Rat)},m8 last n l=true->l.length=0\/(l.length:Int)<=n - last - 1
 |_,_,[],_=>.inl rfl
 |last,n,a::r,h=>by
  unfold m8 at h;simp only [lbN,lbI] at h;have ih:=E4 h.2;have h1:=h.1.1.1;have h2:=h.1.1.2
  right
  rw [lbu];rcases ih with h0|h0
  ·rw [h0];omega
  ·omega
structure by8 (s:m7) (g:List (Int × Rat)) (n:Nat):Prop where
 r:q9 s=true
 tg:m8 (-1) n g=true
 en:s.n=n
 n1:n<=1000
 b:∀w ∈ s.rows,rl w.value<=60000/\∀t ∈ w.terms,rl t.2<=60000
 bg:∀t ∈ g,rl t.2<=60000
 l:s.rows.length<=4000
abbrev rbx (w:C7):Blk:={ mode:=.live,elem:=91,size:=6,rows:=[(v6 w).map C.t],box:=true }
def b0s (w:C7):L6 (rbx w).rows:=j2 [v6 w]
def a1c (s:m7):List T:=[ti s.n,a0h s.rows]
def pF1:Nat->Option Nat:=fun i=>if i=0 then some 1 else if i=2 then some 0 else none
def aR3 {s:m7} {g:List (Int × Rat)} {k:Nat} {b:Bool} {i:Nat} {w:C7} (h:(j0 s).getD k (0,false)=(i,b)) (hw:s.rows[i]? =some w):Z4 b w.value=(k9 s g).V k:=by
 show _=a3Q s ((j0 s).getD k (0,false));rw [h];unfold a3Q;simp only [hw]
def b05 {s:m7} {g:List (Int × Rat)} {k:Nat} {b:Bool} {i:Nat} {w:C7} (h:(j0 s).getD k (0,false)=(i,b)) (hw:s.rows[i]? =some w):sgF b w.terms=(k9 s g).A k:=by
 funext j;show _=a3D s ((j0 s).getD k (0,false)) j;rw [h];unfold a3D;simp only [hw];rfl
abbrev dF (m n j q:Nat):Blk:={ mode:=.live,elem:=212,size:=6,rows:=[[C.t (ti n),.own 1 0 m true,.own 2 0 n true,.own 3 0 m true,.own 4 0 j true,.own 5 0 q true]],box:=true }
abbrev bq2 (m n j:Nat) (V G:Nat->Rat) (O:Nat->Nat) (fr:LB) (A:Nat->Nat->Rat) (X:Hp):Hp:=
 dF m n j fr.length::a29 6 m n V::flB (rF n G)::U7 m O::U7 j (fun j=>j)::a2U fr::((mF m n A).map flB++X)
def fF1:Nat->Option Nat:=fun i=>if i=4 then none else if i<4 then some i else some (i - 1)
def bf9 {m n:Nat} {V G:Nat->Rat} {O:Nat->Nat} {fr:LB} {A:Nat->Nat->Rat} {env env':Env} {H:Hp} (hm:fr.length=m) (hH:H=a8g n m V G O fr A []) (hE:a0A (gR (m+6) fF1) H env env'):
 Ent 0 (gR (m+6) fF1) env H env' (bq2 m n 0 V G O fr A []):=by
 subst hH;refine b2K zV (fun i j x hi hj h1 h2=>by unfold fF1 at h1 h2;(repeat' split at h1)<;>(repeat' split at h2)<;>first|(cases h1;done)|(cases h2;done)|(injection h1 with h1;injection h2 with h2;omega)) ?_ hE;intro i k' hk;have fa:∀i,fF1 (i+6)=some (i+5):=fun i=>by unfold fF1;rw [iC om,iC om];rfl
 rcases i with _|_|_|_|_|_|i
 ·injection hk with hk;subst hk
  exact .inr ⟨0,_,rfl,rfl,rfl,rfl,rfl,.inr ⟨⟨rfl,⟨by rw [a4V om];rfl,rfl,rfl,fun h=>h⟩,⟨by rw [a4V om];rfl,rfl,rfl,fun h=>h⟩,⟨by rw [a4V om];rfl,rfl,rfl,fun h=>h⟩,⟨by rw [a4V om];rfl,rz⟩,⟨by rw [a4V om];rfl,rfl,hm.symm,fun h=>h⟩,trivial⟩,trivial⟩⟩
 ·injection hk with hk;subst hk
  refine .inr ⟨1,_,rfl,rfl,a3l (h:=fun i=>i+5) (h':=fun i=>i+6) fun j hj=>?_⟩;rw [a4V om,fa]
 ·injection hk with hk;subst hk;exact .inr ⟨2,_,rfl,rfl,j8 (j2 _)⟩
 ·injection hk with hk;subst hk;exact .inr ⟨3,_,rfl,rfl,j8 (j2 _)⟩
 ·injection hk with hk;subst hk;exact .inl ⟨rfl,rfl,rfl⟩
 ·injection hk with hk;subst hk;exact .inr ⟨4,_,rfl,rfl,j8 (j2 _)⟩
 ·have hk:((mF m n A).map flB++[])[i]? =some k':=hk;have hi:i<m:=by have:=(lbe.1 hk).1;simpa [i8] using this
  rw [J1 (Z3 hi)] at hk;injection hk with hk;subst hk
  exact .inr ⟨i+5,_,fa i,J1 (Z3 hi),j8 (j2 _)⟩
abbrev bX3 (m n j:Nat) (V G:Nat->Rat) (O:Nat->Nat) (fr:LB) (A:Nat->Nat->Rat):Hp:=
 { mode:=.live,elem:=212,size:=6,rows:=[[C.t (ti n),.own 1 0 m true,.own 2 0 n true,.own 3 0 m true,.own (m+6) 0 (j+1) true,.own 5 0 fr.length true]],box:=true }::
   a29 6 m n V::flB (rF n G)::U7 m O::ap1 3 1::a2U fr::((mF m n A).map flB++[U7 (j+1) (fun j=>j)])
def fF2 (m:Nat):Nat->Nat:=fun i=>if i=4 then m+6 else i
def bq4 {m n j:Nat} {V G:Nat->Rat} {O:Nat->Nat} {fr:LB} {A:Nat->Nat->Rat} {env env':Env} {H:Hp} (hH:H=bX3 m n j V G O fr A) (hE:a0A (fR (m+6) (fF2 m)) H env env'):
 Ent 0 (fR (m+6) (fF2 m)) env H env' (bq2 m n (j+1) V G O fr A []):=by
 subst hH;have fa:∀i,i≠4->fF2 m i=i:=fun i hi=>by unfold fF2;rw [iC hi]
 refine ab3 zV om (fun i hi=>om) (fun i j hi hj h=>by unfold fF2 at h;(repeat' split at h)<;>omega) ?_ hE;intro i k' hk;rcases i with _|_|_|_|_|_|i
 ·injection hk with hk;subst hk
  exact ⟨_,rfl,rfl,rfl,rfl,.inr ⟨⟨rfl,⟨by rw [z9 om];rfl,rfl,rfl,fun h=>h⟩,⟨by rw [z9 om];rfl,rfl,rfl,fun h=>h⟩,⟨by rw [z9 om];rfl,rfl,rfl,fun h=>h⟩,⟨by rw [z9 om];rfl,rfl,rfl,fun h=>h⟩,⟨by rw [z9 om];rfl,rfl,rfl,fun h=>h⟩,trivial⟩,trivial⟩⟩
 ·injection hk with hk;subst hk
  refine ⟨_,rfl,a3l (h:=fun i=>i+6) (h':=fun i=>i+6) fun j hj=>?_⟩;rw [z9 om,fa _ om]
 ·injection hk with hk;subst hk;exact ⟨_,rfl,j8 (j2 _)⟩
 ·injection hk with hk;subst hk;exact ⟨_,rfl,j8 (j2 _)⟩
 ·injection hk with hk;subst hk
  refine ⟨_,a2Z (t:=0) (i8 _ _ _),j8 (j2 _)⟩
 ·injection hk with hk;subst hk;exact ⟨_,rfl,j8 (j2 _)⟩
 ·have hk:((mF m n A).map flB++[])[i]? =some k':=hk;have hi:i<m:=by have:=(lbe.1 hk).1;simpa [i8] using this
  rw [J1 (Z3 hi)] at hk;injection hk with hk;subst hk
  rw [fa _ om];exact ⟨_,J1 (Z3 hi),j8 (j2 _)⟩
def aT6 (s:m7) (g:List (Int × Rat)) (n:Nat) (h:by8 s g n):
 ec 146 [W8 s,s6 g] [] (.c (.ptr 0 0 0)) (a1w (j0 s).length n (j0 s) (k9 s g)):=by
 have m1:(s.rows.map v6).length=s.rows.length:=zq;have m2:(g.map B9).length=g.length:=zq;have z0:∀H:Hp,H.length=0->a0x Tryz.prog 185 [eI s.n] H (.c (.own 0 0 n true)) [flB (rF n fun _=>0)]:=fun H hH=>by rw [h.en];exact a1U hH h.n1
 have hsl:=h.l;have htg:=h.tg;have hbg:=h.bg;have hgl:=E4 htg;have hn1:=h.n1;have hen:=h.en;have put0:∀(K i:Nat) (w:C7) (b:Bool) (F:LB) (bx:Blk),s.rows[i]? =some w->F.length=K->L6 bx.rows->K<=10000->i<=100000->
  ec 186 [.c (.ptr 0 0 0),eI i,aU0 w,n7 b] (a8g n K (k9 s g).V (fun _=>0) (fun i=>n+i) F (k9 s g).A [bx]) (.tup []) (b5O n K (Z4 b w.value) (sgF b w.terms) (k9 s g).V (fun _=>0) (fun i=>n+i) F (i,b) (k9 s g).A bx):=by
  intro K i w b F bx hw hF hbx hK hi;have hn:=X0 h.r;have hrw:=(a1t h.r hw).1;rw [hn,h.en] at hrw;have hl:=E4 hrw;have hb:=h.b w (lbm hw);exact bQ6 n K i w b _ _ F hF _ bx hbx h.n1 hK hi hrw (by have:=h.n1;omega) hb.2 hb.1
 refine ac Tryz.func146 ?_;conv=>whnf
 repeat' (first|refine zz ?_|refine b0x ?_|refine .inl ⟨_,_,z0 _ rfl,?_⟩|apply zD<;>intro h<;>try omega|refine zy ?_|fail)<;>conv=>whnf
 refine at5 (fun i=>([J,s6 g,S.c (C.t (T.ptr (a1c s))),J,J,sP 0 0 0]++Jn 13++[S.c (C.t (a0h s.rows)),eI s.rows.length,eI i]++Jn 53,a8g n (J8 s i).length (k9 s g).V (fun _=>0) (fun i=>n+i) (J8 s i) (k9 s g).A [])) s.rows.length tT (gR 5 pF1) trivial ?_ ?_
 ·refine b2K rfl (fun i j x hi hj h1 h2=>by unfold pF1 at h1 h2;(repeat' split at h1)<;>(repeat' split at h2)<;>first|(cases h1;done)|(cases h2;done)|(injection h1 with h1;injection h2 with h2;omega)) ?_ ?_
  ·intro i k' hk;rcases i with _|_|_|_|_|i
   ·injection hk with hk;subst hk
    exact .inr ⟨1,_,rfl,rfl,rfl,rfl,rfl,.inr ⟨⟨am4 (by rw [h.en]),rz,⟨rfl,rfl,rfl,fun h=>h⟩,rz⟩,trivial⟩⟩
   ·injection hk with hk;subst hk;exact .inl ⟨rfl,rfl,rfl⟩
   ·injection hk with hk;subst hk;exact .inr ⟨0,_,rfl,rfl,j8 (j2 _)⟩
   ·injection hk with hk;subst hk;exact .inl ⟨rfl,rfl,rfl⟩
   ·injection hk with hk;subst hk;exact .inl ⟨rfl,rfl,rfl⟩
   ·simp [mF,J8] at hk
  ·exact ⟨rfl,m9 rfl,rz,m9 rfl,g9 om,g9 rfl,trivial⟩
 intro i hi _;refine w8 g8 ?_;conv=>whnf
 repeat' (first|refine zx ?_|refine i7 ?_|apply zD<;>intro h<;>try omega)<;>conv=>whnf
 ·have jj:i<s.rows.length:=by omega
  have ⟨w,hw⟩:=iA jj;obtain ⟨K,hK⟩:∃K,K=(J8 s i).length:=⟨_,rfl⟩;rw [← hK];obtain ⟨K1,hK1⟩:∃K1,K1=(J8 s i++if w.kind≠0 then [(i,false)] else []).length:=⟨_,rfl⟩;obtain ⟨F1,hF1⟩:∃F1,F1=(J8 s i++if w.kind≠0 then [(i,false)] else []):=⟨_,rfl⟩;have hKb:K<=10000:=by have:=a1b (s:=s) i;omega
  refine w8 g8 ?_;conv=>whnf
  refine a9i (a8A ?_);refine w8 g8 ?_;conv=>whnf
  repeat' (first|refine zx ?_|refine j4 hw ?_|refine i9 (i8 _ _ _) ?_|refine i7 ?_|refine j1 (t:=0) (i8 _ _ _) ?_|refine k5 (t:=0) (i8 _ _ _) ?_|apply zD<;>intro h<;>try omega)<;>conv=>whnf
  refine B4 g8 ([J,s6 g,S.c (C.t (T.ptr (a1c s))),J,J,sP 0 0 0,eI i,S.c (C.ptr (K1+5) 0 0)]++Jn 11++[S.c (C.t (a0h s.rows)),eI s.rows.length,eI i]++Jn 53) (a8g n K1 (k9 s g).V (fun _=>0) (fun i=>n+i) F1 (k9 s g).A [rbx w]) ?_ ?_
  ·by_cases hk:w.kind=0
   ·have e1:F1=J8 s i:=by rw [hF1,iC (by simp [hk]),a05]
    have e2:K1=K:=by rw [hK1,iC (by simp [hk]),a05,hK]
    subst e1 e2;conv=>whnf
    repeat' (first|refine zx ?_|refine i9 (i8 _ _ _) ?_|refine i7 ?_|refine j1 (t:=0) (i8 _ _ _) ?_|refine k5 (t:=0) (i8 _ _ _) ?_|apply zD<;>intro h<;>try omega)<;>conv=>whnf
    all_goals first|omega|exact ⟨idR (K1+6),a1u (X:=[rbx w]) (X':=[]) (a3j rfl rfl rfl rfl rfl rfl) rfl (G0 _) (by intro b hb;simp at hb;subst hb;exact a6M (b0s w)) ⟨rfl,rfl,⟨j5 om,rz⟩,rfl,⟨j5 om,rz⟩,rz⟩⟩
   ·have e1:F1=J8 s i++[(i,false)]:=by rw [hF1,iB hk]
    have e2:K1=K+1:=by rw [hK1,iB hk,lbq,←hK];rfl
    have hg:(j0 s).getD K (0,false)=(i,false):=by
     refine a7x (i:=i+1) om ?_;rw [a8b hw,iB hk,lbD,lbc om,hK];simp
    subst e1 e2;have pu:=put0 K i w false (J8 s i) (rbx w) hw hK.symm (b0s w) hKb om;conv=>whnf
    repeat' (first|refine zx ?_|refine .inr ⟨_,_,pu,?_⟩|refine i9 (i8 _ _ _) ?_|refine i7 ?_|refine j1 (t:=0) (i8 _ _ _) ?_|refine k5 (t:=0) (i8 _ _ _) ?_|apply zD<;>intro h<;>try omega)<;>conv=>whnf
    all_goals first|omega|exact ⟨_,b49 (b0s w) (aR3 hg hw) (b05 hg hw) ⟨rfl,rfl,⟨by rw [z9 om];rfl,rz⟩,rfl,⟨by rw [z9 om,bh5],rz⟩,rz⟩⟩
  ·have hl1:F1.length=K1:=by rw [hF1,hK1]
   have eF:J8 s (i+1)=F1++if w.kind≠1 then [(i,true)] else []:=by rw [a8b hw,hF1]
   have hK1b:K1<=10000:=by
    have:=a1b (s:=s) i;rw [hK1,lbq];split<;>simp<;>omega
   by_cases hk:w.kind=1
   ·have e1:J8 s (i+1)=F1:=by rw [eF,iC (by simp [hk]),a05]
    refine t4 g8 _ ?_;conv=>whnf
    repeat' (first|refine zx ?_|refine i9 (i8 _ _ _) ?_|refine i7 ?_|refine j1 (t:=0) (i8 _ _ _) ?_|refine k5 (t:=0) (i8 _ _ _) ?_|apply zD<;>intro h<;>try omega)<;>conv=>whnf
    all_goals try omega
    refine t4 g8 _ ?_;conv=>whnf
    repeat' (first|refine zx ?_|refine i9 (i8 _ _ _) ?_|refine i7 ?_|refine j1 (t:=0) (i8 _ _ _) ?_|refine k5 (t:=0) (i8 _ _ _) ?_|apply zD<;>intro h<;>try omega)<;>conv=>whnf
    refine ⟨jj,trivial,idR (K1+5),?_⟩;rw [e1,hl1];exact a1u (X:=[]) (X':=[rbx w]) (a3j rfl rfl rfl rfl rfl rfl) rfl (G0 _) zq ⟨rfl,rfl,⟨j5 om,rz⟩,rfl,rfl,g9 om,trivial⟩
   ·have e1:J8 s (i+1)=F1++[(i,true)]:=by rw [eF,iB hk]
    have hg:(j0 s).getD K1 (0,false)=(i,true):=by
     refine a7x (i:=i+1) om ?_;rw [e1,lbc om,hl1];simp
    have pu:=put0 K1 i w true F1 (rbx w) hw hl1 (b0s w) hK1b om;refine t4 g8 _ ?_;conv=>whnf
    repeat' (first|refine zx ?_|refine .inr ⟨_,_,pu,?_⟩|refine i9 (i8 _ _ _) ?_|refine i7 ?_|refine j1 (t:=0) (i8 _ _ _) ?_|refine k5 (t:=0) (i8 _ _ _) ?_|apply zD<;>intro h<;>try omega)<;>conv=>whnf
    all_goals try omega
    refine b4h (env':=[J,s6 g,S.c (C.t (T.ptr (a1c s))),J,J,sP 0 0 0]++Jn 13++[S.c (C.t (a0h s.rows)),eI s.rows.length,eI i]++Jn 53) _ (b49 (b0s w) (aR3 hg hw) (b05 hg hw) ⟨rfl,rfl,⟨by rw [z9 om];rfl,rz⟩,rz⟩) ?_;refine t4 g8 _ ?_;conv=>whnf
    repeat' (first|refine zx ?_|refine i9 (i8 _ _ _) ?_|refine i7 ?_|refine j1 (t:=0) (i8 _ _ _) ?_|refine k5 (t:=0) (i8 _ _ _) ?_|apply zD<;>intro h<;>try omega)<;>conv=>whnf
    refine ⟨jj,trivial,idR (K1+1+5),?_⟩;rw [e1,show (F1++[(i,true)]).length=K1+1 by simp [hl1]];exact a1u (X:=[]) (X':=[rbx w]) (a3j rfl rfl rfl rfl rfl rfl) rfl (G0 _) zq ⟨rfl,rfl,⟨j5 om,rz⟩,rfl,rfl,g9 om,trivial⟩
 ·have hie:i=s.rows.length:=by omega
  subst hie;refine t4 g8 _ ?_;conv=>whnf
  repeat' (first|refine zx ?_|refine i9 (i8 _ _ _) ?_|refine i7 ?_|refine j1 (t:=0) (i8 _ _ _) ?_|refine k5 (t:=0) (i8 _ _ _) ?_|apply zD<;>intro h<;>try omega)<;>conv=>whnf
  all_goals try omega
  refine k6 g8 (fun q=>([J,J,S.c (C.t (T.ptr (a1c s))),J,J,sP 0 0 0]++Jn 35++[s6 g,eI g.length,eI q]++Jn 31,a8g n (j0 s).length (k9 s g).V (fun j=>-(T4 g q j)) (fun i=>n+i) (j0 s) (k9 s g).A [])) g.length tT (idR ((j0 s).length+5)) trivial ?_ ?_
  ·refine a1u (X:=[]) (X':=[]) (a3j rfl rfl ?_ rfl rfl rfl) rfl (G0 _) zq ⟨m9 rfl,⟨j5 om,rz⟩,m9 rfl,g9 om,g9 rfl,trivial⟩;rw [F9 (g:=fun _=>0) (h:=fun j=>-(T4 g 0 j)) fun j hj=>by show (0:Rat)=-0;decide]
  intro q hq _;by_cases jj:q<g.length
  ·have ⟨t,ht⟩:=iA jj;have ⟨t0,t1,t2⟩:=L1 htg t (lbm ht);have nt:=a8z t.2 (hbg t (lbm ht));have gp:(rF n (fun j=>-(T4 g q j)))[0+t.1.toNat]? =some (fz (-(T4 g q t.1.toNat))):=by rw [W7,L5 om]
   have eV:0+t.1.toNat=t.1.toNat:=om;have e:D6 (flB (rF n (fun j=>-(T4 g q j)))) ((flB (rF n (fun j=>-(T4 g q j)))).rows.set (0+t.1.toNat) (frC (fz (-t.2))))=flB (rF n (fun j=>-(T4 g (q+1) j))):=by
    have e1:=R4 (row:=rF n (fun j=>-(T4 g q j))) (y:=fz (-t.2)) eV;rw [a0W om] at e1;refine e1.trans ?_;rw [Q9 ht];refine congrArg flB ?_;exact F9 fun j hj=>by show (if j=t.1.toNat then -t.2 else -(T4 g q j))=-(if j=t.1.toNat then t.2 else T4 g q j);split<;>rfl
   conv=>whnf
   repeat' (first|refine zx ?_|refine j4 ht ?_|refine z6 gp ?_|refine i9 (i8 _ _ _) ?_|refine i7 ?_|refine j1 (t:=0) (i8 _ _ _) ?_|refine k5 (t:=0) (i8 _ _ _) ?_|apply zD<;>intro h<;>try omega)<;>conv=>whnf
   all_goals first|omega|exact ⟨jj,trivial,idR ((j0 s).length+5),a1u (X:=[]) (X':=[_]) (a3j rfl rfl e rfl rfl rfl) rfl (G0 _) zq ⟨rfl,⟨j5 om,rz⟩,rfl,rfl,g9 om,trivial⟩⟩
  ·have hqe:q=g.length:=by omega
   subst hqe;conv=>whnf
   repeat' (first|refine zx ?_|refine i9 (i8 _ _ _) ?_|refine i7 ?_|refine j1 (t:=0) (i8 _ _ _) ?_|refine k5 (t:=0) (i8 _ _ _) ?_|apply zD<;>intro h<;>try omega)<;>conv=>whnf
   all_goals try omega
   refine k6 g8 (fun q=>([J,J,J,J,J,sP 0 0 0]++Jn 53++[eI n,eI q]++Jn 14,bq2 (j0 s).length n q (k9 s g).V (k9 s g).G (fun i=>n+i) (j0 s) (k9 s g).A [])) n tT (gR ((j0 s).length+6) fF1) trivial ?_ ?_
   ·exact bf9 rfl rfl ⟨⟨by rw [a4V om];rfl,rz⟩,g9 hen,g9 rfl,trivial⟩
   intro q hq _;by_cases jj:q<n
   ·conv=>whnf
    repeat' (first|refine zx ?_|refine v8 (by simp [toC,p4]) (by simp [toC,p4];omega) ?_|refine bl0 [0] ?_|refine i9 (i8 _ _ _) ?_|refine i7 ?_|refine j1 (t:=0) (i8 _ _ _) ?_|refine k5 (t:=0) (i8 _ _ _) ?_|apply zD<;>intro h<;>try omega)<;>conv=>whnf
    all_goals first
     |omega
     |(refine ⟨jj,trivial,fR ((j0 s).length+6) (fF2 (j0 s).length),bq4 (bh8 rfl rfl rfl rfl rfl rfl (congrArg (fun z=>(mF (j0 s).length n (k9 s g).A).map flB++[z]) ?_)) ⟨⟨by rw [z9 om];rfl,rz⟩,rfl,g9 om,trivial⟩⟩
       exact congrArg (fun z=>({ mode:=.live,elem:=3,size:=1,rows:=z,box:=false }:Blk)) (a4N (O:=fun j=>j) (x:=(q:Int)) rfl))
   ·have hqe:q=n:=by omega
    subst hqe;conv=>whnf
    repeat' (first|refine zx ?_|refine i9 (i8 _ _ _) ?_|refine i7 ?_|refine j1 (t:=0) (i8 _ _ _) ?_|refine k5 (t:=0) (i8 _ _ _) ?_|apply zD<;>intro h<;>try omega)<;>conv=>whnf
    all_goals try omega
    refine a7C (n:=(j0 s).length+6) a4o (G0 _) a9p (fun i _=>?_) ⟨j5 om,rz⟩;have e0:a1w (j0 s).length q (j0 s) (k9 s g)=bq2 (j0 s).length q q (k9 s g).V (k9 s g).G (fun i=>q+i) (j0 s) (k9 s g).A []:=by
     have eO:(k9 s g).O=fun i=>q+i:=by funext i;show s.n.toNat+i=_;rw [hen];rfl
     show _::_::_::U7 _ (k9 s g).O::_::_::_=_::_::_::_::_::_::(_++[]);rw [a05,eO];rfl
    rw [e0]
def ptK (n:Nat) (O:Nat->Nat) (v x0:Nat->Rat):Nat->Nat->Rat
 |0=>x0
 |k+1=>fun j=>if O k<n/\j=O k then v k else ptK n O v x0 k j
def L4 {n:Nat} {O:Nat->Nat} {v x0:Nat->Rat} {k:Nat}:ptK n O v x0 (k+1)=fun j=>if O k<n/\j=O k then v k else ptK n O v x0 k j:=rfl
def aC7 {n:Nat} {O:Nat->Nat} {v x0:Nat->Rat} {j:Nat}:∀{k:Nat},(∀ i,i<k->O i≠j)->ptK n O v x0 k j=x0 j
 |0,_=>rfl
 |k+1,h=>by rw [L4];simp only;rw [iC (fun e=>h k om e.2.symm),aC7 fun i hi=>h i om]
def aB5 {n:Nat} {O:Nat->Nat} {v x0:Nat->Rat} {i:Nat}:∀{k:Nat},i<k->O i<n->(∀ a,a<k->O a=O i->a=i)->ptK n O v x0 k (O i)=v i
 |0,h,_,_=>om
 |k+1,h,hn,hu=>by
  rw [L4];simp only;by_cases he:O k=O i
  ·have:=hu k om he;subst this;rw [iB ⟨hn,rfl⟩]
  ·rw [iC (fun e=>he e.2.symm)];have:i≠k:=fun e=>he (by rw [e])
   exact aB5 om hn fun a ha=>hu a om
def ar8 {m n:Nat} {D:Fd} (hP:a03 m n D) {j:Nat} (hj:j<n):ptK n D.O D.V (fun _=>0) m j=R6 m n D 1 (fun _=>0) j:=by
 rcases hP.all j om with ⟨i,hi,rfl⟩|⟨q,hq,rfl⟩
 ·rw [aB5 hi hj fun a ha he=>hP.oi a i ha hi he,a5U hP hi,D7 fun j _=>by grind];grind
 ·rw [aC7 fun i hi=>hP.of i q hi hq,a1E hP hq]
def al5 {m n c:Nat} {D:Fd} (hP:a03 m n D) (hc:c<n) {j:Nat} (hj:j<n):ptK n D.O (fun i=>-(D.A i c)) (fun j=>if D.F c<n/\j=D.F c then 1 else 0) m j=R6 m n D 0 (fun q=>if q=c then 1 else 0) j:=by
 rcases hP.all j om with ⟨i,hi,rfl⟩|⟨q,hq,rfl⟩
 ·rw [aB5 hi hj fun a ha he=>hP.oi a i ha hi he,a5U hP hi,p5 (g:=fun q=>(if c=q then (1:Rat) else 0)*D.A i q) fun q _=>by
   by_cases h:q=c
   ·subst h;simp only [if_true];grind
   ·rw [iC h,iC (fun e=>h e.symm)];grind,b7e hc]
  grind
 ·rw [aC7 fun i hi=>hP.of i q hi hq,a1E hP hq];by_cases h:q=c
  ·subst h;rw [iB rfl,iB ⟨hj,rfl⟩]
  ·rw [iC h,iC (fun e=>h (hP.fi q c hq hc e.2))]
def a3a (n:Nat) (y:Nat->Rat):(zOf n y).map fz=rF n y:=by unfold zOf rF;rw [a75];rfl
abbrev dT (m n:Nat) (fr:LB) (D:Fd):S:=.c (.t (.ptr (bx5 m n fr D)))
def be7 (m n:Nat) (fr:LB) (D:Fd) (hP:a03 m n D) (hm:m<=100000) (hn:n<=1000):ec 148 [dT m n fr D] [] (H9 ((zOf n (R6 m n D 1 (fun _=>0))).map fz)) []:=by
 have m1:(a04 m D.O).length=m:=p4 _ _;have z0:∀H:Hp,H.length=0->a0x Tryz.prog 185 [eI n] H (.c (.own 0 0 n true)) [flB (rF n fun _=>0)]:=fun H hH=>a1U hH hn
 rw [a3a,←F9 (g:=ptK n D.O D.V (fun _=>0) m) fun j hj=>ar8 hP hj];refine ac Tryz.func148 ?_;conv=>whnf
 repeat' (first|refine zx ?_|refine .inl ⟨_,_,z0 _ rfl,?_⟩|apply zD<;>intro h<;>try omega)<;>conv=>whnf
 refine k6 g8 (fun k=>([dT m n fr D,J,J,S.c (C.own 0 0 n true)]++Jn 10++[a8E m D.O,eI m,eI k]++Jn 23,[flB (rF n (ptK n D.O D.V (fun _=>0) k))])) m tT [some 0] trivial
  ⟨rfl,rfl,⟨j8 (j2 _),trivial⟩,⟨m9 rfl,⟨rfl,rfl,rfl,fun h=>h⟩,m9 rfl,g9 om,g9 rfl,trivial⟩⟩ ?_
 intro k hk _;by_cases jj:k<m
 ·by_cases ho:D.O k<n
  ·have gp:(rF n (ptK n D.O D.V (fun _=>0) k))[0+((D.O k:Nat):Int).toNat]? =some (fz (ptK n D.O D.V (fun _=>0) k (D.O k))):=by rw [show 0+((D.O k:Nat):Int).toNat=D.O k by omega,L5 ho]
   have e:D6 (flB (rF n (ptK n D.O D.V (fun _=>0) k))) ((flB (rF n (ptK n D.O D.V (fun _=>0) k))).rows.set (0+((D.O k:Nat):Int).toNat) (frC (fz (D.V k))))=flB (rF n (ptK n D.O D.V (fun _=>0) (k+1))):=by
    rw [R4 (show 0+((D.O k:Nat):Int).toNat=D.O k by omega),a0W ho,L4];refine congrArg flB (F9 fun j hj=>?_);simp only [ho,true_and]
   conv=>whnf
   repeat' (first|refine zx ?_|refine t7 rfl jj ?_|refine a2l rfl jj ?_|refine z6 gp ?_|apply zD<;>intro h<;>try omega)<;>conv=>whnf
   all_goals first|omega|exact ⟨jj,trivial,[some 0],rfl,rfl,⟨⟨rfl,rfl,rfl,.inl ⟨congrArg Blk.rows e,(congrArg Blk.rows e) ▸ j2 _⟩⟩,trivial⟩,⟨rfl,⟨rfl,rfl,rfl,fun h=>h⟩,rfl,rfl,g9 om,trivial⟩⟩
  ·have e:ptK n D.O D.V (fun _=>0) (k+1)=ptK n D.O D.V (fun _=>0) k:=by rw [L4];funext j;rw [iC (fun h=>ho h.1)]
   conv=>whnf
   repeat' (first|refine zx ?_|refine t7 rfl jj ?_|apply zD<;>intro h<;>try omega)<;>conv=>whnf
   all_goals first|omega|exact ⟨jj,trivial,[some 0],rfl,rfl,⟨i6 (rows:=(rF n (ptK n D.O D.V (fun _=>0) k)).map B3) rfl rfl rfl rfl (by rw [e]),trivial⟩,⟨rfl,⟨rfl,rfl,rfl,fun h=>h⟩,rfl,rfl,g9 om,trivial⟩⟩
 ·have hke:k=m:=by omega
  subst hke;conv=>whnf
  repeat' (first|refine zx ?_|apply zD<;>intro h<;>try omega)<;>conv=>whnf
  all_goals first|omega|exact N6 rfl (fun h=>h) rfl rfl (by simp [P7])
def bG1 (m n:Nat) (fr:LB) (D:Fd) (c:Nat) (hc:c<n) (hP:a03 m n D) (hm:m<=100000) (hn:n<=1000) (hB:∀i,i<m->rl (D.A i c)<=60000):
 ec 149 [dT m n fr D,eI c] [] (H9 ((zOf n (R6 m n D 0 (fun q=>if q=c then 1 else 0))).map fz)) []:=by
 have m1:(a04 m D.O).length=m:=p4 _ _;have z0:∀H:Hp,H.length=0->a0x Tryz.prog 185 [eI n] H (.c (.own 0 0 n true)) [flB (rF n fun _=>0)]:=fun H hH=>a1U hH hn
 have i1:=V4 1 de de;obtain ⟨x0,hx0⟩:∃x0:Nat->Rat,x0=fun j=>if D.F c<n/\j=D.F c then 1 else 0:=⟨_,rfl⟩
 rw [a3a,←F9 (g:=ptK n D.O (fun i=>-(D.A i c)) x0 m) fun j hj=>by rw [hx0];exact al5 hP hc hj];by_cases hf:D.F c<n
 ·have gp0:(rF n (fun _=>(0:Rat)))[0+((D.F c:Nat):Int).toNat]? =some (fz 0):=by rw [show 0+((D.F c:Nat):Int).toNat=D.F c by omega,L5 hf]
  have e0:D6 (flB (rF n (fun _=>(0:Rat)))) ((flB (rF n (fun _=>(0:Rat)))).rows.set (0+((D.F c:Nat):Int).toNat) (frC (fz ((1:Int):Rat))))=flB (rF n x0):=by
   rw [R4 (show 0+((D.F c:Nat):Int).toNat=D.F c by omega),a0W hf,hx0];refine congrArg flB (F9 fun j hj=>?_);simp only [hf,true_and];rfl
  refine ac Tryz.func149 ?_;conv=>whnf
  repeat' (first|refine zx ?_|refine .inl ⟨_,_,z0 _ rfl,?_⟩|refine t7 rfl hc ?_|refine z6 gp0 ?_|apply zD<;>intro h<;>try omega)<;>conv=>whnf
  all_goals try omega
  refine k6 g8 (fun k=>([dT m n fr D,eI c,J,J,J,S.c (C.own 0 0 n true)]++Jn 28++[a8E m D.O,eI m,eI k]++Jn 27,[flB (rF n (ptK n D.O (fun i=>-(D.A i c)) x0 k))])) m tT [some 0] trivial
   ⟨rfl,rfl,⟨⟨rfl,rfl,rfl,.inl ⟨congrArg Blk.rows e0,(congrArg Blk.rows e0) ▸ j2 _⟩⟩,trivial⟩,⟨m9 rfl,g9 rfl,⟨rfl,rfl,rfl,fun h=>h⟩,m9 rfl,g9 om,g9 rfl,trivial⟩⟩ ?_
  intro k hk _;by_cases jj:k<m
  ·have ng:=a8z (D.A k c) (hB k jj);by_cases ho:D.O k<n
   ·have gp:(rF n (ptK n D.O (fun i=>-(D.A i c)) x0 k))[0+((D.O k:Nat):Int).toNat]? =some (fz (ptK n D.O (fun i=>-(D.A i c)) x0 k (D.O k))):=by rw [show 0+((D.O k:Nat):Int).toNat=D.O k by omega,L5 ho]
    have e:D6 (flB (rF n (ptK n D.O (fun i=>-(D.A i c)) x0 k))) ((flB (rF n (ptK n D.O (fun i=>-(D.A i c)) x0 k))).rows.set (0+((D.O k:Nat):Int).toNat) (frC (fz (-(D.A k c)))))=flB (rF n (ptK n D.O (fun i=>-(D.A i c)) x0 (k+1))):=by
     rw [R4 (show 0+((D.O k:Nat):Int).toNat=D.O k by omega),a0W ho,L4];refine congrArg flB (F9 fun j hj=>?_);simp only [ho,true_and]
    conv=>whnf
    repeat' (first|refine zx ?_|refine t7 rfl jj ?_|refine a2l rfl jj ?_|refine a5F rfl hc ?_|refine z6 gp ?_|apply zD<;>intro h<;>try omega)<;>conv=>whnf
    all_goals first|omega|exact ⟨jj,trivial,[some 0],rfl,rfl,⟨⟨rfl,rfl,rfl,.inl ⟨congrArg Blk.rows e,(congrArg Blk.rows e) ▸ j2 _⟩⟩,trivial⟩,⟨rfl,rfl,⟨rfl,rfl,rfl,fun h=>h⟩,rfl,rfl,g9 om,trivial⟩⟩
   ·have e:ptK n D.O (fun i=>-(D.A i c)) x0 (k+1)=ptK n D.O (fun i=>-(D.A i c)) x0 k:=by rw [L4];funext j;rw [iC (fun h=>ho h.1)]
    conv=>whnf
    repeat' (first|refine zx ?_|refine t7 rfl jj ?_|apply zD<;>intro h<;>try omega)<;>conv=>whnf
    all_goals first|omega|exact ⟨jj,trivial,[some 0],rfl,rfl,⟨i6 (rows:=(rF n (ptK n D.O (fun i=>-(D.A i c)) x0 k)).map B3) rfl rfl rfl rfl (by rw [e]),trivial⟩,⟨rfl,rfl,⟨rfl,rfl,rfl,fun h=>h⟩,rfl,rfl,g9 om,trivial⟩⟩
  ·have hke:k=m:=by omega
   subst hke;conv=>whnf
   repeat' (first|refine zx ?_|apply zD<;>intro h<;>try omega)<;>conv=>whnf
   all_goals first|omega|exact N6 rfl (fun h=>h) rfl rfl (by simp [P7])
 ·have e0:x0=fun _=>0:=by rw [hx0];funext j;rw [iC (fun h=>hf h.1)]
  refine ac Tryz.func149 ?_;conv=>whnf
  repeat' (first|refine zx ?_|refine .inl ⟨_,_,z0 _ rfl,?_⟩|refine t7 rfl hc ?_|apply zD<;>intro h<;>try omega)<;>conv=>whnf
  all_goals try omega
  refine k6 g8 (fun k=>([dT m n fr D,eI c,J,J,J,S.c (C.own 0 0 n true)]++Jn 28++[a8E m D.O,eI m,eI k]++Jn 27,[flB (rF n (ptK n D.O (fun i=>-(D.A i c)) x0 k))])) m tT [some 0] trivial
   ⟨rfl,rfl,⟨i6 (rows:=(rF n (fun _=>0)).map B3) rfl rfl rfl rfl (by rw [e0];rfl),trivial⟩,⟨m9 rfl,g9 rfl,⟨rfl,rfl,rfl,fun h=>h⟩,m9 rfl,g9 om,g9 rfl,trivial⟩⟩ ?_
  intro k hk _;by_cases jj:k<m
  ·have ng:=a8z (D.A k c) (hB k jj);by_cases ho:D.O k<n
   ·have gp:(rF n (ptK n D.O (fun i=>-(D.A i c)) x0 k))[0+((D.O k:Nat):Int).toNat]? =some (fz (ptK n D.O (fun i=>-(D.A i c)) x0 k (D.O k))):=by rw [show 0+((D.O k:Nat):Int).toNat=D.O k by omega,L5 ho]
    have e:D6 (flB (rF n (ptK n D.O (fun i=>-(D.A i c)) x0 k))) ((flB (rF n (ptK n D.O (fun i=>-(D.A i c)) x0 k))).rows.set (0+((D.O k:Nat):Int).toNat) (frC (fz (-(D.A k c)))))=flB (rF n (ptK n D.O (fun i=>-(D.A i c)) x0 (k+1))):=by
     rw [R4 (show 0+((D.O k:Nat):Int).toNat=D.O k by omega),a0W ho,L4];refine congrArg flB (F9 fun j hj=>?_);simp only [ho,true_and]
    conv=>whnf
    repeat' (first|refine zx ?_|refine t7 rfl jj ?_|refine a2l rfl jj ?_|refine a5F rfl hc ?_|refine z6 gp ?_|apply zD<;>intro h<;>try omega)<;>conv=>whnf
    all_goals first|omega|exact ⟨jj,trivial,[some 0],rfl,rfl,⟨⟨rfl,rfl,rfl,.inl ⟨congrArg Blk.rows e,(congrArg Blk.rows e) ▸ j2 _⟩⟩,trivial⟩,⟨rfl,rfl,⟨rfl,rfl,rfl,fun h=>h⟩,rfl,rfl,g9 om,trivial⟩⟩
   ·have e:ptK n D.O (fun i=>-(D.A i c)) x0 (k+1)=ptK n D.O (fun i=>-(D.A i c)) x0 k:=by rw [L4];funext j;rw [iC (fun h=>ho h.1)]
    conv=>whnf
    repeat' (first|refine zx ?_|refine t7 rfl jj ?_|apply zD<;>intro h<;>try omega)<;>conv=>whnf
    all_goals first|omega|exact ⟨jj,trivial,[some 0],rfl,rfl,⟨i6 (rows:=(rF n (ptK n D.O (fun i=>-(D.A i c)) x0 k)).map B3) rfl rfl rfl rfl (by rw [e]),trivial⟩,⟨rfl,rfl,⟨rfl,rfl,rfl,fun h=>h⟩,rfl,rfl,g9 om,trivial⟩⟩
  ·have hke:k=m:=by omega
   subst hke;conv=>whnf
   repeat' (first|refine zx ?_|apply zD<;>intro h<;>try omega)<;>conv=>whnf
   all_goals first|omega|exact N6 rfl (fun h=>h) rfl rfl (by simp [P7])
def a9w (y:Nat->Rat) (r:Nat) (p:Rat):Nat->Rat:=fun i=>if i=r then y i+p else y i
def bL3 (b:Bool) (p:Rat):rl (Z4 b p)=rl p:=by cases b;rfl;exact a3i p
def a8P (m n:Nat) (fr:LB) (D:Fd) (R:Nat) (y:Nat->Rat) (k row:Nat) (b:Bool) (p:Rat) (hk:fr[k]? =some (row,b)) (hr:row<R) (hp:rl p<=50000) (hy:rl (y row)<=50000):
 ec 194 [dT m n fr D,.c (.own 0 0 R true),eI k,frS (fz p)] [flB (rF R y)] (.tup []) [flB (rF R (a9w y row (-(Z4 b p))))]:=by
 have m1:(a1D fr).length=fr.length:=by simp [a1D]
 have eR:0+(row:Int).toNat=row:=om;have gp:(rF R y)[0+(row:Int).toNat]? =some (fz (y row)):=by rw [eR,L5 hr]
 have ng:=a8z p om;cases b with
 |true=>
  have ad:=a8H (y row) p om om;have e:D6 (flB (rF R y)) ((flB (rF R y)).rows.set (0+(row:Int).toNat) (frC (fz (y row+p))))=flB (rF R (a9w y row (-(Z4 true p)))):=by
   rw [R4 eR,a0W hr];refine congrArg flB (F9 fun j hj=>?_);show (if j=row then y row+p else y j)=if j=row then y j+- -p else y j
   by_cases h:j=row
   ·subst h;rw [iB rfl,iB rfl,Rat.neg_neg]
   ·rw [iC h,iC h]
  refine ac Tryz.func194 ?_;conv=>whnf
  repeat' (first|refine zx ?_|refine j4 hk ?_|refine z6 gp ?_|refine bl0 [12] ?_|apply zD<;>intro h<;>try omega)<;>conv=>whnf
  all_goals first
   |omega
   |(exfalso;simp_all;done)
   |exact ⟨[some 0],rfl,rfl,⟨⟨rfl,rfl,rfl,.inl ⟨congrArg Blk.rows e,(congrArg Blk.rows e) ▸ j2 _⟩⟩,trivial⟩,trivial⟩
 |false=>
  have ad:=a8H (y row) (-p) om (by rw [a3i];omega);have e:D6 (flB (rF R y)) ((flB (rF R y)).rows.set (0+(row:Int).toNat) (frC (fz (y row+-p))))=flB (rF R (a9w y row (-(Z4 false p)))):=by
   rw [R4 eR,a0W hr];refine congrArg flB (F9 fun j hj=>?_);show (if j=row then y row+-p else y j)=if j=row then y j+-p else y j
   by_cases h:j=row
   ·subst h;rfl
   ·rw [iC h,iC h]
  refine ac Tryz.func194 ?_;conv=>whnf
  repeat' (first|refine zx ?_|refine j4 hk ?_|refine z6 gp ?_|refine bl0 [12] ?_|apply zD<;>intro h<;>try omega)<;>conv=>whnf
  all_goals first|omega|(exfalso;simp_all;done)|exact ⟨[some 0],rfl,rfl,⟨⟨rfl,rfl,rfl,.inl ⟨congrArg Blk.rows e,(congrArg Blk.rows e) ▸ j2 _⟩⟩,trivial⟩,trivial⟩
def yK (z:Nat->Rat) (f:Nat->Nat->Rat) (k:Nat):Nat->Rat:=fun i=>z i+p6 (fun j=>f j i) k
def a79 {z:Nat->Rat} {f:Nat->Nat->Rat} {k:Nat}:yK z f (k+1)=fun i=>yK z f k i+f k i:=by
 funext i;unfold yK;simp only [p6];grind
def al8 {f:Nat->Rat} {B:Nat}:∀k:Nat,(∀ j,j<k->rl (f j)<=B)->rl (p6 f k)<=k*(B+1)+1
 |0,_=>by
  have h0:=rl0;have e:p6 f 0=0:=by simp only [p6,a23]
  rw [e];omega
 |k+1,h=>by
  have h1:=al8 k fun j hj=>h j om
  have h2:=h k om;have h3:=a48 (p6 f k) (f k);simp only [p6];rw [lbV];omega
def b01 {s:m7} {w i B:Nat} {p:Rat} (h:rl p<=B) (hB:1<=B):rl (chg s w p i)<=B:=by
 unfold chg;split
 ·rw [a3i,bL3];exact h
 ·have:=rl0;omega
def an0 {s:m7} {w:Nat} {p:Rat} (h:w<s.n.toNat):chg s w p=fun _=>0:=by
 funext i;unfold chg;rw [iC (fun e=>om)]
def aW4 {s:m7} {w k row:Nat} {b:Bool} {p:Rat} (hw:w=s.n.toNat+k) (hf:(j0 s)[k]? =some (row,b)) (y:Nat->Rat):a9w y row (-(Z4 b p))=fun i=>y i+chg s w p i:=by
 funext i;have e:aV2 s (w - s.n.toNat)=(row,b):=by unfold aV2;rw [show w - s.n.toNat=k by omega,lbl,hf];rfl
 unfold a9w chg;rw [e];by_cases h:i=row
 ·subst h;rw [iB rfl,iB ⟨om,rfl⟩]
 ·rw [iC h,iC (fun e=>h e.2.symm)];grind
def a97 {s:m7} {k:Nat} {f:Nat × Bool} (h:(j0 s)[k]? =some f):f.1<s.rows.length:=by
 have ⟨w,hw,_⟩:=Y8.1 (lbm h);exact (lbe.1 hw).1
def b7a (s:m7) (n:Nat) (hn:s.n=n) (E:Fd) (hP:a03 (j0 s).length n E) (B:Nat) (hB:∀j,j<n->rl (E.G j)<=B) (hB1:1<=B) (hBn:(n+2)*(B+2)<=50000) (hm:(j0 s).length<=100000) (hR:s.rows.length<=1000) (hn1:n<=1000):
 ec 152 [dT (j0 s).length n (j0 s) E,eI s.rows.length] [] (.c (.own 0 0 s.rows.length true)) [flB (rF s.rows.length (a3R s E))]:=by
 have m1:(a04 n E.F).length=n:=p4 _ _;have hnn:s.n.toNat=n:=om;have z0:∀H:Hp,H.length=0->a0x Tryz.prog 185 [eI s.rows.length] H (.c (.own 0 0 s.rows.length true)) [flB (rF s.rows.length fun _=>0)]:=fun H hH=>a1U hH hR
 have eB:B<=50000:=by
  have:(n+2)*(B+2)=n*(B+2)+2*(B+2):=by rw [Y3]
  omega
 obtain ⟨f,hf⟩:∃f:Nat->Nat->Rat,f=fun j=>chg s (E.F j) (-(E.G j)):=⟨_,rfl⟩
 have e9:a3R s E=yK (fun _=>0) f n:=by
  funext i;unfold a3R yK;rw [hf,hnn];grind
 rw [e9];refine ac Tryz.func152 ?_;conv=>whnf
 repeat' (first|refine zx ?_|refine .inl ⟨_,_,z0 _ rfl,?_⟩|apply zD<;>intro h<;>try omega)<;>conv=>whnf
 refine k6 g8 (fun k=>([dT (j0 s).length n (j0 s) E,J,J,J,J,S.c (C.own 0 0 s.rows.length true),J,J,J,J,J,J,J,a8E n E.F,eI n,eI k]++Jn 29,[flB (rF s.rows.length (yK (fun _=>0) f k))])) n tT [some 0] trivial
  ⟨rfl,rfl,⟨i6 (rows:=(rF s.rows.length (fun _=>0)).map B3) rfl rfl rfl rfl ?_,trivial⟩,⟨m9 rfl,⟨rfl,rfl,rfl,fun h=>h⟩,m9 rfl,g9 om,g9 rfl,trivial⟩⟩ ?_
 ·rw [F9 (g:=yK (fun _=>0) f 0) (h:=fun _=>0) fun j hj=>by unfold yK;simp only [p6,a23];grind]
 intro k hk _;by_cases jj:k<n
 ·have ng:=a8z (E.G k) (by have:=hB k jj;omega);by_cases ho:E.F k<n
  ·have e:yK (fun _=>0) f (k+1)=yK (fun _=>0) f k:=by
    rw [a79,hf];funext i;have e0:chg s (E.F k) (-(E.G k)) i=0:=by rw [an0 om]
    show _+chg s (E.F k) (-(E.G k)) i=_;rw [e0];grind
   conv=>whnf
   repeat' (first|refine zx ?_|refine t7 rfl jj ?_|apply zD<;>intro h<;>try omega)<;>conv=>whnf
   all_goals first|omega|exact ⟨jj,trivial,[some 0],rfl,rfl,⟨i6 (rows:=(rF s.rows.length (yK (fun _=>0) f k)).map B3) rfl rfl rfl rfl (by rw [e]),trivial⟩,⟨rfl,⟨rfl,rfl,rfl,fun h=>h⟩,rfl,rfl,g9 om,trivial⟩⟩
  ·have hfb:=hP.fb k jj;obtain ⟨q,hq⟩:∃q,E.F k=n+q:=⟨E.F k - n,om⟩;obtain ⟨⟨row,b⟩,hfr⟩:∃x,(j0 s)[q]? =some x:=⟨_,lbf om⟩;have hrow:row<s.rows.length:=a97 hfr;have by1:rl (yK (fun _=>0) f k row)<=50000:=by
    have h1:=al8 (f:=fun j=>f j row) (B:=B) k fun j hj=>by rw [hf];exact b01 (by rw [a3i];exact hB j om) hB1
    have e:yK (fun _=>0) f k row=p6 (fun j=>f j row) k:=by unfold yK;grind
    rw [e];have:k*(B+1)<=n*(B+1):=lbU _ om;have:(n+2)*(B+2)=n*(B+1)+n+2*(B+2):=by rw [Y3,show n*(B+2)=n*(B+1)+n by rw [Nat.mul_add,Nat.mul_add];omega]
    omega
   have ch:=a8P (j0 s).length n (j0 s) E s.rows.length (yK (fun _=>0) f k) q row b (-(E.G k)) hfr hrow (by rw [a3i];have:=hB k jj;omega) by1;have e:a9w (yK (fun _=>0) f k) row (-(Z4 b (-(E.G k))))=yK (fun _=>0) f (k+1):=by rw [aW4 (s:=s) (w:=E.F k) om hfr,a79,hf]
   rw [e,show ((q:Nat):Int)=(E.F k:Int) - n by omega] at ch;conv=>whnf
   repeat' (first|refine zx ?_|refine t7 rfl jj ?_|refine a5F rfl jj ?_|refine .inr ⟨_,_,ch,?_⟩|apply zD<;>intro h<;>try omega)<;>conv=>whnf
   all_goals first|omega|exact ⟨jj,trivial,[some 0],rfl,rfl,⟨j8 (j2 _),trivial⟩,⟨rfl,⟨rfl,rfl,rfl,fun h=>h⟩,rfl,rfl,g9 om,trivial⟩⟩
 ·have hke:k=n:=by omega
  subst hke;conv=>whnf
  repeat' (first|refine zx ?_|apply zD<;>intro h<;>try omega)<;>conv=>whnf
  all_goals first|omega|exact ⟨[some 0],rfl,rfl,⟨j8 (j2 _),trivial⟩,⟨rfl,rfl,rfl,fun h=>h⟩⟩
def aT2 (s:m7) (n r:Nat) (hn:s.n=n) (E:Fd) (hP:a03 (j0 s).length n E) (hr:r<(j0 s).length) (B:Nat) (hB:∀j,j<n->rl (E.A r j)<=B) (hB1:1<=B) (hBn:(n+3)*(B+2)<=50000) (hm:(j0 s).length<=100000) (hR:s.rows.length<=1000) (hn1:n<=1000):
 ec 150 [dT (j0 s).length n (j0 s) E,eI s.rows.length,eI r] [] (.c (.own 0 0 s.rows.length true)) [flB (rF s.rows.length (ah9 s E r))]:=by
 have m1:(a04 n E.F).length=n:=p4 _ _;have hnn:s.n.toNat=n:=om;have z0:∀H:Hp,H.length=0->a0x Tryz.prog 185 [eI s.rows.length] H (.c (.own 0 0 s.rows.length true)) [flB (rF s.rows.length fun _=>0)]:=fun H hH=>a1U hH hR
 have i1:=V4 1 de de;have eBn:(n+3)*(B+2)=n*(B+1)+n+3*(B+2):=by rw [Y3,show n*(B+2)=n*(B+1)+n by rw [Nat.mul_add,Nat.mul_add];omega]
 have eB:B<=50000:=om;obtain ⟨f,hf⟩:∃f:Nat->Nat->Rat,f=fun j=>chg s (E.F j) (E.A r j):=⟨_,rfl⟩
 obtain ⟨z,hz⟩:∃z:Nat->Rat,z=chg s (E.O r) 1:=⟨_,rfl⟩;have zb:∀i,rl (z i)<=B:=fun i=>by rw [hz];exact b01 (by have:=rl1;omega) hB1
 have e9:ah9 s E r=yK z f n:=by
  funext i;unfold ah9 yK;rw [hf,hnn,hz]
 rw [e9];have hob:=hP.ob r hr;by_cases ho:E.O r<n
 ·have ez:z=fun _=>0:=by rw [hz,an0 om]
  refine ac Tryz.func150 ?_;conv=>whnf
  repeat' (first|refine zx ?_|refine .inl ⟨_,_,z0 _ rfl,?_⟩|refine t7 rfl hr ?_|apply zD<;>intro h<;>try omega)<;>conv=>whnf
  all_goals try omega
  refine k6 g8 (fun k=>([dT (j0 s).length n (j0 s) E,J,eI r,J,J,J,J,S.c (C.own 0 0 s.rows.length true)]++Jn 31++[a8E n E.F,eI n,eI k]++Jn 32,[flB (rF s.rows.length (yK z f k))])) n tT [some 0] trivial
   ⟨rfl,rfl,⟨i6 (rows:=(rF s.rows.length z).map B3) rfl rfl rfl (by rw [ez]) ?_,trivial⟩,⟨m9 rfl,g9 rfl,⟨rfl,rfl,rfl,fun h=>h⟩,m9 rfl,g9 om,g9 rfl,trivial⟩⟩ ?_
  ·rw [F9 (g:=yK z f 0) (h:=z) fun j hj=>by unfold yK;simp only [p6,a23];grind]
  intro k hk _;by_cases jj:k<n
  ·have ba:=hB k jj;by_cases ho2:E.F k<n
   ·have e:yK z f (k+1)=yK z f k:=by
     rw [a79,hf];funext i;have e0:chg s (E.F k) (E.A r k) i=0:=by rw [an0 om]
     show _+chg s (E.F k) (E.A r k) i=_;rw [e0];grind
    conv=>whnf
    repeat' (first|refine zx ?_|refine t7 rfl jj ?_|apply zD<;>intro h<;>try omega)<;>conv=>whnf
    all_goals first|omega|exact ⟨jj,trivial,[some 0],rfl,rfl,⟨i6 (rows:=(rF s.rows.length (yK z f k)).map B3) rfl rfl rfl rfl (by rw [e]),trivial⟩,⟨rfl,rfl,⟨rfl,rfl,rfl,fun h=>h⟩,rfl,rfl,g9 om,trivial⟩⟩
   ·have hfb:=hP.fb k jj;obtain ⟨q2,hq2⟩:∃q2,E.F k=n+q2:=⟨E.F k - n,om⟩;obtain ⟨⟨row2,b2⟩,hfr2⟩:∃x,(j0 s)[q2]? =some x:=⟨_,lbf om⟩;have hrow2:row2<s.rows.length:=a97 hfr2;have by1:rl (yK z f k row2)<=50000:=by
     have h1:=al8 (f:=fun j=>f j row2) (B:=B) k fun j hj=>by rw [hf];exact b01 (hB j om) hB1
     have h2:=a48 (z row2) (p6 (fun j=>f j row2) k);have h3:=zb row2;have:k*(B+1)<=n*(B+1):=lbU _ om;unfold yK;omega
    have ch2:=a8P (j0 s).length n (j0 s) E s.rows.length (yK z f k) q2 row2 b2 (E.A r k) hfr2 hrow2 om by1;have e:a9w (yK z f k) row2 (-(Z4 b2 (E.A r k)))=yK z f (k+1):=by rw [aW4 (s:=s) (w:=E.F k) om hfr2,a79,hf]
    rw [e,show ((q2:Nat):Int)=(E.F k:Int) - n by omega] at ch2;conv=>whnf
    repeat' (first|refine zx ?_|refine t7 rfl jj ?_|refine a2l rfl hr ?_|refine a5F rfl jj ?_|refine .inr ⟨_,_,ch2,?_⟩|apply zD<;>intro h<;>try omega)<;>conv=>whnf
    all_goals first|omega|exact ⟨jj,trivial,[some 0],rfl,rfl,⟨j8 (j2 _),trivial⟩,⟨rfl,rfl,⟨rfl,rfl,rfl,fun h=>h⟩,rfl,rfl,g9 om,trivial⟩⟩
  ·have hke:k=n:=by omega
   subst hke;conv=>whnf
   repeat' (first|refine zx ?_|apply zD<;>intro h<;>try omega)<;>conv=>whnf
   all_goals first|omega|exact ⟨[some 0],rfl,rfl,⟨j8 (j2 _),trivial⟩,⟨rfl,rfl,rfl,fun h=>h⟩⟩
 ·obtain ⟨q,hq⟩:∃q,E.O r=n+q:=⟨E.O r - n,om⟩;obtain ⟨⟨row,b⟩,hfr⟩:∃x,(j0 s)[q]? =some x:=⟨_,lbf om⟩;have hrow:row<s.rows.length:=a97 hfr;have ch:=a8P (j0 s).length n (j0 s) E s.rows.length (fun _=>0) q row b 1 hfr hrow (by have:=rl1;omega) (by have:=rl0;omega);have e:rF s.rows.length (a9w (fun _=>0) row (-(Z4 b 1)))=rF s.rows.length z:=F9 fun j hj=>by
   rw [aW4 (s:=s) (w:=E.O r) om hfr,hz];grind
  rw [e,show ((q:Nat):Int)=(E.O r:Int) - n by omega] at ch;have ch:ec 194 [dT (j0 s).length n (j0 s) E,.c (.own 0 0 s.rows.length true),eI ((E.O r:Int) - n),frS (fz ((1:Int):Rat))] [flB (rF s.rows.length fun _=>0)] (.tup []) [flB (rF s.rows.length z)]:=ch;refine ac Tryz.func150 ?_;conv=>whnf
  repeat' (first|refine zx ?_|refine .inl ⟨_,_,z0 _ rfl,?_⟩|refine t7 rfl hr ?_|refine .inr ⟨_,_,ch,?_⟩|apply zD<;>intro h<;>try omega)<;>conv=>whnf
  all_goals try omega
  refine k6 g8 (fun k=>([dT (j0 s).length n (j0 s) E,J,eI r,J,J,J,J,S.c (C.own 0 0 s.rows.length true)]++Jn 31++[a8E n E.F,eI n,eI k]++Jn 32,[flB (rF s.rows.length (yK z f k))])) n tT [some 0] trivial
   ⟨rfl,rfl,⟨i6 (rows:=(rF s.rows.length z).map B3) rfl rfl rfl (rfl) ?_,trivial⟩,⟨m9 rfl,g9 rfl,⟨rfl,rfl,rfl,fun h=>h⟩,m9 rfl,g9 om,g9 rfl,trivial⟩⟩ ?_
  ·rw [F9 (g:=yK z f 0) (h:=z) fun j hj=>by unfold yK;simp only [p6,a23];grind]
  intro k hk _;by_cases jj:k<n
  ·have ba:=hB k jj;by_cases ho2:E.F k<n
   ·have e:yK z f (k+1)=yK z f k:=by
     rw [a79,hf];funext i;have e0:chg s (E.F k) (E.A r k) i=0:=by rw [an0 om]
     show _+chg s (E.F k) (E.A r k) i=_;rw [e0];grind
    conv=>whnf
    repeat' (first|refine zx ?_|refine t7 rfl jj ?_|apply zD<;>intro h<;>try omega)<;>conv=>whnf
    all_goals first|omega|exact ⟨jj,trivial,[some 0],rfl,rfl,⟨i6 (rows:=(rF s.rows.length (yK z f k)).map B3) rfl rfl rfl rfl (by rw [e]),trivial⟩,⟨rfl,rfl,⟨rfl,rfl,rfl,fun h=>h⟩,rfl,rfl,g9 om,trivial⟩⟩
   ·have hfb:=hP.fb k jj;obtain ⟨q2,hq2⟩:∃q2,E.F k=n+q2:=⟨E.F k - n,om⟩;obtain ⟨⟨row2,b2⟩,hfr2⟩:∃x,(j0 s)[q2]? =some x:=⟨_,lbf om⟩;have hrow2:row2<s.rows.length:=a97 hfr2;have by1:rl (yK z f k row2)<=50000:=by
     have h1:=al8 (f:=fun j=>f j row2) (B:=B) k fun j hj=>by rw [hf];exact b01 (hB j om) hB1
     have h2:=a48 (z row2) (p6 (fun j=>f j row2) k);have h3:=zb row2;have:k*(B+1)<=n*(B+1):=lbU _ om;unfold yK;omega
    have ch2:=a8P (j0 s).length n (j0 s) E s.rows.length (yK z f k) q2 row2 b2 (E.A r k) hfr2 hrow2 om by1;have e:a9w (yK z f k) row2 (-(Z4 b2 (E.A r k)))=yK z f (k+1):=by rw [aW4 (s:=s) (w:=E.F k) om hfr2,a79,hf]
    rw [e,show ((q2:Nat):Int)=(E.F k:Int) - n by omega] at ch2;conv=>whnf
    repeat' (first|refine zx ?_|refine t7 rfl jj ?_|refine a2l rfl hr ?_|refine a5F rfl jj ?_|refine .inr ⟨_,_,ch2,?_⟩|apply zD<;>intro h<;>try omega)<;>conv=>whnf
    all_goals first|omega|exact ⟨jj,trivial,[some 0],rfl,rfl,⟨j8 (j2 _),trivial⟩,⟨rfl,rfl,⟨rfl,rfl,rfl,fun h=>h⟩,rfl,rfl,g9 om,trivial⟩⟩
  ·have hke:k=n:=by omega
   subst hke;conv=>whnf
   repeat' (first|refine zx ?_|apply zD<;>intro h<;>try omega)<;>conv=>whnf
   all_goals first|omega|exact ⟨[some 0],rfl,rfl,⟨j8 (j2 _),trivial⟩,⟨rfl,rfl,rfl,fun h=>h⟩⟩
def a7U (ρ:List (Option Nat)) (H:Hp):Env->Env->Prop
 |[],[]=>True
 |s::r,s'::r'=>match s' with
  |.junk=>a7U ρ H r r'
  |s'=>(a7H ρ H s s'\/VYS H (fun id=>L2 ρ id=true) s s')/\a7U ρ H r r'
 |_,_=>False
def a7U.rel {ρ:List (Option Nat)} {H:Hp}:∀{env env':Env},a7U ρ H env env'->env.length=env'.length/\∀(t:Nat) (s':S),env'[t]? =some s'->∃s,env[t]? =some s/\(a7H ρ H s s'\/VYS H (fun id=>L2 ρ id=true) s s')
 |[],[],_=>⟨rfl,zq⟩
 |s::r,s'::r',h=>by
  have h':(a7H ρ H s s'\/VYS H (fun id=>L2 ρ id=true) s s')/\a7U ρ H r r':=by
   cases s' with
   |junk=>exact ⟨.inl trivial,h⟩
   |_=>exact h
  have ⟨h1,h2⟩:=a7U.rel h'.2;refine ⟨by simp [h1],fun t s'' ht=>?_⟩;cases t with
  |zero=>simp at ht;subst ht;exact ⟨s,rfl,h'.1⟩
  |succ t=>simpa using h2 t s'' (by simpa using ht)
 |[],_::_,h=>h.elim
 |_::_,[],h=>h.elim
structure b92 (n0:Nat) (ρ:List (Option Nat)) (env:Env) (H:Hp) (env':Env) (H':Hp):Prop where
 k:a3d ρ n0=true
 n:Z5 ρ H'=true
 h:a4w ρ H ρ H'
 e:a7U ρ H env env'
def b92.sim {n0:Nat} {ρ:List (Option Nat)} {env env':Env} {H H':Hp} (h:b92 n0 ρ env H env' H') {w0:World} {ι0:Io} {M0:Ms} {H0:Hp} {a:Act} {w:World} (hn:H0.length=n0) (hM0:MB w0 M0)
 (hs:Sim w0 ι0 M0 H0 a w env H):Sim w0 ι0 M0 H0 a w env' H':=by
 have ⟨h1,h2,h3,h4⟩:=h;have ⟨ι,M,hd,hsz,he,hH,hM,hF,hst⟩:=hs;have ⟨hel,heg⟩:=a7U.rel h4;have ⟨q1,q2,q3⟩:=a4w.all h1 h2 h3 hn hM0 hH hst;refine ⟨X2 ρ ι,_,hd,om,fun t s' ht=>?_,q1,fun b hb=>hM b hb.1,q2,q3⟩;have ⟨s,r1,r2⟩:=heg t s' ht;rcases r2 with r2|r2
 ·exact r2.rs hH (he t s r1)
 ·refine r2.rs hH (fun b hb=>hb.1) ?_ (he t s r1);intro id k b cap size hp hk hd hi hb;exact hb.2 ⟨id,k,cap,size,hp,hk,hd,hi⟩
def a0f {P:Program} {τ:Tab} (hτ:G7 P τ) {n0:Nat} {x y:Code} {env:Env} {H:Hp} {Q:AX->Env->Hp->Prop} (E2:Env) (H2:Hp)
 (h:a5V P τ n0 x env H fun a env' H'=>match a with
   |.normal=>∃ρ,b92 n0 ρ env' H' E2 H2
   |a=>Q a env' H') (h2:Awp P n0 y E2 H2 Q):Awp P n0 (.seq x y) env H Q:=by
 refine ⟨fun w0 ι0 M0 H0 a w hn hM hs=>?_⟩;refine wp_seq (wp_mono ((t4 hτ x h).out w0 ι0 M0 H0 a w hn hM hs) ?_);rintro e a' w' ⟨x,env',H',rfl,hq,hs'⟩;cases x with
 |normal=>have ⟨ρ,he⟩:=hq;exact h2.out w0 ι0 M0 H0 a' w' hn hM (he.sim hn hM hs')
 |exit id=>exact ⟨_,env',H',rfl,hq,hs'⟩
 |ret=>exact ⟨_,env',H',rfl,hq,hs'⟩
def b6w {P:Program} {n0:Nat} {c:Operand} {t e:Code} {env:Env} {H:Hp} {Q:AX->Env->Hp->Prop} {b:Bool} (hb:M4 env c=n7 b) (h:Awp P n0 (cond b t e) env H Q):Awp P n0 (.cond c t e) env H Q:=by
 refine ⟨fun w0 ι0 M0 H0 a w hn hM hs=>?_⟩;have hs0:=hs;have ⟨ι,M,hd,hsz,he,hH,hMB,hF,hst⟩:=hs;have hv:=(he.ev.to hb).inv_atm;refine wp_cond hv ?_;cases b with
 |true=>exact h.out w0 ι0 M0 H0 a w hn hM hs0
 |false=>exact h.out w0 ι0 M0 H0 a w hn hM hs0
def bf5 {m n:Nat} {fr:LB} {D:Fd} {X:Hp} {p:Nat->Prop} (hp:∀i,i<m+6->p i):VY (Q6 m n fr D.V D.G D.O D.F D.A X) p (.own 1 0 m true) (.sl 5 .any (ah5 m n D)):=by
 refine b3e (k:=a29 6 m n D.V) (hp _ om) rfl (fun h=>h) rfl (a7i m n D) ?_ ?_
 ·intro r hr;obtain ⟨i,_,rfl⟩:=lbx.1 hr
  rfl
 ·intro i r hi;have him:i<m:=by have:=(lbe.1 hi).1;rwa [a7i] at this
  rw [ae0 him] at hi;injection hi with hi;subst hi;refine ⟨_,a4j him,?_⟩;show VYL _ _ ((B3 (fz (D.V i))).map C.t++[C.own (i+6) 0 n true]) _;have hv:VY (Q6 m n fr D.V D.G D.O D.F D.A X) p (C.own (i+6) 0 n true) (T.sl 4 .any ((rF n (D.A i)).map B3)):=
   .vc (v7 (k:=flB (rF n (D.A i))) (hp _ om) (J1 (Z3 him)) (fun h=>h) rfl rfl (by simp [P7]))
  exact aT9 (ys:=[C.own (i+6) 0 n true]) (us:=[T.sl 4 .any ((rF n (D.A i)).map B3)]) (show _/\True from ⟨hv,trivial⟩)
def am8 {m n:Nat} {fr:LB} {D:Fd} {X:Hp} {p:Nat->Prop} (hp:∀i,i<m+6->p i):VY (Q6 m n fr D.V D.G D.O D.F D.A X) p (.ptr 0 0 0) (.ptr (bx5 m n fr D)):=by
 refine a6Z (k:=b42 m n fr.length) (hp _ om) rfl (fun h=>h) rfl ⟨a1C,bf5 hp,?_,?_,?_,?_,trivial⟩
 ·exact .vc (v7 (k:=flB (rF n D.G)) (hp _ om) rfl (fun h=>h) rfl rfl (by simp [P7]))
 ·exact .vc (v7 (k:=U7 m D.O) (hp _ om) rfl (fun h=>h) rfl rfl (by simp [p4]))
 ·exact .vc (v7 (k:=U7 n D.F) (hp _ om) rfl (fun h=>h) rfl rfl (by simp [p4]))
 ·exact .vc (v7 (k:=a2U fr) (hp _ om) rfl (fun h=>h) rfl rfl (by simp [a1D]))
abbrev bO7 (m n k:Nat):Blk:={ mode:=.live,elem:=212,size:=6,rows:=[[C.t (ti n),.own 2 0 m true,.own 3 0 n true,.own 4 0 m true,.own 5 0 n true,.own 6 0 k true]],box:=true }
abbrev bD8 (m n:Nat) (fr:LB) (D:Fd) (b:Blk):Hp:=
 b::bO7 m n fr.length::a29 7 m n D.V::flB (rF n D.G)::U7 m D.O::U7 n D.F::a2U fr::(mF m n D.A).map flB
def b5u {N i:Nat} (h:i<N):(a4E [] 1 N).getD i 0=i+1:=by
 unfold a4E;rw [a6A,lbl,lba,lbh h];show 1+i=i+1;omega
def bF2 {σ:List Nat} (ts:List T) (l:List C):a1X σ (ts.map C.t++l)=ts.map C.t++a1X σ l:=by
 rw [T9,T9,lbC,a75]
 congr 1
def an1 {s:m7} {g:List (Int × Rat)} {n:Nat} (b:Blk) (h:ec 146 [W8 s,s6 g] [] (.c (.ptr 0 0 0)) (a1w (j0 s).length n (j0 s) (k9 s g))):
 ec 146 [W8 s,s6 g] [b] (.c (.ptr 1 0 0)) (bD8 (j0 s).length n (j0 s) (k9 s g) b):=by
 have hlen:(a1w (j0 s).length n (j0 s) (k9 s g)).length=(j0 s).length+6:=a4o;have hl:∀k ∈ a1w (j0 s).length n (j0 s) (k9 s g),k.mode=.live:=by
  intro k hk;simp only [lbA] at hk;rcases hk with rfl|rfl|rfl|rfl|rfl|rfl|hk
  ·rfl
  ·rfl
  ·rfl
  ·rfl
  ·rfl
  ·rfl
  ·obtain ⟨l,_,rfl⟩:=lbx.1 hk;rfl
 have hsub:(a1w (j0 s).length n (j0 s) (k9 s g)).length - ([]:Hp).length=(j0 s).length+6:=by rw [hlen];simp
 have g1:∀i,i<(j0 s).length+6->(a4E [] ([b]:Hp).length ((a1w (j0 s).length n (j0 s) (k9 s g)).length - ([]:Hp).length)).getD i 0=i+1:=fun i hi=>by
  rw [hsub];exact b5u hi
 refine W9 [] h rfl rfl rfl aq7 zq (fun k hk=>by rw [hl k hk];intro h;cases h) zq rfl ?_ (by rw [hsub];simp [i8];omega) ?_ ?_
 ·show S.c (.ptr 1 0 0)=S.c (.ptr _ 0 0);rw [g1 0 om]
 ·intro i k hk;have hi:i<(j0 s).length+6:=by rw [← hlen];exact (lbe.1 hk).1
  rw [g1 i hi];rcases i with _|_|_|_|_|_|i
  ·injection hk with hk;subst hk
   refine ⟨_,rfl,rfl,rfl,rfl,rfl,?_⟩;simp only [a8q,az3,List.map_nil,a1X,a0C];rw [g1 1 om,g1 2 om,g1 3 om,g1 4 om,g1 5 om]
  ·injection hk with hk;subst hk
   refine ⟨_,rfl,rfl,rfl,rfl,rfl,?_⟩;unfold a8q;show a0d 7 _ _ _=(a0d 6 _ _ _).map _;unfold a0d;rw [a75];refine lbp fun j hj=>?_
   have hj:=lbB.1 hj;show _=a1X _ ((B3 (fz ((k9 s g).V j))).map C.t++[C.own (j+6) 0 n true]);rw [bF2];simp only [a1X,a0C];rw [g1 (j+6) om]
   rfl
  ·injection hk with hk;subst hk;exact ⟨_,rfl,E5 rfl⟩
  ·injection hk with hk;subst hk;exact ⟨_,rfl,E5 rfl⟩
  ·injection hk with hk;subst hk;exact ⟨_,rfl,E5 rfl⟩
  ·injection hk with hk;subst hk;exact ⟨_,rfl,E5 rfl⟩
  ·have hk:((mF (j0 s).length n (k9 s g).A).map flB)[i]? =some k:=hk;refine ⟨k,hk,?_⟩;obtain ⟨l,_,rfl⟩:=lbx.1 (lbm hk);exact E5 rfl
 ·intro j hj _;have:j=0:=by simpa using hj
  subst this;rfl
def fS (m:Nat):Nat->Nat:=fun i=>if i<m+6 then i+1 else 0
def a9o {m n:Nat} {fr:LB} {D:Fd} {b:Blk} {env env':Env} {H:Hp} (hb:L6 b.rows) (hH:H=bD8 m n fr D b) (hE:a0A (fR (m+7) (fS m)) H env env'):
 Ent 0 (fR (m+7) (fS m)) env H env' (Q6 m n fr D.V D.G D.O D.F D.A [b]):=by
 subst hH;have fa:∀i,i<m+6->fS m i=i+1:=fun i hi=>by unfold fS;rw [iB hi]
 refine ab3 zV om (fun i hi=>om) (fun i j hi hj h=>by unfold fS at h;(repeat' split at h)<;>omega) ?_ hE;intro i k' hk;rcases i with _|_|_|_|_|_|i
 ·injection hk with hk;subst hk
  rw [fa 0 om];exact ⟨_,rfl,rfl,rfl,rfl,.inr ⟨⟨rfl,⟨by rw [z9 om,fa _ om],rfl,rfl,fun h=>h⟩,⟨by rw [z9 om,fa _ om],rfl,rfl,fun h=>h⟩,⟨by rw [z9 om,fa _ om],rfl,rfl,fun h=>h⟩,⟨by rw [z9 om,fa _ om],rfl,rfl,fun h=>h⟩,⟨by rw [z9 om,fa _ om],rfl,rfl,fun h=>h⟩,trivial⟩,trivial⟩⟩
 ·injection hk with hk;subst hk
  rw [fa 1 om];refine ⟨_,rfl,a3l (h:=fun i=>i+7) (h':=fun i=>i+6) fun j hj=>?_⟩;rw [z9 om,fa _ om]
 ·injection hk with hk;subst hk;rw [fa 2 om];exact ⟨_,rfl,j8 (j2 _)⟩
 ·injection hk with hk;subst hk;rw [fa 3 om];exact ⟨_,rfl,j8 (j2 _)⟩
 ·injection hk with hk;subst hk;rw [fa 4 om];exact ⟨_,rfl,j8 (j2 _)⟩
 ·injection hk with hk;subst hk;rw [fa 5 om];exact ⟨_,rfl,j8 (j2 _)⟩
 ·have hk:((mF m n D.A).map flB++[b])[i]? =some k':=hk;by_cases hi:i<m
  ·rw [J1 (Z3 hi)] at hk;injection hk with hk;subst hk
   rw [fa _ om];refine ⟨flB (rF n (D.A i)),?_,j8 (j2 _)⟩;show ((mF m n D.A).map flB)[i]? =_;rw [lba,Z3 hi];rfl
  ·obtain ⟨t,rfl⟩:∃t,i=m+t:=⟨i - m,om⟩;rw [a2Z (i8 _ _ _)] at hk;rcases t with _|t
   ·injection hk with hk;subst hk
    have:fS m (m+0+6)=0:=by unfold fS;rw [iC om]
    rw [this];exact ⟨_,rfl,j8 hb⟩
   ·simp at hk
def a7w {m n:Nat} {fr:LB} {D E:Fd} {r:S} (X:Hp) (hr:aA9 r=true) (hr':r.isT=true) (h:ec 147 [.c (.ptr 0 0 0)] (a1w m n fr D) r (a1w m n fr E)):
 ec 147 [.c (.ptr 0 0 0)] (Q6 m n fr D.V D.G D.O D.F D.A X) r (Q6 m n fr E.V E.G E.O E.F E.A X):=by
 have hl:∀{D:Fd},∀k ∈ a1w m n fr D,k.mode=.live/\k.app=false:=by
  intro D k hk;simp only [lbA] at hk;rcases hk with rfl|rfl|rfl|rfl|rfl|rfl|hk
  ·exact rz
  ·exact rz
  ·exact rz
  ·exact rz
  ·exact rz
  ·exact rz
  ·obtain ⟨l,_,rfl⟩:=lbx.1 hk;exact rz
 exact a3P (n:=m+6) X h a4o a4o (by simp [okS,okC,a1o]) (fun k hk=>⟨(hl k hk).1,(hl k hk).2,a9p k hk⟩) (fun k hk=>⟨(by rw [(hl k hk).1];intro h;cases h),a9p k hk⟩) hr hr'
def b1w (l:List (Int × Rat)) (z:List Rat) (hl:l.length<=1000000) (h1:∀t ∈ l,rl t.2<=20000) (h2:∀v ∈ z,rl v<=40000) (hS:∀k,rl (n9 (l.take k) z)<=60000) (hz:z.length<=1000000) (hr:m8 (-1) z.length l=true):
 ec 105 [s6 l,H9 (z.map fz)] [] (frS (fz (n9 l z))) []:=by
 have m1:(l.map B9).length=l.length:=zq;have m2:((z.map fz).map B3).length=z.length:=zq;have i0:=V4 0 de de;refine ac Tryz.func105 ?_;conv=>whnf
 repeat' (first|refine zx ?_|apply zD<;>intro<;>try omega)<;>conv=>whnf
 refine k6 g8 (fun k=>([J,H9 (z.map fz),J,J,sP 0 0 0,sP 1 0 0,J,J,J,J,J,s6 l,eI l.length,eI k]++Jn 22,[frB a0L,frB (fz (n9 (l.take k) z))])) l.length tT [some 0,some 1] trivial
  ⟨rfl,rfl,⟨⟨rfl,rfl,rfl,.inr rz⟩,⟨rfl,rfl,rfl,.inl ⟨rfl,a4f _⟩⟩,trivial⟩,⟨rfl,rz,rz,rfl,g9 zq,rz⟩⟩ ?_
 intro k hk _;by_cases jj:k<l.length
 ·have ⟨t,ht⟩:=iA jj;have ⟨v,c⟩:=t;have hv:=ad0 hr _ (lbm ht);simp only at hv;have bc:=h1 _ (lbm ht);simp only at bc;obtain ⟨x,hx⟩:∃x,z[v.toNat]? =some x:=⟨_,lbf om⟩;have hxd:z.getD v.toNat 0=x:=by rw [lbl,hx];rfl
  have bx:=h2 x (lbm hx);have b3:=aY3 c x;have bs:=hS k;have mu:=b3C c x om om;have ad:=a8H (n9 (l.take k) z) (c*x) om om;have e:n9 (l.take k) z+c*x=n9 (l.take (k+1)) z:=by
   have:l.take (k+1)=l.take k++[(v,c)]:=by rw [lbG,ht];rfl
   rw [this,L0,←hxd]
  rw [e] at ad;have xz:(z.map fz)[v.toNat]? =some (fz x):=by rw [lba,hx];rfl
  conv=>whnf
  repeat' (first|refine zx ?_|refine j4 ht ?_|refine K6 om xz ?_|refine bl0 [10] ?_|refine bl0 [5] ?_|apply zD<;>intro<;>try omega)<;>conv=>whnf
  all_goals first|omega|exact ⟨jj,trivial,[some 0,some 1],rfl,rfl,⟨⟨rfl,rfl,rfl,.inl ⟨rfl,a4f _⟩⟩,⟨rfl,rfl,rfl,.inl ⟨rfl,a4f _⟩⟩,trivial⟩,rz⟩
 ·have hke:k=l.length:=by omega
  subst hke;rw [lbn (lbR _)];conv=>whnf
  repeat' (first|refine zx ?_|apply zD<;>intro<;>try omega)<;>conv=>whnf
  all_goals first|omega|exact bS6 rfl
def ac0 (z:List Rat):(z.map fz).all X5=true:=by
 rw [lbv];intro f hf;obtain ⟨x,_,rfl⟩:=lbx.1 hf;exact ap9 x
def b9z (l:List (Int × Rat)) (z:List Rat) (hl:l.length<=1000000) (h1:∀t ∈ l,rl t.2<=200) (h2:∀v ∈ z,rl v<=40000) (hS:∀k,rl (n9 (l.take k) z)<=60000) (hz:z.length<=1000000) (hr:m8 (-1) z.length l=true):
 ec 151 [s6 l,H9 (z.map fz)] [] (.tup [frS (fz (n9 l z)),n7 true]) []:=by
 have m2:((z.map fz).map B3).length=z.length:=zq;have rt:=a0r l z.length hl h1;rw [lbH om,hr] at rt;have pt:=b50 (z.map fz) (by simpa using hz) (fun f hf=>by
  obtain ⟨x,hx,rfl⟩:=lbx.1 hf;have:=h2 x hx;have a:=K9 x;have b:=K3 x;exact ⟨by show bl x.num<=_;omega,by show bl x.den<=_;omega⟩)
 rw [ac0] at pt;have va:=b1w l z hl (fun t ht=>by have:=h1 t ht;omega) h2 hS hz hr;have rt2:ec 145 [s6 l,eI (((z.map fz).map B3).length:Nat)] [] (n7 (true && true)) []:=by rw [m2];exact rt
 refine ac Tryz.func151 ?_;conv=>whnf
 repeat' (first|refine zx ?_|apply zD<;>intro<;>try omega)<;>conv=>whnf
 all_goals first|(exfalso;simp_all;done)|exact n8 rz
structure I7 (s:m7) (g:List (Int × Rat)) (n B:Nat):Prop where
 o:by8 s g n
 sb:b2m s
 gb:∀t ∈ g,rl t.2<=200
 bd:∀D,P6 (j0 s).length n (k9 s g) D->BdD (j0 s).length n B D
 b1:1<=B
 bn:(n+3)*(B+2)<=50000
 r:s.rows.length<=1000
def I7.nn {s:m7} {g:List (Int × Rat)} {n B:Nat} (h:I7 s g n B):s.n.toNat=n:=by have:=h.o.en;omega
def I7.bb {s:m7} {g:List (Int × Rat)} {n B:Nat} (h:I7 s g n B):B<=17000:=by
 have h1:=h.bn;have:(n+3)*(B+2)=n*(B+2)+3*(B+2):=by rw [Y3]
 omega
def I7.m {s:m7} {g:List (Int × Rat)} {n B:Nat} (h:I7 s g n B):(j0 s).length<=2000:=by
 have:=a1b (s:=s) s.rows.length;have:=h.r;show (J8 s s.rows.length).length<=_;omega
abbrev bO (cells:List C):Blk:={ mode:=.live,elem:=99,size:=8,rows:=[cells],box:=true }
abbrev z8:List C:=[.t (ti 0),.t (ti 0),.t (.sl 0 .nil []),.t (ti 0),.t (.sl 0 .nil []),.t (.sl 0 .nil []),.t (.sl 0 .nil []),.t (.sl 0 .nil [])]
def a4m:L6 (bO z8).rows:=j2 [[ti 0,ti 0,.sl 0 .nil [],ti 0,.sl 0 .nil [],.sl 0 .nil [],.sl 0 .nil [],.sl 0 .nil []]]
def a2B {s:m7} {g:List (Int × Rat)} {n B:Nat} (h:I7 s g n B):
 ec 147 [.c (.ptr 0 0 0)] (a1w (j0 s).length n (j0 s) (k9 s g)) (.tup [eI (a73 (H8 s g)).1,eI (a73 (H8 s g)).2]) (a1w (j0 s).length n (j0 s) (F8 s g)):=by
 have hn:=h.nn;subst hn;have hm:=h.m;exact b8M _ _ (j0 s) (k9 s g) _ om h.o.n1 V3 (fun D hD=>by
  have hb:=h.bd D hD;have hB:=h.bb;exact ⟨fun i hi=>by have:=hb.v i hi;omega,fun i hi j hj=>by have:=hb.a i hi j hj;omega,fun j hj=>by have:=hb.g j hj;omega⟩)
def a8r {s:m7} {g:List (Int × Rat)} {n B:Nat} (h:I7 s g n B):(s8 s g).length=n:=by unfold s8;rw [am7];exact h.nn
def aj0 {s:m7} {g:List (Int × Rat)} {n B:Nat} (h:I7 s g n B):ec 148 [dT (j0 s).length n (j0 s) (F8 s g)] [] (H9 ((s8 s g).map fz)) []:=by
 have hn:=h.nn;subst hn;exact be7 _ _ _ _ W6.p (by have:=h.m;omega) h.o.n1
def af4 {s:m7} {g:List (Int × Rat)} {n B:Nat} (h:I7 s g n B):BdD (j0 s).length n B (F8 s g):=by
 have hn:=h.nn;subst hn;exact h.bd _ (a3v V3).1
def aS0 {s:m7} {g:List (Int × Rat)} {n B:Nat} (h:I7 s g n B) (H:Hp):a0x Tryz.prog 152 [dT (j0 s).length n (j0 s) (F8 s g),eI s.rows.length] H (.c (.own H.length 0 s.rows.length true)) [flB (rF s.rows.length (a3R s (F8 s g)))]:=by
 have hb:=af4 h;have hp:a03 (j0 s).length n (F8 s g):=by have hn:=h.nn;subst hn;exact W6.p
 refine a0m (b7a s n h.o.en (F8 s g) hp B hb.g h.b1 ?_ (by have:=h.m;omega) h.r h.o.n1) rfl rfl (j2 _);have:=h.bn;have:(n+3)*(B+2)=(n+2)*(B+2)+(B+2):=by rw [show n+3=(n+2)+1 by omega,lbV]
 omega
def Z1 {i m:Nat} (h:i<m):L2 [some m] i=true:=by
 unfold L2;have:Nat.beq m i=false:=by
  cases hb:Nat.beq m i with
  |false=>rfl
  |true=>have:=a1A hb;omega
 rw [this];rfl
def aP4 {m n:Nat} {fr:LB} {D:Fd} {env env':Env} (b:Blk) (hb:L6 b.rows) (hE:a7U [some (m+6)] (Q6 m n fr D.V D.G D.O D.F D.A [b]) env env'):b92 0 [some (m+6)] env (Q6 m n fr D.V D.G D.O D.F D.A [b]) env' [b]:=by
 refine ⟨rfl,?_,a3T rfl fun i k' hk=>?_,hE⟩
 ·simp only [Z5,a5Y];cases b.mode<;>rfl
 ·rcases i with _|i
  ·injection hk with hk;subst hk
   exact ⟨m+6,_,rfl,a2Z (t:=0) (i8 _ _ _),j8 hb⟩
  ·simp at hk
def a59 (s:m7) (g:List (Int × Rat)) (n B:Nat) (h:I7 s g n B) (hout:H8 s g=.best) (hS:∀k,rl (n9 (g.take k) (s8 s g))<=60000) (hpt:∀v ∈ s8 s g,rl v<=40000):
 ec 100 [W8 s,s6 g] [] (.tup [.agg (C.t (ti 0)::frC (fz (n9 g (s8 s g)))++[.t (V7 ((s8 s g).map fz)),.own 0 0 s.rows.length true,.t (.sl 0 .nil [])]),eI 0]) [flB (rF s.rows.length (a3R s (F8 s g)))]:=by
 have hn:=h.nn;have hm:=h.m;have hr1:=h.r;have hgl:=E4 h.o.tg;have hn1:=h.o.n1;have lr:=a90 s h.sb;rw [h.o.r] at lr;have rt:=a0r g s.n (by have:=h.o.n1;omega) h.gb;rw [h.o.en,lbH om,h.o.tg,←h.o.en] at rt;have op:=an1 (bO z8) (aT6 s g n h.o);have se:=a2B h;rw [hout] at se;have m1:(s.rows.map v6).length=s.rows.length:=zq;have pt:=aj0 h;have va:=b9z g (s8 s g) om h.gb hpt hS (by rw [a8r h];omega) (by rw [a8r h];exact h.o.tg);have pr:∀H:Hp,a0x Tryz.prog 152 [dT (j0 s).length n (j0 s) (F8 s g),eI ((s.rows.map v6).length:Nat)] H (.c (.own H.length 0 s.rows.length true)) [flB (rF s.rows.length (a3R s (F8 s g)))]:=by rw [m1];exact aS0 h
 (refine M6 g8 Tryz.func100 rfl de ?_;refine w8 g8 ?_;(conv=>whnf);repeat ((first|refine b0x ?_|refine zy ?_);conv=>whnf))
 repeat' (first|refine zz ?_|refine b0x ?_|apply zD<;>intro h<;>try omega|refine zy ?_|fail)<;>conv=>whnf
 (refine w8 g8 ?_;conv=>whnf)
 repeat' (first|refine zx ?_|apply zD<;>intro h<;>try omega)<;>conv=>whnf
 all_goals try (exfalso;simp_all;done)
 refine B4 g8 ([J,s6 g,S.c (C.t (T.ptr (a1c s))),J,S.c (C.ptr ((j0 s).length+6) 0 0),eI 0,sP 0 0 0]++Jn 71) (Q6 (j0 s).length n (j0 s) (k9 s g).V (k9 s g).G (k9 s g).O (k9 s g).F (k9 s g).A [bO z8]) ?_ ?_
 ·conv=>whnf
  repeat' (first|refine zx ?_|refine .inr ⟨_,_,op,?_⟩|refine G4 ?_|apply zD<;>intro h<;>try omega)<;>conv=>whnf
  exact ⟨_,a9o a4m rfl ⟨rfl,m9 rfl,⟨by rw [z9 om];simp [fS],rz⟩,rfl,⟨by rw [z9 om];simp [fS],rz⟩,trivial⟩⟩
 refine a0f g8 ([J,s6 g,S.c (C.t (T.ptr (a1c s))),J,sP 0 0 0,eI 0,dT (j0 s).length n (j0 s) (F8 s g),eI (-1),eI (-1)]++Jn 69) [bO z8] ?_ ?_
 ·have si:=a7w [bO z8] rfl rfl se;conv=>whnf
  repeat' (first|refine zx ?_|refine .inr ⟨_,_,si,?_⟩|refine i7 ?_|refine bl0 [4] ?_|apply zD<;>intro h<;>try omega)<;>conv=>whnf
  exact ⟨_,aP4 (bO z8) a4m ⟨.inl (m9 rfl),.inl (m9 rfl),.inl rz,.inl rfl,.inr (am8 fun i hi=>Z1 hi),.inl rfl,.inl rfl,trivial⟩⟩
 (refine w8 g8 ?_;conv=>whnf)
 repeat' (first|refine zx ?_|apply zD<;>intro h<;>try omega)<;>conv=>whnf
 all_goals try omega
 (refine w8 g8 ?_;conv=>whnf)
 repeat' (first|refine zx ?_|apply zD<;>intro h<;>try omega)<;>conv=>whnf
 all_goals try omega
 (refine w8 g8 ?_;conv=>whnf)
 repeat' (first|refine zx ?_|apply zD<;>intro h<;>try omega)<;>conv=>whnf
 (refine w8 g8 ?_;conv=>whnf)
 repeat' (first|refine zx ?_|refine bl0 [4] ?_|refine bl0 [5] ?_|apply zD<;>intro h<;>try omega)<;>conv=>whnf
 (refine w8 g8 ?_;conv=>whnf)
 repeat' (first|refine zx ?_|refine .inl ⟨_,_,pr _,?_⟩|apply zD<;>intro h<;>try omega)<;>conv=>whnf
 refine t4 g8 _ ?_;conv=>whnf
 repeat' (first|refine zx ?_|apply zD<;>intro h<;>try omega)<;>conv=>whnf
 exact ⟨[some 2],rfl,rfl,⟨j8 (j2 _),trivial⟩,⟨⟨rfl,rfl,rfl,rfl,rfl,rfl,⟨rfl,rfl,rfl,fun h=>h⟩,rz⟩,rz⟩⟩
def a83 {P:Program} {g:FuncId} {args args':List S} {H H':Hp} {r:S} (h:e8 P g args' H r H') (hl:args.length=args'.length)
 (hw:∀(w:World) (ι:Io) (M:Ms) (j:Nat) (s s':S) (v:Value),args[j]? =some s->args'[j]? =some s'->RS w ι M s v->RS w ι M s' v):e8 P g args H r H':=by
 refine ⟨h.1,fun w ι M vals hl2 hv hH hM hf=>h.2 w ι M vals om (fun j s' hj=>?_) hH hM hf⟩;have jj:=(lbe.1 hj).1;exact hw w ι M j _ s' _ (lbf om) hj (hv j _ (lbf om))
def b8k {s:m7} {n:Nat} (b:Blk) (h:ec 146 [W8 s,s6 []] [] (.c (.ptr 0 0 0)) (a1w (j0 s).length n (j0 s) (k9 s []))):
 ec 146 [W8 s,.c (.t (.sl 0 .nil []))] [b] (.c (.ptr 1 0 0)) (bD8 (j0 s).length n (j0 s) (k9 s []) b):=by
 refine a83 (an1 b h) rfl fun w ι M j x y v hx hy hr=>?_
 rcases j with _|_|j
 ·injection hx with hx;injection hy with hy;subst hx hy;exact hr
 ·injection hx with hx;injection hy with hy;subst hx hy
  cases hr with
  |c hr=>cases hr with
   |t hr=>exact .c (.t (hr.weak rfl))
 ·simp at hx
def ad2 {s:m7} {g:List (Int × Rat)} {n B r:Nat} (h:I7 s g n B) (hr:r<(j0 s).length) (H:Hp):a0x Tryz.prog 150 [dT (j0 s).length n (j0 s) (F8 s g),eI s.rows.length,eI r] H (.c (.own H.length 0 s.rows.length true)) [flB (rF s.rows.length (ah9 s (F8 s g) r))]:=by
 have hb:=af4 h;have hp:a03 (j0 s).length n (F8 s g):=by have hn:=h.nn;subst hn;exact W6.p
 exact a0m (aT2 s n r h.o.en (F8 s g) hp hr B (hb.a r hr) h.b1 h.bn (by have:=h.m;omega) h.r h.o.n1) rfl rfl (j2 _)
def b71 {s:m7} {g:List (Int × Rat)} {n B c:Nat} (h:I7 s g n B) (hc:c<n):ec 149 [dT (j0 s).length n (j0 s) (F8 s g),eI c] [] (H9 ((a6x s g c).map fz)) []:=by
 have hb:=af4 h;have hB:=h.bb;have hn:=h.nn;subst hn;exact bG1 _ _ _ _ c hc W6.p (by have:=h.m;omega) h.o.n1 (fun i hi=>by have:=hb.a i hi c hc;omega)
abbrev bJ9:List C:=frC a0L
def b0E (s:m7) (g:List (Int × Rat)) (n B r:Nat) (h:I7 s g n B) (hout:H8 s g=.row r):
 ec 100 [W8 s,s6 g] [] (.tup [.agg (C.t (ti 1)::bJ9++[.t (.sl 0 .nil []),.own 0 0 s.rows.length true,.t (.sl 0 .nil [])]),eI 0]) [flB (rF s.rows.length (ah9 s (F8 s g) r))]:=by
 have hn:=h.nn;have hm:=h.m;have hr1:=h.r;have hgl:=E4 h.o.tg;have hn1:=h.o.n1;have hrm:r<(j0 s).length:=by have:=(a9O hout).1;exact this
 have lr:=a90 s h.sb;rw [h.o.r] at lr;have rt:=a0r g s.n (by have:=h.o.n1;omega) h.gb;rw [h.o.en,lbH om,h.o.tg,←h.o.en] at rt;have op:=an1 (bO z8) (aT6 s g n h.o);have se:=a2B h;rw [hout] at se;have m1:(s.rows.map v6).length=s.rows.length:=zq;have rf:∀H:Hp,a0x Tryz.prog 150 [dT (j0 s).length n (j0 s) (F8 s g),eI ((s.rows.map v6).length:Nat),eI r] H (.c (.own H.length 0 s.rows.length true)) [flB (rF s.rows.length (ah9 s (F8 s g) r))]:=by rw [m1];exact ad2 h hrm
 (refine M6 g8 Tryz.func100 rfl de ?_;refine w8 g8 ?_;(conv=>whnf);repeat ((first|refine b0x ?_|refine zy ?_);conv=>whnf))
 repeat' (first|refine zz ?_|refine b0x ?_|apply zD<;>intro h<;>try omega|refine zy ?_|fail)<;>conv=>whnf
 (refine w8 g8 ?_;conv=>whnf)
 repeat' (first|refine zx ?_|apply zD<;>intro h<;>try omega)<;>conv=>whnf
 all_goals try (exfalso;simp_all;done)
 refine B4 g8 ([J,s6 g,S.c (C.t (T.ptr (a1c s))),J,S.c (C.ptr ((j0 s).length+6) 0 0),eI 0,sP 0 0 0]++Jn 71) (Q6 (j0 s).length n (j0 s) (k9 s g).V (k9 s g).G (k9 s g).O (k9 s g).F (k9 s g).A [bO z8]) ?_ ?_
 ·conv=>whnf
  repeat' (first|refine zx ?_|refine .inr ⟨_,_,op,?_⟩|refine G4 ?_|apply zD<;>intro h<;>try omega)<;>conv=>whnf
  exact ⟨_,a9o a4m rfl ⟨rfl,m9 rfl,⟨by rw [z9 om];simp [fS],rz⟩,rfl,⟨by rw [z9 om];simp [fS],rz⟩,trivial⟩⟩
 refine a0f g8 ([J,s6 g,S.c (C.t (T.ptr (a1c s))),J,sP 0 0 0,eI 0,dT (j0 s).length n (j0 s) (F8 s g),eI r,eI (-1)]++Jn 69) [bO z8] ?_ ?_
 ·have si:=a7w [bO z8] rfl rfl se;conv=>whnf
  repeat' (first|refine zx ?_|refine .inr ⟨_,_,si,?_⟩|refine i7 ?_|refine bl0 [4] ?_|apply zD<;>intro h<;>try omega)<;>conv=>whnf
  exact ⟨_,aP4 (bO z8) a4m ⟨.inl (m9 rfl),.inl (m9 rfl),.inl rz,.inl rfl,.inr (am8 fun i hi=>Z1 hi),.inl rfl,.inl rfl,trivial⟩⟩
 (refine w8 g8 ?_;conv=>whnf)
 repeat' (first|refine zx ?_|apply zD<;>intro h<;>try omega)<;>conv=>whnf
 all_goals try omega
 (refine w8 g8 ?_;conv=>whnf)
 repeat' (first|refine zx ?_|refine .inl ⟨_,_,rf _,?_⟩|apply zD<;>intro h<;>try omega)<;>conv=>whnf
 all_goals first|omega|exact ⟨[some 1],rfl,rfl,⟨j8 (j2 _),trivial⟩,⟨⟨rfl,rfl,rfl,rfl,rfl,rfl,⟨rfl,rfl,rfl,fun h=>h⟩,rz⟩,rz⟩⟩
def b5V {P:Program} {n0:Nat} {c:Operand} {t e:Code} {env:Env} {H:Hp} {Q:AX->Env->Hp->Prop} (hb:M4 env c=n7 true) (h:Awp P n0 t env H Q):Awp P n0 (.cond c t e) env H Q:=b6w hb h
def aT3 (s:m7) (g:List (Int × Rat)) (n B B0 c:Nat) (h:I7 s g n B) (h0:I7 s [] n B0) (hout:H8 s g=.col c) (hout0:H8 s []=.best):
 ec 100 [W8 s,s6 g] [] (.tup [.agg (C.t (ti 2)::bJ9++[.t (V7 ((s8 s []).map fz)),.t (.sl 0 .nil []),.t (V7 ((a6x s g c).map fz))]),eI 0]) []:=by
 have hn:=h.nn;have hm:=h.m;have hr1:=h.r;have hgl:=E4 h.o.tg;have hn1:=h.o.n1;have hcn:c<n:=by have:=(a74 hout).1;omega
 have lr:=a90 s h.sb;rw [h.o.r] at lr;have rt:=a0r g s.n (by have:=h.o.n1;omega) h.gb;rw [h.o.en,lbH om,h.o.tg,←h.o.en] at rt;have op:=an1 (bO z8) (aT6 s g n h.o);have se:=a2B h;rw [hout] at se;have op0:=b8k (bO z8) (aT6 s [] n h0.o);have se0:=a2B h0;rw [hout0] at se0;have m1:(s.rows.map v6).length=s.rows.length:=zq;have pt:=aj0 h0;have ra:=b71 h hcn
 (refine M6 g8 Tryz.func100 rfl de ?_;refine w8 g8 ?_;(conv=>whnf);repeat ((first|refine b0x ?_|refine zy ?_);conv=>whnf))
 repeat' (first|refine zz ?_|refine b0x ?_|apply zD<;>intro h<;>try omega|refine zy ?_|fail)<;>conv=>whnf
 (refine w8 g8 ?_;conv=>whnf)
 repeat' (first|refine zx ?_|apply zD<;>intro h<;>try omega)<;>conv=>whnf
 all_goals try (exfalso;simp_all;done)
 refine B4 g8 ([J,s6 g,S.c (C.t (T.ptr (a1c s))),J,S.c (C.ptr ((j0 s).length+6) 0 0),eI 0,sP 0 0 0]++Jn 71) (Q6 (j0 s).length n (j0 s) (k9 s g).V (k9 s g).G (k9 s g).O (k9 s g).F (k9 s g).A [bO z8]) ?_ ?_
 ·conv=>whnf
  repeat' (first|refine zx ?_|refine .inr ⟨_,_,op,?_⟩|refine G4 ?_|apply zD<;>intro h<;>try omega)<;>conv=>whnf
  exact ⟨_,a9o a4m rfl ⟨rfl,m9 rfl,⟨by rw [z9 om];simp [fS],rz⟩,rfl,⟨by rw [z9 om];simp [fS],rz⟩,trivial⟩⟩
 refine a0f g8 ([J,s6 g,S.c (C.t (T.ptr (a1c s))),J,sP 0 0 0,eI 0,dT (j0 s).length n (j0 s) (F8 s g),eI (-1),eI c]++Jn 69) [bO z8] ?_ ?_
 ·have si:=a7w [bO z8] rfl rfl se;conv=>whnf
  repeat' (first|refine zx ?_|refine .inr ⟨_,_,si,?_⟩|refine i7 ?_|refine bl0 [4] ?_|apply zD<;>intro h<;>try omega)<;>conv=>whnf
  exact ⟨_,aP4 (bO z8) a4m ⟨.inl (m9 rfl),.inl (m9 rfl),.inl rz,.inl rfl,.inr (am8 fun i hi=>Z1 hi),.inl rfl,.inl rfl,trivial⟩⟩
 refine a9i ?_;refine w8 g8 ?_;conv=>whnf
 repeat' (first|refine zx ?_|apply zD<;>intro h<;>try omega)<;>conv=>whnf
 all_goals try omega
 refine b5V rfl ?_;refine B4 g8 ([J,s6 g,S.c (C.t (T.ptr (a1c s))),J,S.c (C.ptr ((j0 s).length+6) 0 0),eI 0,dT (j0 s).length n (j0 s) (F8 s g),eI (-1),eI c,sP 0 0 0]++Jn 68) (Q6 (j0 s).length n (j0 s) (k9 s []).V (k9 s []).G (k9 s []).O (k9 s []).F (k9 s []).A [bO z8]) ?_ ?_
 ·conv=>whnf
  repeat' (first|refine zx ?_|refine .inr ⟨_,_,op0,?_⟩|refine G4 ?_|apply zD<;>intro h<;>try omega)<;>conv=>whnf
  exact ⟨_,a9o a4m rfl ⟨rfl,m9 rfl,⟨by rw [z9 om];simp [fS],rz⟩,rfl,m9 rfl,rfl,rfl,⟨by rw [z9 om];simp [fS],rz⟩,trivial⟩⟩
 refine a0f g8 ([J,s6 g,S.c (C.t (T.ptr (a1c s))),J,sP 0 0 0,eI 0,dT (j0 s).length n (j0 s) (F8 s g),eI (-1),eI c,dT (j0 s).length n (j0 s) (F8 s []),eI (-1),eI (-1)]++Jn 66) [bO z8] ?_ ?_
 ·have si:=a7w [bO z8] rfl rfl se0;conv=>whnf
  repeat' (first|refine zx ?_|refine .inr ⟨_,_,si,?_⟩|refine i7 ?_|refine bl0 [4] ?_|apply zD<;>intro h<;>try omega)<;>conv=>whnf
  exact ⟨_,aP4 (bO z8) a4m ⟨.inl (m9 rfl),.inl (m9 rfl),.inl rz,.inl rfl,.inl (m9 rfl),.inl rfl,.inl rfl,.inr (am8 fun i hi=>Z1 hi),.inl rfl,.inl rfl,trivial⟩⟩
 refine t4 g8 _ ?_;conv=>whnf
 repeat' (first|refine zx ?_|apply zD<;>intro h<;>try omega)<;>conv=>whnf
 all_goals first|omega|exact ⟨[],rz⟩
def br0 (e:Ev) (hs:e.Sized) (n:Int) (g:FuncId) (caps:List T) (q:C6->Bool) (hg:∀(k:Nat) (m:C6),e.moves[k]? =some m->I4 e=0->ec g (b5M m::caps.map fun x=>.c (.t x)) [] (n7 (q m)) []):
 ec 98 [evS e,eI n,.c (.t (.fn (.func g) caps))] [] (j7 (if I4 e=0 then B7 (fun k m=>decide ((k:Int)<n) && q m) 0 e.moves else [])) []:=by
 have l1:=hs.s2;have l2:(e.moves.map C6.row).length=e.moves.length:=zq;refine ac Tryz.func98 ?_;conv=>whnf
 repeat' (first|refine zx ?_|refine qp (b5m _ hs) ?_|apply zD<;>intro h<;>try omega)<;>conv=>whnf
 ·refine n8 ?_;rw [iC h];exact rfl
 have h0:I4 e=0:=om;rw [iB h0]
 let P:Nat->C6->Bool:=fun k m=>decide ((k:Int)<n) && q m
 refine k6 g8 (fun k=>([J,eI n,S.c (C.t (T.fn (.func g) caps)),sP 0 0 0,J,J,J,a1P 1 (X4 P e.moves k),J,J,J,J,J,J,S.c (C.t (a5q e.moves)),eI e.moves.length,eI k]++Jn 18,[evB e,y3 (X4 P e.moves k)])) e.moves.length (fun k=>True) [some 0,none] trivial
  ⟨rfl,rfl,⟨⟨rfl,rfl,rfl,.inl ⟨rfl,F3 e⟩⟩,rz⟩,⟨rfl,rfl,rz,rz,m9 rfl,g9 zq,g9 rfl,trivial⟩⟩ ?_
 intro k hk hI;conv=>whnf
 repeat' (first|refine zx ?_|apply zD<;>intro h<;>try omega)<;>conv=>whnf
 ·have jj:k<e.moves.length:=by omega
  have ⟨x,hx⟩:=iA jj;refine j4 hx ?_;conv=>whnf
  have hpl:=a7K P e.moves k;have ha:(b5M x::caps.map fun x=>S.c (C.t x)).all S.isT=true:=by simp [S.isT,C.isT,C6.cs,C6.row]
  repeat' (first|refine zx ?_|refine .inl ⟨_,_,I8 (hg k x hx h0) ha rfl,?_⟩|refine zz ?_|refine v8 zt zu ?_|apply zD<;>intro h<;>try omega)<;>conv=>whnf
  ·have hP:P k x=true:=by simp [P,h];omega
   refine ⟨jj,trivial,[some 0,some 3],rfl,rfl,⟨⟨rfl,rfl,rfl,.inl ⟨rfl,F3 e⟩⟩,i6 rfl rfl rfl ?_ rfl,trivial⟩,⟨rfl,rfl,rz,t6 rfl ?_,rz⟩⟩
   ·rw [a5u P hx hP,lbC];exact (congrArg (fun n=>List.take n (toC ((X4 P e.moves k).map j3))++toC [[ti k]]) zq).trans b1h
   ·rw [a5u P hx hP];simp [toC]
  all_goals
   have hP:P k x=false:=by simp [P];first|(intro hq;omega)|(intro _;assumption)
   refine ⟨jj,trivial,[some 0,some 1],rfl,rfl,⟨⟨rfl,rfl,rfl,.inl ⟨rfl,F3 e⟩⟩,i6 rfl rfl rfl ?_ rfl,trivial⟩,⟨rfl,rfl,rz,t6 rfl ?_,rz⟩⟩
   ·rw [a2O P hx hP]
   ·rw [a2O P hx hP]
 ·have hk':B7 P 0 e.moves=X4 P e.moves k:=(at9 P om).symm;show Fin 0 _ _ (j7 (B7 P 0 e.moves)) [];rw [hk'];exact N6 rfl zi rfl rfl zq
abbrev a6K (n:Int):T:=.ptr [ti n]
def b5Z (e:Ev) (hs:e.Sized) (h0:I4 e=0) (m:C6) (hm:m ∈ e.moves) (hh mat lo hi:Int):
 ec 99 (b5M m::[T.ptr (evT e),a6K hh,a6K mat,a6K lo,a6K hi].map fun x=>.c (.t x)) [] (n7 (a5D e hh mat lo hi m)) []:=by
 have l1:=hs.s1;have l2:(e.places.map a0y.row).length=e.places.length:=zq;have hmk:=T2 h0 hm;have h1:=a1H hmk;obtain ⟨x,hx⟩:∃x,e.places[m.src.toNat]? =some x:=⟨_,lbf om⟩;refine ac Tryz.func99 ?_;conv=>whnf
 repeat' (first|refine zx ?_|refine qp (a4v _ _ _) ?_|refine K6 h1.1 hx ?_|apply zD<;>intro<;>try omega)<;>conv=>whnf
 all_goals (refine j6 ?_;unfold a5D;rw [hx];simp_all;done)
def b47 (e:Ev) (hs:e.Sized) (hh mat lo hi:Int):ec 72 [evS e,eI hh,eI mat,eI lo,eI hi] [] (j7 (J6 e hh mat lo hi)) []:=by
 have l1:=hs.s2;have l2:(e.moves.map C6.row).length=e.moves.length:=zq
 (refine ac Tryz.func72 ?_;(conv=>whnf);repeat (refine zy ?_;conv=>whnf))
 refine .inr ⟨_,_,C9 [0,1,2,3,4] (br0 e hs (e.moves.map C6.row).length 99 [T.ptr (evT e),a6K hh,a6K mat,a6K lo,a6K hi] (a5D e hh mat lo hi) fun k m hm h0=>b5Z e hs h0 m (lbm hm) hh mat lo hi)
  ⟨bV0 e,aZ8,a2f (bU0 ?_),trivial⟩ rfl,?_⟩
 ·refine a7e (as9 zq rfl zi rfl rfl) (a7e (as9 zq rfl zi rfl rfl) (a7e (as9 zq rfl zi rfl rfl) (a7e (as9 zq rfl zi rfl rfl) (a7e (as9 zq rfl zi rfl rfl) bf7))))
 conv=>whnf
 repeat' (first|refine zx ?_|apply zD<;>intro h<;>try omega|fail)<;>conv=>whnf
 refine n8 ?_;have:(if I4 e=0 then B7 (fun k m=>decide ((k:Int)<(e.moves.map C6.row).length) && a5D e hh mat lo hi m) 0 e.moves else [])=J6 e hh mat lo hi:=by
  unfold J6;split
  ·refine as2 _ e.moves.length (fun k m hk=>?_) 0 om;simp;intro _;omega
  ·rfl
 rw [← this];exact rfl
def b1F (A:Nat->List T) (g:Nat->LI) (B:Nat->List T) (id:Nat) (i:Nat):List C:=(A i).map .t++.own id 0 (g i).length true::(B i).map .t
def a4s (n:Nat) (A:Nat->List T) (g:Nat->LI) (B:Nat->List T):List (List C):=(List.range n).map fun i=>b1F A g B (i+1) i
def bF1 (el:TypeId) (size n:Nat) (A:Nat->List T) (g:Nat->LI) (B:Nat->List T):Blk:={ mode:=.live,elem:=el,size:=size,rows:=a4s n A g B,box:=false }
def a1d (el:TypeId) (size n:Nat) (A:Nat->List T) (g:Nat->LI) (B:Nat->List T):Hp:=bF1 el size n A g B::(List.range n).map fun i=>y3 (g i)
def a1Z {n:Nat} {A:Nat->List T} {g:Nat->LI} {B:Nat->List T}:(a4s n A g B).length=n:=by simp [a4s]
def a4J {n i:Nat} {A:Nat->List T} {g:Nat->LI} {B:Nat->List T} (h:i<n):(a4s n A g B)[i]? =some (b1F A g B (i+1) i):=by simp [a4s,h]
def a9S {el:TypeId} {size n:Nat} {A:Nat->List T} {g:Nat->LI} {B:Nat->List T}:(a1d el size n A g B).length=n+1:=by simp [a1d]
def aj1 (n j N:Nat):List (Option Nat):=(List.range (n+1)).map fun i=>some (if i=j+1 then N else i)
def a19 {n j N i:Nat} (h:i<n+1):(aj1 n j N)[i]? =some (some (if i=j+1 then N else i)):=by simp [aj1,h]
def aO5 {n j N:Nat}:(aj1 n j N).length=n+1:=by simp [aj1]
def U4 {ρ:List (Option Nat)} {H:Hp}:∀l:List T,a5c ρ H (l.map C.t) (l.map C.t)
 |[]=>trivial
 |x::r=>⟨a1Q x,U4 r⟩
def a6d {ρ:List (Option Nat)} {H:Hp}:∀{a b c d:List C},a5c ρ H a b->a5c ρ H c d->a5c ρ H (a++c) (b++d)
 |[],[],_,_,_,h=>h
 |x::a,y::b,_,_,h1,h2=>⟨h1.1,a6d h1.2 h2⟩
 |[],_::_,_,_,h,_=>h.elim
 |_::_,[],_,_,h,_=>h.elim
def a8N {ρ:List (Option Nat)} {H:Hp}:∀{xs ys:List (List C)},xs.length=ys.length->(∀ (i:Nat) (x y:List C),xs[i]? =some x->ys[i]? =some y->a5c ρ H x y)->a4Y ρ H xs ys
 |[],[],_,_=>trivial
 |[],_::_,h,_=>by simp at h
 |_::_,[],h,_=>by simp at h
 |x::xs,y::ys,h,hh=>⟨hh 0 x y rfl rfl,a8N (by simpa using h) fun i a b ha hb=>hh (i+1) a b (by simpa using ha) (by simpa using hb)⟩
def a6j (g:Nat->LI) (j:Nat) (l:LI):Nat->LI:=fun i=>if i=j then l else g i
def b8y {el:TypeId} {size n j N:Nat} {A:Nat->List T} {g:Nat->LI} {B:Nat->List T} {l:LI} {env env':Env} {H:Hp} {k0:Blk} (hj:j<n) (hnN:n<N)
 (h0:H[0]? =some k0) (hk0:k0.mode=.live/\k0.app=false/\k0.elem=el/\k0.size=size) (hr:k0.rows=(a4s n A g B).set j ((A j).map .t++.own N 0 l.length true::(B j).map .t))
 (hm:∀m,m<n->m≠j->H[m+1]? =some (y3 (g m))) (hN:H[N]? =some (y3 l)) (hE:a0A (aj1 n j N) H env env'):Ent 0 (aj1 n j N) env H env' (a1d el size n A (a6j g j l) B):=by
 refine ⟨rfl,a1K fun a b m h1 h2=>?_,a3T (by rw [aO5,a9S]) fun i k' hk=>?_,hE⟩
 ·have ha:=(lbe.1 h1).1;have hb:=(lbe.1 h2).1;rw [aO5] at ha hb;rw [a19 ha] at h1;rw [a19 hb] at h2;simp only [lb5] at h1 h2;split at h1<;>split at h2<;>omega
 ·have hi:=(lbe.1 hk).1;rw [a9S] at hi;refine ⟨if i=j+1 then N else i,?_⟩;cases i with
  |zero=>
   refine ⟨k0,a19 hi,by simpa using h0,?_⟩;simp [a1d] at hk;subst hk;have ⟨q1,q2,q3,q4⟩:=hk0;refine ⟨by unfold a45;rw [q1,q2];rfl,q3,q4,.inr ?_⟩;rw [hr];refine a8N (by rw [List.length_set,a1Z];exact a1Z.symm) fun a x y hx hy=>?_
   have han:a<n:=by have:=(lbe.1 hy).1;rw [show (bF1 el size n A (a6j g j l) B).rows=a4s n A (a6j g j l) B from rfl,a1Z] at this;exact this
   have hy:(a4s n A (a6j g j l) B)[a]? =some y:=hy;rw [a4J han] at hy;injection hy with hy;subst hy;rw [lbg,a1Z] at hx;by_cases haj:j=a
   ·subst haj;rw [iB rfl,iB hj] at hx;injection hx with hx;subst hx;unfold b1F;have e1:a6j g j l j=l:=by simp [a6j]
    rw [e1];refine a6d (U4 _) ⟨⟨?_,rfl,rfl,fun h=>h⟩,U4 _⟩;rw [a19 om,iB rfl]
   ·rw [iC haj,a4J han] at hx;injection hx with hx;subst hx;unfold b1F;have e1:a6j g j l a=g a:=by unfold a6j;rw [iC (fun h=>haj h.symm)]
    rw [e1];refine a6d (U4 _) ⟨⟨?_,rfl,rfl,fun h=>h⟩,U4 _⟩;rw [a19 om,iC om]
  |succ i=>
   have hin:i<n:=om;have hk:((List.range n).map fun i=>y3 (a6j g j l i))[i]? =some k':=hk;rw [lba,lbh hin] at hk;injection hk with hk;subst hk;by_cases hij:i=j
   ·subst hij;refine ⟨y3 l,a19 hi,by rw [iB rfl];exact hN,?_⟩;have e1:a6j g i l i=l:=by simp [a6j]
    show a3o _ _ _ (y3 (a6j g i l i));rw [e1];exact ⟨rfl,rfl,rfl,.inl ⟨rfl,j2 _⟩⟩
   ·refine ⟨y3 (g i),a19 hi,by rw [iC om];exact hm i hin hij,?_⟩;have e1:a6j g j l i=g i:=by unfold a6j;rw [iC hij]
    show a3o _ _ _ (y3 (a6j g j l i));rw [e1];exact ⟨rfl,rfl,rfl,.inl ⟨rfl,j2 _⟩⟩
def b3u (id n:Nat):List (Option Nat):=some id::List.replicate n none
def b1s {ρ:List (Option Nat)} {H:Hp}:∀{n:Nat} {R:List Blk},R.length=n->(∀ k ∈ R,k.rows=[]/\k.mode=.live)->a4w ρ H (List.replicate n none) R
 |0,[],_,_=>trivial
 |n+1,k::R,h,hh=>⟨hh k zq,b1s (by simpa using h) fun k hk=>hh k (by simp [hk])⟩
 |0,_::_,h,_=>by simp at h
 |n+1,[],h,_=>by simp at h
def av6 {H:Hp}:∀{n:Nat},Z5 (List.replicate n none) H=true
 |0=>by cases H<;>rfl
 |n+1=>by
  rw [aV3];cases H with
  |nil=>rfl
  |cons k H=>exact av6 (H:=H)
def aJ8 {m:Nat}:∀{n:Nat} {H:Hp},a5Y m (List.replicate n none) H=false
 |0,H=>by cases H<;>rfl
 |n+1,[]=>rfl
 |n+1,k::H=>by
  rw [aV3];unfold a5Y;rw [aJ8];cases k.mode<;>rfl
def bp8 {el:TypeId} {size n id:Nat} {A B:Nat->List T} {env env':Env} {H:Hp} {k0:Blk} {s:Nat}
 (h0:H[id]? =some k0) (hk0:k0.mode=.live/\k0.app=false/\k0.elem=el/\k0.size=size) (hr:k0.rows=(List.range n).map fun i=>(A i).map .t++.t (.sl s .nil [])::(B i).map .t)
 (hE:a0A (b3u id n) H env env'):Ent 0 (b3u id n) env H env' (a1d el size n A (fun _=>[]) B):=by
 have ⟨q1,q2,q3,q4⟩:=hk0;refine ⟨rfl,?_,⟨?_,?_⟩,hE⟩
 ·unfold b3u a1d Z5;rw [aJ8,av6]
  rfl
 ·simp only [h0];refine ⟨by unfold a45;rw [q1,q2];rfl,q3,q4,.inr ?_⟩;rw [hr];refine a8N (by rw [show (bF1 el size n A (fun _=>[]) B).rows=a4s n A (fun _=>[]) B from rfl,a1Z];simp) fun a x y hx hy=>?_
  have han:a<n:=by have:=(lbe.1 hx).1;simpa using this
  have hy:(a4s n A (fun _=>[]) B)[a]? =some y:=hy;rw [a4J han] at hy;injection hy with hy;subst hy;rw [lba,lbh han] at hx;injection hx with hx;subst hx;unfold b1F;refine a6d (U4 _) ⟨⟨?_,rz⟩,U4 _⟩;show (b3u id n)[a+1]? =some none;unfold b3u;rw [List.getElem?_cons_succ,lbk,iB han]
 ·refine b1s zq fun k hk=>?_
  obtain ⟨i,_,rfl⟩:=lbx.1 hk;exact rz
def b9J {el:TypeId} {size n:Nat} {A:Nat->List T} {g:Nat->LI} {B:Nat->List T} {env env':Env}
 (hE:a0A [some 0] (a1d el size n A g B) env env'):Ent 0 [some 0] env (a1d el size n A g B) env' [{ mode:=.live,elem:=el,size:=size,rows:=toC ((List.range n).map fun i=>A i++w5 (g i)::B i),box:=false }]:=by
 refine ⟨rfl,rfl,⟨⟨rfl,rfl,rfl,.inr ?_⟩,trivial⟩,hE⟩;show a4Y _ _ (a4s n A g B) (toC _);refine a8N (by rw [a1Z];simp [toC]) fun a x y hx hy=>?_
 have han:a<n:=by have:=(lbe.1 hx).1;rw [a1Z] at this;exact this
 rw [a4J han] at hx;injection hx with hx;subst hx;have hy:(((List.range n).map fun i=>A i++w5 (g i)::B i).map (·.map C.t))[a]? =some y:=hy;rw [lba,lba,lbh han] at hy;injection hy with hy;subst hy;show a5c _ _ _ ((A a++w5 (g a)::B a).map C.t);rw [lbC,az3];unfold b1F;refine a6d (U4 _) ⟨?_,U4 _⟩;have hk:(a1d el size n A g B)[a+1]? =some (y3 (g a)):=by simp [a1d,han]
 exact show VC _ _ _ _ from v7 (by simp [L2];rfl) hk zi rfl rfl zq
def b8l {el:TypeId} {size n:Nat} {A:Nat->List T} {g:Nat->LI} {B:Nat->List T}:∀k ∈ a1d el size n A g B,okB (n+1) k:=by
 intro k hk;rcases lbA.1 hk with rfl|hk
 ·intro r hr c hc;obtain ⟨i,hi,rfl⟩:=lbx.1 hr;have hi:=lbB.1 hi;unfold b1F at hc;rcases lbz.1 hc with hc|hc
  ·obtain ⟨x,_,rfl⟩:=lbx.1 hc;trivial
  ·rcases lbA.1 hc with rfl|hc
   ·show i+1<n+1;omega
   ·obtain ⟨x,_,rfl⟩:=lbx.1 hc;trivial
 ·obtain ⟨i,_,rfl⟩:=lbx.1 hk;exact A8 rfl
def b6k {el:TypeId} {size n:Nat} {A:Nat->List T} {g:Nat->LI} {B:Nat->List T} {env env':Env} {R:Hp} (hE:a0A (idR (n+1)) (a1d el size n A g B++R) env env'):Ent 0 (idR (n+1)) env (a1d el size n A g B++R) env' (a1d el size n A g B):=
 b30 a9S (G0 _) b8l hE
def bC6 (h:Fr) (b:Bool) (gs:LI) (n:Int):List T:=[ti h.p.sg,w5 h.p.dl,ti h.q.sg,w5 h.q.dl,tb b,w5 gs,ti n]
def hiF (o:Option (Rat × Rat)):Fr:=match o with
 |some (_,hi)=>fz hi
 |none=>a0L
def a63 (e:Ev) (i:Nat):Option (Rat × Rat):=match e.moves[i]? with
 |some x=>R3 e x
 |none=>none
def aS8 {e:Ev} {i:Nat} {x:C6} (h:e.moves[i]? =some x):a63 e i=R3 e x:=by unfold a63;rw [h]
def a7f (t:j9) (kind:Int) (i:Nat):List T:=bC6 (hiF (a63 t.ev i)) (a63 t.ev i).isSome (z7 t.finds kind i) (F2 t.cleans kind i)
abbrev aR9 (t:j9) (kind:Int):T:=.sl 7 .any ((List.range t.ev.moves.length).map (a7f t kind))
def kn1 (e:Ev) (k i:Nat):List T:=
 let h:=if i<k then hiF (a63 e i) else a0L
 [ti h.p.sg,w5 h.p.dl,ti h.q.sg,w5 h.q.dl,tb (decide (i<k) && (a63 e i).isSome),.sl 0 .nil [],ti 0]
abbrev knB (rows:List (List T)):Blk:={ mode:=.live,elem:=123,size:=7,rows:=toC rows,box:=false }
def b0D {e:Ev} {k i:Nat} (h:i≠k):kn1 e (k+1) i=kn1 e k i:=by
 unfold kn1;by_cases h1:i<k
 ·simp only [iB h1,iB (show i<k+1 by omega),h1,show i<k+1 by omega]
 ·simp only [iC h1,iC (show ¬i<k+1 by omega),h1,show ¬i<k+1 by omega]
def b4M {e:Ev} {k n:Nat} (h:k<n):(toC ((List.range n).map (kn1 e k))).set k ((kn1 e (k+1) k).map C.t)=toC ((List.range n).map (kn1 e (k+1))):=by
 apply a16;intro i;unfold toC;rw [lbg,lba,lba,lba];by_cases hi:k=i
 ·subst hi;rw [iB rfl];simp [h]
 ·rw [iC hi,lba];cases hr:(List.range n)[i]? with
  |none=>rfl
  |some j=>
   have:j=i:=by
    have ⟨h1,h2⟩:=lbe.1 hr;simp at h2;omega
   subst this;show some ((kn1 e k j).map C.t)=some ((kn1 e (k+1) j).map C.t);rw [b0D (fun h=>hi h.symm)]
def b0o {e:Ev} {k:Nat} (h:a63 e k=none):kn1 e (k+1) k=kn1 e k k:=by
 unfold kn1;simp only [iB (show k<k+1 by omega),iC (show ¬k<k by omega),h];simp [hiF]
def aZ5 {e:Ev} {k n:Nat} (h:a63 e k=none):(List.range n).map (kn1 e (k+1))=(List.range n).map (kn1 e k):=lbp fun i _=>by
 by_cases hi:i=k
 ·subst hi;exact b0o h
 ·exact b0D hi
def b8J {e:Ev} {n:Nat} {ρ:List (Option Nat)} {H:Hp}:a4Y ρ H (List.replicate n [C.t (ti 0),C.t (.sl 0 .nil []),C.t (ti 0),C.t (.sl 0 .nil []),C.t (tb false),C.t (.sl 0 .nil []),C.t (ti 0)]) (toC ((List.range n).map (kn1 e 0))):=by
 refine a8N zt fun i x y hx hy=>?_
 have hi:i<n:=by have:=(lbe.1 hx).1;simpa using this
 rw [lbk,iB hi] at hx;injection hx with hx;subst hx;unfold toC at hy;rw [lba,lba,lbh hi] at hy;injection hy with hy;subst hy;show a5c _ _ _ ((kn1 e 0 i).map C.t);unfold kn1;simp only [iC (show ¬i<0 by omega)];exact rz
def knA (e:Ev) (i:Nat):List T:=[ti (hiF (a63 e i)).p.sg,w5 (hiF (a63 e i)).p.dl,ti (hiF (a63 e i)).q.sg,w5 (hiF (a63 e i)).q.dl,tb (a63 e i).isSome]
def L3 (t:j9) (kind:Int) (k i:Nat):LI:=z7 (t.finds.take k) kind i
def a8U (l:List Q4) (f:Q4) (kind:Int) (i:Nat):z7 (l++[f]) kind i=if f.kind=kind/\f.mv=(i:Int) then z7 l kind i++[f.grams] else z7 l kind i:=by
 rw [a8I];split<;>simp
def a0H {α:Type} {l:List α} {k:Nat} {x:α} (h:l[k]? =some x):l.take (k+1)=l.take k++[x]:=by rw [lbG,h];rfl
def kn3 (t:j9) (kind:Int) (k i:Nat):List T:=knA t.ev i++w5 (z7 t.finds kind i)::[ti (F2 (t.cleans.take k) kind i)]
def bM6 (t:j9) (kind:Int) (k i:Nat):F2 (t.cleans.take k) kind i<=t.cleans.length:=lbS (lbt _ _) zo
def bp1 {t:j9} {kind:Int} {n:Nat}:(List.range n).map (kn3 t kind t.cleans.length)=(List.range n).map (a7f t kind):=lbp fun i _=>by
 unfold kn3;rw [lbn (lbR _)];rfl
def b89 {t:j9} {kind:Int} {n k:Nat} {c:H5} (h:t.cleans[k]? =some c) (hk:c.kind≠kind):(List.range n).map (kn3 t kind (k+1))=(List.range n).map (kn3 t kind k):=lbp fun i _=>by
 unfold kn3;rw [a0H h,a25,iC (fun h=>hk h.1)];rfl
def bw9 {t:j9} {kind:Int} {n k m:Nat} {c:H5} (hm:m<n) (h:t.cleans[k]? =some c) (hk:c.kind=kind) (hmv:c.mv=m):
 (toC ((List.range n).map (kn3 t kind k))).set m ((knA t.ev m++w5 (z7 t.finds kind m)::[ti ((F2 (t.cleans.take k) kind m:Int)+1)]).map C.t)=toC ((List.range n).map (kn3 t kind (k+1))):=by
 have key:∀i,i<n->i≠m->kn3 t kind (k+1) i=kn3 t kind k i:=fun i _ hi=>by
  unfold kn3;rw [a0H h,a25,iC (fun h=>hi om)];rfl
 have own:kn3 t kind (k+1) m=knA t.ev m++w5 (z7 t.finds kind m)::[ti ((F2 (t.cleans.take k) kind m:Int)+1)]:=by
  unfold kn3;rw [a0H h,a25,iB ⟨hk,hmv⟩];rfl
 rw [← own];unfold toC;rw [← a67]
 congr 1
 apply a16;intro i;simp only [lbg,lba,lbr,List.length_range];by_cases hi:m=i
 ·subst hi;simp [hm]
 ·rw [iC hi];by_cases hin:i<n
  ·rw [lbh hin];show some _=some _;rw [key i hin (fun h=>hi h.symm)]
  ·rw [lbd zo];rfl
def be8 {l:LI} {x:Int}:List.take l.length (toC (l.map j3))++toC [[ti x]]=toC ((l++[x]).map j3):=by
 rw [lbn zt];simp [toC,j3]
def bp5 (t:j9) (kind:Int) (hs:t.Sized) (h0:I4 t.ev=0) (hf:∀f ∈ t.finds,0<=f.mv/\f.mv<t.ev.moves.length) (hc:∀c ∈ t.cleans,0<=c.mv/\c.mv<t.ev.moves.length):
 ec 60 [trS t,eI kind] [] (.c (.t (aR9 t kind))) []:=by
 have ⟨b1,b2,b3,b4⟩:=a1k h0;have l1:=hs.f;have l2:=hs.c;have m0:(t.ev.moves.map C6.row).length=t.ev.moves.length:=zq;have m1:(t.finds.map Q4.row).length=t.finds.length:=zq;have m2:(t.cleans.map H5.row).length=t.cleans.length:=zq;have s3:=hs.ev.s3;have s4:=hs.ev.s4
 (refine ac Tryz.func60 ?_;(conv=>whnf);repeat ((first|refine b0x ?_|refine zy ?_);conv=>whnf))
 repeat' (first|refine zx ?_|refine a2y om om om de ?_|apply zD<;>intro h<;>try omega)<;>conv=>whnf
 refine k6 g8 (fun k=>([J,eI kind,S.c (C.t (T.ptr (trT t))),J,J,sP 0 0 0,S.c (C.own 1 0 t.ev.moves.length true)]++Jn 13++[S.c (C.t (a5q t.ev.moves)),eI t.ev.moves.length,eI k]++Jn 80,[evB t.ev,knB ((List.range t.ev.moves.length).map (kn1 t.ev k))])) t.ev.moves.length tT [some 0,some 1] trivial ?_ ?_
 ·refine ⟨rfl,rfl,⟨⟨rfl,rfl,rfl,.inl ⟨rfl,F3 _⟩⟩,⟨rfl,rfl,rfl,.inr ?_⟩,trivial⟩,⟨rfl,rfl,rz,⟨rfl,rfl,?_,fun h=>h⟩,rfl,g9 zq,rz⟩⟩
  ·have e9:((((t.ev.moves.map C6.row).length:Nat):Int)).toNat=t.ev.moves.length:=by omega
   rw [← e9];exact b8J
  ·omega
 intro k hk _;by_cases jj:k<t.ev.moves.length
 ·have ⟨x,hx⟩:=iA jj;have iv:=b3F t.ev.certs t.ev.recalls om om x.scale x.reading x.day;have eK:0+(k:Int).toNat=k:=om;have hk0:(List.range t.ev.moves.length)[0+(k:Int).toNat]? =some k:=by rw [eK,lbh jj]
  have gs:∀c,((knB ((List.range t.ev.moves.length).map (kn1 t.ev k))).rows.set (0+(k:Int).toNat) c)[0+(k:Int).toNat]? =some c:=fun c=>by
   rw [List.getElem?_set_self];show _<(toC _).length;simp [toC];omega
  by_cases hsc:x.scale=-1
  ·have hn:a63 t.ev k=none:=by rw [aS8 hx];unfold R3;rw [iB hsc]
   have e1:=aZ5 (n:=t.ev.moves.length) hn;conv=>whnf
   repeat' (first|refine zx ?_|refine j4 hx ?_|apply zD<;>intro h<;>try omega)<;>conv=>whnf
   all_goals try omega
   refine ⟨jj,trivial,[some 0,some 1],rfl,rfl,⟨⟨rfl,rfl,rfl,.inl ⟨rfl,F3 _⟩⟩,i6 rfl rfl rfl ?_ rfl,trivial⟩,⟨rfl,rfl,rz,⟨rfl,rfl,rfl,fun h=>h⟩,rz⟩⟩;rw [e1]
  ·have hiv:a63 t.ev k=S5 t.ev.certs t.ev.recalls x.scale x.reading x.day:=by rw [aS8 hx];unfold R3;rw [iC hsc]
   rw [← hiv] at iv;cases hi:a63 t.ev k with
   |none=>
    rw [hi] at iv;have er:(kn1 t.ev (k+1) k).map C.t=frC a0L++[C.t (tb false),C.t (.sl 0 .nil []),C.t (ti 0)]:=by rw [b0o hi];simp [kn1]
    conv=>whnf
    repeat' (first|refine zx ?_|refine j4 hx ?_|refine z6 hk0 ?_|refine ⟨_,gs _,?_⟩|refine bl0 [2,3,18] ?_|apply zD<;>intro h<;>try omega)<;>conv=>whnf
    all_goals try omega
    refine ⟨jj,trivial,[some 0,some 1],rfl,rfl,⟨⟨rfl,rfl,rfl,.inl ⟨rfl,F3 _⟩⟩,i6 rfl rfl rfl ?_ rfl,trivial⟩,⟨rfl,rfl,rz,⟨rfl,rfl,rfl,fun h=>h⟩,rz⟩⟩;have e2:=b4M (e:=t.ev) jj;rw [er] at e2;rw [← e2];show ((toC _).set (0+(k:Int).toNat) _).set (0+(k:Int).toNat) _=_;rw [List.set_set,eK]
    rfl
   |some p=>
    have ⟨lo,hi'⟩:=p;rw [hi] at iv;have er:(kn1 t.ev (k+1) k).map C.t=frC (fz hi')++[C.t (tb true),C.t (.sl 0 .nil []),C.t (ti 0)]:=by simp [kn1,hi,hiF]
    conv=>whnf
    repeat' (first|refine zx ?_|refine j4 hx ?_|refine z6 hk0 ?_|refine ⟨_,gs _,?_⟩|refine bl0 [2,3,18] ?_|apply zD<;>intro h<;>try omega)<;>conv=>whnf
    all_goals try omega
    refine ⟨jj,trivial,[some 0,some 1],rfl,rfl,⟨⟨rfl,rfl,rfl,.inl ⟨rfl,F3 _⟩⟩,i6 rfl rfl rfl ?_ rfl,trivial⟩,⟨rfl,rfl,rz,⟨rfl,rfl,rfl,fun h=>h⟩,rz⟩⟩;have e2:=b4M (e:=t.ev) jj;rw [er] at e2;rw [← e2];show ((toC _).set (0+(k:Int).toNat) _).set (0+(k:Int).toNat) _=_;rw [List.set_set,eK]
    rfl
 ·conv=>whnf
  repeat' (first|refine zx ?_|apply zD<;>intro h<;>try omega)<;>conv=>whnf
  all_goals try omega
  have e0:L3 t kind 0=fun _=>[]:=by funext i;simp [L3,z7]
  refine k6 g8 (fun k=>([J,eI kind,S.c (C.t (T.ptr (trT t))),J,J,J,S.c (C.own 0 0 t.ev.moves.length true)]++Jn 48++[S.c (C.t (ac7 t.finds)),eI t.finds.length,eI k]++Jn 45,a1d 123 7 t.ev.moves.length (knA t.ev) (L3 t kind k) (fun _=>[ti 0]))) t.finds.length tT (b3u 1 t.ev.moves.length) trivial ?_ ?_
  ·have hke:k=t.ev.moves.length:=by omega
   subst hke;refine (?_:Ent 0 (b3u 1 t.ev.moves.length) _ _ _ (a1d 123 7 t.ev.moves.length (knA t.ev) (L3 t kind 0) (fun _=>[ti 0])));rw [e0];refine bp8 (k0:=knB ((List.range t.ev.moves.length).map (kn1 t.ev t.ev.moves.length))) (s:=0) rfl rz ?_ ?_
   ·show toC _=_;unfold toC;rw [a75];refine lbp fun i hi=>?_
    have:=lbB.1 hi;simp [kn1,knA,this]
   ·exact ⟨rfl,rfl,⟨rfl,rfl,rfl,fun h=>h⟩,m9 rfl,g9 zq,rz⟩
  intro j hj _;by_cases hjt:j<t.finds.length
  ·have ⟨f,hfj⟩:=iA hjt;have ⟨f1,f2⟩:=hf f (lbm hfj);obtain ⟨m,hm⟩:∃m:Nat,f.mv=m:=⟨f.mv.toNat,om⟩;have hmn:m<t.ev.moves.length:=om;have eM:0+f.mv.toNat=m:=om;have rL:(List.range t.ev.moves.length).length=t.ev.moves.length:=zq;have rG:(List.range t.ev.moves.length)[m]? =some m:=lbh hmn;have gR:(a4s t.ev.moves.length (knA t.ev) (L3 t kind j) (fun _=>[ti 0]))[0+f.mv.toNat]? =some (b1F (knA t.ev) (L3 t kind j) (fun _=>[ti 0]) (m+1) m):=by rw [eM];exact a4J hmn
   have gl:(L3 t kind j m).length<=t.finds.length:=by
    unfold L3 z7;rw [lbr];exact lbS (lbt _ _) zo
   have hbox:∀(fB:Nat->Blk) (dead nb fb:Blk),(((((List.range t.ev.moves.length).map fB++[fb]).set m dead)++[nb])[t.ev.moves.length]?)=some fb:=fun fB dead nb fb=>by
    rw [lbb zq,lbg,iC om,lbc zq];simp
   have hnew:∀(fB:Nat->Blk) (dead nb fb:Blk),(((((List.range t.ev.moves.length).map fB++[fb]).set m dead)++[nb])[t.ev.moves.length+1]?)=some nb:=fun fB dead nb fb=>by
    rw [lbc zq];simp
   have hold:∀(fB:Nat->Blk) (dead nb fb:Blk) (p:Nat),p<t.ev.moves.length->p≠m->(((((List.range t.ev.moves.length).map fB++[fb]).set m dead)++[nb])[p]?)=some (fB p):=fun fB dead nb fb p hp hpm=>by
    rw [lbb zo,lbg,iC om,lbb (by simpa using hp),lba,lbh hp];rfl
   by_cases hkd:f.kind=kind
   ·conv=>whnf
    repeat' (first|refine zx ?_|refine j4 hfj ?_|refine i9 rL ?_|refine a6T rL ?_|refine G4 ?_|refine a52 ?_|refine ⟨_,gR,?_⟩|refine al4 (hbox _ _ _ _) ?_|refine J9 rG ?_|refine b0P rG ?_|refine s9 rL ?_|refine j1 rL ?_|refine C5 rL ?_|refine k5 rL ?_|refine aW1 ?_|refine v8 zt zu ?_|refine bl0 [0,1,2] ?_|apply zD<;>intro h<;>try omega)<;>conv=>whnf
    all_goals try omega
    refine ⟨hjt,trivial,aj1 t.ev.moves.length m (t.ev.moves.length+2),?_⟩;refine (?_:Ent 0 (aj1 t.ev.moves.length m (t.ev.moves.length+2)) _ _ _ (a1d 123 7 t.ev.moves.length (knA t.ev) (L3 t kind (j+1)) (fun _=>[ti 0])));have eg:L3 t kind (j+1)=a6j (L3 t kind j) m (L3 t kind j m++[f.grams]):=by
     funext i;unfold L3 a6j;rw [a0H hfj,a8U];by_cases hi:i=m
     ·subst hi;rw [iB ⟨hkd,hm⟩,iB rfl]
     ·rw [iC (fun h=>hi om),iC hi]
    rw [eg];refine b8y hmn om rfl rz ?_ ?_ ?_ ?_
    ·show (a4s _ _ _ _).set (0+f.mv.toNat) _=_;rw [eM,lbq]
     rfl
    ·intro p hp hpm;exact hold _ _ _ _ p hp hpm
    ·refine (hnew _ _ _ _).trans ?_;show some (Blk.mk .live _ 1 (List.take _ (toC ((L3 t kind j m).map j3))++toC [[ti f.grams]]) false false)=_;rw [be8]
    ·exact ⟨rfl,rfl,⟨by rw [a19 om];rfl,rfl,rfl,fun h=>h⟩,rz⟩
   ·conv=>whnf
    repeat' (first|refine zx ?_|refine j4 hfj ?_|refine i9 rL ?_|refine a6T rL ?_|refine G4 ?_|refine a52 ?_|refine s9 rL ?_|refine j1 rL ?_|refine C5 rL ?_|refine k5 rL ?_|apply zD<;>intro h<;>try omega)<;>conv=>whnf
    all_goals try omega
    refine ⟨hjt,trivial,idR (t.ev.moves.length+1),?_⟩;refine (?_:Ent 0 (idR (t.ev.moves.length+1)) _ (a1d 123 7 t.ev.moves.length (knA t.ev) (L3 t kind j) (fun _=>[ti 0])++_) _ (a1d 123 7 t.ev.moves.length (knA t.ev) (L3 t kind (j+1)) (fun _=>[ti 0])));have eg:L3 t kind (j+1)=L3 t kind j:=by
     funext i;unfold L3;rw [a0H hfj,a8U,iC (fun h=>hkd h.1)]
    rw [eg];exact b6k ⟨rfl,rfl,⟨j5 om,rfl,rfl,fun h=>h⟩,rz⟩
  ·have hje:j=t.finds.length:=by omega
   subst hje;have rL:(List.range t.ev.moves.length).length=t.ev.moves.length:=zq;conv=>whnf
   repeat' (first|refine zx ?_|refine G4 ?_|refine a52 ?_|refine a6T rL ?_|apply zD<;>intro h<;>try omega)<;>conv=>whnf
   all_goals try omega
   have eg:L3 t kind t.finds.length=z7 t.finds kind:=by funext i;unfold L3;rw [lbn (lbR _)]
   rw [eg];refine k6 g8 (fun k=>([J,eI kind,J,J,J,J,S.c (C.own 0 0 t.ev.moves.length true)]++Jn 75++[S.c (C.t (a7v t.cleans)),eI t.cleans.length,eI k]++Jn 18,[knB ((List.range t.ev.moves.length).map (kn3 t kind k))])) t.cleans.length tT [some 0] trivial ?_ ?_
   ·exact b9J (g:=z7 t.finds kind) ⟨rfl,⟨rfl,rfl,rfl,fun h=>h⟩,m9 rfl,g9 zq,rz⟩
   intro q hq _;by_cases hqt:q<t.cleans.length
   ·have ⟨c,hcq⟩:=iA hqt;have ⟨g1,g2⟩:=hc c (lbm hcq);obtain ⟨m,hm⟩:∃m:Nat,c.mv=m:=⟨c.mv.toNat,om⟩;have hmn:m<t.ev.moves.length:=om;have eM:0+c.mv.toNat=m:=om;have hk0:(List.range t.ev.moves.length)[0+c.mv.toNat]? =some m:=by rw [eM];exact lbh hmn
    have cb:=bM6 t kind q m;by_cases hkd:c.kind=kind
    ·conv=>whnf
     repeat' (first|refine zx ?_|refine j4 hcq ?_|refine z6 hk0 ?_|apply zD<;>intro h<;>try omega)<;>conv=>whnf
     all_goals try omega
     refine ⟨hqt,trivial,[some 0],rfl,rfl,⟨i6 rfl rfl rfl ?_ rfl,trivial⟩,⟨rfl,⟨rfl,rfl,rfl,fun h=>h⟩,rz⟩⟩;show (toC _).set (0+c.mv.toNat) _=_;rw [eM,←bw9 hmn hcq hkd hm]
     rfl
    ·have e3:=b89 (t:=t) (kind:=kind) (n:=t.ev.moves.length) hcq hkd;conv=>whnf
     repeat' (first|refine zx ?_|refine j4 hcq ?_|refine z6 hk0 ?_|apply zD<;>intro h<;>try omega)<;>conv=>whnf
     all_goals try omega
     refine ⟨hqt,trivial,[some 0],rfl,rfl,⟨i6 rfl rfl rfl ?_ rfl,trivial⟩,⟨rfl,⟨rfl,rfl,rfl,fun h=>h⟩,rz⟩⟩;rw [e3]
   ·have hqe:q=t.cleans.length:=by omega
    subst hqe;conv=>whnf
    repeat' (first|refine zx ?_|apply zD<;>intro h<;>try omega)<;>conv=>whnf
    all_goals try omega
    rw [bp1];exact N6 (k:=knB ((List.range t.ev.moves.length).map (a7f t kind))) rfl zi rfl rfl zq
abbrev a2s (l:List (Int × Rat)):Blk:={ mode:=.live,elem:=118,size:=5,rows:=toC (l.map B9),box:=false }
abbrev X3 (l:List C7):Blk:={ mode:=.live,elem:=91,size:=6,rows:=toC (l.map v6),box:=false }
abbrev a6W (n:Int) (id len:Nat):Blk:={ mode:=.live,elem:=66,size:=2,rows:=[[.t (ti n),.own id 0 len true]],box:=true }
abbrev bz0 (id len:Nat) (kind:Int):Blk:={ mode:=.live,elem:=91,size:=6,rows:=[.own id 0 len true::.t (ti kind)::frC (fz zR)],box:=true }
abbrev bi4 (x:C6):Blk:={ mode:=.live,elem:=53,size:=6,rows:=[x.row.map .t],box:=true }
def a5r (x:C6):L6 [x.row.map C.t]:=by simp [L6,C6.row,C.isT]
abbrev bB4:Blk:={ mode:=.live,elem:=91,size:=6,rows:=[.t (aW2 [])::.t (ti 0)::frC a0L],box:=true }
abbrev b5o (el:TypeId) (size:Nat):Blk:=⟨.dead,el,size,[],false,false⟩
def a2N {l:List C7} {w:C7} {n:Nat} (h:n=l.length):List.take n (toC (l.map v6))++toC [v6 w]=toC ((l++[w]).map v6):=by
 rw [lbn (by simp [toC,h])];simp [toC]
def bD1 (n:Int) (rows:List C7) (hr:rows.length<=1000000) (mv:Nat) (kind:Int) (v:Rat):
 ec 58 [eI mv,eI kind,frS (fz v),.c (.ptr 0 0 0)] [a6W n 1 rows.length,X3 rows] (.tup []) [a6W n 2 (rows.length+1),b5o 91 6,X3 (rows++[E7 mv kind v])]:=by
 have i1:=V4 1 de de
 (refine ac Tryz.func58 ?_;(conv=>whnf);repeat ((first|refine b0x ?_|refine zy ?_);conv=>whnf))
 repeat' (first|refine zz ?_|refine qp i1 ?_|refine a3A.weak ?_|refine v8 zt zu ?_|apply zD<;>intro h<;>try omega|refine zy ?_|fail)<;>conv=>whnf
 refine ⟨⟨[some 0,some 1,some 2],rfl,rfl,⟨⟨rfl,rfl,rfl,.inr ⟨⟨rfl,⟨rfl,rfl,rfl,fun h=>h⟩,trivial⟩,trivial⟩⟩,⟨rfl,rfl,rfl,.inl ⟨rfl,by simp [L6]⟩⟩,i6 rfl rfl rfl ?_ rfl,trivial⟩,trivial⟩⟩;show List.take rows.length (toC (rows.map v6))++toC [v6 (E7 mv kind v)]=_;exact a2N rfl
def bK3 {H:Hp} {id:Nat} {n:Int} {rows:List C7} (hs:H[2]? =some (a6W n id rows.length)) (hid:H[id]? =some (X3 rows)) (hne:id≠2) (hr:rows.length<=1000000) (mv:Nat) (kind:Int) (v:Rat):
 ec 58 [eI mv,eI kind,frS (fz v),.c (.ptr 2 0 0)] H (.tup []) (((H.set 2 (a6W n H.length (rows.length+1))).set id (b5o 91 6))++[X3 (rows++[E7 mv kind v])]):=by
 have h2:2<H.length:=(lbe.1 hs).1;have hi:id<H.length:=(lbe.1 hid).1;have ex:a4E [2,id] H.length 1=[2,id,H.length]:=by simp [a4E]
 refine W9 [2,id] (bD1 n rows hr mv kind v) rfl rfl rfl zo ?_ ?_ zq rfl rfl zq ?_ ?_
 ·intro i k hk
  match i,hk with
  |0,hk=>
   injection hk with hk;subst hk;exact ⟨rfl,rfl,by simp [okL,okC],_,hs,⟨rfl,rfl,rfl,rfl,by simp [a8q,a1X,a0C]⟩⟩
  |1,hk=>
   injection hk with hk;subst hk;exact ⟨rfl,rfl,a5I _,_,hid,E5 rfl⟩
 ·intro k hk;simp at hk;rcases hk with rfl|rfl|rfl<;>(intro h;cases h)
 ·intro i k hk;show ∃k',_[(a4E [2,id] H.length 1).getD i 0]? =some k'/\aS5 (a4E [2,id] H.length 1) k k';rw [ex]
  match i,hk with
  |0,hk=>
   injection hk with hk;subst hk;refine ⟨a6W n H.length (rows.length+1),?_,⟨rfl,rfl,rfl,rfl,by simp [a8q,a1X,a0C]⟩⟩;show (_++_)[2]? =_;rw [lbb zo,lbg,iC om,lbg,iB rfl,iB h2]
  |1,hk=>
   injection hk with hk;subst hk;refine ⟨b5o 91 6,?_,rz⟩;show (_++_)[id]? =_;rw [lbb zo,lbg,iB rfl,iB zo]
  |2,hk=>
   injection hk with hk;subst hk;refine ⟨X3 (rows++[E7 mv kind v]),?_,E5 rfl⟩;show (_++_)[H.length]? =_;rw [lbc zq];simp
 ·intro j hj hjn;simp at hjn;rw [lbb zo,lbg,iC om,lbg,iC om]
def a2R {l:List (Int × Rat)} {w:Int × Rat} {n:Nat} (h:n=l.length):List.take n (toC (l.map B9))++toC [B9 w]=toC ((l++[w]).map B9):=by
 rw [lbn (by simp [toC,h])];simp [toC]
def a0l {e:Ev} {p:Int} {k:Nat} {y:C6} (h:e.moves[k]? =some y):s7 e p (k+1)=if y.dst=p then s7 e p k++[((k:Int),((1:Int):Rat))] else if y.src=p then s7 e p k++[((k:Int),((-1:Int):Rat))] else s7 e p k:=by rw [s7,h]
def a2h {e:Ev} {p:Int}:∀k,(s7 e p k).length<=k
 |0=>by simp [s7]
 |k+1=>by
  have ih:=a2h (e:=e) (p:=p) k;unfold s7;cases e.moves[k]? with
  |none=>simp only;omega
  |some y=>
   simp only;split
   ·simp;omega
   ·split
    ·simp;omega
    ·omega
def bk1 (e:Ev) (h0:I4 e=0) {i:Nat} {x:C6} (hx:e.moves[i]? =some x):ec 62 [evS e,eI i] [] (aU0 (C3 e i x)) []:=by
 have ⟨b1,b2,b3,b4⟩:=a1k h0;have hi:i<e.moves.length:=(lbe.1 hx).1;have m0:(e.moves.map C6.row).length=e.moves.length:=zq;have i0:=V4 0 de de;have i1:=V4 1 de de;have im:=V4 (-1) de de;have tk:(e.moves.map C6.row).take i=(e.moves.take i).map C6.row:=(b4V ..).symm;have tl:(e.moves.take i).length=i:=zo;have mt:((e.moves.take i).map C6.row).length=i:=zo;cases hal:x.all
 case' false=>have hK:(C3 e i x).kind=0:=by unfold C3;rw [hal];rfl
 case' true=>have hK:(C3 e i x).kind=2:=by unfold C3;rw [hal];rfl
 all_goals
  (refine ac Tryz.func62 ?_;(conv=>whnf);repeat ((first|refine b0x ?_|refine zy ?_);conv=>whnf))
  repeat' (first|refine zx ?_|refine j4 hx ?_|refine aK3 om om om ?_|apply zD<;>intro h<;>try omega)<;>conv=>whnf
  all_goals first|omega|(exfalso;simp_all;done)|skip
  refine k6 g8 (fun k=>([J,eI i,J,J,sP 0 0 0,sP 1 0 0,sP 2 0 0]++Jn 15++[S.c (C.t (a5q (e.moves.take i))),eI i,eI k]++Jn 40,[bB4,bi4 x,bz0 3 (s7 e x.src k).length (C3 e i x).kind,a2s (s7 e x.src k)])) i tT [some 0,some 1,some 2,none] trivial ?_ ?_
  ·rw [hK];refine ⟨rfl,rfl,⟨⟨rfl,rfl,rfl,.inr rz⟩,⟨rfl,rfl,rfl,.inl ⟨rfl,a5r x⟩⟩,⟨rfl,rfl,rfl,.inr rz⟩,rz⟩,⟨rfl,rz,rz,rz,m9 ?_,g9 ?_,rz⟩⟩
   ·show T.sl 6 _ (((e.moves.map C6.row).take ((i:Int)).toNat).drop 0)=_;rw [lbY,tk];rfl
   ·show ((((e.moves.map C6.row).take ((i:Int)).toNat).drop 0).length:Int)=i;rw [lbY,tk,a9m,mt]
  intro k hk _;have kl:=a2h (e:=e) (p:=x.src) k;by_cases jj:k<i
  ·have ⟨y,hy⟩:=@iA _ e.moves k om;have hyt:(e.moves.take i)[k]? =some y:=by rw [lbi,iB jj];exact hy
   by_cases c1:y.dst=x.src
   ·have et:s7 e x.src (k+1)=s7 e x.src k++[((k:Int),((1:Int):Rat))]:=by rw [a0l hy,iB c1]
    conv=>whnf
    repeat' (first|refine zx ?_|refine j4 hyt ?_|refine v8 zt zu ?_|apply zD<;>intro h<;>try omega)<;>conv=>whnf
    all_goals try omega
    refine ⟨jj,trivial,[some 0,some 1,some 2,some 5],rfl,rfl,⟨⟨rfl,rfl,rfl,.inr rz⟩,⟨rfl,rfl,rfl,.inl ⟨rfl,a5r x⟩⟩,⟨rfl,rfl,rfl,.inr ⟨⟨⟨rfl,rfl,?_,fun h=>h⟩,rz⟩,trivial⟩⟩,i6 rfl rfl rfl ?_ rfl,trivial⟩,rz⟩
    ·rw [et,lbq];rfl
    ·rw [et];show List.take (s7 e x.src k).length (toC ((s7 e x.src k).map B9))++toC [B9 ((k:Int),((1:Int):Rat))]=_;exact a2R rfl
   ·by_cases c2:y.src=x.src
    ·have et:s7 e x.src (k+1)=s7 e x.src k++[((k:Int),((-1:Int):Rat))]:=by rw [a0l hy,iC c1,iB c2]
     conv=>whnf
     repeat' (first|refine zx ?_|refine j4 hyt ?_|refine v8 zt zu ?_|apply zD<;>intro h<;>try omega)<;>conv=>whnf
     all_goals try omega
     refine ⟨jj,trivial,[some 0,some 1,some 2,some 5],rfl,rfl,⟨⟨rfl,rfl,rfl,.inr rz⟩,⟨rfl,rfl,rfl,.inl ⟨rfl,a5r x⟩⟩,⟨rfl,rfl,rfl,.inr ⟨⟨⟨rfl,rfl,?_,fun h=>h⟩,rz⟩,trivial⟩⟩,i6 rfl rfl rfl ?_ rfl,trivial⟩,rz⟩
     ·rw [et,lbq];rfl
     ·rw [et];show List.take (s7 e x.src k).length (toC ((s7 e x.src k).map B9))++toC [B9 ((k:Int),((-1:Int):Rat))]=_;exact a2R rfl
    ·have et:s7 e x.src (k+1)=s7 e x.src k:=by rw [a0l hy,iC c1,iC c2]
     conv=>whnf
     repeat' (first|refine zx ?_|refine j4 hyt ?_|apply zD<;>intro h<;>try omega)<;>conv=>whnf
     all_goals try omega
     refine ⟨jj,trivial,[some 0,some 1,some 2,some 3],rfl,rfl,⟨⟨rfl,rfl,rfl,.inr rz⟩,⟨rfl,rfl,rfl,.inl ⟨rfl,a5r x⟩⟩,⟨rfl,rfl,rfl,.inr ⟨⟨⟨rfl,rfl,?_,fun h=>h⟩,rz⟩,trivial⟩⟩,i6 rfl rfl rfl ?_ rfl,trivial⟩,rz⟩
     ·rw [et]
     ·rw [et]
  ·have hke:k=i:=by omega
   subst hke;conv=>whnf
   repeat' (first|refine zx ?_|refine v8 zt zu ?_|apply zD<;>intro h<;>try omega)<;>conv=>whnf
   all_goals try omega
   refine n8 ⟨show VC _ (fun id=>L2 [] id=true) _ _ from v7 rfl rfl zi rfl (rows:=(s7 e x.src k++[((k:Int),((-1:Int):Rat))]).map B9) ?_ ?_,rz⟩
   ·show List.take (s7 e x.src k).length (toC ((s7 e x.src k).map B9))++toC [B9 ((k:Int),((-1:Int):Rat))]=_;exact a2R rfl
   ·rw [lbr,lbq];rfl
def ah7 {e:Ev}:∀{l:List H5},U0 e l=0->∀c ∈ l,0<=c.mv/\c.mv<e.moves.length
 |[],_,c,hc=>by cases hc
 |g::r,h,c,hc=>by
  unfold U0 at h;by_cases h1:a2z e g.mv g.kind≠0
  ·rw [iB h1] at h;exact absurd h h1
  rw [iC h1] at h;rcases lbA.1 hc with rfl|hc
  ·unfold a2z at h1;by_cases h3:c.mv<0\/(e.moves.length:Int)<=c.mv
   ·rw [iB h3] at h1;exact absurd de h1
   omega
  ·exact ah7 h c hc
def hiR (o:Option (Rat × Rat)):Rat:=match o with
 |some (_,hi)=>hi
 |none=>0
def ap7 {e:Ev} {x:C6} (h:(R3 e x).isSome=true):hiF (R3 e x)=fz (hiR (R3 e x))/\rl (hiR (R3 e x))<=200:=by
 cases hiv:R3 e x with
 |none=>rw [hiv] at h;cases h
 |some p=>
  have ⟨lo,hi⟩:=p;refine ⟨rfl,?_⟩;show rl hi<=200;unfold R3 at hiv;by_cases hs:x.scale=-1
  ·rw [iB hs] at hiv;cases hiv
  ·rw [iC hs] at hiv;have:=(b0G hiv).2;omega
def an6 {H:Hp} {id len:Nat} {n:Int} {rows:List C7} {rs:List (List C)} {f:Fr} {v:Rat} (hf:f=fz v) (hs:H[2]? =some (a6W n id len)) (hid:H[id]? =some { mode:=.live,elem:=91,size:=6,rows:=rs,box:=false })
 (hlen:len=rows.length) (hrs:rs=toC (rows.map v6)) (hne:id≠2) (hr:rows.length<=1000000) (mv:Nat) (kind:Int):
 ec 58 [eI mv,eI kind,frS f,.c (.ptr 2 0 0)] H (.tup []) (((H.set 2 (a6W n H.length (rows.length+1))).set id (b5o 91 6))++[X3 (rows++[E7 mv kind v])]):=by
 subst hf;subst hlen;subst hrs;exact bK3 hs hid hne hr mv kind v
def a8e {t:j9} {kind:Int} {k:Nat} (hk:k<=200) (hf:t.finds.length<=20) (hc:t.cleans.length<=50):(w6 t kind k).length<=14400:=by
 have h1:=O5 (t:=t) (kind:=kind) k;have h2:=lbT hk (show 2+t.finds.length+t.cleans.length<=72 by omega);omega
abbrev bF0 (t:j9) (kind:Int) (i:Nat):Blk:={ mode:=.live,elem:=123,size:=7,rows:=[(a7f t kind i).map .t],box:=true }
def r1A {S C:List C7} {s:C7} {p:Prop} [Decidable p] (h:C=[]) (hp:decide p=false):(S++if p then [] else [s])++C=S++[s]:=by rw [h,iC (lbM hp)];simp
def r1B {S C:List C7} {s:C7} {p:Prop} [Decidable p] (h:C=[]) (hp:decide p=true):(S++if p then [] else [s])++C=S:=by rw [h,iB (lbL hp)];simp
def r1C {S C:List C7} {s c:C7} {p:Prop} [Decidable p] (h:C=[c]) (hp:decide p=false):(S++if p then [] else [s])++C=(S++[s])++[c]:=by rw [h,iC (lbM hp)]
def r1D {S C:List C7} {s c:C7} {p:Prop} [Decidable p] (h:C=[c]) (hp:decide p=true):(S++if p then [] else [s])++C=S++[c]:=by rw [h,iB (lbL hp)];simp
def aa3 {ρ:List (Option Nat)} {H:Hp}:∀rows:List (List T),a4Y ρ H (rows.map (·.map C.t)) (rows.map (·.map C.t))
 |[]=>trivial
 |r::rs=>⟨U4 r,aa3 rs⟩
def a0b (t:j9) (kind:Int):Int:=if t5 t≠0\/kind<0\/8<=kind then 1 else 0
def a66 (t:j9) (kind:Int):m7:=if t5 t≠0\/kind<0\/8<=kind then ⟨0,[]⟩ else p7 t kind
abbrev bc3:FuncId:=58
abbrev aw0:Blk:={ mode:=.live,elem:=66,size:=2,rows:=[[.t (ti 0),.t (a0h [])]],box:=true }
def aK0 {P:Program} {f:FuncId} {args:List S} {H H1 H':Hp} {r s:S} (h:e8 P f args H r H1) (hf:Fin H.length r H1 s H'):e8 P f args H s H':=by
 refine ⟨h.1,fun w ι M vals hl hr hH hM hF=>?_⟩;refine Calls.mono (h.2 w ι M vals hl hr hH hM hF) ?_;rintro e w' ⟨v,rfl,ι',M',h4,hH',hM',hF',hst⟩;have ⟨ρ,f1,f2,f3,f4⟩:=hf;have ⟨g1,g2,g3⟩:=a4w.all f1 f2 f3 rfl hM hH' hst;exact ⟨v,rfl,X2 ρ ι',_,f4.rs hH' h4,g1,fun b hb=>hM' b hb.1,g2,g3⟩
def b6b (t:j9) (kind:Int) (hs:t.Sized) (h1:¬(t5 t≠0\/kind<0\/8<=kind)):ec 35 [trS t,eI kind] [] (.tup [.agg [.t (ti t.ev.moves.length),.own 0 0 (p7 t kind).rows.length true],eI 0]) [X3 (p7 t kind).rows]:=by
 have ck:=a8X t hs;have m2:(t.ev.moves.map C6.row).length=t.ev.moves.length:=zq;obtain ⟨k1,k2,k3⟩:t5 t=0/\0<=kind/\kind<8:=om;rw [k1] at ck;have ⟨q1,q2,q3,q4,q5⟩:=H6 k1;have ⟨b1,b2,b3,b4⟩:=a1k q1;have kn:=bp5 t kind hs q1 (fun f hf=>by have:=a0Y q4 f hf;omega) (fun c hc=>ah7 q5 c hc)
 (refine ac Tryz.func35 ?_;(conv=>whnf);repeat ((first|refine b0x ?_|refine zy ?_);conv=>whnf))
 repeat' (first|refine zx ?_|apply zD<;>intro h<;>try omega)<;>conv=>whnf
 all_goals try omega
 refine k6 g8 (fun k=>([J,J,J,J,sP 0 0 0,J,sP 1 0 0,sP 2 0 0,S.c (C.fn (Fn.func bc3) [C.ptr 2 0 0])]++Jn 25++[S.c (C.t (aR9 t kind)),eI t.ev.moves.length,eI k]++Jn 47,[aw0,evB t.ev,a6W t.ev.moves.length 3 (w6 t kind k).length,X3 (w6 t kind k)])) t.ev.moves.length tT [some 0,some 1,some 2,none] trivial ?_ ?_
 ·refine ⟨rfl,rfl,⟨⟨rfl,rfl,rfl,.inr rz⟩,⟨rfl,rfl,rfl,.inl ⟨rfl,F3 _⟩⟩,⟨rfl,rfl,rfl,.inr ⟨⟨?_,rz⟩,trivial⟩⟩,rz⟩,⟨rz,rz,rz,rz,rfl,g9 zq,rz⟩⟩;exact am4 (by rw [m2])
 intro k hk _;by_cases jj:k<t.ev.moves.length
 ·have ⟨x,hx⟩:=iA jj;have bn:=bU6 t.ev q1 hx;have st:=bk1 t.ev q1 hx;have gk:(List.range t.ev.moves.length)[k]? =some k:=lbh jj;have iv:a63 t.ev k=R3 t.ev x:=aS8 hx;have rl0:=a8e (t:=t) (kind:=kind) (k:=k) om q2 q3;have gl:(z7 t.finds kind k).length<=20:=by unfold z7;rw [lbr];exact lbS (lbt _ _) q2
  have cl:F2 t.cleans kind k<=50:=lbS (lbt _ _) q3;have i0:=V4 0 de de;obtain ⟨R1,hR1⟩:∃R1:List C7,R1=w6 t kind k++(if O2 t.ev x.src=0 then [] else [C3 t.ev k x])++a0n (R3 t.ev x) k:=⟨_,rfl⟩;have l5:(w6 t kind k).length+1=(w6 t kind k++[C3 t.ev k x]).length:=zq;have r5:List.take (w6 t kind k).length (toC ((w6 t kind k).map v6))++toC [v6 (C3 t.ev k x)]=toC ((w6 t kind k++[C3 t.ev k x]).map v6):=a2N rfl;have b5:(w6 t kind k++[C3 t.ev k x]).length<=1000000:=zo;have b3:(w6 t kind k).length<=1000000:=om;obtain ⟨G,hG⟩:∃G:Nat->List C7,∀j,G j=R1++((z7 t.finds kind k).take j).map (fun g:Int=>E7 k 0 (g:Rat)):=⟨_,fun _=>rfl⟩;obtain ⟨K,hK⟩:∃K:Nat->List C7,∀j,K j=(R1++(z7 t.finds kind k).map (fun g:Int=>E7 k 0 (g:Rat)))++List.replicate j (E7 k 2 ((0:Int):Rat)):=⟨_,fun _=>rfl⟩;have hG0:G 0=R1:=by rw [hG];simp
  have hK0:K 0=R1++(z7 t.finds kind k).map (fun g:Int=>E7 k 0 (g:Rat)):=by rw [hK];simp
  have hKe:w6 t kind (k+1)=K (F2 t.cleans kind k):=by
   rw [hK,hR1];show (match t.ev.moves[k]? with|none=>w6 t kind k|some x=>w6 t kind k++N5 t kind k x)=_;rw [hx];unfold N5;simp [lbD]
  have hKs:toC ((K (F2 t.cleans kind k)).map v6)=toC ((w6 t kind (k+1)).map v6)/\(K (F2 t.cleans kind k)).length=(w6 t kind (k+1)).length:=by rw [hKe];exact rz
  have hgr:∀g ∈ z7 t.finds kind k,1<=g/\g<=1099511627776:=fun g hg=>by
   unfold z7 at hg;obtain ⟨f,hf,rfl⟩:=lbx.1 hg;have:=a0Y q4 f (lby.1 hf).1;omega
  have hcr:a0n (R3 t.ev x) k=if (R3 t.ev x).isSome then [E7 k 1 (hiR (R3 t.ev x))] else []:=by cases R3 t.ev x<;>rfl
  cases hc:(R3 t.ev x).isSome<;>cases hb:decide (O2 t.ev x.src=0)<;>rw [hb] at bn<;>rw [hc] at hcr<;>
  ·have hci:=hc;rw [← iv] at hci;first|(have eR:R1=(w6 t kind k++[C3 t.ev k x]):=hR1.trans (r1A hcr hb);let ρ:List (Option Nat):=[some 0,some 1,some 2,some 5,some 4])|(have eR:R1=w6 t kind k:=hR1.trans (r1B hcr hb);let ρ:List (Option Nat):=[some 0,some 1,some 2,some 3,some 4])|(have eR:R1=(w6 t kind k++[C3 t.ev k x])++[E7 k 1 (hiR (R3 t.ev x))]:=hR1.trans (r1C hcr hb);let ρ:List (Option Nat):=[some 0,some 1,some 2,some 6,some 4])|(have eR:R1=w6 t kind k++[E7 k 1 (hiR (R3 t.ev x))]:=hR1.trans (r1D hcr hb);let ρ:List (Option Nat):=[some 0,some 1,some 2,some 5,some 4])
   have hRl:R1.length<=14500:=by rw [eR];(try simp);omega
   try (have hfv:hiF (a63 t.ev k)=fz (hiR (R3 t.ev x)):=(by rw [iv];exact (ap7 hc).1))
   conv=>whnf
   repeat' (first|refine zx ?_|refine j4 gk ?_|refine v8 zt zu ?_|refine .inr ⟨_,_,an6 (id:=5) hfv rfl rfl l5 r5 de b5 _ _,?_⟩|refine .inr ⟨_,_,an6 (id:=3) hfv rfl rfl rfl rfl de b3 _ _,?_⟩|apply zD<;>intro h<;>try omega)<;>conv=>whnf
   all_goals try omega
   all_goals try (rw [hci] at h;exact absurd h de)
   refine k6 g8 (fun j=>([J,J,J,J,sP 0 0 0,J,sP 1 0 0,sP 2 0 0,S.c (C.fn (Fn.func bc3) [C.ptr 2 0 0]),eI k,sP 4 0 0]++Jn 23++[S.c (C.t (aR9 t kind)),eI t.ev.moves.length,eI k]++Jn 24++[S.c (C.t (w5 (z7 t.finds kind k))),eI (z7 t.finds kind k).length,eI j]++Jn 20,[aw0,evB t.ev,a6W t.ev.moves.length 3 (G j).length,X3 (G j),bF0 t kind k])) (z7 t.finds kind k).length tT ρ trivial ⟨rfl,rfl,⟨⟨rfl,rfl,rfl,.inr rz⟩,⟨rfl,rfl,rfl,.inl ⟨rfl,F3 _⟩⟩,⟨rfl,rfl,rfl,.inr ⟨⟨rfl,⟨rfl,rfl,?_,fun h=>h⟩,trivial⟩,trivial⟩⟩,i6 rfl rfl rfl ?_ rfl,⟨rfl,rfl,rfl,.inr (aa3 [a7f t kind k])⟩,trivial⟩,⟨rz,rz,rz,rz,rfl,rz,rfl,rfl,rfl,rfl,g9 zq,rz⟩⟩ ?_
   ·simp [hG0,eR,toC]
   ·rw [hG0,eR];first|done|exact r5|rfl
   intro j hj _;have hGl:(G j).length<=1000000:=by rw [hG];simp [lbq];omega
   by_cases hjt:j<(z7 t.finds kind k).length
   ·have ⟨g,hg⟩:=iA hjt;have gb:=hgr g (lbm hg);have ig:=V4 g om om;have eG:G (j+1)=G j++[E7 k 0 (g:Rat)]:=by rw [hG,hG,lbG,hg];simp
    conv=>whnf
    repeat' (first|refine zx ?_|refine j4 hg ?_|refine .inr ⟨_,_,an6 (id:=3) rfl rfl rfl rfl rfl de hGl _ _,?_⟩|apply zD<;>intro h<;>try omega)<;>conv=>whnf
    all_goals try omega
    refine ⟨hjt,trivial,[some 0,some 1,some 2,some 5,some 4],rfl,rfl,⟨⟨rfl,rfl,rfl,.inr rz⟩,⟨rfl,rfl,rfl,.inl ⟨rfl,F3 _⟩⟩,⟨rfl,rfl,rfl,.inr ⟨⟨rfl,⟨rfl,rfl,?_,fun h=>h⟩,trivial⟩,trivial⟩⟩,i6 rfl rfl rfl ?_ rfl,⟨rfl,rfl,rfl,.inr (aa3 [a7f t kind k])⟩,trivial⟩,rz⟩
    ·rw [eG];simp
    ·rw [eG]
   have hje:j=(z7 t.finds kind k).length:=om;subst hje;have hGe:G (z7 t.finds kind k).length=R1++(z7 t.finds kind k).map (fun g:Int=>E7 k 0 (g:Rat)):=by rw [hG,lbn (lbR _)]
   conv=>whnf
   repeat' (first|refine zx ?_|apply zD<;>intro h<;>try omega)<;>conv=>whnf
   all_goals try omega
   refine k6 g8 (fun j=>([J,J,J,J,sP 0 0 0,J,sP 1 0 0,sP 2 0 0,S.c (C.fn (Fn.func bc3) [C.ptr 2 0 0]),eI k]++Jn 24++[S.c (C.t (aR9 t kind)),eI t.ev.moves.length,eI k]++Jn 37++[eI (F2 t.cleans kind k),eI j]++Jn 8,[aw0,evB t.ev,a6W t.ev.moves.length 3 (K j).length,X3 (K j)])) (F2 t.cleans kind k) tT [some 0,some 1,some 2,some 3] trivial ⟨rfl,rfl,⟨⟨rfl,rfl,rfl,.inr rz⟩,⟨rfl,rfl,rfl,.inl ⟨rfl,F3 _⟩⟩,⟨rfl,rfl,rfl,.inr ⟨⟨rfl,⟨rfl,rfl,?_,fun h=>h⟩,trivial⟩,trivial⟩⟩,i6 rfl rfl rfl ?_ rfl,trivial⟩,rz⟩ ?_
   ·rw [hK0,hGe]
   ·rw [hK0,hGe]
   clear hj hjt;intro j hj _;have hKl:(K j).length<=1000000:=by rw [hK];simp [lbq];omega
   by_cases hjt:j<F2 t.cleans kind k
   ·have eK:K (j+1)=K j++[E7 k 2 ((0:Int):Rat)]:=by rw [hK,hK,List.replicate_succ'];simp
    conv=>whnf
    repeat' (first|refine zx ?_|refine .inr ⟨_,_,an6 (id:=3) rfl rfl rfl rfl rfl de hKl _ _,?_⟩|apply zD<;>intro h<;>try omega)<;>conv=>whnf
    all_goals try omega
    refine ⟨hjt,trivial,[some 0,some 1,some 2,some 4],rfl,rfl,⟨⟨rfl,rfl,rfl,.inr rz⟩,⟨rfl,rfl,rfl,.inl ⟨rfl,F3 _⟩⟩,⟨rfl,rfl,rfl,.inr ⟨⟨rfl,⟨rfl,rfl,?_,fun h=>h⟩,trivial⟩,trivial⟩⟩,i6 rfl rfl rfl ?_ rfl,trivial⟩,rz⟩
    ·rw [eK];simp
    ·rw [eK]
   have hje:j=F2 t.cleans kind k:=om;subst hje;conv=>whnf
   repeat' (first|refine zx ?_|apply zD<;>intro h<;>try omega)<;>conv=>whnf
   all_goals try omega
   exact ⟨jj,trivial,[some 0,some 1,some 2,some 3],rfl,rfl,⟨⟨rfl,rfl,rfl,.inr rz⟩,⟨rfl,rfl,rfl,.inl ⟨rfl,F3 _⟩⟩,⟨rfl,rfl,rfl,.inr ⟨⟨rfl,⟨rfl,rfl,hKs.2,fun h=>h⟩,trivial⟩,trivial⟩⟩,i6 rfl rfl rfl hKs.1 rfl,trivial⟩,rz⟩
 ·have hke:k=t.ev.moves.length:=by omega
  subst hke;conv=>whnf
  repeat' (first|refine zx ?_|apply zD<;>intro h<;>try omega)<;>conv=>whnf
  all_goals try omega
  exact ⟨[some 3],rfl,rfl,⟨i6 (rows:=(w6 t kind t.ev.moves.length).map v6) rfl rfl rfl rfl rfl,trivial⟩,⟨⟨rfl,⟨rfl,rfl,rfl,fun h=>h⟩,trivial⟩,rz⟩⟩
def a96 (t:j9) (kind:Int) (hs:t.Sized):ec 35 [trS t,eI kind] [] (.tup [W8 (a66 t kind),eI (a0b t kind)]) []:=by
 have ck:=a8X t hs;have m2:(t.ev.moves.map C6.row).length=t.ev.moves.length:=zq;by_cases h1:t5 t≠0\/kind<0\/8<=kind
 ·have e1:a0b t kind=1:=by unfold a0b;rw [iB h1]
  have e2:a66 t kind=⟨0,[]⟩:=by unfold a66;rw [iB h1]
  rw [e1,e2];refine ac Tryz.func35 ?_;conv=>whnf
  repeat' (first|refine zx ?_|apply zD<;>intro h<;>try omega)<;>conv=>whnf
  all_goals first|omega|exact n8 rz
 have e1:a0b t kind=0:=by unfold a0b;rw [iC h1]
 have e2:a66 t kind=p7 t kind:=by unfold a66;rw [iC h1]
 rw [e1,e2];exact aK0 (b6b t kind hs h1) (n8 ⟨⟨rfl,show VC _ (fun id=>L2 [] id=true) _ _ from v7 rfl rfl zi rfl rfl (by rw [lbr]),trivial⟩,rz⟩)
def b0b {P:Program} {g:FuncId} {x:S} {H H':Hp} {r:S} (h:e8 P g [x,s6 []] H r H'):e8 P g [x,.c (.t (.sl 0 .nil []))] H r H':=by
 refine a83 h rfl fun w ι M j a b v hx hy hr=>?_
 rcases j with _|_|j
 ·injection hx with hx;injection hy with hy;subst hx hy;exact hr
 ·injection hx with hx;injection hy with hy;subst hx hy
  cases hr with
  |c hr=>cases hr with
   |t hr=>exact .c (.t (hr.weak rfl))
 ·simp at hx
def aq5 (z:List Rat):n9 [] z=0:=rfl
def ak9 {s:m7} (hr:q9 s=true):H8 s []=.best\/∃r,H8 s []=.row r:=by
 rcases a4C s [] with h|h|⟨c,h⟩
 ·exact .inl h
 ·exact .inr h
 ·have:=(a7g hr rfl h).2;rw [aq5] at this;exact absurd this de
theorem a6c (s:m7) (n B:Nat) (h:I7 s [] n B) (hout:H8 s []=.best) (hpt:∀v ∈ s8 s [],rl v<=40000):
 e8 Tryz.prog 73 [W8 s] [] (.tup [H9 ((s8 s []).map fz),.c (.t (.sl 0 .nil [])),n7 true]) []:=by
 have le:=b0b (a59 s [] n B h hout (fun k=>by rw [List.take_nil,aq5];have:=rl0;omega) hpt)
 (refine ac Tryz.func73 ?_;(conv=>whnf);repeat ((first|refine b0x ?_|refine zy ?_);conv=>whnf))
 repeat' (first|refine zx ?_|refine qp 4 ?_|refine qp (4,6) ?_|refine .inr ⟨_,_,le,?_⟩|refine bl0 [4] ?_|refine bl0 [4,6] ?_|refine zd ?_ ?_<;>intro h<;>try omega|fail)<;>conv=>whnf
 all_goals first
  |omega
  |exact n8 ⟨rfl,rfl,rfl,trivial⟩
def a7Z (s:m7) (n B r:Nat) (h:I7 s [] n B) (hout:H8 s []=.row r):
 e8 Tryz.prog 73 [W8 s] [] (.tup [.c (.t (.sl 0 .nil [])),H9 (rF s.rows.length (ah9 s (F8 s []) r)),n7 false]) []:=by
 have le:=b0b (b0E s [] n B r h hout)
 (refine ac Tryz.func73 ?_;(conv=>whnf);repeat ((first|refine b0x ?_|refine zy ?_);conv=>whnf))
 repeat' (first|refine zx ?_|refine .inr ⟨_,_,le,?_⟩|refine bl0 [4] ?_|refine bl0 [4,6] ?_|refine zd ?_ ?_<;>intro h<;>try omega|fail)<;>conv=>whnf
 all_goals first
  |omega
  |exact n8 ⟨rfl,(show VC _ (fun id=>L2 [] id=true) (C.own 0 0 s.rows.length true) _ from v7 (k:=flB (rF s.rows.length (ah9 s (F8 s []) r))) rfl rfl (fun h=>h) rfl rfl (by simp [P7])),rfl,trivial⟩
def O9 {α:Type} {f:α->List T} {l:List α} {x:α} {n:Nat} (h:n=l.length):List.take n (toC (l.map f))++toC [f x]=toC ((l++[x]).map f):=by
 rw [lbn (by simp [toC,h])];simp [toC]
def a2p (l:List (Int × Rat)) (f:Rat):List (Int × Rat):=l.map fun t=>(t.1,t.2*f)
def a3V (l:List (Int × Rat)) (f:Rat) {k:Nat} {t:Int × Rat} (h:l[k]? =some t):(a2p l f).take (k+1)=(a2p l f).take k++[(t.1,t.2*f)]:=by
 rw [lbG]
 congr 1
 unfold a2p;rw [lba,h];rfl
def a33 (l:List (Int × Rat)) (f:Rat):(a2p l f).length=l.length:=by simp [a2p]
def br5 (l:List (Int × Rat)) (f:Rat) (hf:f≠0) (hr:m8 (-1) 1500 l=true) (hb:∀t ∈ l,rl t.2<=200) (hfb:rl f<=200):
 ec 173 [s6 l,frS (fz f)] [] (s6 (a2p l f)) []:=by
 have hl:=E4 hr;have m1:(l.map B9).length=l.length:=zq;have rt:=a0r l 1500 om hb;rw [lbH om,hr] at rt;have sg:=a2C f om;have sz:=b1A (x:=f);have hs0:sgR f≠0:=fun h=>hf (sz.1 h)
 (refine ac Tryz.func173 ?_;(conv=>whnf);repeat ((first|refine b0x ?_|refine zy ?_);conv=>whnf))
 repeat' (first|refine zx ?_|apply zD<;>intro h<;>try omega)<;>conv=>whnf
 all_goals try omega
 all_goals try (exfalso;simp_all;done)
 refine k6 g8 (fun k=>([J,J,J,S.c (C.t (T.ptr (B3 (fz f)))),J,S.c (C.own 0 0 k true)]++Jn 12++[s6 l,eI l.length,eI k]++Jn 19,[a2s ((a2p l f).take k)])) l.length tT [none] trivial
  ⟨rfl,rfl,rz,⟨m9 rfl,rz,m9 rfl,g9 om,g9 rfl,trivial⟩⟩ ?_
 intro k hk _;by_cases jj:k<l.length
 ·have ⟨t,ht⟩:=iA jj;have bt:=hb t (lbm ht);have mu:=b3C t.2 f om om;have lk:((a2p l f).take k).length=k:=by rw [lbs,a33];omega
  have lA:k<=(a2s ((a2p l f).take k)).rows.length:=by show k<=(toC _).length;simp [toC,a33];omega
  conv=>whnf
  repeat' (first|refine zx ?_|refine j4 ht ?_|refine v8 lA zu ?_|refine bl0 [6] ?_|apply zD<;>intro h<;>try omega)<;>conv=>whnf
  all_goals first
   |omega
   |(refine ⟨jj,trivial,[some 3],rfl,rfl,⟨i6 (rows:=((a2p l f).take (k+1)).map B9) rfl rfl rfl ?_ rfl,trivial⟩,⟨rfl,⟨rfl,rfl,rfl,fun h=>h⟩,rfl,rfl,g9 om,trivial⟩⟩
     rw [a3V l f ht];exact O9 (f:=B9) (x:=(t.1,t.2*f)) lk.symm)
 ·have hke:k=l.length:=by omega
  subst hke;conv=>whnf
  repeat' (first|refine zx ?_|apply zD<;>intro h<;>try omega)<;>conv=>whnf
  all_goals first|omega|exact N6 rfl (fun h=>h) rfl (by rw [lbn (by rw [a33];exact lbR _)]) (by simp [a33])
def ai2 {n n':Int} (h:n<=n'):∀{last:Int} {l:List (Int × Rat)},m8 last n l=true->m8 last n' l=true
 |_,[],_=>rfl
 |last,a::r,hr=>by
  unfold m8 at hr ⊢;simp only [lbN,lbI] at hr ⊢;exact ⟨⟨⟨hr.1.1.1,om⟩,hr.1.2⟩,ai2 h hr.2⟩
def E8 (l:List (Int × Rat)):List (Int × Rat):=a2p l ((-1:Int):Rat)
def a8h (l:List (Int × Rat)) (hr:m8 (-1) 1500 l=true) (hb:∀t ∈ l,rl t.2<=200):ec 136 [s6 l] [] (s6 (E8 l)) []:=by
 have i1:=V4 (-1) de de;have tm:=br5 l ((-1:Int):Rat) de hr hb (by have:=w9 (x:=-1) de de;have:=w9 (x:=1) de de;show max (bl (-1)) (bl 1)<=200;omega);refine ac Tryz.func136 ?_;conv=>whnf
 repeat' (first|refine zx ?_|apply zD<;>intro<;>try omega)<;>conv=>whnf
 exact n8 (H1:=[]) (m9 (ρ:=[]) (H:=[]) rfl)
def a3z (l:LI):List (Int × Rat):=l.map fun i=>(i,((1:Int):Rat))
def I1 (t:j9) (h:Int):List (Int × Rat):=a3z (J6 t.ev h (-1) 0 100000)
def ai7 (t:j9) (h:Int):List (Int × Rat):=if t5 t=0/\0<=h/\h<t.ev.hhs then I1 t h else []
def b19 {H1:Hp}:Fin 0 (.c (.t (.sl 0 .nil []))) H1 (s6 []) []:=n8 (show a9j [] H1 (.c (.t (.sl 0 .nil []))) (s6 []) from rfl)
def ae2 {l:LI} {k:Nat} {x:Int} (h:l[k]? =some x):a3z (l.take (k+1))=a3z (l.take k)++[(x,((1:Int):Rat))]:=by
 rw [lbG,h];unfold a3z;simp
def bs3 (t:j9) (hs:t.Sized) (hh:Int) (hl:(J6 t.ev hh (-1) 0 100000).length<=100000):ec 93 [trS t,eI hh] [] (s6 (ai7 t hh)) []:=by
 have ck:=a8X t hs;have li:=b47 t.ev hs.ev hh (-1) 0 100000;have i1:=V4 1 de de;by_cases hc:t5 t=0/\0<=hh/\hh<t.ev.hhs
 ·have e:ai7 t hh=I1 t hh:=iB hc;rw [e];have ⟨c1,c2,c3⟩:=hc;have m1:((J6 t.ev hh (-1) 0 100000).map j3).length=(J6 t.ev hh (-1) 0 100000).length:=zq;refine ac Tryz.func93 ?_;conv=>whnf
  repeat' (first|refine zx ?_|apply zD<;>intro h<;>try omega)<;>conv=>whnf
  all_goals try omega
  refine k6 g8 (fun k=>([J,J,J,J,J,S.c (C.own 0 0 k true)]++Jn 19++[j7 (J6 t.ev hh (-1) 0 100000),eI (J6 t.ev hh (-1) 0 100000).length,eI k]++Jn 11,[a2s (a3z ((J6 t.ev hh (-1) 0 100000).take k))])) (J6 t.ev hh (-1) 0 100000).length tT [none] trivial
   ⟨rfl,rfl,rz,⟨rz,m9 rfl,g9 om,g9 rfl,trivial⟩⟩ ?_
  intro k hk _;by_cases jj:k<(J6 t.ev hh (-1) 0 100000).length
  ·have ⟨x,hx⟩:=iA jj;have lk:(a3z ((J6 t.ev hh (-1) 0 100000).take k)).length=k:=by unfold a3z;rw [lbr,lbs];omega
   have lA:k<=(a2s (a3z ((J6 t.ev hh (-1) 0 100000).take k))).rows.length:=by show k<=(toC _).length;rw [toC,lbr,lbr,lk];exact lbR _
   conv=>whnf
   repeat' (first|refine zx ?_|refine j4 hx ?_|refine v8 lA zu ?_|apply zD<;>intro h<;>try omega)<;>conv=>whnf
   all_goals first
    |omega
    |(refine ⟨jj,trivial,[some 1],rfl,rfl,⟨i6 (rows:=(a3z ((J6 t.ev hh (-1) 0 100000).take (k+1))).map B9) rfl rfl rfl ?_ rfl,trivial⟩,⟨⟨rfl,rfl,rfl,fun h=>h⟩,rfl,rfl,g9 om,trivial⟩⟩
      rw [ae2 hx];exact O9 (f:=B9) (x:=(x,((1:Int):Rat))) lk.symm)
  ·have hke:k=(J6 t.ev hh (-1) 0 100000).length:=by omega
   subst hke;conv=>whnf
   repeat' (first|refine zx ?_|apply zD<;>intro h<;>try omega)<;>conv=>whnf
   all_goals first|omega|exact N6 rfl (fun h=>h) rfl (by rw [lbn (lbR _)];rfl) (by simp [I1,a3z])
 ·have e:ai7 t hh=[]:=iC hc;rw [e];refine ac Tryz.func93 ?_;conv=>whnf
  repeat' (first|refine zx ?_|apply zD<;>intro h<;>try omega)<;>conv=>whnf
  all_goals first|omega|exact b19
def b6W (l:List Fr) (h0:0<l.length) (h1:l.length<=100000):ec 174 [H9 l] [] (.c (.own 0 0 l.length true)) [flB l]:=by
 have m1:(l.map B3).length=l.length:=zq;have hl:0<(l.map B3).length:=om;refine ac Tryz.func174 ?_;conv=>whnf
 repeat' (first|refine zx ?_|refine ⟨hl,?_⟩|refine zz ?_|refine R9 rfl (by simp only [toC,lbr,a15];omega) ?_|refine v8 (G0 _) (by simp only [toC,lbr];omega) ?_|apply zD<;>intro h<;>try omega)<;>conv=>whnf
 all_goals first|omega|exact ⟨[some 0],rfl,rfl,⟨i6 (rows:=l.map B3) rfl rfl rfl rfl rfl,trivial⟩,⟨rfl,rfl,by simp [toC],fun h=>h⟩⟩
def smF (a b:Nat->Rat) (k:Nat):Nat->Rat:=fun j=>if j<k then a j+b j else a j
def bE8 (n:Nat) (a b:Nat->Rat) (h0:0<n) (hn:n<=1000) (ha:∀j,j<n->rl (a j)<=60000) (hb:∀j,j<n->rl (b j)<=60000):
 ec 137 [H9 (rF n a),H9 (rF n b)] [] (H9 (rF n fun j=>a j+b j)) []:=by
 have m1:((rF n b).map B3).length=n:=by simp [P7]
 have cl:=b6W (rF n a) (by rw [P7];exact h0) (by rw [P7];omega);rw [P7] at cl;have e9:rF n (fun j=>a j+b j)=rF n (smF a b n):=F9 fun j hj=>by unfold smF;rw [iB hj]
 rw [e9];refine ac Tryz.func137 ?_;conv=>whnf
 repeat' (first|refine zx ?_|refine .inr ⟨_,_,cl,?_⟩|apply zD<;>intro h<;>try omega)<;>conv=>whnf
 refine k6 g8 (fun k=>([J,J,J,J,J,S.c (C.own 0 0 n true),J,J,J,J,H9 (rF n b),eI n,eI k]++Jn 18,[flB (rF n (smF a b k))])) n tT [some 0] trivial
  ⟨rfl,rfl,⟨i6 (rows:=(rF n a).map B3) rfl rfl rfl rfl (by rw [F9 (g:=smF a b 0) (h:=a) fun j hj=>by unfold smF;rw [iC om]]),trivial⟩,⟨⟨rfl,rfl,rfl,fun h=>h⟩,m9 rfl,g9 om,g9 rfl,trivial⟩⟩ ?_
 intro k hk _;by_cases jj:k<n
 ·have eK:0+(k:Int).toNat=k:=by omega
  have ad:=a8H (a k) (b k) (ha k jj) (hb k jj);have gp:(rF n (smF a b k))[0+(k:Int).toNat]? =some (fz (a k)):=by rw [eK,L5 jj];unfold smF;rw [iC om]
  have e:D6 (flB (rF n (smF a b k))) ((flB (rF n (smF a b k))).rows.set (0+(k:Int).toNat) (frC (fz (a k+b k))))=flB (rF n (smF a b (k+1))):=by
   rw [R4 eK,a0W jj];refine congrArg flB (F9 fun j hj=>?_);unfold smF;by_cases h:j=k
   ·subst h;rw [iB rfl,iB om]
   ·rw [iC h];have:(j<k)↔(j<k+1):=om;simp only [this]
  conv=>whnf
  repeat' (first|refine zx ?_|refine a5F rfl jj ?_|refine z6 gp ?_|refine bl0 [10] ?_|apply zD<;>intro h<;>try omega)<;>conv=>whnf
  all_goals first|omega|exact ⟨jj,trivial,[some 0],rfl,rfl,⟨⟨rfl,rfl,rfl,.inl ⟨congrArg Blk.rows e,(congrArg Blk.rows e) ▸ j2 _⟩⟩,trivial⟩,⟨⟨rfl,rfl,rfl,fun h=>h⟩,rfl,rfl,g9 om,trivial⟩⟩
 ·have hke:k=n:=by omega
  subst hke;conv=>whnf
  repeat' (first|refine zx ?_|apply zD<;>intro h<;>try omega)<;>conv=>whnf
  all_goals first|omega|exact N6 rfl (fun h=>h) rfl rfl (by simp [P7])
def b38 {P:Program} {g:FuncId} {args:List S} {H:Hp} {b:Blk} {r r':S} {rows:List (List T)} (h:e8 P g args [] r [b]) (ha:args=args.map (a65 [])) (hok:args.all (okS 0)=true) (hm:b.mode=.live) (hb:b.rows=toC rows) (hr:aA9 r=true)
 (hr':r'=a65 [H.length] r):e8 P g args H r' (H++[b]):=by
 have ex:a4E [] H.length (([b]:Hp).length - ([]:Hp).length)=[H.length]:=rfl;refine W9 [] h ha hok rfl aq7 zq (fun k hk=>?_) zq hr (by rw [ex];exact hr') zq ?_ ?_
 ·simp at hk;subst hk;rw [hm];intro h;cases h
 ·intro i k hk;rw [ex];rcases i with _|i
  ·injection hk with hk;subst hk
   refine ⟨b,?_,E5 hb⟩;show (H++[b])[H.length]? =_;rw [lbc (lbR _)];simp
  ·simp at hk
 ·intro j hj _;rw [lbb hj]
def b3D {P:Program} {g:FuncId} {args:List S} {H:Hp} {b:Blk} {cs:List C} {s2:S} {j lo len:Nat} {app:Bool} (h:e8 P g args [] (.tup [.agg cs,s2]) [b]) (ha:args.all S.isT=true) (hm:b.mode=.live) (hb:L6 b.rows)
 (hf:aA9 (.tup [.agg cs,s2])=true) (hj:cs[j]? =some (.own 0 lo len app)):a0x P g args H (a65 [H.length] (.tup [.agg cs,s2])) [b]:=by
 refine ⟨h.1,fun w ι M vals hl hv hH hM hf0=>?_⟩;have:=h.2 w (fun _=>none) M vals hl (fun j s hj=>(hv j s hj).tree (lbv.1 ha s (lbm hj)))
  ⟨zq,zq,zq,zq,zq⟩ hM (fun _ _=>rfl)
 refine Calls.mono this ?_;rintro e w' ⟨v,rfl,ι',M',h1,h2,h3,h4,h5⟩;have hnl:∀x,¬a4k (fun _=>none) ([]:Hp) x:=by rintro x ⟨id,k,_,_,hk,_⟩;simp at hk
 obtain ⟨l,hl0⟩:∃l,ι' 0=some l:=by
  cases h1 with
  |tup vs hl hr=>
   have h0:=hr 0 _ rfl;generalize vs.getD 0 undef=v0 at h0;cases h0 with
   |agg us hl hr=>
    have h9:=hr j _ hj;generalize us.getD j undef=v9 at h9;cases h9 with
    |own hi=>exact ⟨_,hi⟩
    |nil hi=>exact ⟨_,hi⟩
 have hnew:G1 ι H.length [b].length (fun _=>l) H.length=some l:=by unfold G1;simp
 have hMM:∀x,a6U M [b].length (fun _=>l) x->M' x:=by
  intro x hx;rcases hx with hx|⟨k,hk,cap,size,he⟩
  ·rcases h5.mold x hx with h|h
   ·exact h
   ·exact absurd h (hnl x)
  ·have he:l=.blk x cap size:=he;subst he;exact h2.liv 0 b rfl hm x cap size hl0
 refine ⟨v,rfl,fun _=>l,?_,⟨h5.os,h5.tape,h5.output,h5.size,fun x hx=>h5.keep x hx (hnl x)⟩,?_,?_,?_⟩
 ·refine RS.keep (w:=w') (ι:=G1 ι H.length [b].length (fun _=>l)) (M:=M') (fun _ _ _=>rfl) (fun x hx=>.inl (hMM x hx)) (fun _ _ h=>h) (RS.ren (σ:=[H.length]) (fun id l' hi=>?_) hf h1);rcases id with _|id
  ·rw [hl0] at hi;injection hi with hi;subst hi;exact hnew
  ·rw [h4 (id+1) zq] at hi;cases hi
 ·intro k blk hk;cases k with
  |succ k=>simp at hk
  |zero=>
   simp at hk;subst hk;refine ⟨hm,?_⟩;have hbr:=h2.blk 0 b rfl (by rw [hm];intro h;cases h) l hl0;cases l with
   |nil=>exact hbr
   |blk x cap size=>
    have ⟨r1,r2,r3,r4,r5,cur,r6,r7,r8⟩:=hbr;refine ⟨r1,r2,r3,r4,r5,cur,r6,r7,fun i j c hc=>?_⟩;have ⟨u,u1,u2⟩:=r8 i j c hc;exact ⟨u,u1,aC4 hMM hb hc u2⟩
 ·intro k x cap size hk he;have he:l=.blk x cap size:=he;subst he;refine ⟨?_,h3 x (h2.liv 0 b rfl hm x cap size hl0)⟩;rcases h5.live x ⟨0,b,cap,size,rfl,hm,hl0⟩ with h|h
  ·exact absurd h (hnl x)
  ·exact h
 ·intro k k' x cap size cap' size' hk hk' _ _;simp at hk hk';omega
structure a6u where
 hh:Int
 state:Int
 w:List Rat
 wo:List Rat
 pr:List Rat
def a6u.row (v:a6u):List T:=[ti v.hh,ti v.state,V7 (v.w.map fz),V7 (v.wo.map fz),V7 (v.pr.map fz)]
abbrev b9K (v:a6u):S:=.agg (v.row.map C.t)
def aS6 {x:Rat}:sgR x > 0↔0<x:=by unfold sgR;split<;>(try split)<;>simp_all<;>grind
def b9f {x:Rat}:sgR x<0↔x<0:=by unfold sgR;split<;>(try split)<;>simp_all
structure b63 (s:m7) (g:List (Int × Rat)) (n B B1 B0:Nat):Prop where
 p:I7 s g n B
 q:I7 s (E8 g) n B1
 z:I7 s [] n B0
 g5:m8 (-1) 1500 g=true
 v:∀k,rl (n9 (g.take k) (s8 s g))<=50000
 u:∀k,rl (n9 ((E8 g).take k) (s8 s (E8 g)))<=50000
def a9N {s:m7} {g:List (Int × Rat)} {n B:Nat} (h:I7 s g n B):∀v ∈ s8 s g,rl v<=17000:=by
 intro v hv;have hb:=af4 h;have hn:=h.nn;have hB:=h.bb;obtain ⟨j,hj,rfl⟩:=a9l hv;have hp:a03 (j0 s).length s.n.toNat (F8 s g):=W6.p;rw [hn] at hj hp ⊢;rw [← ar8 hp hj];have key:∀k,k<=(j0 s).length->rl (ptK n (F8 s g).O (F8 s g).V (fun _=>0) k j)<=17000:=by
  intro k;induction k with
  |zero=>intro _;have:=rl0;show rl 0<=_;omega
  |succ k ih=>
   intro hk;rw [L4];simp only;split
   ·have:=hb.v k om;omega
   ·exact ih om
 exact key _ (lbR _)
noncomputable def bA2 (s:m7) (g:List (Int × Rat)) (hh:Int):a6u:=⟨hh,2,s8 s g,[],zOf s.rows.length (a3R s (F8 s g))++[((-1:Int):Rat)]⟩
def al9 {s:m7} {g:List (Int × Rat)} {n B:Nat} (h:I7 s g n B) (hout:H8 s g=.best) (hS:∀k,rl (n9 (g.take k) (s8 s g))<=50000) (H:Hp):
 ec 100 [W8 s,s6 g] H (.tup [.agg (C.t (ti 0)::frC (fz (n9 g (s8 s g)))++[.t (V7 ((s8 s g).map fz)),.own H.length 0 s.rows.length true,.t (.sl 0 .nil [])]),eI 0]) (H++[flB (rF s.rows.length (a3R s (F8 s g)))]):=
 b38 (a59 s g n B h hout (fun k=>by have:=hS k;omega) (fun v hv=>by have:=a9N h v hv;omega)) rfl rfl rfl rfl rfl rfl
def b3k {R:Nat} {y:Nat->Rat} {x:Rat}:(toC ((rF R y).map B3)).take R++toC [B3 (fz x)]=toC (((zOf R y++[x]).map fz).map B3):=by
 have e:(zOf R y++[x]).map fz=rF R y++[fz x]:=by rw [lbC,a3a];rfl
 rw [O9 (f:=B3) (l:=rF R y) (x:=fz x) (P7 R y).symm,e]
def bb7 {s:m7} {g:List (Int × Rat)} {n B:Nat} (h:I7 s g n B) (hout:H8 s g=.best) (hS:∀k,rl (n9 (g.take k) (s8 s g))<=50000) (H:Hp):
 a0x Tryz.prog 100 [W8 s,s6 g] H (.tup [.agg (C.t (ti 0)::frC (fz (n9 g (s8 s g)))++[.t (V7 ((s8 s g).map fz)),.own H.length 0 s.rows.length true,.t (.sl 0 .nil [])]),eI 0]) [flB (rF s.rows.length (a3R s (F8 s g)))]:=
 b3D (j:=6) (lo:=0) (len:=s.rows.length) (app:=true) (a59 s g n B h hout (fun k=>by have:=hS k;omega) (fun v hv=>by have:=a9N h v hv;omega)) rfl rfl (j2 _) rfl rfl
def ar9 (s:m7) (g:List (Int × Rat)) (n B B1 B0:Nat) (h:b63 s g n B B1 B0) (hh:Int) (hout:H8 s g=.best) (hv:0<n9 g (s8 s g)):
 ec 92 [W8 s,s6 g,eI hh] [] (b9K (bA2 s g hh)) []:=by
 have le:=al9 h.p hout h.v;have vb:=h.v g.length;rw [X9] at vb;have sg:=a2C (n9 g (s8 s g)) om;have sp:=aS6.2 hv;have i1:=V4 (-1) de de;have hR:=h.p.r;refine ac Tryz.func92 ?_;conv=>whnf
 repeat' (first|refine ax8 [0,1,2,3,4,5,7,6,8,9,10,11,12] zk zk ?_|refine zz ?_|refine qp sg ?_|refine qp i1 ?_|refine .inr ⟨_,_,le _,?_⟩|refine bl0 [5] ?_|refine v8 (by simp [toC,P7]) zu ?_|refine bl0 [0,1,6] ?_|refine bl0 [0,1] ?_|apply zD<;>intro h<;>try omega|refine zy ?_|fail)<;>conv=>whnf
 all_goals first|omega|exact n8 ⟨rfl,rfl,rfl,rfl,(show VC _ (fun id=>L2 [] id=true) (C.own 4 0 (s.rows.length+1) true) _ from v7 (k:={ mode:=.live,elem:=89,size:=4,rows:=(toC ((rF s.rows.length (a3R s (F8 s g))).map B3)).take s.rows.length++toC [B3 (fz ((-1:Int):Rat))],box:=false }) rfl rfl (fun h=>h) rfl b3k (by simp [zOf])),trivial⟩
noncomputable def aY8 (s:m7) (g:List (Int × Rat)) (c:Nat) (hh:Int):a6u:=⟨hh,1,zOf s.n.toNat fun j=>R6 (j0 s).length s.n.toNat (F8 s []) 1 (fun _=>0) j+R6 (j0 s).length s.n.toNat (F8 s (E8 g)) 0 (fun q=>if q=c then 1 else 0) j,s8 s g,[]⟩
noncomputable def bB2 (s:m7) (g:List (Int × Rat)) (hh:Int):a6u:=⟨hh,1,s8 s (E8 g),s8 s g,[]⟩
noncomputable def aS9 (s:m7) (g:List (Int × Rat)) (hh:Int):a6u:=⟨hh,0,[],s8 s g,zOf s.rows.length (a3R s (F8 s (E8 g)))⟩
def bq0 {s:m7} {g:List (Int × Rat)} {n B B0 c:Nat} (h:I7 s g n B) (h0:I7 s [] n B0) (hout:H8 s g=.col c) (hout0:H8 s []=.best) (H:Hp):
 a0x Tryz.prog 100 [W8 s,s6 g] H (.tup [.agg (C.t (ti 2)::bJ9++[.t (V7 ((s8 s []).map fz)),.t (.sl 0 .nil []),.t (V7 ((a6x s g c).map fz))]),eI 0]) []:=
 I8 (aT3 s g n B B0 c h h0 hout hout0) rfl rfl
def bF3 {s:m7} {g:List (Int × Rat)} {n B c:Nat} (h:I7 s g n B) (hc:c<n) {j:Nat} (hj:j<n):rl (R6 (j0 s).length n (F8 s g) 0 (fun q=>if q=c then 1 else 0) j)<=17000:=by
 have hb:=af4 h;have hB:=h.bb;have hp:a03 (j0 s).length n (F8 s g):=by have hn:=h.nn;subst hn;exact W6.p
 rw [← al5 hp hc hj];have key:∀k,k<=(j0 s).length->rl (ptK n (F8 s g).O (fun i=>-((F8 s g).A i c)) (fun j=>if (F8 s g).F c<n/\j=(F8 s g).F c then 1 else 0) k j)<=17000:=by
  intro k;induction k with
  |zero=>
   intro _;have:=rl0;have:=rl1;show rl (if _ then (1:Rat) else 0)<=_;split<;>omega
  |succ k ih=>
   intro hk;rw [L4];simp only;split
   ·rw [a3i];have:=hb.a k om c hc;omega
   ·exact ih om
 exact key _ (lbR _)
def aF3 (s:m7) (g:List (Int × Rat)) (n B B1 B0 c:Nat) (h:b63 s g n B B1 B0) (hh:Int) (hout:H8 s g=.best) (hv:¬0<n9 g (s8 s g)) (hq:H8 s (E8 g)=.col c) (hz:H8 s []=.best):
 ec 92 [W8 s,s6 g,eI hh] [] (b9K (aY8 s g c hh)) []:=by
 have le:=al9 h.p hout h.v;have vb:=h.v g.length;rw [X9] at vb;have sg:=a2C (n9 g (s8 s g)) om;have sp:¬sgR (n9 g (s8 s g)) > 0:=fun e=>hv (aS6.1 e)
 have hR:=h.p.r;have op:=a8h g h.g5 h.p.gb;have l2:=bq0 h.q h.z hq hz;have hn:=h.p.nn;have hcn:c<n:=by have:=(a74 hq).1;omega
 have e1:(s8 s []).map fz=rF n (R6 (j0 s).length n (F8 s []) 1 (fun _=>0)):=by unfold s8;rw [a3a,hn]
 have e2:(a6x s (E8 g) c).map fz=rF n (R6 (j0 s).length n (F8 s (E8 g)) 0 (fun q=>if q=c then 1 else 0)):=by unfold a6x;rw [a3a,hn]
 have sm:=bE8 n (R6 (j0 s).length n (F8 s []) 1 (fun _=>0)) (R6 (j0 s).length n (F8 s (E8 g)) 0 (fun q=>if q=c then 1 else 0)) om h.p.o.n1
  (fun j hj=>by
    have:rl (R6 (j0 s).length n (F8 s []) 1 (fun _=>0) j)<=17000:=a9N h.z _ (by unfold s8;rw [hn];exact lbx.2 ⟨j,lbB.2 hj,rfl⟩);omega)
  (fun j hj=>by have:=bF3 h.q hcn hj;omega)
 rw [← e1,←e2] at sm;have e3:rF n (fun j=>R6 (j0 s).length n (F8 s []) 1 (fun _=>0) j+R6 (j0 s).length n (F8 s (E8 g)) 0 (fun q=>if q=c then 1 else 0) j)=(aY8 s g c hh).w.map fz:=by
  unfold aY8;simp only;rw [a3a,hn]
 rw [e3] at sm;refine ac Tryz.func92 ?_;conv=>whnf
 repeat' (first|refine zx ?_|refine .inr ⟨_,_,le _,?_⟩|refine .inl ⟨_,_,l2 _,?_⟩|refine bl0 [5] ?_|refine bl0 [6] ?_|refine bl0 [0] ?_|apply zD<;>intro h<;>try omega)<;>conv=>whnf
 all_goals first|omega|exact n8 rz
def aZ4 (s:m7) (g:List (Int × Rat)) (n B B1 B0:Nat) (h:b63 s g n B B1 B0) (hh:Int) (hout:H8 s g=.best) (hv:¬0<n9 g (s8 s g)) (hq:H8 s (E8 g)=.best) (hv2:n9 (E8 g) (s8 s (E8 g))<0):
 ec 92 [W8 s,s6 g,eI hh] [] (b9K (bB2 s g hh)) []:=by
 have le:=al9 h.p hout h.v;have vb:=h.v g.length;rw [X9] at vb;have ub:=h.u (E8 g).length;rw [X9] at ub;have sg:=a2C (n9 g (s8 s g)) om;have sp:¬sgR (n9 g (s8 s g)) > 0:=fun e=>hv (aS6.1 e)
 have sg2:=a2C (n9 (E8 g) (s8 s (E8 g))) om;have sp2:=b9f.2 hv2;have hR:=h.p.r;have op:=a8h g h.g5 h.p.gb;have l2:=bb7 h.q hq h.u;refine ac Tryz.func92 ?_;conv=>whnf
 repeat' (first|refine zx ?_|refine .inr ⟨_,_,le _,?_⟩|refine .inl ⟨_,_,l2 _,?_⟩|refine bl0 [5] ?_|refine bl0 [6] ?_|refine bl0 [0] ?_|refine bl0 [0,1] ?_|apply zD<;>intro h<;>try omega)<;>conv=>whnf
 all_goals first|omega|exact n8 rz
def aD3 (s:m7) (g:List (Int × Rat)) (n B B1 B0:Nat) (h:b63 s g n B B1 B0) (hh:Int) (hout:H8 s g=.best) (hv:¬0<n9 g (s8 s g)) (hq:H8 s (E8 g)=.best) (hv2:¬n9 (E8 g) (s8 s (E8 g))<0):
 ec 92 [W8 s,s6 g,eI hh] [] (b9K (aS9 s g hh)) []:=by
 have le:=al9 h.p hout h.v;have vb:=h.v g.length;rw [X9] at vb;have ub:=h.u (E8 g).length;rw [X9] at ub;have sg:=a2C (n9 g (s8 s g)) om;have sp:¬sgR (n9 g (s8 s g)) > 0:=fun e=>hv (aS6.1 e)
 have sg2:=a2C (n9 (E8 g) (s8 s (E8 g))) om;have sp2:¬sgR (n9 (E8 g) (s8 s (E8 g)))<0:=fun e=>hv2 (b9f.1 e)
 have hR:=h.p.r;have op:=a8h g h.g5 h.p.gb;have l2:=bb7 h.q hq h.u;refine ac Tryz.func92 ?_;conv=>whnf
 repeat' (first|refine zx ?_|refine .inr ⟨_,_,le _,?_⟩|refine .inl ⟨_,_,l2 _,?_⟩|refine bl0 [5] ?_|refine bl0 [6] ?_|refine bl0 [0] ?_|refine bl0 [0,1] ?_|apply zD<;>intro h<;>try omega)<;>conv=>whnf
 all_goals first|omega|exact n8 ⟨rfl,rfl,rfl,rfl,(show VC _ (fun id=>L2 [] id=true) (C.own 4 0 s.rows.length true) _ from v7 (k:=flB (rF s.rows.length (a3R s (F8 s (E8 g))))) rfl rfl (fun h=>h) rfl (by show toC ((rF s.rows.length (a3R s (F8 s (E8 g)))).map B3)=toC (((zOf s.rows.length (a3R s (F8 s (E8 g)))).map fz).map B3);rw [a3a]) (by simp [zOf,aS9])),trivial⟩
structure bT6 where
 mv:Int
 mat:Int
def bT6.row (p:bT6):List T:=[ti p.mv,ti p.mat]
abbrev ir (n:Int):Rat:=((n:Int):Rat)
def b9y {n:Int} (h:-1000<=n/\n<=1000):rl (ir n)<=1:=by rw [a0T];have:=w9 (x:=n) om om;omega
instance:DecidableEq C7:=fun a b=>decidable_of_iff (a.terms=b.terms/\a.kind=b.kind/\a.value=b.value) ⟨fun ⟨h1,h2,h3⟩=>by cases a;cases b;simp_all,fun h=>by subst h;exact ⟨rfl,rfl,rfl⟩⟩
instance:DecidableEq m7:=fun a b=>decidable_of_iff (a.n=b.n/\a.rows=b.rows) ⟨fun ⟨h1,h2⟩=>by cases a;cases b;simp_all,fun h=>by subst h;exact ⟨rfl,rfl⟩⟩
def b2i:rl ((1:Int):Rat)<=200/\rl ((-1:Int):Rat)<=200/\rl ((0:Int):Rat)<=200:=by
 refine ⟨?_,?_,?_⟩
 ·have:=b9y (n:=1) de;unfold ir at this;omega
 ·have:=b9y (n:=-1) de;unfold ir at this;omega
 ·have:=b9y (n:=0) de;unfold ir at this;omega
def aI0 (w:C7):Bool:=decide (w.terms.length<=100) && w.terms.all (fun t=>decide (rl t.2<=200)) && decide (rl w.value<=200)
def aw9 {e:Ev} {p:Int}:∀k,(s7 e p k).all (fun t=>decide (rl t.2<=200))=true
 |0=>rfl
 |k+1=>by
  have ih:=aw9 (e:=e) (p:=p) k;unfold s7;have ⟨p1,p2,p3⟩:=b2i;split
  ·exact ih
  ·split
   ·rw [a0z,ih];simpa using p1
   ·split
    ·rw [a0z,ih];simpa using p2
    ·exact ih
def b3W {i:Nat} {kind:Int} {v:Rat} (h:rl v<=200):aI0 (E7 i kind v)=true:=by
 have ⟨p1,p2,p3⟩:=b2i;unfold aI0 E7;simp [h];simpa using p1
def bk9 {t:j9} {kind:Int} {i:Nat} {x:C6} (hx:t.ev.moves[i]? =some x) (hf:S8 t.ev t.finds=0) (hm:t.ev.moves.length<=14):(N5 t kind i x).all aI0=true:=by
 have ⟨p1,p2,p3⟩:=b2i;have hi:i<t.ev.moves.length:=(lbe.1 hx).1;unfold N5;rw [a0z,a0z,a0z];simp only [lbN];refine ⟨⟨⟨?_,?_⟩,?_⟩,?_⟩
 ·split
  ·rfl
  ·simp only [aQ7,List.all_nil,Bool.and_true];unfold aI0 C3;simp only [lbN,lbI];have hl:=a2h (e:=t.ev) (p:=x.src) i;refine ⟨⟨?_,?_⟩,p3⟩
   ·rw [lbq];simp;omega
   ·rw [a0z,aw9];simpa using p2
 ·unfold a0n;split
  ·rfl
  ·rename_i lo hi' hiv;have h:=ap7 (e:=t.ev) (x:=x) (by rw [hiv];rfl);have e:hiR (R3 t.ev x)=hi':=by rw [hiv];rfl
   rw [e] at h;simpa using b3W h.2
 ·rw [List.all_map,lbv];intro g hg;unfold z7 at hg;obtain ⟨f,hf',rfl⟩:=lbx.1 hg;have:=a0Y hf f (lby.1 hf').1;have hb:=U5 (x:=f.grams) om om;exact b3W (by rw [a0T];omega)
 ·rw [lbv];intro w hw;rw [a95] at hw;rw [hw.2];exact b3W p3
def bU7 {t:j9} {kind:Int} (ht:t5 t=0) (hm:t.ev.moves.length<=14):b2m (p7 t kind):=by
 have ⟨q1,q2,q3,q4,q5⟩:=H6 ht;have hall:(w6 t kind t.ev.moves.length).all aI0=true:=(a0j _ (lbR _)).2 fun i x hi hx=>bk9 hx q4 hm
 refine ⟨?_,fun w hw=>?_⟩
 ·have:=a8e (t:=t) (kind:=kind) (k:=t.ev.moves.length) om q2 q3;show (w6 t kind t.ev.moves.length).length<=_;omega
 ·have:=lbv.1 hall w hw;unfold aI0 at this;simp only [lbN,lbI,lbv] at this;exact ⟨this.1.1,this.1.2,this.2⟩
def a6h {x:Int} (h0:-1000000000000000000<=x) (h1:x<=1000000000000000000):bl x<=3:=Q8 (by simp only [pw];omega)
def bm0 {c:Q3} {reading day:Int} (h:O3 c day=true) (hr:btw reading 0 1099511627776=true):rl (a3u c reading day)<=7:=by
 unfold O3 V6 at h;rw [a0q] at hr;simp only [lbN,lbI,a0q] at h;have ⟨⟨⟨⟨⟨⟨⟨h1,h2⟩,h3⟩,_⟩,h4⟩,h5⟩,h6⟩,h7⟩:=h;have e1:0<=c.permille*reading:=lb0 om om;have e2:c.permille*reading<=1000*1099511627776:=a5N om om om om;have e3:0<=c.drift*(day - c.since):=lb0 om om;have e4:c.drift*(day - c.since)<=10000000*100000:=a5N om om om om;have b1:=a6h (x:=c.permille*reading) om om;have b2:=a6h (x:=1000) de de;have b3:=a6h (x:=c.grams+c.drift*(day - c.since)) om om;have l1:=Y7 (p:=c.permille*reading) (q:=1000) de;have l2:=a48 (Rat.divInt (c.permille*reading) 1000) ((c.grams+c.drift*(day - c.since):Int):Rat);have l3:rl ((c.grams+c.drift*(day - c.since):Int):Rat)<=3:=by
  rw [a0T];omega
 unfold a3u;omega
def be3 {cs:List Q3} {rs:List J5} {scale reading day:Int} {lo hi:Rat} (h:S5 cs rs scale reading day=some (lo,hi)):rl hi<=11:=by
 unfold S5 at h;split at h
 ·cases h
 ·rename_i i hi;have ⟨hb,c,hc,_,hcv⟩:=S1 hi;have e:a2r cs i=c:=by unfold a2r;rw [hc];rfl
  rw [e] at h;split at h
  ·cases h
  ·split at h
   ·rename_i hr;injection h with h;injection h with h1 h2;have l1:=bm0 hcv hr;rw [a0q] at hr;have l2:rl (reading:Rat)<=3:=by rw [a0T];have:=a6h (x:=reading) om om;omega
    have l3:=a48 (reading:Rat) (a3u c reading day);rw [← h2];omega
   ·cases h
def I9 (l:List (Int × Rat)):Prop:=∀t ∈ l,∃c:Int,t.2=((c:Int):Rat)/\bl c<=1
def U1 {i:Int} {c:Int} (h0:-1048575<=c) (h1:c<=1048575):I9 [(i,((c:Int):Rat))]:=by
 intro t ht;simp at ht;subst ht;exact ⟨c,rfl,w9 h0 h1⟩
def a77 {a b:List (Int × Rat)} (ha:I9 a) (hb:I9 b):I9 (a++b):=by
 intro t ht;rcases lbz.1 ht with h|h
 ·exact ha t h
 ·exact hb t h
def a49 {e:Ev} {p:Int}:∀k,I9 (s7 e p k)
 |0=>by intro t ht;cases ht
 |k+1=>by
  have ih:=a49 (e:=e) (p:=p) k;unfold s7;split
  ·exact ih
  ·split
   ·exact a77 ih (U1 de de)
   ·split
    ·exact a77 ih (U1 de de)
    ·exact ih
def bP5 {t:j9} {kind:Int} (ht:t5 t=0):∀w ∈ (p7 t kind).rows,b61 11 w:=by
 classical
 have ⟨q1,q2,q3,q4,q5⟩:=H6 ht;have z1:rl ((0:Int):Rat)<=11:=by have:=rl0;show rl 0<=_;omega
 have key:(w6 t kind t.ev.moves.length).all (fun w=>decide (b61 11 w))=true:=(a0j _ (lbR _)).2 fun i x hi hx=>by
  rw [lbv];intro w hw;refine lbH ?_;unfold N5 at hw;rw [lbz,lbz,lbz] at hw;rcases hw with ((hw|hw)|hw)|hw
  ·split at hw
   ·cases hw
   ·simp at hw;subst hw;exact ⟨a77 (a49 _) (U1 de de),z1⟩
  ·unfold a0n at hw;split at hw
   ·cases hw
   ·rename_i lo hi' hiv;simp at hw;subst hw;refine ⟨U1 de de,?_⟩;unfold R3 at hiv;split at hiv
    ·cases hiv
    ·exact be3 hiv
  ·obtain ⟨g,hg,rfl⟩:=lbx.1 hw;unfold z7 at hg;obtain ⟨f,hf',rfl⟩:=lbx.1 hg;have:=a0Y q4 f (lby.1 hf').1;refine ⟨U1 de de,?_⟩;show rl ((f.grams:Int):Rat)<=11;rw [a0T];have:=a6h (x:=f.grams) om om;have h1:bl 1<=1:=w9 de de;omega
  ·rw [a95] at hw;rw [hw.2];exact ⟨U1 de de,z1⟩
 intro w hw;exact lbL (lbv.1 key w hw)
def bR8 {s:m7} {g:List (Int × Rat)} {B0:Nat} (hI:∀w ∈ s.rows,b61 B0 w) (hg:I9 g):∀D,P6 (j0 s).length s.n.toNat (k9 s g) D->BdD (j0 s).length s.n.toNat (2 ^ s.n.toNat*(B0+4)) D:=by
 rintro D ⟨k,hk⟩;have inv:=a0p V3 hk;have h0:=b6t (g:=g) hI;refine ⟨fun i hi=>bu1 h0 om inv.p inv.i hi,fun i hi j hj=>bm6 h0 om inv.p inv.i hi hj,fun j hj=>?_⟩;have ⟨z,hz⟩:=inv.g;have hc:∀j,∃c:Int,L9 g j=((c:Int):Rat)/\bl c<=1:=fun j=>a39 hg g.length j
 refine bk7 h0 om inv.p inv.i hz (q:=1) (b:=fun l=>-(Classical.choose (hc l))) de (by have:=w9 (x:=1) de de;omega) (fun l hl=>?_) (fun l hl=>?_) hj
 ·have:=(a8k (hc l)).2;show bl (-(Classical.choose (hc l)))<=_;rw [a7s];omega
 ·have hs:=(a8k (hc l)).1;show ((1:Int):Rat)*-(L9 g l)=((-(Classical.choose (hc l)):Int):Rat);generalize Classical.choose (hc l)=x at hs ⊢;rw [hs];have e:((-x:Int):Rat)=-((x:Int):Rat):=by push_cast;rfl
  rw [e];have h1:((1:Int):Rat)=1:=rfl;rw [h1];grind
def a6b {l:List (Int × Rat)} {z:List Rat} {B:Nat} (h1:∀t ∈ l,rl t.2<=1) (h2:∀v ∈ z,rl v<=B):∀k,rl (n9 (l.take k) z)<=l.length*(B+4)+1:=by
 have key:∀k,k<=l.length->rl (n9 (l.take k) z)<=k*(B+4)+1:=by
  intro k;induction k with
  |zero=>intro _;rw [a85];have:=rl0;show rl 0<=_;omega
  |succ k ih=>
   intro hk;have ih:=ih om;rw [aT0 (show k<l.length by omega),L0];have a1:=h1 l[k] (lbE _);have a2:rl (z.getD l[k].1.toNat 0)<=B+1:=by
    by_cases hz:l[k].1.toNat<z.length
    ·have:=h2 _ (lbm (getD_some hz));omega
    ·rw [lbl,lbd om];have:=rl0;show rl 0<=_;omega
   have a3:=aY3 l[k].2 (z.getD l[k].1.toNat 0);have a4:=a48 (n9 (l.take k) z) (l[k].2*z.getD l[k].1.toNat 0);rw [lbV];omega
 intro k;by_cases hk:k<=l.length
 ·have h3:=key k hk;have h4:=lbU (B+4) hk;omega
 ·have h3:=key l.length (lbR _);rw [lbn (lbR _)] at h3;rw [lbn om];exact h3
def Q0 {l:List (Int × Rat)} (h:I9 l):∀t ∈ l,rl t.2<=1:=by
 intro t ht;have ⟨c,hc,hb⟩:=h t ht;rw [hc,a0T];have h1:bl 1<=1:=w9 de de;omega
def b3I:∀n,n<=8->(n+3)*(2 ^ n*15+2)<=50000/\n*(2 ^ n*15+4)+1<=50000/\1<=2 ^ n*15:=by
 intro n hn;have:∀n,n<9->(n+3)*(2 ^ n*15+2)<=50000/\n*(2 ^ n*15+4)+1<=50000/\1<=2 ^ n*15:=de;exact this n om
def O4 {t:j9} {kind:Int} (ht:t5 t=0) (hm:t.ev.moves.length<=8) {g:List (Int × Rat)} (hg:m8 (-1) (t.ev.moves.length:Nat) g=true) (hw:I9 g):
 I7 (p7 t kind) g t.ev.moves.length (2 ^ t.ev.moves.length*15):=by
 have ⟨q1,q2,q3,q4,q5⟩:=H6 ht;have hB:=bU7 (kind:=kind) ht om;have hl:(p7 t kind).rows.length<=576:=by
  have h1:=O5 (t:=t) (kind:=kind) t.ev.moves.length;have h2:t.ev.moves.length*(2+t.finds.length+t.cleans.length)<=8*72:=lbT hm om;show (w6 t kind t.ev.moves.length).length<=_;omega
 have hwr:=Q0 hw;refine ⟨⟨a1M om q2 q3,hg,rfl,om,fun w hw=>?_,fun t ht=>by have:=hwr t ht;omega,om⟩,hB,fun t ht=>by have:=hwr t ht;omega,?_,(b3I _ hm).2.2,(b3I _ hm).1,om⟩
 ·have ⟨a1,a2,a3⟩:=hB.t w hw;exact ⟨om,fun t ht=>by have:=a2 t ht;omega⟩
 ·exact bR8 (B0:=11) (bP5 ht) hw
def aa0 {s:m7} {g:List (Int × Rat)} {n B:Nat} (h:I7 s g n B):∀v ∈ s8 s g,rl v<=B:=by
 intro v hv;have hb:=af4 h;have hn:=h.nn;have h1:=h.b1;obtain ⟨j,hj,rfl⟩:=a9l hv;have hp:a03 (j0 s).length s.n.toNat (F8 s g):=W6.p;rw [hn] at hj hp ⊢;rw [← ar8 hp hj];have key:∀k,k<=(j0 s).length->rl (ptK n (F8 s g).O (F8 s g).V (fun _=>0) k j)<=B:=by
  intro k;induction k with
  |zero=>intro _;have:=rl0;show rl 0<=_;omega
  |succ k ih=>
   intro hk;rw [L4];simp only;split
   ·exact hb.v k om
   ·exact ih om
 exact key _ (lbR _)
def a7h {l:List (Int × Rat)} (h:I9 l):I9 (E8 l):=by
 intro t ht;obtain ⟨u,hu,rfl⟩:=lbx.1 ht;have ⟨c,hc,hb⟩:=h u hu;refine ⟨-c,?_,by rw [a7s];exact hb⟩;show u.2*((-1:Int):Rat)=((-c:Int):Rat);rw [hc];have e:((-c:Int):Rat)=-((c:Int):Rat):=by push_cast;rfl
 have e1:((-1:Int):Rat)=-1:=rfl;rw [e,e1];grind
def a2M {n:Int}:∀{l:List (Int × Rat)} {last:Int},m8 last n l=true->m8 last n (E8 l)=true
 |[],_,_=>rfl
 |a::r,last,h=>by
  unfold m8 at h;show m8 last n ((a.1,a.2*((-1:Int):Rat))::E8 r)=true;unfold m8;simp only [lbN,lbI] at h ⊢;refine ⟨⟨⟨h.1.1.1,h.1.1.2⟩,fun e=>h.1.2 ?_⟩,a2M h.2⟩;have e1:((-1:Int):Rat)=-1:=rfl;rw [e1] at e;grind
def a3F (l:List (Int × Rat)):(E8 l).length=l.length:=a33 _ _
def b36 {t:j9} {kind:Int} (ht:t5 t=0) (hm:t.ev.moves.length<=8) {g:List (Int × Rat)} (hg:m8 (-1) (t.ev.moves.length:Nat) g=true) (hw:I9 g):
 b63 (p7 t kind) g t.ev.moves.length (2 ^ t.ev.moves.length*15) (2 ^ t.ev.moves.length*15) (2 ^ t.ev.moves.length*15):=by
 have p:=O4 (kind:=kind) ht hm hg hw;have q:=O4 (kind:=kind) ht hm (a2M hg) (a7h hw);have z:=O4 (kind:=kind) ht hm (g:=[]) rfl (fun t ht=>by cases ht);have hl:g.length<=t.ev.moves.length:=by
  have:=E4 hg;omega
 have hp:=(b3I _ hm).2.1;have hmul:=lbU (2 ^ t.ev.moves.length*15+4) hl;refine ⟨p,q,z,ai2 om hg,fun k=>?_,fun k=>?_⟩
 ·have:=a6b (Q0 hw) (aa0 p) k;omega
 ·have:=a6b (Q0 (a7h hw)) (aa0 q) k;rw [a3F] at this;omega
noncomputable def a2i (s:m7) (g:List (Int × Rat)) (hh:Int):a6u:=
 open Classical in
 if 0<n9 g (s8 s g) then bA2 s g hh else match H8 s (E8 g) with
 |.col c=>aY8 s g c hh
 |_=>if n9 (E8 g) (s8 s (E8 g))<0 then bB2 s g hh else aS9 s g hh
def a6p {z:List Rat} (hz:∀v ∈ z,0<=v):∀l:List (Int × Rat),(∀ t ∈ l,0<=t.2)->0<=n9 l z:=by
 intro l hl;have key:∀k,k<=l.length->0<=n9 (l.take k) z:=by
  intro k;induction k with
  |zero=>intro _;rw [a85];exact lb3
  |succ k ih=>
   intro hk;have ih:=ih om;rw [aT0 (show k<l.length by omega),L0];have h1:=hl l[k] (lbE _);have h2:0<=z.getD l[k].1.toNat 0:=by
    by_cases jj:l[k].1.toNat<z.length
    ·exact hz _ (lbm (getD_some jj))
    ·rw [lbl,lbd om];exact lb3
   have h3:=lb1 h1 h2;grind
 have:=key l.length (lbR _);rwa [X9] at this
def aL5 {s:m7} {g:List (Int × Rat)} (hr:q9 s=true) (hg:m8 (-1) ((s.n.toNat:Nat):Int) g=true) (hp:∀t ∈ g,0<=t.2) (hz:H8 s []=.best):H8 s g=.best:=by
 rcases a4C s g with h|⟨r,h⟩|⟨c,h⟩
 ·exact h
 ·have h1:=(Y1 hr rfl hz).1;rw [a5i h] at h1;cases h1
 ·have ⟨h1,h2⟩:=a7g hr hg h;have:=a6p h1.pos g hp;exact absurd h2 zg
def not_row {s:m7} {g:List (Int × Rat)} (hr:q9 s=true) (hz:H8 s []=.best):H8 s g=.best\/∃c,H8 s g=.col c:=by
 rcases a4C s g with h|⟨r,h⟩|h
 ·exact .inl h
 ·have h1:=(Y1 hr rfl hz).1;rw [a5i h] at h1;cases h1
 ·exact .inr h
def b6V (s:m7) (g:List (Int × Rat)) (n B B1 B0:Nat) (h:b63 s g n B B1 B0) (hh:Int) (hp:∀t ∈ g,0<=t.2) (hz:H8 s []=.best):
 ec 92 [W8 s,s6 g,eI hh] [] (b9K (a2i s g hh)) []:=by
 have hn:=h.p.nn;have hg:m8 (-1) ((s.n.toNat:Nat):Int) g=true:=by rw [hn];exact h.p.o.tg
 have hb:=aL5 h.p.o.r hg hp hz;unfold a2i;by_cases h1:0<n9 g (s8 s g)
 ·rw [iB h1];exact ar9 s g n B B1 B0 h hh hb h1
 ·rw [iC h1];rcases not_row (g:=E8 g) h.p.o.r hz with h2|⟨c,h2⟩
  ·rw [h2];simp only;by_cases h3:n9 (E8 g) (s8 s (E8 g))<0
   ·rw [iB h3];exact aZ4 s g n B B1 B0 h hh hb h1 h2 h3
   ·rw [iC h3];exact aD3 s g n B B1 B0 h hh hb h1 h2 h3
  ·rw [h2];exact aF3 s g n B B1 B0 c h hh hb h1 h2 hz
def ai9 (v:Rat):Prop:=∃z:Int,((1000:Nat):Rat)*v=((z:Int):Rat)/\z.natAbs<=2305843009213693952
def bf2 (w:C7):Prop:=I9 w.terms/\ai9 w.value
def b6Q {x:Int} (h0:-1000000000000000<=x) (h1:x<=1000000000000000):ai9 ((x:Int):Rat):=⟨1000*x,by push_cast;rfl,om⟩
def a5G:ai9 0:=⟨0,by show _=(0:Rat);grind,de⟩
def b66 {x:Rat} (h:ai9 x):ai9 (-x):=by
 have ⟨z,h1,h2⟩:=h;exact ⟨-z,by push_cast;rw [← h1];grind,by rw [a2v];exact h2⟩
def b9e {cs:List Q3} {rs:List J5} {scale reading day:Int} {lo hi:Rat} (h:S5 cs rs scale reading day=some (lo,hi)):ai9 hi:=by
 unfold S5 at h;split at h
 ·cases h
 ·rename_i i hi;have ⟨hb,c,hc,_,hcv⟩:=S1 hi;have e:a2r cs i=c:=by unfold a2r;rw [hc];rfl
  rw [e] at h;split at h
  ·cases h
  ·split at h
   ·rename_i hr;injection h with h;injection h with h1 h2;rw [← h2];unfold O3 V6 at hcv;rw [a0q] at hr;simp only [lbN,lbI,a0q] at hcv;have ⟨⟨⟨⟨⟨⟨⟨h1,h2⟩,h3⟩,_⟩,h4⟩,h5⟩,h6⟩,h7⟩:=hcv;have e1:0<=c.permille*reading:=lb0 om om;have e2:c.permille*reading<=1000*1099511627776:=a5N om om om om;have e3:0<=c.drift*(day - c.since):=lb0 om om;have e4:c.drift*(day - c.since)<=10000000*100000:=a5N om om om om;refine ⟨1000*reading+(c.permille*reading+1000*(c.grams+c.drift*(day - c.since))),?_,om⟩;unfold a3u;have e5:((1000:Nat):Rat)*Rat.divInt (c.permille*reading) 1000=((c.permille*reading:Int):Rat):=by
     rw [a84];have:((1000:Nat):Rat)=((1000:Int):Rat):=rfl;rw [this];rw [af3,←aa8,ar3 (((1000:Int):Rat)),aa8,b2f _ de];grind
    have e6:((1000:Nat):Rat)*((reading:Rat)+(Rat.divInt (c.permille*reading) 1000+((c.grams+c.drift*(day - c.since):Int):Rat)))=((1000:Nat):Rat)*(reading:Rat)+(((1000:Nat):Rat)*Rat.divInt (c.permille*reading) 1000+((1000:Nat):Rat)*((c.grams+c.drift*(day - c.since):Int):Rat)):=zg;rw [e6,e5];push_cast;rfl
   ·cases h
def bz2 {t:j9} {kind:Int} (ht:t5 t=0):∀w ∈ (p7 t kind).rows,bf2 w:=by
 classical
 have ⟨q1,q2,q3,q4,q5⟩:=H6 ht;have key:(w6 t kind t.ev.moves.length).all (fun w=>decide (bf2 w))=true:=(a0j _ (lbR _)).2 fun i x hi hx=>by
  rw [lbv];intro w hw;refine lbH ?_;unfold N5 at hw;rw [lbz,lbz,lbz] at hw;rcases hw with ((hw|hw)|hw)|hw
  ·split at hw
   ·cases hw
   ·simp at hw;subst hw;exact ⟨a77 (a49 _) (U1 de de),a5G⟩
  ·unfold a0n at hw;split at hw
   ·cases hw
   ·rename_i lo hi' hiv;simp at hw;subst hw;refine ⟨U1 de de,?_⟩;unfold R3 at hiv;split at hiv
    ·cases hiv
    ·exact b9e hiv
  ·obtain ⟨g,hg,rfl⟩:=lbx.1 hw;unfold z7 at hg;obtain ⟨f,hf',rfl⟩:=lbx.1 hg;have:=a0Y q4 f (lby.1 hf').1;exact ⟨U1 de de,b6Q om om⟩
  ·rw [a95] at hw;rw [hw.2];exact ⟨U1 de de,a5G⟩
 intro w hw;exact lbL (lbv.1 key w hw)
def a5w {c:Int} (h:bl c<=1):c.natAbs<=1048575:=by
 have h1:=U3 c.natAbs;have h2:(dg c.natAbs).length<=1:=h;have h3:pw (dg c.natAbs).length<=pw 1:=by
  have:(dg c.natAbs).length=0\/(dg c.natAbs).length=1:=om;rcases this with h|h<;>rw [h]
  ·decide
  ·exact aC2 _
 have h4:pw 1=1048576:=de;omega
def b02 {b:Bool} {x:Rat} {c:Int} (h:x=((c:Int):Rat)):∃c':Int,Z4 b x=((c':Int):Rat)/\c'.natAbs=c.natAbs:=by
 cases b with
 |false=>exact ⟨c,h,rfl⟩
 |true=>exact ⟨-c,by show -x=_;rw [h];push_cast;rfl,a2v c⟩
def a9B {s:m7} {g:List (Int × Rat)}:a07 (j0 s).length s.n.toNat (k9 s g):=⟨fun _ _=>rfl,fun _ _=>rfl⟩
def b6q {s:m7} {g:List (Int × Rat)} (hI:∀w ∈ s.rows,bf2 w) (hg:I9 g):aG0 (j0 s).length s.n.toNat 1000 2305843009213693952 1048575 1048575 (k9 s g) (fun j=>-(L9 g j)) where
 k:=de
 v:=fun i hi=>by
  have ⟨f,hf⟩:=iA hi;have ⟨x,hx,_⟩:=Y8.1 (lbm hf);have h2:=(hI x (lbm hx)).2;have hfd:(j0 s).getD i (0,false)=f:=by rw [lbl,hf];rfl
  have eV:(k9 s g).V i=Z4 f.2 x.value:=by show a3Q s ((j0 s).getD i (0,false))=_;rw [hfd];unfold a3Q;rw [hx]
  rw [eV];cases f.2 with
  |false=>exact h2
  |true=>exact b66 h2
 a:=fun i j hi hj=>by
  have ⟨f,hf⟩:=iA hi;have ⟨x,hx,_⟩:=Y8.1 (lbm hf);have h1:=(hI x (lbm hx)).1;have hfd:(j0 s).getD i (0,false)=f:=by rw [lbl,hf];rfl
  have eA:(k9 s g).A i j=Z4 f.2 (L9 x.terms j):=by show a3D s ((j0 s).getD i (0,false)) j=_;rw [hfd];unfold a3D;rw [hx]
  rw [eA];have ⟨c,hc,hb⟩:=a39 h1 x.terms.length j;have ⟨c',hc',hb'⟩:=b02 (b:=f.2) (x:=L9 x.terms j) hc;exact ⟨c',hc',by rw [hb'];exact a5w hb⟩
 g:=fun j hj=>by
  have ⟨c,hc,hb⟩:=a39 hg g.length j;exact ⟨-c,by rw [show L9 g j=((c:Int):Rat) from hc];push_cast;rfl,by rw [a2v];exact a5w hb⟩
 a1:=de
 ag:=de
def b6A:∀n,n<10->((a51 (n+1) fun c=>if c=0 then 2305843009213693952 else 1048575:Nat):Int)<pw 15/\((a51 n fun _=>1048575:Nat):Int)<pw 15/\((1000*a51 n fun _=>1048575:Nat):Int)<pw 15:=by decide +kernel
structure M7 (s:m7):Prop where
 r:q9 s=true
 i:∀w ∈ s.rows,bf2 w
 n:s.n<=9
 l:s.rows.length<=999
def b7L {s:m7} {g:List (Int × Rat)} (h:M7 s) (hg:I9 g):∀D,P6 (j0 s).length s.n.toNat (k9 s g) D->BdD (j0 s).length s.n.toNat 15 D:=by
 intro D hD;have hn:=X0 h.r;have:=h.n;have ⟨p1,p2,p3⟩:=b6A s.n.toNat om;have ⟨b1,b2,b3⟩:=aC0 a9B (b6q h.i hg) V3 hD p1 p2 p3 p2;exact ⟨b1,fun i hi j hj=>b2 i j hi hj,b3⟩
def scT (d:Int) (l:List (Int × Rat)):List (Int × Rat):=l.map fun t=>(t.1,((d:Int):Rat)*t.2)
def T7 (w:C7):C7:=⟨scT (w.value.den:Int) w.terms,w.kind,((w.value.num:Int):Rat)⟩
def k8 (s:m7):m7:=⟨s.n,s.rows.map T7⟩
def aH5 {d:Int} (hd:0<d):∀{last n:Int} {l:List (Int × Rat)},m8 last n (scT d l)=m8 last n l
 |_,_,[]=>rfl
 |last,n,a::r=>by
  have hq:((d:Int):Rat)≠0:=by intro h;have:d=0:=by exact_mod_cast h
                              omega
  show (decide (last<a.1) && decide (a.1<n) && decide (((d:Int):Rat)*a.2≠0) && m8 a.1 n (scT d r))=(decide (last<a.1) && decide (a.1<n) && decide (a.2≠0) && m8 a.1 n r);rw [aH5 hd]
  congr 2
  by_cases h:a.2=0
  ·rw [h];have:((d:Int):Rat)*0=0:=by grind
   simp [this]
  ·have:((d:Int):Rat)*a.2≠0:=fun e=>by rcases aA8.1 e with e|e<;>contradiction
   simp [h,this]
def a1v (x:Rat):(0:Int)<(x.den:Int):=by have:=x.den_pos;omega
def b1q (n:Int) (w:C7):A7 n (T7 w)=A7 n w:=by
 unfold A7;show (m8 (-1) n (scT _ w.terms) && _ && _)=_;rw [aH5 (a1v _)];rfl
def a6q (s:m7):q9 (k8 s)=q9 s:=by
 unfold q9 k8;simp only [lbr,List.all_map];have e:(A7 s.n ∘ T7)=A7 s.n:=by funext w;exact b1q s.n w
 rw [e]
def b5b {d:Int} (z:List Rat) (l:List (Int × Rat)):n9 (scT d l) z=((d:Int):Rat)*n9 l z:=by
 have key:∀k,k<=l.length->n9 ((scT d l).take k) z=((d:Int):Rat)*n9 (l.take k) z:=by
  intro k;induction k with
  |zero=>intro _;show ((0:Int):Rat)=_*((0:Int):Rat);have:((0:Int):Rat)=0:=rfl
         rw [this];grind
  |succ k ih=>
   intro hk;have ⟨t,ht⟩:=@iA _ l k om;have ht2:(scT d l)[k]? =some (t.1,((d:Int):Rat)*t.2):=by unfold scT;rw [lba,ht];rfl
   rw [N0 ht,N0 ht2,L0,L0,ih om];grind
 have h:=key l.length (lbR _);rw [X9,lbn (by simp [scT])] at h;exact h
def b7x {w:C7} {z:List Rat}:((T7 w).kind≠1->(T7 w).value<=n9 (T7 w).terms z)/\((T7 w).kind≠0->n9 (T7 w).terms z<=(T7 w).value)↔(w.kind≠1->w.value<=n9 w.terms z)/\(w.kind≠0->n9 w.terms z<=w.value):=by
 have hd:(0:Rat)<(((w.value.den:Int):Int):Rat):=by exact_mod_cast a1v w.value
 have e1:(T7 w).value=(((w.value.den:Int):Int):Rat)*w.value:=(al7 w.value).symm;have e2:n9 (T7 w).terms z=(((w.value.den:Int):Int):Rat)*n9 w.terms z:=b5b z w.terms;have k:(T7 w).kind=w.kind:=rfl;rw [k,e1,e2];have m1:∀x y:Rat,(((w.value.den:Int):Int):Rat)*x<=(((w.value.den:Int):Int):Rat)*y↔x<=y:=fun x y=>by
  constructor
  ·intro h;apply a02;intro hn;have:0<x - y:=zg;have:=lb2 hd this;grind
  ·intro h;exact Rat.mul_le_mul_of_nonneg_left h zg
 rw [m1,m1]
theorem sc_holds (s:m7) (z:List Rat):k7 (k8 s) z=true↔k7 s z=true:=by
 rw [Z0,Z0,a6q];have e:(∀ w ∈ (k8 s).rows,(w.kind≠1->w.value<=n9 w.terms z)/\(w.kind≠0->n9 w.terms z<=w.value))↔∀w ∈ s.rows,(w.kind≠1->w.value<=n9 w.terms z)/\(w.kind≠0->n9 w.terms z<=w.value):=by
  constructor
  ·intro h w hw;exact b7x.1 (h (T7 w) (List.mem_map_of_mem hw))
  ·intro h w hw;obtain ⟨w0,hw0,rfl⟩:=lbx.1 hw;exact b7x.2 (h w0 hw0)
 rw [e];rfl
def av4 {s:m7} {i:Nat} {w:C7} (h:s.rows[i]? =some w):(k8 s).rows[i]? =some (T7 w):=by
 show (s.rows.map T7)[i]? =_;rw [lba,h];rfl
def bf0 {s:m7} {w:C7} (h:w ∈ (k8 s).rows):∃w0 ∈ s.rows,w=T7 w0:=by
 obtain ⟨w0,h1,rfl⟩:=lbx.1 h;exact ⟨w0,h1,rfl⟩
def a4p {v:Rat} (h:ai9 v):(v.den:Int)<=1000/\v.num.natAbs<=2305843009213693952:=by
 have ⟨z,h1,h2⟩:=h;have hd:=a1v v;have hm:=al7 v;have e:1000*v.num=z*(v.den:Int):=by
  have:(((1000*v.num:Int):Int):Rat)=((z*(v.den:Int):Int):Rat):=by
   push_cast;rw [← h1];have hm2:((v.num:Int):Rat)=(((v.den:Int):Int):Rat)*v:=hm.symm;rw [hm2];have:((1000:Nat):Rat)=1000:=rfl;rw [this];push_cast;grind
  exact_mod_cast this
 have hdv:(v.den:Int) ∣ 1000*v.num:=⟨z,by rw [e,a7P]⟩;have hcop:Int.gcd (v.den:Int) v.num=1:=by
  have:=v.reduced;rw [Int.gcd_comm];exact this
 have hd1000:(v.den:Int) ∣ 1000:=by
  have h1:v.den ∣ 1000*v.num.natAbs:=by
   have:=Int.natAbs_dvd_natAbs.2 hdv;rwa [a3y] at this
  have h2:Nat.Coprime v.den v.num.natAbs:=by
   have:=v.reduced;exact this.symm
  have h3:v.den ∣ 1000:=h2.dvd_of_dvd_mul_right h1;exact Int.natCast_dvd_natCast.2 h3
 have hle:=Int.le_of_dvd de hd1000;refine ⟨hle,?_⟩;have e2:1000*v.num.natAbs=z.natAbs*v.den:=by
  have:=congrArg Int.natAbs e;rw [a3y,a3y] at this;exact this
 have:z.natAbs*v.den<=2305843009213693952*1000:=lbT h2 om;omega
def bd7 {s:m7} {g:List (Int × Rat)} (hI:∀w ∈ s.rows,bf2 w) (hg:I9 g):aG0 (j0 (k8 s)).length (k8 s).n.toNat 1 2305843009213693952 1048575000 1048575000 (k9 (k8 s) g) (fun j=>-(L9 g j)) where
 k:=de
 v:=fun i hi=>by
  have ⟨f,hf⟩:=iA hi;have ⟨x,hx,_⟩:=Y8.1 (lbm hf);obtain ⟨x0,hx0,rfl⟩:=bf0 (lbm hx);have h2:=(a4p (hI x0 hx0).2).2;have hfd:(j0 (k8 s)).getD i (0,false)=f:=by rw [lbl,hf];rfl
  have eV:(k9 (k8 s) g).V i=Z4 f.2 (T7 x0).value:=by show a3Q (k8 s) ((j0 (k8 s)).getD i (0,false))=_;rw [hfd];unfold a3Q;rw [hx]
  rw [eV];have ⟨c',hc',hb'⟩:=b02 (b:=f.2) (x:=(T7 x0).value) (c:=x0.value.num) rfl;exact ⟨c',by rw [hc'];show (1:Rat)*_=_;grind,by rw [hb'];exact h2⟩
 a:=fun i j hi hj=>by
  have ⟨f,hf⟩:=iA hi;have ⟨x,hx,_⟩:=Y8.1 (lbm hf);obtain ⟨x0,hx0,rfl⟩:=bf0 (lbm hx);have h1:=(hI x0 hx0).1;have h2:=(a4p (hI x0 hx0).2).1;have h3:=a1v x0.value;have hfd:(j0 (k8 s)).getD i (0,false)=f:=by rw [lbl,hf];rfl
  have eA:(k9 (k8 s) g).A i j=Z4 f.2 (L9 (T7 x0).terms j):=by show a3D (k8 s) ((j0 (k8 s)).getD i (0,false)) j=_;rw [hfd];unfold a3D;simp only [hx]
  rw [eA];have key:∀k,∃c:Int,T4 (scT (x0.value.den:Int) x0.terms) k j=((c:Int):Rat)/\c.natAbs<=1048575000:=by
   intro k;induction k with
   |zero=>exact ⟨0,rfl,de⟩
   |succ k ih=>
    cases hk:x0.terms[k]? with
    |none=>rw [T4,show (scT (x0.value.den:Int) x0.terms)[k]? =none by unfold scT;rw [lba,hk];rfl];exact ih
    |some t=>
     rw [Q9 (t:=(t.1,(((x0.value.den:Int):Int):Rat)*t.2)) (by unfold scT;rw [lba,hk];rfl)];simp only;split
     ·have ⟨c,hc,hb⟩:=h1 t (lbm hk);refine ⟨(x0.value.den:Int)*c,by rw [hc];push_cast;rfl,?_⟩;rw [a3y];have:=a5w hb
      calc (x0.value.den:Int).natAbs*c.natAbs<=1000*1048575:=lbT om this
       _=1048575000:=rfl
     ·exact ih
  have ⟨c,hc,hb⟩:=key (T7 x0).terms.length;have ⟨c',hc',hb'⟩:=b02 (b:=f.2) (x:=L9 (T7 x0).terms j) hc;exact ⟨c',hc',by rw [hb'];exact hb⟩
 g:=fun j hj=>by
  have ⟨c,hc,hb⟩:=a39 hg g.length j;exact ⟨-c,by rw [show L9 g j=((c:Int):Rat) from hc];push_cast;rfl,by rw [a2v];have:=a5w hb;omega⟩
 a1:=de
 ag:=de
structure ZB (m n b:Nat) (Z:Zd):Prop where
 v:∀i,i<m->bl (Z.V i)<=b
 a:∀i,i<m->∀j,j<n->bl (Z.A i j)<=b
 c:∀j,j<n->bl (Z.C j)<=b
 d:bl Z.D<=b
def bF5 {m n BV BA BG b:Nat} {D0 D:Fd} {g0:Nat->Rat} (h0:a07 m n D0) (h:aG0 m n 1 BV BA BG D0 g0) (hv:a5j m n D0 g0 D0) (hD:P6 m n D0 D)
 (b1:((a51 (n+1) fun c=>if c=0 then BV else BA:Nat):Int)<pw b) (b2:((a51 n fun _=>BG:Nat):Int)<pw b) (b4:((a51 n fun _=>BA:Nat):Int)<pw b):
 (∃ q,a9n m n D0 D q)/\ZB m n b (a0s m n D0 D):=by
 have hex:=bM8 h0 h hv hD;refine ⟨hex,?_⟩;have ⟨hd,hr⟩:=a7A hex;have ⟨k,hk⟩:=hD;have hi:=a0p hv hk;have ⟨d,hdd,hdb⟩:=aR7 h (D:=D) hi.p.fb;have hq:(a0s m n D0 D).D=d\/(a0s m n D0 D).D=-d:=by
  rcases hd.det with e|e
  ·left;rw [e] at hdd;exact_mod_cast hdd
  ·right
   rw [e] at hdd;have:(((-(a0s m n D0 D).D:Int):Int):Rat)=((d:Int):Rat):=by push_cast;exact hdd
   have:-(a0s m n D0 D).D=d:=by exact_mod_cast this
   omega
 have ent:∀(z p:Int) (x:Rat),((z:Int):Rat)=(((a0s m n D0 D).D:Int):Rat)*x->((p:Int):Rat)=x*((d:Int):Rat)->z.natAbs=p.natAbs:=by
  intro z p x hz hp;rcases hq with e|e
  ·have:((z:Int):Rat)=((p:Int):Rat):=by rw [hz,hp,e];grind
   have:z=p:=by exact_mod_cast this
   rw [this]
  ·have:((z:Int):Rat)=(((-p:Int):Int):Rat):=by push_cast;rw [hz,hp,e];push_cast;grind
   have:z=-p:=by exact_mod_cast this
   rw [this,a2v]
 refine ⟨fun i him=>?_,fun i him j hj=>?_,fun j hj=>?_,?_⟩
 ·have ⟨p,hp,hpb⟩:=aq0 h (D:=D) hi.p.fb (hi.p.ob i him);rw [b8z h0 hi.i him,hdd] at hp;have e:=ent _ p _ (hr.v i him) (by rw [← hp,show ((1:Nat):Rat)=1 from rfl];grind);exact a2W (by rw [e];exact hpb) b1
 ·have ⟨p,hp,hpb⟩:=a4q h (D:=D) hi.p.fb (lbR _) (u:=uV n D0 (D.O i)) (fun l hl=>ab7 h (hi.p.ob i him) hl) j;rw [b4a h0 hi.i him hj,hdd] at hp;have e:=ent _ (-p) _ (hr.a i him j hj) (by push_cast;rw [← hp];grind);exact a2W (by rw [e,a2v];exact hpb) b4
 ·have ⟨z,hz⟩:=hi.g;have ⟨p,hp,hpb⟩:=a4q h (D:=D) hi.p.fb h.ag (u:=uG g0) (fun l hl=>h.g l hl) j;rw [b81 h0 hi.i hz hj,hdd] at hp;have e:=ent _ p _ (hr.c j hj) hp.symm;exact a2W (by rw [e];exact hpb) b2
 ·have:(a0s m n D0 D).D.natAbs=d.natAbs:=by rcases hq with e|e<;>rw [e];rw [a2v]
  exact a2W (by rw [this];exact hdb) b4
def aG8:∀n,n<10->((a51 (n+1) fun c=>if c=0 then 2305843009213693952 else 1048575000:Nat):Int)<pw 25/\((a51 n fun _=>1048575000:Nat):Int)<pw 25:=by decide +kernel
def b0u {s:m7} {g:List (Int × Rat)} (h:M7 s) (hg:I9 g) {D:Fd} (hD:P6 (j0 (k8 s)).length (k8 s).n.toNat (k9 (k8 s) g) D):
 (∃ q,a9n (j0 (k8 s)).length (k8 s).n.toNat (k9 (k8 s) g) D q)/\ZB (j0 (k8 s)).length (k8 s).n.toNat 25 (a0s (j0 (k8 s)).length (k8 s).n.toNat (k9 (k8 s) g) D):=by
 have hn:=X0 h.r;have:=h.n;have ⟨p1,p2⟩:=aG8 (k8 s).n.toNat (by show s.n.toNat<10;omega);exact bF5 a9B (bd7 h.i hg) V3 hD p1 p2 p2
def b2j {s:m7} {g:List (Int × Rat)} (h:M7 s) (hg:I9 g):(a0s (j0 (k8 s)).length (k8 s).n.toNat (k9 (k8 s) g) (k9 (k8 s) g)).D=1:=by
 have ⟨⟨q,hq⟩,_⟩:=b0u h hg (g:=g) a8j;have hd:=(a7A ⟨q,hq⟩).1;have h1:=aJ5 (n:=(k8 s).n.toNat) (a9B (s:=k8 s) (g:=g));rcases hd.det with e|e
 ·rw [h1] at e;have e2:((1:Int):Rat)=(((a0s (j0 (k8 s)).length (k8 s).n.toNat (k9 (k8 s) g) (k9 (k8 s) g)).D:Int):Rat):=e;exact (by exact_mod_cast e2:(1:Int)=_).symm
 ·rw [h1] at e;have hp:=hd.pos;have e2:((1:Int):Rat)=(((-(a0s (j0 (k8 s)).length (k8 s).n.toNat (k9 (k8 s) g) (k9 (k8 s) g)).D:Int):Int):Rat):=by push_cast;exact e
  have:(1:Int)=-(a0s (j0 (k8 s)).length (k8 s).n.toNat (k9 (k8 s) g) (k9 (k8 s) g)).D:=by exact_mod_cast e2
  omega
def a00 (z:Int):List T:=[ti (bz z).sg,w5 (bz z).dl]
def zF (n:Nat) (g:Nat->Int):LI:=(List.range n).map g
def mZ (m n:Nat) (A:Nat->Nat->Int):List LI:=(List.range m).map fun i=>zF n (A i)
def G9 (n:Nat) (g:Nat->Int):(zF n g).length=n:=by simp [zF]
def i5 (m n:Nat) (A:Nat->Nat->Int):(mZ m n A).length=m:=by simp [mZ]
def U2 {n:Nat} {g:Nat->Int} {j:Nat} (h:j<n):(zF n g)[j]? =some (g j):=by simp [zF,h]
def a0E {m n:Nat} {A:Nat->Nat->Int} {i:Nat} (h:i<m):(mZ m n A)[i]? =some (zF n (A i)):=by simp [mZ,h]
def bH0 {n:Nat} {g:Nat->Int} {s:Nat} {v:Int} (h:s<n):(zF n g).set s v=zF n (fun j=>if j=s then v else g j):=by
 apply a16;intro j;by_cases hj:j<n
 ·rw [U2 hj,lbg,G9];by_cases hjm:s=j
  ·subst hjm;simp [h]
  ·rw [iC hjm,U2 hj,iC om]
 ·rw [lbd (by simp [G9];omega),lbd (by simp [G9];omega)]
def a3h {n:Nat} {g h:Nat->Int} (e:∀j,j<n->g j=h j):zF n g=zF n h:=lbp fun j hj=>e j (lbB.1 hj)
def a9h {m n:Nat} {A B:Nat->Nat->Int} (e:∀i,i<m->∀j,j<n->A i j=B i j):mZ m n A=mZ m n B:=lbp fun i hi=>a3h (e i (lbB.1 hi))
def b2E {m n:Nat} {A:Nat->Nat->Int} {r:Nat} {g:Nat->Int} (h:r<m):(mZ m n A).set r (zF n g)=mZ m n (fun i=>if i=r then g else A i):=by
 apply a16;intro j;by_cases hj:j<m
 ·rw [a0E hj,lbg,i5];by_cases hjm:r=j
  ·subst hjm;simp [h]
  ·rw [iC hjm,a0E hj,iC om]
 ·rw [lbd (by simp [i5];omega),lbd (by simp [i5];omega)]
def b57 {m n r:Nat} {A B:Nat->Nat->Int} {g:Nat->Int} (h:r<m) (e:(fun i=>if i=r then g else A i)=B):(mZ m n A).set r (zF n g)=mZ m n B:=by rw [b2E h,e]
abbrev zlB (l:LI):Blk:={ mode:=.live,elem:=87,size:=2,rows:=toC (l.map a00),box:=false }
def bk6 {row:LI} {i n:Nat} {y:Int} (h:n=i):D6 (zlB row) ((toC (row.map a00)).set n (bgC (bz y)))=zlB (row.set i y):=by
 subst h;unfold D6;simp [toC,a67,a00]
def hdR (b m n:Nat):List (List C):=(List.range m).map fun i=>[C.own (i+b) 0 n true]
def E0 (b m n:Nat):(hdR b m n).length=m:=by simp [hdR]
def a9c {b m n i:Nat} (h:i<m):(hdR b m n)[i]? =some [C.own (i+b) 0 n true]:=by simp [hdR,h]
abbrev hdB (b m n:Nat):Blk:={ mode:=.live,elem:=172,size:=1,rows:=hdR b m n,box:=false }
def frI (l:LB):LI:=l.map fun f=>(f.1:Int)
def sg1 (b:Bool):Int:=if b then -1 else 1
def Y0 (l:LB):LI:=l.map fun f=>sg1 f.2
abbrev bJ2 (m n q:Nat) (D:Int):Blk:={ mode:=.live,elem:=175,size:=12,rows:=[[C.own 1 0 m true,.own 2 0 m true,.own 3 0 n true,.t (ti (bz D).sg),.t (w5 (bz D).dl),.own 4 0 m true,.own 5 0 q true,.own 6 0 m true,.own 7 0 m true,.own 8 0 m true,.t (ti (bz 1).sg),.t (w5 (bz 1).dl)]],box:=true }
abbrev K0 (m n q:Nat) (fr:LB) (sc:LI) (D:Int) (V G:Nat->Int) (O F:Nat->Nat) (A:Nat->Nat->Int) (T:Hp):Hp:=
 bJ2 m n q D::zlB (zF m V)::hdB 9 m n::zlB (zF n G)::U7 m O::U7 q F::y3 (frI fr)::y3 (Y0 fr)::zlB sc::((mZ m n A).map zlB++T)
abbrev N3 (m n:Nat) (fr:LB) (sc:LI) (Z:Zd) (T:Hp):Hp:=K0 m n n fr sc Z.D Z.V Z.C Z.O Z.F Z.A T
def L7 {b0 b1 b2 b3 b4 b5 b6 b7 b8 c0 c1 c2 c3 c4 c5 c6 c7 c8:Blk} {L L':Hp} (h0:b0=c0) (h1:b1=c1) (h2:b2=c2) (h3:b3=c3) (h4:b4=c4) (h5:b5=c5) (h6:b6=c6) (h7:b7=c7) (h8:b8=c8) (h9:L=L'):
 b0::b1::b2::b3::b4::b5::b6::b7::b8::L=c0::c1::c2::c3::c4::c5::c6::c7::c8::L':=by
 subst h0 h1 h2 h3 h4 h5 h6 h7 h8 h9;rfl
section
variable {m n q N:Nat} {fr:List (Nat × Bool)} {sc:List Int} {D:Int} {V G:Nat->Int} {O F:Nat->Nat} {A:Nat->Nat->Int} {T T':Hp}
def a4G:K0 m n q fr sc D V G O F A (T++T')=K0 m n q fr sc D V G O F A T++T':=by
 show _::_::_::_::_::_::_::_::_::(_++(T++T'))=_::_::_::_::_::_::_::_::_::((_++T)++T');rw [lbD]
def a0c:(K0 m n q fr sc D V G O F A T).length=m+9+T.length:=by simp [i5];omega
def bC5 {b:Nat} (h:m+b<=N):okB N (hdB b m n):=by
 intro r hr c hc;obtain ⟨i,hi,rfl⟩:=lbx.1 hr;have:=lbB.1 hi;simp at hc;subst hc;show i+b<N;omega
def bn3 (h:9<=N):okB N (bJ2 m n q D):=by
 intro r hr c hc;simp at hr;subst hr;simp at hc;rcases hc with rfl|rfl|rfl|rfl|rfl|rfl|rfl|rfl|rfl|rfl|rfl|rfl<;>first|trivial|(simp only;omega)
def a5f (h:m+9<=N) (hT:∀k ∈ T,okB N k):∀k ∈ K0 m n q fr sc D V G O F A T,okB N k:=by
 intro k hk;simp only [lbA,lbz] at hk;rcases hk with rfl|rfl|rfl|rfl|rfl|rfl|rfl|rfl|rfl|hk|hk
 ·exact bn3 om
 ·exact A8 rfl
 ·exact bC5 h
 ·exact A8 rfl
 ·exact A8 rfl
 ·exact A8 rfl
 ·exact A8 rfl
 ·exact A8 rfl
 ·exact A8 rfl
 ·obtain ⟨l,_,rfl⟩:=lbx.1 hk;exact A8 rfl
 ·exact hT k hk
theorem a1I:∀k ∈ K0 m n q fr sc D V G O F A [],k.mode=.live/\k.app=false:=by
 intro k hk
 simp only [lbA,a05] at hk
 rcases hk with rfl|rfl|rfl|rfl|rfl|rfl|rfl|rfl|rfl|hk
 all_goals first|exact ⟨rfl,rfl⟩|skip
 obtain ⟨l,_,rfl⟩:=lbx.1 hk
 exact ⟨rfl,rfl⟩
def t8 {n0:Nat} {H:Hp} {env env':Env} (hH:H=K0 m n q fr sc D V G O F A (T++T')) (hN:m+9+T.length=N) (h0:n0<=N) (hT:∀k ∈ T,okB N k) (hE:a0A (idR N) H env env'):Ent n0 (idR N) env H env' (K0 m n q fr sc D V G O F A T):=by
 refine a7k (by rw [a0c];exact hN) h0 (a5f om hT) (fun i hi=>?_) hE;rw [hH,a4G,lbb (by rw [a0c];omega)]
def a68 {n0:Nat} {H:Hp} {r s:S} (hH:H=K0 m n q fr sc D V G O F A T) (hN:m+9=N) (h0:n0<=N) (hE:a9j (idR N) H r s):Fin n0 r H s (K0 m n q fr sc D V G O F A []):=by
 refine a7C (by rw [a0c];exact hN) h0 (a5f om zq) (fun i hi=>?_) hE;have e:K0 m n q fr sc D V G O F A T=K0 m n q fr sc D V G O F A []++T:=a4G (T:=[]) (T':=T);rw [hH,e,lbb (by rw [a0c];simp;omega)]
end
def a7q {m n:Nat} {fr:LB} {sc:LI} {Z Z':Zd} {T:Hp} (h:ba8 m n Z Z'):N3 m n fr sc Z T=N3 m n fr sc Z' T:=by
 refine L7 (by rw [h.d]) (by rw [a3h h.v]) rfl (by rw [a3h h.c]) (by rw [h.o]) (by rw [h.f]) rfl rfl rfl (by rw [a9h h.a])
def aM6 {g:FuncId} {args:List S} {r:S} {m n:Nat} {fr:LB} {sc:LI} {Z Z':Zd} (T:Hp) (h:ec g args (N3 m n fr sc Z []) r (N3 m n fr sc Z' [])) (hok:args.all (okS (m+9))=true) (hr:aA9 r=true) (hr':r.isT=true):
 ec g args (N3 m n fr sc Z T) r (N3 m n fr sc Z' T):=by
 have e:∀Z:Zd,N3 m n fr sc Z T=N3 m n fr sc Z []++T:=fun Z=>a4G (T:=[]) (T':=T)
 rw [e,e];exact a3P (n:=m+9) T h a0c a0c hok (fun k hk=>⟨(a1I k hk).1,(a1I k hk).2,a5f (lbR _) zq k hk⟩) (fun k hk=>⟨(by rw [(a1I k hk).1];intro h;cases h),a5f (lbR _) zq k hk⟩) hr hr'
def a2A {l:LI} {i:Nat} {x:Int} {K:List C->Prop} (h:l[i]? =some x) (k:K (bgC (bz x))):∃row,(toC (l.map a00))[i]? =some row/\K row:=
 ⟨_,by simp [toC,h,a00],k⟩
def bA4 {n i r:Nat} {g:Nat->Int} {K:List C->Prop} (e:i=r) (h:r<n) (k:K (bgC (bz (g r)))):∃row,(toC ((zF n g).map a00))[i]? =some row/\K row:=by
 subst e;exact a2A (U2 h) k
def aj4 {b m n i r:Nat} {K:List C->Prop} (e:i=r) (h:r<m) (k:K [C.own (r+b) 0 n true]):∃row,(hdR b m n)[i]? =some row/\K row:=by
 subst e;exact ⟨_,a9c h,k⟩
def aB6 (m n:Nat) (A:Nat->Nat->Int):List (List T):=(mZ m n A).map fun l=>[T.sl 2 .any (l.map a00)]
def aJ3 (m n:Nat) (A:Nat->Nat->Int):(aB6 m n A).length=m:=by simp [aB6,i5]
def aL4 {m n:Nat} {A:Nat->Nat->Int} {i:Nat} (h:i<m):(aB6 m n A)[i]? =some [T.sl 2 .any ((zF n (A i)).map a00)]:=by simp [aB6,a0E h]
def bw8 (m n:Nat) (fr:LB) (sc:LI) (Z:Zd):List T:=
 [.sl 2 .any ((zF m Z.V).map a00),.sl 1 .any (aB6 m n Z.A),.sl 2 .any ((zF n Z.C).map a00),ti (bz Z.D).sg,w5 (bz Z.D).dl,.sl 1 .any (a04 m Z.O),.sl 1 .any (a04 n Z.F),w5 (frI fr),w5 (Y0 fr),.sl 2 .any (sc.map a00),ti (bz 1).sg,w5 (bz 1).dl]
abbrev jT (m n:Nat) (fr:LB) (sc:LI) (Z:Zd):S:=.c (.t (.ptr (bw8 m n fr sc Z)))
def bS2 {m n:Nat} {fr:LB} {sc:LI} {Z:Zd} {X:Hp} {p:Nat->Prop} (hp:∀i,i<m+9->p i):VY (N3 m n fr sc Z X) p (.own 2 0 m true) (.sl 1 .any (aB6 m n Z.A)):=by
 refine b3e (k:=hdB 9 m n) (hp 2 om) rfl (fun h=>h) rfl (aJ3 m n Z.A) ?_ ?_
 ·intro r hr;obtain ⟨i,_,rfl⟩:=lbx.1 hr
  rfl
 ·intro i r hi;have him:i<m:=by have:=(lbe.1 hi).1;rwa [aJ3] at this
  rw [aL4 him] at hi;injection hi with hi;subst hi;refine ⟨_,a9c him,?_⟩;have hv:VY (N3 m n fr sc Z X) p (C.own (i+9) 0 n true) (T.sl 2 .any ((zF n (Z.A i)).map a00)):=
   .vc (v7 (k:=zlB (zF n (Z.A i))) (hp (i+9) om) (J1 (a0E him)) (fun h=>h) rfl rfl (by simp [G9]))
  exact ⟨hv,trivial⟩
def b7i {m n:Nat} {fr:LB} {sc:LI} {Z:Zd} {X:Hp} {p:Nat->Prop} (hf:fr.length=m) (hs:sc.length=m) (hp:∀i,i<m+9->p i):VY (N3 m n fr sc Z X) p (.ptr 0 0 0) (.ptr (bw8 m n fr sc Z)):=by
 refine a6Z (k:=bJ2 m n n Z.D) (hp 0 om) rfl (fun h=>h) rfl ⟨?_,bS2 hp,?_,a1C,a1C,?_,?_,?_,?_,?_,a1C,a1C,trivial⟩
 ·exact .vc (v7 (k:=zlB (zF m Z.V)) (hp 1 om) rfl (fun h=>h) rfl rfl (by simp [G9]))
 ·exact .vc (v7 (k:=zlB (zF n Z.C)) (hp 3 om) rfl (fun h=>h) rfl rfl (by simp [G9]))
 ·exact .vc (v7 (k:=U7 m Z.O) (hp 4 om) rfl (fun h=>h) rfl rfl (by simp [p4]))
 ·exact .vc (v7 (k:=U7 n Z.F) (hp 5 om) rfl (fun h=>h) rfl rfl (by simp [p4]))
 ·exact .vc (v7 (k:=y3 (frI fr)) (hp 6 om) rfl (fun h=>h) rfl rfl (by simp [frI,hf]))
 ·exact .vc (v7 (k:=y3 (Y0 fr)) (hp 7 om) rfl (fun h=>h) rfl rfl (by simp [Y0,hf]))
 ·exact .vc (v7 (k:=zlB sc) (hp 8 om) rfl (fun h=>h) rfl rfl (by simp [hs]))
def a21 {m n:Nat} {A:Nat->Nat->Int} {x:Int} {i:Nat} {K:List T->Prop} (e:x=i) (h:i<m) (k:K [T.sl 2 .any ((zF n (A i)).map a00)]):∃row,0<=x/\(aB6 m n A)[x.toNat]? =some row/\K row:=by
 subst e;exact ⟨_,om,by rw [show (i:Int).toNat=i by omega,aL4 h],k⟩
def a13 {n:Nat} {g:Nat->Int} {x:Int} {j:Nat} {K:List T->Prop} (e:x=j) (h:j<n) (k:K (a00 (g j))):∃row,0<=x/\((zF n g).map a00)[x.toNat]? =some row/\K row:=by
 subst e;exact ⟨_,om,by rw [show (j:Int).toNat=j by omega,lba,U2 h];rfl,k⟩
def aR0 (z:Int):(bz z).sg<0↔z<0:=by
 show z.sign<0↔_;rcases a5b z 0 with h|h|h
 ·rw [a2q h];omega
 ·subst h;simp
 ·rw [S9 h];omega
def b4i (z:Int):(bz z).sg > 0↔0<z:=by
 show z.sign > 0↔_;rcases a5b z 0 with h|h|h
 ·rw [a2q h];omega
 ·subst h;simp
 ·rw [S9 h];omega
def tv (V:Nat->Int) (k:Nat):Nat->Int:=fun i=>if i<k then -(V i) else V i
def al6 (V:Nat->Int):tv V 0=V:=by funext i;unfold tv;rw [iC om]
def b7n (V:Nat->Int) (k:Nat):tv V k k=V k:=by unfold tv;rw [iC om]
def aZ1 (V:Nat->Int) (k:Nat):(fun i=>if i=k then -(V k) else tv V k i)=tv V (k+1):=by
 funext i;by_cases h:i=k
 ·subst h;rw [iB rfl];unfold tv;rw [iB om]
 ·rw [iC h];unfold tv;have:(i<k)↔(i<k+1):=om;simp only [this]
def b2o {V:Nat->Int} {m i:Nat} (h:i<m):tv V m i=-(V i):=by unfold tv;rw [iB h]
def ta (n:Nat) (A:Nat->Nat->Int) (i j:Nat):Nat->Nat->Int:=fun k=>if k<i then tv (A k) n else if k=i then tv (A k) j else A k
def bj7 (n:Nat) (A:Nat->Nat->Int):ta n A 0 0=A:=by
 funext k;unfold ta;rw [iC om];split
 ·exact al6 _
 ·rfl
def bA7 (n:Nat) (A:Nat->Nat->Int) (i j:Nat):ta n A i j i=tv (A i) j:=by unfold ta;rw [iC om,iB rfl]
def bv5 (n:Nat) (A:Nat->Nat->Int) (i j:Nat):(fun k=>if k=i then tv (A i) (j+1) else ta n A i j k)=ta n A i (j+1):=by
 funext k;by_cases h:k=i
 ·subst h;rw [iB rfl,bA7]
 ·rw [iC h];unfold ta;rw [iC h,iC h]
def bD6 (n:Nat) (A:Nat->Nat->Int) (i:Nat):ta n A i n=ta n A (i+1) 0:=by
 funext k;unfold ta;by_cases h:k<i
 ·rw [iB h,iB om]
 ·rw [iC h];by_cases h2:k=i
  ·rw [iB h2,iB om]
  ·rw [iC h2,iC om];split
   ·exact (al6 _).symm
   ·rfl
def bN2 {n m:Nat} {A:Nat->Nat->Int} {i j:Nat} (h:i<m) (hj:j<n):ta n A m 0 i j=-(A i j):=by unfold ta;rw [iB h];exact b2o hj
section
variable (Z:Zd) (r s:Nat)
def exr (i j:Nat):Nat->Int:=fun l=>if l<j/\l≠s then Z.nx (Z.A i l) (Z.A r s) (Z.A i s) (Z.A r l) else Z.A i l
def AE (i:Nat):Nat->Nat->Int:=fun k=>if k<i/\k≠r then Z.exA r s k else Z.A k
def VE (i:Nat):Nat->Int:=fun k=>if k<i/\k≠r then Z.exV r s k else Z.V k
def AI (i j:Nat):Nat->Nat->Int:=fun k=>if k=i then exr Z r s i j else AE Z r s i k
def CE (j:Nat):Nat->Int:=fun l=>if l<j/\l≠s then Z.nx (Z.C l) (Z.A r s) (Z.C s) (Z.A r l) else Z.C l
end
section
variable {Z:Zd} {r s i j m n:Nat}
def bu2:AE Z r s 0=Z.A:=by funext k;unfold AE;rw [iC om]
def bv8:VE Z r s 0=Z.V:=by funext k;unfold VE;rw [iC om]
def bx7:CE Z r s 0=Z.C:=by funext k;unfold CE;rw [iC om]
def bB7:AE Z r s i i=Z.A i:=by unfold AE;rw [iC om]
def bt9:AE Z r s i r=Z.A r:=by unfold AE;rw [iC om]
def bP3:VE Z r s i i=Z.V i:=by unfold VE;rw [iC om]
def bX2:VE Z r s i r=Z.V r:=by unfold VE;rw [iC om]
def bn8:AI Z r s i 0=AE Z r s i:=by
 funext k;unfold AI;by_cases h:k=i
 ·subst h;rw [iB rfl,bB7];funext l;unfold exr;rw [iC om]
 ·rw [iC h]
def bV7 (h:i≠r):AI Z r s i j r=Z.A r:=by unfold AI;rw [iC (fun e=>h e.symm),bt9]
def b41:AI Z r s i j i=exr Z r s i j:=by unfold AI;rw [iB rfl]
def b9g (hj:j≠s):(fun l=>if l=j then Z.nx (Z.A i j) (Z.A r s) (Z.A i s) (Z.A r j) else exr Z r s i j l)=exr Z r s i (j+1):=by
 funext l;by_cases h:l=j
 ·subst h;rw [iB rfl];unfold exr;rw [iB ⟨om,hj⟩]
 ·rw [iC h];unfold exr;have:(l<j/\l≠s)↔(l<j+1/\l≠s):=om;simp only [this]
def bv9:(fun k=>if k=i then exr Z r s i (j+1) else AI Z r s i j k)=AI Z r s i (j+1):=by
 funext k;by_cases h:k=i
 ·subst h;rw [iB rfl];unfold AI;rw [iB rfl]
 ·rw [iC h];unfold AI;rw [iC h,iC h]
def b97:exr Z r s i s=exr Z r s i (s+1):=by
 funext l;unfold exr;have:(l<s/\l≠s)↔(l<s+1/\l≠s):=om;simp only [this]
def br4:AI Z r s i s=AI Z r s i (s+1):=by
 funext k;unfold AI;split
 ·exact b97
 ·rfl
def bI5 (hi:i≠r) {k l:Nat} (hl:l<n):(if k=i then (if l=s then -(Z.A i s) else AI Z r s i n i l) else AI Z r s i n k l)=AE Z r s (i+1) k l:=by
 by_cases h:k=i
 ·subst h;have e:AE Z r s (k+1) k l=Z.exA r s k l:=by unfold AE;rw [iB ⟨om,hi⟩]
  have e2:Z.exA r s k l=if l=s then -(Z.A k s) else Z.nx (Z.A k l) (Z.A r s) (Z.A k s) (Z.A r l):=by unfold Zd.exA;rw [iC hi]
  rw [iB rfl,e,e2];by_cases h2:l=s
  ·rw [iB h2,iB h2]
  ·rw [iC h2,iC h2,b41];unfold exr;rw [iB ⟨hl,h2⟩]
 ·rw [iC h];unfold AI AE;rw [iC h];have:(k<i/\k≠r)↔(k<i+1/\k≠r):=om;simp only [this]
def by6:AE Z r s r=AE Z r s (r+1):=by
 funext k;unfold AE;have:(k<r/\k≠r)↔(k<r+1/\k≠r):=om;simp only [this]
def bs7:VE Z r s r=VE Z r s (r+1):=by
 funext k;unfold VE;have:(k<r/\k≠r)↔(k<r+1/\k≠r):=om;simp only [this]
def bt1 (hi:i≠r):(fun k=>if k=i then Z.nx (Z.V i) (Z.A r s) (Z.A i s) (Z.V r) else VE Z r s i k)=VE Z r s (i+1):=by
 funext k;by_cases h:k=i
 ·subst h;rw [iB rfl];unfold VE Zd.exV;rw [iB ⟨om,hi⟩,iC hi]
 ·rw [iC h];unfold VE;have:(k<i/\k≠r)↔(k<i+1/\k≠r):=om;simp only [this]
def bK0 (h:i<m):VE Z r s m i=Z.exV r s i:=by
 unfold VE;by_cases hr:i=r
 ·rw [iC om];unfold Zd.exV;rw [iB hr,hr]
 ·rw [iB ⟨h,hr⟩]
def bL9 (hi:i<m):(if i=r then (if j=s then Z.D else AE Z r s m r j) else AE Z r s m i j)=Z.exA r s i j:=by
 by_cases hr:i=r
 ·rw [iB hr,bt9];unfold Zd.exA;rw [iB hr]
 ·rw [iC hr];unfold AE;rw [iB ⟨hi,hr⟩]
def bU2:CE Z r s j j=Z.C j:=by unfold CE;rw [iC om]
def bV6:CE Z r s j s=Z.C s:=by unfold CE;rw [iC om]
def bv0 (hj:j≠s):(fun l=>if l=j then Z.nx (Z.C j) (Z.A r s) (Z.C s) (Z.A r j) else CE Z r s j l)=CE Z r s (j+1):=by
 funext l;by_cases h:l=j
 ·subst h;rw [iB rfl];unfold CE;rw [iB ⟨om,hj⟩]
 ·rw [iC h];unfold CE;have:(l<j/\l≠s)↔(l<j+1/\l≠s):=om;simp only [this]
def bq1:CE Z r s s=CE Z r s (s+1):=by
 funext l;unfold CE;have:(l<s/\l≠s)↔(l<s+1/\l≠s):=om;simp only [this]
def bK6 (hj:j<n):(if j=s then -(Z.C s) else CE Z r s n j)=Z.exC r s j:=by
 unfold CE Zd.exC;by_cases h:j=s
 ·rw [iB h,iB h]
 ·rw [iC h,iC h,iB ⟨hj,h⟩]
end
def ao3 (x y:Int) (lx:bl x<=200000) (ly:bl y<=200000):ec 135 [bgS (bz x),bgS (bz y)] [] (bgS (bz (x*y))) []:=by
 have m:=a9y x y lx ly;refine ac Tryz.func135 ?_;conv=>whnf
 repeat' (first|refine zx ?_|apply zD<;>intro<;>try omega)<;>conv=>whnf
 all_goals exact n8 rz
def by7 (x y:Int) (lx:bl x<=200000) (ly:bl y<=200000):ec 212 [bgS (bz x),bgS (bz y)] [] (bgS (bz (x - y))) []:=by
 have m:=bA1 x y lx ly;refine ac Tryz.func212 ?_;conv=>whnf
 repeat' (first|refine zx ?_|apply zD<;>intro<;>try omega)<;>conv=>whnf
 all_goals exact n8 rz
def bU1 (x y:Int) (lx:bl x<=200000) (ly:bl y<=200000):ec 211 [bgS (bz x),bgS (bz y)] [] (bgS (bz (x+y))) []:=by
 have m:=b9A x y lx ly;refine ac Tryz.func211 ?_;conv=>whnf
 repeat' (first|refine zx ?_|apply zD<;>intro<;>try omega)<;>conv=>whnf
 all_goals exact n8 rz
def am3 (n:Int) (p0:-9223372036854775808<=n) (p1:n<=9223372036854775807):ec 131 [eI n] [] (frS (fz (n:Rat))) []:=by
 have o:=bI4 n 1 de p0 p1 de;have e:Rat.divInt n 1=(n:Rat):=by rw [a84];simp;grind
 rw [e] at o;refine ac Tryz.func131 ?_;conv=>whnf
 repeat' (first|refine zx ?_|apply zD<;>intro<;>try omega)<;>conv=>whnf
 all_goals exact n8 rz
def aT4 (p q:Int) (hq:0<q) (lp:bl p<=200000) (lq:bl q<=200000):ec 132 [bgS (bz p),bgS (bz q)] [] (frS (fz (Rat.divInt p q))) []:=by
 have o:=b11 p q hq lp lq;refine ac Tryz.func132 ?_;conv=>whnf
 repeat' (first|refine zx ?_|apply zD<;>intro<;>try omega)<;>conv=>whnf
 all_goals exact n8 rz
abbrev bgX (z:Int):Blk:={ mode:=.live,elem:=87,size:=2,rows:=[bgC (bz z)],box:=true }
def bg4 (z:Int):L6 (bgX z).rows:=j2 [[ti (bz z).sg,w5 (bz z).dl]]
def a2b {ρ:List (Option Nat)} {H:Hp}:a3o ρ H a6n a6n:=⟨rfl,rfl,rfl,.inl ⟨rfl,X7⟩⟩
def b70 (a b:Int) (hb:0<b) (hab:b<=a) (la:bl a<=100000):∃q:Int,0<q/\q*b<=a/\ec 210 [bgS (bz a),bgS (bz b)] [] (bgS (bz q)) []:=by
 obtain ⟨A,rfl⟩:∃A:Nat,a=A:=⟨a.toNat,om⟩;obtain ⟨B,rfl⟩:∃B:Nat,b=B:=⟨b.toNat,om⟩;have hb:0<B:=om;have hab:B<=A:=om;have la:(dg A).length<=100000:=la;have hlab:=t9 hab;obtain ⟨m,hm⟩:∃m,m=min 2 (dg B).length:=⟨_,rfl⟩;obtain ⟨low,hlow⟩:∃low,low=(dg B).length - m:=⟨_,rfl⟩;obtain ⟨n,hn⟩:∃n,n=if (dg A).length - min 3 (dg A).length<low then (dg A).length - low else min 3 (dg A).length:=⟨_,rfl⟩
 obtain ⟨X,hX⟩:∃X,X=a57 (dg A) n:=⟨_,rfl⟩;obtain ⟨Y,hY⟩:∃Y,Y=a57 (dg B) m:=⟨_,rfl⟩;obtain ⟨d,hd⟩:∃d,d=if 0<low then Y+1 else Y:=⟨_,rfl⟩
 obtain ⟨Q,hQ⟩:∃Q,Q=max 1 (X / d):=⟨_,rfl⟩;have ⟨g1,g2,g3,g4,g5,g6,g7⟩:=bc7 hb hab hm hlow hn hX hY hd hQ;have hBl:0<(dg B).length:=by
  have:dg B≠[]:=fun h=>by have:=O8.1 h;omega
  exact a7N.2 this
 refine ⟨pw ((dg A).length - n - low)*Q,ac3 (O1 _) g5,g7,?_⟩;have hY2:=a35 (l:=dg B) (Z6 B).1 (k:=m) om om;have hX2:=a35 (l:=dg A) (Z6 A).1 (k:=n) g1 g2;rw [← hY] at hY2;rw [← hX] at hX2;have t1:=b5i (dg B) m om (Z6 B).1 om om;have t2:=b5i (dg A) n om (Z6 A).1 g1 g2;rw [← hY] at t1;rw [← hX] at t2;have o:=b69 Q om om;have m1:((dg A).map j3).length=(dg A).length:=zq;have m2:((dg B).map j3).length=(dg B).length:=zq;have hdiv:X.tdiv d=X / d:=a5h om;have hq0:0<=X / d:=aD2 om om;have hqA:X / d<=X:=Int.ediv_le_self _ om;rw [b9T g5];generalize hz:(dg A).length - n - low=z at *;obtain ⟨n0,hn0⟩:∃n0,n0=min 3 (dg A).length:=⟨_,rfl⟩;rw [← hn0] at hn;have hAd:(bz (A:Int)).dl=dg A:=rfl;have hBd:(bz (B:Int)).dl=dg B:=rfl
 (refine M6 g8 Tryz.func210 rfl de ?_;refine w8 g8 ?_;(conv=>whnf);repeat ((first|refine b0x ?_|refine zy ?_);conv=>whnf))
 repeat' (first|refine zz ?_|refine b0x ?_|apply zD<;>intro h<;>try omega|refine zy ?_|fail)<;>conv=>whnf
 refine B4 g8 ([J,J,S.c (C.t (T.ptr [ti (bz (A:Int)).sg,w5 (dg A)])),S.c (C.t (T.ptr [ti (bz (B:Int)).sg,w5 (dg B)])),sP 0 0 0,eI n0]++Jn 59) [a6n] ?_ ?_
 ·conv=>whnf
  repeat' (first|refine zx ?_|apply zD<;>intro h<;>try omega)<;>conv=>whnf
  exact ⟨[some 0],rfl,rfl,⟨a2b,trivial⟩,⟨rfl,rfl,rz,g9 (by simp only [cond,lbr,hAd];split<;>omega),trivial⟩⟩
 refine B4 g8 ([J,J,S.c (C.t (T.ptr [ti (bz (A:Int)).sg,w5 (dg A)])),S.c (C.t (T.ptr [ti (bz (B:Int)).sg,w5 (dg B)])),sP 0 0 0,eI n0,eI m]++Jn 58) [a6n] ?_ ?_
 ·conv=>whnf
  repeat' (first|refine zx ?_|apply zD<;>intro h<;>try omega)<;>conv=>whnf
  exact ⟨[some 0],rfl,rfl,⟨a2b,trivial⟩,⟨rfl,rfl,rz,rfl,g9 (by simp only [cond,lbr];split<;>omega),trivial⟩⟩
 refine B4 g8 ([J,J,S.c (C.t (T.ptr [ti (bz (A:Int)).sg,w5 (dg A)])),S.c (C.t (T.ptr [ti (bz (B:Int)).sg,w5 (dg B)])),sP 0 0 0,eI n0,eI m,eI low]++Jn 57) [a6n] ?_ ?_
 ·conv=>whnf
  repeat' (first|refine zx ?_|apply zD<;>intro h<;>try omega)<;>conv=>whnf
  exact ⟨[some 0],rfl,rfl,⟨a2b,trivial⟩,⟨rfl,rfl,rz,rfl,rfl,g9 om,trivial⟩⟩
 refine B4 g8 ([J,J,S.c (C.t (T.ptr [ti (bz (A:Int)).sg,w5 (dg A)])),S.c (C.t (T.ptr [ti (bz (B:Int)).sg,w5 (dg B)])),sP 0 0 0,eI n,eI m,eI low]++Jn 57) [a6n] ?_ ?_
 ·conv=>whnf
  repeat' (first|refine zx ?_|apply zD<;>intro h<;>try omega)<;>conv=>whnf
  all_goals (refine ⟨[some 0],rfl,rfl,⟨a2b,trivial⟩,⟨rfl,rfl,rz,g9 ?_,rz⟩⟩;rw [hn];split<;>omega)
 refine B4 g8 ([J,J,S.c (C.t (T.ptr [ti (bz (A:Int)).sg,w5 (dg A)])),S.c (C.t (T.ptr [ti (bz (B:Int)).sg,w5 (dg B)])),sP 0 0 0,eI n,J,eI low,eI Y]++Jn 56) [a6n] ?_ ?_
 ·conv=>whnf
  repeat' (first|refine zx ?_|apply zD<;>intro h<;>try omega)<;>conv=>whnf
  all_goals exact ⟨[some 0],rfl,rfl,⟨a2b,trivial⟩,rz⟩
 refine B4 g8 ([J,J,S.c (C.t (T.ptr [ti (bz (A:Int)).sg,w5 (dg A)])),S.c (C.t (T.ptr [ti (bz (B:Int)).sg,w5 (dg B)])),sP 0 0 0,eI n,J,eI low,eI d]++Jn 56) [a6n] ?_ ?_
 ·conv=>whnf
  repeat' (first|refine zx ?_|apply zD<;>intro h<;>try omega)<;>conv=>whnf
  all_goals (refine ⟨[some 0],rfl,rfl,⟨a2b,trivial⟩,⟨rfl,rfl,rz,rfl,rfl,g9 ?_,trivial⟩⟩;rw [hd];split<;>omega)
 have hmax:∀y:Int,y=X / d->(bif true then if (1:Int) > y then 1 else y else if 1<y then 1 else y)=Q:=by
  intro y hy;rw [hy,hQ];simp only [cond];split<;>omega
 have hmax2:∀y:Int,y=X / d->(bif true then if y > 1 then y else 1 else if y<1 then y else 1)=Q:=by
  intro y hy;rw [hy,hQ];simp only [cond];split<;>omega
 refine B4 g8 ([J,J,S.c (C.t (T.ptr [ti (bz (A:Int)).sg,w5 (dg A)])),J,sP 0 0 0,eI n,J,eI low,J,sP 1 0 0]++Jn 55) [a6n,bgX Q] ?_ ?_
 ·conv=>whnf
  repeat' (first|refine zx ?_|refine qp ((hmax2 _ rfl) ▸ o) ?_|refine ⟨om,_,I3 hdiv om om,?_⟩|refine ap2 om ?_|apply zD<;>intro h<;>try omega)<;>conv=>whnf
  all_goals first|omega|exact ⟨[some 0,some 1],rfl,rfl,⟨a2b,⟨rfl,rfl,rfl,.inl ⟨by rw [hmax2 _ rfl];rfl,by rw [hmax2 _ rfl];exact j2 [[ti (bz Q).sg,w5 (bz Q).dl]]⟩⟩,trivial⟩,rz⟩
 have eA:((dg A).map j3).length - (n:Int) - (low:Int)=(z:Nat):=om;have lQ:(bz Q).dl.length<=4:=U5 (x:=Q) om om;refine B4 g8 ([J,J,J,J,sP 0 0 0,J,J,J,J,sP 1 0 0,S.c (C.own 2 0 z true)]++Jn 54) [a6n,bgX Q,y3 (List.replicate z 0)] ?_ ?_
 ·conv=>whnf
  repeat' (first|refine zx ?_|refine a2y om om om de ?_|apply zD<;>intro h<;>try omega)<;>conv=>whnf
  all_goals first|omega|exact ⟨[some 0,some 1,some 2],rfl,rfl,⟨a2b,⟨rfl,rfl,rfl,.inl ⟨rfl,bg4 _⟩⟩,i6 (rows:=(List.replicate z 0).map j3) rfl rfl rfl (by show List.replicate _ _=_;rw [eA];simp [toC,j3,F7]) rfl,trivial⟩,⟨rz,rz,⟨rfl,rfl,om,fun h=>h⟩,trivial⟩⟩
 refine t4 g8 _ ?_;conv=>whnf
 repeat' (first|refine zx ?_|refine v8 zt zu ?_|apply zD<;>intro h<;>try omega)<;>conv=>whnf
 all_goals try omega
 refine n8 ⟨rfl,(show VC _ (fun id=>L2 [] id=true) (C.own 3 0 _ true) (w5 (List.replicate z 0++dg Q.natAbs)) from v7 (k:={ mode:=.live,elem:=3,size:=1,rows:=List.take z (toC ((List.replicate z 0).map j3))++toC ((dg Q.natAbs).map j3),box:=false }) rfl rfl (fun h=>h) rfl ?_ ?_),trivial⟩
 ·show List.take z (toC ((List.replicate z 0).map j3))++toC ((dg Q.natAbs).map j3)=toC ((List.replicate z 0++dg Q.natAbs).map j3);rw [lbn zt];simp [toC]
 ·simp [toC];rfl
structure ExI (a b:Int) (s:Int × Int):Prop where
 e:s.1*b+s.2=(a.natAbs:Int)
 o:0<=s.1
 r:0<=s.2
def ExI.bd {a b:Int} {s:Int × Int} (h:ExI a b s) (hb:0<b):bl s.1<=bl a/\bl s.2<=bl a:=by
 have h1:=h.o;have h2:=h.r;have h3:=h.e;have h4:s.1*1<=s.1*b:=lbW om h1;exact ⟨a5g om,a5g om⟩
def ExI.fin {a b:Int} {s:Int × Int} (h:ExI a b s) (hb:0<b) (hd:b ∣ a) (jj:s.2<b):a.sign*s.1=a / b:=by
 have h2:=h.r;have h3:=h.e;obtain ⟨k,rfl⟩:=hd;have e0:s.2=0:=by
  have hk:b ∣ ((b*k).natAbs:Int):=Int.dvd_natAbs.2 ⟨k,rfl⟩;have ⟨j,hj⟩:=hk;have:s.2=b*(j - s.1):=by rw [Int.mul_sub,←hj,←h3,a7P b s.1];omega
  apply a02;intro hn;have hp:0<j - s.1:=by
   apply a02;intro hc;have:b*(j - s.1)<=b*0:=lbW om om;omega
  have:b*1<=b*(j - s.1):=lbW om om;omega
 rw [aP7 _ (by omega:b≠0)];have e1:s.1*b=(b.natAbs:Int)*(k.natAbs:Int):=by rw [e0,af7] at h3;rw [h3,a3y];push_cast;rfl
 have e2:s.1=(k.natAbs:Int):=by
  have hbn:(b.natAbs:Int)=b:=om;rw [hbn,a7P] at e1;exact Int.eq_of_mul_eq_mul_left om e1
 rw [e2,Int.sign_mul,S9 hb,a2u];exact at3 k
def bN0 {a o:Int}:(⟨(bz o).sg*(bz a).sg,(bz o).dl⟩:Bg)=bz (a.sign*o)\/a=0:=by
 by_cases h:a=0
 ·exact .inr h
 ·left
  rcases b3o h with h|h
  ·rw [a2q h];show Bg.mk (o.sign*a.sign) (dg o.natAbs)=Bg.mk ((-1*o).sign) (dg (-1*o).natAbs);rw [a2q h,show (-1:Int)*o=-o by omega,Int.sign_neg,a2v,show o.sign*-1=-o.sign by omega]
  ·rw [S9 h];show Bg.mk (o.sign*a.sign) (dg o.natAbs)=Bg.mk ((1*o).sign) (dg (1*o).natAbs);rw [S9 h,a2u,az9]
def bQ1 (a:Int):(⟨(bz a).sg*(bz a).sg,(bz a).dl⟩:Bg)=bz (a.natAbs:Int):=by
 show Bg.mk (a.sign*a.sign) (dg a.natAbs)=Bg.mk (((a.natAbs:Nat):Int).sign) (dg ((a.natAbs:Nat):Int).natAbs);rcases a5b a 0 with h|h|h
 ·rw [a2q h,S9 om];rfl
 ·subst h;rfl
 ·rw [S9 h,S9 om];rfl
def aT8 (a b:Int) (hb:0<b) (hd:b ∣ a) (la:bl a<=60000) (lb:bl b<=60000):ec 170 [bgS (bz a),bgS (bz b)] [] (bgS (bz (a / b))) []:=by
 have hsq:=bQ1 a;have hs:=G6 a;have hsg:(bz a).sg=a.sign:=rfl;have hss:0<=(bz a).sg*(bz a).sg/\(bz a).sg*(bz a).sg<=1:=by
  rw [hsg];rcases hs with ⟨h,_⟩|⟨h,_⟩|⟨h,_⟩<;>rw [h]<;>decide
 (refine ac Tryz.func170 ?_;(conv=>whnf);repeat ((first|refine b0x ?_|refine zy ?_);conv=>whnf))
 repeat' (first|refine zx ?_|apply zD<;>intro h<;>try omega)<;>conv=>whnf
 all_goals try omega
 refine w7 g8 (σ:=Int × Int) (fun s=>([J,J,S.c (C.t (T.ptr [ti (bz a).sg,w5 (bz a).dl])),S.c (C.t (T.ptr [ti (bz b).sg,w5 (bz b).dl])),sP 0 0 0,sP 1 0 0,sP 2 0 0]++Jn 31,[a6n,bgX s.2,bgX s.1])) (ExI a b) (fun s=>s.2.natAbs) (0,(a.natAbs:Int)) [some 0,some 1,some 2]
  ⟨zq,zq,om⟩ ⟨rfl,rfl,⟨⟨rfl,rfl,rfl,.inl ⟨rfl,X7⟩⟩,⟨rfl,rfl,rfl,.inl ⟨?_,?_⟩⟩,⟨rfl,rfl,rfl,.inr rz⟩,trivial⟩,rz⟩ ?_
 ·show [[C.t (ti ((bz a).sg*(bz a).sg)),C.t (w5 (bz a).dl)]]=[bgC (bz (a.natAbs:Int))];rw [← hsq]
 ·exact j2 [[ti ((bz a).sg*(bz a).sg),w5 (bz a).dl]]
 rintro ⟨o,r⟩ hI;have hI:ExI a b (o,r):=hI;have ⟨bo,br⟩:=hI.bd hb;have bo:bl o<=bl a:=bo;have br:bl r<=bl a:=br;have h1:o*b+r=(a.natAbs:Int):=hI.e;have h2:0<=o:=hI.o;have h3:0<=r:=hI.r;have hso:-1<=(bz o).sg*(bz a).sg/\(bz o).sg*(bz a).sg<=1:=by
  rw [hsg,ag6];rcases hs with ⟨h,_⟩|⟨h,_⟩|⟨h,_⟩<;>rcases G6 o with ⟨h',_⟩|⟨h',_⟩|⟨h',_⟩<;>rw [h,h']<;>decide
 have cm:=aG7 r b om om;by_cases jj:r<b
 ·have hf:=hI.fin hb hd jj;have hf:a.sign*o=a / b:=hf;rw [show Q5 r b=-1 by unfold Q5;rw [iB jj]] at cm;conv=>whnf
  repeat' (first|refine zx ?_|refine ⟨_,a3U (show _<=(bz o).sg*(bz a).sg from by omega) (show (bz o).sg*(bz a).sg<=_ from by omega),?_⟩|apply zD<;>intro h<;>try omega)<;>conv=>whnf
  all_goals first|omega|skip
  refine n8 ?_;rcases bN0 (a:=a) (o:=o) with e|e
  ·rw [hf] at e;rw [← e];exact rz
  ·have:o=0:=by
    subst e;have:=lb0 h2 (show 0<=b by omega);have e0:o*b=0:=by simp at h1;omega
    rcases Int.mul_eq_zero.1 e0 with h|h<;>omega
   subst this e;rw [← hf];exact rz
 ·have ⟨q,q0,q1,gu⟩:=b70 r b hb om om;have hc:0<=Q5 r b:=by unfold Q5;rw [iC jj];split<;>decide
  have bq:bl q<=bl a:=by
   have:q*1<=q*b:=lbW om om;have:=lb0 h2 (show 0<=b by omega);exact a5g om
  have lm:=I5 q b;have ad:=bU1 o q om om;have mu:=ao3 q b om om;have su:=by7 r (q*b) om om;conv=>whnf
  repeat' (first|refine zx ?_|apply zD<;>intro h<;>try omega)<;>conv=>whnf
  all_goals first|omega|skip
  have hqb:0<q*b:=ac3 q0 hb;exact ⟨[some 0,some 1,some 2],(o+q,r - q*b),⟨rfl,rfl,⟨⟨rfl,rfl,rfl,.inl ⟨rfl,X7⟩⟩,⟨rfl,rfl,rfl,.inl ⟨rfl,bg4 _⟩⟩,⟨rfl,rfl,rfl,.inl ⟨rfl,bg4 _⟩⟩,trivial⟩,rz⟩,⟨by show (o+q)*b+(r - q*b)=_;rw [Int.add_mul];omega,by show 0<=o+q;omega,by show 0<=r - q*b;omega⟩,by show (r - q*b).natAbs<r.natAbs;omega⟩
def bx8 (x y:Int):bl (x - y)<=max (bl x) (bl y)+1:=by
 have:=a8u x (-y);rw [Z7] at this;rw [ad3];exact this
def bI9 (m n q:Nat) (fr:LB) (sc:LI) (D:Int) (V G:Nat->Int) (O F:Nat->Nat) (A:Nat->Nat->Int) (a p b c:Int) (hD:0<D) (hdv:D ∣ a*p - b*c) (la:bl a<=1000) (lp:bl p<=1000) (lb:bl b<=1000) (lc:bl c<=1000) (lD:bl D<=1000):
 ec 171 [.c (.ptr 0 0 0),bgS (bz a),bgS (bz p),bgS (bz b),bgS (bz c)] (K0 m n q fr sc D V G O F A []) (bgS (bz ((a*p - b*c) / D))) (K0 m n q fr sc D V G O F A []):=by
 have e1:=I5 a p;have e2:=I5 b c;have e3:=bx8 (a*p) (b*c);have m1:=ao3 a p om om;have m2:=ao3 b c om om;have s1:=by7 (a*p) (b*c) om om;have ex:=aT8 (a*p - b*c) D hD hdv om om;refine ac Tryz.func171 ?_;conv=>whnf
 repeat' (first|refine zz ?_|refine qp m1 ?_|refine qp m2 ?_|refine qp s1 ?_|refine qp ex ?_|refine b0x ?_|refine i9 (i5 _ _ _) ?_|refine i7 ?_|refine s9 (i5 _ _ _) ?_|refine C5 (i5 _ _ _) ?_|apply zD<;>intro<;>try omega|refine zy ?_|fail)<;>conv=>whnf
 all_goals
  refine a68 (m:=m) (n:=n) (q:=q) (fr:=fr) (sc:=sc) (D:=D) (V:=V) (G:=G) (O:=O) (F:=F) (A:=A) (T:=[_]) rfl rfl (by simp [i5]) ?_;exact rz
def aW6 {m n q:Nat} {fr:LB} {sc:LI} {D:Int} {V G:Nat->Int} {O F:Nat->Nat} {A:Nat->Nat->Int} {a p b c:Int} (T:Hp) (hD:0<D) (hdv:D ∣ a*p - b*c) (la:bl a<=1000) (lp:bl p<=1000) (lb:bl b<=1000) (lc:bl c<=1000) (lD:bl D<=1000):
 ec 171 [.c (.ptr 0 0 0),bgS (bz a),bgS (bz p),bgS (bz b),bgS (bz c)] (K0 m n q fr sc D V G O F A T) (bgS (bz ((a*p - b*c) / D))) (K0 m n q fr sc D V G O F A T):=by
 have e:K0 m n q fr sc D V G O F A T=K0 m n q fr sc D V G O F A []++T:=a4G (T:=[]) (T':=T);rw [e];exact a3P (n:=m+9) T (bI9 m n q fr sc D V G O F A a p b c hD hdv la lp lb lc lD) a0c a0c (by simp [okS,okC,okL,e7,bgS,bgC,a1o]) (fun k hk=>⟨(a1I k hk).1,(a1I k hk).2,a5f (lbR _) zq k hk⟩) (fun k hk=>⟨(by rw [(a1I k hk).1];intro h;cases h),a5f (lbR _) zq k hk⟩) rfl rfl
def a1y {n i j:Nat} {g:Nat->Int} {y:Int} (e:i=j) (h:j<n):D6 (zlB (zF n g)) ((zlB (zF n g)).rows.set i (bgC (bz y)))=zlB (zF n fun k=>if k=j then y else g k):=by
 subst e;have:=bk6 (row:=zF n g) (y:=y) (rfl:i=i);rw [bH0 h] at this;exact this
def b6X (Z:Zd):Zd:=⟨fun i=>-(Z.V i),fun i j=>-(Z.A i j),fun j=>-(Z.C j),-Z.D,Z.O,Z.F⟩
def bH8 (m n:Nat) (fr:LB) (sc:LI) (Z:Zd) (hm:m<=100000) (hn:n<=1000) (hB:ZB m n 1000 Z):
 ec 172 [.c (.ptr 0 0 0)] (N3 m n fr sc Z []) (.tup []) (N3 m n fr sc (b6X Z) []):=by
 have nd:=a69 Z.D (by have:=hB.d;omega);refine ac Tryz.func172 ?_;conv=>whnf
 repeat' (first|refine zx ?_|refine i9 (i5 _ _ _) ?_|refine i7 ?_|refine bl0 [0] ?_|apply zD<;>intro<;>try omega)<;>conv=>whnf
 refine k6 g8 (fun i=>([sP 0 0 0,J,eI i]++Jn 85,K0 m n n fr sc (-Z.D) (tv Z.V i) Z.C Z.O Z.F (ta n Z.A i 0) [])) m tT (idR (m+9)) trivial ?_ ?_
 ·exact t8 (T:=[]) (T':=[]) (L7 rfl (by rw [al6]) rfl rfl rfl rfl rfl rfl rfl (by rw [bj7];rfl)) rfl (by simp [i5]) zq ⟨⟨j5 om,rz⟩,g9 rfl,trivial⟩
 intro i hi _;by_cases jj:i<m
 ·have ni:=a69 (Z.V i) (by have:=hB.v i jj;omega);have eIq:0+(i:Int).toNat=i:=om;have gv:(zF m (tv Z.V i))[0+(i:Int).toNat]? =some (Z.V i):=by rw [eIq,U2 jj,b7n]
  conv=>whnf
  repeat' (first|refine zx ?_|refine i9 (i5 _ _ _) ?_|refine i7 ?_|refine a2A gv ?_|refine bl0 [0,1,2,3,4] ?_|apply zD<;>intro<;>try omega)<;>conv=>whnf
  all_goals try omega
  refine k6 g8 (fun j=>([sP 0 0 0,J,eI i,eI j]++Jn 84,K0 m n n fr sc (-Z.D) (tv Z.V (i+1)) Z.C Z.O Z.F (ta n Z.A i j) [])) n tT (idR (m+9)) trivial ?_ ?_
  ·exact t8 (T:=[]) (T':=[]) (L7 rfl ((a1y eIq jj).trans (by rw [aZ1])) rfl rfl rfl rfl rfl rfl rfl rfl) rfl (by simp [i5]) zq ⟨⟨j5 om,rz⟩,rfl,g9 rfl,trivial⟩
  intro j hj _;have gA:(mZ m n (ta n Z.A i j))[i]? =some (zF n (tv (Z.A i) j)):=by rw [a0E jj,bA7]
  by_cases hjl:j<n
  ·have nj:=a69 (Z.A i j) (by have:=hB.a i jj j hjl;omega);have eJ:0+(j:Int).toNat=j:=om;have gj:(zF n (tv (Z.A i) j))[0+(j:Int).toNat]? =some (Z.A i j):=by rw [eJ,U2 hjl,b7n]
   have lA:i<(mZ m n (ta n Z.A i j)).length:=by rw [i5];exact jj
   conv=>whnf
   repeat' (first|refine zx ?_|refine i9 (i5 _ _ _) ?_|refine i7 ?_|refine aj4 eIq jj ?_|refine J9 gA ?_|refine a2A gj ?_|refine a2L lA (a1y eJ hjl) ?_|refine bl0 [0,1,2,3,4,5,6,7] ?_|apply zD<;>intro<;>try omega)<;>conv=>whnf
   all_goals first|omega|exact ⟨hjl,trivial,idR (m+9),t8 (T:=[]) (T':=[]) (L7 rfl rfl rfl rfl rfl rfl rfl rfl rfl (by rw [aZ1,b57 jj (bv5 n Z.A i j)];rfl)) rfl (by simp [i5]) zq ⟨⟨j5 om,rz⟩,rfl,g9 om,trivial⟩⟩
  ·have hje:j=n:=by omega
   subst hje;conv=>whnf
   repeat' (first|refine zx ?_|refine i9 (i5 _ _ _) ?_|refine i7 ?_|apply zD<;>intro<;>try omega)<;>conv=>whnf
   all_goals first|omega|exact ⟨jj,trivial,idR (m+9),t8 (T:=[]) (T':=[]) (L7 rfl rfl rfl rfl rfl rfl rfl rfl rfl (by rw [← bD6];rfl)) rfl (by simp [i5]) zq ⟨⟨j5 om,rz⟩,g9 om,trivial⟩⟩
 ·have hie:i=m:=by omega
  subst hie;conv=>whnf
  repeat' (first|refine zx ?_|refine i9 (i5 _ _ _) ?_|refine i7 ?_|apply zD<;>intro<;>try omega)<;>conv=>whnf
  all_goals try omega
  refine k6 g8 (fun j=>([sP 0 0 0,J,J,J,eI j]++Jn 83,K0 i n n fr sc (-Z.D) (tv Z.V i) (tv Z.C j) Z.O Z.F (ta n Z.A i 0) [])) n tT (idR (i+9)) trivial ?_ ?_
  ·exact t8 (T:=[]) (T':=[]) (L7 rfl rfl rfl (by rw [al6]) rfl rfl rfl rfl rfl rfl) rfl (by simp [i5]) zq ⟨⟨j5 om,rz⟩,g9 rfl,trivial⟩
  intro j hj _;by_cases hjl:j<n
  ·have nj:=a69 (Z.C j) (by have:=hB.c j hjl;omega);have eJ:0+(j:Int).toNat=j:=om;have gj:(zF n (tv Z.C j))[0+(j:Int).toNat]? =some (Z.C j):=by rw [eJ,U2 hjl,b7n]
   conv=>whnf
   repeat' (first|refine zx ?_|refine i9 (i5 _ _ _) ?_|refine i7 ?_|refine a2A gj ?_|refine bl0 [0,1,2,3,4] ?_|apply zD<;>intro<;>try omega)<;>conv=>whnf
   all_goals first|omega|exact ⟨hjl,trivial,idR (i+9),t8 (T:=[]) (T':=[]) (L7 rfl rfl rfl ((a1y eJ hjl).trans (by rw [aZ1])) rfl rfl rfl rfl rfl rfl) rfl (by simp [i5]) zq ⟨⟨j5 om,rz⟩,g9 om,trivial⟩⟩
  ·have hje:j=n:=by omega
   subst hje;have eA:mZ i j (ta j Z.A i 0)=mZ i j (b6X Z).A:=a9h fun a ha b hb=>bN2 ha hb
   have eV:zF i (tv Z.V i)=zF i (b6X Z).V:=a3h fun a ha=>b2o ha
   have eC:zF j (tv Z.C j)=zF j (b6X Z).C:=a3h fun a ha=>b2o ha
   have e0:K0 i j j fr sc (-Z.D) (tv Z.V i) (tv Z.C j) Z.O Z.F (ta j Z.A i 0) []=N3 i j fr sc (b6X Z) []:=L7 rfl (by rw [eV]) rfl (by rw [eC]) rfl rfl rfl rfl rfl (by rw [eA]);conv=>whnf
   repeat' (first|refine zx ?_|refine i9 (i5 _ _ _) ?_|refine i7 ?_|apply zD<;>intro<;>try omega)<;>conv=>whnf
   all_goals first|omega|(rw [← e0];exact a68 (T:=[]) rfl rfl (by simp [i5]) trivial)
def a4W {N:Nat} {z:Int}:okB N (bgX z):=A8 (rows:=[[ti (bz z).sg,w5 (bz z).dl]]) rfl
def ok1 {N:Nat} {z:Int}:∀k ∈ [bgX z],okB N k:=by intro k hk;simp at hk;subst hk;exact a4W
def ok2 {N:Nat} {z y:Int}:∀k ∈ [bgX z,bgX y],okB N k:=by intro k hk;simp at hk;rcases hk with rfl|rfl<;>exact a4W
def aX1 (m n:Nat) (fr:List (Nat × Bool)) (sc:List Int) (Z:Zd) (r s:Nat) (hm:m<=100000) (hn:n<=1000) (hr:r<m) (hs:s<n) (hd:0<Z.D) (hA:Z.A r s≠0) (hB:ZB m n 1000 Z) (hB':ZB m n 1000 (Z.exch r s)) (hdv:bJ1 m n Z r s):
 e8 Tryz.prog 128 [.c (.ptr 0 0 0),e7 .i64 r,e7 .i64 s] (N3 m n fr sc Z []) (.tup []) (N3 m n fr sc (Z.exch r s) []):=by
 have eR:0+(r:Int).toNat=r:=om
 have eS:0+(s:Int).toNat=s:=om
 have bp:=hB.a r hr s hs
 have bd:=hB.d
 have gA:(mZ m n Z.A)[r]? =some (zF n (Z.A r)):=a0E hr
 have e1V:∀i,i<m->bl (Z.exV r s i)<=1000:=fun i hi=>by
  have h:=hB'.v i hi
  have e:(Z.exch r s).V i=if Z.A r s<0 then -(Z.exV r s i) else Z.exV r s i:=rfl
  rw [e] at h
  split at h
  ·rwa [Z7] at h
  ·exact h
 have e1A:∀i,i<m->∀j,j<n->bl (Z.exA r s i j)<=1000:=fun i hi j hj=>by
  have h:=hB'.a i hi j hj
  have e:(Z.exch r s).A i j=if Z.A r s<0 then -(Z.exA r s i j) else Z.exA r s i j:=rfl
  rw [e] at h
  split at h
  ·rwa [Z7] at h
  ·exact h
 have e1C:∀j,j<n->bl (Z.exC r s j)<=1000:=fun j hj=>by
  have h:=hB'.c j hj
  have e:(Z.exch r s).C j=if Z.A r s<0 then -(Z.exC r s j) else Z.exC r s j:=rfl
  rw [e] at h
  split at h
  ·rwa [Z7] at h
  ·exact h
 have bcs:=hB.c s hs
 have gAm:(mZ m n (AE Z r s m))[r]? =some (zF n (Z.A r)):=by rw [a0E hr,bt9]
 have lAm:r<(mZ m n (AE Z r s m)).length:=by rw [i5];exact hr
 (refine M6 g8 Tryz.func128 rfl de ?_;refine w8 g8 ?_;(conv=>whnf);repeat ((first|refine b0x ?_|refine zy ?_);conv=>whnf))
 repeat' (first|refine zx ?_|refine i9 (i5 _ _ _) ?_|refine i7 ?_|refine aj4 eR hr ?_|refine bA4 eS hs ?_|refine J9 gA ?_|refine s9 (i5 _ _ _) ?_|refine C5 (i5 _ _ _) ?_|refine zd ?_ ?_<;>intro h<;>try omega|fail)<;>conv=>whnf
 refine B4 g8 ([S.c (C.ptr 0 0 0),e7 .i64 r,e7 .i64 s,J,J,J,S.c (C.ptr (m+9) 0 0)]++Jn 221) (K0 m n n fr sc Z.D (VE Z r s m) Z.C Z.O Z.F (AE Z r s m) [bgX (Z.A r s)]) ?_ ?_
 ·conv=>whnf
  repeat' (first|refine zx ?_|refine i9 (i5 _ _ _) ?_|refine i7 ?_|refine zd ?_ ?_<;>intro h<;>try omega|fail)<;>conv=>whnf
  refine k6 g8 (fun i=>([S.c (C.ptr 0 0 0),e7 .i64 r,e7 .i64 s,J,J,J,S.c (C.ptr (m+9) 0 0),e7 .i64 i]++Jn 220,K0 m n n fr sc Z.D (VE Z r s i) Z.C Z.O Z.F (AE Z r s i) [bgX (Z.A r s)])) m (fun _=>True) (idR (m+10)) trivial ?_ ?_
  ·exact t8 (T:=[_]) (T':=[]) (L7 rfl (by rw [bv8]) rfl rfl rfl rfl rfl rfl rfl (by rw [bu2];rfl)) rfl (by simp [i5]) ok1 ⟨⟨j5 om,rfl,rfl⟩,rfl,rfl,⟨j5 om,rfl,rfl⟩,g9 rfl,trivial⟩
  intro i hi _
  by_cases jj:i<m
  ·by_cases hir:i=r
   ·subst hir
    conv=>whnf
    repeat' (first|refine zx ?_|refine i9 (i5 _ _ _) ?_|refine i7 ?_|refine zd ?_ ?_<;>intro h<;>try omega|fail)<;>conv=>whnf
    all_goals first
     |omega
     |exact ⟨jj,trivial,idR (m+10),t8 (T:=[_]) (T':=[]) (L7 rfl (by rw [← bs7]) rfl rfl rfl rfl rfl rfl rfl (by rw [← by6];rfl)) rfl (by simp [i5]) ok1 ⟨⟨j5 om,rfl,rfl⟩,rfl,rfl,⟨j5 om,rfl,rfl⟩,g9 om,trivial⟩⟩
   ·have gAi:(mZ m n (AE Z r s i))[i]? =some (zF n (Z.A i)):=by rw [a0E jj,bB7]
    have eIq:0+(i:Int).toNat=i:=om
    have gv:(zF m (VE Z r s i))[0+(i:Int).toNat]? =some (Z.V i):=by rw [eIq,U2 jj,bP3]
    have gvr:(zF m (VE Z r s i))[0+(r:Int).toNat]? =some (Z.V r):=by rw [eR,U2 hr,bX2]
    have bi:=hB.v i jj
    have br:=hB.v r hr
    have bis:=hB.a i jj s hs
    have n1:=fun T=>aW6 (m:=m) (n:=n) (q:=n) (fr:=fr) (sc:=sc) (V:=VE Z r s i) (G:=Z.C) (O:=Z.O) (F:=Z.F) (A:=AE Z r s i) T hd (hdv.v i jj hir) bi bp bis br bd
    conv=>whnf
    repeat' (first|refine zx ?_|refine .inr ⟨_,_,n1 _,?_⟩|refine i9 (i5 _ _ _) ?_|refine i7 ?_|refine aj4 eIq jj ?_|refine bA4 eS hs ?_|refine a2A gv ?_|refine a2A gvr ?_|refine J9 gAi ?_|refine s9 (i5 _ _ _) ?_|refine j1 (t:=1) (i5 _ _ _) ?_|refine C5 (i5 _ _ _) ?_|refine k5 (t:=1) (i5 _ _ _) ?_|refine bl0 [0,1,2,3,4] ?_|refine zd ?_ ?_<;>intro h<;>try omega|fail)<;>conv=>whnf
    all_goals try omega
    refine k6 g8 (fun j=>([S.c (C.ptr 0 0 0),e7 .i64 r,e7 .i64 s,J,J,J,S.c (C.ptr (m+9) 0 0),e7 .i64 i,S.c (C.ptr (m+10) 0 0),e7 .i64 j]++Jn 218,K0 m n n fr sc Z.D (VE Z r s (i+1)) Z.C Z.O Z.F (AI Z r s i j) [bgX (Z.A r s),bgX (Z.A i s)])) n (fun _=>True) (idR (m+11)) trivial ?_ ?_
    ·exact t8 (T:=[_,_]) (T':=[]) (L7 rfl ((a1y eIq jj).trans (by rw [← bt1 hir];rfl)) rfl rfl rfl rfl rfl rfl rfl (by rw [bn8];rfl)) rfl (by simp [i5]) ok2 ⟨⟨j5 om,rfl,rfl⟩,rfl,rfl,⟨j5 om,rfl,rfl⟩,rfl,⟨j5 om,rfl,rfl⟩,g9 rfl,trivial⟩
    intro j hj _
    have gAi:(mZ m n (AI Z r s i j))[i]? =some (zF n (exr Z r s i j)):=by rw [a0E jj,b41]
    have gAr:(mZ m n (AI Z r s i j))[r]? =some (zF n (Z.A r)):=by rw [a0E hr,bV7 hir]
    have lA:i<(mZ m n (AI Z r s i j)).length:=by rw [i5];exact jj
    by_cases hjl:j<n
    ·by_cases hjs:j=s
     ·subst hjs
      conv=>whnf
      repeat' (first|refine zx ?_|refine i9 (i5 _ _ _) ?_|refine i7 ?_|refine zd ?_ ?_<;>intro h<;>try omega|fail)<;>conv=>whnf
      all_goals first
       |omega
       |exact ⟨hjl,trivial,idR (m+11),t8 (T:=[_,_]) (T':=[]) (L7 rfl rfl rfl rfl rfl rfl rfl rfl rfl (by rw [← br4];rfl)) rfl (by simp [i5]) ok2 ⟨⟨j5 om,rfl,rfl⟩,rfl,rfl,⟨j5 om,rfl,rfl⟩,rfl,⟨j5 om,rfl,rfl⟩,g9 om,trivial⟩⟩
     ·have eJ:0+(j:Int).toNat=j:=by omega
      have gi:(zF n (exr Z r s i j))[0+(j:Int).toNat]? =some (Z.A i j):=by
       rw [eJ,U2 hjl];unfold exr;rw [iC om]
      have grj:(zF n (Z.A r))[0+(j:Int).toNat]? =some (Z.A r j):=by rw [eJ,U2 hjl]
      have bij:=hB.a i jj j hjl
      have brj:=hB.a r hr j hjl
      have n2:=fun T=>aW6 (m:=m) (n:=n) (q:=n) (fr:=fr) (sc:=sc) (V:=VE Z r s (i+1)) (G:=Z.C) (O:=Z.O) (F:=Z.F) (A:=AI Z r s i j) T hd (hdv.a i jj hir j hjl hjs) bij bp bis brj bd
      have ex:(fun k=>if k=j then (Z.A i j*Z.A r s - Z.A i s*Z.A r j) / Z.D else exr Z r s i j k)=exr Z r s i (j+1):=b9g hjs
      conv=>whnf
      repeat' (first|refine zx ?_|refine .inr ⟨_,_,n2 _,?_⟩|refine i9 (i5 _ _ _) ?_|refine i7 ?_|refine aj4 eIq jj ?_|refine aj4 eR hr ?_|refine a2A gi ?_|refine a2A grj ?_|refine J9 gAi ?_|refine J9 gAr ?_|refine s9 (i5 _ _ _) ?_|refine j1 (t:=1) (i5 _ _ _) ?_|refine a2L lA (a1y (g:=exr Z r s i j) eJ hjl) ?_|refine bl0 [0,1,2,3,4,5,6,7] ?_|refine zd ?_ ?_<;>intro h<;>try omega|fail)<;>conv=>whnf
      all_goals first
       |omega
       |exact ⟨hjl,trivial,idR (m+11),t8 (T:=[_,_]) (T':=[]) (L7 rfl rfl rfl rfl rfl rfl rfl rfl rfl (by rw [ex,b57 jj bv9];rfl)) rfl (by simp [i5]) ok2 ⟨⟨j5 om,rfl,rfl⟩,rfl,rfl,⟨j5 om,rfl,rfl⟩,rfl,⟨j5 om,rfl,rfl⟩,g9 om,trivial⟩⟩
    ·have hje:j=n:=by omega
     subst hje
     have ng:=a69 (Z.A i s) om
     have gi:(zF j (exr Z r s i j))[0+(s:Int).toNat]? =some (Z.A i s):=by
      rw [eS,U2 hs];unfold exr;rw [iC om]
     have eA:(mZ m j (AI Z r s i j)).set i (zF j fun k=>if k=s then -(Z.A i s) else exr Z r s i j k)=mZ m j (AE Z r s (i+1)):=by
      rw [b2E jj]
      exact a9h fun k hk l hl=>by
       have:=bI5 (Z:=Z) (r:=r) (s:=s) (i:=i) (n:=j) hir (k:=k) hl
       rw [← this,b41]
       split<;>rfl
     conv=>whnf
     repeat' (first|refine zx ?_|refine qp ng ?_|refine i9 (i5 _ _ _) ?_|refine i7 ?_|refine aj4 eIq jj ?_|refine a2A gi ?_|refine J9 gAi ?_|refine s9 (i5 _ _ _) ?_|refine j1 (t:=1) (i5 _ _ _) ?_|refine a2L lA (a1y (g:=exr Z r s i j) eS hs) ?_|refine bl0 [0,1,2,3,4,5,6,7] ?_|refine zd ?_ ?_<;>intro h<;>try omega|fail)<;>conv=>whnf
     all_goals first
      |omega
      |exact ⟨jj,trivial,idR (m+10),t8 (T:=[_]) (T':=[_]) (L7 rfl rfl rfl rfl rfl rfl rfl rfl rfl (by rw [eA];rfl)) rfl (by simp [i5]) ok1 ⟨⟨j5 om,rfl,rfl⟩,rfl,rfl,⟨j5 om,rfl,rfl⟩,g9 om,trivial⟩⟩
  ·have hie:i=m:=by omega
   subst hie
   conv=>whnf
   repeat' (first|refine zx ?_|refine i9 (i5 _ _ _) ?_|refine i7 ?_|refine s9 (i5 _ _ _) ?_|refine j1 (t:=1) (i5 _ _ _) ?_|refine C5 (i5 _ _ _) ?_|refine k5 (t:=1) (i5 _ _ _) ?_|refine zd ?_ ?_<;>intro h<;>try omega|fail)<;>conv=>whnf
   all_goals first
    |omega
    |exact ⟨idR (i+10),t8 (T:=[_]) (T':=[]) rfl rfl (by simp [i5]) ok1 ⟨⟨j5 om,rfl,rfl⟩,rfl,rfl,⟨j5 om,rfl,rfl⟩,trivial⟩⟩
 have gcs:(zF n Z.C)[0+(s:Int).toNat]? =some (Z.C s):=by rw [eS,U2 hs]
 refine B4 g8 ([S.c (C.ptr 0 0 0),e7 .i64 r,e7 .i64 s,J,J,J,S.c (C.ptr (m+9) 0 0),J,J,J,S.c (C.ptr (m+10) 0 0)]++Jn 217) (K0 m n n fr sc Z.D (VE Z r s m) Z.C Z.O Z.F (AE Z r s m) [bgX (Z.A r s),bgX (Z.C s)]) ?_ ?_
 ·conv=>whnf
  repeat' (first|refine zx ?_|refine a2A gcs ?_|refine i9 (i5 _ _ _) ?_|refine i7 ?_|refine s9 (i5 _ _ _) ?_|refine j1 (t:=1) (i5 _ _ _) ?_|refine C5 (i5 _ _ _) ?_|refine k5 (t:=1) (i5 _ _ _) ?_|refine zd ?_ ?_<;>intro h<;>try omega|fail)<;>conv=>whnf
  all_goals exact ⟨idR (m+11),t8 (T:=[_,_]) (T':=[]) rfl rfl (by simp [i5]) ok2 ⟨⟨j5 om,rfl,rfl⟩,rfl,rfl,⟨j5 om,rfl,rfl⟩,⟨j5 om,rfl,rfl⟩,trivial⟩⟩
 refine B4 g8 ([S.c (C.ptr 0 0 0),e7 .i64 r,e7 .i64 s,J,J,J,S.c (C.ptr (m+9) 0 0),J,J,J,S.c (C.ptr (m+10) 0 0)]++Jn 217) (K0 m n n fr sc Z.D (VE Z r s m) (CE Z r s n) Z.O Z.F (AE Z r s m) [bgX (Z.A r s),bgX (Z.C s)]) ?_ ?_
 ·conv=>whnf
  repeat' (first|refine zx ?_|refine i9 (i5 _ _ _) ?_|refine i7 ?_|refine zd ?_ ?_<;>intro h<;>try omega|fail)<;>conv=>whnf
  refine k6 g8 (fun j=>([S.c (C.ptr 0 0 0),e7 .i64 r,e7 .i64 s,J,J,J,S.c (C.ptr (m+9) 0 0),J,J,J,S.c (C.ptr (m+10) 0 0),e7 .i64 j]++Jn 216,K0 m n n fr sc Z.D (VE Z r s m) (CE Z r s j) Z.O Z.F (AE Z r s m) [bgX (Z.A r s),bgX (Z.C s)])) n (fun _=>True) (idR (m+11)) trivial ?_ ?_
  ·exact t8 (T:=[_,_]) (T':=[]) (L7 rfl rfl rfl (by rw [bx7]) rfl rfl rfl rfl rfl rfl) rfl (by simp [i5]) ok2 ⟨⟨j5 om,rfl,rfl⟩,rfl,rfl,⟨j5 om,rfl,rfl⟩,⟨j5 om,rfl,rfl⟩,g9 rfl,trivial⟩
  intro j hj _
  by_cases hjl:j<n
  ·by_cases hjs:j=s
   ·subst hjs
    conv=>whnf
    repeat' (first|refine zx ?_|refine i9 (i5 _ _ _) ?_|refine i7 ?_|refine zd ?_ ?_<;>intro h<;>try omega|fail)<;>conv=>whnf
    all_goals first
     |omega
     |exact ⟨hjl,trivial,idR (m+11),t8 (T:=[_,_]) (T':=[]) (L7 rfl rfl rfl (by rw [← bq1]) rfl rfl rfl rfl rfl rfl) rfl (by simp [i5]) ok2 ⟨⟨j5 om,rfl,rfl⟩,rfl,rfl,⟨j5 om,rfl,rfl⟩,⟨j5 om,rfl,rfl⟩,g9 om,trivial⟩⟩
   ·have eJ:0+(j:Int).toNat=j:=by omega
    have gj:(zF n (CE Z r s j))[0+(j:Int).toNat]? =some (Z.C j):=by rw [eJ,U2 hjl,bU2]
    have grj:(zF n (Z.A r))[0+(j:Int).toNat]? =some (Z.A r j):=by rw [eJ,U2 hjl]
    have bj:=hB.c j hjl
    have brj:=hB.a r hr j hjl
    have n3:=fun T=>aW6 (m:=m) (n:=n) (q:=n) (fr:=fr) (sc:=sc) (V:=VE Z r s m) (G:=CE Z r s j) (O:=Z.O) (F:=Z.F) (A:=AE Z r s m) T hd (hdv.c j hjl hjs) bj bp bcs brj bd
    have ex:(fun k=>if k=j then (Z.C j*Z.A r s - Z.C s*Z.A r j) / Z.D else CE Z r s j k)=CE Z r s (j+1):=bv0 hjs
    conv=>whnf
    repeat' (first|refine zx ?_|refine .inr ⟨_,_,n3 _,?_⟩|refine i9 (i5 _ _ _) ?_|refine i7 ?_|refine aj4 eR hr ?_|refine a2A gj ?_|refine a2A grj ?_|refine J9 gAm ?_|refine s9 (i5 _ _ _) ?_|refine j1 (t:=1) (i5 _ _ _) ?_|refine bl0 [0,1,2,3,4] ?_|refine zd ?_ ?_<;>intro h<;>try omega|fail)<;>conv=>whnf
    all_goals first
     |omega
     |exact ⟨hjl,trivial,idR (m+11),t8 (T:=[_,_]) (T':=[]) (L7 rfl rfl rfl ((a1y eJ hjl).trans (by rw [ex])) rfl rfl rfl rfl rfl rfl) rfl (by simp [i5]) ok2 ⟨⟨j5 om,rfl,rfl⟩,rfl,rfl,⟨j5 om,rfl,rfl⟩,⟨j5 om,rfl,rfl⟩,g9 om,trivial⟩⟩
  ·have hje:j=n:=by omega
   subst hje
   conv=>whnf
   repeat' (first|refine zx ?_|refine i9 (i5 _ _ _) ?_|refine i7 ?_|refine s9 (i5 _ _ _) ?_|refine j1 (t:=1) (i5 _ _ _) ?_|refine C5 (i5 _ _ _) ?_|refine k5 (t:=1) (i5 _ _ _) ?_|refine zd ?_ ?_<;>intro h<;>try omega|fail)<;>conv=>whnf
   all_goals first
    |omega
    |exact ⟨idR (m+11),t8 (T:=[_,_]) (T':=[]) rfl rfl (by simp [i5]) ok2 ⟨⟨j5 om,rfl,rfl⟩,rfl,rfl,⟨j5 om,rfl,rfl⟩,⟨j5 om,rfl,rfl⟩,trivial⟩⟩
 have ng:=a69 (Z.C s) om
 have gce:(zF n (CE Z r s n))[0+(s:Int).toNat]? =some (Z.C s):=by rw [eS,U2 hs,bV6]
 have eC:zF n (fun j=>if j=s then -(Z.C s) else CE Z r s n j)=zF n (Z.exC r s):=a3h fun j hj=>bK6 hj
 refine B4 g8 ([S.c (C.ptr 0 0 0),e7 .i64 r,e7 .i64 s,J,J,J,S.c (C.ptr (m+9) 0 0)]++Jn 221) (K0 m n n fr sc Z.D (VE Z r s m) (Z.exC r s) Z.O Z.F (AE Z r s m) [bgX (Z.A r s)]) ?_ ?_
 ·conv=>whnf
  repeat' (first|refine zx ?_|refine qp ng ?_|refine a2A gce ?_|refine i9 (i5 _ _ _) ?_|refine i7 ?_|refine s9 (i5 _ _ _) ?_|refine j1 (t:=1) (i5 _ _ _) ?_|refine C5 (i5 _ _ _) ?_|refine k5 (t:=1) (i5 _ _ _) ?_|refine bl0 [0,1,2,3,4] ?_|refine zd ?_ ?_<;>intro h<;>try omega|fail)<;>conv=>whnf
  all_goals exact ⟨idR (m+10),t8 (T:=[_]) (T':=[_]) (L7 rfl rfl rfl ((a1y eS hs).trans (by rw [eC])) rfl rfl rfl rfl rfl rfl) rfl (by simp [i5]) ok1 ⟨⟨j5 om,rfl,rfl⟩,rfl,rfl,⟨j5 om,rfl,rfl⟩,trivial⟩⟩
 have eA:(mZ m n (AE Z r s m)).set r (zF n fun k=>if k=s then Z.D else Z.A r k)=mZ m n (Z.exA r s):=by
  rw [b2E hr]
  exact a9h fun i hi j hj=>by
   have:=bL9 (Z:=Z) (r:=r) (s:=s) (j:=j) hi
   rw [← this,bt9]
   split<;>rfl
 have gAs:(zF n (Z.A r))[0+(s:Int).toNat]? =some (Z.A r s):=by rw [eS,U2 hs]
 have eV:zF m (VE Z r s m)=zF m (Z.exV r s):=a3h fun i hi=>bK0 hi
 refine B4 g8 ([S.c (C.ptr 0 0 0),e7 .i64 r,e7 .i64 s,J,J,J,S.c (C.ptr (m+9) 0 0)]++Jn 221) (K0 m n n fr sc Z.D (Z.exV r s) (Z.exC r s) Z.O Z.F (Z.exA r s) [bgX (Z.A r s)]) ?_ ?_
 ·conv=>whnf
  repeat' (first|refine zx ?_|refine aj4 eR hr ?_|refine a2A gAs ?_|refine J9 gAm ?_|refine a2L lAm (a1y (g:=Z.A r) eS hs) ?_|refine i9 (i5 _ _ _) ?_|refine i7 ?_|refine s9 (i5 _ _ _) ?_|refine j1 (t:=1) (i5 _ _ _) ?_|refine C5 (i5 _ _ _) ?_|refine k5 (t:=1) (i5 _ _ _) ?_|refine bl0 [0,1,2,3,4] ?_|refine zd ?_ ?_<;>intro h<;>try omega|fail)<;>conv=>whnf
  all_goals first
   |omega
   |exact ⟨idR (m+10),t8 (T:=[_]) (T':=[]) (L7 rfl (by rw [eV]) rfl rfl rfl rfl rfl rfl rfl (by rw [eA];rfl)) rfl (by simp [i5]) ok1 ⟨⟨j5 om,rfl,rfl⟩,rfl,rfl,⟨j5 om,rfl,rfl⟩,trivial⟩⟩
 refine B4 g8 ([S.c (C.ptr 0 0 0),e7 .i64 r,e7 .i64 s,J,J,J,S.c (C.ptr (m+9) 0 0)]++Jn 221) (N3 m n fr sc ⟨Z.exV r s,Z.exA r s,Z.exC r s,Z.A r s,Z.O,Z.F⟩ [bgX (Z.A r s)]) ?_ ?_
 ·conv=>whnf
  repeat' (first|refine zx ?_|refine i9 (i5 _ _ _) ?_|refine i7 ?_|refine s9 (i5 _ _ _) ?_|refine j1 (t:=1) (i5 _ _ _) ?_|refine C5 (i5 _ _ _) ?_|refine k5 (t:=1) (i5 _ _ _) ?_|refine zd ?_ ?_<;>intro h<;>try omega|fail)<;>conv=>whnf
  all_goals first
   |omega
   |exact ⟨idR (m+10),t8 (T:=[_]) (T':=[]) (L7 rfl rfl rfl rfl rfl rfl rfl rfl rfl rfl) rfl (by simp [i5]) ok1 ⟨⟨j5 om,rfl,rfl⟩,rfl,rfl,⟨j5 om,rfl,rfl⟩,trivial⟩⟩
 have hsg1:=aR0 (Z.A r s)
 have tu:=aM6 [bgX (Z.A r s)] (bH8 m n fr sc ⟨Z.exV r s,Z.exA r s,Z.exC r s,Z.A r s,Z.O,Z.F⟩ hm hn ⟨e1V,e1A,e1C,bp⟩) (by simp [okS,okC,okL,a1o]) rfl rfl
 refine B4 g8 ([S.c (C.ptr 0 0 0),e7 .i64 r,e7 .i64 s]++Jn 225) (N3 m n fr sc ⟨(Z.exch r s).V,(Z.exch r s).A,(Z.exch r s).C,(Z.exch r s).D,Z.O,Z.F⟩ []) ?_ ?_
 ·by_cases hng:Z.A r s<0
  ·have eZ:∀T,N3 m n fr sc (b6X ⟨Z.exV r s,Z.exA r s,Z.exC r s,Z.A r s,Z.O,Z.F⟩) T=N3 m n fr sc ⟨(Z.exch r s).V,(Z.exch r s).A,(Z.exch r s).C,(Z.exch r s).D,Z.O,Z.F⟩ T:=fun T=>a7q ⟨fun i hi=>(iB hng).symm,fun i hi j hj=>(iB hng).symm,fun j hj=>(iB hng).symm,(iB hng).symm,rfl,rfl⟩
   conv=>whnf
   repeat' (first|refine zx ?_|refine .inr ⟨_,_,tu,?_⟩|refine i9 (i5 _ _ _) ?_|refine i7 ?_|refine s9 (i5 _ _ _) ?_|refine j1 (t:=1) (i5 _ _ _) ?_|refine C5 (i5 _ _ _) ?_|refine k5 (t:=1) (i5 _ _ _) ?_|refine zd ?_ ?_<;>intro h<;>try omega|fail)<;>conv=>whnf
   all_goals first
    |omega
    |exact ⟨idR (m+9),t8 (T:=[]) (T':=[_]) (eZ _) rfl (by simp [i5]) zq ⟨⟨j5 om,rfl,rfl⟩,rfl,rfl,trivial⟩⟩
  ·have eZ:∀T,N3 m n fr sc ⟨Z.exV r s,Z.exA r s,Z.exC r s,Z.A r s,Z.O,Z.F⟩ T=N3 m n fr sc ⟨(Z.exch r s).V,(Z.exch r s).A,(Z.exch r s).C,(Z.exch r s).D,Z.O,Z.F⟩ T:=fun T=>a7q ⟨fun i hi=>(iC hng).symm,fun i hi j hj=>(iC hng).symm,fun j hj=>(iC hng).symm,(iC hng).symm,rfl,rfl⟩
   conv=>whnf
   repeat' (first|refine zx ?_|refine i9 (i5 _ _ _) ?_|refine i7 ?_|refine s9 (i5 _ _ _) ?_|refine j1 (t:=1) (i5 _ _ _) ?_|refine C5 (i5 _ _ _) ?_|refine k5 (t:=1) (i5 _ _ _) ?_|refine zd ?_ ?_<;>intro h<;>try omega|fail)<;>conv=>whnf
   all_goals first
    |omega
    |exact ⟨idR (m+9),t8 (T:=[]) (T':=[_]) (eZ _) rfl (by simp [i5]) zq ⟨⟨j5 om,rfl,rfl⟩,rfl,rfl,trivial⟩⟩
 have e0:N3 m n fr sc (Z.exch r s) []=K0 m n n fr sc (Z.exch r s).D (Z.exch r s).V (Z.exch r s).C (fun i=>if i=r then Z.F s else Z.O i) (fun j=>if j=s then Z.O r else Z.F j) (Z.exch r s).A []:=rfl
 refine t4 g8 _ ?_
 conv=>whnf
 repeat' (first|refine zx ?_|refine Q7 eR hr ?_|refine Q7 eS hs ?_|refine i9 (i5 _ _ _) ?_|refine i7 ?_|refine s9 (i5 _ _ _) ?_|refine j1 (t:=1) (i5 _ _ _) ?_|refine C5 (i5 _ _ _) ?_|refine k5 (t:=1) (i5 _ _ _) ?_|refine bl0 [9] ?_|refine zd ?_ ?_<;>intro h<;>try omega|fail)<;>conv=>whnf
 all_goals first
  |omega
  |(rw [e0];exact a68 (T:=[]) (L7 rfl rfl rfl rfl (a4y eR hr) (a4y eS hs) rfl rfl rfl rfl) rfl (by simp [i5]) trivial)
def b0c (n:Int) (hn:0<n) (x:Rat) (ln:bl n<=1000) (lx:rl x<=1000):ec 121 [bgS (bz n),frS (fz x)] [] (bgS (bz (n / (Int.gcd n x.den:Int)*x.den))) []:=by
 have hd:=x.den_pos;have lq:=K3 x;have hg:0<(Int.gcd n x.den:Int):=by have:=Int.gcd_pos_of_ne_zero_left (x.den:Int) (a:=n) om;omega
 have lg:=ac6 n x.den (n:=1000) ln om;have ld:bl (n / (Int.gcd n x.den:Int))<=1000:=lbS (a5g (b3y _ _)) ln;have g:=b93 n x.den om om;have e:=aT8 n (Int.gcd n x.den) hg (Int.gcd_dvd_left ..) om om;have m:=ao3 (n / (Int.gcd n x.den:Int)) x.den om om;refine ac Tryz.func121 ?_;conv=>whnf
 repeat' (first|refine zx ?_|apply zD<;>intro<;>try omega)<;>conv=>whnf
 all_goals first|omega|exact n8 rz
def b5g (n:Int) (x:Rat) (hd:(x.den:Int) ∣ n) (ln:bl n<=1000) (lx:rl x<=1000):ec 123 [bgS (bz n),frS (fz x)] [] (bgS (bz (n / x.den*x.num))) []:=by
 have hp:=x.den_pos;have lq:=K3 x;have lp:=K9 x;have ld:bl (n / (x.den:Int))<=1000:=lbS (a5g (b3y _ _)) ln;have e:=aT8 n x.den om hd om om;have m:=ao3 (n / x.den) x.num om om;refine ac Tryz.func123 ?_;conv=>whnf
 repeat' (first|refine zx ?_|apply zD<;>intro<;>try omega)<;>conv=>whnf
 all_goals first|omega|exact n8 rz
def aK4 (n:Int) (hn:0<n) (c:Int) (ln:bl n<=1000) (lc:bl c<=1):ec 121 [bgS (bz n),frS (fz ((c:Int):Rat))] [] (bgS (bz n)) []:=by
 have h1:bl 1<=1:=w9 de de;have h:=b0c n hn ((c:Int):Rat) ln (by rw [a0T];omega);have e:n / (Int.gcd n (((c:Int):Rat).den:Int):Int)*(((c:Int):Rat).den:Int)=n:=by
  rw [as0];have:Int.gcd n ((1:Nat):Int)=1:=zq;rw [this];simp
 rw [e] at h;exact h
def b5R (x:Rat) (lx:rl x<=1000):ec 121 [bgS (bz 1),frS (fz x)] [] (bgS (bz x.den)) []:=by
 have h1:bl 1<=1:=w9 de de;have h:=b0c 1 de x om lx;have e:1 / (Int.gcd 1 (x.den:Int):Int)*(x.den:Int)=(x.den:Int):=by
  have:Int.gcd 1 (x.den:Int)=1:=zq;rw [this];simp
 rw [e] at h;exact h
def b0k (n c:Int) (ln:bl n<=1000) (lc:bl c<=1):ec 123 [bgS (bz n),frS (fz ((c:Int):Rat))] [] (bgS (bz (n*c))) []:=by
 have h1:bl 1<=1:=w9 de de;have h:=b5g n ((c:Int):Rat) (by rw [as0];exact ⟨n,zq⟩) ln (by rw [a0T];omega);rw [as0,a89] at h;simpa using h
def b8B (x:Rat) (lx:rl x<=1000):ec 123 [bgS (bz x.den),frS (fz x)] [] (bgS (bz x.num)) []:=by
 have hp:=x.den_pos;have lq:=K3 x;have h:=b5g (x.den:Int) x ⟨1,zq⟩ om lx;have e:(x.den:Int) / (x.den:Int)*x.num=x.num:=by rw [Int.ediv_self om];simp
 rw [e] at h;exact h
def bQ8 (m n:Nat) (fr:LB) (sc:LI) (Z:Zd) (hm:m<=100000) (hn:n<=1000):ec 124 [jT m n fr sc Z] [] (eI (leI (F5 Z.O (fun i=>decide (Z.V i<0)) m))) []:=by
 have l1:(a04 m Z.O).length=m:=p4 _ _;obtain ⟨p,hp⟩:∃p:Nat->Bool,p=fun i=>decide (Z.V i<0):=⟨_,rfl⟩
 rw [← hp];refine ac Tryz.func124 ?_;conv=>whnf
 repeat' (first|refine zx ?_|apply zD<;>intro h<;>try omega)<;>conv=>whnf
 refine k6 g8 (fun k=>([jT m n fr sc Z,J,J,eI (leI (F5 Z.O p k)),eI k]++Jn 42,[])) m tT [] trivial
  ⟨rfl,rfl,trivial,⟨rfl,g9 rfl,g9 rfl,trivial⟩⟩ ?_
 intro k hk _;by_cases jj:k<m
 ·have hsg:=aR0 (Z.V k);have hpk:p k=decide (Z.V k<0):=by rw [hp]
  have ls:=Z2 Z.O p k;have hM:∀b:Nat,(bif true then if 0 > (b:Int) then 0 else (b:Int) else if 0<(b:Int) then 0 else (b:Int))=(b:Int):=fun b=>by simp only [cond];split<;>omega
  cases hl:F5 Z.O p k with
  |none=>
   rw [hl] at ls;have hle:leI none=-1:=rfl;by_cases hd:p k=true
   ·have e1:(k:Int)=leI (F5 Z.O p (k+1)):=by rw [ls,hd];rfl
    rw [hpk] at hd;have hd:=lbL hd;conv=>whnf
    repeat' (first|refine zx ?_|refine a13 rfl jj ?_|refine t7 rfl jj ?_|apply zD<;>intro h<;>try omega)<;>conv=>whnf
    all_goals first|omega|exact ⟨jj,trivial,[],rfl,rfl,trivial,⟨rfl,g9 e1,g9 om,trivial⟩⟩
   ·have e1:leI none=leI (F5 Z.O p (k+1)):=by rw [ls,eq_false_of_ne_true hd];rfl
    have hd:p k=false:=eq_false_of_ne_true hd;rw [hpk] at hd;have hd:=lbM hd;conv=>whnf
    repeat' (first|refine zx ?_|refine a13 rfl jj ?_|refine t7 rfl jj ?_|apply zD<;>intro h<;>try omega)<;>conv=>whnf
    all_goals first
     |omega
     |exact ⟨jj,trivial,[],rfl,rfl,trivial,⟨rfl,g9 e1,g9 om,trivial⟩⟩
  |some b=>
   have hb:=(G3 hl).1;rw [hl] at ls;have hle:leI (some b)=b:=rfl;by_cases hd:p k=true
   ·have e0:F5 Z.O p (k+1)=if decide (Z.O k<Z.O b)=true then some k else some b:=by rw [ls,hd];rfl
    have e1:Z.O k<Z.O b->(k:Int)=leI (F5 Z.O p (k+1)):=fun h=>by rw [e0,iB (lbH h)];rfl
    have e2:¬Z.O k<Z.O b->(b:Int)=leI (F5 Z.O p (k+1)):=fun h=>by rw [e0,iC (by simp [h])];rfl
    rw [hpk] at hd;have hd:=lbL hd;rw [hle];conv=>whnf
    repeat' (first|refine zx ?_|refine a13 rfl jj ?_|refine t7 rfl jj ?_|refine t7 (i:=b) (hM b) om ?_|apply zD<;>intro h<;>try omega)<;>conv=>whnf
    all_goals first|omega|exact ⟨jj,trivial,[],rfl,rfl,trivial,⟨rfl,g9 (e1 om),g9 om,trivial⟩⟩|exact ⟨jj,trivial,[],rfl,rfl,trivial,⟨rfl,g9 (e2 om),g9 om,trivial⟩⟩
   ·have e1:leI (some b)=leI (F5 Z.O p (k+1)):=by rw [ls,eq_false_of_ne_true hd];rfl
    have hd:p k=false:=eq_false_of_ne_true hd;rw [hpk] at hd;have hd:=lbM hd;conv=>whnf
    repeat' (first|refine zx ?_|refine a13 rfl jj ?_|refine t7 rfl jj ?_|apply zD<;>intro h<;>try omega)<;>conv=>whnf
    all_goals first|omega|exact ⟨jj,trivial,[],rfl,rfl,trivial,⟨rfl,g9 e1,g9 om,trivial⟩⟩
 ·have hke:k=m:=by omega
  subst hke;conv=>whnf
  repeat' (first|refine zx ?_|apply zD<;>intro h<;>try omega)<;>conv=>whnf
  all_goals first|omega|exact p9 rfl
def b98 (m n:Nat) (fr:LB) (sc:LI) (Z:Zd) (hm:m<=100000) (hn:n<=1000):ec 125 [jT m n fr sc Z] [] (eI (leI (F5 Z.F (fun i=>decide (0<Z.C i)) n))) []:=by
 have l1:(a04 n Z.F).length=n:=p4 _ _;obtain ⟨p,hp⟩:∃p:Nat->Bool,p=fun i=>decide (0<Z.C i):=⟨_,rfl⟩
 rw [← hp];refine ac Tryz.func125 ?_;conv=>whnf
 repeat' (first|refine zx ?_|apply zD<;>intro h<;>try omega)<;>conv=>whnf
 refine k6 g8 (fun k=>([jT m n fr sc Z,J,J,eI (leI (F5 Z.F p k)),eI k]++Jn 42,[])) n tT [] trivial
  ⟨rfl,rfl,trivial,⟨rfl,g9 rfl,g9 rfl,trivial⟩⟩ ?_
 intro k hk _;by_cases jj:k<n
 ·have hsg:=b4i (Z.C k);have hpk:p k=decide (0<Z.C k):=by rw [hp]
  have ls:=Z2 Z.F p k;have hM:∀b:Nat,(bif true then if 0 > (b:Int) then 0 else (b:Int) else if 0<(b:Int) then 0 else (b:Int))=(b:Int):=fun b=>by simp only [cond];split<;>omega
  cases hl:F5 Z.F p k with
  |none=>
   rw [hl] at ls;have hle:leI none=-1:=rfl;by_cases hd:p k=true
   ·have e1:(k:Int)=leI (F5 Z.F p (k+1)):=by rw [ls,hd];rfl
    rw [hpk] at hd;have hd:=lbL hd;conv=>whnf
    repeat' (first|refine zx ?_|refine a13 rfl jj ?_|refine t7 rfl jj ?_|apply zD<;>intro h<;>try omega)<;>conv=>whnf
    all_goals first|omega|exact ⟨jj,trivial,[],rfl,rfl,trivial,⟨rfl,g9 e1,g9 om,trivial⟩⟩
   ·have e1:leI none=leI (F5 Z.F p (k+1)):=by rw [ls,eq_false_of_ne_true hd];rfl
    have hd:p k=false:=eq_false_of_ne_true hd;rw [hpk] at hd;have hd:=lbM hd;conv=>whnf
    repeat' (first|refine zx ?_|refine a13 rfl jj ?_|refine t7 rfl jj ?_|apply zD<;>intro h<;>try omega)<;>conv=>whnf
    all_goals first
     |omega
     |exact ⟨jj,trivial,[],rfl,rfl,trivial,⟨rfl,g9 e1,g9 om,trivial⟩⟩
  |some b=>
   have hb:=(G3 hl).1;rw [hl] at ls;have hle:leI (some b)=b:=rfl;by_cases hd:p k=true
   ·have e0:F5 Z.F p (k+1)=if decide (Z.F k<Z.F b)=true then some k else some b:=by rw [ls,hd];rfl
    have e1:Z.F k<Z.F b->(k:Int)=leI (F5 Z.F p (k+1)):=fun h=>by rw [e0,iB (lbH h)];rfl
    have e2:¬Z.F k<Z.F b->(b:Int)=leI (F5 Z.F p (k+1)):=fun h=>by rw [e0,iC (by simp [h])];rfl
    rw [hpk] at hd;have hd:=lbL hd;rw [hle];conv=>whnf
    repeat' (first|refine zx ?_|refine a13 rfl jj ?_|refine t7 rfl jj ?_|refine t7 (i:=b) (hM b) om ?_|apply zD<;>intro h<;>try omega)<;>conv=>whnf
    all_goals first|omega|exact ⟨jj,trivial,[],rfl,rfl,trivial,⟨rfl,g9 (e1 om),g9 om,trivial⟩⟩|exact ⟨jj,trivial,[],rfl,rfl,trivial,⟨rfl,g9 (e2 om),g9 om,trivial⟩⟩
   ·have e1:leI (some b)=leI (F5 Z.F p (k+1)):=by rw [ls,eq_false_of_ne_true hd];rfl
    have hd:p k=false:=eq_false_of_ne_true hd;rw [hpk] at hd;have hd:=lbM hd;conv=>whnf
    repeat' (first|refine zx ?_|refine a13 rfl jj ?_|refine t7 rfl jj ?_|apply zD<;>intro h<;>try omega)<;>conv=>whnf
    all_goals first|omega|exact ⟨jj,trivial,[],rfl,rfl,trivial,⟨rfl,g9 e1,g9 om,trivial⟩⟩
 ·have hke:k=n:=by omega
  subst hke;conv=>whnf
  repeat' (first|refine zx ?_|apply zD<;>intro h<;>try omega)<;>conv=>whnf
  all_goals first|omega|exact p9 rfl
def b9n (m n:Nat) (fr:LB) (sc:LI) (Z:Zd) (r:Nat) (hr:r<m) (hm:m<=100000) (hn:n<=1000):ec 126 [jT m n fr sc Z,eI r] [] (eI (leI (F5 Z.F (fun i=>decide (Z.A r i<0)) n))) []:=by
 have l1:(a04 n Z.F).length=n:=p4 _ _;obtain ⟨p,hp⟩:∃p:Nat->Bool,p=fun i=>decide (Z.A r i<0):=⟨_,rfl⟩
 rw [← hp];refine ac Tryz.func126 ?_;conv=>whnf
 repeat' (first|refine zx ?_|apply zD<;>intro h<;>try omega)<;>conv=>whnf
 refine k6 g8 (fun k=>([jT m n fr sc Z,eI r,J,J,J,eI (leI (F5 Z.F p k)),eI k]++Jn 45,[])) n tT [] trivial
  ⟨rfl,rfl,trivial,⟨rfl,rfl,g9 rfl,g9 rfl,trivial⟩⟩ ?_
 intro k hk _;by_cases jj:k<n
 ·have hsg:=aR0 (Z.A r k);have hpk:p k=decide (Z.A r k<0):=by rw [hp]
  have ls:=Z2 Z.F p k;have hM:∀b:Nat,(bif true then if 0 > (b:Int) then 0 else (b:Int) else if 0<(b:Int) then 0 else (b:Int))=(b:Int):=fun b=>by simp only [cond];split<;>omega
  cases hl:F5 Z.F p k with
  |none=>
   rw [hl] at ls;have hle:leI none=-1:=rfl;by_cases hd:p k=true
   ·have e1:(k:Int)=leI (F5 Z.F p (k+1)):=by rw [ls,hd];rfl
    rw [hpk] at hd;have hd:=lbL hd;conv=>whnf
    repeat' (first|refine zx ?_|refine a21 rfl hr ?_|refine a13 rfl jj ?_|refine t7 rfl jj ?_|apply zD<;>intro h<;>try omega)<;>conv=>whnf
    all_goals first|omega|exact ⟨jj,trivial,[],rfl,rfl,trivial,⟨rfl,rfl,g9 e1,g9 om,trivial⟩⟩
   ·have e1:leI none=leI (F5 Z.F p (k+1)):=by rw [ls,eq_false_of_ne_true hd];rfl
    have hd:p k=false:=eq_false_of_ne_true hd;rw [hpk] at hd;have hd:=lbM hd;conv=>whnf
    repeat' (first|refine zx ?_|refine a21 rfl hr ?_|refine a13 rfl jj ?_|refine t7 rfl jj ?_|apply zD<;>intro h<;>try omega)<;>conv=>whnf
    all_goals first
     |omega
     |exact ⟨jj,trivial,[],rfl,rfl,trivial,⟨rfl,rfl,g9 e1,g9 om,trivial⟩⟩
  |some b=>
   have hb:=(G3 hl).1;rw [hl] at ls;have hle:leI (some b)=b:=rfl;by_cases hd:p k=true
   ·have e0:F5 Z.F p (k+1)=if decide (Z.F k<Z.F b)=true then some k else some b:=by rw [ls,hd];rfl
    have e1:Z.F k<Z.F b->(k:Int)=leI (F5 Z.F p (k+1)):=fun h=>by rw [e0,iB (lbH h)];rfl
    have e2:¬Z.F k<Z.F b->(b:Int)=leI (F5 Z.F p (k+1)):=fun h=>by rw [e0,iC (by simp [h])];rfl
    rw [hpk] at hd;have hd:=lbL hd;rw [hle];conv=>whnf
    repeat' (first|refine zx ?_|refine a21 rfl hr ?_|refine a13 rfl jj ?_|refine t7 rfl jj ?_|refine t7 (i:=b) (hM b) om ?_|apply zD<;>intro h<;>try omega)<;>conv=>whnf
    all_goals first|omega|exact ⟨jj,trivial,[],rfl,rfl,trivial,⟨rfl,rfl,g9 (e1 om),g9 om,trivial⟩⟩|exact ⟨jj,trivial,[],rfl,rfl,trivial,⟨rfl,rfl,g9 (e2 om),g9 om,trivial⟩⟩
   ·have e1:leI (some b)=leI (F5 Z.F p (k+1)):=by rw [ls,eq_false_of_ne_true hd];rfl
    have hd:p k=false:=eq_false_of_ne_true hd;rw [hpk] at hd;have hd:=lbM hd;conv=>whnf
    repeat' (first|refine zx ?_|refine a21 rfl hr ?_|refine a13 rfl jj ?_|refine t7 rfl jj ?_|apply zD<;>intro h<;>try omega)<;>conv=>whnf
    all_goals first|omega|exact ⟨jj,trivial,[],rfl,rfl,trivial,⟨rfl,rfl,g9 e1,g9 om,trivial⟩⟩
 ·have hke:k=n:=by omega
  subst hke;conv=>whnf
  repeat' (first|refine zx ?_|apply zD<;>intro h<;>try omega)<;>conv=>whnf
  all_goals first|omega|exact p9 rfl
def bK2 (m n:Nat) (fr:LB) (sc:LI) (Z:Zd) (s:Nat) (hs:s<n) (hm:m<=100000) (hn:n<=1000):ec 127 [jT m n fr sc Z,eI s] [] (eI (leI (F5 Z.O (fun i=>decide (0<Z.A i s)) m))) []:=by
 have l1:(a04 m Z.O).length=m:=p4 _ _;obtain ⟨p,hp⟩:∃p:Nat->Bool,p=fun i=>decide (0<Z.A i s):=⟨_,rfl⟩
 rw [← hp];refine ac Tryz.func127 ?_;conv=>whnf
 repeat' (first|refine zx ?_|apply zD<;>intro h<;>try omega)<;>conv=>whnf
 refine k6 g8 (fun k=>([jT m n fr sc Z,eI s,J,J,J,eI (leI (F5 Z.O p k)),eI k]++Jn 45,[])) m tT [] trivial
  ⟨rfl,rfl,trivial,⟨rfl,rfl,g9 rfl,g9 rfl,trivial⟩⟩ ?_
 intro k hk _;by_cases jj:k<m
 ·have hsg:=b4i (Z.A k s);have hpk:p k=decide (0<Z.A k s):=by rw [hp]
  have ls:=Z2 Z.O p k;have hM:∀b:Nat,(bif true then if 0 > (b:Int) then 0 else (b:Int) else if 0<(b:Int) then 0 else (b:Int))=(b:Int):=fun b=>by simp only [cond];split<;>omega
  cases hl:F5 Z.O p k with
  |none=>
   rw [hl] at ls;have hle:leI none=-1:=rfl;by_cases hd:p k=true
   ·have e1:(k:Int)=leI (F5 Z.O p (k+1)):=by rw [ls,hd];rfl
    rw [hpk] at hd;have hd:=lbL hd;conv=>whnf
    repeat' (first|refine zx ?_|refine a21 rfl jj ?_|refine a13 rfl hs ?_|refine t7 rfl jj ?_|apply zD<;>intro h<;>try omega)<;>conv=>whnf
    all_goals first|omega|exact ⟨jj,trivial,[],rfl,rfl,trivial,⟨rfl,rfl,g9 e1,g9 om,trivial⟩⟩
   ·have e1:leI none=leI (F5 Z.O p (k+1)):=by rw [ls,eq_false_of_ne_true hd];rfl
    have hd:p k=false:=eq_false_of_ne_true hd;rw [hpk] at hd;have hd:=lbM hd;conv=>whnf
    repeat' (first|refine zx ?_|refine a21 rfl jj ?_|refine a13 rfl hs ?_|refine t7 rfl jj ?_|apply zD<;>intro h<;>try omega)<;>conv=>whnf
    all_goals first
     |omega
     |exact ⟨jj,trivial,[],rfl,rfl,trivial,⟨rfl,rfl,g9 e1,g9 om,trivial⟩⟩
  |some b=>
   have hb:=(G3 hl).1;rw [hl] at ls;have hle:leI (some b)=b:=rfl;by_cases hd:p k=true
   ·have e0:F5 Z.O p (k+1)=if decide (Z.O k<Z.O b)=true then some k else some b:=by rw [ls,hd];rfl
    have e1:Z.O k<Z.O b->(k:Int)=leI (F5 Z.O p (k+1)):=fun h=>by rw [e0,iB (lbH h)];rfl
    have e2:¬Z.O k<Z.O b->(b:Int)=leI (F5 Z.O p (k+1)):=fun h=>by rw [e0,iC (by simp [h])];rfl
    rw [hpk] at hd;have hd:=lbL hd;rw [hle];conv=>whnf
    repeat' (first|refine zx ?_|refine a21 rfl jj ?_|refine a13 rfl hs ?_|refine t7 rfl jj ?_|refine t7 (i:=b) (hM b) om ?_|apply zD<;>intro h<;>try omega)<;>conv=>whnf
    all_goals first|omega|exact ⟨jj,trivial,[],rfl,rfl,trivial,⟨rfl,rfl,g9 (e1 om),g9 om,trivial⟩⟩|exact ⟨jj,trivial,[],rfl,rfl,trivial,⟨rfl,rfl,g9 (e2 om),g9 om,trivial⟩⟩
   ·have e1:leI (some b)=leI (F5 Z.O p (k+1)):=by rw [ls,eq_false_of_ne_true hd];rfl
    have hd:p k=false:=eq_false_of_ne_true hd;rw [hpk] at hd;have hd:=lbM hd;conv=>whnf
    repeat' (first|refine zx ?_|refine a21 rfl jj ?_|refine a13 rfl hs ?_|refine t7 rfl jj ?_|apply zD<;>intro h<;>try omega)<;>conv=>whnf
    all_goals first|omega|exact ⟨jj,trivial,[],rfl,rfl,trivial,⟨rfl,rfl,g9 e1,g9 om,trivial⟩⟩
 ·have hke:k=m:=by omega
  subst hke;conv=>whnf
  repeat' (first|refine zx ?_|apply zD<;>intro h<;>try omega)<;>conv=>whnf
  all_goals first|omega|exact p9 rfl
structure bT3 where
 kind:Int
 value:Fr
 X:List Rat
 Y:List Rat
 R:List Rat
structure bq7 (s:m7) (g:List (Int × Rat)) (o:bT3):Prop where
 k:o.kind=0\/o.kind=1\/o.kind=2
 found:o.kind=0->k7 s o.X=true/\o.value=fz (n9 g o.X)/\∀z,k7 s z=true->n9 g o.X<=n9 g z
 none:o.kind=1->∀z,k7 s z=false
 free:o.kind=2->k7 s o.X=true/\bb0 s o.R/\n9 g o.R<0
 bx:∀v ∈ o.X,rl v<=100
 br:∀v ∈ o.R,rl v<=100
def bI3 {s:m7} {d:List Rat} (h:bb0 (k8 s) d):bb0 s d:=by
 have key:∀(k:Nat) (w:C7),s.rows[k]? =some w->((T7 w).kind=w.kind)/\n9 (T7 w).terms d=(((w.value.den:Int):Int):Rat)*n9 w.terms d/\(0:Rat)<(((w.value.den:Int):Int):Rat):=fun k w hw=>
  ⟨rfl,b5b d w.terms,by exact_mod_cast a1v w.value⟩
 refine ⟨h.len,h.pos,fun k w hw hk=>?_,fun k w hw hk=>?_⟩
 ·have ⟨k1,k2,k3⟩:=key k w hw;have:=h.up k (T7 w) (av4 hw) hk;rw [k2] at this;apply a02;intro hn;have hp:0<n9 w.terms d:=zg;have:=lb2 k3 hp;grind
 ·have ⟨k1,k2,k3⟩:=key k w hw;have:=h.down k (T7 w) (av4 hw) hk;rw [k2] at this;apply a02;intro hn;have hp:0< -(n9 w.terms d):=zg;have:=lb2 k3 hp;grind
def bz7 {s:m7} {g:List (Int × Rat)} (h:M7 s) (hg:I9 g):BdD (j0 (k8 s)).length (k8 s).n.toNat 25 (F8 (k8 s) g):=by
 have hn:=X0 h.r;have:=h.n;have ⟨p1,p2⟩:=aG8 (k8 s).n.toNat (by show s.n.toNat<10;omega);have ⟨b1,b2,b3⟩:=aC0 a9B (bd7 h.i hg) V3 (a3v V3).1 p1 p2 (by rw [Nat.one_mul];exact p2) p2;exact ⟨b1,fun i hi j hj=>b2 i j hi hj,b3⟩
def a6V {s:m7} {g:List (Int × Rat)} (h:M7 s) (hg:I9 g):∀v ∈ s8 (k8 s) g,rl v<=25:=by
 intro v hv;have hb:=bz7 h hg;obtain ⟨j,hj,rfl⟩:=a9l hv;have hp:a03 (j0 (k8 s)).length (k8 s).n.toNat (F8 (k8 s) g):=W6.p;rw [← ar8 hp hj];have key:∀k,k<=(j0 (k8 s)).length->rl (ptK (k8 s).n.toNat (F8 (k8 s) g).O (F8 (k8 s) g).V (fun _=>0) k j)<=25:=by
  intro k;induction k with
  |zero=>intro _;have:=rl0;show rl 0<=_;omega
  |succ k ih=>
   intro hk;rw [L4];simp only;split
   ·exact hb.v k om
   ·exact ih om
 exact key _ (lbR _)
def b6j {s:m7} {g:List (Int × Rat)} {c:Nat} (h:M7 s) (hg:I9 g) (hc:c<(k8 s).n.toNat):∀v ∈ a6x (k8 s) g c,rl v<=25:=by
 intro v hv;have hb:=bz7 h hg;obtain ⟨j,hj,rfl⟩:=a9l hv;have hp:a03 (j0 (k8 s)).length (k8 s).n.toNat (F8 (k8 s) g):=W6.p;rw [← al5 hp hc hj];have key:∀k,k<=(j0 (k8 s)).length->rl (ptK (k8 s).n.toNat (F8 (k8 s) g).O (fun i=>-((F8 (k8 s) g).A i c)) (fun j=>if (F8 (k8 s) g).F c<(k8 s).n.toNat/\j=(F8 (k8 s) g).F c then 1 else 0) k j)<=25:=by
  intro k;induction k with
  |zero=>
   intro _;show rl (if _ then (1:Rat) else 0)<=_;have:=rl0;have:=rl1;split<;>omega
  |succ k ih=>
   intro hk;rw [L4];simp only;split
   ·rw [a3i];exact hb.a k om c hc
   ·exact ih om
 exact key _ (lbR _)
def b91 {s:m7} {g:List (Int × Rat)} (h:M7 s) (hw:I9 g) (hg:m8 (-1) ((s.n.toNat:Nat):Int) g=true) (ho:H8 (k8 s) g=.best) (Y:List Rat):bq7 s g ⟨0,fz (n9 g (s8 (k8 s) g)),s8 (k8 s) g,Y,[]⟩:=by
 have ⟨h1,h2⟩:=Y1 (s:=k8 s) (by rw [a6q];exact h.r) hg ho;exact ⟨.inl rfl,fun _=>⟨(sc_holds s _).1 h1,rfl,fun z hz=>h2 z ((sc_holds s z).2 hz)⟩,(fun e=>absurd (show (0:Int)=1 from e) de),(fun e=>absurd (show (0:Int)=2 from e) de),fun v hv=>lbS (a6V h hw v hv) de,(fun v hv=>by cases hv)⟩
def bi6 {s:m7} {g:List (Int × Rat)} {r:Nat} (ho:H8 (k8 s) g=.row r):∀z,k7 s z=false:=fun z=>by
 cases hz:k7 s z with
 |false=>rfl
 |true=>have:=a5i ho z;rw [(sc_holds s z).2 hz] at this;cases this
def b4v {s:m7} {g:List (Int × Rat)} {r:Nat} (g':List (Int × Rat)) (ho:H8 (k8 s) g'=.row r) (Y:List Rat):bq7 s g ⟨1,a0L,[],Y,[]⟩:=
 ⟨.inr (.inl rfl),(fun e=>absurd (show (1:Int)=0 from e) de),fun _=>bi6 ho,(fun e=>absurd (show (1:Int)=2 from e) de),(fun v hv=>by cases hv),(fun v hv=>by cases hv)⟩
def bv7 {s:m7} {g:List (Int × Rat)} {c:Nat} (h:M7 s) (hw:I9 g) (hg:m8 (-1) ((s.n.toNat:Nat):Int) g=true) (ho:H8 (k8 s) g=.col c) (ho0:H8 (k8 s) []=.best):bq7 s g ⟨2,a0L,s8 (k8 s) [],[],a6x (k8 s) g c⟩:=by
 have ⟨h1,h2⟩:=Y1 (s:=k8 s) (g:=[]) (by rw [a6q];exact h.r) rfl ho0;have ⟨d1,d2⟩:=a7g (s:=k8 s) (by rw [a6q];exact h.r) hg ho;have hc:c<(k8 s).n.toNat:=(a74 ho).1;exact ⟨.inr (.inr rfl),(fun e=>absurd (show (2:Int)=0 from e) de),(fun e=>absurd (show (2:Int)=1 from e) de),fun _=>⟨(sc_holds s _).1 h1,bI3 d1,d2⟩,fun v hv=>lbS (a6V h (fun t ht=>absurd ht zq) v hv) de,fun v hv=>lbS (b6j h hw hc v hv) de⟩
end Go.Proofs.YtbcdidimaioapaaGreat
