/- Part 10. -/
import Derived.Test.YtikokmdpigploaaGreatKl4
namespace Go.Proofs.YtikokmdpigploaaGreat
set_option linter.all false
set_option maxRecDepth 100000
set_option maxHeartbeats 8000000
open Go.RowKit
open St1 St2 St3 St4 St5 St6 St7 St8 StA StB StC
def a1x {P:Program} {g:FuncId} {args:List S} {H:Hp} {b:Blk} {n:Nat} {app:Bool} (h:e8 P g args [] (.c (.own 0 0 n app)) [b]) (ha:args.all S.isT=true) (hm:b.mode=.live) (hb:L4 b.rows):
 a0k P g args H (.c (.own H.length 0 n app)) [b]:=by
 refine ⟨h.1,fun w ι M vals hl hv hH hM hf=>?_⟩;have:=h.2 w (fun _=>none) M vals hl (fun j s hj=>(hv j s hj).tree (lbv.1 ha s (lbm hj)))
  ⟨zq,zq,zq,zq,zq⟩ hM (fun _ _=>rfl)
 refine Calls.mono this ?_;rintro e w' ⟨v,rfl,ι',M',h1,h2,h3,h4,h5⟩;have hnl:∀x,¬a4c (fun _=>none) ([]:Hp) x:=by rintro x ⟨id,k,_,_,hk,_⟩;simp at hk
 obtain ⟨l,hl0⟩:∃l,ι' 0=some l:=by
  cases h1 with
  |c h1=>cases h1 with
   |own hi=>exact ⟨_,hi⟩
   |nil hi=>exact ⟨_,hi⟩
 have hnew:F9 ι H.length [b].length (fun _=>l) H.length=some l:=by unfold F9;simp
 have hMM:∀x,a6M M [b].length (fun _=>l) x->M' x:=by
  intro x hx;rcases hx with hx|⟨k,hk,cap,size,he⟩
  ·rcases h5.mold x hx with h|h
   ·exact h
   ·exact absurd h (hnl x)
  ·have he:l=.blk x cap size:=he;subst he;exact h2.liv 0 b rfl hm x cap size hl0
 refine ⟨v,rfl,fun _=>l,?_,⟨h5.os,h5.tape,h5.output,h5.size,fun x hx=>h5.keep x hx (hnl x)⟩,?_,?_,?_⟩
 ·cases h1 with
  |c h1=>cases h1 with
   |own hi q1 q2 q3 q4 q5=>
    rw [hl0] at hi;injection hi with hi
    subst hi;exact .c (.own hnew q1 q2 q3 q4 q5)
   |nil hi=>
    rw [hl0] at hi;injection hi with hi
    subst hi;exact .c (.nil hnew)
 ·intro k blk hk;cases k with
  |succ k=>simp at hk
  |zero=>
   simp at hk;subst hk;refine ⟨hm,?_⟩;have hbr:=h2.blk 0 b rfl (by rw [hm];intro h;cases h) l hl0;cases l with
   |nil=>exact hbr
   |blk x cap size=>
    obtain ⟨r1,r2,r3,r4,r5,cur,r6,r7,r8⟩:=hbr;refine ⟨r1,r2,r3,r4,r5,cur,r6,r7,fun i j c hc=>?_⟩;obtain ⟨u,u1,u2⟩:=r8 i j c hc;exact ⟨u,u1,aA4 hMM hb hc u2⟩
 ·intro k x cap size hk he;have he:l=.blk x cap size:=he;subst he;refine ⟨?_,h3 x (h2.liv 0 b rfl hm x cap size hl0)⟩;rcases h5.live x ⟨0,b,cap,size,rfl,hm,hl0⟩ with h|h
  ·exact absurd h (hnl x)
  ·exact h
 ·intro k k' x cap size cap' size' hk hk' _ _;simp at hk hk';omega
def b5S (H:Hp) (n:Nat) (hn:n<=1000):a0k Tryz.prog 289 [eI n] H (.c (.own H.length 0 n true)) [flB (rF n fun _=>0)]:=
 a1x (bi5 n hn) rfl rfl (j3 _)
def a6F (l:List (Int × Rat)):Nat->Nat->Rat
 |0=>L7 l
 |k+1=>match l[k]? with
  |none=>a6F l k
  |some t=>fun j=>if j=t.1.toNat then -t.2 else a6F l k j
def aK5 {l:List (Int × Rat)} {k:Nat} {t:Int × Rat} (h:l[k]? =some t):a6F l (k+1)=fun j=>if j=t.1.toNat then -t.2 else a6F l k j:=by rw [a6F,h]
def b53 (l:List (Int × Rat)) (j:Nat):∀k,k<=l.length->a6F l k j=-(S1 l k j)\/(S1 l k j=0/\a6F l k j=L7 l j)
 |0,_=>.inr rz
 |k+1,hk=>by
  obtain ⟨t,ht⟩:∃t,l[k]? =some t:=⟨_,lbf om⟩;rw [aK5 ht,Q0 ht];simp only;by_cases hj:j=t.1.toNat
  ·rw [iA hj,iA hj];exact .inl rfl
  ·rw [iB hj,iB hj];exact b53 l j k om
def b7Y (l:List (Int × Rat)):a6F l l.length=fun j=>-(L7 l j):=by
 funext j;rcases b53 l j l.length (lbR _) with h|⟨h1,h2⟩
 ·exact h
 ·rw [h2];have:L7 l j=0:=h1;rw [this];decide
def sgF (b:Bool) (l:List (Int × Rat)):Nat->Rat:=fun j=>Y1 b (L7 l j)
def a1I {H:Hp} {N n:Nat} (hN:H.length=N) (hn:n<=1000):a0k Tryz.prog 289 [eI n] H (.c (.own N 0 n true)) [flB (rF n fun _=>0)]:=by subst hN;exact b5S H n hn
abbrev pB (n k l i f:Nat):Blk:={ mode:=.live,elem:=285,size:=6,rows:=[[C.t (ti n),.own l 0 k true,.own 2 0 n true,.own i 0 k true,.t (.sl 0 .nil []),.own f 0 k true]],box:=true }
abbrev an3 (t:TypeId) (s:Nat):Blk:=⟨.dead,t,s,[],false,false⟩
abbrev a8b (n k:Nat) (V G:Nat->Rat) (O:Nat->Nat) (fr:LB) (A:Nat->Nat->Rat) (X:Hp):Hp:=
 pB n k 1 3 4::a1X 5 k n V::flB (rF n G)::T7 k O::a2L fr::((mF k n A).map flB++X)
abbrev lnX (k n:Nat) (v:Rat):Blk:={ mode:=.live,elem:=288,size:=5,rows:=[frC (fz v)++[C.own (k+6) 0 n true]],box:=true }
abbrev b5e (n k:Nat) (v:Rat) (a V G:Nat->Rat) (O:Nat->Nat) (fr:LB) (f:Nat × Bool) (A:Nat->Nat->Rat) (bx:Blk):Hp:=
 pB n (k+1) (k+8) (k+7) (k+9)::an3 288 5::flB (rF n G)::an3 3 1::an3 306 2::((mF k n A).map flB++
  [bx,flB (rF n a),T7 (k+1) O,{ mode:=.live,elem:=288,size:=5,rows:=a01 5 k n V++[frC (fz v)++[C.own (k+6) 0 n true]],box:=false },a2L (fr++[f])])
def aX1 {k n N:Nat} {v:Rat} (h:k+6<N):okB N (lnX k n v):=by
 intro r hr c hc;simp at hr;subst hr;simp [frC] at hc;rcases hc with rfl|rfl|rfl|rfl|rfl<;>first|trivial|exact h
def bJ5 {n k N l i f:Nat} (h1:l<N) (h2:i<N) (h3:f<N) (h4:2<N):okB N (pB n k l i f):=by
 intro r hr c hc;simp at hr;subst hr;simp at hc;rcases hc with rfl|rfl|rfl|rfl|rfl|rfl<;>first|trivial|assumption
def b1o {n k:Nat} {V G:Nat->Rat} {O:Nat->Nat} {fr:LB} {A:Nat->Nat->Rat} {X:Hp}:(a8b n k V G O fr A X).length=k+5+X.length:=by simp [i8];omega
def bh6 {n k N:Nat} {V G:Nat->Rat} {O:Nat->Nat} {fr:LB} {A:Nat->Nat->Rat} {X:Hp} (h:k+5<=N) (hX:∀b ∈ X,okB N b):∀b ∈ a8b n k V G O fr A X,okB N b:=by
 intro b hb;simp only [lbA,lbz] at hb;rcases hb with rfl|rfl|rfl|rfl|rfl|hb|hb
 ·exact bJ5 om om om om
 ·exact aw2 h
 ·exact A7 rfl
 ·exact A7 rfl
 ·exact A7 rfl
 ·obtain ⟨l,_,rfl⟩:=lbx.1 hb;exact A7 rfl
 ·exact hX b hb
def b7R {n k:Nat} {V G:Nat->Rat} {O:Nat->Nat} {fr:LB} {A:Nat->Nat->Rat} {X X':Hp}:a8b n k V G O fr A (X++X')=a8b n k V G O fr A X++X':=by
 show _::_::_::_::_::(_++(X++X'))=_::_::_::_::_::((_++X)++X');rw [lbD]
def a1g {n0 N n k:Nat} {V G:Nat->Rat} {O:Nat->Nat} {fr:LB} {A:Nat->Nat->Rat} {X X' H:Hp} {env env':Env} (hH:H=a8b n k V G O fr A (X++X')) (hN:k+5+X.length=N) (h0:n0<=N) (hX:∀b ∈ X,okB N b)
 (hE:a0p (idR N) H env env'):Ent n0 (idR N) env H env' (a8b n k V G O fr A X):=by
 refine a7c (by rw [b1o];exact hN) h0 (bh6 om hX) (fun i hi=>?_) hE;rw [hH,b7R,lbb (by rw [b1o];omega)]
def a3a {b0 b1 b2 b3 b4 c0 c1 c2 c3 c4:Blk} {L L':Hp} (h0:b0=c0) (h1:b1=c1) (h2:b2=c2) (h3:b3=c3) (h4:b4=c4) (h6:L=L'):b0::b1::b2::b3::b4::L=c0::c1::c2::c3::c4::L':=by
 subst h0 h1 h2 h3 h4 h6;rfl
def fR (N:Nat) (f:Nat->Nat):List (Option Nat):=(List.range N).map fun i=>some (f i)
def z7 {N i:Nat} {f:Nat->Nat} (h:i<N):(fR N f)[i]? =some (some (f i)):=by simp [fR,h]
def bE5 (N:Nat) (f:Nat->Nat):(fR N f).length=N:=by simp [fR]
def b73 {N i j:Nat} {f:Nat->Nat} (h:(fR N f)[i]? =some (some j)):i<N/\f i=j:=by
 obtain ⟨h1,h2⟩:=lbe.1 h;simp [fR] at h1 h2;exact ⟨h1,h2⟩
def ax0 {ρ:List (Option Nat)}:∀{m:Nat},(∀ i:Nat,i<m->ρ[i]? =some (some i))->a33 ρ m=true
 |0,_=>rfl
 |m+1,h=>by
  unfold a33;rw [h m om,ax0 fun i hi=>h i om];simp
def b4U {N:Nat} {f:Nat->Nat} {H H':Hp} (hn:H'.length=N) (hB:∀(i:Nat) (k':Blk),H'[i]? =some k'->∃k:Blk,H[f i]? =some k/\a3g (fR N f) H k k'):a4p (fR N f) H (fR N f) H':=
 a3L (by rw [bE5,hn]) fun i k' hk=>by
  have hi:i<N:=by rw [← hn];exact (lbe.1 hk).1
  obtain ⟨k,h1,h2⟩:=hB i k' hk;exact ⟨f i,k,z7 hi,h1,h2⟩
def b1g {N:Nat} {f:Nat->Nat} {H:Hp} (hinj:∀i j,i<N->j<N->f i=f j->i=j):Y2 (fR N f) H=true:=a1w fun i j n h1 h2=>by
 obtain ⟨a1,a2⟩:=b73 h1;obtain ⟨b1,b2⟩:=b73 h2;exact hinj i j a1 b1 om
def aa2 {n0 N:Nat} {f:Nat->Nat} {env env':Env} {H H':Hp} (hn:H'.length=N) (h0:n0<=N) (hk:∀i,i<n0->f i=i) (hinj:∀i j,i<N->j<N->f i=f j->i=j)
 (hB:∀(i:Nat) (k':Blk),H'[i]? =some k'->∃k:Blk,H[f i]? =some k/\a3g (fR N f) H k k') (hE:a0p (fR N f) H env env'):Ent n0 (fR N f) env H env' H':=
 ⟨ax0 fun i hi=>by rw [z7 om,hk i hi],b1g hinj,b4U hn hB,hE⟩
def bD5 {n0 N:Nat} {f:Nat->Nat} {r s:S} {H H':Hp} (hn:H'.length=N) (h0:n0<=N) (hk:∀i,i<n0->f i=i) (hinj:∀i j,i<N->j<N->f i=f j->i=j)
 (hB:∀(i:Nat) (k':Blk),H'[i]? =some k'->∃k:Blk,H[f i]? =some k/\a3g (fR N f) H k k') (hE:a9b (fR N f) H r s):Fin n0 r H s H':=
 ⟨fR N f,ax0 fun i hi=>by rw [z7 om,hk i hi],b1g hinj,b4U hn hB,hE⟩
def bp8 (k:Blk):a3X k k=true:=by unfold a3X;cases k.mode<;>simp
def j8 {ρ:List (Option Nat)} {H:Hp} {k:Blk} (h:L4 k.rows):a3g ρ H k k:=⟨bp8 k,rfl,rfl,.inl ⟨rfl,h⟩⟩
def b46 {ρ:List (Option Nat)} {H:Hp} {l l':List C} (h:a54 ρ H l l'):∀ts:List T,a54 ρ H (ts.map C.t++l) (ts.map C.t++l')
 |[]=>h
 |t::r=>⟨a1E t,b46 h r⟩
def a3c {ρ:List (Option Nat)} {H:Hp} {m n:Nat} {V:Nat->Rat} {h h':Nat->Nat} (hh:∀i,i<m->ρ[h' i]? =some (some (h i))):
 a3g ρ H { mode:=.live,elem:=288,size:=5,rows:=(List.range m).map fun i=>frC (fz (V i))++[C.own (h i) 0 n true],box:=false } { mode:=.live,elem:=288,size:=5,rows:=(List.range m).map fun i=>frC (fz (V i))++[C.own (h' i) 0 n true],box:=false }:=by
 refine ⟨rfl,rfl,rfl,.inr (a2a zq fun i x y hx hy=>?_)⟩;have hi:i<m:=by have:=(lbe.1 hx).1;simpa using this
 simp [hi] at hx hy;subst hx hy;exact b46 (ts:=B2 (fz (V i))) (l:=[C.own (h i) 0 n true]) (l':=[C.own (h' i) 0 n true]) ⟨⟨hh i hi,rfl,rfl,fun h=>h⟩,trivial⟩
def a1Q {a b:Nat} {K:Prop} (h:a<=b) (k:K):a<=b/\K:=⟨h,k⟩
def a6E {N:Nat} {b:Blk} (h:L4 b.rows):okB N b:=by
 intro r hr c hc;have:=h r hr c hc;cases c<;>first|trivial|cases this
def b00 (k n:Nat) (v:Rat) (V:Nat->Rat):Nat->Rat:=fun i=>if i=k then v else V i
def hnd (k:Nat):Nat->Nat:=fun i=>if i=k then k+6 else i+5
def am9 {k n:Nat} {v:Rat} {V:Nat->Rat}:a01 5 k n V++[frC (fz v)++[C.own (k+6) 0 n true]]=(List.range (k+1)).map fun i=>frC (fz (b00 k n v V i))++[C.own (hnd k i) 0 n true]:=by
 rw [a8z,lbC]
 congr 1
 ·refine lbp fun i hi=>?_
  have:=lbB.1 hi;unfold b00 hnd;rw [iB om,iB om]
 ·unfold b00 hnd;simp
abbrev bH6 (n k:Nat) (v:Rat) (a V G:Nat->Rat) (O:Nat->Nat) (fr:LB) (f:Nat × Bool) (A:Nat->Nat->Rat) (bx lx lit:Blk):Hp:=
 pB n (k+1) (k+10) (k+8) (k+11)::an3 288 5::flB (rF n G)::an3 3 1::an3 306 2::((mF k n A).map flB++
  [bx,flB (rF n a),lx,T7 (k+1) O,lit,{ mode:=.live,elem:=288,size:=5,rows:=a01 5 k n V++[frC (fz v)++[C.own (k+6) 0 n true]],box:=false },a2L (fr++[f])])
def au9 (k:Nat):Nat->Nat:=fun i=>if i<k+7 then i else if i=k+7 then k+8 else if i=k+8 then k+10 else k+11
def a2Q {α β:Type} {f:β->α} {M:List β} {X:List α} {N t:Nat} (h:M.length=N):(M.map f++X)[N+t]? =X[t]?:=by
 rw [lbc (by simp [h])];simp [h]
def bu2 {n0 n:Nat} {r s:S} {H H':Hp} (e:n0=n) (h:Fin n r H s H'):Fin n0 r H s H':=by subst e;exact h
def b4F {n k:Nat} {v:Rat} {a V G:Nat->Rat} {O:Nat->Nat} {fr:LB} {f:Nat × Bool} {A:Nat->Nat->Rat} {bx lx lit:Blk} {H:Hp} (hbx:L4 bx.rows) (hH:H=bH6 n k v a V G O fr f A bx lx lit):
 Fin (k+6) (.tup []) H (.tup []) (b5e n k v a V G O fr f A bx):=by
 subst hH;refine bD5 (N:=k+10) (f:=au9 k) zV om (fun i hi=>by unfold au9;rw [iA om]) (fun i j hi hj h=>by unfold au9 at h;(repeat' split at h)<;>omega) ?_ trivial;have r7:au9 k (k+7)=k+8:=by unfold au9;rw [iB om,iA rfl]
 have r8:au9 k (k+8)=k+10:=by unfold au9;rw [iB om,iB om,iA rfl]
 have r9:au9 k (k+9)=k+11:=by unfold au9;rw [iB om,iB om,iB om]
 have rl:∀i,i<k+7->au9 k i=i:=fun i hi=>by unfold au9;rw [iA hi]
 intro i k' hk;rcases i with _|_|_|_|_|i
 ·injection hk with hk;subst hk
  rw [rl 0 om];exact ⟨_,rfl,rfl,rfl,rfl,.inr ⟨⟨rfl,⟨by rw [z7 om,r8],rfl,rfl,fun h=>h⟩,⟨by rw [z7 om,rl 2 om],rfl,rfl,fun h=>h⟩,⟨by rw [z7 om,r7],rfl,rfl,fun h=>h⟩,rfl,⟨by rw [z7 om,r9],rfl,rfl,fun h=>h⟩,trivial⟩,trivial⟩⟩
 ·injection hk with hk;subst hk;rw [rl 1 om];exact ⟨_,rfl,j8 (by simp [L4])⟩
 ·injection hk with hk;subst hk;rw [rl 2 om];exact ⟨_,rfl,j8 (j3 _)⟩
 ·injection hk with hk;subst hk;rw [rl 3 om];exact ⟨_,rfl,j8 (by simp [L4])⟩
 ·injection hk with hk;subst hk;rw [rl 4 om];exact ⟨_,rfl,j8 (by simp [L4])⟩
 ·have hk:((mF k n A).map flB++[bx,flB (rF n a),T7 (k+1) O,{ mode:=.live,elem:=288,size:=5,rows:=a01 5 k n V++[frC (fz v)++[C.own (k+6) 0 n true]],box:=false },a2L (fr++[f])])[i]? =some k':=hk;by_cases hi:i<k
  ·rw [I7 (Y0 hi)] at hk;injection hk with hk;subst hk
   rw [rl (i+5) om];exact ⟨_,I7 (Y0 hi),j8 (j3 _)⟩
  ·obtain ⟨t,rfl⟩:∃t,i=k+t:=⟨i - k,om⟩;rw [a2Q (i8 _ _ _)] at hk;have lk:∀j,(bH6 n k v a V G O fr f A bx lx lit)[k+j+5]? =([bx,flB (rF n a),lx,T7 (k+1) O,lit,{ mode:=.live,elem:=288,size:=5,rows:=a01 5 k n V++[frC (fz v)++[C.own (k+6) 0 n true]],box:=false },a2L (fr++[f])]:Hp)[j]?:=fun j=>a2Q (i8 _ _ _)
   rcases t with _|_|_|_|_|t
   ·injection hk with hk;subst hk
    rw [rl (k+0+5) om];exact ⟨_,lk 0,j8 hbx⟩
   ·injection hk with hk;subst hk
    rw [rl (k+1+5) om];exact ⟨_,lk 1,j8 (j3 _)⟩
   ·injection hk with hk;subst hk
    rw [show k+2+5=k+7 by omega,r7];exact ⟨_,lk 3,j8 (j3 _)⟩
   ·injection hk with hk;subst hk
    rw [show k+3+5=k+8 by omega,r8];refine ⟨_,lk 5,?_⟩;rw [am9];refine a3c fun j hj=>?_
    have:hnd k j<k+7:=by unfold hnd;split<;>omega
    rw [z7 om,rl _ this]
   ·injection hk with hk;subst hk
    rw [show k+4+5=k+9 by omega,r9];exact ⟨_,lk 6,j8 (j3 _)⟩
   ·simp at hk
def l7 {a0 a1 a2 a3 a4 a5 a6 b0 b1 b2 b3 b4 b5 b6:Blk} (h0:a0=b0) (h1:a1=b1) (h2:a2=b2) (h3:a3=b3) (h4:a4=b4) (h5:a5=b5) (h6:a6=b6):([a0,a1,a2,a3,a4,a5,a6]:Hp)=[b0,b1,b2,b3,b4,b5,b6]:=by
 subst h0 h1 h2 h3 h4 h5 h6;rfl
def a4H {k:Nat} {O:Nat->Nat} {x:Int} (h:x=O k):(toC (Z2 k O)).take k++toC [[ti x]]=toC (Z2 (k+1) O):=by
 rw [lbn (by simp [toC,n9])];unfold Z2;rw [a8z,lbC,h];simp [toC]
def aw6 {fr:LB} {k:Nat} (h:fr.length=k) (f:Nat × Bool):(toC (a1p fr)).take k++toC [[ti f.1,tb f.2]]=toC (a1p (fr++[f])):=by
 rw [lbn (by simp [toC,a1p,h])];unfold a1p;simp [toC]
def bJ7 (n k row:Nat) (w:C5) (b:Bool) (V G:Nat->Rat) (fr:LB) (hfr:fr.length=k) (A:Nat->Nat->Rat) (bx:Blk) (hbx:L4 bx.rows) (hn:n<=1000) (hk:k<=10000) (hrow:row<=100000)
 (hr:n7 (-1) n w.terms=true) (hl:w.terms.length<=1000) (hb:∀t ∈ w.terms,rl t.2<=60000) (hv:rl w.value<=60000):
 ec 290 [.c (.ptr 0 0 0),eI row,aS0 w,m9 b] (a8b n k V G (fun i=>n+i) fr A [bx]) (.tup []) (b5e n k (Y1 b w.value) (sgF b w.terms) V G (fun i=>n+i) fr (row,b) A bx):=by
 have m1:(w.terms.map B8).length=w.terms.length:=zq;refine ac Tryz.func290 ?_;conv=>whnf
 repeat' (first|refine zz ?_|refine qp i8 ?_|refine b0x ?_|refine .inl ⟨_,_,a1I (N:=k+6) zV hn,?_⟩|refine i9 (i8 _ _ _) ?_|refine i7 ?_|refine j2 (t:=1) (i8 _ _ _) ?_|refine j2 (t:=2) (i8 _ _ _) ?_|refine j2 (t:=3) (i8 _ _ _) ?_|refine j9 (t:=1) (i8 _ _ _) ?_|refine j9 (t:=2) (i8 _ _ _) ?_|refine j9 (t:=3) (i8 _ _ _) ?_|apply zD<;>intro<;>try omega|refine zy ?_|fail)<;>conv=>whnf
 refine k5 g8 (fun q=>([sP 0 0 0,eI row,J,m9 b,J,J,S.c (C.t (T.ptr (v5 w))),J,S.c (C.ptr (k+7) 0 0)]++Jn 13++[s6 w.terms,eI w.terms.length,eI q]++Jn 73,a8b n k V G (fun i=>n+i) fr A [bx,flB (rF n (S1 w.terms q)),lnX k n w.value])) w.terms.length tT (idR (k+8)) trivial ?_ ?_
 ·refine a1g (X':=[]) (a3a rfl rfl rfl rfl rfl ?_) rfl zV ?_ ?_
  ·rfl
  ·intro b hb;simp at hb;rcases hb with rfl|rfl|rfl
   ·exact a6E hbx
   ·exact A7 rfl
   ·exact aX1 om
  ·exact ⟨⟨j5 om,rz⟩,rfl,rfl,m7 rfl,⟨j5 om,rz⟩,m7 rfl,g9 om,g9 rfl,trivial⟩
 intro q hq _;by_cases hlt:q<w.terms.length
 ·obtain ⟨t,ht⟩:∃t,w.terms[q]? =some t:=⟨_,lbf hlt⟩;obtain ⟨t0,t1,t2⟩:=L0 hr t (lbm ht);have gp:(rF n (S1 w.terms q))[0+t.1.toNat]? =some (fz (S1 w.terms q t.1.toNat)):=by rw [U8,L3 om]
  have eV:0+t.1.toNat=t.1.toNat:=om;have e:D4 (flB (rF n (S1 w.terms q))) ((flB (rF n (S1 w.terms q))).rows.set (0+t.1.toNat) (frC (fz t.2)))=flB (rF n (S1 w.terms (q+1))):=by
   have e1:=Q4 (row:=rF n (S1 w.terms q)) (y:=fz t.2) eV;rw [a0J om,←Q0 ht] at e1;exact e1
  conv=>whnf
  repeat' (first|refine zx ?_|refine j6 ht ?_|refine w9 gp ?_|refine i9 (i8 _ _ _) ?_|refine i7 ?_|refine j2 (t:=1) (i8 _ _ _) ?_|refine j2 (t:=2) (i8 _ _ _) ?_|refine j2 (t:=3) (i8 _ _ _) ?_|refine j9 (t:=1) (i8 _ _ _) ?_|refine j9 (t:=2) (i8 _ _ _) ?_|refine j9 (t:=3) (i8 _ _ _) ?_|apply zD<;>intro<;>try omega)<;>conv=>whnf
  all_goals first
   |omega
   |(refine ⟨hlt,trivial,idR (k+8),a1g (X:=[bx,flB (rF n (S1 w.terms (q+1))),lnX k n w.value]) (a3a rfl rfl rfl rfl rfl (congrArg (fun z=>(mF k n A).map flB++(bx::z::lnX k n w.value::[_])) e)) rfl zV ?_ ⟨⟨j5 om,rz⟩,rfl,rfl,rfl,⟨j5 om,rz⟩,rfl,rfl,g9 om,trivial⟩⟩
     intro b hb;simp at hb;rcases hb with rfl|rfl|rfl
     ·exact a6E hbx
     ·exact A7 rfl
     ·exact aX1 om)
 ·have hqe:q=w.terms.length:=by omega
  subst hqe;cases b with
  |false=>
   conv=>whnf
   repeat' (first|refine av6 [0,1,2,3,4,5,6,7,9,10,11,12,13,14,15,16,8,17,18,19,20,21,22,23] zk zk ?_|refine zz ?_|refine z6 (by simp [toC,n9,I9,a1p,hfr]) (by simp [toC,n9,I9,a1p];omega) ?_|refine bl0 [0] ?_|refine bl0 [0,1,8,9,10,11,12,13,14,15] ?_|refine bl0 [0,1] ?_|refine bl0 [1] ?_|refine i9 (i8 _ _ _) ?_|refine i7 ?_|refine j2 (t:=1) (i8 _ _ _) ?_|refine j2 (t:=2) (i8 _ _ _) ?_|refine j2 (t:=3) (i8 _ _ _) ?_|refine j9 (t:=1) (i8 _ _ _) ?_|refine j9 (t:=2) (i8 _ _ _) ?_|refine j9 (t:=3) (i8 _ _ _) ?_|refine j2 (t:=4) (i8 _ _ _) ?_|refine a1Q (lbR 1) ?_|apply zD<;>intro<;>try omega|refine zy ?_|fail)<;>conv=>whnf
   all_goals try omega
   all_goals refine bu2 (n:=k+6) zV (b4F (lit:=_) hbx (a3a rfl rfl rfl rfl rfl (congrArg (fun z=>(mF k n A).map flB++z) (l7 rfl rfl rfl ?_ rfl ?_ ?_))))
   ·exact congrArg (fun z=>({ mode:=.live,elem:=3,size:=1,rows:=z,box:=false }:Blk)) (a4H (x:=(n:Int)+k) zq)
   ·exact congrArg (fun z=>({ mode:=.live,elem:=288,size:=5,rows:=z,box:=false }:Blk)) (congrArg (fun z=>z++[frC (fz w.value)++[C.own (k+6) 0 n true]]) (lbn (by simp [I9])))
   ·exact congrArg (fun z=>({ mode:=.live,elem:=306,size:=2,rows:=z,box:=false }:Blk)) (aw6 hfr (row,false))
  |true=>
   have nv:=a8v w.value hv;conv=>whnf
   repeat' (first|refine zx ?_|refine i9 (i8 _ _ _) ?_|refine i7 ?_|refine j2 (t:=1) (i8 _ _ _) ?_|refine j2 (t:=2) (i8 _ _ _) ?_|refine j2 (t:=3) (i8 _ _ _) ?_|refine j9 (t:=1) (i8 _ _ _) ?_|refine j9 (t:=2) (i8 _ _ _) ?_|refine j9 (t:=3) (i8 _ _ _) ?_|apply zD<;>intro<;>try omega)<;>conv=>whnf
   all_goals try omega
   refine k5 g8 (fun q=>([sP 0 0 0,eI row,J,m9 true,J,J,J,J,S.c (C.ptr (k+7) 0 0)]++Jn 33++[s6 w.terms,eI w.terms.length,eI q]++Jn 53,a8b n k V G (fun i=>n+i) fr A [bx,flB (rF n (a6F w.terms q)),lnX k n (-w.value)])) w.terms.length tT (idR (k+8)) trivial ?_ ?_
   ·refine a1g (X':=[]) (a3a rfl rfl rfl rfl rfl rfl) rfl zV ?_ ?_
    ·intro b hb;simp at hb;rcases hb with rfl|rfl|rfl
     ·exact a6E hbx
     ·exact A7 rfl
     ·exact aX1 om
    ·exact ⟨⟨j5 om,rz⟩,rfl,rfl,⟨j5 om,rz⟩,m7 rfl,g9 om,g9 rfl,trivial⟩
   intro q hq _;by_cases hlt:q<w.terms.length
   ·obtain ⟨t,ht⟩:∃t,w.terms[q]? =some t:=⟨_,lbf hlt⟩;obtain ⟨t0,t1,t2⟩:=L0 hr t (lbm ht);have nt:=a8v t.2 (hb t (lbm ht));have gp:(rF n (a6F w.terms q))[0+t.1.toNat]? =some (fz (a6F w.terms q t.1.toNat)):=by rw [U8,L3 om]
    have eV:0+t.1.toNat=t.1.toNat:=om;have e:D4 (flB (rF n (a6F w.terms q))) ((flB (rF n (a6F w.terms q))).rows.set (0+t.1.toNat) (frC (fz (-t.2))))=flB (rF n (a6F w.terms (q+1))):=by
     have e1:=Q4 (row:=rF n (a6F w.terms q)) (y:=fz (-t.2)) eV;rw [a0J om,←aK5 ht] at e1;exact e1
    conv=>whnf
    repeat' (first|refine zx ?_|refine j6 ht ?_|refine w9 gp ?_|refine i9 (i8 _ _ _) ?_|refine i7 ?_|refine j2 (t:=1) (i8 _ _ _) ?_|refine j2 (t:=2) (i8 _ _ _) ?_|refine j2 (t:=3) (i8 _ _ _) ?_|refine j9 (t:=1) (i8 _ _ _) ?_|refine j9 (t:=2) (i8 _ _ _) ?_|refine j9 (t:=3) (i8 _ _ _) ?_|apply zD<;>intro<;>try omega)<;>conv=>whnf
    all_goals first
     |omega
     |(refine ⟨hlt,trivial,idR (k+8),a1g (X:=[bx,flB (rF n (a6F w.terms (q+1))),lnX k n (-w.value)]) (a3a rfl rfl rfl rfl rfl (congrArg (fun z=>(mF k n A).map flB++(bx::z::lnX k n (-w.value)::[_])) e)) rfl zV ?_ ⟨⟨j5 om,rz⟩,rfl,rfl,⟨j5 om,rz⟩,rfl,rfl,g9 om,trivial⟩⟩
       intro b hb;simp at hb;rcases hb with rfl|rfl|rfl
       ·exact a6E hbx
       ·exact A7 rfl
       ·exact aX1 om)
   ·have hqe:q=w.terms.length:=by omega
    subst hqe;have ea:a6F w.terms w.terms.length=sgF true w.terms:=b7Y w.terms;conv=>whnf
    repeat' (first|refine av6 [0,1,2,3,4,5,6,7,9,10,11,12,13,14,15,16,8,17,18,19,20,21,22,23] zk zk ?_|refine zz ?_|refine z6 (by simp [toC,n9,I9,a1p,hfr]) (by simp [toC,n9,I9,a1p];omega) ?_|refine bl0 [0] ?_|refine bl0 [0,1,8,9,10,11,12,13,14,15] ?_|refine bl0 [0,1] ?_|refine bl0 [1] ?_|refine i9 (i8 _ _ _) ?_|refine i7 ?_|refine j2 (t:=1) (i8 _ _ _) ?_|refine j2 (t:=2) (i8 _ _ _) ?_|refine j2 (t:=3) (i8 _ _ _) ?_|refine j9 (t:=1) (i8 _ _ _) ?_|refine j9 (t:=2) (i8 _ _ _) ?_|refine j9 (t:=3) (i8 _ _ _) ?_|refine j2 (t:=4) (i8 _ _ _) ?_|refine a1Q (lbR 1) ?_|apply zD<;>intro<;>try omega|refine zy ?_|fail)<;>conv=>whnf
    all_goals try omega
    all_goals refine bu2 (n:=k+6) zV (b4F (lit:=_) hbx (a3a rfl rfl rfl rfl rfl (congrArg (fun z=>(mF k n A).map flB++z) (l7 rfl (by rw [ea]) rfl ?_ rfl ?_ ?_))))
    ·exact congrArg (fun z=>({ mode:=.live,elem:=3,size:=1,rows:=z,box:=false }:Blk)) (a4H (x:=(n:Int)+k) zq)
    ·exact congrArg (fun z=>({ mode:=.live,elem:=288,size:=5,rows:=z,box:=false }:Blk)) (congrArg (fun z=>z++[frC (fz (-w.value))++[C.own (k+6) 0 n true]]) (lbn (by simp [I9])))
    ·exact congrArg (fun z=>({ mode:=.live,elem:=306,size:=2,rows:=z,box:=false }:Blk)) (aw6 hfr (row,true))
def gR (N:Nat) (f:Nat->Option Nat):List (Option Nat):=(List.range N).map f
def a4O {N i:Nat} {f:Nat->Option Nat} (h:i<N):(gR N f)[i]? =some (f i):=by simp [gR,h]
def b7u {N i:Nat} {x:Option Nat} {f:Nat->Option Nat} (h:(gR N f)[i]? =some x):i<N/\f i=x:=by
 obtain ⟨h1,h2⟩:=lbe.1 h;simp [gR] at h1 h2;exact ⟨h1,h2⟩
def b11 {ρ:List (Option Nat)} {H:Hp}:∀{r:List (Option Nat)} {H':Hp},r.length=H'.length->(∀ (i:Nat) (k':Blk),H'[i]? =some k'->(r[i]? =some none/\k'.rows=[]/\k'.mode=.live)\/∃(j:Nat) (k:Blk),r[i]? =some (some j)/\H[j]? =some k/\a3g ρ H k k')->a4p ρ H r H'
 |[],[],_,_=>trivial
 |[],_::_,h,_=>by simp at h
 |_::_,[],h,_=>by simp at h
 |x::r,k'::H',hl,h=>by
  refine ⟨?_,b11 (by simpa using hl) fun i k1 hk=>by simpa using h (i+1) k1 (by simpa using hk)⟩;rcases h 0 k' rfl with ⟨h1,h2,h3⟩|⟨j,k,h1,h2,h3⟩
  ·simp at h1;subst h1;exact ⟨h2,h3⟩
  ·simp at h1;subst h1;simp only [h2];exact h3
def b2q {N:Nat} {f:Nat->Option Nat} {env env':Env} {H H':Hp} (hn:H'.length=N) (hinj:∀i j x,i<N->j<N->f i=some x->f j=some x->i=j)
 (hB:∀(i:Nat) (k':Blk),H'[i]? =some k'->(f i=none/\k'.rows=[]/\k'.mode=.live)\/∃(j:Nat) (k:Blk),f i=some j/\H[j]? =some k/\a3g (gR N f) H k k') (hE:a0p (gR N f) H env env'):Ent 0 (gR N f) env H env' H':=
 ⟨rfl,a1w fun i j n h1 h2=>by
   obtain ⟨a1,a2⟩:=b7u h1;obtain ⟨b1,b2⟩:=b7u h2;exact hinj i j n a1 b1 a2 b2,b11 (by simp [gR,hn]) fun i k' hk=>by
   have hi:i<N:=by rw [← hn];exact (lbe.1 hk).1
   rcases hB i k' hk with ⟨h1,h2⟩|⟨j,k,h1,h2⟩
   ·exact .inl ⟨by rw [a4O hi,h1],h2⟩
   ·exact .inr ⟨j,k,by rw [a4O hi,h1],h2⟩,hE⟩
def a87 {s:m8} (k:Nat):J4 s (k+1)=match s.rows[k]? with
 |none=>J4 s k
 |some w=>J4 s k++(if w.kind≠0 then [(k,false)] else [])++(if w.kind≠1 then [(k,true)] else []):=rfl
def aJ4 {s:m8} {i:Nat}:∀d,∃rest,J4 s (i+d)=J4 s i++rest
 |0=>⟨[],zq⟩
 |d+1=>by
  obtain ⟨r,hr⟩:=aJ4 (s:=s) (i:=i) d;rw [show i+(d+1)=(i+d)+1 by omega,a87];cases s.rows[i+d]? with
  |none=>exact ⟨r,hr⟩
  |some w=>exact ⟨r++((if w.kind≠0 then [(i+d,false)] else [])++(if w.kind≠1 then [(i+d,true)] else [])),by simp only;rw [hr,lbD,lbD]⟩
def a7o {s:m8} {i k:Nat} {f:Nat × Bool} (hi:i<=s.rows.length) (h:(J4 s i)[k]? =some f):(j0 s).getD k (0,false)=f:=by
 obtain ⟨r,hr⟩:=aJ4 (s:=s) (i:=i) (s.rows.length - i);rw [show i+(s.rows.length - i)=s.rows.length by omega] at hr;unfold j0;rw [hr,lbl,lbb (lbe.1 h).1,h];rfl
def a0W {s:m8}:∀i,(J4 s i).length<=2*i
 |0=>by simp [J4]
 |i+1=>by
  have ih:=a0W (s:=s) i;rw [a87];cases s.rows[i]? with
  |none=>simp only;omega
  |some w=>
   simp only [lbq];split<;>split<;>simp<;>omega
def a86 {s:m8} {i:Nat} {w:C5} (h:s.rows[i]? =some w):J4 s (i+1)=(J4 s i++if w.kind≠0 then [(i,false)] else [])++if w.kind≠1 then [(i,true)] else []:=by
 rw [a87,h]
def a0w (k:Nat):Nat->Nat:=fun i=>if i=0 then 0 else if i=1 then k+8 else if i=2 then 2 else if i=3 then k+7 else if i=4 then k+9 else if i<k+5 then i else if i=k+5 then k+6 else k+5
def av2 {k:Nat} (i:Nat) (hi:i<k+7):(i=0/\a0w k i=0)\/(i=1/\a0w k i=k+8)\/(i=2/\a0w k i=2)\/(i=3/\a0w k i=k+7)\/(i=4/\a0w k i=k+9)\/(5<=i/\i<k+5/\a0w k i=i)\/(5<=i/\i=k+5/\a0w k i=k+6)\/(5<=i/\i=k+6/\a0w k i=k+5):=by
 unfold a0w;by_cases h0:i=0
 ·rw [iA h0];omega
 ·rw [iB h0];by_cases h1:i=1
  ·rw [iA h1];omega
  ·rw [iB h1];by_cases h2:i=2
   ·rw [iA h2];omega
   ·rw [iB h2];by_cases h3:i=3
    ·rw [iA h3];omega
    ·rw [iB h3];by_cases h4:i=4
     ·rw [iA h4];omega
     ·rw [iB h4];by_cases h5:i<k+5
      ·rw [iA h5];omega
      ·rw [iB h5];by_cases h6:i=k+5
       ·rw [iA h6];omega
       ·rw [iB h6];omega
def bb4 {k:Nat}:a0w k (k+6)=k+5:=by
 have:=av2 (k:=k) (k+6) om;omega
def b3S {n k:Nat} {a V G:Nat->Rat} {v:Rat} {O:Nat->Nat} {fr:LB} {f:Nat × Bool} {A:Nat->Nat->Rat} {bx:Blk} {env env':Env} (hbx:L4 bx.rows) (hv:v=V k) (ha:a=A k)
 (hE:a0p (fR (k+7) (a0w k)) (b5e n k v a V G O fr f A bx) env env'):Ent 0 (fR (k+7) (a0w k)) env (b5e n k v a V G O fr f A bx) env' (a8b n (k+1) V G O (fr++[f]) A [bx]):=by
 subst hv ha;have r1:a0w k 1=k+8:=rfl;have r3:a0w k 3=k+7:=rfl;have r4:a0w k 4=k+9:=rfl;have ra:∀i,i<k->a0w k (i+5)=i+5:=fun i hi=>by
  unfold a0w;rw [iB om,iB om,iB om,iB om,iB om,iA om]
 have rk:a0w k (k+5)=k+6:=by
  unfold a0w;rw [iB om,iB om,iB om,iB om,iB om,iB om,iA rfl]
 have rb:a0w k (k+6)=k+5:=by
  unfold a0w;rw [iB om,iB om,iB om,iB om,iB om,iB om,iB om]
 have lk:∀j,(b5e n k (V k) (A k) V G O fr f A bx)[k+j+5]? =([bx,flB (rF n (A k)),T7 (k+1) O,{ mode:=.live,elem:=288,size:=5,rows:=a01 5 k n V++[frC (fz (V k))++[C.own (k+6) 0 n true]],box:=false },a2L (fr++[f])]:Hp)[j]?:=fun j=>a2Q (i8 _ _ _)
 have eV:b00 k n (V k) V=V:=by funext i;unfold b00;split<;>simp_all
 refine aa2 zV om (fun i hi=>om) (fun i j hi hj h=>by have:=av2 i hi;have:=av2 j hj;omega) ?_ hE;intro i k' hk;rcases i with _|_|_|_|_|i
 ·injection hk with hk;subst hk
  exact ⟨_,rfl,rfl,rfl,rfl,.inr ⟨⟨rfl,⟨by rw [z7 om,r1],rfl,rfl,fun h=>h⟩,⟨by rw [z7 om];rfl,rfl,rfl,fun h=>h⟩,⟨by rw [z7 om,r3],rfl,rfl,fun h=>h⟩,rfl,⟨by rw [z7 om,r4],rfl,rfl,fun h=>h⟩,trivial⟩,trivial⟩⟩
 ·injection hk with hk;subst hk
  refine ⟨_,lk 3,?_⟩;rw [am9,eV];refine a3c (h':=fun i=>i+5) fun j hj=>?_
  rw [z7 om];unfold hnd;by_cases hjk:j=k
  ·subst hjk;rw [iA rfl,rk]
  ·rw [iB hjk,ra j om]
 ·injection hk with hk;subst hk;exact ⟨_,rfl,j8 (j3 _)⟩
 ·injection hk with hk;subst hk;exact ⟨_,lk 2,j8 (j3 _)⟩
 ·injection hk with hk;subst hk;exact ⟨_,lk 4,j8 (j3 _)⟩
 ·have hk:((mF (k+1) n A).map flB++[bx])[i]? =some k':=hk;by_cases hi:i<k+1
  ·rw [I7 (Y0 hi)] at hk;injection hk with hk;subst hk
   by_cases hik:i=k
   ·subst hik;rw [rk];exact ⟨_,lk 1,j8 (j3 _)⟩
   ·rw [ra i om];exact ⟨_,I7 (Y0 om),j8 (j3 _)⟩
  ·obtain ⟨t,rfl⟩:∃t,i=(k+1)+t:=⟨i - (k+1),om⟩;rw [a2Q (i8 _ _ _)] at hk;rcases t with _|t
   ·injection hk with hk;subst hk
    rw [show k+1+0+5=k+6 by omega,rb];exact ⟨_,lk 0,j8 hbx⟩
   ·simp at hk
def bb7 {b0 b1 b2 b3 b4 b5 c0 c1 c2 c3 c4 c5:Blk} {L L':Hp} (h0:b0=c0) (h1:b1=c1) (h2:b2=c2) (h3:b3=c3) (h4:b4=c4) (h5:b5=c5) (h6:L=L'):b0::b1::b2::b3::b4::b5::L=c0::c1::c2::c3::c4::c5::L':=a2k h0 h1 h2 h3 h4 h5 h6
def D9:∀{last n:Int} {l:List (Int × Rat)},n7 last n l=true->l.length=0\/(l.length:Int)<=n - last - 1
 |_,_,[],_=>.inl rfl
 |last,n,a::r,h=>by
  unfold n7 at h;simp only [lbN,lbI] at h;have ih:=D9 h.2;have h1:=h.1.1.1;have h2:=h.1.1.2
  right
  rw [lbu];rcases ih with h0|h0
  ·rw [h0];omega
  ·omega
structure br7 (s:m8) (g:List (Int × Rat)) (n:Nat):Prop where
 r:q9 s=true
 tg:n7 (-1) n g=true
 en:s.n=n
 n1:n<=1000
 b:∀w ∈ s.rows,rl w.value<=60000/\∀t ∈ w.terms,rl t.2<=60000
 bg:∀t ∈ g,rl t.2<=60000
 l:s.rows.length<=4000
abbrev rbx (w:C5):Blk:={ mode:=.live,elem:=133,size:=6,rows:=[(v5 w).map C.t],box:=true }
def b0a (w:C5):L4 (rbx w).rows:=j3 [v5 w]
def a0X (s:m8):List T:=[ti s.n,a04 s.rows]
def pF1:Nat->Option Nat:=fun i=>if i=0 then some 1 else if i=2 then some 0 else none
def aP3 {s:m8} {g:List (Int × Rat)} {k:Nat} {b:Bool} {i:Nat} {w:C5} (h:(j0 s).getD k (0,false)=(i,b)) (hw:s.rows[i]? =some w):Y1 b w.value=(k9 s g).V k:=by
 show _=a3I s ((j0 s).getD k (0,false));rw [h];unfold a3I;simp only [hw]
def aY9 {s:m8} {g:List (Int × Rat)} {k:Nat} {b:Bool} {i:Nat} {w:C5} (h:(j0 s).getD k (0,false)=(i,b)) (hw:s.rows[i]? =some w):sgF b w.terms=(k9 s g).A k:=by
 funext j;show _=a3u s ((j0 s).getD k (0,false)) j;rw [h];unfold a3u;simp only [hw];rfl
abbrev dF (m n j q:Nat):Blk:={ mode:=.live,elem:=285,size:=6,rows:=[[C.t (ti n),.own 1 0 m true,.own 2 0 n true,.own 3 0 m true,.own 4 0 j true,.own 5 0 q true]],box:=true }
abbrev bj1 (m n j:Nat) (V G:Nat->Rat) (O:Nat->Nat) (fr:LB) (A:Nat->Nat->Rat) (X:Hp):Hp:=
 dF m n j fr.length::a1X 6 m n V::flB (rF n G)::T7 m O::T7 j (fun j=>j)::a2L fr::((mF m n A).map flB++X)
def fF1:Nat->Option Nat:=fun i=>if i=4 then none else if i<4 then some i else some (i - 1)
def ba1 {m n:Nat} {V G:Nat->Rat} {O:Nat->Nat} {fr:LB} {A:Nat->Nat->Rat} {env env':Env} {H:Hp} (hm:fr.length=m) (hH:H=a8b n m V G O fr A []) (hE:a0p (gR (m+6) fF1) H env env'):
 Ent 0 (gR (m+6) fF1) env H env' (bj1 m n 0 V G O fr A []):=by
 subst hH;refine b2q zV (fun i j x hi hj h1 h2=>by unfold fF1 at h1 h2;(repeat' split at h1)<;>(repeat' split at h2)<;>first|(cases h1;done)|(cases h2;done)|(injection h1 with h1;injection h2 with h2;omega)) ?_ hE;intro i k' hk;have fa:∀i,fF1 (i+6)=some (i+5):=fun i=>by unfold fF1;rw [iB om,iB om];rfl
 rcases i with _|_|_|_|_|_|i
 ·injection hk with hk;subst hk
  exact .inr ⟨0,_,rfl,rfl,rfl,rfl,rfl,.inr ⟨⟨rfl,⟨by rw [a4O om];rfl,rfl,rfl,fun h=>h⟩,⟨by rw [a4O om];rfl,rfl,rfl,fun h=>h⟩,⟨by rw [a4O om];rfl,rfl,rfl,fun h=>h⟩,⟨by rw [a4O om];rfl,rz⟩,⟨by rw [a4O om];rfl,rfl,hm.symm,fun h=>h⟩,trivial⟩,trivial⟩⟩
 ·injection hk with hk;subst hk
  refine .inr ⟨1,_,rfl,rfl,a3c (h:=fun i=>i+5) (h':=fun i=>i+6) fun j hj=>?_⟩;rw [a4O om,fa]
 ·injection hk with hk;subst hk;exact .inr ⟨2,_,rfl,rfl,j8 (j3 _)⟩
 ·injection hk with hk;subst hk;exact .inr ⟨3,_,rfl,rfl,j8 (j3 _)⟩
 ·injection hk with hk;subst hk;exact .inl ⟨rfl,rfl,rfl⟩
 ·injection hk with hk;subst hk;exact .inr ⟨4,_,rfl,rfl,j8 (j3 _)⟩
 ·have hk:((mF m n A).map flB++[])[i]? =some k':=hk;have hi:i<m:=by have:=(lbe.1 hk).1;simpa [i8] using this
  rw [I7 (Y0 hi)] at hk;injection hk with hk;subst hk
  exact .inr ⟨i+5,_,fa i,I7 (Y0 hi),j8 (j3 _)⟩
abbrev bQ1 (m n j:Nat) (V G:Nat->Rat) (O:Nat->Nat) (fr:LB) (A:Nat->Nat->Rat):Hp:=
 { mode:=.live,elem:=285,size:=6,rows:=[[C.t (ti n),.own 1 0 m true,.own 2 0 n true,.own 3 0 m true,.own (m+6) 0 (j+1) true,.own 5 0 fr.length true]],box:=true }::
   a1X 6 m n V::flB (rF n G)::T7 m O::an3 3 1::a2L fr::((mF m n A).map flB++[T7 (j+1) (fun j=>j)])
def fF2 (m:Nat):Nat->Nat:=fun i=>if i=4 then m+6 else i
def bj3 {m n j:Nat} {V G:Nat->Rat} {O:Nat->Nat} {fr:LB} {A:Nat->Nat->Rat} {env env':Env} {H:Hp} (hH:H=bQ1 m n j V G O fr A) (hE:a0p (fR (m+6) (fF2 m)) H env env'):
 Ent 0 (fR (m+6) (fF2 m)) env H env' (bj1 m n (j+1) V G O fr A []):=by
 subst hH;have fa:∀i,i≠4->fF2 m i=i:=fun i hi=>by unfold fF2;rw [iB hi]
 refine aa2 zV om (fun i hi=>om) (fun i j hi hj h=>by unfold fF2 at h;(repeat' split at h)<;>omega) ?_ hE;intro i k' hk;rcases i with _|_|_|_|_|_|i
 ·injection hk with hk;subst hk
  exact ⟨_,rfl,rfl,rfl,rfl,.inr ⟨⟨rfl,⟨by rw [z7 om];rfl,rfl,rfl,fun h=>h⟩,⟨by rw [z7 om];rfl,rfl,rfl,fun h=>h⟩,⟨by rw [z7 om];rfl,rfl,rfl,fun h=>h⟩,⟨by rw [z7 om];rfl,rfl,rfl,fun h=>h⟩,⟨by rw [z7 om];rfl,rfl,rfl,fun h=>h⟩,trivial⟩,trivial⟩⟩
 ·injection hk with hk;subst hk
  refine ⟨_,rfl,a3c (h:=fun i=>i+6) (h':=fun i=>i+6) fun j hj=>?_⟩;rw [z7 om,fa _ om]
 ·injection hk with hk;subst hk;exact ⟨_,rfl,j8 (j3 _)⟩
 ·injection hk with hk;subst hk;exact ⟨_,rfl,j8 (j3 _)⟩
 ·injection hk with hk;subst hk
  refine ⟨_,a2Q (t:=0) (i8 _ _ _),j8 (j3 _)⟩
 ·injection hk with hk;subst hk;exact ⟨_,rfl,j8 (j3 _)⟩
 ·have hk:((mF m n A).map flB++[])[i]? =some k':=hk;have hi:i<m:=by have:=(lbe.1 hk).1;simpa [i8] using this
  rw [I7 (Y0 hi)] at hk;injection hk with hk;subst hk
  rw [fa _ om];exact ⟨_,I7 (Y0 hi),j8 (j3 _)⟩
def aR7 (s:m8) (g:List (Int × Rat)) (n:Nat) (h:br7 s g n):
 ec 218 [U9 s,s6 g] [] (.c (.ptr 0 0 0)) (a1i (j0 s).length n (j0 s) (k9 s g)):=by
 have m1:(s.rows.map v5).length=s.rows.length:=zq;have m2:(g.map B8).length=g.length:=zq;have z0:∀H:Hp,H.length=0->a0k Tryz.prog 289 [eI s.n] H (.c (.own 0 0 n true)) [flB (rF n fun _=>0)]:=fun H hH=>by rw [h.en];exact a1I hH h.n1
 have hsl:=h.l;have htg:=h.tg;have hbg:=h.bg;have hgl:=D9 htg;have hn1:=h.n1;have hen:=h.en;have put0:∀(K i:Nat) (w:C5) (b:Bool) (F:LB) (bx:Blk),s.rows[i]? =some w->F.length=K->L4 bx.rows->K<=10000->i<=100000->
  ec 290 [.c (.ptr 0 0 0),eI i,aS0 w,m9 b] (a8b n K (k9 s g).V (fun _=>0) (fun i=>n+i) F (k9 s g).A [bx]) (.tup []) (b5e n K (Y1 b w.value) (sgF b w.terms) (k9 s g).V (fun _=>0) (fun i=>n+i) F (i,b) (k9 s g).A bx):=by
  intro K i w b F bx hw hF hbx hK hi;have hn:=V4 h.r;have hrw:=(a1f h.r hw).1;rw [hn,h.en] at hrw;have hl:=D9 hrw;have hb:=h.b w (lbm hw);exact bJ7 n K i w b _ _ F hF _ bx hbx h.n1 hK hi hrw (by have:=h.n1;omega) hb.2 hb.1
 refine ac Tryz.func218 ?_;conv=>whnf
 repeat' (first|refine zz ?_|refine b0x ?_|refine .inl ⟨_,_,z0 _ rfl,?_⟩|apply zD<;>intro h<;>try omega|refine zy ?_|fail)<;>conv=>whnf
 refine ar1 (fun i=>([J,s6 g,S.c (C.t (T.ptr (a0X s))),J,J,sP 0 0 0]++Jn 13++[S.c (C.t (a04 s.rows)),eI s.rows.length,eI i]++Jn 53,a8b n (J4 s i).length (k9 s g).V (fun _=>0) (fun i=>n+i) (J4 s i) (k9 s g).A [])) s.rows.length tT (gR 5 pF1) trivial ?_ ?_
 ·refine b2q rfl (fun i j x hi hj h1 h2=>by unfold pF1 at h1 h2;(repeat' split at h1)<;>(repeat' split at h2)<;>first|(cases h1;done)|(cases h2;done)|(injection h1 with h1;injection h2 with h2;omega)) ?_ ?_
  ·intro i k' hk;rcases i with _|_|_|_|_|i
   ·injection hk with hk;subst hk
    exact .inr ⟨1,_,rfl,rfl,rfl,rfl,rfl,.inr ⟨⟨ak6 (by rw [h.en]),rz,⟨rfl,rfl,rfl,fun h=>h⟩,rz⟩,trivial⟩⟩
   ·injection hk with hk;subst hk;exact .inl ⟨rfl,rfl,rfl⟩
   ·injection hk with hk;subst hk;exact .inr ⟨0,_,rfl,rfl,j8 (j3 _)⟩
   ·injection hk with hk;subst hk;exact .inl ⟨rfl,rfl,rfl⟩
   ·injection hk with hk;subst hk;exact .inl ⟨rfl,rfl,rfl⟩
   ·simp [mF,J4] at hk
  ·exact ⟨rfl,m7 rfl,rz,m7 rfl,g9 om,g9 rfl,trivial⟩
 intro i hi _;refine w8 g8 ?_;conv=>whnf
 repeat' (first|refine zx ?_|refine i7 ?_|apply zD<;>intro h<;>try omega)<;>conv=>whnf
 ·have hlt:i<s.rows.length:=by omega
  obtain ⟨w,hw⟩:∃w,s.rows[i]? =some w:=⟨_,lbf hlt⟩;obtain ⟨K,hK⟩:∃K,K=(J4 s i).length:=⟨_,rfl⟩;rw [← hK];obtain ⟨K1,hK1⟩:∃K1,K1=(J4 s i++if w.kind≠0 then [(i,false)] else []).length:=⟨_,rfl⟩;obtain ⟨F1,hF1⟩:∃F1,F1=(J4 s i++if w.kind≠0 then [(i,false)] else []):=⟨_,rfl⟩;have hKb:K<=10000:=by have:=a0W (s:=s) i;omega
  refine w8 g8 ?_;conv=>whnf
  refine a9a (a8w ?_);refine w8 g8 ?_;conv=>whnf
  repeat' (first|refine zx ?_|refine j6 hw ?_|refine i9 (i8 _ _ _) ?_|refine i7 ?_|refine j2 (t:=0) (i8 _ _ _) ?_|refine j9 (t:=0) (i8 _ _ _) ?_|apply zD<;>intro h<;>try omega)<;>conv=>whnf
  refine B3 g8 ([J,s6 g,S.c (C.t (T.ptr (a0X s))),J,J,sP 0 0 0,eI i,S.c (C.ptr (K1+5) 0 0)]++Jn 11++[S.c (C.t (a04 s.rows)),eI s.rows.length,eI i]++Jn 53) (a8b n K1 (k9 s g).V (fun _=>0) (fun i=>n+i) F1 (k9 s g).A [rbx w]) ?_ ?_
  ·by_cases hk:w.kind=0
   ·have e1:F1=J4 s i:=by rw [hF1,iB (by simp [hk]),Z3]
    have e2:K1=K:=by rw [hK1,iB (by simp [hk]),Z3,hK]
    subst e1 e2;conv=>whnf
    repeat' (first|refine zx ?_|refine i9 (i8 _ _ _) ?_|refine i7 ?_|refine j2 (t:=0) (i8 _ _ _) ?_|refine j9 (t:=0) (i8 _ _ _) ?_|apply zD<;>intro h<;>try omega)<;>conv=>whnf
    all_goals first|omega|exact ⟨idR (K1+6),a1g (X:=[rbx w]) (X':=[]) (a3a rfl rfl rfl rfl rfl rfl) rfl (G6 _) (by intro b hb;simp at hb;subst hb;exact a6E (b0a w)) ⟨rfl,rfl,⟨j5 om,rz⟩,rfl,⟨j5 om,rz⟩,rz⟩⟩
   ·have e1:F1=J4 s i++[(i,false)]:=by rw [hF1,iA hk]
    have e2:K1=K+1:=by rw [hK1,iA hk,lbq,←hK];rfl
    have hg:(j0 s).getD K (0,false)=(i,false):=by
     refine a7o (i:=i+1) om ?_;rw [a86 hw,iA hk,lbD,lbc om,hK];simp
    subst e1 e2;have pu:=put0 K i w false (J4 s i) (rbx w) hw hK.symm (b0a w) hKb om;conv=>whnf
    repeat' (first|refine zx ?_|refine .inr ⟨_,_,pu,?_⟩|refine i9 (i8 _ _ _) ?_|refine i7 ?_|refine j2 (t:=0) (i8 _ _ _) ?_|refine j9 (t:=0) (i8 _ _ _) ?_|apply zD<;>intro h<;>try omega)<;>conv=>whnf
    all_goals first|omega|exact ⟨_,b3S (b0a w) (aP3 hg hw) (aY9 hg hw) ⟨rfl,rfl,⟨by rw [z7 om];rfl,rz⟩,rfl,⟨by rw [z7 om,bb4],rz⟩,rz⟩⟩
  ·have hl1:F1.length=K1:=by rw [hF1,hK1]
   have eF:J4 s (i+1)=F1++if w.kind≠1 then [(i,true)] else []:=by rw [a86 hw,hF1]
   have hK1b:K1<=10000:=by
    have:=a0W (s:=s) i;rw [hK1,lbq];split<;>simp<;>omega
   by_cases hk:w.kind=1
   ·have e1:J4 s (i+1)=F1:=by rw [eF,iB (by simp [hk]),Z3]
    refine t4 g8 _ ?_;conv=>whnf
    repeat' (first|refine zx ?_|refine i9 (i8 _ _ _) ?_|refine i7 ?_|refine j2 (t:=0) (i8 _ _ _) ?_|refine j9 (t:=0) (i8 _ _ _) ?_|apply zD<;>intro h<;>try omega)<;>conv=>whnf
    all_goals try omega
    refine t4 g8 _ ?_;conv=>whnf
    repeat' (first|refine zx ?_|refine i9 (i8 _ _ _) ?_|refine i7 ?_|refine j2 (t:=0) (i8 _ _ _) ?_|refine j9 (t:=0) (i8 _ _ _) ?_|apply zD<;>intro h<;>try omega)<;>conv=>whnf
    refine ⟨hlt,trivial,idR (K1+5),?_⟩;rw [e1,hl1];exact a1g (X:=[]) (X':=[rbx w]) (a3a rfl rfl rfl rfl rfl rfl) rfl (G6 _) zq ⟨rfl,rfl,⟨j5 om,rz⟩,rfl,rfl,g9 om,trivial⟩
   ·have e1:J4 s (i+1)=F1++[(i,true)]:=by rw [eF,iA hk]
    have hg:(j0 s).getD K1 (0,false)=(i,true):=by
     refine a7o (i:=i+1) om ?_;rw [e1,lbc om,hl1];simp
    have pu:=put0 K1 i w true F1 (rbx w) hw hl1 (b0a w) hK1b om;refine t4 g8 _ ?_;conv=>whnf
    repeat' (first|refine zx ?_|refine .inr ⟨_,_,pu,?_⟩|refine i9 (i8 _ _ _) ?_|refine i7 ?_|refine j2 (t:=0) (i8 _ _ _) ?_|refine j9 (t:=0) (i8 _ _ _) ?_|apply zD<;>intro h<;>try omega)<;>conv=>whnf
    all_goals try omega
    refine b3Z (env':=[J,s6 g,S.c (C.t (T.ptr (a0X s))),J,J,sP 0 0 0]++Jn 13++[S.c (C.t (a04 s.rows)),eI s.rows.length,eI i]++Jn 53) _ (b3S (b0a w) (aP3 hg hw) (aY9 hg hw) ⟨rfl,rfl,⟨by rw [z7 om];rfl,rz⟩,rz⟩) ?_;refine t4 g8 _ ?_;conv=>whnf
    repeat' (first|refine zx ?_|refine i9 (i8 _ _ _) ?_|refine i7 ?_|refine j2 (t:=0) (i8 _ _ _) ?_|refine j9 (t:=0) (i8 _ _ _) ?_|apply zD<;>intro h<;>try omega)<;>conv=>whnf
    refine ⟨hlt,trivial,idR (K1+1+5),?_⟩;rw [e1,show (F1++[(i,true)]).length=K1+1 by simp [hl1]];exact a1g (X:=[]) (X':=[rbx w]) (a3a rfl rfl rfl rfl rfl rfl) rfl (G6 _) zq ⟨rfl,rfl,⟨j5 om,rz⟩,rfl,rfl,g9 om,trivial⟩
 ·have hie:i=s.rows.length:=by omega
  subst hie;refine t4 g8 _ ?_;conv=>whnf
  repeat' (first|refine zx ?_|refine i9 (i8 _ _ _) ?_|refine i7 ?_|refine j2 (t:=0) (i8 _ _ _) ?_|refine j9 (t:=0) (i8 _ _ _) ?_|apply zD<;>intro h<;>try omega)<;>conv=>whnf
  all_goals try omega
  refine k5 g8 (fun q=>([J,J,S.c (C.t (T.ptr (a0X s))),J,J,sP 0 0 0]++Jn 35++[s6 g,eI g.length,eI q]++Jn 31,a8b n (j0 s).length (k9 s g).V (fun j=>-(S1 g q j)) (fun i=>n+i) (j0 s) (k9 s g).A [])) g.length tT (idR ((j0 s).length+5)) trivial ?_ ?_
  ·refine a1g (X:=[]) (X':=[]) (a3a rfl rfl ?_ rfl rfl rfl) rfl (G6 _) zq ⟨m7 rfl,⟨j5 om,rz⟩,m7 rfl,g9 om,g9 rfl,trivial⟩;rw [F6 (g:=fun _=>0) (h:=fun j=>-(S1 g 0 j)) fun j hj=>by show (0:Rat)=-0;decide]
  intro q hq _;by_cases hlt:q<g.length
  ·obtain ⟨t,ht⟩:∃t,g[q]? =some t:=⟨_,lbf hlt⟩;obtain ⟨t0,t1,t2⟩:=L0 htg t (lbm ht);have nt:=a8v t.2 (hbg t (lbm ht));have gp:(rF n (fun j=>-(S1 g q j)))[0+t.1.toNat]? =some (fz (-(S1 g q t.1.toNat))):=by rw [U8,L3 om]
   have eV:0+t.1.toNat=t.1.toNat:=om;have e:D4 (flB (rF n (fun j=>-(S1 g q j)))) ((flB (rF n (fun j=>-(S1 g q j)))).rows.set (0+t.1.toNat) (frC (fz (-t.2))))=flB (rF n (fun j=>-(S1 g (q+1) j))):=by
    have e1:=Q4 (row:=rF n (fun j=>-(S1 g q j))) (y:=fz (-t.2)) eV;rw [a0J om] at e1;refine e1.trans ?_;rw [Q0 ht];refine congrArg flB ?_;exact F6 fun j hj=>by show (if j=t.1.toNat then -t.2 else -(S1 g q j))=-(if j=t.1.toNat then t.2 else S1 g q j);split<;>rfl
   conv=>whnf
   repeat' (first|refine zx ?_|refine j6 ht ?_|refine w9 gp ?_|refine i9 (i8 _ _ _) ?_|refine i7 ?_|refine j2 (t:=0) (i8 _ _ _) ?_|refine j9 (t:=0) (i8 _ _ _) ?_|apply zD<;>intro h<;>try omega)<;>conv=>whnf
   all_goals first|omega|exact ⟨hlt,trivial,idR ((j0 s).length+5),a1g (X:=[]) (X':=[_]) (a3a rfl rfl e rfl rfl rfl) rfl (G6 _) zq ⟨rfl,⟨j5 om,rz⟩,rfl,rfl,g9 om,trivial⟩⟩
  ·have hqe:q=g.length:=by omega
   subst hqe;conv=>whnf
   repeat' (first|refine zx ?_|refine i9 (i8 _ _ _) ?_|refine i7 ?_|refine j2 (t:=0) (i8 _ _ _) ?_|refine j9 (t:=0) (i8 _ _ _) ?_|apply zD<;>intro h<;>try omega)<;>conv=>whnf
   all_goals try omega
   refine k5 g8 (fun q=>([J,J,J,J,J,sP 0 0 0]++Jn 53++[eI n,eI q]++Jn 14,bj1 (j0 s).length n q (k9 s g).V (k9 s g).G (fun i=>n+i) (j0 s) (k9 s g).A [])) n tT (gR ((j0 s).length+6) fF1) trivial ?_ ?_
   ·exact ba1 rfl rfl ⟨⟨by rw [a4O om];rfl,rz⟩,g9 hen,g9 rfl,trivial⟩
   intro q hq _;by_cases hlt:q<n
   ·conv=>whnf
    repeat' (first|refine zx ?_|refine z6 (by simp [toC,n9]) (by simp [toC,n9];omega) ?_|refine bl0 [0] ?_|refine i9 (i8 _ _ _) ?_|refine i7 ?_|refine j2 (t:=0) (i8 _ _ _) ?_|refine j9 (t:=0) (i8 _ _ _) ?_|apply zD<;>intro h<;>try omega)<;>conv=>whnf
    all_goals first
     |omega
     |(refine ⟨hlt,trivial,fR ((j0 s).length+6) (fF2 (j0 s).length),bj3 (bb7 rfl rfl rfl rfl rfl rfl (congrArg (fun z=>(mF (j0 s).length n (k9 s g).A).map flB++[z]) ?_)) ⟨⟨by rw [z7 om];rfl,rz⟩,rfl,g9 om,trivial⟩⟩
       exact congrArg (fun z=>({ mode:=.live,elem:=3,size:=1,rows:=z,box:=false }:Blk)) (a4H (O:=fun j=>j) (x:=(q:Int)) rfl))
   ·have hqe:q=n:=by omega
    subst hqe;conv=>whnf
    repeat' (first|refine zx ?_|refine i9 (i8 _ _ _) ?_|refine i7 ?_|refine j2 (t:=0) (i8 _ _ _) ?_|refine j9 (t:=0) (i8 _ _ _) ?_|apply zD<;>intro h<;>try omega)<;>conv=>whnf
    all_goals try omega
    refine a7u (n:=(j0 s).length+6) a4g (G6 _) a9h (fun i _=>?_) ⟨j5 om,rz⟩;have e0:a1i (j0 s).length q (j0 s) (k9 s g)=bj1 (j0 s).length q q (k9 s g).V (k9 s g).G (fun i=>q+i) (j0 s) (k9 s g).A []:=by
     have eO:(k9 s g).O=fun i=>q+i:=by funext i;show s.n.toNat+i=_;rw [hen];rfl
     show _::_::_::T7 _ (k9 s g).O::_::_::_=_::_::_::_::_::_::(_++[]);rw [Z3,eO];rfl
    rw [e0]
def ptK (n:Nat) (O:Nat->Nat) (v x0:Nat->Rat):Nat->Nat->Rat
 |0=>x0
 |k+1=>fun j=>if O k<n/\j=O k then v k else ptK n O v x0 k j
def L2 {n:Nat} {O:Nat->Nat} {v x0:Nat->Rat} {k:Nat}:ptK n O v x0 (k+1)=fun j=>if O k<n/\j=O k then v k else ptK n O v x0 k j:=rfl
def aA7 {n:Nat} {O:Nat->Nat} {v x0:Nat->Rat} {j:Nat}:∀{k:Nat},(∀ i,i<k->O i≠j)->ptK n O v x0 k j=x0 j
 |0,_=>rfl
 |k+1,h=>by rw [L2];simp only;rw [iB (fun e=>h k om e.2.symm),aA7 fun i hi=>h i om]
def az6 {n:Nat} {O:Nat->Nat} {v x0:Nat->Rat} {i:Nat}:∀{k:Nat},i<k->O i<n->(∀ a,a<k->O a=O i->a=i)->ptK n O v x0 k (O i)=v i
 |0,h,_,_=>om
 |k+1,h,hn,hu=>by
  rw [L2];simp only;by_cases he:O k=O i
  ·have:=hu k om he;subst this;rw [iA ⟨hn,rfl⟩]
  ·rw [iB (fun e=>he e.2.symm)];have:i≠k:=fun e=>he (by rw [e])
   exact az6 om hn fun a ha=>hu a om
def ap6 {m n:Nat} {D:Fd} (hP:Z0 m n D) {j:Nat} (hj:j<n):ptK n D.O D.V (fun _=>0) m j=Q6 m n D 1 (fun _=>0) j:=by
 rcases hP.all j om with ⟨i,hi,rfl⟩|⟨q,hq,rfl⟩
 ·rw [az6 hi hj fun a ha he=>hP.oi a i ha hi he,a5L hP hi,D5 fun j _=>by grind];grind
 ·rw [aA7 fun i hi=>hP.of i q hi hq,a1q hP hq]
def aj7 {m n c:Nat} {D:Fd} (hP:Z0 m n D) (hc:c<n) {j:Nat} (hj:j<n):ptK n D.O (fun i=>-(D.A i c)) (fun j=>if D.F c<n/\j=D.F c then 1 else 0) m j=Q6 m n D 0 (fun q=>if q=c then 1 else 0) j:=by
 rcases hP.all j om with ⟨i,hi,rfl⟩|⟨q,hq,rfl⟩
 ·rw [az6 hi hj fun a ha he=>hP.oi a i ha hi he,a5L hP hi,p4 (g:=fun q=>(if c=q then (1:Rat) else 0)*D.A i q) fun q _=>by
   by_cases h:q=c
   ·subst h;simp only [if_true];grind
   ·rw [iB h,iB (fun e=>h e.symm)];grind,b6D hc]
  grind
 ·rw [aA7 fun i hi=>hP.of i q hi hq,a1q hP hq];by_cases h:q=c
  ·subst h;rw [iA rfl,iA ⟨hj,rfl⟩]
  ·rw [iB h,iB (fun e=>h (hP.fi q c hq hc e.2))]
def a30 (n:Nat) (y:Nat->Rat):(zOf n y).map fz=rF n y:=by unfold zOf rF;rw [a6W];rfl
abbrev dT (m n:Nat) (fr:LB) (D:Fd):S:=.c (.t (.ptr (bq7 m n fr D)))
def b9Q (m n:Nat) (fr:LB) (D:Fd) (hP:Z0 m n D) (hm:m<=100000) (hn:n<=1000):ec 220 [dT m n fr D] [] (H5 ((zOf n (Q6 m n D 1 (fun _=>0))).map fz)) []:=by
 have m1:(Z2 m D.O).length=m:=n9 _ _;have z0:∀H:Hp,H.length=0->a0k Tryz.prog 289 [eI n] H (.c (.own 0 0 n true)) [flB (rF n fun _=>0)]:=fun H hH=>a1I hH hn
 rw [a30,←F6 (g:=ptK n D.O D.V (fun _=>0) m) fun j hj=>ap6 hP hj];refine ac Tryz.func220 ?_;conv=>whnf
 repeat' (first|refine zx ?_|refine .inl ⟨_,_,z0 _ rfl,?_⟩|apply zD<;>intro h<;>try omega)<;>conv=>whnf
 refine k5 g8 (fun k=>([dT m n fr D,J,J,S.c (C.own 0 0 n true)]++Jn 10++[a8B m D.O,eI m,eI k]++Jn 23,[flB (rF n (ptK n D.O D.V (fun _=>0) k))])) m tT [some 0] trivial
  ⟨rfl,rfl,⟨j8 (j3 _),trivial⟩,⟨m7 rfl,⟨rfl,rfl,rfl,fun h=>h⟩,m7 rfl,g9 om,g9 rfl,trivial⟩⟩ ?_
 intro k hk _;by_cases hlt:k<m
 ·by_cases ho:D.O k<n
  ·have gp:(rF n (ptK n D.O D.V (fun _=>0) k))[0+((D.O k:Nat):Int).toNat]? =some (fz (ptK n D.O D.V (fun _=>0) k (D.O k))):=by rw [show 0+((D.O k:Nat):Int).toNat=D.O k by omega,L3 ho]
   have e:D4 (flB (rF n (ptK n D.O D.V (fun _=>0) k))) ((flB (rF n (ptK n D.O D.V (fun _=>0) k))).rows.set (0+((D.O k:Nat):Int).toNat) (frC (fz (D.V k))))=flB (rF n (ptK n D.O D.V (fun _=>0) (k+1))):=by
    rw [Q4 (show 0+((D.O k:Nat):Int).toNat=D.O k by omega),a0J ho,L2];refine congrArg flB (F6 fun j hj=>?_);simp only [ho,true_and]
   conv=>whnf
   repeat' (first|refine zx ?_|refine t6 rfl hlt ?_|refine a28 rfl hlt ?_|refine w9 gp ?_|apply zD<;>intro h<;>try omega)<;>conv=>whnf
   all_goals first|omega|exact ⟨hlt,trivial,[some 0],rfl,rfl,⟨⟨rfl,rfl,rfl,.inl ⟨congrArg Blk.rows e,(congrArg Blk.rows e) ▸ j3 _⟩⟩,trivial⟩,⟨rfl,⟨rfl,rfl,rfl,fun h=>h⟩,rfl,rfl,g9 om,trivial⟩⟩
  ·have e:ptK n D.O D.V (fun _=>0) (k+1)=ptK n D.O D.V (fun _=>0) k:=by rw [L2];funext j;rw [iB (fun h=>ho h.1)]
   conv=>whnf
   repeat' (first|refine zx ?_|refine t6 rfl hlt ?_|apply zD<;>intro h<;>try omega)<;>conv=>whnf
   all_goals first|omega|exact ⟨hlt,trivial,[some 0],rfl,rfl,⟨i6 (rows:=(rF n (ptK n D.O D.V (fun _=>0) k)).map B2) rfl rfl rfl rfl (by rw [e]),trivial⟩,⟨rfl,⟨rfl,rfl,rfl,fun h=>h⟩,rfl,rfl,g9 om,trivial⟩⟩
 ·have hke:k=m:=by omega
  subst hke;conv=>whnf
  repeat' (first|refine zx ?_|apply zD<;>intro h<;>try omega)<;>conv=>whnf
  all_goals first|omega|exact N3 rfl (fun h=>h) rfl rfl (by simp [O9])
def bz4 (m n:Nat) (fr:LB) (D:Fd) (c:Nat) (hc:c<n) (hP:Z0 m n D) (hm:m<=100000) (hn:n<=1000) (hB:∀i,i<m->rl (D.A i c)<=60000):
 ec 221 [dT m n fr D,eI c] [] (H5 ((zOf n (Q6 m n D 0 (fun q=>if q=c then 1 else 0))).map fz)) []:=by
 have m1:(Z2 m D.O).length=m:=n9 _ _;have z0:∀H:Hp,H.length=0->a0k Tryz.prog 289 [eI n] H (.c (.own 0 0 n true)) [flB (rF n fun _=>0)]:=fun H hH=>a1I hH hn
 have i1:=U1 1 de de;obtain ⟨x0,hx0⟩:∃x0:Nat->Rat,x0=fun j=>if D.F c<n/\j=D.F c then 1 else 0:=⟨_,rfl⟩
 rw [a30,←F6 (g:=ptK n D.O (fun i=>-(D.A i c)) x0 m) fun j hj=>by rw [hx0];exact aj7 hP hc hj];by_cases hf:D.F c<n
 ·have gp0:(rF n (fun _=>(0:Rat)))[0+((D.F c:Nat):Int).toNat]? =some (fz 0):=by rw [show 0+((D.F c:Nat):Int).toNat=D.F c by omega,L3 hf]
  have e0:D4 (flB (rF n (fun _=>(0:Rat)))) ((flB (rF n (fun _=>(0:Rat)))).rows.set (0+((D.F c:Nat):Int).toNat) (frC (fz ((1:Int):Rat))))=flB (rF n x0):=by
   rw [Q4 (show 0+((D.F c:Nat):Int).toNat=D.F c by omega),a0J hf,hx0];refine congrArg flB (F6 fun j hj=>?_);simp only [hf,true_and];rfl
  refine ac Tryz.func221 ?_;conv=>whnf
  repeat' (first|refine zx ?_|refine .inl ⟨_,_,z0 _ rfl,?_⟩|refine t6 rfl hc ?_|refine w9 gp0 ?_|apply zD<;>intro h<;>try omega)<;>conv=>whnf
  all_goals try omega
  refine k5 g8 (fun k=>([dT m n fr D,eI c,J,J,J,S.c (C.own 0 0 n true)]++Jn 28++[a8B m D.O,eI m,eI k]++Jn 27,[flB (rF n (ptK n D.O (fun i=>-(D.A i c)) x0 k))])) m tT [some 0] trivial
   ⟨rfl,rfl,⟨⟨rfl,rfl,rfl,.inl ⟨congrArg Blk.rows e0,(congrArg Blk.rows e0) ▸ j3 _⟩⟩,trivial⟩,⟨m7 rfl,g9 rfl,⟨rfl,rfl,rfl,fun h=>h⟩,m7 rfl,g9 om,g9 rfl,trivial⟩⟩ ?_
  intro k hk _;by_cases hlt:k<m
  ·have ng:=a8v (D.A k c) (hB k hlt);by_cases ho:D.O k<n
   ·have gp:(rF n (ptK n D.O (fun i=>-(D.A i c)) x0 k))[0+((D.O k:Nat):Int).toNat]? =some (fz (ptK n D.O (fun i=>-(D.A i c)) x0 k (D.O k))):=by rw [show 0+((D.O k:Nat):Int).toNat=D.O k by omega,L3 ho]
    have e:D4 (flB (rF n (ptK n D.O (fun i=>-(D.A i c)) x0 k))) ((flB (rF n (ptK n D.O (fun i=>-(D.A i c)) x0 k))).rows.set (0+((D.O k:Nat):Int).toNat) (frC (fz (-(D.A k c)))))=flB (rF n (ptK n D.O (fun i=>-(D.A i c)) x0 (k+1))):=by
     rw [Q4 (show 0+((D.O k:Nat):Int).toNat=D.O k by omega),a0J ho,L2];refine congrArg flB (F6 fun j hj=>?_);simp only [ho,true_and]
    conv=>whnf
    repeat' (first|refine zx ?_|refine t6 rfl hlt ?_|refine a28 rfl hlt ?_|refine a5x rfl hc ?_|refine w9 gp ?_|apply zD<;>intro h<;>try omega)<;>conv=>whnf
    all_goals first|omega|exact ⟨hlt,trivial,[some 0],rfl,rfl,⟨⟨rfl,rfl,rfl,.inl ⟨congrArg Blk.rows e,(congrArg Blk.rows e) ▸ j3 _⟩⟩,trivial⟩,⟨rfl,rfl,⟨rfl,rfl,rfl,fun h=>h⟩,rfl,rfl,g9 om,trivial⟩⟩
   ·have e:ptK n D.O (fun i=>-(D.A i c)) x0 (k+1)=ptK n D.O (fun i=>-(D.A i c)) x0 k:=by rw [L2];funext j;rw [iB (fun h=>ho h.1)]
    conv=>whnf
    repeat' (first|refine zx ?_|refine t6 rfl hlt ?_|apply zD<;>intro h<;>try omega)<;>conv=>whnf
    all_goals first|omega|exact ⟨hlt,trivial,[some 0],rfl,rfl,⟨i6 (rows:=(rF n (ptK n D.O (fun i=>-(D.A i c)) x0 k)).map B2) rfl rfl rfl rfl (by rw [e]),trivial⟩,⟨rfl,rfl,⟨rfl,rfl,rfl,fun h=>h⟩,rfl,rfl,g9 om,trivial⟩⟩
  ·have hke:k=m:=by omega
   subst hke;conv=>whnf
   repeat' (first|refine zx ?_|apply zD<;>intro h<;>try omega)<;>conv=>whnf
   all_goals first|omega|exact N3 rfl (fun h=>h) rfl rfl (by simp [O9])
 ·have e0:x0=fun _=>0:=by rw [hx0];funext j;rw [iB (fun h=>hf h.1)]
  refine ac Tryz.func221 ?_;conv=>whnf
  repeat' (first|refine zx ?_|refine .inl ⟨_,_,z0 _ rfl,?_⟩|refine t6 rfl hc ?_|apply zD<;>intro h<;>try omega)<;>conv=>whnf
  all_goals try omega
  refine k5 g8 (fun k=>([dT m n fr D,eI c,J,J,J,S.c (C.own 0 0 n true)]++Jn 28++[a8B m D.O,eI m,eI k]++Jn 27,[flB (rF n (ptK n D.O (fun i=>-(D.A i c)) x0 k))])) m tT [some 0] trivial
   ⟨rfl,rfl,⟨i6 (rows:=(rF n (fun _=>0)).map B2) rfl rfl rfl rfl (by rw [e0];rfl),trivial⟩,⟨m7 rfl,g9 rfl,⟨rfl,rfl,rfl,fun h=>h⟩,m7 rfl,g9 om,g9 rfl,trivial⟩⟩ ?_
  intro k hk _;by_cases hlt:k<m
  ·have ng:=a8v (D.A k c) (hB k hlt);by_cases ho:D.O k<n
   ·have gp:(rF n (ptK n D.O (fun i=>-(D.A i c)) x0 k))[0+((D.O k:Nat):Int).toNat]? =some (fz (ptK n D.O (fun i=>-(D.A i c)) x0 k (D.O k))):=by rw [show 0+((D.O k:Nat):Int).toNat=D.O k by omega,L3 ho]
    have e:D4 (flB (rF n (ptK n D.O (fun i=>-(D.A i c)) x0 k))) ((flB (rF n (ptK n D.O (fun i=>-(D.A i c)) x0 k))).rows.set (0+((D.O k:Nat):Int).toNat) (frC (fz (-(D.A k c)))))=flB (rF n (ptK n D.O (fun i=>-(D.A i c)) x0 (k+1))):=by
     rw [Q4 (show 0+((D.O k:Nat):Int).toNat=D.O k by omega),a0J ho,L2];refine congrArg flB (F6 fun j hj=>?_);simp only [ho,true_and]
    conv=>whnf
    repeat' (first|refine zx ?_|refine t6 rfl hlt ?_|refine a28 rfl hlt ?_|refine a5x rfl hc ?_|refine w9 gp ?_|apply zD<;>intro h<;>try omega)<;>conv=>whnf
    all_goals first|omega|exact ⟨hlt,trivial,[some 0],rfl,rfl,⟨⟨rfl,rfl,rfl,.inl ⟨congrArg Blk.rows e,(congrArg Blk.rows e) ▸ j3 _⟩⟩,trivial⟩,⟨rfl,rfl,⟨rfl,rfl,rfl,fun h=>h⟩,rfl,rfl,g9 om,trivial⟩⟩
   ·have e:ptK n D.O (fun i=>-(D.A i c)) x0 (k+1)=ptK n D.O (fun i=>-(D.A i c)) x0 k:=by rw [L2];funext j;rw [iB (fun h=>ho h.1)]
    conv=>whnf
    repeat' (first|refine zx ?_|refine t6 rfl hlt ?_|apply zD<;>intro h<;>try omega)<;>conv=>whnf
    all_goals first|omega|exact ⟨hlt,trivial,[some 0],rfl,rfl,⟨i6 (rows:=(rF n (ptK n D.O (fun i=>-(D.A i c)) x0 k)).map B2) rfl rfl rfl rfl (by rw [e]),trivial⟩,⟨rfl,rfl,⟨rfl,rfl,rfl,fun h=>h⟩,rfl,rfl,g9 om,trivial⟩⟩
  ·have hke:k=m:=by omega
   subst hke;conv=>whnf
   repeat' (first|refine zx ?_|apply zD<;>intro h<;>try omega)<;>conv=>whnf
   all_goals first|omega|exact N3 rfl (fun h=>h) rfl rfl (by simp [O9])
def a9p (y:Nat->Rat) (r:Nat) (p:Rat):Nat->Rat:=fun i=>if i=r then y i+p else y i
def bF0 (b:Bool) (p:Rat):rl (Y1 b p)=rl p:=by cases b;rfl;exact a39 p
def a8L (m n:Nat) (fr:LB) (D:Fd) (R:Nat) (y:Nat->Rat) (k row:Nat) (b:Bool) (p:Rat) (hk:fr[k]? =some (row,b)) (hr:row<R) (hp:rl p<=50000) (hy:rl (y row)<=50000):
 ec 298 [dT m n fr D,.c (.own 0 0 R true),eI k,frS (fz p)] [flB (rF R y)] (.tup []) [flB (rF R (a9p y row (-(Y1 b p))))]:=by
 have m1:(a1p fr).length=fr.length:=by simp [a1p]
 have eR:0+(row:Int).toNat=row:=om;have gp:(rF R y)[0+(row:Int).toNat]? =some (fz (y row)):=by rw [eR,L3 hr]
 have ng:=a8v p om;cases b with
 |true=>
  have ad:=a8E (y row) p om om;have e:D4 (flB (rF R y)) ((flB (rF R y)).rows.set (0+(row:Int).toNat) (frC (fz (y row+p))))=flB (rF R (a9p y row (-(Y1 true p)))):=by
   rw [Q4 eR,a0J hr];refine congrArg flB (F6 fun j hj=>?_);show (if j=row then y row+p else y j)=if j=row then y j+- -p else y j
   by_cases h:j=row
   ·subst h;rw [iA rfl,iA rfl,Rat.neg_neg]
   ·rw [iB h,iB h]
  refine ac Tryz.func298 ?_;conv=>whnf
  repeat' (first|refine zx ?_|refine j6 hk ?_|refine w9 gp ?_|refine bl0 [12] ?_|apply zD<;>intro h<;>try omega)<;>conv=>whnf
  all_goals first
   |omega
   |(exfalso;simp_all;done)
   |exact ⟨[some 0],rfl,rfl,⟨⟨rfl,rfl,rfl,.inl ⟨congrArg Blk.rows e,(congrArg Blk.rows e) ▸ j3 _⟩⟩,trivial⟩,trivial⟩
 |false=>
  have ad:=a8E (y row) (-p) om (by rw [a39];omega);have e:D4 (flB (rF R y)) ((flB (rF R y)).rows.set (0+(row:Int).toNat) (frC (fz (y row+-p))))=flB (rF R (a9p y row (-(Y1 false p)))):=by
   rw [Q4 eR,a0J hr];refine congrArg flB (F6 fun j hj=>?_);show (if j=row then y row+-p else y j)=if j=row then y j+-p else y j
   by_cases h:j=row
   ·subst h;rfl
   ·rw [iB h,iB h]
  refine ac Tryz.func298 ?_;conv=>whnf
  repeat' (first|refine zx ?_|refine j6 hk ?_|refine w9 gp ?_|refine bl0 [12] ?_|apply zD<;>intro h<;>try omega)<;>conv=>whnf
  all_goals first|omega|(exfalso;simp_all;done)|exact ⟨[some 0],rfl,rfl,⟨⟨rfl,rfl,rfl,.inl ⟨congrArg Blk.rows e,(congrArg Blk.rows e) ▸ j3 _⟩⟩,trivial⟩,trivial⟩
def yK (z:Nat->Rat) (f:Nat->Nat->Rat) (k:Nat):Nat->Rat:=fun i=>z i+p5 (fun j=>f j i) k
def a70 {z:Nat->Rat} {f:Nat->Nat->Rat} {k:Nat}:yK z f (k+1)=fun i=>yK z f k i+f k i:=by
 funext i;unfold yK;simp only [p5];grind
def ak0 {f:Nat->Rat} {B:Nat}:∀k:Nat,(∀ j,j<k->rl (f j)<=B)->rl (p5 f k)<=k*(B+1)+1
 |0,_=>by
  have h0:=rl0;have e:p5 f 0=0:=by simp only [p5,a1R]
  rw [e];omega
 |k+1,h=>by
  have h1:=ak0 k fun j hj=>h j om
  have h2:=h k om;have h3:=a40 (p5 f k) (f k);simp only [p5];rw [lbV];omega
def aY5 {s:m8} {w i B:Nat} {p:Rat} (h:rl p<=B) (hB:1<=B):rl (chg s w p i)<=B:=by
 unfold chg;split
 ·rw [a39,bF0];exact h
 ·have:=rl0;omega
def al2 {s:m8} {w:Nat} {p:Rat} (h:w<s.n.toNat):chg s w p=fun _=>0:=by
 funext i;unfold chg;rw [iB (fun e=>om)]
def aU6 {s:m8} {w k row:Nat} {b:Bool} {p:Rat} (hw:w=s.n.toNat+k) (hf:(j0 s)[k]? =some (row,b)) (y:Nat->Rat):a9p y row (-(Y1 b p))=fun i=>y i+chg s w p i:=by
 funext i;have e:aT1 s (w - s.n.toNat)=(row,b):=by unfold aT1;rw [show w - s.n.toNat=k by omega,lbl,hf];rfl
 unfold a9p chg;rw [e];by_cases h:i=row
 ·subst h;rw [iA rfl,iA ⟨om,rfl⟩]
 ·rw [iB h,iB (fun e=>h e.2.symm)];grind
def a90 {s:m8} {k:Nat} {f:Nat × Bool} (h:(j0 s)[k]? =some f):f.1<s.rows.length:=by
 obtain ⟨w,hw,_⟩:=X5.1 (lbm h);exact (lbe.1 hw).1
def b6A (s:m8) (n:Nat) (hn:s.n=n) (E:Fd) (hP:Z0 (j0 s).length n E) (B:Nat) (hB:∀j,j<n->rl (E.G j)<=B) (hB1:1<=B) (hBn:(n+2)*(B+2)<=50000) (hm:(j0 s).length<=100000) (hR:s.rows.length<=1000) (hn1:n<=1000):
 ec 223 [dT (j0 s).length n (j0 s) E,eI s.rows.length] [] (.c (.own 0 0 s.rows.length true)) [flB (rF s.rows.length (a3J s E))]:=by
 have m1:(Z2 n E.F).length=n:=n9 _ _;have hnn:s.n.toNat=n:=om;have z0:∀H:Hp,H.length=0->a0k Tryz.prog 289 [eI s.rows.length] H (.c (.own 0 0 s.rows.length true)) [flB (rF s.rows.length fun _=>0)]:=fun H hH=>a1I hH hR
 have eB:B<=50000:=by
  have:(n+2)*(B+2)=n*(B+2)+2*(B+2):=by rw [X0]
  omega
 obtain ⟨f,hf⟩:∃f:Nat->Nat->Rat,f=fun j=>chg s (E.F j) (-(E.G j)):=⟨_,rfl⟩
 have e9:a3J s E=yK (fun _=>0) f n:=by
  funext i;unfold a3J yK;rw [hf,hnn];grind
 rw [e9];refine ac Tryz.func223 ?_;conv=>whnf
 repeat' (first|refine zx ?_|refine .inl ⟨_,_,z0 _ rfl,?_⟩|apply zD<;>intro h<;>try omega)<;>conv=>whnf
 refine k5 g8 (fun k=>([dT (j0 s).length n (j0 s) E,J,J,J,J,S.c (C.own 0 0 s.rows.length true),J,J,J,J,J,J,J,a8B n E.F,eI n,eI k]++Jn 29,[flB (rF s.rows.length (yK (fun _=>0) f k))])) n tT [some 0] trivial
  ⟨rfl,rfl,⟨i6 (rows:=(rF s.rows.length (fun _=>0)).map B2) rfl rfl rfl rfl ?_,trivial⟩,⟨m7 rfl,⟨rfl,rfl,rfl,fun h=>h⟩,m7 rfl,g9 om,g9 rfl,trivial⟩⟩ ?_
 ·rw [F6 (g:=yK (fun _=>0) f 0) (h:=fun _=>0) fun j hj=>by unfold yK;simp only [p5,a1R];grind]
 intro k hk _;by_cases hlt:k<n
 ·have ng:=a8v (E.G k) (by have:=hB k hlt;omega);by_cases ho:E.F k<n
  ·have e:yK (fun _=>0) f (k+1)=yK (fun _=>0) f k:=by
    rw [a70,hf];funext i;have e0:chg s (E.F k) (-(E.G k)) i=0:=by rw [al2 om]
    show _+chg s (E.F k) (-(E.G k)) i=_;rw [e0];grind
   conv=>whnf
   repeat' (first|refine zx ?_|refine t6 rfl hlt ?_|apply zD<;>intro h<;>try omega)<;>conv=>whnf
   all_goals first|omega|exact ⟨hlt,trivial,[some 0],rfl,rfl,⟨i6 (rows:=(rF s.rows.length (yK (fun _=>0) f k)).map B2) rfl rfl rfl rfl (by rw [e]),trivial⟩,⟨rfl,⟨rfl,rfl,rfl,fun h=>h⟩,rfl,rfl,g9 om,trivial⟩⟩
  ·have hfb:=hP.fb k hlt;obtain ⟨q,hq⟩:∃q,E.F k=n+q:=⟨E.F k - n,om⟩;obtain ⟨⟨row,b⟩,hfr⟩:∃x,(j0 s)[q]? =some x:=⟨_,lbf om⟩;have hrow:row<s.rows.length:=a90 hfr;have by1:rl (yK (fun _=>0) f k row)<=50000:=by
    have h1:=ak0 (f:=fun j=>f j row) (B:=B) k fun j hj=>by rw [hf];exact aY5 (by rw [a39];exact hB j om) hB1
    have e:yK (fun _=>0) f k row=p5 (fun j=>f j row) k:=by unfold yK;grind
    rw [e];have:k*(B+1)<=n*(B+1):=lbU _ om;have:(n+2)*(B+2)=n*(B+1)+n+2*(B+2):=by rw [X0,show n*(B+2)=n*(B+1)+n by rw [Nat.mul_add,Nat.mul_add];omega]
    omega
   have ch:=a8L (j0 s).length n (j0 s) E s.rows.length (yK (fun _=>0) f k) q row b (-(E.G k)) hfr hrow (by rw [a39];have:=hB k hlt;omega) by1;have e:a9p (yK (fun _=>0) f k) row (-(Y1 b (-(E.G k))))=yK (fun _=>0) f (k+1):=by rw [aU6 (s:=s) (w:=E.F k) om hfr,a70,hf]
   rw [e,show ((q:Nat):Int)=(E.F k:Int) - n by omega] at ch;conv=>whnf
   repeat' (first|refine zx ?_|refine t6 rfl hlt ?_|refine a5x rfl hlt ?_|refine .inr ⟨_,_,ch,?_⟩|apply zD<;>intro h<;>try omega)<;>conv=>whnf
   all_goals first|omega|exact ⟨hlt,trivial,[some 0],rfl,rfl,⟨j8 (j3 _),trivial⟩,⟨rfl,⟨rfl,rfl,rfl,fun h=>h⟩,rfl,rfl,g9 om,trivial⟩⟩
 ·have hke:k=n:=by omega
  subst hke;conv=>whnf
  repeat' (first|refine zx ?_|apply zD<;>intro h<;>try omega)<;>conv=>whnf
  all_goals first|omega|exact ⟨[some 0],rfl,rfl,⟨j8 (j3 _),trivial⟩,⟨rfl,rfl,rfl,fun h=>h⟩⟩
def aR3 (s:m8) (n r:Nat) (hn:s.n=n) (E:Fd) (hP:Z0 (j0 s).length n E) (hr:r<(j0 s).length) (B:Nat) (hB:∀j,j<n->rl (E.A r j)<=B) (hB1:1<=B) (hBn:(n+3)*(B+2)<=50000) (hm:(j0 s).length<=100000) (hR:s.rows.length<=1000) (hn1:n<=1000):
 ec 222 [dT (j0 s).length n (j0 s) E,eI s.rows.length,eI r] [] (.c (.own 0 0 s.rows.length true)) [flB (rF s.rows.length (ag3 s E r))]:=by
 have m1:(Z2 n E.F).length=n:=n9 _ _;have hnn:s.n.toNat=n:=om;have z0:∀H:Hp,H.length=0->a0k Tryz.prog 289 [eI s.rows.length] H (.c (.own 0 0 s.rows.length true)) [flB (rF s.rows.length fun _=>0)]:=fun H hH=>a1I hH hR
 have i1:=U1 1 de de;have eBn:(n+3)*(B+2)=n*(B+1)+n+3*(B+2):=by rw [X0,show n*(B+2)=n*(B+1)+n by rw [Nat.mul_add,Nat.mul_add];omega]
 have eB:B<=50000:=om;obtain ⟨f,hf⟩:∃f:Nat->Nat->Rat,f=fun j=>chg s (E.F j) (E.A r j):=⟨_,rfl⟩
 obtain ⟨z,hz⟩:∃z:Nat->Rat,z=chg s (E.O r) 1:=⟨_,rfl⟩;have zb:∀i,rl (z i)<=B:=fun i=>by rw [hz];exact aY5 (by have:=rl1;omega) hB1
 have e9:ag3 s E r=yK z f n:=by
  funext i;unfold ag3 yK;rw [hf,hnn,hz]
 rw [e9];have hob:=hP.ob r hr;by_cases ho:E.O r<n
 ·have ez:z=fun _=>0:=by rw [hz,al2 om]
  refine ac Tryz.func222 ?_;conv=>whnf
  repeat' (first|refine zx ?_|refine .inl ⟨_,_,z0 _ rfl,?_⟩|refine t6 rfl hr ?_|apply zD<;>intro h<;>try omega)<;>conv=>whnf
  all_goals try omega
  refine k5 g8 (fun k=>([dT (j0 s).length n (j0 s) E,J,eI r,J,J,J,J,S.c (C.own 0 0 s.rows.length true)]++Jn 31++[a8B n E.F,eI n,eI k]++Jn 32,[flB (rF s.rows.length (yK z f k))])) n tT [some 0] trivial
   ⟨rfl,rfl,⟨i6 (rows:=(rF s.rows.length z).map B2) rfl rfl rfl (by rw [ez]) ?_,trivial⟩,⟨m7 rfl,g9 rfl,⟨rfl,rfl,rfl,fun h=>h⟩,m7 rfl,g9 om,g9 rfl,trivial⟩⟩ ?_
  ·rw [F6 (g:=yK z f 0) (h:=z) fun j hj=>by unfold yK;simp only [p5,a1R];grind]
  intro k hk _;by_cases hlt:k<n
  ·have ba:=hB k hlt;by_cases ho2:E.F k<n
   ·have e:yK z f (k+1)=yK z f k:=by
     rw [a70,hf];funext i;have e0:chg s (E.F k) (E.A r k) i=0:=by rw [al2 om]
     show _+chg s (E.F k) (E.A r k) i=_;rw [e0];grind
    conv=>whnf
    repeat' (first|refine zx ?_|refine t6 rfl hlt ?_|apply zD<;>intro h<;>try omega)<;>conv=>whnf
    all_goals first|omega|exact ⟨hlt,trivial,[some 0],rfl,rfl,⟨i6 (rows:=(rF s.rows.length (yK z f k)).map B2) rfl rfl rfl rfl (by rw [e]),trivial⟩,⟨rfl,rfl,⟨rfl,rfl,rfl,fun h=>h⟩,rfl,rfl,g9 om,trivial⟩⟩
   ·have hfb:=hP.fb k hlt;obtain ⟨q2,hq2⟩:∃q2,E.F k=n+q2:=⟨E.F k - n,om⟩;obtain ⟨⟨row2,b2⟩,hfr2⟩:∃x,(j0 s)[q2]? =some x:=⟨_,lbf om⟩;have hrow2:row2<s.rows.length:=a90 hfr2;have by1:rl (yK z f k row2)<=50000:=by
     have h1:=ak0 (f:=fun j=>f j row2) (B:=B) k fun j hj=>by rw [hf];exact aY5 (hB j om) hB1
     have h2:=a40 (z row2) (p5 (fun j=>f j row2) k);have h3:=zb row2;have:k*(B+1)<=n*(B+1):=lbU _ om;unfold yK;omega
    have ch2:=a8L (j0 s).length n (j0 s) E s.rows.length (yK z f k) q2 row2 b2 (E.A r k) hfr2 hrow2 om by1;have e:a9p (yK z f k) row2 (-(Y1 b2 (E.A r k)))=yK z f (k+1):=by rw [aU6 (s:=s) (w:=E.F k) om hfr2,a70,hf]
    rw [e,show ((q2:Nat):Int)=(E.F k:Int) - n by omega] at ch2;conv=>whnf
    repeat' (first|refine zx ?_|refine t6 rfl hlt ?_|refine a28 rfl hr ?_|refine a5x rfl hlt ?_|refine .inr ⟨_,_,ch2,?_⟩|apply zD<;>intro h<;>try omega)<;>conv=>whnf
    all_goals first|omega|exact ⟨hlt,trivial,[some 0],rfl,rfl,⟨j8 (j3 _),trivial⟩,⟨rfl,rfl,⟨rfl,rfl,rfl,fun h=>h⟩,rfl,rfl,g9 om,trivial⟩⟩
  ·have hke:k=n:=by omega
   subst hke;conv=>whnf
   repeat' (first|refine zx ?_|apply zD<;>intro h<;>try omega)<;>conv=>whnf
   all_goals first|omega|exact ⟨[some 0],rfl,rfl,⟨j8 (j3 _),trivial⟩,⟨rfl,rfl,rfl,fun h=>h⟩⟩
 ·obtain ⟨q,hq⟩:∃q,E.O r=n+q:=⟨E.O r - n,om⟩;obtain ⟨⟨row,b⟩,hfr⟩:∃x,(j0 s)[q]? =some x:=⟨_,lbf om⟩;have hrow:row<s.rows.length:=a90 hfr;have ch:=a8L (j0 s).length n (j0 s) E s.rows.length (fun _=>0) q row b 1 hfr hrow (by have:=rl1;omega) (by have:=rl0;omega);have e:rF s.rows.length (a9p (fun _=>0) row (-(Y1 b 1)))=rF s.rows.length z:=F6 fun j hj=>by
   rw [aU6 (s:=s) (w:=E.O r) om hfr,hz];grind
  rw [e,show ((q:Nat):Int)=(E.O r:Int) - n by omega] at ch;have ch:ec 298 [dT (j0 s).length n (j0 s) E,.c (.own 0 0 s.rows.length true),eI ((E.O r:Int) - n),frS (fz ((1:Int):Rat))] [flB (rF s.rows.length fun _=>0)] (.tup []) [flB (rF s.rows.length z)]:=ch;refine ac Tryz.func222 ?_;conv=>whnf
  repeat' (first|refine zx ?_|refine .inl ⟨_,_,z0 _ rfl,?_⟩|refine t6 rfl hr ?_|refine .inr ⟨_,_,ch,?_⟩|apply zD<;>intro h<;>try omega)<;>conv=>whnf
  all_goals try omega
  refine k5 g8 (fun k=>([dT (j0 s).length n (j0 s) E,J,eI r,J,J,J,J,S.c (C.own 0 0 s.rows.length true)]++Jn 31++[a8B n E.F,eI n,eI k]++Jn 32,[flB (rF s.rows.length (yK z f k))])) n tT [some 0] trivial
   ⟨rfl,rfl,⟨i6 (rows:=(rF s.rows.length z).map B2) rfl rfl rfl (rfl) ?_,trivial⟩,⟨m7 rfl,g9 rfl,⟨rfl,rfl,rfl,fun h=>h⟩,m7 rfl,g9 om,g9 rfl,trivial⟩⟩ ?_
  ·rw [F6 (g:=yK z f 0) (h:=z) fun j hj=>by unfold yK;simp only [p5,a1R];grind]
  intro k hk _;by_cases hlt:k<n
  ·have ba:=hB k hlt;by_cases ho2:E.F k<n
   ·have e:yK z f (k+1)=yK z f k:=by
     rw [a70,hf];funext i;have e0:chg s (E.F k) (E.A r k) i=0:=by rw [al2 om]
     show _+chg s (E.F k) (E.A r k) i=_;rw [e0];grind
    conv=>whnf
    repeat' (first|refine zx ?_|refine t6 rfl hlt ?_|apply zD<;>intro h<;>try omega)<;>conv=>whnf
    all_goals first|omega|exact ⟨hlt,trivial,[some 0],rfl,rfl,⟨i6 (rows:=(rF s.rows.length (yK z f k)).map B2) rfl rfl rfl rfl (by rw [e]),trivial⟩,⟨rfl,rfl,⟨rfl,rfl,rfl,fun h=>h⟩,rfl,rfl,g9 om,trivial⟩⟩
   ·have hfb:=hP.fb k hlt;obtain ⟨q2,hq2⟩:∃q2,E.F k=n+q2:=⟨E.F k - n,om⟩;obtain ⟨⟨row2,b2⟩,hfr2⟩:∃x,(j0 s)[q2]? =some x:=⟨_,lbf om⟩;have hrow2:row2<s.rows.length:=a90 hfr2;have by1:rl (yK z f k row2)<=50000:=by
     have h1:=ak0 (f:=fun j=>f j row2) (B:=B) k fun j hj=>by rw [hf];exact aY5 (hB j om) hB1
     have h2:=a40 (z row2) (p5 (fun j=>f j row2) k);have h3:=zb row2;have:k*(B+1)<=n*(B+1):=lbU _ om;unfold yK;omega
    have ch2:=a8L (j0 s).length n (j0 s) E s.rows.length (yK z f k) q2 row2 b2 (E.A r k) hfr2 hrow2 om by1;have e:a9p (yK z f k) row2 (-(Y1 b2 (E.A r k)))=yK z f (k+1):=by rw [aU6 (s:=s) (w:=E.F k) om hfr2,a70,hf]
    rw [e,show ((q2:Nat):Int)=(E.F k:Int) - n by omega] at ch2;conv=>whnf
    repeat' (first|refine zx ?_|refine t6 rfl hlt ?_|refine a28 rfl hr ?_|refine a5x rfl hlt ?_|refine .inr ⟨_,_,ch2,?_⟩|apply zD<;>intro h<;>try omega)<;>conv=>whnf
    all_goals first|omega|exact ⟨hlt,trivial,[some 0],rfl,rfl,⟨j8 (j3 _),trivial⟩,⟨rfl,rfl,⟨rfl,rfl,rfl,fun h=>h⟩,rfl,rfl,g9 om,trivial⟩⟩
  ·have hke:k=n:=by omega
   subst hke;conv=>whnf
   repeat' (first|refine zx ?_|apply zD<;>intro h<;>try omega)<;>conv=>whnf
   all_goals first|omega|exact ⟨[some 0],rfl,rfl,⟨j8 (j3 _),trivial⟩,⟨rfl,rfl,rfl,fun h=>h⟩⟩
def a7P (ρ:List (Option Nat)) (H:Hp):Env->Env->Prop
 |[],[]=>True
 |s::r,s'::r'=>match s' with
  |.junk=>a7P ρ H r r'
  |s'=>(a7B ρ H s s'\/VYS H (fun id=>M3 ρ id=true) s s')/\a7P ρ H r r'
 |_,_=>False
def a7P.rel {ρ:List (Option Nat)} {H:Hp}:∀{env env':Env},a7P ρ H env env'->env.length=env'.length/\∀(t:Nat) (s':S),env'[t]? =some s'->∃s,env[t]? =some s/\(a7B ρ H s s'\/VYS H (fun id=>M3 ρ id=true) s s')
 |[],[],_=>⟨rfl,zq⟩
 |s::r,s'::r',h=>by
  have h':(a7B ρ H s s'\/VYS H (fun id=>M3 ρ id=true) s s')/\a7P ρ H r r':=by
   cases s' with
   |junk=>exact ⟨.inl trivial,h⟩
   |_=>exact h
  obtain ⟨h1,h2⟩:=a7P.rel h'.2;refine ⟨by simp [h1],fun t s'' ht=>?_⟩;cases t with
  |zero=>simp at ht;subst ht;exact ⟨s,rfl,h'.1⟩
  |succ t=>simpa using h2 t s'' (by simpa using ht)
 |[],_::_,h=>h.elim
 |_::_,[],h=>h.elim
structure b8f (n0:Nat) (ρ:List (Option Nat)) (env:Env) (H:Hp) (env':Env) (H':Hp):Prop where
 k:a33 ρ n0=true
 n:Y2 ρ H'=true
 h:a4p ρ H ρ H'
 e:a7P ρ H env env'
def b8f.sim {n0:Nat} {ρ:List (Option Nat)} {env env':Env} {H H':Hp} (h:b8f n0 ρ env H env' H') {w0:World} {ι0:Io} {M0:Ms} {H0:Hp} {a:Act} {w:World} (hn:H0.length=n0) (hM0:MB w0 M0)
 (hs:Sim w0 ι0 M0 H0 a w env H):Sim w0 ι0 M0 H0 a w env' H':=by
 obtain ⟨h1,h2,h3,h4⟩:=h;obtain ⟨ι,M,hd,hsz,he,hH,hM,hF,hst⟩:=hs;obtain ⟨hel,heg⟩:=a7P.rel h4;obtain ⟨q1,q2,q3⟩:=a4p.all h1 h2 h3 hn hM0 hH hst;refine ⟨V5 ρ ι,_,hd,om,fun t s' ht=>?_,q1,fun b hb=>hM b hb.1,q2,q3⟩;obtain ⟨s,r1,r2⟩:=heg t s' ht;rcases r2 with r2|r2
 ·exact r2.rs hH (he t s r1)
 ·refine r2.rs hH (fun b hb=>hb.1) ?_ (he t s r1);intro id k b cap size hp hk hd hi hb;exact hb.2 ⟨id,k,cap,size,hp,hk,hd,hi⟩
def a0v {P:Program} {τ:Tab} (hτ:G5 P τ) {n0:Nat} {x y:Code} {env:Env} {H:Hp} {Q:AX->Env->Hp->Prop} (E2:Env) (H2:Hp)
 (h:a5M P τ n0 x env H fun a env' H'=>match a with
   |.normal=>∃ρ,b8f n0 ρ env' H' E2 H2
   |a=>Q a env' H') (h2:Awp P n0 y E2 H2 Q):Awp P n0 (.seq x y) env H Q:=by
 refine ⟨fun w0 ι0 M0 H0 a w hn hM hs=>?_⟩;refine wp_seq (wp_mono ((t4 hτ x h).out w0 ι0 M0 H0 a w hn hM hs) ?_);rintro e a' w' ⟨x,env',H',rfl,hq,hs'⟩;cases x with
 |normal=>obtain ⟨ρ,he⟩:=hq;exact h2.out w0 ι0 M0 H0 a' w' hn hM (he.sim hn hM hs')
 |exit id=>exact ⟨_,env',H',rfl,hq,hs'⟩
 |ret=>exact ⟨_,env',H',rfl,hq,hs'⟩
def b5X {P:Program} {n0:Nat} {c:Operand} {t e:Code} {env:Env} {H:Hp} {Q:AX->Env->Hp->Prop} {b:Bool} (hb:L9 env c=m9 b) (h:Awp P n0 (cond b t e) env H Q):Awp P n0 (.cond c t e) env H Q:=by
 refine ⟨fun w0 ι0 M0 H0 a w hn hM hs=>?_⟩;have hs0:=hs;obtain ⟨ι,M,hd,hsz,he,hH,hMB,hF,hst⟩:=hs;have hv:=(he.ev.to hb).inv_atm;refine wp_cond hv ?_;cases b with
 |true=>exact h.out w0 ι0 M0 H0 a w hn hM hs0
 |false=>exact h.out w0 ι0 M0 H0 a w hn hM hs0
def b9X {m n:Nat} {fr:LB} {D:Fd} {X:Hp} {p:Nat->Prop} (hp:∀i,i<m+6->p i):VY (P7 m n fr D.V D.G D.O D.F D.A X) p (.own 1 0 m true) (.sl 5 .any (af9 m n D)):=by
 refine b2W (k:=a1X 6 m n D.V) (hp _ om) rfl (fun h=>h) rfl (a79 m n D) ?_ ?_
 ·intro r hr;obtain ⟨i,_,rfl⟩:=lbx.1 hr
  rfl
 ·intro i r hi;have him:i<m:=by have:=(lbe.1 hi).1;rwa [a79] at this
  rw [ac4 him] at hi;injection hi with hi;subst hi;refine ⟨_,a4b him,?_⟩;show VYL _ _ ((B2 (fz (D.V i))).map C.t++[C.own (i+6) 0 n true]) _;have hv:VY (P7 m n fr D.V D.G D.O D.F D.A X) p (C.own (i+6) 0 n true) (T.sl 4 .any ((rF n (D.A i)).map B2)):=
   .vc (w6 (k:=flB (rF n (D.A i))) (hp _ om) (I7 (Y0 him)) (fun h=>h) rfl rfl (by simp [O9]))
  exact aR9 (ys:=[C.own (i+6) 0 n true]) (us:=[T.sl 4 .any ((rF n (D.A i)).map B2)]) (show _/\True from ⟨hv,trivial⟩)
def al0 {m n:Nat} {fr:LB} {D:Fd} {X:Hp} {p:Nat->Prop} (hp:∀i,i<m+6->p i):VY (P7 m n fr D.V D.G D.O D.F D.A X) p (.ptr 0 0 0) (.ptr (bq7 m n fr D)):=by
 refine ac9 (k:=b3M m n fr.length) (hp _ om) rfl (fun h=>h) rfl ⟨aE2,b9X hp,?_,?_,?_,?_,trivial⟩
 ·exact .vc (w6 (k:=flB (rF n D.G)) (hp _ om) rfl (fun h=>h) rfl rfl (by simp [O9]))
 ·exact .vc (w6 (k:=T7 m D.O) (hp _ om) rfl (fun h=>h) rfl rfl (by simp [n9]))
 ·exact .vc (w6 (k:=T7 n D.F) (hp _ om) rfl (fun h=>h) rfl rfl (by simp [n9]))
 ·exact .vc (w6 (k:=a2L fr) (hp _ om) rfl (fun h=>h) rfl rfl (by simp [a1p]))
abbrev bI0 (m n k:Nat):Blk:={ mode:=.live,elem:=285,size:=6,rows:=[[C.t (ti n),.own 2 0 m true,.own 3 0 n true,.own 4 0 m true,.own 5 0 n true,.own 6 0 k true]],box:=true }
abbrev bw7 (m n:Nat) (fr:LB) (D:Fd) (b:Blk):Hp:=
 b::bI0 m n fr.length::a1X 7 m n D.V::flB (rF n D.G)::T7 m D.O::T7 n D.F::a2L fr::(mF m n D.A).map flB
def b4W {N i:Nat} (h:i<N):(a4x [] 1 N).getD i 0=i+1:=by
 unfold a4x;rw [a6s,lbl,lba,lbh h];show 1+i=i+1;omega
def by3 {σ:List Nat} (ts:List T) (l:List C):a1K σ (ts.map C.t++l)=ts.map C.t++a1K σ l:=by
 rw [S5,S5,lbC,a6W]
 congr 1
def al3 {s:m8} {g:List (Int × Rat)} {n:Nat} (b:Blk) (h:ec 218 [U9 s,s6 g] [] (.c (.ptr 0 0 0)) (a1i (j0 s).length n (j0 s) (k9 s g))):
 ec 218 [U9 s,s6 g] [b] (.c (.ptr 1 0 0)) (bw7 (j0 s).length n (j0 s) (k9 s g) b):=by
 have hlen:(a1i (j0 s).length n (j0 s) (k9 s g)).length=(j0 s).length+6:=a4g;have hl:∀k ∈ a1i (j0 s).length n (j0 s) (k9 s g),k.mode=.live:=by
  intro k hk;simp only [lbA] at hk;rcases hk with rfl|rfl|rfl|rfl|rfl|rfl|hk
  ·rfl
  ·rfl
  ·rfl
  ·rfl
  ·rfl
  ·rfl
  ·obtain ⟨l,_,rfl⟩:=lbx.1 hk;rfl
 have hsub:(a1i (j0 s).length n (j0 s) (k9 s g)).length - ([]:Hp).length=(j0 s).length+6:=by rw [hlen];simp
 have g1:∀i,i<(j0 s).length+6->(a4x [] ([b]:Hp).length ((a1i (j0 s).length n (j0 s) (k9 s g)).length - ([]:Hp).length)).getD i 0=i+1:=fun i hi=>by
  rw [hsub];exact b4W hi
 refine V3 [] h rfl rfl rfl ao9 zq (fun k hk=>by rw [hl k hk];intro h;cases h) zq rfl ?_ (by rw [hsub];simp [i8];omega) ?_ ?_
 ·show S.c (.ptr 1 0 0)=S.c (.ptr _ 0 0);rw [g1 0 om]
 ·intro i k hk;have hi:i<(j0 s).length+6:=by rw [← hlen];exact (lbe.1 hk).1
  rw [g1 i hi];rcases i with _|_|_|_|_|_|i
  ·injection hk with hk;subst hk
   refine ⟨_,rfl,rfl,rfl,rfl,rfl,?_⟩;simp only [a8l,ax1,List.map_nil,a1K,a0q];rw [g1 1 om,g1 2 om,g1 3 om,g1 4 om,g1 5 om]
  ·injection hk with hk;subst hk
   refine ⟨_,rfl,rfl,rfl,rfl,rfl,?_⟩;unfold a8l;show a01 7 _ _ _=(a01 6 _ _ _).map _;unfold a01;rw [a6W];refine lbp fun j hj=>?_
   have hj:=lbB.1 hj;show _=a1K _ ((B2 (fz ((k9 s g).V j))).map C.t++[C.own (j+6) 0 n true]);rw [by3];simp only [a1K,a0q];rw [g1 (j+6) om]
   rfl
  ·injection hk with hk;subst hk;exact ⟨_,rfl,E0 rfl⟩
  ·injection hk with hk;subst hk;exact ⟨_,rfl,E0 rfl⟩
  ·injection hk with hk;subst hk;exact ⟨_,rfl,E0 rfl⟩
  ·injection hk with hk;subst hk;exact ⟨_,rfl,E0 rfl⟩
  ·have hk:((mF (j0 s).length n (k9 s g).A).map flB)[i]? =some k:=hk;refine ⟨k,hk,?_⟩;obtain ⟨l,_,rfl⟩:=lbx.1 (lbm hk);exact E0 rfl
 ·intro j hj _;have:j=0:=by simpa using hj
  subst this;rfl
def fS (m:Nat):Nat->Nat:=fun i=>if i<m+6 then i+1 else 0
def a9g {m n:Nat} {fr:LB} {D:Fd} {b:Blk} {env env':Env} {H:Hp} (hb:L4 b.rows) (hH:H=bw7 m n fr D b) (hE:a0p (fR (m+7) (fS m)) H env env'):
 Ent 0 (fR (m+7) (fS m)) env H env' (P7 m n fr D.V D.G D.O D.F D.A [b]):=by
 subst hH;have fa:∀i,i<m+6->fS m i=i+1:=fun i hi=>by unfold fS;rw [iA hi]
 refine aa2 zV om (fun i hi=>om) (fun i j hi hj h=>by unfold fS at h;(repeat' split at h)<;>omega) ?_ hE;intro i k' hk;rcases i with _|_|_|_|_|_|i
 ·injection hk with hk;subst hk
  rw [fa 0 om];exact ⟨_,rfl,rfl,rfl,rfl,.inr ⟨⟨rfl,⟨by rw [z7 om,fa _ om],rfl,rfl,fun h=>h⟩,⟨by rw [z7 om,fa _ om],rfl,rfl,fun h=>h⟩,⟨by rw [z7 om,fa _ om],rfl,rfl,fun h=>h⟩,⟨by rw [z7 om,fa _ om],rfl,rfl,fun h=>h⟩,⟨by rw [z7 om,fa _ om],rfl,rfl,fun h=>h⟩,trivial⟩,trivial⟩⟩
 ·injection hk with hk;subst hk
  rw [fa 1 om];refine ⟨_,rfl,a3c (h:=fun i=>i+7) (h':=fun i=>i+6) fun j hj=>?_⟩;rw [z7 om,fa _ om]
 ·injection hk with hk;subst hk;rw [fa 2 om];exact ⟨_,rfl,j8 (j3 _)⟩
 ·injection hk with hk;subst hk;rw [fa 3 om];exact ⟨_,rfl,j8 (j3 _)⟩
 ·injection hk with hk;subst hk;rw [fa 4 om];exact ⟨_,rfl,j8 (j3 _)⟩
 ·injection hk with hk;subst hk;rw [fa 5 om];exact ⟨_,rfl,j8 (j3 _)⟩
 ·have hk:((mF m n D.A).map flB++[b])[i]? =some k':=hk;by_cases hi:i<m
  ·rw [I7 (Y0 hi)] at hk;injection hk with hk;subst hk
   rw [fa _ om];refine ⟨flB (rF n (D.A i)),?_,j8 (j3 _)⟩;show ((mF m n D.A).map flB)[i]? =_;rw [lba,Y0 hi];rfl
  ·obtain ⟨t,rfl⟩:∃t,i=m+t:=⟨i - m,om⟩;rw [a2Q (i8 _ _ _)] at hk;rcases t with _|t
   ·injection hk with hk;subst hk
    have:fS m (m+0+6)=0:=by unfold fS;rw [iB om]
    rw [this];exact ⟨_,rfl,j8 hb⟩
   ·simp at hk
def a7n {m n:Nat} {fr:LB} {D E:Fd} {r:S} (X:Hp) (hr:ay8 r=true) (hr':r.isT=true) (h:ec 219 [.c (.ptr 0 0 0)] (a1i m n fr D) r (a1i m n fr E)):
 ec 219 [.c (.ptr 0 0 0)] (P7 m n fr D.V D.G D.O D.F D.A X) r (P7 m n fr E.V E.G E.O E.F E.A X):=by
 have hl:∀{D:Fd},∀k ∈ a1i m n fr D,k.mode=.live/\k.app=false:=by
  intro D k hk;simp only [lbA] at hk;rcases hk with rfl|rfl|rfl|rfl|rfl|rfl|hk
  ·exact rz
  ·exact rz
  ·exact rz
  ·exact rz
  ·exact rz
  ·exact rz
  ·obtain ⟨l,_,rfl⟩:=lbx.1 hk;exact rz
 exact a3H (n:=m+6) X h a4g a4g (by simp [okS,okC,a19]) (fun k hk=>⟨(hl k hk).1,(hl k hk).2,a9h k hk⟩) (fun k hk=>⟨(by rw [(hl k hk).1];intro h;cases h),a9h k hk⟩) hr hr'
def b1b (l:List (Int × Rat)) (z:List Rat) (hl:l.length<=1000000) (h1:∀t ∈ l,rl t.2<=20000) (h2:∀v ∈ z,rl v<=40000) (hS:∀k,rl (n8 (l.take k) z)<=60000) (hz:z.length<=1000000) (hr:n7 (-1) z.length l=true):
 ec 208 [s6 l,H5 (z.map fz)] [] (frS (fz (n8 l z))) []:=by
 have m1:(l.map B8).length=l.length:=zq;have m2:((z.map fz).map B2).length=z.length:=zq;have i0:=U1 0 de de;refine ac Tryz.func208 ?_;conv=>whnf
 repeat' (first|refine zx ?_|apply zD<;>intro<;>try omega)<;>conv=>whnf
 refine k5 g8 (fun k=>([J,H5 (z.map fz),J,J,sP 0 0 0,sP 1 0 0,J,J,J,J,J,s6 l,eI l.length,eI k]++Jn 22,[frB a0z,frB (fz (n8 (l.take k) z))])) l.length tT [some 0,some 1] trivial
  ⟨rfl,rfl,⟨⟨rfl,rfl,rfl,.inr rz⟩,⟨rfl,rfl,rfl,.inl ⟨rfl,a47 _⟩⟩,trivial⟩,⟨rfl,rz,rz,rfl,g9 zq,rz⟩⟩ ?_
 intro k hk _;by_cases hlt:k<l.length
 ·obtain ⟨t,ht⟩:∃t,l[k]? =some t:=⟨_,lbf hlt⟩;obtain ⟨v,c⟩:=t;have hv:=ab6 hr _ (lbm ht);simp only at hv;have bc:=h1 _ (lbm ht);simp only at bc;obtain ⟨x,hx⟩:∃x,z[v.toNat]? =some x:=⟨_,lbf om⟩;have hxd:z.getD v.toNat 0=x:=by rw [lbl,hx];rfl
  have bx:=h2 x (lbm hx);have b3:=aW5 c x;have bs:=hS k;have mu:=b3k c x om om;have ad:=a8E (n8 (l.take k) z) (c*x) om om;have e:n8 (l.take k) z+c*x=n8 (l.take (k+1)) z:=by
   have:l.take (k+1)=l.take k++[(v,c)]:=by rw [lbG,ht];rfl
   rw [this,K8,←hxd]
  rw [e] at ad;have xz:(z.map fz)[v.toNat]? =some (fz x):=by rw [lba,hx];rfl
  conv=>whnf
  repeat' (first|refine zx ?_|refine j6 ht ?_|refine K3 om xz ?_|refine bl0 [10] ?_|refine bl0 [5] ?_|apply zD<;>intro<;>try omega)<;>conv=>whnf
  all_goals first|omega|exact ⟨hlt,trivial,[some 0,some 1],rfl,rfl,⟨⟨rfl,rfl,rfl,.inl ⟨rfl,a47 _⟩⟩,⟨rfl,rfl,rfl,.inl ⟨rfl,a47 _⟩⟩,trivial⟩,rz⟩
 ·have hke:k=l.length:=by omega
  subst hke;rw [lbn (lbR _)];conv=>whnf
  repeat' (first|refine zx ?_|apply zD<;>intro<;>try omega)<;>conv=>whnf
  all_goals first|omega|exact bL5 rfl
def aa8 (z:List Rat):(z.map fz).all V8=true:=by
 rw [lbv];intro f hf;obtain ⟨x,_,rfl⟩:=lbx.1 hf;exact ao1 x
def b8J (l:List (Int × Rat)) (z:List Rat) (hl:l.length<=1000000) (h1:∀t ∈ l,rl t.2<=200) (h2:∀v ∈ z,rl v<=40000) (hS:∀k,rl (n8 (l.take k) z)<=60000) (hz:z.length<=1000000) (hr:n7 (-1) z.length l=true):
 ec 151 [s6 l,H5 (z.map fz)] [] (.tup [frS (fz (n8 l z)),m9 true]) []:=by
 have m2:((z.map fz).map B2).length=z.length:=zq;have rt:=a0e l z.length hl h1;rw [lbH om,hr] at rt;have pt:=b4y (z.map fz) (by simpa using hz) (fun f hf=>by
  obtain ⟨x,hx,rfl⟩:=lbx.1 hf;have:=h2 x hx;have a:=K6 x;have b:=J9 x;exact ⟨by show bl x.num<=_;omega,by show bl x.den<=_;omega⟩)
 rw [aa8] at pt;have va:=b1b l z hl (fun t ht=>by have:=h1 t ht;omega) h2 hS hz hr;have rt2:ec 153 [s6 l,eI (((z.map fz).map B2).length:Nat)] [] (m9 (true && true)) []:=by rw [m2];exact rt
 refine ac Tryz.func151 ?_;conv=>whnf
 repeat' (first|refine zx ?_|apply zD<;>intro<;>try omega)<;>conv=>whnf
 all_goals first|(exfalso;simp_all;done)|exact p7 rz
structure I3 (s:m8) (g:List (Int × Rat)) (n B:Nat):Prop where
 o:br7 s g n
 sb:b23 s
 gb:∀t ∈ g,rl t.2<=200
 bd:∀D,O8 (j0 s).length n (k9 s g) D->BdD (j0 s).length n B D
 b1:1<=B
 bn:(n+3)*(B+2)<=50000
 r:s.rows.length<=1000
def I3.nn {s:m8} {g:List (Int × Rat)} {n B:Nat} (h:I3 s g n B):s.n.toNat=n:=by have:=h.o.en;omega
def I3.bb {s:m8} {g:List (Int × Rat)} {n B:Nat} (h:I3 s g n B):B<=17000:=by
 have h1:=h.bn;have:(n+3)*(B+2)=n*(B+2)+3*(B+2):=by rw [X0]
 omega
def I3.m {s:m8} {g:List (Int × Rat)} {n B:Nat} (h:I3 s g n B):(j0 s).length<=2000:=by
 have:=a0W (s:=s) s.rows.length;have:=h.r;show (J4 s s.rows.length).length<=_;omega
abbrev bO (cells:List C):Blk:={ mode:=.live,elem:=174,size:=8,rows:=[cells],box:=true }
abbrev z8:List C:=[.t (ti 0),.t (ti 0),.t (.sl 0 .nil []),.t (ti 0),.t (.sl 0 .nil []),.t (.sl 0 .nil []),.t (.sl 0 .nil []),.t (.sl 0 .nil [])]
def a4e:L4 (bO z8).rows:=j3 [[ti 0,ti 0,.sl 0 .nil [],ti 0,.sl 0 .nil [],.sl 0 .nil [],.sl 0 .nil [],.sl 0 .nil []]]
def a2p {s:m8} {g:List (Int × Rat)} {n B:Nat} (h:I3 s g n B):
 ec 219 [.c (.ptr 0 0 0)] (a1i (j0 s).length n (j0 s) (k9 s g)) (.tup [eI (a6U (H9 s g)).1,eI (a6U (H9 s g)).2]) (a1i (j0 s).length n (j0 s) (F5 s g)):=by
 have hn:=h.nn;subst hn;have hm:=h.m;exact b80 _ _ (j0 s) (k9 s g) _ om h.o.n1 U0 (fun D hD=>by
  have hb:=h.bd D hD;have hB:=h.bb;exact ⟨fun i hi=>by have:=hb.v i hi;omega,fun i hi j hj=>by have:=hb.a i hi j hj;omega,fun j hj=>by have:=hb.g j hj;omega⟩)
def a8m {s:m8} {g:List (Int × Rat)} {n B:Nat} (h:I3 s g n B):(s8 s g).length=n:=by unfold s8;rw [ak9];exact h.nn
def ah4 {s:m8} {g:List (Int × Rat)} {n B:Nat} (h:I3 s g n B):ec 220 [dT (j0 s).length n (j0 s) (F5 s g)] [] (H5 ((s8 s g).map fz)) []:=by
 have hn:=h.nn;subst hn;exact b9Q _ _ _ _ U7.p (by have:=h.m;omega) h.o.n1
def ad9 {s:m8} {g:List (Int × Rat)} {n B:Nat} (h:I3 s g n B):BdD (j0 s).length n B (F5 s g):=by
 have hn:=h.nn;subst hn;exact h.bd _ (a3o U0).1
def aQ0 {s:m8} {g:List (Int × Rat)} {n B:Nat} (h:I3 s g n B) (H:Hp):a0k Tryz.prog 223 [dT (j0 s).length n (j0 s) (F5 s g),eI s.rows.length] H (.c (.own H.length 0 s.rows.length true)) [flB (rF s.rows.length (a3J s (F5 s g)))]:=by
 have hb:=ad9 h;have hp:Z0 (j0 s).length n (F5 s g):=by have hn:=h.nn;subst hn;exact U7.p
 refine a1x (b6A s n h.o.en (F5 s g) hp B hb.g h.b1 ?_ (by have:=h.m;omega) h.r h.o.n1) rfl rfl (j3 _);have:=h.bn;have:(n+3)*(B+2)=(n+2)*(B+2)+(B+2):=by rw [show n+3=(n+2)+1 by omega,lbV]
 omega
def X8 {i m:Nat} (h:i<m):M3 [some m] i=true:=by
 unfold M3;have:Nat.beq m i=false:=by
  cases hb:Nat.beq m i with
  |false=>rfl
  |true=>have:=a1m hb;omega
 rw [this];rfl
def aN3 {m n:Nat} {fr:LB} {D:Fd} {env env':Env} (b:Blk) (hb:L4 b.rows) (hE:a7P [some (m+6)] (P7 m n fr D.V D.G D.O D.F D.A [b]) env env'):b8f 0 [some (m+6)] env (P7 m n fr D.V D.G D.O D.F D.A [b]) env' [b]:=by
 refine ⟨rfl,?_,a3L rfl fun i k' hk=>?_,hE⟩
 ·simp only [Y2,a5P];cases b.mode<;>rfl
 ·rcases i with _|i
  ·injection hk with hk;subst hk
   exact ⟨m+6,_,rfl,a2Q (t:=0) (i8 _ _ _),j8 hb⟩
  ·simp at hk
def a51 (s:m8) (g:List (Int × Rat)) (n B:Nat) (h:I3 s g n B) (hout:H9 s g=.best) (hS:∀k,rl (n8 (g.take k) (s8 s g))<=60000) (hpt:∀v ∈ s8 s g,rl v<=40000):
 ec 141 [U9 s,s6 g] [] (.tup [.agg (C.t (ti 0)::frC (fz (n8 g (s8 s g)))++[.t (U4 ((s8 s g).map fz)),.own 0 0 s.rows.length true,.t (.sl 0 .nil [])]),eI 0]) [flB (rF s.rows.length (a3J s (F5 s g)))]:=by
 have hn:=h.nn;have hm:=h.m;have hr1:=h.r;have hgl:=D9 h.o.tg;have hn1:=h.o.n1;have lr:=a8T s h.sb;rw [h.o.r] at lr;have rt:=a0e g s.n (by have:=h.o.n1;omega) h.gb;rw [h.o.en,lbH om,h.o.tg,←h.o.en] at rt;have op:=al3 (bO z8) (aR7 s g n h.o);have se:=a2p h;rw [hout] at se;have m1:(s.rows.map v5).length=s.rows.length:=zq;have pt:=ah4 h;have va:=b8J g (s8 s g) om h.gb hpt hS (by rw [a8m h];omega) (by rw [a8m h];exact h.o.tg);have pr:∀H:Hp,a0k Tryz.prog 223 [dT (j0 s).length n (j0 s) (F5 s g),eI ((s.rows.map v5).length:Nat)] H (.c (.own H.length 0 s.rows.length true)) [flB (rF s.rows.length (a3J s (F5 s g)))]:=by rw [m1];exact aQ0 h
 (refine O3 g8 Tryz.func141 rfl de ?_;refine w8 g8 ?_;(conv=>whnf);repeat ((first|refine b0x ?_|refine zy ?_);conv=>whnf))
 repeat' (first|refine zz ?_|refine b0x ?_|apply zD<;>intro h<;>try omega|refine zy ?_|fail)<;>conv=>whnf
 (refine w8 g8 ?_;conv=>whnf)
 repeat' (first|refine zx ?_|apply zD<;>intro h<;>try omega)<;>conv=>whnf
 all_goals try (exfalso;simp_all;done)
 refine B3 g8 ([J,s6 g,S.c (C.t (T.ptr (a0X s))),J,S.c (C.ptr ((j0 s).length+6) 0 0),eI 0,sP 0 0 0]++Jn 71) (P7 (j0 s).length n (j0 s) (k9 s g).V (k9 s g).G (k9 s g).O (k9 s g).F (k9 s g).A [bO z8]) ?_ ?_
 ·conv=>whnf
  repeat' (first|refine zx ?_|refine .inr ⟨_,_,op,?_⟩|refine G2 ?_|apply zD<;>intro h<;>try omega)<;>conv=>whnf
  exact ⟨_,a9g a4e rfl ⟨rfl,m7 rfl,⟨by rw [z7 om];simp [fS],rz⟩,rfl,⟨by rw [z7 om];simp [fS],rz⟩,trivial⟩⟩
 refine a0v g8 ([J,s6 g,S.c (C.t (T.ptr (a0X s))),J,sP 0 0 0,eI 0,dT (j0 s).length n (j0 s) (F5 s g),eI (-1),eI (-1)]++Jn 69) [bO z8] ?_ ?_
 ·have si:=a7n [bO z8] rfl rfl se;conv=>whnf
  repeat' (first|refine zx ?_|refine .inr ⟨_,_,si,?_⟩|refine i7 ?_|refine bl0 [4] ?_|apply zD<;>intro h<;>try omega)<;>conv=>whnf
  exact ⟨_,aN3 (bO z8) a4e ⟨.inl (m7 rfl),.inl (m7 rfl),.inl rz,.inl rfl,.inr (al0 fun i hi=>X8 hi),.inl rfl,.inl rfl,trivial⟩⟩
 (refine w8 g8 ?_;conv=>whnf)
 repeat' (first|refine zx ?_|apply zD<;>intro h<;>try omega)<;>conv=>whnf
 all_goals try omega
 (refine w8 g8 ?_;conv=>whnf)
 repeat' (first|refine zx ?_|apply zD<;>intro h<;>try omega)<;>conv=>whnf
 all_goals try omega
 (refine w8 g8 ?_;conv=>whnf)
 repeat' (first|refine zx ?_|apply zD<;>intro h<;>try omega)<;>conv=>whnf
 (refine w8 g8 ?_;conv=>whnf)
 repeat' (first|refine zx ?_|refine bl0 [4] ?_|refine bl0 [5] ?_|apply zD<;>intro h<;>try omega)<;>conv=>whnf
 (refine w8 g8 ?_;conv=>whnf)
 repeat' (first|refine zx ?_|refine .inl ⟨_,_,pr _,?_⟩|apply zD<;>intro h<;>try omega)<;>conv=>whnf
 refine t4 g8 _ ?_;conv=>whnf
 repeat' (first|refine zx ?_|apply zD<;>intro h<;>try omega)<;>conv=>whnf
 exact ⟨[some 2],rfl,rfl,⟨j8 (j3 _),trivial⟩,⟨⟨rfl,rfl,rfl,rfl,rfl,rfl,⟨rfl,rfl,rfl,fun h=>h⟩,rz⟩,rz⟩⟩
def a7Y {P:Program} {g:FuncId} {args args':List S} {H H':Hp} {r:S} (h:e8 P g args' H r H') (hl:args.length=args'.length)
 (hw:∀(w:World) (ι:Io) (M:Ms) (j:Nat) (s s':S) (v:Value),args[j]? =some s->args'[j]? =some s'->RS w ι M s v->RS w ι M s' v):e8 P g args H r H':=by
 refine ⟨h.1,fun w ι M vals hl2 hv hH hM hf=>h.2 w ι M vals om (fun j s' hj=>?_) hH hM hf⟩;have hlt:=(lbe.1 hj).1;exact hw w ι M j _ s' _ (lbf om) hj (hv j _ (lbf om))
def b7z {s:m8} {n:Nat} (b:Blk) (h:ec 218 [U9 s,s6 []] [] (.c (.ptr 0 0 0)) (a1i (j0 s).length n (j0 s) (k9 s []))):
 ec 218 [U9 s,.c (.t (.sl 0 .nil []))] [b] (.c (.ptr 1 0 0)) (bw7 (j0 s).length n (j0 s) (k9 s []) b):=by
 refine a7Y (al3 b h) rfl fun w ι M j x y v hx hy hr=>?_
 rcases j with _|_|j
 ·injection hx with hx;injection hy with hy;subst hx hy;exact hr
 ·injection hx with hx;injection hy with hy;subst hx hy
  cases hr with
  |c hr=>cases hr with
   |t hr=>exact .c (.t (hr.weak rfl))
 ·simp at hx
def ab8 {s:m8} {g:List (Int × Rat)} {n B r:Nat} (h:I3 s g n B) (hr:r<(j0 s).length) (H:Hp):a0k Tryz.prog 222 [dT (j0 s).length n (j0 s) (F5 s g),eI s.rows.length,eI r] H (.c (.own H.length 0 s.rows.length true)) [flB (rF s.rows.length (ag3 s (F5 s g) r))]:=by
 have hb:=ad9 h;have hp:Z0 (j0 s).length n (F5 s g):=by have hn:=h.nn;subst hn;exact U7.p
 exact a1x (aR3 s n r h.o.en (F5 s g) hp hr B (hb.a r hr) h.b1 h.bn (by have:=h.m;omega) h.r h.o.n1) rfl rfl (j3 _)
def b6s {s:m8} {g:List (Int × Rat)} {n B c:Nat} (h:I3 s g n B) (hc:c<n):ec 221 [dT (j0 s).length n (j0 s) (F5 s g),eI c] [] (H5 ((a6p s g c).map fz)) []:=by
 have hb:=ad9 h;have hB:=h.bb;have hn:=h.nn;subst hn;exact bz4 _ _ _ _ c hc U7.p (by have:=h.m;omega) h.o.n1 (fun i hi=>by have:=hb.a i hi c hc;omega)
abbrev bD6:List C:=frC a0z
def b0l (s:m8) (g:List (Int × Rat)) (n B r:Nat) (h:I3 s g n B) (hout:H9 s g=.row r):
 ec 141 [U9 s,s6 g] [] (.tup [.agg (C.t (ti 1)::bD6++[.t (.sl 0 .nil []),.own 0 0 s.rows.length true,.t (.sl 0 .nil [])]),eI 0]) [flB (rF s.rows.length (ag3 s (F5 s g) r))]:=by
 have hn:=h.nn;have hm:=h.m;have hr1:=h.r;have hgl:=D9 h.o.tg;have hn1:=h.o.n1;have hrm:r<(j0 s).length:=by have:=(a9G hout).1;exact this
 have lr:=a8T s h.sb;rw [h.o.r] at lr;have rt:=a0e g s.n (by have:=h.o.n1;omega) h.gb;rw [h.o.en,lbH om,h.o.tg,←h.o.en] at rt;have op:=al3 (bO z8) (aR7 s g n h.o);have se:=a2p h;rw [hout] at se;have m1:(s.rows.map v5).length=s.rows.length:=zq;have rf:∀H:Hp,a0k Tryz.prog 222 [dT (j0 s).length n (j0 s) (F5 s g),eI ((s.rows.map v5).length:Nat),eI r] H (.c (.own H.length 0 s.rows.length true)) [flB (rF s.rows.length (ag3 s (F5 s g) r))]:=by rw [m1];exact ab8 h hrm
 (refine O3 g8 Tryz.func141 rfl de ?_;refine w8 g8 ?_;(conv=>whnf);repeat ((first|refine b0x ?_|refine zy ?_);conv=>whnf))
 repeat' (first|refine zz ?_|refine b0x ?_|apply zD<;>intro h<;>try omega|refine zy ?_|fail)<;>conv=>whnf
 (refine w8 g8 ?_;conv=>whnf)
 repeat' (first|refine zx ?_|apply zD<;>intro h<;>try omega)<;>conv=>whnf
 all_goals try (exfalso;simp_all;done)
 refine B3 g8 ([J,s6 g,S.c (C.t (T.ptr (a0X s))),J,S.c (C.ptr ((j0 s).length+6) 0 0),eI 0,sP 0 0 0]++Jn 71) (P7 (j0 s).length n (j0 s) (k9 s g).V (k9 s g).G (k9 s g).O (k9 s g).F (k9 s g).A [bO z8]) ?_ ?_
 ·conv=>whnf
  repeat' (first|refine zx ?_|refine .inr ⟨_,_,op,?_⟩|refine G2 ?_|apply zD<;>intro h<;>try omega)<;>conv=>whnf
  exact ⟨_,a9g a4e rfl ⟨rfl,m7 rfl,⟨by rw [z7 om];simp [fS],rz⟩,rfl,⟨by rw [z7 om];simp [fS],rz⟩,trivial⟩⟩
 refine a0v g8 ([J,s6 g,S.c (C.t (T.ptr (a0X s))),J,sP 0 0 0,eI 0,dT (j0 s).length n (j0 s) (F5 s g),eI r,eI (-1)]++Jn 69) [bO z8] ?_ ?_
 ·have si:=a7n [bO z8] rfl rfl se;conv=>whnf
  repeat' (first|refine zx ?_|refine .inr ⟨_,_,si,?_⟩|refine i7 ?_|refine bl0 [4] ?_|apply zD<;>intro h<;>try omega)<;>conv=>whnf
  exact ⟨_,aN3 (bO z8) a4e ⟨.inl (m7 rfl),.inl (m7 rfl),.inl rz,.inl rfl,.inr (al0 fun i hi=>X8 hi),.inl rfl,.inl rfl,trivial⟩⟩
 (refine w8 g8 ?_;conv=>whnf)
 repeat' (first|refine zx ?_|apply zD<;>intro h<;>try omega)<;>conv=>whnf
 all_goals try omega
 (refine w8 g8 ?_;conv=>whnf)
 repeat' (first|refine zx ?_|refine .inl ⟨_,_,rf _,?_⟩|apply zD<;>intro h<;>try omega)<;>conv=>whnf
 all_goals first|omega|exact ⟨[some 1],rfl,rfl,⟨j8 (j3 _),trivial⟩,⟨⟨rfl,rfl,rfl,rfl,rfl,rfl,⟨rfl,rfl,rfl,fun h=>h⟩,rz⟩,rz⟩⟩
def b5l {P:Program} {n0:Nat} {c:Operand} {t e:Code} {env:Env} {H:Hp} {Q:AX->Env->Hp->Prop} (hb:L9 env c=m9 true) (h:Awp P n0 t env H Q):Awp P n0 (.cond c t e) env H Q:=b5X hb h
def aR4 (s:m8) (g:List (Int × Rat)) (n B B0 c:Nat) (h:I3 s g n B) (h0:I3 s [] n B0) (hout:H9 s g=.col c) (hout0:H9 s []=.best):
 ec 141 [U9 s,s6 g] [] (.tup [.agg (C.t (ti 2)::bD6++[.t (U4 ((s8 s []).map fz)),.t (.sl 0 .nil []),.t (U4 ((a6p s g c).map fz))]),eI 0]) []:=by
 have hn:=h.nn;have hm:=h.m;have hr1:=h.r;have hgl:=D9 h.o.tg;have hn1:=h.o.n1;have hcn:c<n:=by have:=(a6V hout).1;omega
 have lr:=a8T s h.sb;rw [h.o.r] at lr;have rt:=a0e g s.n (by have:=h.o.n1;omega) h.gb;rw [h.o.en,lbH om,h.o.tg,←h.o.en] at rt;have op:=al3 (bO z8) (aR7 s g n h.o);have se:=a2p h;rw [hout] at se;have op0:=b7z (bO z8) (aR7 s [] n h0.o);have se0:=a2p h0;rw [hout0] at se0;have m1:(s.rows.map v5).length=s.rows.length:=zq;have pt:=ah4 h0;have ra:=b6s h hcn
 (refine O3 g8 Tryz.func141 rfl de ?_;refine w8 g8 ?_;(conv=>whnf);repeat ((first|refine b0x ?_|refine zy ?_);conv=>whnf))
 repeat' (first|refine zz ?_|refine b0x ?_|apply zD<;>intro h<;>try omega|refine zy ?_|fail)<;>conv=>whnf
 (refine w8 g8 ?_;conv=>whnf)
 repeat' (first|refine zx ?_|apply zD<;>intro h<;>try omega)<;>conv=>whnf
 all_goals try (exfalso;simp_all;done)
 refine B3 g8 ([J,s6 g,S.c (C.t (T.ptr (a0X s))),J,S.c (C.ptr ((j0 s).length+6) 0 0),eI 0,sP 0 0 0]++Jn 71) (P7 (j0 s).length n (j0 s) (k9 s g).V (k9 s g).G (k9 s g).O (k9 s g).F (k9 s g).A [bO z8]) ?_ ?_
 ·conv=>whnf
  repeat' (first|refine zx ?_|refine .inr ⟨_,_,op,?_⟩|refine G2 ?_|apply zD<;>intro h<;>try omega)<;>conv=>whnf
  exact ⟨_,a9g a4e rfl ⟨rfl,m7 rfl,⟨by rw [z7 om];simp [fS],rz⟩,rfl,⟨by rw [z7 om];simp [fS],rz⟩,trivial⟩⟩
 refine a0v g8 ([J,s6 g,S.c (C.t (T.ptr (a0X s))),J,sP 0 0 0,eI 0,dT (j0 s).length n (j0 s) (F5 s g),eI (-1),eI c]++Jn 69) [bO z8] ?_ ?_
 ·have si:=a7n [bO z8] rfl rfl se;conv=>whnf
  repeat' (first|refine zx ?_|refine .inr ⟨_,_,si,?_⟩|refine i7 ?_|refine bl0 [4] ?_|apply zD<;>intro h<;>try omega)<;>conv=>whnf
  exact ⟨_,aN3 (bO z8) a4e ⟨.inl (m7 rfl),.inl (m7 rfl),.inl rz,.inl rfl,.inr (al0 fun i hi=>X8 hi),.inl rfl,.inl rfl,trivial⟩⟩
 refine a9a ?_;refine w8 g8 ?_;conv=>whnf
 repeat' (first|refine zx ?_|apply zD<;>intro h<;>try omega)<;>conv=>whnf
 all_goals try omega
 refine b5l rfl ?_;refine B3 g8 ([J,s6 g,S.c (C.t (T.ptr (a0X s))),J,S.c (C.ptr ((j0 s).length+6) 0 0),eI 0,dT (j0 s).length n (j0 s) (F5 s g),eI (-1),eI c,sP 0 0 0]++Jn 68) (P7 (j0 s).length n (j0 s) (k9 s []).V (k9 s []).G (k9 s []).O (k9 s []).F (k9 s []).A [bO z8]) ?_ ?_
 ·conv=>whnf
  repeat' (first|refine zx ?_|refine .inr ⟨_,_,op0,?_⟩|refine G2 ?_|apply zD<;>intro h<;>try omega)<;>conv=>whnf
  exact ⟨_,a9g a4e rfl ⟨rfl,m7 rfl,⟨by rw [z7 om];simp [fS],rz⟩,rfl,m7 rfl,rfl,rfl,⟨by rw [z7 om];simp [fS],rz⟩,trivial⟩⟩
 refine a0v g8 ([J,s6 g,S.c (C.t (T.ptr (a0X s))),J,sP 0 0 0,eI 0,dT (j0 s).length n (j0 s) (F5 s g),eI (-1),eI c,dT (j0 s).length n (j0 s) (F5 s []),eI (-1),eI (-1)]++Jn 66) [bO z8] ?_ ?_
 ·have si:=a7n [bO z8] rfl rfl se0;conv=>whnf
  repeat' (first|refine zx ?_|refine .inr ⟨_,_,si,?_⟩|refine i7 ?_|refine bl0 [4] ?_|apply zD<;>intro h<;>try omega)<;>conv=>whnf
  exact ⟨_,aN3 (bO z8) a4e ⟨.inl (m7 rfl),.inl (m7 rfl),.inl rz,.inl rfl,.inl (m7 rfl),.inl rfl,.inl rfl,.inr (al0 fun i hi=>X8 hi),.inl rfl,.inl rfl,trivial⟩⟩
 refine t4 g8 _ ?_;conv=>whnf
 repeat' (first|refine zx ?_|apply zD<;>intro h<;>try omega)<;>conv=>whnf
 all_goals first|omega|exact ⟨[],rz⟩
def bj9 (e:Ev) (hs:e.Sized) (n:Int) (g:FuncId) (caps:List T) (q:C6->Bool) (hg:∀(k:Nat) (m:C6),e.moves[k]? =some m->I1 e=0->ec g (b5c m::caps.map fun x=>.c (.t x)) [] (m9 (q m)) []):
 ec 144 [evS e,eI n,.c (.t (.fn (.func g) caps))] [] (j7 (if I1 e=0 then B6 (fun k m=>decide ((k:Int)<n) && q m) 0 e.moves else [])) []:=by
 have l1:=hs.s2;have l2:(e.moves.map C6.row).length=e.moves.length:=zq;refine ac Tryz.func144 ?_;conv=>whnf
 repeat' (first|refine zx ?_|refine qp (b4O _ hs) ?_|apply zD<;>intro h<;>try omega)<;>conv=>whnf
 ·refine p7 ?_;rw [iB h];exact rfl
 have h0:I1 e=0:=om;rw [iA h0]
 let P:Nat->C6->Bool:=fun k m=>decide ((k:Int)<n) && q m
 refine k5 g8 (fun k=>([J,eI n,S.c (C.t (T.fn (.func g) caps)),sP 0 0 0,J,J,J,a1D 1 (V7 P e.moves k),J,J,J,J,J,J,S.c (C.t (a5i e.moves)),eI e.moves.length,eI k]++Jn 18,[evB e,w7 (V7 P e.moves k)])) e.moves.length (fun k=>True) [some 0,none] trivial
  ⟨rfl,rfl,⟨⟨rfl,rfl,rfl,.inl ⟨rfl,E6 e⟩⟩,rz⟩,⟨rfl,rfl,rz,rz,m7 rfl,g9 zq,g9 rfl,trivial⟩⟩ ?_
 intro k hk hI;conv=>whnf
 repeat' (first|refine zx ?_|apply zD<;>intro h<;>try omega)<;>conv=>whnf
 ·have hlt:k<e.moves.length:=by omega
  obtain ⟨x,hx⟩:∃x,e.moves[k]? =some x:=⟨_,lbf hlt⟩;refine j6 hx ?_;conv=>whnf
  have hpl:=a7E P e.moves k;have ha:(b5c x::caps.map fun x=>S.c (C.t x)).all S.isT=true:=by simp [S.isT,C.isT,C6.cs,C6.row]
  repeat' (first|refine zx ?_|refine .inl ⟨_,_,I4 (hg k x hx h0) ha rfl,?_⟩|refine zz ?_|refine z6 zt zu ?_|apply zD<;>intro h<;>try omega)<;>conv=>whnf
  ·have hP:P k x=true:=by simp [P,h];omega
   refine ⟨hlt,trivial,[some 0,some 3],rfl,rfl,⟨⟨rfl,rfl,rfl,.inl ⟨rfl,E6 e⟩⟩,i6 rfl rfl rfl ?_ rfl,trivial⟩,⟨rfl,rfl,rz,t5 rfl ?_,rz⟩⟩
   ·rw [a5m P hx hP,lbC];exact (congrArg (fun n=>List.take n (toC ((V7 P e.moves k).map j4))++toC [[ti k]]) zq).trans b0U
   ·rw [a5m P hx hP];simp [toC]
  all_goals
   have hP:P k x=false:=by simp [P];first|(intro hq;omega)|(intro _;assumption)
   refine ⟨hlt,trivial,[some 0,some 1],rfl,rfl,⟨⟨rfl,rfl,rfl,.inl ⟨rfl,E6 e⟩⟩,i6 rfl rfl rfl ?_ rfl,trivial⟩,⟨rfl,rfl,rz,t5 rfl ?_,rz⟩⟩
   ·rw [a2F P hx hP]
   ·rw [a2F P hx hP]
 ·have hk':B6 P 0 e.moves=V7 P e.moves k:=(ar5 P om).symm;show Fin 0 _ _ (j7 (B6 P 0 e.moves)) [];rw [hk'];exact N3 rfl zi rfl rfl zq
abbrev a6C (n:Int):T:=.ptr [ti n]
def b5p (e:Ev) (hs:e.Sized) (h0:I1 e=0) (m:C6) (hm:m ∈ e.moves) (hh mat lo hi:Int):
 ec 145 (b5c m::[T.ptr (evT e),a6C hh,a6C mat,a6C lo,a6C hi].map fun x=>.c (.t x)) [] (m9 (a5v e hh mat lo hi m)) []:=by
 have l1:=hs.s1;have l2:(e.places.map a0l.row).length=e.places.length:=zq;have hmk:=R9 h0 hm;have h1:=a1t hmk;obtain ⟨x,hx⟩:∃x,e.places[m.src.toNat]? =some x:=⟨_,lbf om⟩;refine ac Tryz.func145 ?_;conv=>whnf
 repeat' (first|refine zx ?_|refine qp (a4o _ _ _) ?_|refine K3 h1.1 hx ?_|apply zD<;>intro<;>try omega)<;>conv=>whnf
 all_goals (refine j1 ?_;unfold a5v;rw [hx];simp_all;done)
def b3Q (e:Ev) (hs:e.Sized) (hh mat lo hi:Int):ec 78 [evS e,eI hh,eI mat,eI lo,eI hi] [] (j7 (J2 e hh mat lo hi)) []:=by
 have l1:=hs.s2;have l2:(e.moves.map C6.row).length=e.moves.length:=zq
 (refine ac Tryz.func78 ?_;(conv=>whnf);repeat (refine zy ?_;conv=>whnf))
 refine .inr ⟨_,_,C8 [0,1,2,3,4] (bj9 e hs (e.moves.map C6.row).length 145 [T.ptr (evT e),a6C hh,a6C mat,a6C lo,a6C hi] (a5v e hh mat lo hi) fun k m hm h0=>b5p e hs h0 m (lbm hm) hh mat lo hi)
  ⟨bN8 e,aY2,a0Y (bM8 ?_),trivial⟩ rfl,?_⟩
 ·refine a74 (aq8 zq rfl zi rfl rfl) (a74 (aq8 zq rfl zi rfl rfl) (a74 (aq8 zq rfl zi rfl rfl) (a74 (aq8 zq rfl zi rfl rfl) (a74 (aq8 zq rfl zi rfl rfl) b9Z))))
 conv=>whnf
 repeat' (first|refine zx ?_|apply zD<;>intro h<;>try omega|fail)<;>conv=>whnf
 refine p7 ?_;have:(if I1 e=0 then B6 (fun k m=>decide ((k:Int)<(e.moves.map C6.row).length) && a5v e hh mat lo hi m) 0 e.moves else [])=J2 e hh mat lo hi:=by
  unfold J2;split
  ·refine aq0 _ e.moves.length (fun k m hk=>?_) 0 om;simp;intro _;omega
  ·rfl
 rw [← this];exact rfl
def b1k (A:Nat->List T) (g:Nat->LI) (B:Nat->List T) (id:Nat) (i:Nat):List C:=(A i).map .t++.own id 0 (g i).length true::(B i).map .t
def a4l (n:Nat) (A:Nat->List T) (g:Nat->LI) (B:Nat->List T):List (List C):=(List.range n).map fun i=>b1k A g B (i+1) i
def by2 (el:TypeId) (size n:Nat) (A:Nat->List T) (g:Nat->LI) (B:Nat->List T):Blk:={ mode:=.live,elem:=el,size:=size,rows:=a4l n A g B,box:=false }
def a0Z (el:TypeId) (size n:Nat) (A:Nat->List T) (g:Nat->LI) (B:Nat->List T):Hp:=by2 el size n A g B::(List.range n).map fun i=>w7 (g i)
def a1N {n:Nat} {A:Nat->List T} {g:Nat->LI} {B:Nat->List T}:(a4l n A g B).length=n:=by simp [a4l]
def a4D {n i:Nat} {A:Nat->List T} {g:Nat->LI} {B:Nat->List T} (h:i<n):(a4l n A g B)[i]? =some (b1k A g B (i+1) i):=by simp [a4l,h]
def a9K {el:TypeId} {size n:Nat} {A:Nat->List T} {g:Nat->LI} {B:Nat->List T}:(a0Z el size n A g B).length=n+1:=by simp [a0Z]
def ah5 (n j N:Nat):List (Option Nat):=(List.range (n+1)).map fun i=>some (if i=j+1 then N else i)
def a0U {n j N i:Nat} (h:i<n+1):(ah5 n j N)[i]? =some (some (if i=j+1 then N else i)):=by simp [ah5,h]
def aM5 {n j N:Nat}:(ah5 n j N).length=n+1:=by simp [ah5]
def T3 {ρ:List (Option Nat)} {H:Hp}:∀l:List T,a54 ρ H (l.map C.t) (l.map C.t)
 |[]=>trivial
 |x::r=>⟨a1E x,T3 r⟩
def a63 {ρ:List (Option Nat)} {H:Hp}:∀{a b c d:List C},a54 ρ H a b->a54 ρ H c d->a54 ρ H (a++c) (b++d)
 |[],[],_,_,_,h=>h
 |x::a,y::b,_,_,h1,h2=>⟨h1.1,a63 h1.2 h2⟩
 |[],_::_,_,_,h,_=>h.elim
 |_::_,[],_,_,h,_=>h.elim
def a8J {ρ:List (Option Nat)} {H:Hp}:∀{xs ys:List (List C)},xs.length=ys.length->(∀ (i:Nat) (x y:List C),xs[i]? =some x->ys[i]? =some y->a54 ρ H x y)->a4R ρ H xs ys
 |[],[],_,_=>trivial
 |[],_::_,h,_=>by simp at h
 |_::_,[],h,_=>by simp at h
 |x::xs,y::ys,h,hh=>⟨hh 0 x y rfl rfl,a8J (by simpa using h) fun i a b ha hb=>hh (i+1) a b (by simpa using ha) (by simpa using hb)⟩
def a69 (g:Nat->LI) (j:Nat) (l:LI):Nat->LI:=fun i=>if i=j then l else g i
def b7N {el:TypeId} {size n j N:Nat} {A:Nat->List T} {g:Nat->LI} {B:Nat->List T} {l:LI} {env env':Env} {H:Hp} {k0:Blk} (hj:j<n) (hnN:n<N)
 (h0:H[0]? =some k0) (hk0:k0.mode=.live/\k0.app=false/\k0.elem=el/\k0.size=size) (hr:k0.rows=(a4l n A g B).set j ((A j).map .t++.own N 0 l.length true::(B j).map .t))
 (hm:∀m,m<n->m≠j->H[m+1]? =some (w7 (g m))) (hN:H[N]? =some (w7 l)) (hE:a0p (ah5 n j N) H env env'):Ent 0 (ah5 n j N) env H env' (a0Z el size n A (a69 g j l) B):=by
 refine ⟨rfl,a1w fun a b m h1 h2=>?_,a3L (by rw [aM5,a9K]) fun i k' hk=>?_,hE⟩
 ·have ha:=(lbe.1 h1).1;have hb:=(lbe.1 h2).1;rw [aM5] at ha hb;rw [a0U ha] at h1;rw [a0U hb] at h2;simp only [lb5] at h1 h2;split at h1<;>split at h2<;>omega
 ·have hi:=(lbe.1 hk).1;rw [a9K] at hi;refine ⟨if i=j+1 then N else i,?_⟩;cases i with
  |zero=>
   refine ⟨k0,a0U hi,by simpa using h0,?_⟩;simp [a0Z] at hk;subst hk;obtain ⟨q1,q2,q3,q4⟩:=hk0;refine ⟨by unfold a3X;rw [q1,q2];rfl,q3,q4,.inr ?_⟩;rw [hr];refine a8J (by rw [List.length_set,a1N];exact a1N.symm) fun a x y hx hy=>?_
   have han:a<n:=by have:=(lbe.1 hy).1;rw [show (by2 el size n A (a69 g j l) B).rows=a4l n A (a69 g j l) B from rfl,a1N] at this;exact this
   have hy:(a4l n A (a69 g j l) B)[a]? =some y:=hy;rw [a4D han] at hy;injection hy with hy;subst hy;rw [lbg,a1N] at hx;by_cases haj:j=a
   ·subst haj;rw [iA rfl,iA hj] at hx;injection hx with hx;subst hx;unfold b1k;have e1:a69 g j l j=l:=by simp [a69]
    rw [e1];refine a63 (T3 _) ⟨⟨?_,rfl,rfl,fun h=>h⟩,T3 _⟩;rw [a0U om,iA rfl]
   ·rw [iB haj,a4D han] at hx;injection hx with hx;subst hx;unfold b1k;have e1:a69 g j l a=g a:=by unfold a69;rw [iB (fun h=>haj h.symm)]
    rw [e1];refine a63 (T3 _) ⟨⟨?_,rfl,rfl,fun h=>h⟩,T3 _⟩;rw [a0U om,iB om]
  |succ i=>
   have hin:i<n:=om;have hk:((List.range n).map fun i=>w7 (a69 g j l i))[i]? =some k':=hk;rw [lba,lbh hin] at hk;injection hk with hk;subst hk;by_cases hij:i=j
   ·subst hij;refine ⟨w7 l,a0U hi,by rw [iA rfl];exact hN,?_⟩;have e1:a69 g i l i=l:=by simp [a69]
    show a3g _ _ _ (w7 (a69 g i l i));rw [e1];exact ⟨rfl,rfl,rfl,.inl ⟨rfl,j3 _⟩⟩
   ·refine ⟨w7 (g i),a0U hi,by rw [iB om];exact hm i hin hij,?_⟩;have e1:a69 g j l i=g i:=by unfold a69;rw [iB hij]
    show a3g _ _ _ (w7 (a69 g j l i));rw [e1];exact ⟨rfl,rfl,rfl,.inl ⟨rfl,j3 _⟩⟩
def b3c (id n:Nat):List (Option Nat):=some id::List.replicate n none
def b17 {ρ:List (Option Nat)} {H:Hp}:∀{n:Nat} {R:List Blk},R.length=n->(∀ k ∈ R,k.rows=[]/\k.mode=.live)->a4p ρ H (List.replicate n none) R
 |0,[],_,_=>trivial
 |n+1,k::R,h,hh=>⟨hh k zq,b17 (by simpa using h) fun k hk=>hh k (by simp [hk])⟩
 |0,_::_,h,_=>by simp at h
 |n+1,[],h,_=>by simp at h
def at0 {H:Hp}:∀{n:Nat},Y2 (List.replicate n none) H=true
 |0=>by cases H<;>rfl
 |n+1=>by
  rw [aT2];cases H with
  |nil=>rfl
  |cons k H=>exact at0 (H:=H)
def aI0 {m:Nat}:∀{n:Nat} {H:Hp},a5P m (List.replicate n none) H=false
 |0,H=>by cases H<;>rfl
 |n+1,[]=>rfl
 |n+1,k::H=>by
  rw [aT2];unfold a5P;rw [aI0];cases k.mode<;>rfl
def bi7 {el:TypeId} {size n id:Nat} {A B:Nat->List T} {env env':Env} {H:Hp} {k0:Blk} {s:Nat}
 (h0:H[id]? =some k0) (hk0:k0.mode=.live/\k0.app=false/\k0.elem=el/\k0.size=size) (hr:k0.rows=(List.range n).map fun i=>(A i).map .t++.t (.sl s .nil [])::(B i).map .t)
 (hE:a0p (b3c id n) H env env'):Ent 0 (b3c id n) env H env' (a0Z el size n A (fun _=>[]) B):=by
 obtain ⟨q1,q2,q3,q4⟩:=hk0;refine ⟨rfl,?_,⟨?_,?_⟩,hE⟩
 ·unfold b3c a0Z Y2;rw [aI0,at0]
  rfl
 ·simp only [h0];refine ⟨by unfold a3X;rw [q1,q2];rfl,q3,q4,.inr ?_⟩;rw [hr];refine a8J (by rw [show (by2 el size n A (fun _=>[]) B).rows=a4l n A (fun _=>[]) B from rfl,a1N];simp) fun a x y hx hy=>?_
  have han:a<n:=by have:=(lbe.1 hx).1;simpa using this
  have hy:(a4l n A (fun _=>[]) B)[a]? =some y:=hy;rw [a4D han] at hy;injection hy with hy;subst hy;rw [lba,lbh han] at hx;injection hx with hx;subst hx;unfold b1k;refine a63 (T3 _) ⟨⟨?_,rz⟩,T3 _⟩;show (b3c id n)[a+1]? =some none;unfold b3c;rw [List.getElem?_cons_succ,lbk,iA han]
 ·refine b17 zq fun k hk=>?_
  obtain ⟨i,_,rfl⟩:=lbx.1 hk;exact rz
def b8R {el:TypeId} {size n:Nat} {A:Nat->List T} {g:Nat->LI} {B:Nat->List T} {env env':Env}
 (hE:a0p [some 0] (a0Z el size n A g B) env env'):Ent 0 [some 0] env (a0Z el size n A g B) env' [{ mode:=.live,elem:=el,size:=size,rows:=toC ((List.range n).map fun i=>A i++v6 (g i)::B i),box:=false }]:=by
 refine ⟨rfl,rfl,⟨⟨rfl,rfl,rfl,.inr ?_⟩,trivial⟩,hE⟩;show a4R _ _ (a4l n A g B) (toC _);refine a8J (by rw [a1N];simp [toC]) fun a x y hx hy=>?_
 have han:a<n:=by have:=(lbe.1 hx).1;rw [a1N] at this;exact this
 rw [a4D han] at hx;injection hx with hx;subst hx;have hy:(((List.range n).map fun i=>A i++v6 (g i)::B i).map (·.map C.t))[a]? =some y:=hy;rw [lba,lba,lbh han] at hy;injection hy with hy;subst hy;show a54 _ _ _ ((A a++v6 (g a)::B a).map C.t);rw [lbC,ax1];unfold b1k;refine a63 (T3 _) ⟨?_,T3 _⟩;have hk:(a0Z el size n A g B)[a+1]? =some (w7 (g a)):=by simp [a0Z,han]
 exact show VC _ _ _ _ from w6 (by simp [M3];rfl) hk zi rfl rfl zq
def b7A {el:TypeId} {size n:Nat} {A:Nat->List T} {g:Nat->LI} {B:Nat->List T}:∀k ∈ a0Z el size n A g B,okB (n+1) k:=by
 intro k hk;rcases lbA.1 hk with rfl|hk
 ·intro r hr c hc;obtain ⟨i,hi,rfl⟩:=lbx.1 hr;have hi:=lbB.1 hi;unfold b1k at hc;rcases lbz.1 hc with hc|hc
  ·obtain ⟨x,_,rfl⟩:=lbx.1 hc;trivial
  ·rcases lbA.1 hc with rfl|hc
   ·show i+1<n+1;omega
   ·obtain ⟨x,_,rfl⟩:=lbx.1 hc;trivial
 ·obtain ⟨i,_,rfl⟩:=lbx.1 hk;exact A7 rfl
def b5L {el:TypeId} {size n:Nat} {A:Nat->List T} {g:Nat->LI} {B:Nat->List T} {env env':Env} {R:Hp} (hE:a0p (idR (n+1)) (a0Z el size n A g B++R) env env'):Ent 0 (idR (n+1)) env (a0Z el size n A g B++R) env' (a0Z el size n A g B):=
 b2J a9K (G6 _) b7A hE
def bv5 (h:Fr) (b:Bool) (gs:LI) (n:Int):List T:=[ti h.p.sg,v6 h.p.dl,ti h.q.sg,v6 h.q.dl,tb b,v6 gs,ti n]
def hiF (o:Option (Rat × Rat)):Fr:=match o with
 |some (_,hi)=>fz hi
 |none=>a0z
def a5U (e:Ev) (i:Nat):Option (Rat × Rat):=match e.moves[i]? with
 |some x=>Q3 e x
 |none=>none
def aQ9 {e:Ev} {i:Nat} {x:C6} (h:e.moves[i]? =some x):a5U e i=Q3 e x:=by unfold a5U;rw [h]
def a76 (t:k8) (kind:Int) (i:Nat):List T:=bv5 (hiF (a5U t.ev i)) (a5U t.ev i).isSome (y3 t.finds kind i) (E5 t.cleans kind i)
abbrev aP9 (t:k8) (kind:Int):T:=.sl 7 .any ((List.range t.ev.moves.length).map (a76 t kind))
def kn1 (e:Ev) (k i:Nat):List T:=
 let h:=if i<k then hiF (a5U e i) else a0z
 [ti h.p.sg,v6 h.p.dl,ti h.q.sg,v6 h.q.dl,tb (decide (i<k) && (a5U e i).isSome),.sl 0 .nil [],ti 0]
abbrev knB (rows:List (List T)):Blk:={ mode:=.live,elem:=147,size:=7,rows:=toC rows,box:=false }
def b0k {e:Ev} {k i:Nat} (h:i≠k):kn1 e (k+1) i=kn1 e k i:=by
 unfold kn1;by_cases h1:i<k
 ·simp only [iA h1,iA (show i<k+1 by omega),h1,show i<k+1 by omega]
 ·simp only [iB h1,iB (show ¬i<k+1 by omega),h1,show ¬i<k+1 by omega]
def b4o {e:Ev} {k n:Nat} (h:k<n):(toC ((List.range n).map (kn1 e k))).set k ((kn1 e (k+1) k).map C.t)=toC ((List.range n).map (kn1 e (k+1))):=by
 apply a0R;intro i;unfold toC;rw [lbg,lba,lba,lba];by_cases hi:k=i
 ·subst hi;rw [iA rfl];simp [h]
 ·rw [iB hi,lba];cases hr:(List.range n)[i]? with
  |none=>rfl
  |some j=>
   have:j=i:=by
    obtain ⟨h1,h2⟩:=lbe.1 hr;simp at h2;omega
   subst this;show some ((kn1 e k j).map C.t)=some ((kn1 e (k+1) j).map C.t);rw [b0k (fun h=>hi h.symm)]
def b07 {e:Ev} {k:Nat} (h:a5U e k=none):kn1 e (k+1) k=kn1 e k k:=by
 unfold kn1;simp only [iA (show k<k+1 by omega),iB (show ¬k<k by omega),h];simp [hiF]
def aX9 {e:Ev} {k n:Nat} (h:a5U e k=none):(List.range n).map (kn1 e (k+1))=(List.range n).map (kn1 e k):=lbp fun i _=>by
 by_cases hi:i=k
 ·subst hi;exact b07 h
 ·exact b0k hi
def b7X {e:Ev} {n:Nat} {ρ:List (Option Nat)} {H:Hp}:a4R ρ H (List.replicate n [C.t (ti 0),C.t (.sl 0 .nil []),C.t (ti 0),C.t (.sl 0 .nil []),C.t (tb false),C.t (.sl 0 .nil []),C.t (ti 0)]) (toC ((List.range n).map (kn1 e 0))):=by
 refine a8J zt fun i x y hx hy=>?_
 have hi:i<n:=by have:=(lbe.1 hx).1;simpa using this
 rw [lbk,iA hi] at hx;injection hx with hx;subst hx;unfold toC at hy;rw [lba,lba,lbh hi] at hy;injection hy with hy;subst hy;show a54 _ _ _ ((kn1 e 0 i).map C.t);unfold kn1;simp only [iB (show ¬i<0 by omega)];exact rz
def knA (e:Ev) (i:Nat):List T:=[ti (hiF (a5U e i)).p.sg,v6 (hiF (a5U e i)).p.dl,ti (hiF (a5U e i)).q.sg,v6 (hiF (a5U e i)).q.dl,tb (a5U e i).isSome]
def L1 (t:k8) (kind:Int) (k i:Nat):LI:=y3 (t.finds.take k) kind i
def a8P (l:List a1M) (f:a1M) (kind:Int) (i:Nat):y3 (l++[f]) kind i=if f.kind=kind/\f.mv=(i:Int) then y3 l kind i++[f.grams] else y3 l kind i:=by
 rw [a8F];split<;>simp
def a0u {α:Type} {l:List α} {k:Nat} {x:α} (h:l[k]? =some x):l.take (k+1)=l.take k++[x]:=by rw [lbG,h];rfl
def kn3 (t:k8) (kind:Int) (k i:Nat):List T:=knA t.ev i++v6 (y3 t.finds kind i)::[ti (E5 (t.cleans.take k) kind i)]
def bG0 (t:k8) (kind:Int) (k i:Nat):E5 (t.cleans.take k) kind i<=t.cleans.length:=lbS (lbt _ _) zo
def bi0 {t:k8} {kind:Int} {n:Nat}:(List.range n).map (kn3 t kind t.cleans.length)=(List.range n).map (a76 t kind):=lbp fun i _=>by
 unfold kn3;rw [lbn (lbR _)];rfl
def b7q {t:k8} {kind:Int} {n k:Nat} {c:W9} (h:t.cleans[k]? =some c) (hk:c.kind≠kind):(List.range n).map (kn3 t kind (k+1))=(List.range n).map (kn3 t kind k):=lbp fun i _=>by
 unfold kn3;rw [a0u h,a1T,iB (fun h=>hk h.1)];rfl
def bq1 {t:k8} {kind:Int} {n k m:Nat} {c:W9} (hm:m<n) (h:t.cleans[k]? =some c) (hk:c.kind=kind) (hmv:c.mv=m):
 (toC ((List.range n).map (kn3 t kind k))).set m ((knA t.ev m++v6 (y3 t.finds kind m)::[ti ((E5 (t.cleans.take k) kind m:Int)+1)]).map C.t)=toC ((List.range n).map (kn3 t kind (k+1))):=by
 have key:∀i,i<n->i≠m->kn3 t kind (k+1) i=kn3 t kind k i:=fun i _ hi=>by
  unfold kn3;rw [a0u h,a1T,iB (fun h=>hi om)];rfl
 have own:kn3 t kind (k+1) m=knA t.ev m++v6 (y3 t.finds kind m)::[ti ((E5 (t.cleans.take k) kind m:Int)+1)]:=by
  unfold kn3;rw [a0u h,a1T,iA ⟨hk,hmv⟩];rfl
 rw [← own];unfold toC;rw [← a5X]
 congr 1
 apply a0R;intro i;simp only [lbg,lba,lbr,List.length_range];by_cases hi:m=i
 ·subst hi;simp [hm]
 ·rw [iB hi];by_cases hin:i<n
  ·rw [lbh hin];show some _=some _;rw [key i hin (fun h=>hi h.symm)]
  ·rw [lbd zo];rfl
def b9R {l:LI} {x:Int}:List.take l.length (toC (l.map j4))++toC [[ti x]]=toC ((l++[x]).map j4):=by
 rw [lbn zt];simp [toC,j4]
def bi4 (t:k8) (kind:Int) (hs:t.Sized) (h0:I1 t.ev=0) (hf:∀f ∈ t.finds,0<=f.mv/\f.mv<t.ev.moves.length) (hc:∀c ∈ t.cleans,0<=c.mv/\c.mv<t.ev.moves.length):
 ec 115 [trS t,eI kind] [] (.c (.t (aP9 t kind))) []:=by
 obtain ⟨b1,b2,b3,b4⟩:=a16 h0;have l1:=hs.f;have l2:=hs.c;have m0:(t.ev.moves.map C6.row).length=t.ev.moves.length:=zq;have m1:(t.finds.map a1M.row).length=t.finds.length:=zq;have m2:(t.cleans.map W9.row).length=t.cleans.length:=zq;have s3:=hs.ev.s3;have s4:=hs.ev.s4
 (refine ac Tryz.func115 ?_;(conv=>whnf);repeat ((first|refine b0x ?_|refine zy ?_);conv=>whnf))
 repeat' (first|refine zx ?_|refine a2m om om om de ?_|apply zD<;>intro h<;>try omega)<;>conv=>whnf
 refine k5 g8 (fun k=>([J,eI kind,S.c (C.t (T.ptr (trT t))),J,J,sP 0 0 0,S.c (C.own 1 0 t.ev.moves.length true)]++Jn 13++[S.c (C.t (a5i t.ev.moves)),eI t.ev.moves.length,eI k]++Jn 80,[evB t.ev,knB ((List.range t.ev.moves.length).map (kn1 t.ev k))])) t.ev.moves.length tT [some 0,some 1] trivial ?_ ?_
 ·refine ⟨rfl,rfl,⟨⟨rfl,rfl,rfl,.inl ⟨rfl,E6 _⟩⟩,⟨rfl,rfl,rfl,.inr ?_⟩,trivial⟩,⟨rfl,rfl,rz,⟨rfl,rfl,?_,fun h=>h⟩,rfl,g9 zq,rz⟩⟩
  ·have e9:((((t.ev.moves.map C6.row).length:Nat):Int)).toNat=t.ev.moves.length:=by omega
   rw [← e9];exact b7X
  ·omega
 intro k hk _;by_cases hlt:k<t.ev.moves.length
 ·obtain ⟨x,hx⟩:∃x,t.ev.moves[k]? =some x:=⟨_,lbf hlt⟩;have iv:=b3o t.ev.certs t.ev.recalls om om x.scale x.reading x.day;have eK:0+(k:Int).toNat=k:=om;have hk0:(List.range t.ev.moves.length)[0+(k:Int).toNat]? =some k:=by rw [eK,lbh hlt]
  have gs:∀c,((knB ((List.range t.ev.moves.length).map (kn1 t.ev k))).rows.set (0+(k:Int).toNat) c)[0+(k:Int).toNat]? =some c:=fun c=>by
   rw [List.getElem?_set_self];show _<(toC _).length;simp [toC];omega
  by_cases hsc:x.scale=-1
  ·have hn:a5U t.ev k=none:=by rw [aQ9 hx];unfold Q3;rw [iA hsc]
   have e1:=aX9 (n:=t.ev.moves.length) hn;conv=>whnf
   repeat' (first|refine zx ?_|refine j6 hx ?_|apply zD<;>intro h<;>try omega)<;>conv=>whnf
   all_goals try omega
   refine ⟨hlt,trivial,[some 0,some 1],rfl,rfl,⟨⟨rfl,rfl,rfl,.inl ⟨rfl,E6 _⟩⟩,i6 rfl rfl rfl ?_ rfl,trivial⟩,⟨rfl,rfl,rz,⟨rfl,rfl,rfl,fun h=>h⟩,rz⟩⟩;rw [e1]
  ·have hiv:a5U t.ev k=R4 t.ev.certs t.ev.recalls x.scale x.reading x.day:=by rw [aQ9 hx];unfold Q3;rw [iB hsc]
   rw [← hiv] at iv;cases hi:a5U t.ev k with
   |none=>
    rw [hi] at iv;have er:(kn1 t.ev (k+1) k).map C.t=frC a0z++[C.t (tb false),C.t (.sl 0 .nil []),C.t (ti 0)]:=by rw [b07 hi];simp [kn1]
    conv=>whnf
    repeat' (first|refine zx ?_|refine j6 hx ?_|refine w9 hk0 ?_|refine ⟨_,gs _,?_⟩|refine bl0 [2,3,18] ?_|apply zD<;>intro h<;>try omega)<;>conv=>whnf
    all_goals try omega
    refine ⟨hlt,trivial,[some 0,some 1],rfl,rfl,⟨⟨rfl,rfl,rfl,.inl ⟨rfl,E6 _⟩⟩,i6 rfl rfl rfl ?_ rfl,trivial⟩,⟨rfl,rfl,rz,⟨rfl,rfl,rfl,fun h=>h⟩,rz⟩⟩;have e2:=b4o (e:=t.ev) hlt;rw [er] at e2;rw [← e2];show ((toC _).set (0+(k:Int).toNat) _).set (0+(k:Int).toNat) _=_;rw [List.set_set,eK]
    rfl
   |some p=>
    obtain ⟨lo,hi'⟩:=p;rw [hi] at iv;have er:(kn1 t.ev (k+1) k).map C.t=frC (fz hi')++[C.t (tb true),C.t (.sl 0 .nil []),C.t (ti 0)]:=by simp [kn1,hi,hiF]
    conv=>whnf
    repeat' (first|refine zx ?_|refine j6 hx ?_|refine w9 hk0 ?_|refine ⟨_,gs _,?_⟩|refine bl0 [2,3,18] ?_|apply zD<;>intro h<;>try omega)<;>conv=>whnf
    all_goals try omega
    refine ⟨hlt,trivial,[some 0,some 1],rfl,rfl,⟨⟨rfl,rfl,rfl,.inl ⟨rfl,E6 _⟩⟩,i6 rfl rfl rfl ?_ rfl,trivial⟩,⟨rfl,rfl,rz,⟨rfl,rfl,rfl,fun h=>h⟩,rz⟩⟩;have e2:=b4o (e:=t.ev) hlt;rw [er] at e2;rw [← e2];show ((toC _).set (0+(k:Int).toNat) _).set (0+(k:Int).toNat) _=_;rw [List.set_set,eK]
    rfl
 ·conv=>whnf
  repeat' (first|refine zx ?_|apply zD<;>intro h<;>try omega)<;>conv=>whnf
  all_goals try omega
  have e0:L1 t kind 0=fun _=>[]:=by funext i;simp [L1,y3]
  refine k5 g8 (fun k=>([J,eI kind,S.c (C.t (T.ptr (trT t))),J,J,J,S.c (C.own 0 0 t.ev.moves.length true)]++Jn 48++[S.c (C.t (av5 t.finds)),eI t.finds.length,eI k]++Jn 45,a0Z 147 7 t.ev.moves.length (knA t.ev) (L1 t kind k) (fun _=>[ti 0]))) t.finds.length tT (b3c 1 t.ev.moves.length) trivial ?_ ?_
  ·have hke:k=t.ev.moves.length:=by omega
   subst hke;refine (?_:Ent 0 (b3c 1 t.ev.moves.length) _ _ _ (a0Z 147 7 t.ev.moves.length (knA t.ev) (L1 t kind 0) (fun _=>[ti 0])));rw [e0];refine bi7 (k0:=knB ((List.range t.ev.moves.length).map (kn1 t.ev t.ev.moves.length))) (s:=0) rfl rz ?_ ?_
   ·show toC _=_;unfold toC;rw [a6W];refine lbp fun i hi=>?_
    have:=lbB.1 hi;simp [kn1,knA,this]
   ·exact ⟨rfl,rfl,⟨rfl,rfl,rfl,fun h=>h⟩,m7 rfl,g9 zq,rz⟩
  intro j hj _;by_cases hjt:j<t.finds.length
  ·obtain ⟨f,hfj⟩:∃f,t.finds[j]? =some f:=⟨_,lbf hjt⟩;obtain ⟨f1,f2⟩:=hf f (lbm hfj);obtain ⟨m,hm⟩:∃m:Nat,f.mv=m:=⟨f.mv.toNat,om⟩;have hmn:m<t.ev.moves.length:=om;have eM:0+f.mv.toNat=m:=om;have rL:(List.range t.ev.moves.length).length=t.ev.moves.length:=zq;have rG:(List.range t.ev.moves.length)[m]? =some m:=lbh hmn;have gR:(a4l t.ev.moves.length (knA t.ev) (L1 t kind j) (fun _=>[ti 0]))[0+f.mv.toNat]? =some (b1k (knA t.ev) (L1 t kind j) (fun _=>[ti 0]) (m+1) m):=by rw [eM];exact a4D hmn
   have gl:(L1 t kind j m).length<=t.finds.length:=by
    unfold L1 y3;rw [lbr];exact lbS (lbt _ _) zo
   have hbox:∀(fB:Nat->Blk) (dead nb fb:Blk),(((((List.range t.ev.moves.length).map fB++[fb]).set m dead)++[nb])[t.ev.moves.length]?)=some fb:=fun fB dead nb fb=>by
    rw [lbb zq,lbg,iB om,lbc zq];simp
   have hnew:∀(fB:Nat->Blk) (dead nb fb:Blk),(((((List.range t.ev.moves.length).map fB++[fb]).set m dead)++[nb])[t.ev.moves.length+1]?)=some nb:=fun fB dead nb fb=>by
    rw [lbc zq];simp
   have hold:∀(fB:Nat->Blk) (dead nb fb:Blk) (p:Nat),p<t.ev.moves.length->p≠m->(((((List.range t.ev.moves.length).map fB++[fb]).set m dead)++[nb])[p]?)=some (fB p):=fun fB dead nb fb p hp hpm=>by
    rw [lbb zo,lbg,iB om,lbb (by simpa using hp),lba,lbh hp];rfl
   by_cases hkd:f.kind=kind
   ·conv=>whnf
    repeat' (first|refine zx ?_|refine j6 hfj ?_|refine i9 rL ?_|refine a6L rL ?_|refine G2 ?_|refine a4V ?_|refine ⟨_,gR,?_⟩|refine aj6 (hbox _ _ _ _) ?_|refine J6 rG ?_|refine b0w rG ?_|refine s9 rL ?_|refine j2 rL ?_|refine C4 rL ?_|refine j9 rL ?_|refine aU3 ?_|refine z6 zt zu ?_|refine bl0 [0,1,2] ?_|apply zD<;>intro h<;>try omega)<;>conv=>whnf
    all_goals try omega
    refine ⟨hjt,trivial,ah5 t.ev.moves.length m (t.ev.moves.length+2),?_⟩;refine (?_:Ent 0 (ah5 t.ev.moves.length m (t.ev.moves.length+2)) _ _ _ (a0Z 147 7 t.ev.moves.length (knA t.ev) (L1 t kind (j+1)) (fun _=>[ti 0])));have eg:L1 t kind (j+1)=a69 (L1 t kind j) m (L1 t kind j m++[f.grams]):=by
     funext i;unfold L1 a69;rw [a0u hfj,a8P];by_cases hi:i=m
     ·subst hi;rw [iA ⟨hkd,hm⟩,iA rfl]
     ·rw [iB (fun h=>hi om),iB hi]
    rw [eg];refine b7N hmn om rfl rz ?_ ?_ ?_ ?_
    ·show (a4l _ _ _ _).set (0+f.mv.toNat) _=_;rw [eM,lbq]
     rfl
    ·intro p hp hpm;exact hold _ _ _ _ p hp hpm
    ·refine (hnew _ _ _ _).trans ?_;show some (Blk.mk .live _ 1 (List.take _ (toC ((L1 t kind j m).map j4))++toC [[ti f.grams]]) false false)=_;rw [b9R]
    ·exact ⟨rfl,rfl,⟨by rw [a0U om];rfl,rfl,rfl,fun h=>h⟩,rz⟩
   ·conv=>whnf
    repeat' (first|refine zx ?_|refine j6 hfj ?_|refine i9 rL ?_|refine a6L rL ?_|refine G2 ?_|refine a4V ?_|refine s9 rL ?_|refine j2 rL ?_|refine C4 rL ?_|refine j9 rL ?_|apply zD<;>intro h<;>try omega)<;>conv=>whnf
    all_goals try omega
    refine ⟨hjt,trivial,idR (t.ev.moves.length+1),?_⟩;refine (?_:Ent 0 (idR (t.ev.moves.length+1)) _ (a0Z 147 7 t.ev.moves.length (knA t.ev) (L1 t kind j) (fun _=>[ti 0])++_) _ (a0Z 147 7 t.ev.moves.length (knA t.ev) (L1 t kind (j+1)) (fun _=>[ti 0])));have eg:L1 t kind (j+1)=L1 t kind j:=by
     funext i;unfold L1;rw [a0u hfj,a8P,iB (fun h=>hkd h.1)]
    rw [eg];exact b5L ⟨rfl,rfl,⟨j5 om,rfl,rfl,fun h=>h⟩,rz⟩
  ·have hje:j=t.finds.length:=by omega
   subst hje;have rL:(List.range t.ev.moves.length).length=t.ev.moves.length:=zq;conv=>whnf
   repeat' (first|refine zx ?_|refine G2 ?_|refine a4V ?_|refine a6L rL ?_|apply zD<;>intro h<;>try omega)<;>conv=>whnf
   all_goals try omega
   have eg:L1 t kind t.finds.length=y3 t.finds kind:=by funext i;unfold L1;rw [lbn (lbR _)]
   rw [eg];refine k5 g8 (fun k=>([J,eI kind,J,J,J,J,S.c (C.own 0 0 t.ev.moves.length true)]++Jn 75++[S.c (C.t (a9m t.cleans)),eI t.cleans.length,eI k]++Jn 18,[knB ((List.range t.ev.moves.length).map (kn3 t kind k))])) t.cleans.length tT [some 0] trivial ?_ ?_
   ·exact b8R (g:=y3 t.finds kind) ⟨rfl,⟨rfl,rfl,rfl,fun h=>h⟩,m7 rfl,g9 zq,rz⟩
   intro q hq _;by_cases hqt:q<t.cleans.length
   ·obtain ⟨c,hcq⟩:∃c,t.cleans[q]? =some c:=⟨_,lbf hqt⟩;obtain ⟨g1,g2⟩:=hc c (lbm hcq);obtain ⟨m,hm⟩:∃m:Nat,c.mv=m:=⟨c.mv.toNat,om⟩;have hmn:m<t.ev.moves.length:=om;have eM:0+c.mv.toNat=m:=om;have hk0:(List.range t.ev.moves.length)[0+c.mv.toNat]? =some m:=by rw [eM];exact lbh hmn
    have cb:=bG0 t kind q m;by_cases hkd:c.kind=kind
    ·conv=>whnf
     repeat' (first|refine zx ?_|refine j6 hcq ?_|refine w9 hk0 ?_|apply zD<;>intro h<;>try omega)<;>conv=>whnf
     all_goals try omega
     refine ⟨hqt,trivial,[some 0],rfl,rfl,⟨i6 rfl rfl rfl ?_ rfl,trivial⟩,⟨rfl,⟨rfl,rfl,rfl,fun h=>h⟩,rz⟩⟩;show (toC _).set (0+c.mv.toNat) _=_;rw [eM,←bq1 hmn hcq hkd hm]
     rfl
    ·have e3:=b7q (t:=t) (kind:=kind) (n:=t.ev.moves.length) hcq hkd;conv=>whnf
     repeat' (first|refine zx ?_|refine j6 hcq ?_|refine w9 hk0 ?_|apply zD<;>intro h<;>try omega)<;>conv=>whnf
     all_goals try omega
     refine ⟨hqt,trivial,[some 0],rfl,rfl,⟨i6 rfl rfl rfl ?_ rfl,trivial⟩,⟨rfl,⟨rfl,rfl,rfl,fun h=>h⟩,rz⟩⟩;rw [e3]
   ·have hqe:q=t.cleans.length:=by omega
    subst hqe;conv=>whnf
    repeat' (first|refine zx ?_|apply zD<;>intro h<;>try omega)<;>conv=>whnf
    all_goals try omega
    rw [bi0];exact N3 (k:=knB ((List.range t.ev.moves.length).map (a76 t kind))) rfl zi rfl rfl zq
abbrev a2e (l:List (Int × Rat)):Blk:={ mode:=.live,elem:=109,size:=5,rows:=toC (l.map B8),box:=false }
abbrev V6 (l:List C5):Blk:={ mode:=.live,elem:=133,size:=6,rows:=toC (l.map v5),box:=false }
abbrev a6O (n:Int) (id len:Nat):Blk:={ mode:=.live,elem:=70,size:=2,rows:=[[.t (ti n),.own id 0 len true]],box:=true }
abbrev br9 (id len:Nat) (kind:Int):Blk:={ mode:=.live,elem:=133,size:=6,rows:=[.own id 0 len true::.t (ti kind)::frC (fz zR)],box:=true }
abbrev bc4 (x:C6):Blk:={ mode:=.live,elem:=149,size:=6,rows:=[x.row.map .t],box:=true }
def a5j (x:C6):L4 [x.row.map C.t]:=by simp [L4,C6.row,C.isT]
abbrev bu1:Blk:={ mode:=.live,elem:=133,size:=6,rows:=[.t (aU4 [])::.t (ti 0)::frC a0z],box:=true }
abbrev b4P (el:TypeId) (size:Nat):Blk:=⟨.dead,el,size,[],false,false⟩
def a2D {l:List C5} {w:C5} {n:Nat} (h:n=l.length):List.take n (toC (l.map v5))++toC [v5 w]=toC ((l++[w]).map v5):=by
 rw [lbn (by simp [toC,h])];simp [toC]
def bv9 (n:Int) (rows:List C5) (hr:rows.length<=1000000) (mv:Nat) (kind:Int) (v:Rat):
 ec 132 [eI mv,eI kind,frS (fz v),.c (.ptr 0 0 0)] [a6O n 1 rows.length,V6 rows] (.tup []) [a6O n 2 (rows.length+1),b4P 133 6,V6 (rows++[E1 mv kind v])]:=by
 have i1:=U1 1 de de
 (refine ac Tryz.func132 ?_;(conv=>whnf);repeat ((first|refine b0x ?_|refine zy ?_);conv=>whnf))
 repeat' (first|refine zz ?_|refine qp i1 ?_|refine a43.weak ?_|refine z6 zt zu ?_|apply zD<;>intro h<;>try omega|refine zy ?_|fail)<;>conv=>whnf
 refine ⟨⟨[some 0,some 1,some 2],rfl,rfl,⟨⟨rfl,rfl,rfl,.inr ⟨⟨rfl,⟨rfl,rfl,rfl,fun h=>h⟩,trivial⟩,trivial⟩⟩,⟨rfl,rfl,rfl,.inl ⟨rfl,by simp [L4]⟩⟩,i6 rfl rfl rfl ?_ rfl,trivial⟩,trivial⟩⟩;show List.take rows.length (toC (rows.map v5))++toC [v5 (E1 mv kind v)]=_;exact a2D rfl
def bE0 {H:Hp} {id:Nat} {n:Int} {rows:List C5} (hs:H[2]? =some (a6O n id rows.length)) (hid:H[id]? =some (V6 rows)) (hne:id≠2) (hr:rows.length<=1000000) (mv:Nat) (kind:Int) (v:Rat):
 ec 132 [eI mv,eI kind,frS (fz v),.c (.ptr 2 0 0)] H (.tup []) (((H.set 2 (a6O n H.length (rows.length+1))).set id (b4P 133 6))++[V6 (rows++[E1 mv kind v])]):=by
 have h2:2<H.length:=(lbe.1 hs).1;have hi:id<H.length:=(lbe.1 hid).1;have ex:a4x [2,id] H.length 1=[2,id,H.length]:=by simp [a4x]
 refine V3 [2,id] (bv9 n rows hr mv kind v) rfl rfl rfl zo ?_ ?_ zq rfl rfl zq ?_ ?_
 ·intro i k hk
  match i,hk with
  |0,hk=>
   injection hk with hk;subst hk;exact ⟨rfl,rfl,by simp [okL,okC],_,hs,⟨rfl,rfl,rfl,rfl,by simp [a8l,a1K,a0q]⟩⟩
  |1,hk=>
   injection hk with hk;subst hk;exact ⟨rfl,rfl,a5z _,_,hid,E0 rfl⟩
 ·intro k hk;simp at hk;rcases hk with rfl|rfl|rfl<;>(intro h;cases h)
 ·intro i k hk;show ∃k',_[(a4x [2,id] H.length 1).getD i 0]? =some k'/\aQ6 (a4x [2,id] H.length 1) k k';rw [ex]
  match i,hk with
  |0,hk=>
   injection hk with hk;subst hk;refine ⟨a6O n H.length (rows.length+1),?_,⟨rfl,rfl,rfl,rfl,by simp [a8l,a1K,a0q]⟩⟩;show (_++_)[2]? =_;rw [lbb zo,lbg,iB om,lbg,iA rfl,iA h2]
  |1,hk=>
   injection hk with hk;subst hk;refine ⟨b4P 133 6,?_,rz⟩;show (_++_)[id]? =_;rw [lbb zo,lbg,iA rfl,iA zo]
  |2,hk=>
   injection hk with hk;subst hk;refine ⟨V6 (rows++[E1 mv kind v]),?_,E0 rfl⟩;show (_++_)[H.length]? =_;rw [lbc zq];simp
 ·intro j hj hjn;simp at hjn;rw [lbb zo,lbg,iB om,lbg,iB om]
def a2I {l:List (Int × Rat)} {w:Int × Rat} {n:Nat} (h:n=l.length):List.take n (toC (l.map B8))++toC [B8 w]=toC ((l++[w]).map B8):=by
 rw [lbn (by simp [toC,h])];simp [toC]
def a09 {e:Ev} {p:Int} {k:Nat} {y:C6} (h:e.moves[k]? =some y):s7 e p (k+1)=if y.dst=p then s7 e p k++[((k:Int),((1:Int):Rat))] else if y.src=p then s7 e p k++[((k:Int),((-1:Int):Rat))] else s7 e p k:=by rw [s7,h]
def a24 {e:Ev} {p:Int}:∀k,(s7 e p k).length<=k
 |0=>by simp [s7]
 |k+1=>by
  have ih:=a24 (e:=e) (p:=p) k;unfold s7;cases e.moves[k]? with
  |none=>simp only;omega
  |some y=>
   simp only;split
   ·simp;omega
   ·split
    ·simp;omega
    ·omega
def bd8 (e:Ev) (h0:I1 e=0) {i:Nat} {x:C6} (hx:e.moves[i]? =some x):ec 133 [evS e,eI i] [] (aS0 (C2 e i x)) []:=by
 obtain ⟨b1,b2,b3,b4⟩:=a16 h0;have hi:i<e.moves.length:=(lbe.1 hx).1;have m0:(e.moves.map C6.row).length=e.moves.length:=zq;have i0:=U1 0 de de;have i1:=U1 1 de de;have im:=U1 (-1) de de;have tk:(e.moves.map C6.row).take i=(e.moves.take i).map C6.row:=(b4u ..).symm;have tl:(e.moves.take i).length=i:=zo;have mt:((e.moves.take i).map C6.row).length=i:=zo;cases hal:x.all
 case' false=>have hK:(C2 e i x).kind=0:=by unfold C2;rw [hal];rfl
 case' true=>have hK:(C2 e i x).kind=2:=by unfold C2;rw [hal];rfl
 all_goals
  (refine ac Tryz.func133 ?_;(conv=>whnf);repeat ((first|refine b0x ?_|refine zy ?_);conv=>whnf))
  repeat' (first|refine zx ?_|refine j6 hx ?_|refine aI5 om om om ?_|apply zD<;>intro h<;>try omega)<;>conv=>whnf
  all_goals first|omega|(exfalso;simp_all;done)|skip
  refine k5 g8 (fun k=>([J,eI i,J,J,sP 0 0 0,sP 1 0 0,sP 2 0 0]++Jn 15++[S.c (C.t (a5i (e.moves.take i))),eI i,eI k]++Jn 40,[bu1,bc4 x,br9 3 (s7 e x.src k).length (C2 e i x).kind,a2e (s7 e x.src k)])) i tT [some 0,some 1,some 2,none] trivial ?_ ?_
  ·rw [hK];refine ⟨rfl,rfl,⟨⟨rfl,rfl,rfl,.inr rz⟩,⟨rfl,rfl,rfl,.inl ⟨rfl,a5j x⟩⟩,⟨rfl,rfl,rfl,.inr rz⟩,rz⟩,⟨rfl,rz,rz,rz,m7 ?_,g9 ?_,rz⟩⟩
   ·show T.sl 6 _ (((e.moves.map C6.row).take ((i:Int)).toNat).drop 0)=_;rw [lbY,tk];rfl
   ·show ((((e.moves.map C6.row).take ((i:Int)).toNat).drop 0).length:Int)=i;rw [lbY,tk,a9e,mt]
  intro k hk _;have kl:=a24 (e:=e) (p:=x.src) k;by_cases hlt:k<i
  ·obtain ⟨y,hy⟩:∃y,e.moves[k]? =some y:=⟨_,lbf om⟩;have hyt:(e.moves.take i)[k]? =some y:=by rw [lbi,iA hlt];exact hy
   by_cases c1:y.dst=x.src
   ·have et:s7 e x.src (k+1)=s7 e x.src k++[((k:Int),((1:Int):Rat))]:=by rw [a09 hy,iA c1]
    conv=>whnf
    repeat' (first|refine zx ?_|refine j6 hyt ?_|refine z6 zt zu ?_|apply zD<;>intro h<;>try omega)<;>conv=>whnf
    all_goals try omega
    refine ⟨hlt,trivial,[some 0,some 1,some 2,some 5],rfl,rfl,⟨⟨rfl,rfl,rfl,.inr rz⟩,⟨rfl,rfl,rfl,.inl ⟨rfl,a5j x⟩⟩,⟨rfl,rfl,rfl,.inr ⟨⟨⟨rfl,rfl,?_,fun h=>h⟩,rz⟩,trivial⟩⟩,i6 rfl rfl rfl ?_ rfl,trivial⟩,rz⟩
    ·rw [et,lbq];rfl
    ·rw [et];show List.take (s7 e x.src k).length (toC ((s7 e x.src k).map B8))++toC [B8 ((k:Int),((1:Int):Rat))]=_;exact a2I rfl
   ·by_cases c2:y.src=x.src
    ·have et:s7 e x.src (k+1)=s7 e x.src k++[((k:Int),((-1:Int):Rat))]:=by rw [a09 hy,iB c1,iA c2]
     conv=>whnf
     repeat' (first|refine zx ?_|refine j6 hyt ?_|refine z6 zt zu ?_|apply zD<;>intro h<;>try omega)<;>conv=>whnf
     all_goals try omega
     refine ⟨hlt,trivial,[some 0,some 1,some 2,some 5],rfl,rfl,⟨⟨rfl,rfl,rfl,.inr rz⟩,⟨rfl,rfl,rfl,.inl ⟨rfl,a5j x⟩⟩,⟨rfl,rfl,rfl,.inr ⟨⟨⟨rfl,rfl,?_,fun h=>h⟩,rz⟩,trivial⟩⟩,i6 rfl rfl rfl ?_ rfl,trivial⟩,rz⟩
     ·rw [et,lbq];rfl
     ·rw [et];show List.take (s7 e x.src k).length (toC ((s7 e x.src k).map B8))++toC [B8 ((k:Int),((-1:Int):Rat))]=_;exact a2I rfl
    ·have et:s7 e x.src (k+1)=s7 e x.src k:=by rw [a09 hy,iB c1,iB c2]
     conv=>whnf
     repeat' (first|refine zx ?_|refine j6 hyt ?_|apply zD<;>intro h<;>try omega)<;>conv=>whnf
     all_goals try omega
     refine ⟨hlt,trivial,[some 0,some 1,some 2,some 3],rfl,rfl,⟨⟨rfl,rfl,rfl,.inr rz⟩,⟨rfl,rfl,rfl,.inl ⟨rfl,a5j x⟩⟩,⟨rfl,rfl,rfl,.inr ⟨⟨⟨rfl,rfl,?_,fun h=>h⟩,rz⟩,trivial⟩⟩,i6 rfl rfl rfl ?_ rfl,trivial⟩,rz⟩
     ·rw [et]
     ·rw [et]
  ·have hke:k=i:=by omega
   subst hke;conv=>whnf
   repeat' (first|refine zx ?_|refine z6 zt zu ?_|apply zD<;>intro h<;>try omega)<;>conv=>whnf
   all_goals try omega
   refine p7 ⟨show VC _ (fun id=>M3 [] id=true) _ _ from w6 rfl rfl zi rfl (rows:=(s7 e x.src k++[((k:Int),((-1:Int):Rat))]).map B8) ?_ ?_,rz⟩
   ·show List.take (s7 e x.src k).length (toC ((s7 e x.src k).map B8))++toC [B8 ((k:Int),((-1:Int):Rat))]=_;exact a2I rfl
   ·rw [lbr,lbq];rfl
def ag1 {e:Ev}:∀{l:List W9},S6 e l=0->∀c ∈ l,0<=c.mv/\c.mv<e.moves.length
 |[],_,c,hc=>by cases hc
 |g::r,h,c,hc=>by
  unfold S6 at h;by_cases h1:a2n e g.mv g.kind≠0
  ·rw [iA h1] at h;exact absurd h h1
  rw [iB h1] at h;rcases lbA.1 hc with rfl|hc
  ·unfold a2n at h1;by_cases h3:c.mv<0\/(e.moves.length:Int)<=c.mv
   ·rw [iA h3] at h1;exact absurd de h1
   omega
  ·exact ag1 h c hc
def hiR (o:Option (Rat × Rat)):Rat:=match o with
 |some (_,hi)=>hi
 |none=>0
def an8 {e:Ev} {x:C6} (h:(Q3 e x).isSome=true):hiF (Q3 e x)=fz (hiR (Q3 e x))/\rl (hiR (Q3 e x))<=200:=by
 cases hiv:Q3 e x with
 |none=>rw [hiv] at h;cases h
 |some p=>
  obtain ⟨lo,hi⟩:=p;refine ⟨rfl,?_⟩;show rl hi<=200;unfold Q3 at hiv;by_cases hs:x.scale=-1
  ·rw [iA hs] at hiv;cases hiv
  ·rw [iB hs] at hiv;have:=(b0n hiv).2;omega
def al8 {H:Hp} {id len:Nat} {n:Int} {rows:List C5} {rs:List (List C)} {f:Fr} {v:Rat} (hf:f=fz v) (hs:H[2]? =some (a6O n id len)) (hid:H[id]? =some { mode:=.live,elem:=133,size:=6,rows:=rs,box:=false })
 (hlen:len=rows.length) (hrs:rs=toC (rows.map v5)) (hne:id≠2) (hr:rows.length<=1000000) (mv:Nat) (kind:Int):
 ec 132 [eI mv,eI kind,frS f,.c (.ptr 2 0 0)] H (.tup []) (((H.set 2 (a6O n H.length (rows.length+1))).set id (b4P 133 6))++[V6 (rows++[E1 mv kind v])]):=by
 subst hf;subst hlen;subst hrs;exact bE0 hs hid hne hr mv kind v
def a89 {t:k8} {kind:Int} {k:Nat} (hk:k<=200) (hf:t.finds.length<=20) (hc:t.cleans.length<=50):(v7 t kind k).length<=14400:=by
 have h1:=O1 (t:=t) (kind:=kind) k;have h2:=lbT hk (show 2+t.finds.length+t.cleans.length<=72 by omega);omega
abbrev bx9 (t:k8) (kind:Int) (i:Nat):Blk:={ mode:=.live,elem:=147,size:=7,rows:=[(a76 t kind i).map .t],box:=true }
def r1A {S C:List C5} {s:C5} {p:Prop} [Decidable p] (h:C=[]) (hp:decide p=false):(S++if p then [] else [s])++C=S++[s]:=by rw [h,iB (lbM hp)];simp
def r1B {S C:List C5} {s:C5} {p:Prop} [Decidable p] (h:C=[]) (hp:decide p=true):(S++if p then [] else [s])++C=S:=by rw [h,iA (lbL hp)];simp
def r1C {S C:List C5} {s c:C5} {p:Prop} [Decidable p] (h:C=[c]) (hp:decide p=false):(S++if p then [] else [s])++C=(S++[s])++[c]:=by rw [h,iB (lbM hp)]
def r1D {S C:List C5} {s c:C5} {p:Prop} [Decidable p] (h:C=[c]) (hp:decide p=true):(S++if p then [] else [s])++C=S++[c]:=by rw [h,iA (lbL hp)];simp
def a9T {ρ:List (Option Nat)} {H:Hp}:∀rows:List (List T),a4R ρ H (rows.map (·.map C.t)) (rows.map (·.map C.t))
 |[]=>trivial
 |r::rs=>⟨T3 r,a9T rs⟩
def a0o (t:k8) (kind:Int):Int:=if t9 t≠0\/kind<0\/8<=kind then 1 else 0
def a6J (t:k8) (kind:Int):m8:=if t9 t≠0\/kind<0\/8<=kind then ⟨0,[]⟩ else p6 t kind
abbrev b9s:FuncId:=132
abbrev at5:Blk:={ mode:=.live,elem:=70,size:=2,rows:=[[.t (ti 0),.t (a04 [])]],box:=true }
def aI2 {P:Program} {f:FuncId} {args:List S} {H H1 H':Hp} {r s:S} (h:e8 P f args H r H1) (hf:Fin H.length r H1 s H'):e8 P f args H s H':=by
 refine ⟨h.1,fun w ι M vals hl hr hH hM hF=>?_⟩;refine Calls.mono (h.2 w ι M vals hl hr hH hM hF) ?_;rintro e w' ⟨v,rfl,ι',M',h4,hH',hM',hF',hst⟩;obtain ⟨ρ,f1,f2,f3,f4⟩:=hf;obtain ⟨g1,g2,g3⟩:=a4p.all f1 f2 f3 rfl hM hH' hst;exact ⟨v,rfl,V5 ρ ι',_,f4.rs hH' h4,g1,fun b hb=>hM' b hb.1,g2,g3⟩
def b5D (t:k8) (kind:Int) (hs:t.Sized) (h1:¬(t9 t≠0\/kind<0\/8<=kind)):ec 64 [trS t,eI kind] [] (.tup [.agg [.t (ti t.ev.moves.length),.own 0 0 (p6 t kind).rows.length true],eI 0]) [V6 (p6 t kind).rows]:=by
 have ck:=aq2 t hs;have m2:(t.ev.moves.map C6.row).length=t.ev.moves.length:=zq;obtain ⟨k1,k2,k3⟩:t9 t=0/\0<=kind/\kind<8:=om;rw [k1] at ck;obtain ⟨q1,q2,q3,q4,q5⟩:=F3 k1;obtain ⟨b1,b2,b3,b4⟩:=a16 q1;have kn:=bi4 t kind hs q1 (fun f hf=>by have:=a0L q4 f hf;omega) (fun c hc=>ag1 q5 c hc)
 (refine ac Tryz.func64 ?_;(conv=>whnf);repeat ((first|refine b0x ?_|refine zy ?_);conv=>whnf))
 repeat' (first|refine zx ?_|apply zD<;>intro h<;>try omega)<;>conv=>whnf
 all_goals try omega
 refine k5 g8 (fun k=>([J,J,J,J,sP 0 0 0,J,sP 1 0 0,sP 2 0 0,S.c (C.fn (Fn.func b9s) [C.ptr 2 0 0])]++Jn 25++[S.c (C.t (aP9 t kind)),eI t.ev.moves.length,eI k]++Jn 47,[at5,evB t.ev,a6O t.ev.moves.length 3 (v7 t kind k).length,V6 (v7 t kind k)])) t.ev.moves.length tT [some 0,some 1,some 2,none] trivial ?_ ?_
 ·refine ⟨rfl,rfl,⟨⟨rfl,rfl,rfl,.inr rz⟩,⟨rfl,rfl,rfl,.inl ⟨rfl,E6 _⟩⟩,⟨rfl,rfl,rfl,.inr ⟨⟨?_,rz⟩,trivial⟩⟩,rz⟩,⟨rz,rz,rz,rz,rfl,g9 zq,rz⟩⟩;exact ak6 (by rw [m2])
 intro k hk _;by_cases hlt:k<t.ev.moves.length
 ·obtain ⟨x,hx⟩:∃x,t.ev.moves[k]? =some x:=⟨_,lbf hlt⟩;have bn:=bN4 t.ev q1 hx;have st:=bd8 t.ev q1 hx;have gk:(List.range t.ev.moves.length)[k]? =some k:=lbh hlt;have iv:a5U t.ev k=Q3 t.ev x:=aQ9 hx;have rl0:=a89 (t:=t) (kind:=kind) (k:=k) om q2 q3;have gl:(y3 t.finds kind k).length<=20:=by unfold y3;rw [lbr];exact lbS (lbt _ _) q2
  have cl:E5 t.cleans kind k<=50:=lbS (lbt _ _) q3;have i0:=U1 0 de de;obtain ⟨R1,hR1⟩:∃R1:List C5,R1=v7 t kind k++(if N9 t.ev x.src=0 then [] else [C2 t.ev k x])++a0a (Q3 t.ev x) k:=⟨_,rfl⟩;have l5:(v7 t kind k).length+1=(v7 t kind k++[C2 t.ev k x]).length:=zq;have r5:List.take (v7 t kind k).length (toC ((v7 t kind k).map v5))++toC [v5 (C2 t.ev k x)]=toC ((v7 t kind k++[C2 t.ev k x]).map v5):=a2D rfl;have b5:(v7 t kind k++[C2 t.ev k x]).length<=1000000:=zo;have b3:(v7 t kind k).length<=1000000:=om;obtain ⟨G,hG⟩:∃G:Nat->List C5,∀j,G j=R1++((y3 t.finds kind k).take j).map (fun g:Int=>E1 k 0 (g:Rat)):=⟨_,fun _=>rfl⟩;obtain ⟨K,hK⟩:∃K:Nat->List C5,∀j,K j=(R1++(y3 t.finds kind k).map (fun g:Int=>E1 k 0 (g:Rat)))++List.replicate j (E1 k 2 ((0:Int):Rat)):=⟨_,fun _=>rfl⟩;have hG0:G 0=R1:=by rw [hG];simp
  have hK0:K 0=R1++(y3 t.finds kind k).map (fun g:Int=>E1 k 0 (g:Rat)):=by rw [hK];simp
  have hKe:v7 t kind (k+1)=K (E5 t.cleans kind k):=by
   rw [hK,hR1];show (match t.ev.moves[k]? with|none=>v7 t kind k|some x=>v7 t kind k++N2 t kind k x)=_;rw [hx];unfold N2;simp [lbD]
  have hKs:toC ((K (E5 t.cleans kind k)).map v5)=toC ((v7 t kind (k+1)).map v5)/\(K (E5 t.cleans kind k)).length=(v7 t kind (k+1)).length:=by rw [hKe];exact rz
  have hgr:∀g ∈ y3 t.finds kind k,1<=g/\g<=1099511627776:=fun g hg=>by
   unfold y3 at hg;obtain ⟨f,hf,rfl⟩:=lbx.1 hg;have:=a0L q4 f (lby.1 hf).1;omega
  have hcr:a0a (Q3 t.ev x) k=if (Q3 t.ev x).isSome then [E1 k 1 (hiR (Q3 t.ev x))] else []:=by cases Q3 t.ev x<;>rfl
  cases hc:(Q3 t.ev x).isSome<;>cases hb:decide (N9 t.ev x.src=0)<;>rw [hb] at bn<;>rw [hc] at hcr<;>
  ·have hci:=hc;rw [← iv] at hci;first|(have eR:R1=(v7 t kind k++[C2 t.ev k x]):=hR1.trans (r1A hcr hb);let ρ:List (Option Nat):=[some 0,some 1,some 2,some 5,some 4])|(have eR:R1=v7 t kind k:=hR1.trans (r1B hcr hb);let ρ:List (Option Nat):=[some 0,some 1,some 2,some 3,some 4])|(have eR:R1=(v7 t kind k++[C2 t.ev k x])++[E1 k 1 (hiR (Q3 t.ev x))]:=hR1.trans (r1C hcr hb);let ρ:List (Option Nat):=[some 0,some 1,some 2,some 6,some 4])|(have eR:R1=v7 t kind k++[E1 k 1 (hiR (Q3 t.ev x))]:=hR1.trans (r1D hcr hb);let ρ:List (Option Nat):=[some 0,some 1,some 2,some 5,some 4])
   have hRl:R1.length<=14500:=by rw [eR];(try simp);omega
   try (have hfv:hiF (a5U t.ev k)=fz (hiR (Q3 t.ev x)):=(by rw [iv];exact (an8 hc).1))
   conv=>whnf
   repeat' (first|refine zx ?_|refine j6 gk ?_|refine z6 zt zu ?_|refine .inr ⟨_,_,al8 (id:=5) hfv rfl rfl l5 r5 de b5 _ _,?_⟩|refine .inr ⟨_,_,al8 (id:=3) hfv rfl rfl rfl rfl de b3 _ _,?_⟩|apply zD<;>intro h<;>try omega)<;>conv=>whnf
   all_goals try omega
   all_goals try (rw [hci] at h;exact absurd h de)
   refine k5 g8 (fun j=>([J,J,J,J,sP 0 0 0,J,sP 1 0 0,sP 2 0 0,S.c (C.fn (Fn.func b9s) [C.ptr 2 0 0]),eI k,sP 4 0 0]++Jn 23++[S.c (C.t (aP9 t kind)),eI t.ev.moves.length,eI k]++Jn 24++[S.c (C.t (v6 (y3 t.finds kind k))),eI (y3 t.finds kind k).length,eI j]++Jn 20,[at5,evB t.ev,a6O t.ev.moves.length 3 (G j).length,V6 (G j),bx9 t kind k])) (y3 t.finds kind k).length tT ρ trivial ⟨rfl,rfl,⟨⟨rfl,rfl,rfl,.inr rz⟩,⟨rfl,rfl,rfl,.inl ⟨rfl,E6 _⟩⟩,⟨rfl,rfl,rfl,.inr ⟨⟨rfl,⟨rfl,rfl,?_,fun h=>h⟩,trivial⟩,trivial⟩⟩,i6 rfl rfl rfl ?_ rfl,⟨rfl,rfl,rfl,.inr (a9T [a76 t kind k])⟩,trivial⟩,⟨rz,rz,rz,rz,rfl,rz,rfl,rfl,rfl,rfl,g9 zq,rz⟩⟩ ?_
   ·simp [hG0,eR,toC]
   ·rw [hG0,eR];first|done|exact r5|rfl
   intro j hj _;have hGl:(G j).length<=1000000:=by rw [hG];simp [lbq];omega
   by_cases hjt:j<(y3 t.finds kind k).length
   ·obtain ⟨g,hg⟩:∃g,(y3 t.finds kind k)[j]? =some g:=⟨_,lbf hjt⟩;have gb:=hgr g (lbm hg);have ig:=U1 g om om;have eG:G (j+1)=G j++[E1 k 0 (g:Rat)]:=by rw [hG,hG,lbG,hg];simp
    conv=>whnf
    repeat' (first|refine zx ?_|refine j6 hg ?_|refine .inr ⟨_,_,al8 (id:=3) rfl rfl rfl rfl rfl de hGl _ _,?_⟩|apply zD<;>intro h<;>try omega)<;>conv=>whnf
    all_goals try omega
    refine ⟨hjt,trivial,[some 0,some 1,some 2,some 5,some 4],rfl,rfl,⟨⟨rfl,rfl,rfl,.inr rz⟩,⟨rfl,rfl,rfl,.inl ⟨rfl,E6 _⟩⟩,⟨rfl,rfl,rfl,.inr ⟨⟨rfl,⟨rfl,rfl,?_,fun h=>h⟩,trivial⟩,trivial⟩⟩,i6 rfl rfl rfl ?_ rfl,⟨rfl,rfl,rfl,.inr (a9T [a76 t kind k])⟩,trivial⟩,rz⟩
    ·rw [eG];simp
    ·rw [eG]
   have hje:j=(y3 t.finds kind k).length:=om;subst hje;have hGe:G (y3 t.finds kind k).length=R1++(y3 t.finds kind k).map (fun g:Int=>E1 k 0 (g:Rat)):=by rw [hG,lbn (lbR _)]
   conv=>whnf
   repeat' (first|refine zx ?_|apply zD<;>intro h<;>try omega)<;>conv=>whnf
   all_goals try omega
   refine k5 g8 (fun j=>([J,J,J,J,sP 0 0 0,J,sP 1 0 0,sP 2 0 0,S.c (C.fn (Fn.func b9s) [C.ptr 2 0 0]),eI k]++Jn 24++[S.c (C.t (aP9 t kind)),eI t.ev.moves.length,eI k]++Jn 37++[eI (E5 t.cleans kind k),eI j]++Jn 8,[at5,evB t.ev,a6O t.ev.moves.length 3 (K j).length,V6 (K j)])) (E5 t.cleans kind k) tT [some 0,some 1,some 2,some 3] trivial ⟨rfl,rfl,⟨⟨rfl,rfl,rfl,.inr rz⟩,⟨rfl,rfl,rfl,.inl ⟨rfl,E6 _⟩⟩,⟨rfl,rfl,rfl,.inr ⟨⟨rfl,⟨rfl,rfl,?_,fun h=>h⟩,trivial⟩,trivial⟩⟩,i6 rfl rfl rfl ?_ rfl,trivial⟩,rz⟩ ?_
   ·rw [hK0,hGe]
   ·rw [hK0,hGe]
   clear hj hjt;intro j hj _;have hKl:(K j).length<=1000000:=by rw [hK];simp [lbq];omega
   by_cases hjt:j<E5 t.cleans kind k
   ·have eK:K (j+1)=K j++[E1 k 2 ((0:Int):Rat)]:=by rw [hK,hK,List.replicate_succ'];simp
    conv=>whnf
    repeat' (first|refine zx ?_|refine .inr ⟨_,_,al8 (id:=3) rfl rfl rfl rfl rfl de hKl _ _,?_⟩|apply zD<;>intro h<;>try omega)<;>conv=>whnf
    all_goals try omega
    refine ⟨hjt,trivial,[some 0,some 1,some 2,some 4],rfl,rfl,⟨⟨rfl,rfl,rfl,.inr rz⟩,⟨rfl,rfl,rfl,.inl ⟨rfl,E6 _⟩⟩,⟨rfl,rfl,rfl,.inr ⟨⟨rfl,⟨rfl,rfl,?_,fun h=>h⟩,trivial⟩,trivial⟩⟩,i6 rfl rfl rfl ?_ rfl,trivial⟩,rz⟩
    ·rw [eK];simp
    ·rw [eK]
   have hje:j=E5 t.cleans kind k:=om;subst hje;conv=>whnf
   repeat' (first|refine zx ?_|apply zD<;>intro h<;>try omega)<;>conv=>whnf
   all_goals try omega
   exact ⟨hlt,trivial,[some 0,some 1,some 2,some 3],rfl,rfl,⟨⟨rfl,rfl,rfl,.inr rz⟩,⟨rfl,rfl,rfl,.inl ⟨rfl,E6 _⟩⟩,⟨rfl,rfl,rfl,.inr ⟨⟨rfl,⟨rfl,rfl,hKs.2,fun h=>h⟩,trivial⟩,trivial⟩⟩,i6 rfl rfl rfl hKs.1 rfl,trivial⟩,rz⟩
 ·have hke:k=t.ev.moves.length:=by omega
  subst hke;conv=>whnf
  repeat' (first|refine zx ?_|apply zD<;>intro h<;>try omega)<;>conv=>whnf
  all_goals try omega
  exact ⟨[some 3],rfl,rfl,⟨i6 (rows:=(v7 t kind t.ev.moves.length).map v5) rfl rfl rfl rfl rfl,trivial⟩,⟨⟨rfl,⟨rfl,rfl,rfl,fun h=>h⟩,trivial⟩,rz⟩⟩
def a4k (t:k8) (kind:Int) (hs:t.Sized):ec 64 [trS t,eI kind] [] (.tup [U9 (a6J t kind),eI (a0o t kind)]) []:=by
 have ck:=aq2 t hs;have m2:(t.ev.moves.map C6.row).length=t.ev.moves.length:=zq;by_cases h1:t9 t≠0\/kind<0\/8<=kind
 ·have e1:a0o t kind=1:=by unfold a0o;rw [iA h1]
  have e2:a6J t kind=⟨0,[]⟩:=by unfold a6J;rw [iA h1]
  rw [e1,e2];refine ac Tryz.func64 ?_;conv=>whnf
  repeat' (first|refine zx ?_|apply zD<;>intro h<;>try omega)<;>conv=>whnf
  all_goals first|omega|exact p7 rz
 have e1:a0o t kind=0:=by unfold a0o;rw [iB h1]
 have e2:a6J t kind=p6 t kind:=by unfold a6J;rw [iB h1]
 rw [e1,e2];exact aI2 (b5D t kind hs h1) (p7 ⟨⟨rfl,show VC _ (fun id=>M3 [] id=true) _ _ from w6 rfl rfl zi rfl rfl (by rw [lbr]),trivial⟩,rz⟩)
def aZ4 {P:Program} {g:FuncId} {x:S} {H H':Hp} {r:S} (h:e8 P g [x,s6 []] H r H'):e8 P g [x,.c (.t (.sl 0 .nil []))] H r H':=by
 refine a7Y h rfl fun w ι M j a b v hx hy hr=>?_
 rcases j with _|_|j
 ·injection hx with hx;injection hy with hy;subst hx hy;exact hr
 ·injection hx with hx;injection hy with hy;subst hx hy
  cases hr with
  |c hr=>cases hr with
   |t hr=>exact .c (.t (hr.weak rfl))
 ·simp at hx
def ao7 (z:List Rat):n8 [] z=0:=rfl
def aO4 {s:m8} (hr:q9 s=true):H9 s []=.best\/∃r,H9 s []=.row r:=by
 rcases a4v s [] with h|h|⟨c,h⟩
 ·exact .inl h
 ·exact .inr h
 ·have:=(a77 hr rfl h).2;rw [ao7] at this;exact absurd this de
theorem a62 (s:m8) (n B:Nat) (h:I3 s [] n B) (hout:H9 s []=.best) (hpt:∀v ∈ s8 s [],rl v<=40000):
 e8 Tryz.prog 74 [U9 s] [] (.tup [H5 ((s8 s []).map fz),.c (.t (.sl 0 .nil [])),m9 true]) []:=by
 have le:=aZ4 (a51 s [] n B h hout (fun k=>by rw [List.take_nil,ao7];have:=rl0;omega) hpt)
 (refine ac Tryz.func74 ?_;(conv=>whnf);repeat ((first|refine b0x ?_|refine zy ?_);conv=>whnf))
 repeat' (first|refine zx ?_|refine qp 4 ?_|refine qp (4,6) ?_|refine .inr ⟨_,_,le,?_⟩|refine bl0 [4] ?_|refine bl0 [4,6] ?_|refine zd ?_ ?_<;>intro h<;>try omega|fail)<;>conv=>whnf
 all_goals first
  |omega
  |exact p7 ⟨rfl,rfl,rfl,trivial⟩
def a7U (s:m8) (n B r:Nat) (h:I3 s [] n B) (hout:H9 s []=.row r):
 e8 Tryz.prog 74 [U9 s] [] (.tup [.c (.t (.sl 0 .nil [])),H5 (rF s.rows.length (ag3 s (F5 s []) r)),m9 false]) []:=by
 have le:=aZ4 (b0l s [] n B r h hout)
 (refine ac Tryz.func74 ?_;(conv=>whnf);repeat ((first|refine b0x ?_|refine zy ?_);conv=>whnf))
 repeat' (first|refine zx ?_|refine .inr ⟨_,_,le,?_⟩|refine bl0 [4] ?_|refine bl0 [4,6] ?_|refine zd ?_ ?_<;>intro h<;>try omega|fail)<;>conv=>whnf
 all_goals first
  |omega
  |exact p7 ⟨rfl,(show VC _ (fun id=>M3 [] id=true) (C.own 0 0 s.rows.length true) _ from w6 (k:=flB (rF s.rows.length (ag3 s (F5 s []) r))) rfl rfl (fun h=>h) rfl rfl (by simp [O9])),rfl,trivial⟩
def S9 {α:Type} {f:α->List T} {l:List α} {x:α} {n:Nat} (h:n=l.length):List.take n (toC (l.map f))++toC [f x]=toC ((l++[x]).map f):=by
 rw [lbn (by simp [toC,h])];simp [toC]
def a2b (l:List (Int × Rat)) (f:Rat):List (Int × Rat):=l.map fun t=>(t.1,t.2*f)
def a3N (l:List (Int × Rat)) (f:Rat) {k:Nat} {t:Int × Rat} (h:l[k]? =some t):(a2b l f).take (k+1)=(a2b l f).take k++[(t.1,t.2*f)]:=by
 rw [lbG]
 congr 1
 unfold a2b;rw [lba,h];rfl
def a2T (l:List (Int × Rat)) (f:Rat):(a2b l f).length=l.length:=by simp [a2b]
def bk4 (l:List (Int × Rat)) (f:Rat) (hf:f≠0) (hr:n7 (-1) 1500 l=true) (hb:∀t ∈ l,rl t.2<=200) (hfb:rl f<=200):
 ec 156 [s6 l,frS (fz f)] [] (s6 (a2b l f)) []:=by
 have hl:=D9 hr;have m1:(l.map B8).length=l.length:=zq;have rt:=a0e l 1500 om hb;rw [lbH om,hr] at rt;have sg:=a2q f om;have sz:=b1f (x:=f);have hs0:sgR f≠0:=fun h=>hf (sz.1 h)
 (refine ac Tryz.func156 ?_;(conv=>whnf);repeat ((first|refine b0x ?_|refine zy ?_);conv=>whnf))
 repeat' (first|refine zx ?_|apply zD<;>intro h<;>try omega)<;>conv=>whnf
 all_goals try omega
 all_goals try (exfalso;simp_all;done)
 refine k5 g8 (fun k=>([J,J,J,S.c (C.t (T.ptr (B2 (fz f)))),J,S.c (C.own 0 0 k true)]++Jn 12++[s6 l,eI l.length,eI k]++Jn 19,[a2e ((a2b l f).take k)])) l.length tT [none] trivial
  ⟨rfl,rfl,rz,⟨m7 rfl,rz,m7 rfl,g9 om,g9 rfl,trivial⟩⟩ ?_
 intro k hk _;by_cases hlt:k<l.length
 ·obtain ⟨t,ht⟩:∃t,l[k]? =some t:=⟨_,lbf hlt⟩;have bt:=hb t (lbm ht);have mu:=b3k t.2 f om om;have lk:((a2b l f).take k).length=k:=by rw [lbs,a2T];omega
  have lA:k<=(a2e ((a2b l f).take k)).rows.length:=by show k<=(toC _).length;simp [toC,a2T];omega
  conv=>whnf
  repeat' (first|refine zx ?_|refine j6 ht ?_|refine z6 lA zu ?_|refine bl0 [6] ?_|apply zD<;>intro h<;>try omega)<;>conv=>whnf
  all_goals first
   |omega
   |(refine ⟨hlt,trivial,[some 3],rfl,rfl,⟨i6 (rows:=((a2b l f).take (k+1)).map B8) rfl rfl rfl ?_ rfl,trivial⟩,⟨rfl,⟨rfl,rfl,rfl,fun h=>h⟩,rfl,rfl,g9 om,trivial⟩⟩
     rw [a3N l f ht];exact S9 (f:=B8) (x:=(t.1,t.2*f)) lk.symm)
 ·have hke:k=l.length:=by omega
  subst hke;conv=>whnf
  repeat' (first|refine zx ?_|apply zD<;>intro h<;>try omega)<;>conv=>whnf
  all_goals first|omega|exact N3 rfl (fun h=>h) rfl (by rw [lbn (by rw [a2T];exact lbR _)]) (by simp [a2T])
def ag6 {n n':Int} (h:n<=n'):∀{last:Int} {l:List (Int × Rat)},n7 last n l=true->n7 last n' l=true
 |_,[],_=>rfl
 |last,a::r,hr=>by
  unfold n7 at hr ⊢;simp only [lbN,lbI] at hr ⊢;exact ⟨⟨⟨hr.1.1.1,om⟩,hr.1.2⟩,ag6 h hr.2⟩
def E3 (l:List (Int × Rat)):List (Int × Rat):=a2b l ((-1:Int):Rat)
def a8c (l:List (Int × Rat)) (hr:n7 (-1) 1500 l=true) (hb:∀t ∈ l,rl t.2<=200):ec 86 [s6 l] [] (s6 (E3 l)) []:=by
 have i1:=U1 (-1) de de;have tm:=bk4 l ((-1:Int):Rat) de hr hb (by have:=w5 (x:=-1) de de;have:=w5 (x:=1) de de;show max (bl (-1)) (bl 1)<=200;omega);refine ac Tryz.func86 ?_;conv=>whnf
 repeat' (first|refine zx ?_|apply zD<;>intro<;>try omega)<;>conv=>whnf
 exact p7 (H1:=[]) (m7 (ρ:=[]) (H:=[]) rfl)
def a3s (l:LI):List (Int × Rat):=l.map fun i=>(i,((1:Int):Rat))
def H7 (t:k8) (h:Int):List (Int × Rat):=a3s (J2 t.ev h (-1) 0 100000)
def ah1 (t:k8) (h:Int):List (Int × Rat):=if t9 t=0/\0<=h/\h<t.ev.hhs then H7 t h else []
def b0M {H1:Hp}:Fin 0 (.c (.t (.sl 0 .nil []))) H1 (s6 []) []:=p7 (show a9b [] H1 (.c (.t (.sl 0 .nil []))) (s6 []) from rfl)
def ac6 {l:LI} {k:Nat} {x:Int} (h:l[k]? =some x):a3s (l.take (k+1))=a3s (l.take k)++[(x,((1:Int):Rat))]:=by
 rw [lbG,h];unfold a3s;simp
def bl4 (t:k8) (hs:t.Sized) (hh:Int) (hl:(J2 t.ev hh (-1) 0 100000).length<=100000):ec 31 [trS t,eI hh] [] (s6 (ah1 t hh)) []:=by
 have ck:=aq2 t hs;have li:=b3Q t.ev hs.ev hh (-1) 0 100000;have i1:=U1 1 de de;by_cases hc:t9 t=0/\0<=hh/\hh<t.ev.hhs
 ·have e:ah1 t hh=H7 t hh:=iA hc;rw [e];obtain ⟨c1,c2,c3⟩:=hc;have m1:((J2 t.ev hh (-1) 0 100000).map j4).length=(J2 t.ev hh (-1) 0 100000).length:=zq;refine ac Tryz.func31 ?_;conv=>whnf
  repeat' (first|refine zx ?_|apply zD<;>intro h<;>try omega)<;>conv=>whnf
  all_goals try omega
  refine k5 g8 (fun k=>([J,J,J,J,J,S.c (C.own 0 0 k true)]++Jn 19++[j7 (J2 t.ev hh (-1) 0 100000),eI (J2 t.ev hh (-1) 0 100000).length,eI k]++Jn 11,[a2e (a3s ((J2 t.ev hh (-1) 0 100000).take k))])) (J2 t.ev hh (-1) 0 100000).length tT [none] trivial
   ⟨rfl,rfl,rz,⟨rz,m7 rfl,g9 om,g9 rfl,trivial⟩⟩ ?_
  intro k hk _;by_cases hlt:k<(J2 t.ev hh (-1) 0 100000).length
  ·obtain ⟨x,hx⟩:∃x,(J2 t.ev hh (-1) 0 100000)[k]? =some x:=⟨_,lbf hlt⟩;have lk:(a3s ((J2 t.ev hh (-1) 0 100000).take k)).length=k:=by unfold a3s;rw [lbr,lbs];omega
   have lA:k<=(a2e (a3s ((J2 t.ev hh (-1) 0 100000).take k))).rows.length:=by show k<=(toC _).length;rw [toC,lbr,lbr,lk];exact lbR _
   conv=>whnf
   repeat' (first|refine zx ?_|refine j6 hx ?_|refine z6 lA zu ?_|apply zD<;>intro h<;>try omega)<;>conv=>whnf
   all_goals first
    |omega
    |(refine ⟨hlt,trivial,[some 1],rfl,rfl,⟨i6 (rows:=(a3s ((J2 t.ev hh (-1) 0 100000).take (k+1))).map B8) rfl rfl rfl ?_ rfl,trivial⟩,⟨⟨rfl,rfl,rfl,fun h=>h⟩,rfl,rfl,g9 om,trivial⟩⟩
      rw [ac6 hx];exact S9 (f:=B8) (x:=(x,((1:Int):Rat))) lk.symm)
  ·have hke:k=(J2 t.ev hh (-1) 0 100000).length:=by omega
   subst hke;conv=>whnf
   repeat' (first|refine zx ?_|apply zD<;>intro h<;>try omega)<;>conv=>whnf
   all_goals first|omega|exact N3 rfl (fun h=>h) rfl (by rw [lbn (lbR _)];rfl) (by simp [H7,a3s])
 ·have e:ah1 t hh=[]:=iB hc;rw [e];refine ac Tryz.func31 ?_;conv=>whnf
  repeat' (first|refine zx ?_|apply zD<;>intro h<;>try omega)<;>conv=>whnf
  all_goals first|omega|exact b0M
def b6n (l:List Fr) (h0:0<l.length) (h1:l.length<=100000):ec 224 [H5 l] [] (.c (.own 0 0 l.length true)) [flB l]:=by
 have m1:(l.map B2).length=l.length:=zq;have hl:0<(l.map B2).length:=om;refine ac Tryz.func224 ?_;conv=>whnf
 repeat' (first|refine zx ?_|refine ⟨hl,?_⟩|refine zz ?_|refine a1e rfl (by simp only [toC,lbr,a2l];omega) ?_|refine z6 (G6 _) (by simp only [toC,lbr];omega) ?_|apply zD<;>intro h<;>try omega)<;>conv=>whnf
 all_goals first|omega|exact ⟨[some 0],rfl,rfl,⟨i6 (rows:=l.map B2) rfl rfl rfl rfl rfl,trivial⟩,⟨rfl,rfl,by simp [toC],fun h=>h⟩⟩
def smF (a b:Nat->Rat) (k:Nat):Nat->Rat:=fun j=>if j<k then a j+b j else a j
def bx7 (n:Nat) (a b:Nat->Rat) (h0:0<n) (hn:n<=1000) (ha:∀j,j<n->rl (a j)<=60000) (hb:∀j,j<n->rl (b j)<=60000):
 ec 142 [H5 (rF n a),H5 (rF n b)] [] (H5 (rF n fun j=>a j+b j)) []:=by
 have m1:((rF n b).map B2).length=n:=by simp [O9]
 have cl:=b6n (rF n a) (by rw [O9];exact h0) (by rw [O9];omega);rw [O9] at cl;have e9:rF n (fun j=>a j+b j)=rF n (smF a b n):=F6 fun j hj=>by unfold smF;rw [iA hj]
 rw [e9];refine ac Tryz.func142 ?_;conv=>whnf
 repeat' (first|refine zx ?_|refine .inr ⟨_,_,cl,?_⟩|apply zD<;>intro h<;>try omega)<;>conv=>whnf
 refine k5 g8 (fun k=>([J,J,J,J,J,S.c (C.own 0 0 n true),J,J,J,J,H5 (rF n b),eI n,eI k]++Jn 18,[flB (rF n (smF a b k))])) n tT [some 0] trivial
  ⟨rfl,rfl,⟨i6 (rows:=(rF n a).map B2) rfl rfl rfl rfl (by rw [F6 (g:=smF a b 0) (h:=a) fun j hj=>by unfold smF;rw [iB om]]),trivial⟩,⟨⟨rfl,rfl,rfl,fun h=>h⟩,m7 rfl,g9 om,g9 rfl,trivial⟩⟩ ?_
 intro k hk _;by_cases hlt:k<n
 ·have eK:0+(k:Int).toNat=k:=by omega
  have ad:=a8E (a k) (b k) (ha k hlt) (hb k hlt);have gp:(rF n (smF a b k))[0+(k:Int).toNat]? =some (fz (a k)):=by rw [eK,L3 hlt];unfold smF;rw [iB om]
  have e:D4 (flB (rF n (smF a b k))) ((flB (rF n (smF a b k))).rows.set (0+(k:Int).toNat) (frC (fz (a k+b k))))=flB (rF n (smF a b (k+1))):=by
   rw [Q4 eK,a0J hlt];refine congrArg flB (F6 fun j hj=>?_);unfold smF;by_cases h:j=k
   ·subst h;rw [iA rfl,iA om]
   ·rw [iB h];have:(j<k)↔(j<k+1):=om;simp only [this]
  conv=>whnf
  repeat' (first|refine zx ?_|refine a5x rfl hlt ?_|refine w9 gp ?_|refine bl0 [10] ?_|apply zD<;>intro h<;>try omega)<;>conv=>whnf
  all_goals first|omega|exact ⟨hlt,trivial,[some 0],rfl,rfl,⟨⟨rfl,rfl,rfl,.inl ⟨congrArg Blk.rows e,(congrArg Blk.rows e) ▸ j3 _⟩⟩,trivial⟩,⟨⟨rfl,rfl,rfl,fun h=>h⟩,rfl,rfl,g9 om,trivial⟩⟩
 ·have hke:k=n:=by omega
  subst hke;conv=>whnf
  repeat' (first|refine zx ?_|apply zD<;>intro h<;>try omega)<;>conv=>whnf
  all_goals first|omega|exact N3 rfl (fun h=>h) rfl rfl (by simp [O9])
def b2R {P:Program} {g:FuncId} {args:List S} {H:Hp} {b:Blk} {r r':S} {rows:List (List T)} (h:e8 P g args [] r [b]) (ha:args=args.map (a5W [])) (hok:args.all (okS 0)=true) (hm:b.mode=.live) (hb:b.rows=toC rows) (hr:ay8 r=true)
 (hr':r'=a5W [H.length] r):e8 P g args H r' (H++[b]):=by
 have ex:a4x [] H.length (([b]:Hp).length - ([]:Hp).length)=[H.length]:=rfl;refine V3 [] h ha hok rfl ao9 zq (fun k hk=>?_) zq hr (by rw [ex];exact hr') zq ?_ ?_
 ·simp at hk;subst hk;rw [hm];intro h;cases h
 ·intro i k hk;rw [ex];rcases i with _|i
  ·injection hk with hk;subst hk
   refine ⟨b,?_,E0 hb⟩;show (H++[b])[H.length]? =_;rw [lbc (lbR _)];simp
  ·simp at hk
 ·intro j hj _;rw [lbb hj]
def b3l {P:Program} {g:FuncId} {args:List S} {H:Hp} {b:Blk} {cs:List C} {s2:S} {j lo len:Nat} {app:Bool} (h:e8 P g args [] (.tup [.agg cs,s2]) [b]) (ha:args.all S.isT=true) (hm:b.mode=.live) (hb:L4 b.rows)
 (hf:ay8 (.tup [.agg cs,s2])=true) (hj:cs[j]? =some (.own 0 lo len app)):a0k P g args H (a5W [H.length] (.tup [.agg cs,s2])) [b]:=by
 refine ⟨h.1,fun w ι M vals hl hv hH hM hf0=>?_⟩;have:=h.2 w (fun _=>none) M vals hl (fun j s hj=>(hv j s hj).tree (lbv.1 ha s (lbm hj)))
  ⟨zq,zq,zq,zq,zq⟩ hM (fun _ _=>rfl)
 refine Calls.mono this ?_;rintro e w' ⟨v,rfl,ι',M',h1,h2,h3,h4,h5⟩;have hnl:∀x,¬a4c (fun _=>none) ([]:Hp) x:=by rintro x ⟨id,k,_,_,hk,_⟩;simp at hk
 obtain ⟨l,hl0⟩:∃l,ι' 0=some l:=by
  cases h1 with
  |tup vs hl hr=>
   have h0:=hr 0 _ rfl;generalize vs.getD 0 undef=v0 at h0;cases h0 with
   |agg us hl hr=>
    have h9:=hr j _ hj;generalize us.getD j undef=v9 at h9;cases h9 with
    |own hi=>exact ⟨_,hi⟩
    |nil hi=>exact ⟨_,hi⟩
 have hnew:F9 ι H.length [b].length (fun _=>l) H.length=some l:=by unfold F9;simp
 have hMM:∀x,a6M M [b].length (fun _=>l) x->M' x:=by
  intro x hx;rcases hx with hx|⟨k,hk,cap,size,he⟩
  ·rcases h5.mold x hx with h|h
   ·exact h
   ·exact absurd h (hnl x)
  ·have he:l=.blk x cap size:=he;subst he;exact h2.liv 0 b rfl hm x cap size hl0
 refine ⟨v,rfl,fun _=>l,?_,⟨h5.os,h5.tape,h5.output,h5.size,fun x hx=>h5.keep x hx (hnl x)⟩,?_,?_,?_⟩
 ·refine RS.keep (w:=w') (ι:=F9 ι H.length [b].length (fun _=>l)) (M:=M') (fun _ _ _=>rfl) (fun x hx=>.inl (hMM x hx)) (fun _ _ h=>h) (RS.ren (σ:=[H.length]) (fun id l' hi=>?_) hf h1);rcases id with _|id
  ·rw [hl0] at hi;injection hi with hi;subst hi;exact hnew
  ·rw [h4 (id+1) zq] at hi;cases hi
 ·intro k blk hk;cases k with
  |succ k=>simp at hk
  |zero=>
   simp at hk;subst hk;refine ⟨hm,?_⟩;have hbr:=h2.blk 0 b rfl (by rw [hm];intro h;cases h) l hl0;cases l with
   |nil=>exact hbr
   |blk x cap size=>
    obtain ⟨r1,r2,r3,r4,r5,cur,r6,r7,r8⟩:=hbr;refine ⟨r1,r2,r3,r4,r5,cur,r6,r7,fun i j c hc=>?_⟩;obtain ⟨u,u1,u2⟩:=r8 i j c hc;exact ⟨u,u1,aA4 hMM hb hc u2⟩
 ·intro k x cap size hk he;have he:l=.blk x cap size:=he;subst he;refine ⟨?_,h3 x (h2.liv 0 b rfl hm x cap size hl0)⟩;rcases h5.live x ⟨0,b,cap,size,rfl,hm,hl0⟩ with h|h
  ·exact absurd h (hnl x)
  ·exact h
 ·intro k k' x cap size cap' size' hk hk' _ _;simp at hk hk';omega
structure a6m where
 hh:Int
 state:Int
 w:List Rat
 wo:List Rat
 pr:List Rat
def a6m.row (v:a6m):List T:=[ti v.hh,ti v.state,U4 (v.w.map fz),U4 (v.wo.map fz),U4 (v.pr.map fz)]
abbrev b8S (v:a6m):S:=.agg (v.row.map C.t)
def aQ7 {x:Rat}:sgR x > 0↔0<x:=by unfold sgR;split<;>(try split)<;>simp_all<;>grind
def b8q {x:Rat}:sgR x<0↔x<0:=by unfold sgR;split<;>(try split)<;>simp_all
structure b5t (s:m8) (g:List (Int × Rat)) (n B B1 B0:Nat):Prop where
 p:I3 s g n B
 q:I3 s (E3 g) n B1
 z:I3 s [] n B0
 g5:n7 (-1) 1500 g=true
 v:∀k,rl (n8 (g.take k) (s8 s g))<=50000
 u:∀k,rl (n8 ((E3 g).take k) (s8 s (E3 g)))<=50000
def a9F {s:m8} {g:List (Int × Rat)} {n B:Nat} (h:I3 s g n B):∀v ∈ s8 s g,rl v<=17000:=by
 intro v hv;have hb:=ad9 h;have hn:=h.nn;have hB:=h.bb;obtain ⟨j,hj,rfl⟩:=a9d hv;have hp:Z0 (j0 s).length s.n.toNat (F5 s g):=U7.p;rw [hn] at hj hp ⊢;rw [← ap6 hp hj];have key:∀k,k<=(j0 s).length->rl (ptK n (F5 s g).O (F5 s g).V (fun _=>0) k j)<=17000:=by
  intro k;induction k with
  |zero=>intro _;have:=rl0;show rl 0<=_;omega
  |succ k ih=>
   intro hk;rw [L2];simp only;split
   ·have:=hb.v k om;omega
   ·exact ih om
 exact key _ (lbR _)
noncomputable def bt0 (s:m8) (g:List (Int × Rat)) (hh:Int):a6m:=⟨hh,2,s8 s g,[],zOf s.rows.length (a3J s (F5 s g))++[((-1:Int):Rat)]⟩
def ak1 {s:m8} {g:List (Int × Rat)} {n B:Nat} (h:I3 s g n B) (hout:H9 s g=.best) (hS:∀k,rl (n8 (g.take k) (s8 s g))<=50000) (H:Hp):
 ec 141 [U9 s,s6 g] H (.tup [.agg (C.t (ti 0)::frC (fz (n8 g (s8 s g)))++[.t (U4 ((s8 s g).map fz)),.own H.length 0 s.rows.length true,.t (.sl 0 .nil [])]),eI 0]) (H++[flB (rF s.rows.length (a3J s (F5 s g)))]):=
 b2R (a51 s g n B h hout (fun k=>by have:=hS k;omega) (fun v hv=>by have:=a9F h v hv;omega)) rfl rfl rfl rfl rfl rfl
def b33 {R:Nat} {y:Nat->Rat} {x:Rat}:(toC ((rF R y).map B2)).take R++toC [B2 (fz x)]=toC (((zOf R y++[x]).map fz).map B2):=by
 have e:(zOf R y++[x]).map fz=rF R y++[fz x]:=by rw [lbC,a30];rfl
 rw [S9 (f:=B2) (l:=rF R y) (x:=fz x) (O9 R y).symm,e]
def b9o {s:m8} {g:List (Int × Rat)} {n B:Nat} (h:I3 s g n B) (hout:H9 s g=.best) (hS:∀k,rl (n8 (g.take k) (s8 s g))<=50000) (H:Hp):
 a0k Tryz.prog 141 [U9 s,s6 g] H (.tup [.agg (C.t (ti 0)::frC (fz (n8 g (s8 s g)))++[.t (U4 ((s8 s g).map fz)),.own H.length 0 s.rows.length true,.t (.sl 0 .nil [])]),eI 0]) [flB (rF s.rows.length (a3J s (F5 s g)))]:=
 b3l (j:=6) (lo:=0) (len:=s.rows.length) (app:=true) (a51 s g n B h hout (fun k=>by have:=hS k;omega) (fun v hv=>by have:=a9F h v hv;omega)) rfl rfl (j3 _) rfl rfl
def ap7 (s:m8) (g:List (Int × Rat)) (n B B1 B0:Nat) (h:b5t s g n B B1 B0) (hh:Int) (hout:H9 s g=.best) (hv:0<n8 g (s8 s g)):
 ec 75 [U9 s,s6 g,eI hh] [] (b8S (bt0 s g hh)) []:=by
 have le:=ak1 h.p hout h.v;have vb:=h.v g.length;rw [W6] at vb;have sg:=a2q (n8 g (s8 s g)) om;have sp:=aQ7.2 hv;have i1:=U1 (-1) de de;have hR:=h.p.r;refine ac Tryz.func75 ?_;conv=>whnf
 repeat' (first|refine av6 [0,1,2,3,4,5,7,6,8,9,10,11,12] zk zk ?_|refine zz ?_|refine qp sg ?_|refine qp i1 ?_|refine .inr ⟨_,_,le _,?_⟩|refine bl0 [5] ?_|refine z6 (by simp [toC,O9]) zu ?_|refine bl0 [0,1,6] ?_|refine bl0 [0,1] ?_|apply zD<;>intro h<;>try omega|refine zy ?_|fail)<;>conv=>whnf
 all_goals first|omega|exact p7 ⟨rfl,rfl,rfl,rfl,(show VC _ (fun id=>M3 [] id=true) (C.own 4 0 (s.rows.length+1) true) _ from w6 (k:={ mode:=.live,elem:=86,size:=4,rows:=(toC ((rF s.rows.length (a3J s (F5 s g))).map B2)).take s.rows.length++toC [B2 (fz ((-1:Int):Rat))],box:=false }) rfl rfl (fun h=>h) rfl b33 (by simp [zOf])),trivial⟩
noncomputable def aX0 (s:m8) (g:List (Int × Rat)) (c:Nat) (hh:Int):a6m:=⟨hh,1,zOf s.n.toNat fun j=>Q6 (j0 s).length s.n.toNat (F5 s []) 1 (fun _=>0) j+Q6 (j0 s).length s.n.toNat (F5 s (E3 g)) 0 (fun q=>if q=c then 1 else 0) j,s8 s g,[]⟩
noncomputable def bu0 (s:m8) (g:List (Int × Rat)) (hh:Int):a6m:=⟨hh,1,s8 s (E3 g),s8 s g,[]⟩
noncomputable def aR0 (s:m8) (g:List (Int × Rat)) (hh:Int):a6m:=⟨hh,0,[],s8 s g,zOf s.rows.length (a3J s (F5 s (E3 g)))⟩
def bi9 {s:m8} {g:List (Int × Rat)} {n B B0 c:Nat} (h:I3 s g n B) (h0:I3 s [] n B0) (hout:H9 s g=.col c) (hout0:H9 s []=.best) (H:Hp):
 a0k Tryz.prog 141 [U9 s,s6 g] H (.tup [.agg (C.t (ti 2)::bD6++[.t (U4 ((s8 s []).map fz)),.t (.sl 0 .nil []),.t (U4 ((a6p s g c).map fz))]),eI 0]) []:=
 I4 (aR4 s g n B B0 c h h0 hout hout0) rfl rfl
def by4 {s:m8} {g:List (Int × Rat)} {n B c:Nat} (h:I3 s g n B) (hc:c<n) {j:Nat} (hj:j<n):rl (Q6 (j0 s).length n (F5 s g) 0 (fun q=>if q=c then 1 else 0) j)<=17000:=by
 have hb:=ad9 h;have hB:=h.bb;have hp:Z0 (j0 s).length n (F5 s g):=by have hn:=h.nn;subst hn;exact U7.p
 rw [← aj7 hp hc hj];have key:∀k,k<=(j0 s).length->rl (ptK n (F5 s g).O (fun i=>-((F5 s g).A i c)) (fun j=>if (F5 s g).F c<n/\j=(F5 s g).F c then 1 else 0) k j)<=17000:=by
  intro k;induction k with
  |zero=>
   intro _;have:=rl0;have:=rl1;show rl (if _ then (1:Rat) else 0)<=_;split<;>omega
  |succ k ih=>
   intro hk;rw [L2];simp only;split
   ·rw [a39];have:=hb.a k om c hc;omega
   ·exact ih om
 exact key _ (lbR _)
def aD4 (s:m8) (g:List (Int × Rat)) (n B B1 B0 c:Nat) (h:b5t s g n B B1 B0) (hh:Int) (hout:H9 s g=.best) (hv:¬0<n8 g (s8 s g)) (hq:H9 s (E3 g)=.col c) (hz:H9 s []=.best):
 ec 75 [U9 s,s6 g,eI hh] [] (b8S (aX0 s g c hh)) []:=by
 have le:=ak1 h.p hout h.v;have vb:=h.v g.length;rw [W6] at vb;have sg:=a2q (n8 g (s8 s g)) om;have sp:¬sgR (n8 g (s8 s g)) > 0:=fun e=>hv (aQ7.1 e)
 have hR:=h.p.r;have op:=a8c g h.g5 h.p.gb;have l2:=bi9 h.q h.z hq hz;have hn:=h.p.nn;have hcn:c<n:=by have:=(a6V hq).1;omega
 have e1:(s8 s []).map fz=rF n (Q6 (j0 s).length n (F5 s []) 1 (fun _=>0)):=by unfold s8;rw [a30,hn]
 have e2:(a6p s (E3 g) c).map fz=rF n (Q6 (j0 s).length n (F5 s (E3 g)) 0 (fun q=>if q=c then 1 else 0)):=by unfold a6p;rw [a30,hn]
 have sm:=bx7 n (Q6 (j0 s).length n (F5 s []) 1 (fun _=>0)) (Q6 (j0 s).length n (F5 s (E3 g)) 0 (fun q=>if q=c then 1 else 0)) om h.p.o.n1
  (fun j hj=>by
    have:rl (Q6 (j0 s).length n (F5 s []) 1 (fun _=>0) j)<=17000:=a9F h.z _ (by unfold s8;rw [hn];exact lbx.2 ⟨j,lbB.2 hj,rfl⟩);omega)
  (fun j hj=>by have:=by4 h.q hcn hj;omega)
 rw [← e1,←e2] at sm;have e3:rF n (fun j=>Q6 (j0 s).length n (F5 s []) 1 (fun _=>0) j+Q6 (j0 s).length n (F5 s (E3 g)) 0 (fun q=>if q=c then 1 else 0) j)=(aX0 s g c hh).w.map fz:=by
  unfold aX0;simp only;rw [a30,hn]
 rw [e3] at sm;refine ac Tryz.func75 ?_;conv=>whnf
 repeat' (first|refine zx ?_|refine .inr ⟨_,_,le _,?_⟩|refine .inl ⟨_,_,l2 _,?_⟩|refine bl0 [5] ?_|refine bl0 [6] ?_|refine bl0 [0] ?_|apply zD<;>intro h<;>try omega)<;>conv=>whnf
 all_goals first|omega|exact p7 rz
def aX8 (s:m8) (g:List (Int × Rat)) (n B B1 B0:Nat) (h:b5t s g n B B1 B0) (hh:Int) (hout:H9 s g=.best) (hv:¬0<n8 g (s8 s g)) (hq:H9 s (E3 g)=.best) (hv2:n8 (E3 g) (s8 s (E3 g))<0):
 ec 75 [U9 s,s6 g,eI hh] [] (b8S (bu0 s g hh)) []:=by
 have le:=ak1 h.p hout h.v;have vb:=h.v g.length;rw [W6] at vb;have ub:=h.u (E3 g).length;rw [W6] at ub;have sg:=a2q (n8 g (s8 s g)) om;have sp:¬sgR (n8 g (s8 s g)) > 0:=fun e=>hv (aQ7.1 e)
 have sg2:=a2q (n8 (E3 g) (s8 s (E3 g))) om;have sp2:=b8q.2 hv2;have hR:=h.p.r;have op:=a8c g h.g5 h.p.gb;have l2:=b9o h.q hq h.u;refine ac Tryz.func75 ?_;conv=>whnf
 repeat' (first|refine zx ?_|refine .inr ⟨_,_,le _,?_⟩|refine .inl ⟨_,_,l2 _,?_⟩|refine bl0 [5] ?_|refine bl0 [6] ?_|refine bl0 [0] ?_|refine bl0 [0,1] ?_|apply zD<;>intro h<;>try omega)<;>conv=>whnf
 all_goals first|omega|exact p7 rz
def aB4 (s:m8) (g:List (Int × Rat)) (n B B1 B0:Nat) (h:b5t s g n B B1 B0) (hh:Int) (hout:H9 s g=.best) (hv:¬0<n8 g (s8 s g)) (hq:H9 s (E3 g)=.best) (hv2:¬n8 (E3 g) (s8 s (E3 g))<0):
 ec 75 [U9 s,s6 g,eI hh] [] (b8S (aR0 s g hh)) []:=by
 have le:=ak1 h.p hout h.v;have vb:=h.v g.length;rw [W6] at vb;have ub:=h.u (E3 g).length;rw [W6] at ub;have sg:=a2q (n8 g (s8 s g)) om;have sp:¬sgR (n8 g (s8 s g)) > 0:=fun e=>hv (aQ7.1 e)
 have sg2:=a2q (n8 (E3 g) (s8 s (E3 g))) om;have sp2:¬sgR (n8 (E3 g) (s8 s (E3 g)))<0:=fun e=>hv2 (b8q.1 e)
 have hR:=h.p.r;have op:=a8c g h.g5 h.p.gb;have l2:=b9o h.q hq h.u;refine ac Tryz.func75 ?_;conv=>whnf
 repeat' (first|refine zx ?_|refine .inr ⟨_,_,le _,?_⟩|refine .inl ⟨_,_,l2 _,?_⟩|refine bl0 [5] ?_|refine bl0 [6] ?_|refine bl0 [0] ?_|refine bl0 [0,1] ?_|apply zD<;>intro h<;>try omega)<;>conv=>whnf
 all_goals first|omega|exact p7 ⟨rfl,rfl,rfl,rfl,(show VC _ (fun id=>M3 [] id=true) (C.own 4 0 s.rows.length true) _ from w6 (k:=flB (rF s.rows.length (a3J s (F5 s (E3 g))))) rfl rfl (fun h=>h) rfl (by show toC ((rF s.rows.length (a3J s (F5 s (E3 g)))).map B2)=toC (((zOf s.rows.length (a3J s (F5 s (E3 g)))).map fz).map B2);rw [a30]) (by simp [zOf,aR0])),trivial⟩
structure bM4 where
 mv:Int
 mat:Int
def bM4.row (p:bM4):List T:=[ti p.mv,ti p.mat]
abbrev ir (n:Int):Rat:=((n:Int):Rat)
def b8I {n:Int} (h:-1000<=n/\n<=1000):rl (ir n)<=1:=by rw [a0G];have:=w5 (x:=n) om om;omega
instance:DecidableEq C5:=fun a b=>decidable_of_iff (a.terms=b.terms/\a.kind=b.kind/\a.value=b.value) ⟨fun ⟨h1,h2,h3⟩=>by cases a;cases b;simp_all,fun h=>by subst h;exact ⟨rfl,rfl,rfl⟩⟩
instance:DecidableEq m8:=fun a b=>decidable_of_iff (a.n=b.n/\a.rows=b.rows) ⟨fun ⟨h1,h2⟩=>by cases a;cases b;simp_all,fun h=>by subst h;exact ⟨rfl,rfl⟩⟩
def b1Y:rl ((1:Int):Rat)<=200/\rl ((-1:Int):Rat)<=200/\rl ((0:Int):Rat)<=200:=by
 refine ⟨?_,?_,?_⟩
 ·have:=b8I (n:=1) de;unfold ir at this;omega
 ·have:=b8I (n:=-1) de;unfold ir at this;omega
 ·have:=b8I (n:=0) de;unfold ir at this;omega
def aG2 (w:C5):Bool:=decide (w.terms.length<=100) && w.terms.all (fun t=>decide (rl t.2<=200)) && decide (rl w.value<=200)
def au5 {e:Ev} {p:Int}:∀k,(s7 e p k).all (fun t=>decide (rl t.2<=200))=true
 |0=>rfl
 |k+1=>by
  have ih:=au5 (e:=e) (p:=p) k;unfold s7;obtain ⟨p1,p2,p3⟩:=b1Y;split
  ·exact ih
  ·split
   ·rw [a0n,ih];simpa using p1
   ·split
    ·rw [a0n,ih];simpa using p2
    ·exact ih
def b3G {i:Nat} {kind:Int} {v:Rat} (h:rl v<=200):aG2 (E1 i kind v)=true:=by
 obtain ⟨p1,p2,p3⟩:=b1Y;unfold aG2 E1;simp [h];simpa using p1
def be6 {t:k8} {kind:Int} {i:Nat} {x:C6} (hx:t.ev.moves[i]? =some x) (hf:R7 t.ev t.finds=0) (hm:t.ev.moves.length<=14):(N2 t kind i x).all aG2=true:=by
 obtain ⟨p1,p2,p3⟩:=b1Y;have hi:i<t.ev.moves.length:=(lbe.1 hx).1;unfold N2;rw [a0n,a0n,a0n];simp only [lbN];refine ⟨⟨⟨?_,?_⟩,?_⟩,?_⟩
 ·split
  ·rfl
  ·simp only [aO7,List.all_nil,Bool.and_true];unfold aG2 C2;simp only [lbN,lbI];have hl:=a24 (e:=t.ev) (p:=x.src) i;refine ⟨⟨?_,?_⟩,p3⟩
   ·rw [lbq];simp;omega
   ·rw [a0n,au5];simpa using p2
 ·unfold a0a;split
  ·rfl
  ·rename_i lo hi' hiv;have h:=an8 (e:=t.ev) (x:=x) (by rw [hiv];rfl);have e:hiR (Q3 t.ev x)=hi':=by rw [hiv];rfl
   rw [e] at h;simpa using b3G h.2
 ·rw [List.all_map,lbv];intro g hg;unfold y3 at hg;obtain ⟨f,hf',rfl⟩:=lbx.1 hg;have:=a0L hf f (lby.1 hf').1;have hb:=T4 (x:=f.grams) om om;exact b3G (by rw [a0G];omega)
 ·rw [lbv];intro w hw;rw [a8Z] at hw;rw [hw.2];exact b3G p3
def bN5 {t:k8} {kind:Int} (ht:t9 t=0) (hm:t.ev.moves.length<=14):b23 (p6 t kind):=by
 obtain ⟨q1,q2,q3,q4,q5⟩:=F3 ht;have hall:(v7 t kind t.ev.moves.length).all aG2=true:=(a06 _ (lbR _)).2 fun i x hi hx=>be6 hx q4 hm
 refine ⟨?_,fun w hw=>?_⟩
 ·have:=a89 (t:=t) (kind:=kind) (k:=t.ev.moves.length) om q2 q3;show (v7 t kind t.ev.moves.length).length<=_;omega
 ·have:=lbv.1 hall w hw;unfold aG2 at this;simp only [lbN,lbI,lbv] at this;exact ⟨this.1.1,this.1.2,this.2⟩
def a67 {x:Int} (h0:-1000000000000000000<=x) (h1:x<=1000000000000000000):bl x<=3:=P9 (by simp only [pw];omega)
def bf4 {c:P5} {reading day:Int} (h:O0 c day=true) (hr:btw reading 0 1099511627776=true):rl (a3n c reading day)<=7:=by
 unfold O0 U3 at h;rw [a0d] at hr;simp only [lbN,lbI,a0d] at h;obtain ⟨⟨⟨⟨⟨⟨⟨h1,h2⟩,h3⟩,_⟩,h4⟩,h5⟩,h6⟩,h7⟩:=h;have e1:0<=c.permille*reading:=lb0 om om;have e2:c.permille*reading<=1000*1099511627776:=a5E om om om om;have e3:0<=c.drift*(day - c.since):=lb0 om om;have e4:c.drift*(day - c.since)<=10000000*100000:=a5E om om om om;have b1:=a67 (x:=c.permille*reading) om om;have b2:=a67 (x:=1000) de de;have b3:=a67 (x:=c.grams+c.drift*(day - c.since)) om om;have l1:=X4 (p:=c.permille*reading) (q:=1000) de;have l2:=a40 (Rat.divInt (c.permille*reading) 1000) ((c.grams+c.drift*(day - c.since):Int):Rat);have l3:rl ((c.grams+c.drift*(day - c.since):Int):Rat)<=3:=by
  rw [a0G];omega
 unfold a3n;omega
def b9M {cs:List P5} {rs:List J1} {scale reading day:Int} {lo hi:Rat} (h:R4 cs rs scale reading day=some (lo,hi)):rl hi<=11:=by
 unfold R4 at h;split at h
 ·cases h
 ·rename_i i hi;obtain ⟨hb,c,hc,_,hcv⟩:=Q8 hi;have e:a2d cs i=c:=by unfold a2d;rw [hc];rfl
  rw [e] at h;split at h
  ·cases h
  ·split at h
   ·rename_i hr;injection h with h;injection h with h1 h2;have l1:=bf4 hcv hr;rw [a0d] at hr;have l2:rl (reading:Rat)<=3:=by rw [a0G];have:=a67 (x:=reading) om om;omega
    have l3:=a40 (reading:Rat) (a3n c reading day);rw [← h2];omega
   ·cases h
def I5 (l:List (Int × Rat)):Prop:=∀t ∈ l,∃c:Int,t.2=((c:Int):Rat)/\bl c<=1
def S7 {i:Int} {c:Int} (h0:-1048575<=c) (h1:c<=1048575):I5 [(i,((c:Int):Rat))]:=by
 intro t ht;simp at ht;subst ht;exact ⟨c,rfl,w5 h0 h1⟩
def a6Y {a b:List (Int × Rat)} (ha:I5 a) (hb:I5 b):I5 (a++b):=by
 intro t ht;rcases lbz.1 ht with h|h
 ·exact ha t h
 ·exact hb t h
def a41 {e:Ev} {p:Int}:∀k,I5 (s7 e p k)
 |0=>by intro t ht;cases ht
 |k+1=>by
  have ih:=a41 (e:=e) (p:=p) k;unfold s7;split
  ·exact ih
  ·split
   ·exact a6Y ih (S7 de de)
   ·split
    ·exact a6Y ih (S7 de de)
    ·exact ih
def bI8 {t:k8} {kind:Int} (ht:t9 t=0):∀w ∈ (p6 t kind).rows,b5r 11 w:=by
 classical
 obtain ⟨q1,q2,q3,q4,q5⟩:=F3 ht;have z1:rl ((0:Int):Rat)<=11:=by have:=rl0;show rl 0<=_;omega
 have key:(v7 t kind t.ev.moves.length).all (fun w=>decide (b5r 11 w))=true:=(a06 _ (lbR _)).2 fun i x hi hx=>by
  rw [lbv];intro w hw;refine lbH ?_;unfold N2 at hw;rw [lbz,lbz,lbz] at hw;rcases hw with ((hw|hw)|hw)|hw
  ·split at hw
   ·cases hw
   ·simp at hw;subst hw;exact ⟨a6Y (a41 _) (S7 de de),z1⟩
  ·unfold a0a at hw;split at hw
   ·cases hw
   ·rename_i lo hi' hiv;simp at hw;subst hw;refine ⟨S7 de de,?_⟩;unfold Q3 at hiv;split at hiv
    ·cases hiv
    ·exact b9M hiv
  ·obtain ⟨g,hg,rfl⟩:=lbx.1 hw;unfold y3 at hg;obtain ⟨f,hf',rfl⟩:=lbx.1 hg;have:=a0L q4 f (lby.1 hf').1;refine ⟨S7 de de,?_⟩;show rl ((f.grams:Int):Rat)<=11;rw [a0G];have:=a67 (x:=f.grams) om om;have h1:bl 1<=1:=w5 de de;omega
  ·rw [a8Z] at hw;rw [hw.2];exact ⟨S7 de de,z1⟩
 intro w hw;exact lbL (lbv.1 key w hw)
def bK9 {s:m8} {g:List (Int × Rat)} {B0:Nat} (hI:∀w ∈ s.rows,b5r B0 w) (hg:I5 g):∀D,O8 (j0 s).length s.n.toNat (k9 s g) D->BdD (j0 s).length s.n.toNat (2 ^ s.n.toNat*(B0+4)) D:=by
 rintro D ⟨k,hk⟩;have inv:=a0c U0 hk;have h0:=b5U (g:=g) hI;refine ⟨fun i hi=>bn5 h0 om inv.p inv.i hi,fun i hi j hj=>bf9 h0 om inv.p inv.i hi hj,fun j hj=>?_⟩;obtain ⟨z,hz⟩:=inv.g;have hc:∀j,∃c:Int,L7 g j=((c:Int):Rat)/\bl c<=1:=fun j=>a2Z hg g.length j
 refine be4 h0 om inv.p inv.i hz (q:=1) (b:=fun l=>-(Classical.choose (hc l))) de (by have:=w5 (x:=1) de de;omega) (fun l hl=>?_) (fun l hl=>?_) hj
 ·have:=(a8f (hc l)).2;show bl (-(Classical.choose (hc l)))<=_;rw [a7k];omega
 ·have hs:=(a8f (hc l)).1;show ((1:Int):Rat)*-(L7 g l)=((-(Classical.choose (hc l)):Int):Rat);generalize Classical.choose (hc l)=x at hs ⊢;rw [hs];have e:((-x:Int):Rat)=-((x:Int):Rat):=by push_cast;rfl
  rw [e];have h1:((1:Int):Rat)=1:=rfl;rw [h1];grind
def a61 {l:List (Int × Rat)} {z:List Rat} {B:Nat} (h1:∀t ∈ l,rl t.2<=1) (h2:∀v ∈ z,rl v<=B):∀k,rl (n8 (l.take k) z)<=l.length*(B+4)+1:=by
 have key:∀k,k<=l.length->rl (n8 (l.take k) z)<=k*(B+4)+1:=by
  intro k;induction k with
  |zero=>intro _;rw [a81];have:=rl0;show rl 0<=_;omega
  |succ k ih=>
   intro hk;have ih:=ih om;rw [aR1 (show k<l.length by omega),K8];have a1:=h1 l[k] (lbE _);have a2:rl (z.getD l[k].1.toNat 0)<=B+1:=by
    by_cases hz:l[k].1.toNat<z.length
    ·have:=h2 _ (lbm (getD_some hz));omega
    ·rw [lbl,lbd om];have:=rl0;show rl 0<=_;omega
   have a3:=aW5 l[k].2 (z.getD l[k].1.toNat 0);have a4:=a40 (n8 (l.take k) z) (l[k].2*z.getD l[k].1.toNat 0);rw [lbV];omega
 intro k;by_cases hk:k<=l.length
 ·have h3:=key k hk;have h4:=lbU (B+4) hk;omega
 ·have h3:=key l.length (lbR _);rw [lbn (lbR _)] at h3;rw [lbn om];exact h3
def P3 {l:List (Int × Rat)} (h:I5 l):∀t ∈ l,rl t.2<=1:=by
 intro t ht;obtain ⟨c,hc,hb⟩:=h t ht;rw [hc,a0G];have h1:bl 1<=1:=w5 de de;omega
def b3r:∀n,n<=8->(n+3)*(2 ^ n*15+2)<=50000/\n*(2 ^ n*15+4)+1<=50000/\1<=2 ^ n*15:=by
 intro n hn;have:∀n,n<9->(n+3)*(2 ^ n*15+2)<=50000/\n*(2 ^ n*15+4)+1<=50000/\1<=2 ^ n*15:=de;exact this n om
def Q2 {t:k8} {kind:Int} (ht:t9 t=0) (hm:t.ev.moves.length<=8) {g:List (Int × Rat)} (hg:n7 (-1) (t.ev.moves.length:Nat) g=true) (hw:I5 g):
 I3 (p6 t kind) g t.ev.moves.length (2 ^ t.ev.moves.length*15):=by
 obtain ⟨q1,q2,q3,q4,q5⟩:=F3 ht;have hB:=bN5 (kind:=kind) ht om;have hl:(p6 t kind).rows.length<=576:=by
  have h1:=O1 (t:=t) (kind:=kind) t.ev.moves.length;have h2:t.ev.moves.length*(2+t.finds.length+t.cleans.length)<=8*72:=lbT hm om;show (v7 t kind t.ev.moves.length).length<=_;omega
 have hwr:=P3 hw;refine ⟨⟨a2A om q2 q3,hg,rfl,om,fun w hw=>?_,fun t ht=>by have:=hwr t ht;omega,om⟩,hB,fun t ht=>by have:=hwr t ht;omega,?_,(b3r _ hm).2.2,(b3r _ hm).1,om⟩
 ·obtain ⟨a1,a2,a3⟩:=hB.t w hw;exact ⟨om,fun t ht=>by have:=a2 t ht;omega⟩
 ·exact bK9 (B0:=11) (bI8 ht) hw
def a9Q {s:m8} {g:List (Int × Rat)} {n B:Nat} (h:I3 s g n B):∀v ∈ s8 s g,rl v<=B:=by
 intro v hv;have hb:=ad9 h;have hn:=h.nn;have h1:=h.b1;obtain ⟨j,hj,rfl⟩:=a9d hv;have hp:Z0 (j0 s).length s.n.toNat (F5 s g):=U7.p;rw [hn] at hj hp ⊢;rw [← ap6 hp hj];have key:∀k,k<=(j0 s).length->rl (ptK n (F5 s g).O (F5 s g).V (fun _=>0) k j)<=B:=by
  intro k;induction k with
  |zero=>intro _;have:=rl0;show rl 0<=_;omega
  |succ k ih=>
   intro hk;rw [L2];simp only;split
   ·exact hb.v k om
   ·exact ih om
 exact key _ (lbR _)
def a78 {l:List (Int × Rat)} (h:I5 l):I5 (E3 l):=by
 intro t ht;obtain ⟨u,hu,rfl⟩:=lbx.1 ht;obtain ⟨c,hc,hb⟩:=h u hu;refine ⟨-c,?_,by rw [a7k];exact hb⟩;show u.2*((-1:Int):Rat)=((-c:Int):Rat);rw [hc];have e:((-c:Int):Rat)=-((c:Int):Rat):=by push_cast;rfl
 have e1:((-1:Int):Rat)=-1:=rfl;rw [e,e1];grind
def a2C {n:Int}:∀{l:List (Int × Rat)} {last:Int},n7 last n l=true->n7 last n (E3 l)=true
 |[],_,_=>rfl
 |a::r,last,h=>by
  unfold n7 at h;show n7 last n ((a.1,a.2*((-1:Int):Rat))::E3 r)=true;unfold n7;simp only [lbN,lbI] at h ⊢;refine ⟨⟨⟨h.1.1.1,h.1.1.2⟩,fun e=>h.1.2 ?_⟩,a2C h.2⟩;have e1:((-1:Int):Rat)=-1:=rfl;rw [e1] at e;grind
def a3w (l:List (Int × Rat)):(E3 l).length=l.length:=a2T _ _
def b2P {t:k8} {kind:Int} (ht:t9 t=0) (hm:t.ev.moves.length<=8) {g:List (Int × Rat)} (hg:n7 (-1) (t.ev.moves.length:Nat) g=true) (hw:I5 g):
 b5t (p6 t kind) g t.ev.moves.length (2 ^ t.ev.moves.length*15) (2 ^ t.ev.moves.length*15) (2 ^ t.ev.moves.length*15):=by
 have p:=Q2 (kind:=kind) ht hm hg hw;have q:=Q2 (kind:=kind) ht hm (a2C hg) (a78 hw);have z:=Q2 (kind:=kind) ht hm (g:=[]) rfl (fun t ht=>by cases ht);have hl:g.length<=t.ev.moves.length:=by
  have:=D9 hg;omega
 have hp:=(b3r _ hm).2.1;have hmul:=lbU (2 ^ t.ev.moves.length*15+4) hl;refine ⟨p,q,z,ag6 om hg,fun k=>?_,fun k=>?_⟩
 ·have:=a61 (P3 hw) (a9Q p) k;omega
 ·have:=a61 (P3 (a78 hw)) (a9Q q) k;rw [a3w] at this;omega
noncomputable def a25 (s:m8) (g:List (Int × Rat)) (hh:Int):a6m:=
 open Classical in
 if 0<n8 g (s8 s g) then bt0 s g hh else match H9 s (E3 g) with
 |.col c=>aX0 s g c hh
 |_=>if n8 (E3 g) (s8 s (E3 g))<0 then bu0 s g hh else aR0 s g hh
def a6g {z:List Rat} (hz:∀v ∈ z,0<=v):∀l:List (Int × Rat),(∀ t ∈ l,0<=t.2)->0<=n8 l z:=by
 intro l hl;have key:∀k,k<=l.length->0<=n8 (l.take k) z:=by
  intro k;induction k with
  |zero=>intro _;rw [a81];exact lb3
  |succ k ih=>
   intro hk;have ih:=ih om;rw [aR1 (show k<l.length by omega),K8];have h1:=hl l[k] (lbE _);have h2:0<=z.getD l[k].1.toNat 0:=by
    by_cases hlt:l[k].1.toNat<z.length
    ·exact hz _ (lbm (getD_some hlt))
    ·rw [lbl,lbd om];exact lb3
   have h3:=lb1 h1 h2;grind
 have:=key l.length (lbR _);rwa [W6] at this
def aJ7 {s:m8} {g:List (Int × Rat)} (hr:q9 s=true) (hg:n7 (-1) ((s.n.toNat:Nat):Int) g=true) (hp:∀t ∈ g,0<=t.2) (hz:H9 s []=.best):H9 s g=.best:=by
 rcases a4v s g with h|⟨r,h⟩|⟨c,h⟩
 ·exact h
 ·have h1:=(Z9 hr rfl hz).1;rw [a5a h] at h1;cases h1
 ·obtain ⟨h1,h2⟩:=a77 hr hg h;have:=a6g h1.pos g hp;exact absurd h2 zg
def not_row {s:m8} {g:List (Int × Rat)} (hr:q9 s=true) (hz:H9 s []=.best):H9 s g=.best\/∃c,H9 s g=.col c:=by
 rcases a4v s g with h|⟨r,h⟩|h
 ·exact .inl h
 ·have h1:=(Z9 hr rfl hz).1;rw [a5a h] at h1;cases h1
 ·exact .inr h
def b6m (s:m8) (g:List (Int × Rat)) (n B B1 B0:Nat) (h:b5t s g n B B1 B0) (hh:Int) (hp:∀t ∈ g,0<=t.2) (hz:H9 s []=.best):
 ec 75 [U9 s,s6 g,eI hh] [] (b8S (a25 s g hh)) []:=by
 have hn:=h.p.nn;have hg:n7 (-1) ((s.n.toNat:Nat):Int) g=true:=by rw [hn];exact h.p.o.tg
 have hb:=aJ7 h.p.o.r hg hp hz;unfold a25;by_cases h1:0<n8 g (s8 s g)
 ·rw [iA h1];exact ap7 s g n B B1 B0 h hh hb h1
 ·rw [iB h1];rcases not_row (g:=E3 g) h.p.o.r hz with h2|⟨c,h2⟩
  ·rw [h2];simp only;by_cases h3:n8 (E3 g) (s8 s (E3 g))<0
   ·rw [iA h3];exact aX8 s g n B B1 B0 h hh hb h1 h2 h3
   ·rw [iB h3];exact aB4 s g n B B1 B0 h hh hb h1 h2 h3
  ·rw [h2];exact aD4 s g n B B1 B0 c h hh hb h1 h2 hz
def ah3 (v:Rat):Prop:=∃z:Int,((1000:Nat):Rat)*v=((z:Int):Rat)/\z.natAbs<=2305843009213693952
def b9V (w:C5):Prop:=I5 w.terms/\ah3 w.value
def b6h {x:Int} (h0:-1000000000000000<=x) (h1:x<=1000000000000000):ah3 ((x:Int):Rat):=⟨1000*x,by push_cast;rfl,om⟩
def a5y:ah3 0:=⟨0,by show _=(0:Rat);grind,de⟩
def b5x {x:Rat} (h:ah3 x):ah3 (-x):=by
 obtain ⟨z,h1,h2⟩:=h;exact ⟨-z,by push_cast;rw [← h1];grind,by rw [a2h];exact h2⟩
def b8p {cs:List P5} {rs:List J1} {scale reading day:Int} {lo hi:Rat} (h:R4 cs rs scale reading day=some (lo,hi)):ah3 hi:=by
 unfold R4 at h;split at h
 ·cases h
 ·rename_i i hi;obtain ⟨hb,c,hc,_,hcv⟩:=Q8 hi;have e:a2d cs i=c:=by unfold a2d;rw [hc];rfl
  rw [e] at h;split at h
  ·cases h
  ·split at h
   ·rename_i hr;injection h with h;injection h with h1 h2;rw [← h2];unfold O0 U3 at hcv;rw [a0d] at hr;simp only [lbN,lbI,a0d] at hcv;obtain ⟨⟨⟨⟨⟨⟨⟨h1,h2⟩,h3⟩,_⟩,h4⟩,h5⟩,h6⟩,h7⟩:=hcv;have e1:0<=c.permille*reading:=lb0 om om;have e2:c.permille*reading<=1000*1099511627776:=a5E om om om om;have e3:0<=c.drift*(day - c.since):=lb0 om om;have e4:c.drift*(day - c.since)<=10000000*100000:=a5E om om om om;refine ⟨1000*reading+(c.permille*reading+1000*(c.grams+c.drift*(day - c.since))),?_,om⟩;unfold a3n;have e5:((1000:Nat):Rat)*Rat.divInt (c.permille*reading) 1000=((c.permille*reading:Int):Rat):=by
     rw [a80];have:((1000:Nat):Rat)=((1000:Int):Rat):=rfl;rw [this];rw [ad8,←a9X,ap3 (((1000:Int):Rat)),a9X,b1V _ de];grind
    have e6:((1000:Nat):Rat)*((reading:Rat)+(Rat.divInt (c.permille*reading) 1000+((c.grams+c.drift*(day - c.since):Int):Rat)))=((1000:Nat):Rat)*(reading:Rat)+(((1000:Nat):Rat)*Rat.divInt (c.permille*reading) 1000+((1000:Nat):Rat)*((c.grams+c.drift*(day - c.since):Int):Rat)):=zg;rw [e6,e5];push_cast;rfl
   ·cases h
def bs1 {t:k8} {kind:Int} (ht:t9 t=0):∀w ∈ (p6 t kind).rows,b9V w:=by
 classical
 obtain ⟨q1,q2,q3,q4,q5⟩:=F3 ht;have key:(v7 t kind t.ev.moves.length).all (fun w=>decide (b9V w))=true:=(a06 _ (lbR _)).2 fun i x hi hx=>by
  rw [lbv];intro w hw;refine lbH ?_;unfold N2 at hw;rw [lbz,lbz,lbz] at hw;rcases hw with ((hw|hw)|hw)|hw
  ·split at hw
   ·cases hw
   ·simp at hw;subst hw;exact ⟨a6Y (a41 _) (S7 de de),a5y⟩
  ·unfold a0a at hw;split at hw
   ·cases hw
   ·rename_i lo hi' hiv;simp at hw;subst hw;refine ⟨S7 de de,?_⟩;unfold Q3 at hiv;split at hiv
    ·cases hiv
    ·exact b8p hiv
  ·obtain ⟨g,hg,rfl⟩:=lbx.1 hw;unfold y3 at hg;obtain ⟨f,hf',rfl⟩:=lbx.1 hg;have:=a0L q4 f (lby.1 hf').1;exact ⟨S7 de de,b6h om om⟩
  ·rw [a8Z] at hw;rw [hw.2];exact ⟨S7 de de,a5y⟩
 intro w hw;exact lbL (lbv.1 key w hw)
def a5o {c:Int} (h:bl c<=1):c.natAbs<=1048575:=by
 have h1:=T2 c.natAbs;have h2:(dg c.natAbs).length<=1:=h;have h3:pw (dg c.natAbs).length<=pw 1:=by
  have:(dg c.natAbs).length=0\/(dg c.natAbs).length=1:=om;rcases this with h|h<;>rw [h]
  ·decide
  ·exact ap1 _
 have h4:pw 1=1048576:=de;omega
def aY6 {b:Bool} {x:Rat} {c:Int} (h:x=((c:Int):Rat)):∃c':Int,Y1 b x=((c':Int):Rat)/\c'.natAbs=c.natAbs:=by
 cases b with
 |false=>exact ⟨c,h,rfl⟩
 |true=>exact ⟨-c,by show -x=_;rw [h];push_cast;rfl,a2h c⟩
def a9u {s:m8} {g:List (Int × Rat)}:Z5 (j0 s).length s.n.toNat (k9 s g):=⟨fun _ _=>rfl,fun _ _=>rfl⟩
def b5R {s:m8} {g:List (Int × Rat)} (hI:∀w ∈ s.rows,b9V w) (hg:I5 g):aE1 (j0 s).length s.n.toNat 1000 2305843009213693952 1048575 1048575 (k9 s g) (fun j=>-(L7 g j)) where
 k:=de
 v:=fun i hi=>by
  obtain ⟨f,hf⟩:∃f,(j0 s)[i]? =some f:=⟨_,lbf hi⟩;obtain ⟨x,hx,_⟩:=X5.1 (lbm hf);have h2:=(hI x (lbm hx)).2;have hfd:(j0 s).getD i (0,false)=f:=by rw [lbl,hf];rfl
  have eV:(k9 s g).V i=Y1 f.2 x.value:=by show a3I s ((j0 s).getD i (0,false))=_;rw [hfd];unfold a3I;rw [hx]
  rw [eV];cases f.2 with
  |false=>exact h2
  |true=>exact b5x h2
 a:=fun i j hi hj=>by
  obtain ⟨f,hf⟩:∃f,(j0 s)[i]? =some f:=⟨_,lbf hi⟩;obtain ⟨x,hx,_⟩:=X5.1 (lbm hf);have h1:=(hI x (lbm hx)).1;have hfd:(j0 s).getD i (0,false)=f:=by rw [lbl,hf];rfl
  have eA:(k9 s g).A i j=Y1 f.2 (L7 x.terms j):=by show a3u s ((j0 s).getD i (0,false)) j=_;rw [hfd];unfold a3u;rw [hx]
  rw [eA];obtain ⟨c,hc,hb⟩:=a2Z h1 x.terms.length j;obtain ⟨c',hc',hb'⟩:=aY6 (b:=f.2) (x:=L7 x.terms j) hc;exact ⟨c',hc',by rw [hb'];exact a5o hb⟩
 g:=fun j hj=>by
  obtain ⟨c,hc,hb⟩:=a2Z hg g.length j;exact ⟨-c,by rw [show L7 g j=((c:Int):Rat) from hc];push_cast;rfl,by rw [a2h];exact a5o hb⟩
 a1:=de
 ag:=de
def b61:∀n,n<10->((a4U (n+1) fun c=>if c=0 then 2305843009213693952 else 1048575:Nat):Int)<pw 15/\((a4U n fun _=>1048575:Nat):Int)<pw 15/\((1000*a4U n fun _=>1048575:Nat):Int)<pw 15:=by decide +kernel
structure M5 (s:m8):Prop where
 r:q9 s=true
 i:∀w ∈ s.rows,b9V w
 n:s.n<=9
 l:s.rows.length<=999
def b76 {s:m8} {g:List (Int × Rat)} (h:M5 s) (hg:I5 g):∀D,O8 (j0 s).length s.n.toNat (k9 s g) D->BdD (j0 s).length s.n.toNat 15 D:=by
 intro D hD;have hn:=V4 h.r;have:=h.n;obtain ⟨p1,p2,p3⟩:=b61 s.n.toNat om;obtain ⟨b1,b2,b3⟩:=aA1 a9u (b5R h.i hg) U0 hD p1 p2 p3 p2;exact ⟨b1,fun i hi j hj=>b2 i j hi hj,b3⟩
def scT (d:Int) (l:List (Int × Rat)):List (Int × Rat):=l.map fun t=>(t.1,((d:Int):Rat)*t.2)
def S3 (w:C5):C5:=⟨scT (w.value.den:Int) w.terms,w.kind,((w.value.num:Int):Rat)⟩
def k7 (s:m8):m8:=⟨s.n,s.rows.map S3⟩
def aF7 {d:Int} (hd:0<d):∀{last n:Int} {l:List (Int × Rat)},n7 last n (scT d l)=n7 last n l
 |_,_,[]=>rfl
 |last,n,a::r=>by
  have hq:((d:Int):Rat)≠0:=by intro h;have:d=0:=by exact_mod_cast h
                              omega
  show (decide (last<a.1) && decide (a.1<n) && decide (((d:Int):Rat)*a.2≠0) && n7 a.1 n (scT d r))=(decide (last<a.1) && decide (a.1<n) && decide (a.2≠0) && n7 a.1 n r);rw [aF7 hd]
  congr 2
  by_cases h:a.2=0
  ·rw [h];have:((d:Int):Rat)*0=0:=by grind
   simp [this]
  ·have:((d:Int):Rat)*a.2≠0:=fun e=>by rcases ay7.1 e with e|e<;>contradiction
   simp [h,this]
def a1h (x:Rat):(0:Int)<(x.den:Int):=by have:=x.den_pos;omega
def b15 (n:Int) (w:C5):A6 n (S3 w)=A6 n w:=by
 unfold A6;show (n7 (-1) n (scT _ w.terms) && _ && _)=_;rw [aF7 (a1h _)];rfl
def a6h (s:m8):q9 (k7 s)=q9 s:=by
 unfold q9 k7;simp only [lbr,List.all_map];have e:(A6 s.n ∘ S3)=A6 s.n:=by funext w;exact b15 s.n w
 rw [e]
def b4H {d:Int} (z:List Rat) (l:List (Int × Rat)):n8 (scT d l) z=((d:Int):Rat)*n8 l z:=by
 have key:∀k,k<=l.length->n8 ((scT d l).take k) z=((d:Int):Rat)*n8 (l.take k) z:=by
  intro k;induction k with
  |zero=>intro _;show ((0:Int):Rat)=_*((0:Int):Rat);have:((0:Int):Rat)=0:=rfl
         rw [this];grind
  |succ k ih=>
   intro hk;obtain ⟨t,ht⟩:∃t,l[k]? =some t:=⟨_,lbf om⟩;have ht2:(scT d l)[k]? =some (t.1,((d:Int):Rat)*t.2):=by unfold scT;rw [lba,ht];rfl
   rw [K7 ht,K7 ht2,K8,K8,ih om];grind
 have h:=key l.length (lbR _);rw [W6,lbn (by simp [scT])] at h;exact h
def b6U {w:C5} {z:List Rat}:((S3 w).kind≠1->(S3 w).value<=n8 (S3 w).terms z)/\((S3 w).kind≠0->n8 (S3 w).terms z<=(S3 w).value)↔(w.kind≠1->w.value<=n8 w.terms z)/\(w.kind≠0->n8 w.terms z<=w.value):=by
 have hd:(0:Rat)<(((w.value.den:Int):Int):Rat):=by exact_mod_cast a1h w.value
 have e1:(S3 w).value=(((w.value.den:Int):Int):Rat)*w.value:=(aj9 w.value).symm;have e2:n8 (S3 w).terms z=(((w.value.den:Int):Int):Rat)*n8 w.terms z:=b4H z w.terms;have k:(S3 w).kind=w.kind:=rfl;rw [k,e1,e2];have m1:∀x y:Rat,(((w.value.den:Int):Int):Rat)*x<=(((w.value.den:Int):Int):Rat)*y↔x<=y:=fun x y=>by
  constructor
  ·intro h;apply Y9;intro hn;have:0<x - y:=zg;have:=lb2 hd this;grind
  ·intro h;exact Rat.mul_le_mul_of_nonneg_left h zg
 rw [m1,m1]
theorem sc_holds (s:m8) (z:List Rat):k6 (k7 s) z=true↔k6 s z=true:=by
 rw [X7,X7,a6h];have e:(∀ w ∈ (k7 s).rows,(w.kind≠1->w.value<=n8 w.terms z)/\(w.kind≠0->n8 w.terms z<=w.value))↔∀w ∈ s.rows,(w.kind≠1->w.value<=n8 w.terms z)/\(w.kind≠0->n8 w.terms z<=w.value):=by
  constructor
  ·intro h w hw;exact b6U.1 (h (S3 w) (List.mem_map_of_mem hw))
  ·intro h w hw;obtain ⟨w0,hw0,rfl⟩:=lbx.1 hw;exact b6U.2 (h w0 hw0)
 rw [e];rfl
def as8 {s:m8} {i:Nat} {w:C5} (h:s.rows[i]? =some w):(k7 s).rows[i]? =some (S3 w):=by
 show (s.rows.map S3)[i]? =_;rw [lba,h];rfl
def b9T {s:m8} {w:C5} (h:w ∈ (k7 s).rows):∃w0 ∈ s.rows,w=S3 w0:=by
 obtain ⟨w0,h1,rfl⟩:=lbx.1 h;exact ⟨w0,h1,rfl⟩
def a4h {v:Rat} (h:ah3 v):(v.den:Int)<=1000/\v.num.natAbs<=2305843009213693952:=by
 obtain ⟨z,h1,h2⟩:=h;have hd:=a1h v;have hm:=aj9 v;have e:1000*v.num=z*(v.den:Int):=by
  have:(((1000*v.num:Int):Int):Rat)=((z*(v.den:Int):Int):Rat):=by
   push_cast;rw [← h1];have hm2:((v.num:Int):Rat)=(((v.den:Int):Int):Rat)*v:=hm.symm;rw [hm2];have:((1000:Nat):Rat)=1000:=rfl;rw [this];push_cast;grind
  exact_mod_cast this
 have hdv:(v.den:Int) ∣ 1000*v.num:=⟨z,by rw [e,a7J]⟩;have hcop:Int.gcd (v.den:Int) v.num=1:=by
  have:=v.reduced;rw [Int.gcd_comm];exact this
 have hd1000:(v.den:Int) ∣ 1000:=by
  have h1:v.den ∣ 1000*v.num.natAbs:=by
   have:=Int.natAbs_dvd_natAbs.2 hdv;rwa [a3r] at this
  have h2:Nat.Coprime v.den v.num.natAbs:=by
   have:=v.reduced;exact this.symm
  have h3:v.den ∣ 1000:=h2.dvd_of_dvd_mul_right h1;exact Int.natCast_dvd_natCast.2 h3
 have hle:=Int.le_of_dvd de hd1000;refine ⟨hle,?_⟩;have e2:1000*v.num.natAbs=z.natAbs*v.den:=by
  have:=congrArg Int.natAbs e;rw [a3r,a3r] at this;exact this
 have:z.natAbs*v.den<=2305843009213693952*1000:=lbT h2 om;omega
def b9G {s:m8} {g:List (Int × Rat)} (hI:∀w ∈ s.rows,b9V w) (hg:I5 g):aE1 (j0 (k7 s)).length (k7 s).n.toNat 1 2305843009213693952 1048575000 1048575000 (k9 (k7 s) g) (fun j=>-(L7 g j)) where
 k:=de
 v:=fun i hi=>by
  obtain ⟨f,hf⟩:∃f,(j0 (k7 s))[i]? =some f:=⟨_,lbf hi⟩;obtain ⟨x,hx,_⟩:=X5.1 (lbm hf);obtain ⟨x0,hx0,rfl⟩:=b9T (lbm hx);have h2:=(a4h (hI x0 hx0).2).2;have hfd:(j0 (k7 s)).getD i (0,false)=f:=by rw [lbl,hf];rfl
  have eV:(k9 (k7 s) g).V i=Y1 f.2 (S3 x0).value:=by show a3I (k7 s) ((j0 (k7 s)).getD i (0,false))=_;rw [hfd];unfold a3I;rw [hx]
  rw [eV];obtain ⟨c',hc',hb'⟩:=aY6 (b:=f.2) (x:=(S3 x0).value) (c:=x0.value.num) rfl;exact ⟨c',by rw [hc'];show (1:Rat)*_=_;grind,by rw [hb'];exact h2⟩
 a:=fun i j hi hj=>by
  obtain ⟨f,hf⟩:∃f,(j0 (k7 s))[i]? =some f:=⟨_,lbf hi⟩;obtain ⟨x,hx,_⟩:=X5.1 (lbm hf);obtain ⟨x0,hx0,rfl⟩:=b9T (lbm hx);have h1:=(hI x0 hx0).1;have h2:=(a4h (hI x0 hx0).2).1;have h3:=a1h x0.value;have hfd:(j0 (k7 s)).getD i (0,false)=f:=by rw [lbl,hf];rfl
  have eA:(k9 (k7 s) g).A i j=Y1 f.2 (L7 (S3 x0).terms j):=by show a3u (k7 s) ((j0 (k7 s)).getD i (0,false)) j=_;rw [hfd];unfold a3u;simp only [hx]
  rw [eA];have key:∀k,∃c:Int,S1 (scT (x0.value.den:Int) x0.terms) k j=((c:Int):Rat)/\c.natAbs<=1048575000:=by
   intro k;induction k with
   |zero=>exact ⟨0,rfl,de⟩
   |succ k ih=>
    cases hk:x0.terms[k]? with
    |none=>rw [S1,show (scT (x0.value.den:Int) x0.terms)[k]? =none by unfold scT;rw [lba,hk];rfl];exact ih
    |some t=>
     rw [Q0 (t:=(t.1,(((x0.value.den:Int):Int):Rat)*t.2)) (by unfold scT;rw [lba,hk];rfl)];simp only;split
     ·obtain ⟨c,hc,hb⟩:=h1 t (lbm hk);refine ⟨(x0.value.den:Int)*c,by rw [hc];push_cast;rfl,?_⟩;rw [a3r];have:=a5o hb
      calc (x0.value.den:Int).natAbs*c.natAbs<=1000*1048575:=lbT om this
       _=1048575000:=rfl
     ·exact ih
  obtain ⟨c,hc,hb⟩:=key (S3 x0).terms.length;obtain ⟨c',hc',hb'⟩:=aY6 (b:=f.2) (x:=L7 (S3 x0).terms j) hc;exact ⟨c',hc',by rw [hb'];exact hb⟩
 g:=fun j hj=>by
  obtain ⟨c,hc,hb⟩:=a2Z hg g.length j;exact ⟨-c,by rw [show L7 g j=((c:Int):Rat) from hc];push_cast;rfl,by rw [a2h];have:=a5o hb;omega⟩
 a1:=de
 ag:=de
structure ZB (m n b:Nat) (Z:Zd):Prop where
 v:∀i,i<m->bl (Z.V i)<=b
 a:∀i,i<m->∀j,j<n->bl (Z.A i j)<=b
 c:∀j,j<n->bl (Z.C j)<=b
 d:bl Z.D<=b
def by6 {m n BV BA BG b:Nat} {D0 D:Fd} {g0:Nat->Rat} (h0:Z5 m n D0) (h:aE1 m n 1 BV BA BG D0 g0) (hv:a5b m n D0 g0 D0) (hD:O8 m n D0 D)
 (b1:((a4U (n+1) fun c=>if c=0 then BV else BA:Nat):Int)<pw b) (b2:((a4U n fun _=>BG:Nat):Int)<pw b) (b4:((a4U n fun _=>BA:Nat):Int)<pw b):
 (∃ q,a9f m n D0 D q)/\ZB m n b (a0f m n D0 D):=by
 have hex:=bG2 h0 h hv hD;refine ⟨hex,?_⟩;obtain ⟨hd,hr⟩:=a7r hex;obtain ⟨k,hk⟩:=hD;have hi:=a0c hv hk;obtain ⟨d,hdd,hdb⟩:=aP7 h (D:=D) hi.p.fb;have hq:(a0f m n D0 D).D=d\/(a0f m n D0 D).D=-d:=by
  rcases hd.det with e|e
  ·left;rw [e] at hdd;exact_mod_cast hdd
  ·right
   rw [e] at hdd;have:(((-(a0f m n D0 D).D:Int):Int):Rat)=((d:Int):Rat):=by push_cast;exact hdd
   have:-(a0f m n D0 D).D=d:=by exact_mod_cast this
   omega
 have ent:∀(z p:Int) (x:Rat),((z:Int):Rat)=(((a0f m n D0 D).D:Int):Rat)*x->((p:Int):Rat)=x*((d:Int):Rat)->z.natAbs=p.natAbs:=by
  intro z p x hz hp;rcases hq with e|e
  ·have:((z:Int):Rat)=((p:Int):Rat):=by rw [hz,hp,e];grind
   have:z=p:=by exact_mod_cast this
   rw [this]
  ·have:((z:Int):Rat)=(((-p:Int):Int):Rat):=by push_cast;rw [hz,hp,e];push_cast;grind
   have:z=-p:=by exact_mod_cast this
   rw [this,a2h]
 refine ⟨fun i him=>?_,fun i him j hj=>?_,fun j hj=>?_,?_⟩
 ·obtain ⟨p,hp,hpb⟩:=ao2 h (D:=D) hi.p.fb (hi.p.ob i him);rw [b7O h0 hi.i him,hdd] at hp;have e:=ent _ p _ (hr.v i him) (by rw [← hp,show ((1:Nat):Rat)=1 from rfl];grind);exact a2N (by rw [e];exact hpb) b1
 ·obtain ⟨p,hp,hpb⟩:=a4i h (D:=D) hi.p.fb (lbR _) (u:=uV n D0 (D.O i)) (fun l hl=>aa6 h (hi.p.ob i him) hl) j;rw [b3T h0 hi.i him hj,hdd] at hp;have e:=ent _ (-p) _ (hr.a i him j hj) (by push_cast;rw [← hp];grind);exact a2N (by rw [e,a2h];exact hpb) b4
 ·obtain ⟨z,hz⟩:=hi.g;obtain ⟨p,hp,hpb⟩:=a4i h (D:=D) hi.p.fb h.ag (u:=uG g0) (fun l hl=>h.g l hl) j;rw [b7l h0 hi.i hz hj,hdd] at hp;have e:=ent _ p _ (hr.c j hj) hp.symm;exact a2N (by rw [e];exact hpb) b2
 ·have:(a0f m n D0 D).D.natAbs=d.natAbs:=by rcases hq with e|e<;>rw [e];rw [a2h]
  exact a2N (by rw [this];exact hdb) b4
def aF0:∀n,n<10->((a4U (n+1) fun c=>if c=0 then 2305843009213693952 else 1048575000:Nat):Int)<pw 25/\((a4U n fun _=>1048575000:Nat):Int)<pw 25:=by decide +kernel
def b0b {s:m8} {g:List (Int × Rat)} (h:M5 s) (hg:I5 g) {D:Fd} (hD:O8 (j0 (k7 s)).length (k7 s).n.toNat (k9 (k7 s) g) D):
 (∃ q,a9f (j0 (k7 s)).length (k7 s).n.toNat (k9 (k7 s) g) D q)/\ZB (j0 (k7 s)).length (k7 s).n.toNat 25 (a0f (j0 (k7 s)).length (k7 s).n.toNat (k9 (k7 s) g) D):=by
 have hn:=V4 h.r;have:=h.n;obtain ⟨p1,p2⟩:=aF0 (k7 s).n.toNat (by show s.n.toNat<10;omega);exact by6 a9u (b9G h.i hg) U0 hD p1 p2 p2
def b1Z {s:m8} {g:List (Int × Rat)} (h:M5 s) (hg:I5 g):(a0f (j0 (k7 s)).length (k7 s).n.toNat (k9 (k7 s) g) (k9 (k7 s) g)).D=1:=by
 obtain ⟨⟨q,hq⟩,_⟩:=b0b h hg (g:=g) a8e;have hd:=(a7r ⟨q,hq⟩).1;have h1:=aH7 (n:=(k7 s).n.toNat) (a9u (s:=k7 s) (g:=g));rcases hd.det with e|e
 ·rw [h1] at e;have e2:((1:Int):Rat)=(((a0f (j0 (k7 s)).length (k7 s).n.toNat (k9 (k7 s) g) (k9 (k7 s) g)).D:Int):Rat):=e;exact (by exact_mod_cast e2:(1:Int)=_).symm
 ·rw [h1] at e;have hp:=hd.pos;have e2:((1:Int):Rat)=(((-(a0f (j0 (k7 s)).length (k7 s).n.toNat (k9 (k7 s) g) (k9 (k7 s) g)).D:Int):Int):Rat):=by push_cast;exact e
  have:(1:Int)=-(a0f (j0 (k7 s)).length (k7 s).n.toNat (k9 (k7 s) g) (k9 (k7 s) g)).D:=by exact_mod_cast e2
  omega
section
open Go.RowKit
def Y7 (z:Int):List T:=[ti (bz z).sg,v6 (bz z).dl]
def zF (n:Nat) (g:Nat->Int):LI:=(List.range n).map g
def mZ (m n:Nat) (A:Nat->Nat->Int):List LI:=(List.range m).map fun i=>zF n (A i)
def G8 (n:Nat) (g:Nat->Int):(zF n g).length=n:=by simp [zF]
def i5 (m n:Nat) (A:Nat->Nat->Int):(mZ m n A).length=m:=by simp [mZ]
def S8 {n:Nat} {g:Nat->Int} {j:Nat} (h:j<n):(zF n g)[j]? =some (g j):=by simp [zF,h]
def a0s {m n:Nat} {A:Nat->Nat->Int} {i:Nat} (h:i<m):(mZ m n A)[i]? =some (zF n (A i)):=by simp [mZ,h]
def bA4 {n:Nat} {g:Nat->Int} {s:Nat} {v:Int} (h:s<n):(zF n g).set s v=zF n (fun j=>if j=s then v else g j):=by
 apply a0R;intro j;by_cases hj:j<n
 ·rw [S8 hj,lbg,G8];by_cases hjm:s=j
  ·subst hjm;simp [h]
  ·rw [iB hjm,S8 hj,iB om]
 ·rw [lbd (by simp [G8];omega),lbd (by simp [G8];omega)]
def a38 {n:Nat} {g h:Nat->Int} (e:∀j,j<n->g j=h j):zF n g=zF n h:=lbp fun j hj=>e j (lbB.1 hj)
def a99 {m n:Nat} {A B:Nat->Nat->Int} (e:∀i,i<m->∀j,j<n->A i j=B i j):mZ m n A=mZ m n B:=lbp fun i hi=>a38 (e i (lbB.1 hi))
def b2l {m n:Nat} {A:Nat->Nat->Int} {r:Nat} {g:Nat->Int} (h:r<m):(mZ m n A).set r (zF n g)=mZ m n (fun i=>if i=r then g else A i):=by
 apply a0R;intro j;by_cases hj:j<m
 ·rw [a0s hj,lbg,i5];by_cases hjm:r=j
  ·subst hjm;simp [h]
  ·rw [iB hjm,a0s hj,iB om]
 ·rw [lbd (by simp [i5];omega),lbd (by simp [i5];omega)]
def b4E {m n r:Nat} {A B:Nat->Nat->Int} {g:Nat->Int} (h:r<m) (e:(fun i=>if i=r then g else A i)=B):(mZ m n A).set r (zF n g)=mZ m n B:=by rw [b2l h,e]
abbrev zlB (l:LI):Blk:={ mode:=.live,elem:=84,size:=2,rows:=toC (l.map Y7),box:=false }
def be3 {row:LI} {i n:Nat} {y:Int} (h:n=i):D4 (zlB row) ((toC (row.map Y7)).set n (bgC (bz y)))=zlB (row.set i y):=by
 subst h;unfold D4;simp [toC,a5X,Y7]
def hdR (b m n:Nat):List (List C):=(List.range m).map fun i=>[C.own (i+b) 0 n true]
def D7 (b m n:Nat):(hdR b m n).length=m:=by simp [hdR]
def a94 {b m n i:Nat} (h:i<m):(hdR b m n)[i]? =some [C.own (i+b) 0 n true]:=by simp [hdR,h]
abbrev hdB (b m n:Nat):Blk:={ mode:=.live,elem:=271,size:=1,rows:=hdR b m n,box:=false }
def frI (l:LB):LI:=l.map fun f=>(f.1:Int)
def sg1 (b:Bool):Int:=if b then -1 else 1
def W7 (l:LB):LI:=l.map fun f=>sg1 f.2
abbrev bC8 (m n q:Nat) (D:Int):Blk:={ mode:=.live,elem:=274,size:=12,rows:=[[C.own 1 0 m true,.own 2 0 m true,.own 3 0 n true,.t (ti (bz D).sg),.t (v6 (bz D).dl),.own 4 0 m true,.own 5 0 q true,.own 6 0 m true,.own 7 0 m true,.own 8 0 m true,.t (ti (bz 1).sg),.t (v6 (bz 1).dl)]],box:=true }
abbrev J7 (m n q:Nat) (fr:LB) (sc:LI) (D:Int) (V G:Nat->Int) (O F:Nat->Nat) (A:Nat->Nat->Int) (T:Hp):Hp:=
 bC8 m n q D::zlB (zF m V)::hdB 9 m n::zlB (zF n G)::T7 m O::T7 q F::w7 (frI fr)::w7 (W7 fr)::zlB sc::((mZ m n A).map zlB++T)
abbrev N0 (m n:Nat) (fr:LB) (sc:LI) (Z:Zd) (T:Hp):Hp:=J7 m n n fr sc Z.D Z.V Z.C Z.O Z.F Z.A T
def L5 {b0 b1 b2 b3 b4 b5 b6 b7 b8 c0 c1 c2 c3 c4 c5 c6 c7 c8:Blk} {L L':Hp} (h0:b0=c0) (h1:b1=c1) (h2:b2=c2) (h3:b3=c3) (h4:b4=c4) (h5:b5=c5) (h6:b6=c6) (h7:b7=c7) (h8:b8=c8) (h9:L=L'):
 b0::b1::b2::b3::b4::b5::b6::b7::b8::L=c0::c1::c2::c3::c4::c5::c6::c7::c8::L':=by
 subst h0 h1 h2 h3 h4 h5 h6 h7 h8 h9;rfl
section
variable {m n q N:Nat} {fr:List (Nat × Bool)} {sc:List Int} {D:Int} {V G:Nat->Int} {O F:Nat->Nat} {A:Nat->Nat->Int} {T T':Hp}
def a4z:J7 m n q fr sc D V G O F A (T++T')=J7 m n q fr sc D V G O F A T++T':=by
 show _::_::_::_::_::_::_::_::_::(_++(T++T'))=_::_::_::_::_::_::_::_::_::((_++T)++T');rw [lbD]
def a00:(J7 m n q fr sc D V G O F A T).length=m+9+T.length:=by simp [i5];omega
def bv4 {b:Nat} (h:m+b<=N):okB N (hdB b m n):=by
 intro r hr c hc;obtain ⟨i,hi,rfl⟩:=lbx.1 hr;have:=lbB.1 hi;simp at hc;subst hc;show i+b<N;omega
def bg4 (h:9<=N):okB N (bC8 m n q D):=by
 intro r hr c hc;simp at hr;subst hr;simp at hc;rcases hc with rfl|rfl|rfl|rfl|rfl|rfl|rfl|rfl|rfl|rfl|rfl|rfl<;>first|trivial|(simp only;omega)
def a57 (h:m+9<=N) (hT:∀k ∈ T,okB N k):∀k ∈ J7 m n q fr sc D V G O F A T,okB N k:=by
 intro k hk;simp only [lbA,lbz] at hk;rcases hk with rfl|rfl|rfl|rfl|rfl|rfl|rfl|rfl|rfl|hk|hk
 ·exact bg4 om
 ·exact A7 rfl
 ·exact bv4 h
 ·exact A7 rfl
 ·exact A7 rfl
 ·exact A7 rfl
 ·exact A7 rfl
 ·exact A7 rfl
 ·exact A7 rfl
 ·obtain ⟨l,_,rfl⟩:=lbx.1 hk;exact A7 rfl
 ·exact hT k hk
theorem a1u:∀k ∈ J7 m n q fr sc D V G O F A [],k.mode=.live/\k.app=false:=by
 intro k hk
 simp only [lbA,Z3] at hk
 rcases hk with rfl|rfl|rfl|rfl|rfl|rfl|rfl|rfl|rfl|hk
 all_goals first|exact ⟨rfl,rfl⟩|skip
 obtain ⟨l,_,rfl⟩:=lbx.1 hk
 exact ⟨rfl,rfl⟩
def t7 {n0:Nat} {H:Hp} {env env':Env} (hH:H=J7 m n q fr sc D V G O F A (T++T')) (hN:m+9+T.length=N) (h0:n0<=N) (hT:∀k ∈ T,okB N k) (hE:a0p (idR N) H env env'):Ent n0 (idR N) env H env' (J7 m n q fr sc D V G O F A T):=by
 refine a7c (by rw [a00];exact hN) h0 (a57 om hT) (fun i hi=>?_) hE;rw [hH,a4z,lbb (by rw [a00];omega)]
def a5Y {n0:Nat} {H:Hp} {r s:S} (hH:H=J7 m n q fr sc D V G O F A T) (hN:m+9=N) (h0:n0<=N) (hE:a9b (idR N) H r s):Fin n0 r H s (J7 m n q fr sc D V G O F A []):=by
 refine a7u (by rw [a00];exact hN) h0 (a57 om zq) (fun i hi=>?_) hE;have e:J7 m n q fr sc D V G O F A T=J7 m n q fr sc D V G O F A []++T:=a4z (T:=[]) (T':=T);rw [hH,e,lbb (by rw [a00];simp;omega)]
end
def a7i {m n:Nat} {fr:LB} {sc:LI} {Z Z':Zd} {T:Hp} (h:b9f m n Z Z'):N0 m n fr sc Z T=N0 m n fr sc Z' T:=by
 refine L5 (by rw [h.d]) (by rw [a38 h.v]) rfl (by rw [a38 h.c]) (by rw [h.o]) (by rw [h.f]) rfl rfl rfl (by rw [a99 h.a])
def aK6 {g:FuncId} {args:List S} {r:S} {m n:Nat} {fr:LB} {sc:LI} {Z Z':Zd} (T:Hp) (h:ec g args (N0 m n fr sc Z []) r (N0 m n fr sc Z' [])) (hok:args.all (okS (m+9))=true) (hr:ay8 r=true) (hr':r.isT=true):
 ec g args (N0 m n fr sc Z T) r (N0 m n fr sc Z' T):=by
 have e:∀Z:Zd,N0 m n fr sc Z T=N0 m n fr sc Z []++T:=fun Z=>a4z (T:=[]) (T':=T)
 rw [e,e];exact a3H (n:=m+9) T h a00 a00 hok (fun k hk=>⟨(a1u k hk).1,(a1u k hk).2,a57 (lbR _) zq k hk⟩) (fun k hk=>⟨(by rw [(a1u k hk).1];intro h;cases h),a57 (lbR _) zq k hk⟩) hr hr'
def a2o {l:LI} {i:Nat} {x:Int} {K:List C->Prop} (h:l[i]? =some x) (k:K (bgC (bz x))):∃row,(toC (l.map Y7))[i]? =some row/\K row:=
 ⟨_,by simp [toC,h,Y7],k⟩
def bt2 {n i r:Nat} {g:Nat->Int} {K:List C->Prop} (e:i=r) (h:r<n) (k:K (bgC (bz (g r)))):∃row,(toC ((zF n g).map Y7))[i]? =some row/\K row:=by
 subst e;exact a2o (S8 h) k
def ah7 {b m n i r:Nat} {K:List C->Prop} (e:i=r) (h:r<m) (k:K [C.own (r+b) 0 n true]):∃row,(hdR b m n)[i]? =some row/\K row:=by
 subst e;exact ⟨_,a94 h,k⟩
def az7 (m n:Nat) (A:Nat->Nat->Int):List (List T):=(mZ m n A).map fun l=>[T.sl 2 .any (l.map Y7)]
def aH5 (m n:Nat) (A:Nat->Nat->Int):(az7 m n A).length=m:=by simp [az7,i5]
def aJ6 {m n:Nat} {A:Nat->Nat->Int} {i:Nat} (h:i<m):(az7 m n A)[i]? =some [T.sl 2 .any ((zF n (A i)).map Y7)]:=by simp [az7,a0s h]
def bq0 (m n:Nat) (fr:LB) (sc:LI) (Z:Zd):List T:=
 [.sl 2 .any ((zF m Z.V).map Y7),.sl 1 .any (az7 m n Z.A),.sl 2 .any ((zF n Z.C).map Y7),ti (bz Z.D).sg,v6 (bz Z.D).dl,.sl 1 .any (Z2 m Z.O),.sl 1 .any (Z2 n Z.F),v6 (frI fr),v6 (W7 fr),.sl 2 .any (sc.map Y7),ti (bz 1).sg,v6 (bz 1).dl]
abbrev jT (m n:Nat) (fr:LB) (sc:LI) (Z:Zd):S:=.c (.t (.ptr (bq0 m n fr sc Z)))
def bL3 {m n:Nat} {fr:LB} {sc:LI} {Z:Zd} {X:Hp} {p:Nat->Prop} (hp:∀i,i<m+9->p i):VY (N0 m n fr sc Z X) p (.own 2 0 m true) (.sl 1 .any (az7 m n Z.A)):=by
 refine b2W (k:=hdB 9 m n) (hp 2 om) rfl (fun h=>h) rfl (aH5 m n Z.A) ?_ ?_
 ·intro r hr;obtain ⟨i,_,rfl⟩:=lbx.1 hr
  rfl
 ·intro i r hi;have him:i<m:=by have:=(lbe.1 hi).1;rwa [aH5] at this
  rw [aJ6 him] at hi;injection hi with hi;subst hi;refine ⟨_,a94 him,?_⟩;have hv:VY (N0 m n fr sc Z X) p (C.own (i+9) 0 n true) (T.sl 2 .any ((zF n (Z.A i)).map Y7)):=
   .vc (w6 (k:=zlB (zF n (Z.A i))) (hp (i+9) om) (I7 (a0s him)) (fun h=>h) rfl rfl (by simp [G8]))
  exact ⟨hv,trivial⟩
def b6F {m n:Nat} {fr:LB} {sc:LI} {Z:Zd} {X:Hp} {p:Nat->Prop} (hf:fr.length=m) (hs:sc.length=m) (hp:∀i,i<m+9->p i):VY (N0 m n fr sc Z X) p (.ptr 0 0 0) (.ptr (bq0 m n fr sc Z)):=by
 refine ac9 (k:=bC8 m n n Z.D) (hp 0 om) rfl (fun h=>h) rfl ⟨?_,bL3 hp,?_,aE2,aE2,?_,?_,?_,?_,?_,aE2,aE2,trivial⟩
 ·exact .vc (w6 (k:=zlB (zF m Z.V)) (hp 1 om) rfl (fun h=>h) rfl rfl (by simp [G8]))
 ·exact .vc (w6 (k:=zlB (zF n Z.C)) (hp 3 om) rfl (fun h=>h) rfl rfl (by simp [G8]))
 ·exact .vc (w6 (k:=T7 m Z.O) (hp 4 om) rfl (fun h=>h) rfl rfl (by simp [n9]))
 ·exact .vc (w6 (k:=T7 n Z.F) (hp 5 om) rfl (fun h=>h) rfl rfl (by simp [n9]))
 ·exact .vc (w6 (k:=w7 (frI fr)) (hp 6 om) rfl (fun h=>h) rfl rfl (by simp [frI,hf]))
 ·exact .vc (w6 (k:=w7 (W7 fr)) (hp 7 om) rfl (fun h=>h) rfl rfl (by simp [W7,hf]))
 ·exact .vc (w6 (k:=zlB sc) (hp 8 om) rfl (fun h=>h) rfl rfl (by simp [hs]))
def a1P {m n:Nat} {A:Nat->Nat->Int} {x:Int} {i:Nat} {K:List T->Prop} (e:x=i) (h:i<m) (k:K [T.sl 2 .any ((zF n (A i)).map Y7)]):∃row,0<=x/\(az7 m n A)[x.toNat]? =some row/\K row:=by
 subst e;exact ⟨_,om,by rw [show (i:Int).toNat=i by omega,aJ6 h],k⟩
def a0Q {n:Nat} {g:Nat->Int} {x:Int} {j:Nat} {K:List T->Prop} (e:x=j) (h:j<n) (k:K (Y7 (g j))):∃row,0<=x/\((zF n g).map Y7)[x.toNat]? =some row/\K row:=by
 subst e;exact ⟨_,om,by rw [show (j:Int).toNat=j by omega,lba,S8 h];rfl,k⟩
def aP0 (z:Int):(bz z).sg<0↔z<0:=by
 show z.sign<0↔_;rcases a53 z 0 with h|h|h
 ·rw [a2c h];omega
 ·subst h;simp
 ·rw [R8 h];omega
def b40 (z:Int):(bz z).sg > 0↔0<z:=by
 show z.sign > 0↔_;rcases a53 z 0 with h|h|h
 ·rw [a2c h];omega
 ·subst h;simp
 ·rw [R8 h];omega
end
section
open Go.RowKit
def tv (V:Nat->Int) (k:Nat):Nat->Int:=fun i=>if i<k then -(V i) else V i
def aj8 (V:Nat->Int):tv V 0=V:=by funext i;unfold tv;rw [iB om]
def b6K (V:Nat->Int) (k:Nat):tv V k k=V k:=by unfold tv;rw [iB om]
def aX4 (V:Nat->Int) (k:Nat):(fun i=>if i=k then -(V k) else tv V k i)=tv V (k+1):=by
 funext i;by_cases h:i=k
 ·subst h;rw [iA rfl];unfold tv;rw [iA om]
 ·rw [iB h];unfold tv;have:(i<k)↔(i<k+1):=om;simp only [this]
def b25 {V:Nat->Int} {m i:Nat} (h:i<m):tv V m i=-(V i):=by unfold tv;rw [iA h]
def ta (n:Nat) (A:Nat->Nat->Int) (i j:Nat):Nat->Nat->Int:=fun k=>if k<i then tv (A k) n else if k=i then tv (A k) j else A k
def bd4 (n:Nat) (A:Nat->Nat->Int):ta n A 0 0=A:=by
 funext k;unfold ta;rw [iB om];split
 ·exact aj8 _
 ·rfl
def bt5 (n:Nat) (A:Nat->Nat->Int) (i j:Nat):ta n A i j i=tv (A i) j:=by unfold ta;rw [iB om,iA rfl]
def bo6 (n:Nat) (A:Nat->Nat->Int) (i j:Nat):(fun k=>if k=i then tv (A i) (j+1) else ta n A i j k)=ta n A i (j+1):=by
 funext k;by_cases h:k=i
 ·subst h;rw [iA rfl,bt5]
 ·rw [iB h];unfold ta;rw [iB h,iB h]
def bw5 (n:Nat) (A:Nat->Nat->Int) (i:Nat):ta n A i n=ta n A (i+1) 0:=by
 funext k;unfold ta;by_cases h:k<i
 ·rw [iA h,iA om]
 ·rw [iB h];by_cases h2:k=i
  ·rw [iA h2,iA om]
  ·rw [iB h2,iB om];split
   ·exact (aj8 _).symm
   ·rfl
def bG7 {n m:Nat} {A:Nat->Nat->Int} {i j:Nat} (h:i<m) (hj:j<n):ta n A m 0 i j=-(A i j):=by unfold ta;rw [iA h];exact b25 hj
section
variable (Z:Zd) (r s:Nat)
def exr (i j:Nat):Nat->Int:=fun l=>if l<j/\l≠s then Z.nx (Z.A i l) (Z.A r s) (Z.A i s) (Z.A r l) else Z.A i l
def AE (i:Nat):Nat->Nat->Int:=fun k=>if k<i/\k≠r then Z.exA r s k else Z.A k
def VE (i:Nat):Nat->Int:=fun k=>if k<i/\k≠r then Z.exV r s k else Z.V k
def AI (i j:Nat):Nat->Nat->Int:=fun k=>if k=i then exr Z r s i j else AE Z r s i k
def CE (j:Nat):Nat->Int:=fun l=>if l<j/\l≠s then Z.nx (Z.C l) (Z.A r s) (Z.C s) (Z.A r l) else Z.C l
end
section
variable {Z:Zd} {r s i j m n:Nat}
def bn6:AE Z r s 0=Z.A:=by funext k;unfold AE;rw [iB om]
def bo9:VE Z r s 0=Z.V:=by funext k;unfold VE;rw [iB om]
def bq9:CE Z r s 0=Z.C:=by funext k;unfold CE;rw [iB om]
def bu4:AE Z r s i i=Z.A i:=by unfold AE;rw [iB om]
def bm9:AE Z r s i r=Z.A r:=by unfold AE;rw [iB om]
def bI6:VE Z r s i i=Z.V i:=by unfold VE;rw [iB om]
def bQ0:VE Z r s i r=Z.V r:=by unfold VE;rw [iB om]
def bg9:AI Z r s i 0=AE Z r s i:=by
 funext k;unfold AI;by_cases h:k=i
 ·subst h;rw [iA rfl,bu4];funext l;unfold exr;rw [iB om]
 ·rw [iB h]
def bO4 (h:i≠r):AI Z r s i j r=Z.A r:=by unfold AI;rw [iB (fun e=>h e.symm),bm9]
def b3L:AI Z r s i j i=exr Z r s i j:=by unfold AI;rw [iA rfl]
def b8r (hj:j≠s):(fun l=>if l=j then Z.nx (Z.A i j) (Z.A r s) (Z.A i s) (Z.A r j) else exr Z r s i j l)=exr Z r s i (j+1):=by
 funext l;by_cases h:l=j
 ·subst h;rw [iA rfl];unfold exr;rw [iA ⟨om,hj⟩]
 ·rw [iB h];unfold exr;have:(l<j/\l≠s)↔(l<j+1/\l≠s):=om;simp only [this]
def bp0:(fun k=>if k=i then exr Z r s i (j+1) else AI Z r s i j k)=AI Z r s i (j+1):=by
 funext k;by_cases h:k=i
 ·subst h;rw [iA rfl];unfold AI;rw [iA rfl]
 ·rw [iB h];unfold AI;rw [iB h,iB h]
def b8k:exr Z r s i s=exr Z r s i (s+1):=by
 funext l;unfold exr;have:(l<s/\l≠s)↔(l<s+1/\l≠s):=om;simp only [this]
def bk3:AI Z r s i s=AI Z r s i (s+1):=by
 funext k;unfold AI;split
 ·exact b8k
 ·rfl
def bC0 (hi:i≠r) {k l:Nat} (hl:l<n):(if k=i then (if l=s then -(Z.A i s) else AI Z r s i n i l) else AI Z r s i n k l)=AE Z r s (i+1) k l:=by
 by_cases h:k=i
 ·subst h;have e:AE Z r s (k+1) k l=Z.exA r s k l:=by unfold AE;rw [iA ⟨om,hi⟩]
  have e2:Z.exA r s k l=if l=s then -(Z.A k s) else Z.nx (Z.A k l) (Z.A r s) (Z.A k s) (Z.A r l):=by unfold Zd.exA;rw [iB hi]
  rw [iA rfl,e,e2];by_cases h2:l=s
  ·rw [iA h2,iA h2]
  ·rw [iB h2,iB h2,b3L];unfold exr;rw [iA ⟨hl,h2⟩]
 ·rw [iB h];unfold AI AE;rw [iB h];have:(k<i/\k≠r)↔(k<i+1/\k≠r):=om;simp only [this]
def br5:AE Z r s r=AE Z r s (r+1):=by
 funext k;unfold AE;have:(k<r/\k≠r)↔(k<r+1/\k≠r):=om;simp only [this]
def bl8:VE Z r s r=VE Z r s (r+1):=by
 funext k;unfold VE;have:(k<r/\k≠r)↔(k<r+1/\k≠r):=om;simp only [this]
def bm2 (hi:i≠r):(fun k=>if k=i then Z.nx (Z.V i) (Z.A r s) (Z.A i s) (Z.V r) else VE Z r s i k)=VE Z r s (i+1):=by
 funext k;by_cases h:k=i
 ·subst h;rw [iA rfl];unfold VE Zd.exV;rw [iA ⟨om,hi⟩,iB hi]
 ·rw [iB h];unfold VE;have:(k<i/\k≠r)↔(k<i+1/\k≠r):=om;simp only [this]
def bD7 (h:i<m):VE Z r s m i=Z.exV r s i:=by
 unfold VE;by_cases hr:i=r
 ·rw [iB om];unfold Zd.exV;rw [iA hr,hr]
 ·rw [iA ⟨h,hr⟩]
def bF5 (hi:i<m):(if i=r then (if j=s then Z.D else AE Z r s m r j) else AE Z r s m i j)=Z.exA r s i j:=by
 by_cases hr:i=r
 ·rw [iA hr,bm9];unfold Zd.exA;rw [iA hr]
 ·rw [iB hr];unfold AE;rw [iA ⟨hi,hr⟩]
def bN0:CE Z r s j j=Z.C j:=by unfold CE;rw [iB om]
def bO3:CE Z r s j s=Z.C s:=by unfold CE;rw [iB om]
def bo3 (hj:j≠s):(fun l=>if l=j then Z.nx (Z.C j) (Z.A r s) (Z.C s) (Z.A r j) else CE Z r s j l)=CE Z r s (j+1):=by
 funext l;by_cases h:l=j
 ·subst h;rw [iA rfl];unfold CE;rw [iA ⟨om,hj⟩]
 ·rw [iB h];unfold CE;have:(l<j/\l≠s)↔(l<j+1/\l≠s):=om;simp only [this]
def bj0:CE Z r s s=CE Z r s (s+1):=by
 funext l;unfold CE;have:(l<s/\l≠s)↔(l<s+1/\l≠s):=om;simp only [this]
def bE3 (hj:j<n):(if j=s then -(Z.C s) else CE Z r s n j)=Z.exC r s j:=by
 unfold CE Zd.exC;by_cases h:j=s
 ·rw [iA h,iA h]
 ·rw [iB h,iB h,iA ⟨hj,h⟩]
end
end
def am5 (x y:Int) (lx:bl x<=200000) (ly:bl y<=200000):ec 288 [bgS (bz x),bgS (bz y)] [] (bgS (bz (x*y))) []:=by
 have m:=a9r x y lx ly;refine ac Tryz.func288 ?_;conv=>whnf
 repeat' (first|refine zx ?_|apply zD<;>intro<;>try omega)<;>conv=>whnf
 all_goals exact p7 rz
def br6 (x y:Int) (lx:bl x<=200000) (ly:bl y<=200000):ec 335 [bgS (bz x),bgS (bz y)] [] (bgS (bz (x - y))) []:=by
 have m:=bs9 x y lx ly;refine ac Tryz.func335 ?_;conv=>whnf
 repeat' (first|refine zx ?_|apply zD<;>intro<;>try omega)<;>conv=>whnf
 all_goals exact p7 rz
def bM9 (x y:Int) (lx:bl x<=200000) (ly:bl y<=200000):ec 334 [bgS (bz x),bgS (bz y)] [] (bgS (bz (x+y))) []:=by
 have m:=b8K x y lx ly;refine ac Tryz.func334 ?_;conv=>whnf
 repeat' (first|refine zx ?_|apply zD<;>intro<;>try omega)<;>conv=>whnf
 all_goals exact p7 rz
def ak5 (n:Int) (p0:-9223372036854775808<=n) (p1:n<=9223372036854775807):ec 286 [eI n] [] (frS (fz (n:Rat))) []:=by
 have o:=bB9 n 1 de p0 p1 de;have e:Rat.divInt n 1=(n:Rat):=by rw [a80];simp;grind
 rw [e] at o;refine ac Tryz.func286 ?_;conv=>whnf
 repeat' (first|refine zx ?_|apply zD<;>intro<;>try omega)<;>conv=>whnf
 all_goals exact p7 rz
def aR5 (p q:Int) (hq:0<q) (lp:bl p<=200000) (lq:bl q<=200000):ec 287 [bgS (bz p),bgS (bz q)] [] (frS (fz (Rat.divInt p q))) []:=by
 have o:=b0H p q hq lp lq;refine ac Tryz.func287 ?_;conv=>whnf
 repeat' (first|refine zx ?_|apply zD<;>intro<;>try omega)<;>conv=>whnf
 all_goals exact p7 rz
abbrev bgX (z:Int):Blk:={ mode:=.live,elem:=84,size:=2,rows:=[bgC (bz z)],box:=true }
def ba5 (z:Int):L4 (bgX z).rows:=j3 [[ti (bz z).sg,v6 (bz z).dl]]
def a1Z {ρ:List (Option Nat)} {H:Hp}:a3g ρ H a6d a6d:=⟨rfl,rfl,rfl,.inl ⟨rfl,V9⟩⟩
def b6r (a b:Int) (hb:0<b) (hab:b<=a) (la:bl a<=100000):∃q:Int,0<q/\q*b<=a/\ec 333 [bgS (bz a),bgS (bz b)] [] (bgS (bz q)) []:=by
 obtain ⟨A,rfl⟩:∃A:Nat,a=A:=⟨a.toNat,om⟩;obtain ⟨B,rfl⟩:∃B:Nat,b=B:=⟨b.toNat,om⟩;have hb:0<B:=om;have hab:B<=A:=om;have la:(dg A).length<=100000:=la;have hlab:=t8 hab;obtain ⟨m,hm⟩:∃m,m=min 2 (dg B).length:=⟨_,rfl⟩;obtain ⟨low,hlow⟩:∃low,low=(dg B).length - m:=⟨_,rfl⟩;obtain ⟨n,hn⟩:∃n,n=if (dg A).length - min 3 (dg A).length<low then (dg A).length - low else min 3 (dg A).length:=⟨_,rfl⟩
 obtain ⟨X,hX⟩:∃X,X=a50 (dg A) n:=⟨_,rfl⟩;obtain ⟨Y,hY⟩:∃Y,Y=a50 (dg B) m:=⟨_,rfl⟩;obtain ⟨d,hd⟩:∃d,d=if 0<low then Y+1 else Y:=⟨_,rfl⟩
 obtain ⟨Q,hQ⟩:∃Q,Q=max 1 (X / d):=⟨_,rfl⟩;obtain ⟨g1,g2,g3,g4,g5,g6,g7⟩:=b9v hb hab hm hlow hn hX hY hd hQ;have hBl:0<(dg B).length:=by
  have:dg B≠[]:=fun h=>by have:=O4.1 h;omega
  exact a7H.2 this
 refine ⟨pw ((dg A).length - n - low)*Q,ab0 (N8 _) g5,g7,?_⟩;have hY2:=a2V (l:=dg B) (Y3 B).1 (k:=m) om om;have hX2:=a2V (l:=dg A) (Y3 A).1 (k:=n) g1 g2;rw [← hY] at hY2;rw [← hX] at hX2;have t1:=b4K (dg B) m om (Y3 B).1 om om;have t2:=b4K (dg A) n om (Y3 A).1 g1 g2;rw [← hY] at t1;rw [← hX] at t2;have o:=b5B Q om om;have m1:((dg A).map j4).length=(dg A).length:=zq;have m2:((dg B).map j4).length=(dg B).length:=zq;have hdiv:X.tdiv d=X / d:=a59 om;have hq0:0<=X / d:=aB3 om om;have hqA:X / d<=X:=Int.ediv_le_self _ om;rw [b90 g5];generalize hz:(dg A).length - n - low=z at *;obtain ⟨n0,hn0⟩:∃n0,n0=min 3 (dg A).length:=⟨_,rfl⟩;rw [← hn0] at hn;have hAd:(bz (A:Int)).dl=dg A:=rfl;have hBd:(bz (B:Int)).dl=dg B:=rfl
 (refine O3 g8 Tryz.func333 rfl de ?_;refine w8 g8 ?_;(conv=>whnf);repeat ((first|refine b0x ?_|refine zy ?_);conv=>whnf))
 repeat' (first|refine zz ?_|refine b0x ?_|apply zD<;>intro h<;>try omega|refine zy ?_|fail)<;>conv=>whnf
 refine B3 g8 ([J,J,S.c (C.t (T.ptr [ti (bz (A:Int)).sg,v6 (dg A)])),S.c (C.t (T.ptr [ti (bz (B:Int)).sg,v6 (dg B)])),sP 0 0 0,eI n0]++Jn 59) [a6d] ?_ ?_
 ·conv=>whnf
  repeat' (first|refine zx ?_|apply zD<;>intro h<;>try omega)<;>conv=>whnf
  exact ⟨[some 0],rfl,rfl,⟨a1Z,trivial⟩,⟨rfl,rfl,rz,g9 (by simp only [cond,lbr,hAd];split<;>omega),trivial⟩⟩
 refine B3 g8 ([J,J,S.c (C.t (T.ptr [ti (bz (A:Int)).sg,v6 (dg A)])),S.c (C.t (T.ptr [ti (bz (B:Int)).sg,v6 (dg B)])),sP 0 0 0,eI n0,eI m]++Jn 58) [a6d] ?_ ?_
 ·conv=>whnf
  repeat' (first|refine zx ?_|apply zD<;>intro h<;>try omega)<;>conv=>whnf
  exact ⟨[some 0],rfl,rfl,⟨a1Z,trivial⟩,⟨rfl,rfl,rz,rfl,g9 (by simp only [cond,lbr];split<;>omega),trivial⟩⟩
 refine B3 g8 ([J,J,S.c (C.t (T.ptr [ti (bz (A:Int)).sg,v6 (dg A)])),S.c (C.t (T.ptr [ti (bz (B:Int)).sg,v6 (dg B)])),sP 0 0 0,eI n0,eI m,eI low]++Jn 57) [a6d] ?_ ?_
 ·conv=>whnf
  repeat' (first|refine zx ?_|apply zD<;>intro h<;>try omega)<;>conv=>whnf
  exact ⟨[some 0],rfl,rfl,⟨a1Z,trivial⟩,⟨rfl,rfl,rz,rfl,rfl,g9 om,trivial⟩⟩
 refine B3 g8 ([J,J,S.c (C.t (T.ptr [ti (bz (A:Int)).sg,v6 (dg A)])),S.c (C.t (T.ptr [ti (bz (B:Int)).sg,v6 (dg B)])),sP 0 0 0,eI n,eI m,eI low]++Jn 57) [a6d] ?_ ?_
 ·conv=>whnf
  repeat' (first|refine zx ?_|apply zD<;>intro h<;>try omega)<;>conv=>whnf
  all_goals (refine ⟨[some 0],rfl,rfl,⟨a1Z,trivial⟩,⟨rfl,rfl,rz,g9 ?_,rz⟩⟩;rw [hn];split<;>omega)
 refine B3 g8 ([J,J,S.c (C.t (T.ptr [ti (bz (A:Int)).sg,v6 (dg A)])),S.c (C.t (T.ptr [ti (bz (B:Int)).sg,v6 (dg B)])),sP 0 0 0,eI n,J,eI low,eI Y]++Jn 56) [a6d] ?_ ?_
 ·conv=>whnf
  repeat' (first|refine zx ?_|apply zD<;>intro h<;>try omega)<;>conv=>whnf
  all_goals exact ⟨[some 0],rfl,rfl,⟨a1Z,trivial⟩,rz⟩
 refine B3 g8 ([J,J,S.c (C.t (T.ptr [ti (bz (A:Int)).sg,v6 (dg A)])),S.c (C.t (T.ptr [ti (bz (B:Int)).sg,v6 (dg B)])),sP 0 0 0,eI n,J,eI low,eI d]++Jn 56) [a6d] ?_ ?_
 ·conv=>whnf
  repeat' (first|refine zx ?_|apply zD<;>intro h<;>try omega)<;>conv=>whnf
  all_goals (refine ⟨[some 0],rfl,rfl,⟨a1Z,trivial⟩,⟨rfl,rfl,rz,rfl,rfl,g9 ?_,trivial⟩⟩;rw [hd];split<;>omega)
 have hmax:∀y:Int,y=X / d->(bif true then if (1:Int) > y then 1 else y else if 1<y then 1 else y)=Q:=by
  intro y hy;rw [hy,hQ];simp only [cond];split<;>omega
 have hmax2:∀y:Int,y=X / d->(bif true then if y > 1 then y else 1 else if y<1 then y else 1)=Q:=by
  intro y hy;rw [hy,hQ];simp only [cond];split<;>omega
 refine B3 g8 ([J,J,S.c (C.t (T.ptr [ti (bz (A:Int)).sg,v6 (dg A)])),J,sP 0 0 0,eI n,J,eI low,J,sP 1 0 0]++Jn 55) [a6d,bgX Q] ?_ ?_
 ·conv=>whnf
  repeat' (first|refine zx ?_|refine qp ((hmax2 _ rfl) ▸ o) ?_|refine ⟨om,_,I0 hdiv om om,?_⟩|refine an4 om ?_|apply zD<;>intro h<;>try omega)<;>conv=>whnf
  all_goals first|omega|exact ⟨[some 0,some 1],rfl,rfl,⟨a1Z,⟨rfl,rfl,rfl,.inl ⟨by rw [hmax2 _ rfl];rfl,by rw [hmax2 _ rfl];exact j3 [[ti (bz Q).sg,v6 (bz Q).dl]]⟩⟩,trivial⟩,rz⟩
 have eA:((dg A).map j4).length - (n:Int) - (low:Int)=(z:Nat):=om;have lQ:(bz Q).dl.length<=4:=T4 (x:=Q) om om;refine B3 g8 ([J,J,J,J,sP 0 0 0,J,J,J,J,sP 1 0 0,S.c (C.own 2 0 z true)]++Jn 54) [a6d,bgX Q,w7 (List.replicate z 0)] ?_ ?_
 ·conv=>whnf
  repeat' (first|refine zx ?_|refine a2m om om om de ?_|apply zD<;>intro h<;>try omega)<;>conv=>whnf
  all_goals first|omega|exact ⟨[some 0,some 1,some 2],rfl,rfl,⟨a1Z,⟨rfl,rfl,rfl,.inl ⟨rfl,ba5 _⟩⟩,i6 (rows:=(List.replicate z 0).map j4) rfl rfl rfl (by show List.replicate _ _=_;rw [eA];simp [toC,j4,F4]) rfl,trivial⟩,⟨rz,rz,⟨rfl,rfl,om,fun h=>h⟩,trivial⟩⟩
 refine t4 g8 _ ?_;conv=>whnf
 repeat' (first|refine zx ?_|refine z6 zt zu ?_|apply zD<;>intro h<;>try omega)<;>conv=>whnf
 all_goals try omega
 refine p7 ⟨rfl,(show VC _ (fun id=>M3 [] id=true) (C.own 3 0 _ true) (v6 (List.replicate z 0++dg Q.natAbs)) from w6 (k:={ mode:=.live,elem:=3,size:=1,rows:=List.take z (toC ((List.replicate z 0).map j4))++toC ((dg Q.natAbs).map j4),box:=false }) rfl rfl (fun h=>h) rfl ?_ ?_),trivial⟩
 ·show List.take z (toC ((List.replicate z 0).map j4))++toC ((dg Q.natAbs).map j4)=toC ((List.replicate z 0++dg Q.natAbs).map j4);rw [lbn zt];simp [toC]
 ·simp [toC];rfl
structure ExI (a b:Int) (s:Int × Int):Prop where
 e:s.1*b+s.2=(a.natAbs:Int)
 o:0<=s.1
 r:0<=s.2
def ExI.bd {a b:Int} {s:Int × Int} (h:ExI a b s) (hb:0<b):bl s.1<=bl a/\bl s.2<=bl a:=by
 have h1:=h.o;have h2:=h.r;have h3:=h.e;have h4:s.1*1<=s.1*b:=lbW om h1;exact ⟨a58 om,a58 om⟩
def ExI.fin {a b:Int} {s:Int × Int} (h:ExI a b s) (hb:0<b) (hd:b ∣ a) (hlt:s.2<b):a.sign*s.1=a / b:=by
 have h2:=h.r;have h3:=h.e;obtain ⟨k,rfl⟩:=hd;have e0:s.2=0:=by
  have hk:b ∣ ((b*k).natAbs:Int):=Int.dvd_natAbs.2 ⟨k,rfl⟩;obtain ⟨j,hj⟩:=hk;have:s.2=b*(j - s.1):=by rw [Int.mul_sub,←hj,←h3,a7J b s.1];omega
  apply Y9;intro hn;have hp:0<j - s.1:=by
   apply Y9;intro hc;have:b*(j - s.1)<=b*0:=lbW om om;omega
  have:b*1<=b*(j - s.1):=lbW om om;omega
 rw [aN6 _ (by omega:b≠0)];have e1:s.1*b=(b.natAbs:Int)*(k.natAbs:Int):=by rw [e0,ae1] at h3;rw [h3,a3r];push_cast;rfl
 have e2:s.1=(k.natAbs:Int):=by
  have hbn:(b.natAbs:Int)=b:=om;rw [hbn,a7J] at e1;exact Int.eq_of_mul_eq_mul_left om e1
 rw [e2,Int.sign_mul,R8 hb,a2g];exact ar0 k
def bG4 {a o:Int}:(⟨(bz o).sg*(bz a).sg,(bz o).dl⟩:Bg)=bz (a.sign*o)\/a=0:=by
 by_cases h:a=0
 ·exact .inr h
 ·left
  rcases b37 h with h|h
  ·rw [a2c h];show Bg.mk (o.sign*a.sign) (dg o.natAbs)=Bg.mk ((-1*o).sign) (dg (-1*o).natAbs);rw [a2c h,show (-1:Int)*o=-o by omega,Int.sign_neg,a2h,show o.sign*-1=-o.sign by omega]
  ·rw [R8 h];show Bg.mk (o.sign*a.sign) (dg o.natAbs)=Bg.mk ((1*o).sign) (dg (1*o).natAbs);rw [R8 h,a2g,ax7]
def bJ3 (a:Int):(⟨(bz a).sg*(bz a).sg,(bz a).dl⟩:Bg)=bz (a.natAbs:Int):=by
 show Bg.mk (a.sign*a.sign) (dg a.natAbs)=Bg.mk (((a.natAbs:Nat):Int).sign) (dg ((a.natAbs:Nat):Int).natAbs);rcases a53 a 0 with h|h|h
 ·rw [a2c h,R8 om];rfl
 ·subst h;rfl
 ·rw [R8 h,R8 om];rfl
def aR8 (a b:Int) (hb:0<b) (hd:b ∣ a) (la:bl a<=60000) (lb:bl b<=60000):ec 319 [bgS (bz a),bgS (bz b)] [] (bgS (bz (a / b))) []:=by
 have hsq:=bJ3 a;have hs:=G4 a;have hsg:(bz a).sg=a.sign:=rfl;have hss:0<=(bz a).sg*(bz a).sg/\(bz a).sg*(bz a).sg<=1:=by
  rw [hsg];rcases hs with ⟨h,_⟩|⟨h,_⟩|⟨h,_⟩<;>rw [h]<;>decide
 (refine ac Tryz.func319 ?_;(conv=>whnf);repeat ((first|refine b0x ?_|refine zy ?_);conv=>whnf))
 repeat' (first|refine zx ?_|apply zD<;>intro h<;>try omega)<;>conv=>whnf
 all_goals try omega
 refine v8 g8 (σ:=Int × Int) (fun s=>([J,J,S.c (C.t (T.ptr [ti (bz a).sg,v6 (bz a).dl])),S.c (C.t (T.ptr [ti (bz b).sg,v6 (bz b).dl])),sP 0 0 0,sP 1 0 0,sP 2 0 0]++Jn 31,[a6d,bgX s.2,bgX s.1])) (ExI a b) (fun s=>s.2.natAbs) (0,(a.natAbs:Int)) [some 0,some 1,some 2]
  ⟨zq,zq,om⟩ ⟨rfl,rfl,⟨⟨rfl,rfl,rfl,.inl ⟨rfl,V9⟩⟩,⟨rfl,rfl,rfl,.inl ⟨?_,?_⟩⟩,⟨rfl,rfl,rfl,.inr rz⟩,trivial⟩,rz⟩ ?_
 ·show [[C.t (ti ((bz a).sg*(bz a).sg)),C.t (v6 (bz a).dl)]]=[bgC (bz (a.natAbs:Int))];rw [← hsq]
 ·exact j3 [[ti ((bz a).sg*(bz a).sg),v6 (bz a).dl]]
 rintro ⟨o,r⟩ hI;have hI:ExI a b (o,r):=hI;obtain ⟨bo,br⟩:=hI.bd hb;have bo:bl o<=bl a:=bo;have br:bl r<=bl a:=br;have h1:o*b+r=(a.natAbs:Int):=hI.e;have h2:0<=o:=hI.o;have h3:0<=r:=hI.r;have hso:-1<=(bz o).sg*(bz a).sg/\(bz o).sg*(bz a).sg<=1:=by
  rw [hsg,af2];rcases hs with ⟨h,_⟩|⟨h,_⟩|⟨h,_⟩<;>rcases G4 o with ⟨h',_⟩|⟨h',_⟩|⟨h',_⟩<;>rw [h,h']<;>decide
 have cm:=aE9 r b om om;by_cases hlt:r<b
 ·have hf:=hI.fin hb hd hlt;have hf:a.sign*o=a / b:=hf;rw [show P6 r b=-1 by unfold P6;rw [iA hlt]] at cm;conv=>whnf
  repeat' (first|refine zx ?_|refine ⟨_,a3M (show _<=(bz o).sg*(bz a).sg from by omega) (show (bz o).sg*(bz a).sg<=_ from by omega),?_⟩|apply zD<;>intro h<;>try omega)<;>conv=>whnf
  all_goals first|omega|skip
  refine p7 ?_;rcases bG4 (a:=a) (o:=o) with e|e
  ·rw [hf] at e;rw [← e];exact rz
  ·have:o=0:=by
    subst e;have:=lb0 h2 (show 0<=b by omega);have e0:o*b=0:=by simp at h1;omega
    rcases Int.mul_eq_zero.1 e0 with h|h<;>omega
   subst this e;rw [← hf];exact rz
 ·obtain ⟨q,q0,q1,gu⟩:=b6r r b hb om om;have hc:0<=P6 r b:=by unfold P6;rw [iB hlt];split<;>decide
  have bq:bl q<=bl a:=by
   have:q*1<=q*b:=lbW om om;have:=lb0 h2 (show 0<=b by omega);exact a58 om
  have lm:=I2 q b;have ad:=bM9 o q om om;have mu:=am5 q b om om;have su:=br6 r (q*b) om om;conv=>whnf
  repeat' (first|refine zx ?_|apply zD<;>intro h<;>try omega)<;>conv=>whnf
  all_goals first|omega|skip
  have hqb:0<q*b:=ab0 q0 hb;exact ⟨[some 0,some 1,some 2],(o+q,r - q*b),⟨rfl,rfl,⟨⟨rfl,rfl,rfl,.inl ⟨rfl,V9⟩⟩,⟨rfl,rfl,rfl,.inl ⟨rfl,ba5 _⟩⟩,⟨rfl,rfl,rfl,.inl ⟨rfl,ba5 _⟩⟩,trivial⟩,rz⟩,⟨by show (o+q)*b+(r - q*b)=_;rw [Int.add_mul];omega,by show 0<=o+q;omega,by show 0<=r - q*b;omega⟩,by show (r - q*b).natAbs<r.natAbs;omega⟩
def br0 (x y:Int):bl (x - y)<=max (bl x) (bl y)+1:=by
 have:=a8p x (-y);rw [Y4] at this;rw [ab9];exact this
def bC5 (m n q:Nat) (fr:LB) (sc:LI) (D:Int) (V G:Nat->Int) (O F:Nat->Nat) (A:Nat->Nat->Int) (a p b c:Int) (hD:0<D) (hdv:D ∣ a*p - b*c) (la:bl a<=1000) (lp:bl p<=1000) (lb:bl b<=1000) (lc:bl c<=1000) (lD:bl D<=1000):
 ec 320 [.c (.ptr 0 0 0),bgS (bz a),bgS (bz p),bgS (bz b),bgS (bz c)] (J7 m n q fr sc D V G O F A []) (bgS (bz ((a*p - b*c) / D))) (J7 m n q fr sc D V G O F A []):=by
 have e1:=I2 a p;have e2:=I2 b c;have e3:=br0 (a*p) (b*c);have m1:=am5 a p om om;have m2:=am5 b c om om;have s1:=br6 (a*p) (b*c) om om;have ex:=aR8 (a*p - b*c) D hD hdv om om;refine ac Tryz.func320 ?_;conv=>whnf
 repeat' (first|refine zz ?_|refine qp m1 ?_|refine qp m2 ?_|refine qp s1 ?_|refine qp ex ?_|refine b0x ?_|refine i9 (i5 _ _ _) ?_|refine i7 ?_|refine s9 (i5 _ _ _) ?_|refine C4 (i5 _ _ _) ?_|apply zD<;>intro<;>try omega|refine zy ?_|fail)<;>conv=>whnf
 all_goals
  refine a5Y (m:=m) (n:=n) (q:=q) (fr:=fr) (sc:=sc) (D:=D) (V:=V) (G:=G) (O:=O) (F:=F) (A:=A) (T:=[_]) rfl rfl (by simp [i5]) ?_;exact rz
def aU8 {m n q:Nat} {fr:LB} {sc:LI} {D:Int} {V G:Nat->Int} {O F:Nat->Nat} {A:Nat->Nat->Int} {a p b c:Int} (T:Hp) (hD:0<D) (hdv:D ∣ a*p - b*c) (la:bl a<=1000) (lp:bl p<=1000) (lb:bl b<=1000) (lc:bl c<=1000) (lD:bl D<=1000):
 ec 320 [.c (.ptr 0 0 0),bgS (bz a),bgS (bz p),bgS (bz b),bgS (bz c)] (J7 m n q fr sc D V G O F A T) (bgS (bz ((a*p - b*c) / D))) (J7 m n q fr sc D V G O F A T):=by
 have e:J7 m n q fr sc D V G O F A T=J7 m n q fr sc D V G O F A []++T:=a4z (T:=[]) (T':=T);rw [e];exact a3H (n:=m+9) T (bC5 m n q fr sc D V G O F A a p b c hD hdv la lp lb lc lD) a00 a00 (by simp [okS,okC,okL,e7,bgS,bgC,a19]) (fun k hk=>⟨(a1u k hk).1,(a1u k hk).2,a57 (lbR _) zq k hk⟩) (fun k hk=>⟨(by rw [(a1u k hk).1];intro h;cases h),a57 (lbR _) zq k hk⟩) rfl rfl
def a1k {n i j:Nat} {g:Nat->Int} {y:Int} (e:i=j) (h:j<n):D4 (zlB (zF n g)) ((zlB (zF n g)).rows.set i (bgC (bz y)))=zlB (zF n fun k=>if k=j then y else g k):=by
 subst e;have:=be3 (row:=zF n g) (y:=y) (rfl:i=i);rw [bA4 h] at this;exact this
def b6o (Z:Zd):Zd:=⟨fun i=>-(Z.V i),fun i j=>-(Z.A i j),fun j=>-(Z.C j),-Z.D,Z.O,Z.F⟩
def bB3 (m n:Nat) (fr:LB) (sc:LI) (Z:Zd) (hm:m<=100000) (hn:n<=1000) (hB:ZB m n 1000 Z):
 ec 321 [.c (.ptr 0 0 0)] (N0 m n fr sc Z []) (.tup []) (N0 m n fr sc (b6o Z) []):=by
 have nd:=a5Z Z.D (by have:=hB.d;omega);refine ac Tryz.func321 ?_;conv=>whnf
 repeat' (first|refine zx ?_|refine i9 (i5 _ _ _) ?_|refine i7 ?_|refine bl0 [0] ?_|apply zD<;>intro<;>try omega)<;>conv=>whnf
 refine k5 g8 (fun i=>([sP 0 0 0,J,eI i]++Jn 85,J7 m n n fr sc (-Z.D) (tv Z.V i) Z.C Z.O Z.F (ta n Z.A i 0) [])) m tT (idR (m+9)) trivial ?_ ?_
 ·exact t7 (T:=[]) (T':=[]) (L5 rfl (by rw [aj8]) rfl rfl rfl rfl rfl rfl rfl (by rw [bd4];rfl)) rfl (by simp [i5]) zq ⟨⟨j5 om,rz⟩,g9 rfl,trivial⟩
 intro i hi _;by_cases hlt:i<m
 ·have ni:=a5Z (Z.V i) (by have:=hB.v i hlt;omega);have eIq:0+(i:Int).toNat=i:=om;have gv:(zF m (tv Z.V i))[0+(i:Int).toNat]? =some (Z.V i):=by rw [eIq,S8 hlt,b6K]
  conv=>whnf
  repeat' (first|refine zx ?_|refine i9 (i5 _ _ _) ?_|refine i7 ?_|refine a2o gv ?_|refine bl0 [0,1,2,3,4] ?_|apply zD<;>intro<;>try omega)<;>conv=>whnf
  all_goals try omega
  refine k5 g8 (fun j=>([sP 0 0 0,J,eI i,eI j]++Jn 84,J7 m n n fr sc (-Z.D) (tv Z.V (i+1)) Z.C Z.O Z.F (ta n Z.A i j) [])) n tT (idR (m+9)) trivial ?_ ?_
  ·exact t7 (T:=[]) (T':=[]) (L5 rfl ((a1k eIq hlt).trans (by rw [aX4])) rfl rfl rfl rfl rfl rfl rfl rfl) rfl (by simp [i5]) zq ⟨⟨j5 om,rz⟩,rfl,g9 rfl,trivial⟩
  intro j hj _;have gA:(mZ m n (ta n Z.A i j))[i]? =some (zF n (tv (Z.A i) j)):=by rw [a0s hlt,bt5]
  by_cases hjl:j<n
  ·have nj:=a5Z (Z.A i j) (by have:=hB.a i hlt j hjl;omega);have eJ:0+(j:Int).toNat=j:=om;have gj:(zF n (tv (Z.A i) j))[0+(j:Int).toNat]? =some (Z.A i j):=by rw [eJ,S8 hjl,b6K]
   have lA:i<(mZ m n (ta n Z.A i j)).length:=by rw [i5];exact hlt
   conv=>whnf
   repeat' (first|refine zx ?_|refine i9 (i5 _ _ _) ?_|refine i7 ?_|refine ah7 eIq hlt ?_|refine J6 gA ?_|refine a2o gj ?_|refine a2B lA (a1k eJ hjl) ?_|refine bl0 [0,1,2,3,4,5,6,7] ?_|apply zD<;>intro<;>try omega)<;>conv=>whnf
   all_goals first|omega|exact ⟨hjl,trivial,idR (m+9),t7 (T:=[]) (T':=[]) (L5 rfl rfl rfl rfl rfl rfl rfl rfl rfl (by rw [aX4,b4E hlt (bo6 n Z.A i j)];rfl)) rfl (by simp [i5]) zq ⟨⟨j5 om,rz⟩,rfl,g9 om,trivial⟩⟩
  ·have hje:j=n:=by omega
   subst hje;conv=>whnf
   repeat' (first|refine zx ?_|refine i9 (i5 _ _ _) ?_|refine i7 ?_|apply zD<;>intro<;>try omega)<;>conv=>whnf
   all_goals first|omega|exact ⟨hlt,trivial,idR (m+9),t7 (T:=[]) (T':=[]) (L5 rfl rfl rfl rfl rfl rfl rfl rfl rfl (by rw [← bw5];rfl)) rfl (by simp [i5]) zq ⟨⟨j5 om,rz⟩,g9 om,trivial⟩⟩
 ·have hie:i=m:=by omega
  subst hie;conv=>whnf
  repeat' (first|refine zx ?_|refine i9 (i5 _ _ _) ?_|refine i7 ?_|apply zD<;>intro<;>try omega)<;>conv=>whnf
  all_goals try omega
  refine k5 g8 (fun j=>([sP 0 0 0,J,J,J,eI j]++Jn 83,J7 i n n fr sc (-Z.D) (tv Z.V i) (tv Z.C j) Z.O Z.F (ta n Z.A i 0) [])) n tT (idR (i+9)) trivial ?_ ?_
  ·exact t7 (T:=[]) (T':=[]) (L5 rfl rfl rfl (by rw [aj8]) rfl rfl rfl rfl rfl rfl) rfl (by simp [i5]) zq ⟨⟨j5 om,rz⟩,g9 rfl,trivial⟩
  intro j hj _;by_cases hjl:j<n
  ·have nj:=a5Z (Z.C j) (by have:=hB.c j hjl;omega);have eJ:0+(j:Int).toNat=j:=om;have gj:(zF n (tv Z.C j))[0+(j:Int).toNat]? =some (Z.C j):=by rw [eJ,S8 hjl,b6K]
   conv=>whnf
   repeat' (first|refine zx ?_|refine i9 (i5 _ _ _) ?_|refine i7 ?_|refine a2o gj ?_|refine bl0 [0,1,2,3,4] ?_|apply zD<;>intro<;>try omega)<;>conv=>whnf
   all_goals first|omega|exact ⟨hjl,trivial,idR (i+9),t7 (T:=[]) (T':=[]) (L5 rfl rfl rfl ((a1k eJ hjl).trans (by rw [aX4])) rfl rfl rfl rfl rfl rfl) rfl (by simp [i5]) zq ⟨⟨j5 om,rz⟩,g9 om,trivial⟩⟩
  ·have hje:j=n:=by omega
   subst hje;have eA:mZ i j (ta j Z.A i 0)=mZ i j (b6o Z).A:=a99 fun a ha b hb=>bG7 ha hb
   have eV:zF i (tv Z.V i)=zF i (b6o Z).V:=a38 fun a ha=>b25 ha
   have eC:zF j (tv Z.C j)=zF j (b6o Z).C:=a38 fun a ha=>b25 ha
   have e0:J7 i j j fr sc (-Z.D) (tv Z.V i) (tv Z.C j) Z.O Z.F (ta j Z.A i 0) []=N0 i j fr sc (b6o Z) []:=L5 rfl (by rw [eV]) rfl (by rw [eC]) rfl rfl rfl rfl rfl (by rw [eA]);conv=>whnf
   repeat' (first|refine zx ?_|refine i9 (i5 _ _ _) ?_|refine i7 ?_|apply zD<;>intro<;>try omega)<;>conv=>whnf
   all_goals first|omega|(rw [← e0];exact a5Y (T:=[]) rfl rfl (by simp [i5]) trivial)
def a4P {N:Nat} {z:Int}:okB N (bgX z):=A7 (rows:=[[ti (bz z).sg,v6 (bz z).dl]]) rfl
def ok1 {N:Nat} {z:Int}:∀k ∈ [bgX z],okB N k:=by intro k hk;simp at hk;subst hk;exact a4P
def ok2 {N:Nat} {z y:Int}:∀k ∈ [bgX z,bgX y],okB N k:=by intro k hk;simp at hk;rcases hk with rfl|rfl<;>exact a4P
def aV3 (m n:Nat) (fr:List (Nat × Bool)) (sc:List Int) (Z:Zd) (r s:Nat) (hm:m<=100000) (hn:n<=1000) (hr:r<m) (hs:s<n) (hd:0<Z.D) (hA:Z.A r s≠0) (hB:ZB m n 1000 Z) (hB':ZB m n 1000 (Z.exch r s)) (hdv:bC7 m n Z r s):
 e8 Tryz.prog 283 [.c (.ptr 0 0 0),e7 .i64 r,e7 .i64 s] (N0 m n fr sc Z []) (.tup []) (N0 m n fr sc (Z.exch r s) []):=by
 have eR:0+(r:Int).toNat=r:=om
 have eS:0+(s:Int).toNat=s:=om
 have bp:=hB.a r hr s hs
 have bd:=hB.d
 have gA:(mZ m n Z.A)[r]? =some (zF n (Z.A r)):=a0s hr
 have e1V:∀i,i<m->bl (Z.exV r s i)<=1000:=fun i hi=>by
  have h:=hB'.v i hi
  have e:(Z.exch r s).V i=if Z.A r s<0 then -(Z.exV r s i) else Z.exV r s i:=rfl
  rw [e] at h
  split at h
  ·rwa [Y4] at h
  ·exact h
 have e1A:∀i,i<m->∀j,j<n->bl (Z.exA r s i j)<=1000:=fun i hi j hj=>by
  have h:=hB'.a i hi j hj
  have e:(Z.exch r s).A i j=if Z.A r s<0 then -(Z.exA r s i j) else Z.exA r s i j:=rfl
  rw [e] at h
  split at h
  ·rwa [Y4] at h
  ·exact h
 have e1C:∀j,j<n->bl (Z.exC r s j)<=1000:=fun j hj=>by
  have h:=hB'.c j hj
  have e:(Z.exch r s).C j=if Z.A r s<0 then -(Z.exC r s j) else Z.exC r s j:=rfl
  rw [e] at h
  split at h
  ·rwa [Y4] at h
  ·exact h
 have bcs:=hB.c s hs
 have gAm:(mZ m n (AE Z r s m))[r]? =some (zF n (Z.A r)):=by rw [a0s hr,bm9]
 have lAm:r<(mZ m n (AE Z r s m)).length:=by rw [i5];exact hr
 (refine O3 g8 Tryz.func283 rfl de ?_;refine w8 g8 ?_;(conv=>whnf);repeat ((first|refine b0x ?_|refine zy ?_);conv=>whnf))
 repeat' (first|refine zx ?_|refine i9 (i5 _ _ _) ?_|refine i7 ?_|refine ah7 eR hr ?_|refine bt2 eS hs ?_|refine J6 gA ?_|refine s9 (i5 _ _ _) ?_|refine C4 (i5 _ _ _) ?_|refine zd ?_ ?_<;>intro h<;>try omega|fail)<;>conv=>whnf
 refine B3 g8 ([S.c (C.ptr 0 0 0),e7 .i64 r,e7 .i64 s,J,J,J,S.c (C.ptr (m+9) 0 0)]++Jn 221) (J7 m n n fr sc Z.D (VE Z r s m) Z.C Z.O Z.F (AE Z r s m) [bgX (Z.A r s)]) ?_ ?_
 ·conv=>whnf
  repeat' (first|refine zx ?_|refine i9 (i5 _ _ _) ?_|refine i7 ?_|refine zd ?_ ?_<;>intro h<;>try omega|fail)<;>conv=>whnf
  refine k5 g8 (fun i=>([S.c (C.ptr 0 0 0),e7 .i64 r,e7 .i64 s,J,J,J,S.c (C.ptr (m+9) 0 0),e7 .i64 i]++Jn 220,J7 m n n fr sc Z.D (VE Z r s i) Z.C Z.O Z.F (AE Z r s i) [bgX (Z.A r s)])) m (fun _=>True) (idR (m+10)) trivial ?_ ?_
  ·exact t7 (T:=[_]) (T':=[]) (L5 rfl (by rw [bo9]) rfl rfl rfl rfl rfl rfl rfl (by rw [bn6];rfl)) rfl (by simp [i5]) ok1 ⟨⟨j5 om,rfl,rfl⟩,rfl,rfl,⟨j5 om,rfl,rfl⟩,g9 rfl,trivial⟩
  intro i hi _
  by_cases hlt:i<m
  ·by_cases hir:i=r
   ·subst hir
    conv=>whnf
    repeat' (first|refine zx ?_|refine i9 (i5 _ _ _) ?_|refine i7 ?_|refine zd ?_ ?_<;>intro h<;>try omega|fail)<;>conv=>whnf
    all_goals first
     |omega
     |exact ⟨hlt,trivial,idR (m+10),t7 (T:=[_]) (T':=[]) (L5 rfl (by rw [← bl8]) rfl rfl rfl rfl rfl rfl rfl (by rw [← br5];rfl)) rfl (by simp [i5]) ok1 ⟨⟨j5 om,rfl,rfl⟩,rfl,rfl,⟨j5 om,rfl,rfl⟩,g9 om,trivial⟩⟩
   ·have gAi:(mZ m n (AE Z r s i))[i]? =some (zF n (Z.A i)):=by rw [a0s hlt,bu4]
    have eIq:0+(i:Int).toNat=i:=om
    have gv:(zF m (VE Z r s i))[0+(i:Int).toNat]? =some (Z.V i):=by rw [eIq,S8 hlt,bI6]
    have gvr:(zF m (VE Z r s i))[0+(r:Int).toNat]? =some (Z.V r):=by rw [eR,S8 hr,bQ0]
    have bi:=hB.v i hlt
    have br:=hB.v r hr
    have bis:=hB.a i hlt s hs
    have n1:=fun T=>aU8 (m:=m) (n:=n) (q:=n) (fr:=fr) (sc:=sc) (V:=VE Z r s i) (G:=Z.C) (O:=Z.O) (F:=Z.F) (A:=AE Z r s i) T hd (hdv.v i hlt hir) bi bp bis br bd
    conv=>whnf
    repeat' (first|refine zx ?_|refine .inr ⟨_,_,n1 _,?_⟩|refine i9 (i5 _ _ _) ?_|refine i7 ?_|refine ah7 eIq hlt ?_|refine bt2 eS hs ?_|refine a2o gv ?_|refine a2o gvr ?_|refine J6 gAi ?_|refine s9 (i5 _ _ _) ?_|refine j2 (t:=1) (i5 _ _ _) ?_|refine C4 (i5 _ _ _) ?_|refine j9 (t:=1) (i5 _ _ _) ?_|refine bl0 [0,1,2,3,4] ?_|refine zd ?_ ?_<;>intro h<;>try omega|fail)<;>conv=>whnf
    all_goals try omega
    refine k5 g8 (fun j=>([S.c (C.ptr 0 0 0),e7 .i64 r,e7 .i64 s,J,J,J,S.c (C.ptr (m+9) 0 0),e7 .i64 i,S.c (C.ptr (m+10) 0 0),e7 .i64 j]++Jn 218,J7 m n n fr sc Z.D (VE Z r s (i+1)) Z.C Z.O Z.F (AI Z r s i j) [bgX (Z.A r s),bgX (Z.A i s)])) n (fun _=>True) (idR (m+11)) trivial ?_ ?_
    ·exact t7 (T:=[_,_]) (T':=[]) (L5 rfl ((a1k eIq hlt).trans (by rw [← bm2 hir];rfl)) rfl rfl rfl rfl rfl rfl rfl (by rw [bg9];rfl)) rfl (by simp [i5]) ok2 ⟨⟨j5 om,rfl,rfl⟩,rfl,rfl,⟨j5 om,rfl,rfl⟩,rfl,⟨j5 om,rfl,rfl⟩,g9 rfl,trivial⟩
    intro j hj _
    have gAi:(mZ m n (AI Z r s i j))[i]? =some (zF n (exr Z r s i j)):=by rw [a0s hlt,b3L]
    have gAr:(mZ m n (AI Z r s i j))[r]? =some (zF n (Z.A r)):=by rw [a0s hr,bO4 hir]
    have lA:i<(mZ m n (AI Z r s i j)).length:=by rw [i5];exact hlt
    by_cases hjl:j<n
    ·by_cases hjs:j=s
     ·subst hjs
      conv=>whnf
      repeat' (first|refine zx ?_|refine i9 (i5 _ _ _) ?_|refine i7 ?_|refine zd ?_ ?_<;>intro h<;>try omega|fail)<;>conv=>whnf
      all_goals first
       |omega
       |exact ⟨hjl,trivial,idR (m+11),t7 (T:=[_,_]) (T':=[]) (L5 rfl rfl rfl rfl rfl rfl rfl rfl rfl (by rw [← bk3];rfl)) rfl (by simp [i5]) ok2 ⟨⟨j5 om,rfl,rfl⟩,rfl,rfl,⟨j5 om,rfl,rfl⟩,rfl,⟨j5 om,rfl,rfl⟩,g9 om,trivial⟩⟩
     ·have eJ:0+(j:Int).toNat=j:=by omega
      have gi:(zF n (exr Z r s i j))[0+(j:Int).toNat]? =some (Z.A i j):=by
       rw [eJ,S8 hjl];unfold exr;rw [iB om]
      have grj:(zF n (Z.A r))[0+(j:Int).toNat]? =some (Z.A r j):=by rw [eJ,S8 hjl]
      have bij:=hB.a i hlt j hjl
      have brj:=hB.a r hr j hjl
      have n2:=fun T=>aU8 (m:=m) (n:=n) (q:=n) (fr:=fr) (sc:=sc) (V:=VE Z r s (i+1)) (G:=Z.C) (O:=Z.O) (F:=Z.F) (A:=AI Z r s i j) T hd (hdv.a i hlt hir j hjl hjs) bij bp bis brj bd
      have ex:(fun k=>if k=j then (Z.A i j*Z.A r s - Z.A i s*Z.A r j) / Z.D else exr Z r s i j k)=exr Z r s i (j+1):=b8r hjs
      conv=>whnf
      repeat' (first|refine zx ?_|refine .inr ⟨_,_,n2 _,?_⟩|refine i9 (i5 _ _ _) ?_|refine i7 ?_|refine ah7 eIq hlt ?_|refine ah7 eR hr ?_|refine a2o gi ?_|refine a2o grj ?_|refine J6 gAi ?_|refine J6 gAr ?_|refine s9 (i5 _ _ _) ?_|refine j2 (t:=1) (i5 _ _ _) ?_|refine a2B lA (a1k (g:=exr Z r s i j) eJ hjl) ?_|refine bl0 [0,1,2,3,4,5,6,7] ?_|refine zd ?_ ?_<;>intro h<;>try omega|fail)<;>conv=>whnf
      all_goals first
       |omega
       |exact ⟨hjl,trivial,idR (m+11),t7 (T:=[_,_]) (T':=[]) (L5 rfl rfl rfl rfl rfl rfl rfl rfl rfl (by rw [ex,b4E hlt bp0];rfl)) rfl (by simp [i5]) ok2 ⟨⟨j5 om,rfl,rfl⟩,rfl,rfl,⟨j5 om,rfl,rfl⟩,rfl,⟨j5 om,rfl,rfl⟩,g9 om,trivial⟩⟩
    ·have hje:j=n:=by omega
     subst hje
     have ng:=a5Z (Z.A i s) om
     have gi:(zF j (exr Z r s i j))[0+(s:Int).toNat]? =some (Z.A i s):=by
      rw [eS,S8 hs];unfold exr;rw [iB om]
     have eA:(mZ m j (AI Z r s i j)).set i (zF j fun k=>if k=s then -(Z.A i s) else exr Z r s i j k)=mZ m j (AE Z r s (i+1)):=by
      rw [b2l hlt]
      exact a99 fun k hk l hl=>by
       have:=bC0 (Z:=Z) (r:=r) (s:=s) (i:=i) (n:=j) hir (k:=k) hl
       rw [← this,b3L]
       split<;>rfl
     conv=>whnf
     repeat' (first|refine zx ?_|refine qp ng ?_|refine i9 (i5 _ _ _) ?_|refine i7 ?_|refine ah7 eIq hlt ?_|refine a2o gi ?_|refine J6 gAi ?_|refine s9 (i5 _ _ _) ?_|refine j2 (t:=1) (i5 _ _ _) ?_|refine a2B lA (a1k (g:=exr Z r s i j) eS hs) ?_|refine bl0 [0,1,2,3,4,5,6,7] ?_|refine zd ?_ ?_<;>intro h<;>try omega|fail)<;>conv=>whnf
     all_goals first
      |omega
      |exact ⟨hlt,trivial,idR (m+10),t7 (T:=[_]) (T':=[_]) (L5 rfl rfl rfl rfl rfl rfl rfl rfl rfl (by rw [eA];rfl)) rfl (by simp [i5]) ok1 ⟨⟨j5 om,rfl,rfl⟩,rfl,rfl,⟨j5 om,rfl,rfl⟩,g9 om,trivial⟩⟩
  ·have hie:i=m:=by omega
   subst hie
   conv=>whnf
   repeat' (first|refine zx ?_|refine i9 (i5 _ _ _) ?_|refine i7 ?_|refine s9 (i5 _ _ _) ?_|refine j2 (t:=1) (i5 _ _ _) ?_|refine C4 (i5 _ _ _) ?_|refine j9 (t:=1) (i5 _ _ _) ?_|refine zd ?_ ?_<;>intro h<;>try omega|fail)<;>conv=>whnf
   all_goals first
    |omega
    |exact ⟨idR (i+10),t7 (T:=[_]) (T':=[]) rfl rfl (by simp [i5]) ok1 ⟨⟨j5 om,rfl,rfl⟩,rfl,rfl,⟨j5 om,rfl,rfl⟩,trivial⟩⟩
 have gcs:(zF n Z.C)[0+(s:Int).toNat]? =some (Z.C s):=by rw [eS,S8 hs]
 refine B3 g8 ([S.c (C.ptr 0 0 0),e7 .i64 r,e7 .i64 s,J,J,J,S.c (C.ptr (m+9) 0 0),J,J,J,S.c (C.ptr (m+10) 0 0)]++Jn 217) (J7 m n n fr sc Z.D (VE Z r s m) Z.C Z.O Z.F (AE Z r s m) [bgX (Z.A r s),bgX (Z.C s)]) ?_ ?_
 ·conv=>whnf
  repeat' (first|refine zx ?_|refine a2o gcs ?_|refine i9 (i5 _ _ _) ?_|refine i7 ?_|refine s9 (i5 _ _ _) ?_|refine j2 (t:=1) (i5 _ _ _) ?_|refine C4 (i5 _ _ _) ?_|refine j9 (t:=1) (i5 _ _ _) ?_|refine zd ?_ ?_<;>intro h<;>try omega|fail)<;>conv=>whnf
  all_goals exact ⟨idR (m+11),t7 (T:=[_,_]) (T':=[]) rfl rfl (by simp [i5]) ok2 ⟨⟨j5 om,rfl,rfl⟩,rfl,rfl,⟨j5 om,rfl,rfl⟩,⟨j5 om,rfl,rfl⟩,trivial⟩⟩
 refine B3 g8 ([S.c (C.ptr 0 0 0),e7 .i64 r,e7 .i64 s,J,J,J,S.c (C.ptr (m+9) 0 0),J,J,J,S.c (C.ptr (m+10) 0 0)]++Jn 217) (J7 m n n fr sc Z.D (VE Z r s m) (CE Z r s n) Z.O Z.F (AE Z r s m) [bgX (Z.A r s),bgX (Z.C s)]) ?_ ?_
 ·conv=>whnf
  repeat' (first|refine zx ?_|refine i9 (i5 _ _ _) ?_|refine i7 ?_|refine zd ?_ ?_<;>intro h<;>try omega|fail)<;>conv=>whnf
  refine k5 g8 (fun j=>([S.c (C.ptr 0 0 0),e7 .i64 r,e7 .i64 s,J,J,J,S.c (C.ptr (m+9) 0 0),J,J,J,S.c (C.ptr (m+10) 0 0),e7 .i64 j]++Jn 216,J7 m n n fr sc Z.D (VE Z r s m) (CE Z r s j) Z.O Z.F (AE Z r s m) [bgX (Z.A r s),bgX (Z.C s)])) n (fun _=>True) (idR (m+11)) trivial ?_ ?_
  ·exact t7 (T:=[_,_]) (T':=[]) (L5 rfl rfl rfl (by rw [bq9]) rfl rfl rfl rfl rfl rfl) rfl (by simp [i5]) ok2 ⟨⟨j5 om,rfl,rfl⟩,rfl,rfl,⟨j5 om,rfl,rfl⟩,⟨j5 om,rfl,rfl⟩,g9 rfl,trivial⟩
  intro j hj _
  by_cases hjl:j<n
  ·by_cases hjs:j=s
   ·subst hjs
    conv=>whnf
    repeat' (first|refine zx ?_|refine i9 (i5 _ _ _) ?_|refine i7 ?_|refine zd ?_ ?_<;>intro h<;>try omega|fail)<;>conv=>whnf
    all_goals first
     |omega
     |exact ⟨hjl,trivial,idR (m+11),t7 (T:=[_,_]) (T':=[]) (L5 rfl rfl rfl (by rw [← bj0]) rfl rfl rfl rfl rfl rfl) rfl (by simp [i5]) ok2 ⟨⟨j5 om,rfl,rfl⟩,rfl,rfl,⟨j5 om,rfl,rfl⟩,⟨j5 om,rfl,rfl⟩,g9 om,trivial⟩⟩
   ·have eJ:0+(j:Int).toNat=j:=by omega
    have gj:(zF n (CE Z r s j))[0+(j:Int).toNat]? =some (Z.C j):=by rw [eJ,S8 hjl,bN0]
    have grj:(zF n (Z.A r))[0+(j:Int).toNat]? =some (Z.A r j):=by rw [eJ,S8 hjl]
    have bj:=hB.c j hjl
    have brj:=hB.a r hr j hjl
    have n3:=fun T=>aU8 (m:=m) (n:=n) (q:=n) (fr:=fr) (sc:=sc) (V:=VE Z r s m) (G:=CE Z r s j) (O:=Z.O) (F:=Z.F) (A:=AE Z r s m) T hd (hdv.c j hjl hjs) bj bp bcs brj bd
    have ex:(fun k=>if k=j then (Z.C j*Z.A r s - Z.C s*Z.A r j) / Z.D else CE Z r s j k)=CE Z r s (j+1):=bo3 hjs
    conv=>whnf
    repeat' (first|refine zx ?_|refine .inr ⟨_,_,n3 _,?_⟩|refine i9 (i5 _ _ _) ?_|refine i7 ?_|refine ah7 eR hr ?_|refine a2o gj ?_|refine a2o grj ?_|refine J6 gAm ?_|refine s9 (i5 _ _ _) ?_|refine j2 (t:=1) (i5 _ _ _) ?_|refine bl0 [0,1,2,3,4] ?_|refine zd ?_ ?_<;>intro h<;>try omega|fail)<;>conv=>whnf
    all_goals first
     |omega
     |exact ⟨hjl,trivial,idR (m+11),t7 (T:=[_,_]) (T':=[]) (L5 rfl rfl rfl ((a1k eJ hjl).trans (by rw [ex])) rfl rfl rfl rfl rfl rfl) rfl (by simp [i5]) ok2 ⟨⟨j5 om,rfl,rfl⟩,rfl,rfl,⟨j5 om,rfl,rfl⟩,⟨j5 om,rfl,rfl⟩,g9 om,trivial⟩⟩
  ·have hje:j=n:=by omega
   subst hje
   conv=>whnf
   repeat' (first|refine zx ?_|refine i9 (i5 _ _ _) ?_|refine i7 ?_|refine s9 (i5 _ _ _) ?_|refine j2 (t:=1) (i5 _ _ _) ?_|refine C4 (i5 _ _ _) ?_|refine j9 (t:=1) (i5 _ _ _) ?_|refine zd ?_ ?_<;>intro h<;>try omega|fail)<;>conv=>whnf
   all_goals first
    |omega
    |exact ⟨idR (m+11),t7 (T:=[_,_]) (T':=[]) rfl rfl (by simp [i5]) ok2 ⟨⟨j5 om,rfl,rfl⟩,rfl,rfl,⟨j5 om,rfl,rfl⟩,⟨j5 om,rfl,rfl⟩,trivial⟩⟩
 have ng:=a5Z (Z.C s) om
 have gce:(zF n (CE Z r s n))[0+(s:Int).toNat]? =some (Z.C s):=by rw [eS,S8 hs,bO3]
 have eC:zF n (fun j=>if j=s then -(Z.C s) else CE Z r s n j)=zF n (Z.exC r s):=a38 fun j hj=>bE3 hj
 refine B3 g8 ([S.c (C.ptr 0 0 0),e7 .i64 r,e7 .i64 s,J,J,J,S.c (C.ptr (m+9) 0 0)]++Jn 221) (J7 m n n fr sc Z.D (VE Z r s m) (Z.exC r s) Z.O Z.F (AE Z r s m) [bgX (Z.A r s)]) ?_ ?_
 ·conv=>whnf
  repeat' (first|refine zx ?_|refine qp ng ?_|refine a2o gce ?_|refine i9 (i5 _ _ _) ?_|refine i7 ?_|refine s9 (i5 _ _ _) ?_|refine j2 (t:=1) (i5 _ _ _) ?_|refine C4 (i5 _ _ _) ?_|refine j9 (t:=1) (i5 _ _ _) ?_|refine bl0 [0,1,2,3,4] ?_|refine zd ?_ ?_<;>intro h<;>try omega|fail)<;>conv=>whnf
  all_goals exact ⟨idR (m+10),t7 (T:=[_]) (T':=[_]) (L5 rfl rfl rfl ((a1k eS hs).trans (by rw [eC])) rfl rfl rfl rfl rfl rfl) rfl (by simp [i5]) ok1 ⟨⟨j5 om,rfl,rfl⟩,rfl,rfl,⟨j5 om,rfl,rfl⟩,trivial⟩⟩
 have eA:(mZ m n (AE Z r s m)).set r (zF n fun k=>if k=s then Z.D else Z.A r k)=mZ m n (Z.exA r s):=by
  rw [b2l hr]
  exact a99 fun i hi j hj=>by
   have:=bF5 (Z:=Z) (r:=r) (s:=s) (j:=j) hi
   rw [← this,bm9]
   split<;>rfl
 have gAs:(zF n (Z.A r))[0+(s:Int).toNat]? =some (Z.A r s):=by rw [eS,S8 hs]
 have eV:zF m (VE Z r s m)=zF m (Z.exV r s):=a38 fun i hi=>bD7 hi
 refine B3 g8 ([S.c (C.ptr 0 0 0),e7 .i64 r,e7 .i64 s,J,J,J,S.c (C.ptr (m+9) 0 0)]++Jn 221) (J7 m n n fr sc Z.D (Z.exV r s) (Z.exC r s) Z.O Z.F (Z.exA r s) [bgX (Z.A r s)]) ?_ ?_
 ·conv=>whnf
  repeat' (first|refine zx ?_|refine ah7 eR hr ?_|refine a2o gAs ?_|refine J6 gAm ?_|refine a2B lAm (a1k (g:=Z.A r) eS hs) ?_|refine i9 (i5 _ _ _) ?_|refine i7 ?_|refine s9 (i5 _ _ _) ?_|refine j2 (t:=1) (i5 _ _ _) ?_|refine C4 (i5 _ _ _) ?_|refine j9 (t:=1) (i5 _ _ _) ?_|refine bl0 [0,1,2,3,4] ?_|refine zd ?_ ?_<;>intro h<;>try omega|fail)<;>conv=>whnf
  all_goals first
   |omega
   |exact ⟨idR (m+10),t7 (T:=[_]) (T':=[]) (L5 rfl (by rw [eV]) rfl rfl rfl rfl rfl rfl rfl (by rw [eA];rfl)) rfl (by simp [i5]) ok1 ⟨⟨j5 om,rfl,rfl⟩,rfl,rfl,⟨j5 om,rfl,rfl⟩,trivial⟩⟩
 refine B3 g8 ([S.c (C.ptr 0 0 0),e7 .i64 r,e7 .i64 s,J,J,J,S.c (C.ptr (m+9) 0 0)]++Jn 221) (N0 m n fr sc ⟨Z.exV r s,Z.exA r s,Z.exC r s,Z.A r s,Z.O,Z.F⟩ [bgX (Z.A r s)]) ?_ ?_
 ·conv=>whnf
  repeat' (first|refine zx ?_|refine i9 (i5 _ _ _) ?_|refine i7 ?_|refine s9 (i5 _ _ _) ?_|refine j2 (t:=1) (i5 _ _ _) ?_|refine C4 (i5 _ _ _) ?_|refine j9 (t:=1) (i5 _ _ _) ?_|refine zd ?_ ?_<;>intro h<;>try omega|fail)<;>conv=>whnf
  all_goals first
   |omega
   |exact ⟨idR (m+10),t7 (T:=[_]) (T':=[]) (L5 rfl rfl rfl rfl rfl rfl rfl rfl rfl rfl) rfl (by simp [i5]) ok1 ⟨⟨j5 om,rfl,rfl⟩,rfl,rfl,⟨j5 om,rfl,rfl⟩,trivial⟩⟩
 have hsg1:=aP0 (Z.A r s)
 have tu:=aK6 [bgX (Z.A r s)] (bB3 m n fr sc ⟨Z.exV r s,Z.exA r s,Z.exC r s,Z.A r s,Z.O,Z.F⟩ hm hn ⟨e1V,e1A,e1C,bp⟩) (by simp [okS,okC,okL,a19]) rfl rfl
 refine B3 g8 ([S.c (C.ptr 0 0 0),e7 .i64 r,e7 .i64 s]++Jn 225) (N0 m n fr sc ⟨(Z.exch r s).V,(Z.exch r s).A,(Z.exch r s).C,(Z.exch r s).D,Z.O,Z.F⟩ []) ?_ ?_
 ·by_cases hng:Z.A r s<0
  ·have eZ:∀T,N0 m n fr sc (b6o ⟨Z.exV r s,Z.exA r s,Z.exC r s,Z.A r s,Z.O,Z.F⟩) T=N0 m n fr sc ⟨(Z.exch r s).V,(Z.exch r s).A,(Z.exch r s).C,(Z.exch r s).D,Z.O,Z.F⟩ T:=fun T=>a7i ⟨fun i hi=>(iA hng).symm,fun i hi j hj=>(iA hng).symm,fun j hj=>(iA hng).symm,(iA hng).symm,rfl,rfl⟩
   conv=>whnf
   repeat' (first|refine zx ?_|refine .inr ⟨_,_,tu,?_⟩|refine i9 (i5 _ _ _) ?_|refine i7 ?_|refine s9 (i5 _ _ _) ?_|refine j2 (t:=1) (i5 _ _ _) ?_|refine C4 (i5 _ _ _) ?_|refine j9 (t:=1) (i5 _ _ _) ?_|refine zd ?_ ?_<;>intro h<;>try omega|fail)<;>conv=>whnf
   all_goals first
    |omega
    |exact ⟨idR (m+9),t7 (T:=[]) (T':=[_]) (eZ _) rfl (by simp [i5]) zq ⟨⟨j5 om,rfl,rfl⟩,rfl,rfl,trivial⟩⟩
  ·have eZ:∀T,N0 m n fr sc ⟨Z.exV r s,Z.exA r s,Z.exC r s,Z.A r s,Z.O,Z.F⟩ T=N0 m n fr sc ⟨(Z.exch r s).V,(Z.exch r s).A,(Z.exch r s).C,(Z.exch r s).D,Z.O,Z.F⟩ T:=fun T=>a7i ⟨fun i hi=>(iB hng).symm,fun i hi j hj=>(iB hng).symm,fun j hj=>(iB hng).symm,(iB hng).symm,rfl,rfl⟩
   conv=>whnf
   repeat' (first|refine zx ?_|refine i9 (i5 _ _ _) ?_|refine i7 ?_|refine s9 (i5 _ _ _) ?_|refine j2 (t:=1) (i5 _ _ _) ?_|refine C4 (i5 _ _ _) ?_|refine j9 (t:=1) (i5 _ _ _) ?_|refine zd ?_ ?_<;>intro h<;>try omega|fail)<;>conv=>whnf
   all_goals first
    |omega
    |exact ⟨idR (m+9),t7 (T:=[]) (T':=[_]) (eZ _) rfl (by simp [i5]) zq ⟨⟨j5 om,rfl,rfl⟩,rfl,rfl,trivial⟩⟩
 have e0:N0 m n fr sc (Z.exch r s) []=J7 m n n fr sc (Z.exch r s).D (Z.exch r s).V (Z.exch r s).C (fun i=>if i=r then Z.F s else Z.O i) (fun j=>if j=s then Z.O r else Z.F j) (Z.exch r s).A []:=rfl
 refine t4 g8 _ ?_
 conv=>whnf
 repeat' (first|refine zx ?_|refine P8 eR hr ?_|refine P8 eS hs ?_|refine i9 (i5 _ _ _) ?_|refine i7 ?_|refine s9 (i5 _ _ _) ?_|refine j2 (t:=1) (i5 _ _ _) ?_|refine C4 (i5 _ _ _) ?_|refine j9 (t:=1) (i5 _ _ _) ?_|refine bl0 [9] ?_|refine zd ?_ ?_<;>intro h<;>try omega|fail)<;>conv=>whnf
 all_goals first
  |omega
  |(rw [e0];exact a5Y (T:=[]) (L5 rfl rfl rfl rfl (a4r eR hr) (a4r eS hs) rfl rfl rfl rfl) rfl (by simp [i5]) trivial)
def aZ5 (n:Int) (hn:0<n) (x:Rat) (ln:bl n<=1000) (lx:rl x<=1000):ec 277 [bgS (bz n),frS (fz x)] [] (bgS (bz (n / (Int.gcd n x.den:Int)*x.den))) []:=by
 have hd:=x.den_pos;have lq:=J9 x;have hg:0<(Int.gcd n x.den:Int):=by have:=Int.gcd_pos_of_ne_zero_left (x.den:Int) (a:=n) om;omega
 have lg:=ab2 n x.den (n:=1000) ln om;have ld:bl (n / (Int.gcd n x.den:Int))<=1000:=lbS (a58 (b3f _ _)) ln;have g:=b8g n x.den om om;have e:=aR8 n (Int.gcd n x.den) hg (Int.gcd_dvd_left ..) om om;have m:=am5 (n / (Int.gcd n x.den:Int)) x.den om om;refine ac Tryz.func277 ?_;conv=>whnf
 repeat' (first|refine zx ?_|apply zD<;>intro<;>try omega)<;>conv=>whnf
 all_goals first|omega|exact p7 rz
def b4J (n:Int) (x:Rat) (hd:(x.den:Int) ∣ n) (ln:bl n<=1000) (lx:rl x<=1000):ec 278 [bgS (bz n),frS (fz x)] [] (bgS (bz (n / x.den*x.num))) []:=by
 have hp:=x.den_pos;have lq:=J9 x;have lp:=K6 x;have ld:bl (n / (x.den:Int))<=1000:=lbS (a58 (b3f _ _)) ln;have e:=aR8 n x.den om hd om om;have m:=am5 (n / x.den) x.num om om;refine ac Tryz.func278 ?_;conv=>whnf
 repeat' (first|refine zx ?_|apply zD<;>intro<;>try omega)<;>conv=>whnf
 all_goals first|omega|exact p7 rz
def aI6 (n:Int) (hn:0<n) (c:Int) (ln:bl n<=1000) (lc:bl c<=1):ec 277 [bgS (bz n),frS (fz ((c:Int):Rat))] [] (bgS (bz n)) []:=by
 have h1:bl 1<=1:=w5 de de;have h:=aZ5 n hn ((c:Int):Rat) ln (by rw [a0G];omega);have e:n / (Int.gcd n (((c:Int):Rat).den:Int):Int)*(((c:Int):Rat).den:Int)=n:=by
  rw [ap8];have:Int.gcd n ((1:Nat):Int)=1:=zq;rw [this];simp
 rw [e] at h;exact h
def b5h (x:Rat) (lx:rl x<=1000):ec 277 [bgS (bz 1),frS (fz x)] [] (bgS (bz x.den)) []:=by
 have h1:bl 1<=1:=w5 de de;have h:=aZ5 1 de x om lx;have e:1 / (Int.gcd 1 (x.den:Int):Int)*(x.den:Int)=(x.den:Int):=by
  have:Int.gcd 1 (x.den:Int)=1:=zq;rw [this];simp
 rw [e] at h;exact h
def b03 (n c:Int) (ln:bl n<=1000) (lc:bl c<=1):ec 278 [bgS (bz n),frS (fz ((c:Int):Rat))] [] (bgS (bz (n*c))) []:=by
 have h1:bl 1<=1:=w5 de de;have h:=b4J n ((c:Int):Rat) (by rw [ap8];exact ⟨n,zq⟩) ln (by rw [a0G];omega);rw [ap8,a85] at h;simpa using h
def b7P (x:Rat) (lx:rl x<=1000):ec 278 [bgS (bz x.den),frS (fz x)] [] (bgS (bz x.num)) []:=by
 have hp:=x.den_pos;have lq:=J9 x;have h:=b4J (x.den:Int) x ⟨1,zq⟩ om lx;have e:(x.den:Int) / (x.den:Int)*x.num=x.num:=by rw [Int.ediv_self om];simp
 rw [e] at h;exact h
def bJ9 (m n:Nat) (fr:LB) (sc:LI) (Z:Zd) (hm:m<=100000) (hn:n<=1000):ec 279 [jT m n fr sc Z] [] (eI (leI (E8 Z.O (fun i=>decide (Z.V i<0)) m))) []:=by
 have l1:(Z2 m Z.O).length=m:=n9 _ _;obtain ⟨p,hp⟩:∃p:Nat->Bool,p=fun i=>decide (Z.V i<0):=⟨_,rfl⟩
 rw [← hp];refine ac Tryz.func279 ?_;conv=>whnf
 repeat' (first|refine zx ?_|apply zD<;>intro h<;>try omega)<;>conv=>whnf
 refine k5 g8 (fun k=>([jT m n fr sc Z,J,J,eI (leI (E8 Z.O p k)),eI k]++Jn 42,[])) m tT [] trivial
  ⟨rfl,rfl,trivial,⟨rfl,g9 rfl,g9 rfl,trivial⟩⟩ ?_
 intro k hk _;by_cases hlt:k<m
 ·have hsg:=aP0 (Z.V k);have hpk:p k=decide (Z.V k<0):=by rw [hp]
  have ls:=X9 Z.O p k;have hM:∀b:Nat,(bif true then if 0 > (b:Int) then 0 else (b:Int) else if 0<(b:Int) then 0 else (b:Int))=(b:Int):=fun b=>by simp only [cond];split<;>omega
  cases hl:E8 Z.O p k with
  |none=>
   rw [hl] at ls;have hle:leI none=-1:=rfl;by_cases hd:p k=true
   ·have e1:(k:Int)=leI (E8 Z.O p (k+1)):=by rw [ls,hd];rfl
    rw [hpk] at hd;have hd:=lbL hd;conv=>whnf
    repeat' (first|refine zx ?_|refine a0Q rfl hlt ?_|refine t6 rfl hlt ?_|apply zD<;>intro h<;>try omega)<;>conv=>whnf
    all_goals first|omega|exact ⟨hlt,trivial,[],rfl,rfl,trivial,⟨rfl,g9 e1,g9 om,trivial⟩⟩
   ·have e1:leI none=leI (E8 Z.O p (k+1)):=by rw [ls,eq_false_of_ne_true hd];rfl
    have hd:p k=false:=eq_false_of_ne_true hd;rw [hpk] at hd;have hd:=lbM hd;conv=>whnf
    repeat' (first|refine zx ?_|refine a0Q rfl hlt ?_|refine t6 rfl hlt ?_|apply zD<;>intro h<;>try omega)<;>conv=>whnf
    all_goals first
     |omega
     |exact ⟨hlt,trivial,[],rfl,rfl,trivial,⟨rfl,g9 e1,g9 om,trivial⟩⟩
  |some b=>
   have hb:=(G1 hl).1;rw [hl] at ls;have hle:leI (some b)=b:=rfl;by_cases hd:p k=true
   ·have e0:E8 Z.O p (k+1)=if decide (Z.O k<Z.O b)=true then some k else some b:=by rw [ls,hd];rfl
    have e1:Z.O k<Z.O b->(k:Int)=leI (E8 Z.O p (k+1)):=fun h=>by rw [e0,iA (lbH h)];rfl
    have e2:¬Z.O k<Z.O b->(b:Int)=leI (E8 Z.O p (k+1)):=fun h=>by rw [e0,iB (by simp [h])];rfl
    rw [hpk] at hd;have hd:=lbL hd;rw [hle];conv=>whnf
    repeat' (first|refine zx ?_|refine a0Q rfl hlt ?_|refine t6 rfl hlt ?_|refine t6 (i:=b) (hM b) om ?_|apply zD<;>intro h<;>try omega)<;>conv=>whnf
    all_goals first|omega|exact ⟨hlt,trivial,[],rfl,rfl,trivial,⟨rfl,g9 (e1 om),g9 om,trivial⟩⟩|exact ⟨hlt,trivial,[],rfl,rfl,trivial,⟨rfl,g9 (e2 om),g9 om,trivial⟩⟩
   ·have e1:leI (some b)=leI (E8 Z.O p (k+1)):=by rw [ls,eq_false_of_ne_true hd];rfl
    have hd:p k=false:=eq_false_of_ne_true hd;rw [hpk] at hd;have hd:=lbM hd;conv=>whnf
    repeat' (first|refine zx ?_|refine a0Q rfl hlt ?_|refine t6 rfl hlt ?_|apply zD<;>intro h<;>try omega)<;>conv=>whnf
    all_goals first|omega|exact ⟨hlt,trivial,[],rfl,rfl,trivial,⟨rfl,g9 e1,g9 om,trivial⟩⟩
 ·have hke:k=m:=by omega
  subst hke;conv=>whnf
  repeat' (first|refine zx ?_|apply zD<;>intro h<;>try omega)<;>conv=>whnf
  all_goals first|omega|exact p9 rfl
def b8l (m n:Nat) (fr:LB) (sc:LI) (Z:Zd) (hm:m<=100000) (hn:n<=1000):ec 280 [jT m n fr sc Z] [] (eI (leI (E8 Z.F (fun i=>decide (0<Z.C i)) n))) []:=by
 have l1:(Z2 n Z.F).length=n:=n9 _ _;obtain ⟨p,hp⟩:∃p:Nat->Bool,p=fun i=>decide (0<Z.C i):=⟨_,rfl⟩
 rw [← hp];refine ac Tryz.func280 ?_;conv=>whnf
 repeat' (first|refine zx ?_|apply zD<;>intro h<;>try omega)<;>conv=>whnf
 refine k5 g8 (fun k=>([jT m n fr sc Z,J,J,eI (leI (E8 Z.F p k)),eI k]++Jn 42,[])) n tT [] trivial
  ⟨rfl,rfl,trivial,⟨rfl,g9 rfl,g9 rfl,trivial⟩⟩ ?_
 intro k hk _;by_cases hlt:k<n
 ·have hsg:=b40 (Z.C k);have hpk:p k=decide (0<Z.C k):=by rw [hp]
  have ls:=X9 Z.F p k;have hM:∀b:Nat,(bif true then if 0 > (b:Int) then 0 else (b:Int) else if 0<(b:Int) then 0 else (b:Int))=(b:Int):=fun b=>by simp only [cond];split<;>omega
  cases hl:E8 Z.F p k with
  |none=>
   rw [hl] at ls;have hle:leI none=-1:=rfl;by_cases hd:p k=true
   ·have e1:(k:Int)=leI (E8 Z.F p (k+1)):=by rw [ls,hd];rfl
    rw [hpk] at hd;have hd:=lbL hd;conv=>whnf
    repeat' (first|refine zx ?_|refine a0Q rfl hlt ?_|refine t6 rfl hlt ?_|apply zD<;>intro h<;>try omega)<;>conv=>whnf
    all_goals first|omega|exact ⟨hlt,trivial,[],rfl,rfl,trivial,⟨rfl,g9 e1,g9 om,trivial⟩⟩
   ·have e1:leI none=leI (E8 Z.F p (k+1)):=by rw [ls,eq_false_of_ne_true hd];rfl
    have hd:p k=false:=eq_false_of_ne_true hd;rw [hpk] at hd;have hd:=lbM hd;conv=>whnf
    repeat' (first|refine zx ?_|refine a0Q rfl hlt ?_|refine t6 rfl hlt ?_|apply zD<;>intro h<;>try omega)<;>conv=>whnf
    all_goals first
     |omega
     |exact ⟨hlt,trivial,[],rfl,rfl,trivial,⟨rfl,g9 e1,g9 om,trivial⟩⟩
  |some b=>
   have hb:=(G1 hl).1;rw [hl] at ls;have hle:leI (some b)=b:=rfl;by_cases hd:p k=true
   ·have e0:E8 Z.F p (k+1)=if decide (Z.F k<Z.F b)=true then some k else some b:=by rw [ls,hd];rfl
    have e1:Z.F k<Z.F b->(k:Int)=leI (E8 Z.F p (k+1)):=fun h=>by rw [e0,iA (lbH h)];rfl
    have e2:¬Z.F k<Z.F b->(b:Int)=leI (E8 Z.F p (k+1)):=fun h=>by rw [e0,iB (by simp [h])];rfl
    rw [hpk] at hd;have hd:=lbL hd;rw [hle];conv=>whnf
    repeat' (first|refine zx ?_|refine a0Q rfl hlt ?_|refine t6 rfl hlt ?_|refine t6 (i:=b) (hM b) om ?_|apply zD<;>intro h<;>try omega)<;>conv=>whnf
    all_goals first|omega|exact ⟨hlt,trivial,[],rfl,rfl,trivial,⟨rfl,g9 (e1 om),g9 om,trivial⟩⟩|exact ⟨hlt,trivial,[],rfl,rfl,trivial,⟨rfl,g9 (e2 om),g9 om,trivial⟩⟩
   ·have e1:leI (some b)=leI (E8 Z.F p (k+1)):=by rw [ls,eq_false_of_ne_true hd];rfl
    have hd:p k=false:=eq_false_of_ne_true hd;rw [hpk] at hd;have hd:=lbM hd;conv=>whnf
    repeat' (first|refine zx ?_|refine a0Q rfl hlt ?_|refine t6 rfl hlt ?_|apply zD<;>intro h<;>try omega)<;>conv=>whnf
    all_goals first|omega|exact ⟨hlt,trivial,[],rfl,rfl,trivial,⟨rfl,g9 e1,g9 om,trivial⟩⟩
 ·have hke:k=n:=by omega
  subst hke;conv=>whnf
  repeat' (first|refine zx ?_|apply zD<;>intro h<;>try omega)<;>conv=>whnf
  all_goals first|omega|exact p9 rfl
def b8y (m n:Nat) (fr:LB) (sc:LI) (Z:Zd) (r:Nat) (hr:r<m) (hm:m<=100000) (hn:n<=1000):ec 281 [jT m n fr sc Z,eI r] [] (eI (leI (E8 Z.F (fun i=>decide (Z.A r i<0)) n))) []:=by
 have l1:(Z2 n Z.F).length=n:=n9 _ _;obtain ⟨p,hp⟩:∃p:Nat->Bool,p=fun i=>decide (Z.A r i<0):=⟨_,rfl⟩
 rw [← hp];refine ac Tryz.func281 ?_;conv=>whnf
 repeat' (first|refine zx ?_|apply zD<;>intro h<;>try omega)<;>conv=>whnf
 refine k5 g8 (fun k=>([jT m n fr sc Z,eI r,J,J,J,eI (leI (E8 Z.F p k)),eI k]++Jn 45,[])) n tT [] trivial
  ⟨rfl,rfl,trivial,⟨rfl,rfl,g9 rfl,g9 rfl,trivial⟩⟩ ?_
 intro k hk _;by_cases hlt:k<n
 ·have hsg:=aP0 (Z.A r k);have hpk:p k=decide (Z.A r k<0):=by rw [hp]
  have ls:=X9 Z.F p k;have hM:∀b:Nat,(bif true then if 0 > (b:Int) then 0 else (b:Int) else if 0<(b:Int) then 0 else (b:Int))=(b:Int):=fun b=>by simp only [cond];split<;>omega
  cases hl:E8 Z.F p k with
  |none=>
   rw [hl] at ls;have hle:leI none=-1:=rfl;by_cases hd:p k=true
   ·have e1:(k:Int)=leI (E8 Z.F p (k+1)):=by rw [ls,hd];rfl
    rw [hpk] at hd;have hd:=lbL hd;conv=>whnf
    repeat' (first|refine zx ?_|refine a1P rfl hr ?_|refine a0Q rfl hlt ?_|refine t6 rfl hlt ?_|apply zD<;>intro h<;>try omega)<;>conv=>whnf
    all_goals first|omega|exact ⟨hlt,trivial,[],rfl,rfl,trivial,⟨rfl,rfl,g9 e1,g9 om,trivial⟩⟩
   ·have e1:leI none=leI (E8 Z.F p (k+1)):=by rw [ls,eq_false_of_ne_true hd];rfl
    have hd:p k=false:=eq_false_of_ne_true hd;rw [hpk] at hd;have hd:=lbM hd;conv=>whnf
    repeat' (first|refine zx ?_|refine a1P rfl hr ?_|refine a0Q rfl hlt ?_|refine t6 rfl hlt ?_|apply zD<;>intro h<;>try omega)<;>conv=>whnf
    all_goals first
     |omega
     |exact ⟨hlt,trivial,[],rfl,rfl,trivial,⟨rfl,rfl,g9 e1,g9 om,trivial⟩⟩
  |some b=>
   have hb:=(G1 hl).1;rw [hl] at ls;have hle:leI (some b)=b:=rfl;by_cases hd:p k=true
   ·have e0:E8 Z.F p (k+1)=if decide (Z.F k<Z.F b)=true then some k else some b:=by rw [ls,hd];rfl
    have e1:Z.F k<Z.F b->(k:Int)=leI (E8 Z.F p (k+1)):=fun h=>by rw [e0,iA (lbH h)];rfl
    have e2:¬Z.F k<Z.F b->(b:Int)=leI (E8 Z.F p (k+1)):=fun h=>by rw [e0,iB (by simp [h])];rfl
    rw [hpk] at hd;have hd:=lbL hd;rw [hle];conv=>whnf
    repeat' (first|refine zx ?_|refine a1P rfl hr ?_|refine a0Q rfl hlt ?_|refine t6 rfl hlt ?_|refine t6 (i:=b) (hM b) om ?_|apply zD<;>intro h<;>try omega)<;>conv=>whnf
    all_goals first|omega|exact ⟨hlt,trivial,[],rfl,rfl,trivial,⟨rfl,rfl,g9 (e1 om),g9 om,trivial⟩⟩|exact ⟨hlt,trivial,[],rfl,rfl,trivial,⟨rfl,rfl,g9 (e2 om),g9 om,trivial⟩⟩
   ·have e1:leI (some b)=leI (E8 Z.F p (k+1)):=by rw [ls,eq_false_of_ne_true hd];rfl
    have hd:p k=false:=eq_false_of_ne_true hd;rw [hpk] at hd;have hd:=lbM hd;conv=>whnf
    repeat' (first|refine zx ?_|refine a1P rfl hr ?_|refine a0Q rfl hlt ?_|refine t6 rfl hlt ?_|apply zD<;>intro h<;>try omega)<;>conv=>whnf
    all_goals first|omega|exact ⟨hlt,trivial,[],rfl,rfl,trivial,⟨rfl,rfl,g9 e1,g9 om,trivial⟩⟩
 ·have hke:k=n:=by omega
  subst hke;conv=>whnf
  repeat' (first|refine zx ?_|apply zD<;>intro h<;>try omega)<;>conv=>whnf
  all_goals first|omega|exact p9 rfl
def bD9 (m n:Nat) (fr:LB) (sc:LI) (Z:Zd) (s:Nat) (hs:s<n) (hm:m<=100000) (hn:n<=1000):ec 282 [jT m n fr sc Z,eI s] [] (eI (leI (E8 Z.O (fun i=>decide (0<Z.A i s)) m))) []:=by
 have l1:(Z2 m Z.O).length=m:=n9 _ _;obtain ⟨p,hp⟩:∃p:Nat->Bool,p=fun i=>decide (0<Z.A i s):=⟨_,rfl⟩
 rw [← hp];refine ac Tryz.func282 ?_;conv=>whnf
 repeat' (first|refine zx ?_|apply zD<;>intro h<;>try omega)<;>conv=>whnf
 refine k5 g8 (fun k=>([jT m n fr sc Z,eI s,J,J,J,eI (leI (E8 Z.O p k)),eI k]++Jn 45,[])) m tT [] trivial
  ⟨rfl,rfl,trivial,⟨rfl,rfl,g9 rfl,g9 rfl,trivial⟩⟩ ?_
 intro k hk _;by_cases hlt:k<m
 ·have hsg:=b40 (Z.A k s);have hpk:p k=decide (0<Z.A k s):=by rw [hp]
  have ls:=X9 Z.O p k;have hM:∀b:Nat,(bif true then if 0 > (b:Int) then 0 else (b:Int) else if 0<(b:Int) then 0 else (b:Int))=(b:Int):=fun b=>by simp only [cond];split<;>omega
  cases hl:E8 Z.O p k with
  |none=>
   rw [hl] at ls;have hle:leI none=-1:=rfl;by_cases hd:p k=true
   ·have e1:(k:Int)=leI (E8 Z.O p (k+1)):=by rw [ls,hd];rfl
    rw [hpk] at hd;have hd:=lbL hd;conv=>whnf
    repeat' (first|refine zx ?_|refine a1P rfl hlt ?_|refine a0Q rfl hs ?_|refine t6 rfl hlt ?_|apply zD<;>intro h<;>try omega)<;>conv=>whnf
    all_goals first|omega|exact ⟨hlt,trivial,[],rfl,rfl,trivial,⟨rfl,rfl,g9 e1,g9 om,trivial⟩⟩
   ·have e1:leI none=leI (E8 Z.O p (k+1)):=by rw [ls,eq_false_of_ne_true hd];rfl
    have hd:p k=false:=eq_false_of_ne_true hd;rw [hpk] at hd;have hd:=lbM hd;conv=>whnf
    repeat' (first|refine zx ?_|refine a1P rfl hlt ?_|refine a0Q rfl hs ?_|refine t6 rfl hlt ?_|apply zD<;>intro h<;>try omega)<;>conv=>whnf
    all_goals first
     |omega
     |exact ⟨hlt,trivial,[],rfl,rfl,trivial,⟨rfl,rfl,g9 e1,g9 om,trivial⟩⟩
  |some b=>
   have hb:=(G1 hl).1;rw [hl] at ls;have hle:leI (some b)=b:=rfl;by_cases hd:p k=true
   ·have e0:E8 Z.O p (k+1)=if decide (Z.O k<Z.O b)=true then some k else some b:=by rw [ls,hd];rfl
    have e1:Z.O k<Z.O b->(k:Int)=leI (E8 Z.O p (k+1)):=fun h=>by rw [e0,iA (lbH h)];rfl
    have e2:¬Z.O k<Z.O b->(b:Int)=leI (E8 Z.O p (k+1)):=fun h=>by rw [e0,iB (by simp [h])];rfl
    rw [hpk] at hd;have hd:=lbL hd;rw [hle];conv=>whnf
    repeat' (first|refine zx ?_|refine a1P rfl hlt ?_|refine a0Q rfl hs ?_|refine t6 rfl hlt ?_|refine t6 (i:=b) (hM b) om ?_|apply zD<;>intro h<;>try omega)<;>conv=>whnf
    all_goals first|omega|exact ⟨hlt,trivial,[],rfl,rfl,trivial,⟨rfl,rfl,g9 (e1 om),g9 om,trivial⟩⟩|exact ⟨hlt,trivial,[],rfl,rfl,trivial,⟨rfl,rfl,g9 (e2 om),g9 om,trivial⟩⟩
   ·have e1:leI (some b)=leI (E8 Z.O p (k+1)):=by rw [ls,eq_false_of_ne_true hd];rfl
    have hd:p k=false:=eq_false_of_ne_true hd;rw [hpk] at hd;have hd:=lbM hd;conv=>whnf
    repeat' (first|refine zx ?_|refine a1P rfl hlt ?_|refine a0Q rfl hs ?_|refine t6 rfl hlt ?_|apply zD<;>intro h<;>try omega)<;>conv=>whnf
    all_goals first|omega|exact ⟨hlt,trivial,[],rfl,rfl,trivial,⟨rfl,rfl,g9 e1,g9 om,trivial⟩⟩
 ·have hke:k=m:=by omega
  subst hke;conv=>whnf
  repeat' (first|refine zx ?_|apply zD<;>intro h<;>try omega)<;>conv=>whnf
  all_goals first|omega|exact p9 rfl
end Go.Proofs.YtikokmdpigploaaGreat
