/- Part 5. -/
import Derived.Test.YtdbogogfeffjlaaGreatMr4
namespace Go.Proofs.YtdbogogfeffjlaaGreat
set_option linter.unusedVariables false
set_option linter.unusedSimpArgs false
set_option maxRecDepth 100000
set_option maxHeartbeats 8000000
open Go.RowKit
open St1 St2 St3 St4 St5 St6 St7 St8 StA StB
theorem a1R {H:Hp} {N n:Nat} (hN:H.length=N) (hn:n<=1000):Z5 Tryz.prog 254 [a7 .i64 n] H (.c (.own N 0 n true)) [flB (rF n fun _=>0)]:=by subst hN;exact b32 H n hn
abbrev pB (n k l i f:Nat):Blk:={ mode:=.live,elem:=256,size:=6,rows:=[[C.t (ti n),.own l 0 k true,.own 2 0 n true,.own i 0 k true,.t (.sl 0 .nil []),.own f 0 k true]],box:=true }
abbrev ah5 (t:TypeId) (s:Nat):Blk:=⟨.dead,t,s,[],false,false⟩
abbrev a6k (n k:Nat) (V G:Nat->Rat) (O:Nat->Nat) (fr:List (Nat × Bool)) (A:Nat->Nat->Rat) (X:Hp):Hp:=
 pB n k 1 3 4::a0Z 5 k n V::flB (rF n G)::Z9 k O::a1X fr::((mF k n A).map flB++X)
abbrev lnX (k n:Nat) (v:Rat):Blk:={ mode:=.live,elem:=259,size:=5,rows:=[frC (fz v)++[C.own (k+6) 0 n true]],box:=true }
abbrev b3B (n k:Nat) (v:Rat) (a V G:Nat->Rat) (O:Nat->Nat) (fr:List (Nat × Bool)) (f:Nat × Bool) (A:Nat->Nat->Rat) (bx:Blk):Hp:=
 pB n (k+1) (k+8) (k+7) (k+9)::ah5 259 5::flB (rF n G)::ah5 3 1::ah5 284 2::((mF k n A).map flB++
  [bx,flB (rF n a),Z9 (k+1) O,{ mode:=.live,elem:=259,size:=5,rows:=T4 5 k n V++[frC (fz v)++[C.own (k+6) 0 n true]],box:=false },a1X (fr++[f])])
theorem aA2 {k n N:Nat} {v:Rat} (h:k+6<N):okB N (lnX k n v):=by
 intro r hr c hc
 simp at hr;subst hr
 simp [frC] at hc
 rcases hc with rfl|rfl|rfl|rfl|rfl<;>first|trivial|exact h
theorem bc2 {n k N l i f:Nat} (h1:l<N) (h2:i<N) (h3:f<N) (h4:2<N):okB N (pB n k l i f):=by
 intro r hr c hc
 simp at hr;subst hr
 simp at hc
 rcases hc with rfl|rfl|rfl|rfl|rfl|rfl<;>first|trivial|assumption
theorem aO1 {n k:Nat} {V G:Nat->Rat} {O:Nat->Nat} {fr:List (Nat × Bool)} {A:Nat->Nat->Rat} {X:Hp}:(a6k n k V G O fr A X).length=k+5+X.length:=by simp [b7];omega
theorem b6O {n k N:Nat} {V G:Nat->Rat} {O:Nat->Nat} {fr:List (Nat × Bool)} {A:Nat->Nat->Rat} {X:Hp} (h:k+5<=N) (hX:∀b ∈ X,okB N b):∀b ∈ a6k n k V G O fr A X,okB N b:=by
 intro b hb
 simp only [lbA,lbz] at hb
 rcases hb with rfl|rfl|rfl|rfl|rfl|hb|hb
 ·exact bc2 (by omega) (by omega) (by omega) (by omega)
 ·exact ae9 h
 ·exact F2 rfl
 ·exact F2 rfl
 ·exact F2 rfl
 ·obtain ⟨l,_,rfl⟩:=lbx.1 hb
  exact F2 rfl
 ·exact hX b hb
theorem b3R {n k:Nat} {V G:Nat->Rat} {O:Nat->Nat} {fr:List (Nat × Bool)} {A:Nat->Nat->Rat} {X X':Hp}:a6k n k V G O fr A (X++X')=a6k n k V G O fr A X++X':=by
 show _::_::_::_::_::(_++(X++X'))=_::_::_::_::_::((_++X)++X')
 rw [lbD]
theorem a0f {n0 N n k:Nat} {V G:Nat->Rat} {O:Nat->Nat} {fr:List (Nat × Bool)} {A:Nat->Nat->Rat} {X X' H:Hp} {env env':Env} (hH:H=a6k n k V G O fr A (X++X')) (hN:k+5+X.length=N) (h0:n0<=N) (hX:∀b ∈ X,okB N b)
 (hE:a14 (idR N) H env env'):Ent n0 (idR N) env H env' (a6k n k V G O fr A X):=by
 refine a8K (by rw [aO1];exact hN) h0 (b6O (by omega) hX) (fun i hi=>?_) hE
 rw [hH,b3R,lbb (by rw [aO1];omega)]
theorem a1J {b0 b1 b2 b3 b4 c0 c1 c2 c3 c4:Blk} {L L':Hp} (h0:b0=c0) (h1:b1=c1) (h2:b2=c2) (h3:b3=c3) (h4:b4=c4) (h6:L=L'):b0::b1::b2::b3::b4::L=c0::c1::c2::c3::c4::L':=by
 subst h0 h1 h2 h3 h4 h6;rfl
def fR (N:Nat) (f:Nat->Nat):List (Option Nat):=(List.range N).map fun i=>some (f i)
theorem z4 {N i:Nat} {f:Nat->Nat} (h:i<N):(fR N f)[i]? =some (some (f i)):=by simp [fR,h]
theorem b9f (N:Nat) (f:Nat->Nat):(fR N f).length=N:=by simp [fR]
theorem b3K {N i j:Nat} {f:Nat->Nat} (h:(fR N f)[i]? =some (some j)):i<N∧f i=j:=by
 obtain ⟨h1,h2⟩:=lbe.1 h
 simp [fR] at h1 h2
 exact ⟨h1,h2⟩
theorem am5 {ρ:List (Option Nat)}:∀{m:Nat},(∀ i:Nat,i<m->ρ[i]? =some (some i))->a2d ρ m=true
 |0,_=>rfl
 |m+1,h=>by
  unfold a2d
  rw [h m (by omega),am5 fun i hi=>h i (by omega)]
  simp
theorem b10 {N:Nat} {f:Nat->Nat} {H H':Hp} (hn:H'.length=N) (hB:∀(i:Nat) (k':Blk),H'[i]? =some k'->∃k:Blk,H[f i]? =some k∧a5q (fR N f) H k k'):a4a (fR N f) H (fR N f) H':=
 a5B (by rw [b9f,hn]) fun i k' hk=>by
  have hi:i<N:=by rw [← hn];exact (lbe.1 hk).1
  obtain ⟨k,h1,h2⟩:=hB i k' hk
  exact ⟨f i,k,z4 hi,h1,h2⟩
theorem aS0 {N:Nat} {f:Nat->Nat} {H:Hp} (hinj:∀i j,i<N->j<N->f i=f j->i=j):S3 (fR N f) H=true:=a0A fun i j n h1 h2=>by
 obtain ⟨a1,a2⟩:=b3K h1
 obtain ⟨b1,b2⟩:=b3K h2
 exact hinj i j a1 b1 (by omega)
theorem aZ9 {n0 N:Nat} {f:Nat->Nat} {env env':Env} {H H':Hp} (hn:H'.length=N) (h0:n0<=N) (hk:∀i,i<n0->f i=i) (hinj:∀i j,i<N->j<N->f i=f j->i=j)
 (hB:∀(i:Nat) (k':Blk),H'[i]? =some k'->∃k:Blk,H[f i]? =some k∧a5q (fR N f) H k k') (hE:a14 (fR N f) H env env'):Ent n0 (fR N f) env H env' H':=
 ⟨am5 fun i hi=>by rw [z4 (by omega),hk i hi],aS0 hinj,b10 hn hB,hE⟩
theorem b8X {n0 N:Nat} {f:Nat->Nat} {r s:S} {H H':Hp} (hn:H'.length=N) (h0:n0<=N) (hk:∀i,i<n0->f i=i) (hinj:∀i j,i<N->j<N->f i=f j->i=j)
 (hB:∀(i:Nat) (k':Blk),H'[i]? =some k'->∃k:Blk,H[f i]? =some k∧a5q (fR N f) H k k') (hE:a9F (fR N f) H r s):Fin n0 r H s H':=
 ⟨fR N f,am5 fun i hi=>by rw [z4 (by omega),hk i hi],aS0 hinj,b10 hn hB,hE⟩
theorem b6W (k:Blk):a2M k k=true:=by unfold a2M;cases k.mode<;>simp
theorem d7 {ρ:List (Option Nat)} {H:Hp} {k:Blk} (h:I9 k.rows):a5q ρ H k k:=⟨b6W k,rfl,rfl,.inl ⟨rfl,h⟩⟩
theorem b1C {ρ:List (Option Nat)} {H:Hp} {l l':List C} (h:a41 ρ H l l'):∀ts:List T,a41 ρ H (ts.map C.t++l) (ts.map C.t++l')
 |[]=>h
 |t::r=>⟨a1x t,b1C h r⟩
theorem a1S {ρ:List (Option Nat)} {H:Hp} {m n:Nat} {V:Nat->Rat} {h h':Nat->Nat} (hh:∀i,i<m->ρ[h' i]? =some (some (h i))):
 a5q ρ H { mode:=.live,elem:=259,size:=5,rows:=(List.range m).map fun i=>frC (fz (V i))++[C.own (h i) 0 n true],box:=false } { mode:=.live,elem:=259,size:=5,rows:=(List.range m).map fun i=>frC (fz (V i))++[C.own (h' i) 0 n true],box:=false }:=by
 refine ⟨rfl,rfl,rfl,.inr (aa2 (by simp) fun i x y hx hy=>?_)⟩
 have hi:i<m:=by have:=(lbe.1 hx).1;simpa using this
 simp [hi] at hx hy
 subst hx hy
 exact b1C (ts:=t6 (fz (V i))) (l:=[C.own (h i) 0 n true]) (l':=[C.own (h' i) 0 n true]) ⟨⟨hh i hi,rfl,rfl,fun h=>h⟩,trivial⟩
theorem b1J {a b:Nat} {K:Prop} (h:a<=b) (k:K):a<=b∧K:=⟨h,k⟩
theorem a4J {N:Nat} {b:Blk} (h:I9 b.rows):okB N b:=by
 intro r hr c hc
 have:=h r hr c hc
 cases c<;>first|trivial|cases this
def aH3 (k n:Nat) (v:Rat) (V:Nat->Rat):Nat->Rat:=fun i=>if i=k then v else V i
def hnd (k:Nat):Nat->Nat:=fun i=>if i=k then k+6 else i+5
theorem ac1 {k n:Nat} {v:Rat} {V:Nat->Rat}:T4 5 k n V++[frC (fz v)++[C.own (k+6) 0 n true]]=(List.range (k+1)).map fun i=>frC (fz (aH3 k n v V i))++[C.own (hnd k i) 0 n true]:=by
 rw [List.range_succ,lbC]
 congr 1
 ·refine lbp fun i hi=>?_
  have:=lbB.1 hi
  unfold aH3 hnd
  rw [if_neg (by omega),if_neg (by omega)]
 ·unfold aH3 hnd;simp
abbrev bc3 (n k:Nat) (v:Rat) (a V G:Nat->Rat) (O:Nat->Nat) (fr:List (Nat × Bool)) (f:Nat × Bool) (A:Nat->Nat->Rat) (bx lx lit:Blk):Hp:=
 pB n (k+1) (k+10) (k+8) (k+11)::ah5 259 5::flB (rF n G)::ah5 3 1::ah5 284 2::((mF k n A).map flB++
  [bx,flB (rF n a),lx,Z9 (k+1) O,lit,{ mode:=.live,elem:=259,size:=5,rows:=T4 5 k n V++[frC (fz v)++[C.own (k+6) 0 n true]],box:=false },a1X (fr++[f])])
def ac3 (k:Nat):Nat->Nat:=fun i=>if i<k+7 then i else if i=k+7 then k+8 else if i=k+8 then k+10 else k+11
theorem a2b {α β:Type} {f:β->α} {M:List β} {X:List α} {N t:Nat} (h:M.length=N):(M.map f++X)[N+t]? =X[t]?:=by
 rw [lbc (by simp [h])];simp [h]
theorem b8Q {n0 n:Nat} {r s:S} {H H':Hp} (e:n0=n) (h:Fin n r H s H'):Fin n0 r H s H':=by subst e;exact h
theorem b1s {n k:Nat} {v:Rat} {a V G:Nat->Rat} {O:Nat->Nat} {fr:List (Nat × Bool)} {f:Nat × Bool} {A:Nat->Nat->Rat} {bx lx lit:Blk} {H:Hp} (hbx:I9 bx.rows) (hH:H=bc3 n k v a V G O fr f A bx lx lit):
 Fin (k+6) (.tup []) H (.tup []) (b3B n k v a V G O fr f A bx):=by
 subst hH
 refine b8X (N:=k+10) (f:=ac3 k) (by simp [b7]) (by omega) (fun i hi=>by unfold ac3;rw [if_pos (by omega)]) (fun i j hi hj h=>by unfold ac3 at h;(repeat' split at h)<;>omega) ?_ trivial
 have r7:ac3 k (k+7)=k+8:=by unfold ac3;rw [if_neg (by omega),if_pos rfl]
 have r8:ac3 k (k+8)=k+10:=by unfold ac3;rw [if_neg (by omega),if_neg (by omega),if_pos rfl]
 have r9:ac3 k (k+9)=k+11:=by unfold ac3;rw [if_neg (by omega),if_neg (by omega),if_neg (by omega)]
 have rl:∀i,i<k+7->ac3 k i=i:=fun i hi=>by unfold ac3;rw [if_pos hi]
 intro i k' hk
 rcases i with _|_|_|_|_|i
 ·injection hk with hk;subst hk
  rw [rl 0 (by omega)]
  exact ⟨_,rfl,rfl,rfl,rfl,.inr ⟨⟨rfl,⟨by rw [z4 (by omega),r8],rfl,rfl,fun h=>h⟩,⟨by rw [z4 (by omega),rl 2 (by omega)],rfl,rfl,fun h=>h⟩,⟨by rw [z4 (by omega),r7],rfl,rfl,fun h=>h⟩,rfl,⟨by rw [z4 (by omega),r9],rfl,rfl,fun h=>h⟩,trivial⟩,trivial⟩⟩
 ·injection hk with hk;subst hk;rw [rl 1 (by omega)];exact ⟨_,rfl,d7 (by simp [I9])⟩
 ·injection hk with hk;subst hk;rw [rl 2 (by omega)];exact ⟨_,rfl,d7 (c6 _)⟩
 ·injection hk with hk;subst hk;rw [rl 3 (by omega)];exact ⟨_,rfl,d7 (by simp [I9])⟩
 ·injection hk with hk;subst hk;rw [rl 4 (by omega)];exact ⟨_,rfl,d7 (by simp [I9])⟩
 ·have hk:((mF k n A).map flB++[bx,flB (rF n a),Z9 (k+1) O,{ mode:=.live,elem:=259,size:=5,rows:=T4 5 k n V++[frC (fz v)++[C.own (k+6) 0 n true]],box:=false },a1X (fr++[f])])[i]? =some k':=hk
  by_cases hi:i<k
  ·rw [K6 (Q9 hi)] at hk
   injection hk with hk;subst hk
   rw [rl (i+5) (by omega)]
   exact ⟨_,K6 (Q9 hi),d7 (c6 _)⟩
  ·obtain ⟨t,rfl⟩:∃t,i=k+t:=⟨i - k,by omega⟩
   rw [a2b (b7 _ _ _)] at hk
   have lk:∀j,(bc3 n k v a V G O fr f A bx lx lit)[k+j+5]? =([bx,flB (rF n a),lx,Z9 (k+1) O,lit,{ mode:=.live,elem:=259,size:=5,rows:=T4 5 k n V++[frC (fz v)++[C.own (k+6) 0 n true]],box:=false },a1X (fr++[f])]:Hp)[j]?:=fun j=>a2b (b7 _ _ _)
   rcases t with _|_|_|_|_|t
   ·injection hk with hk;subst hk
    rw [rl (k+0+5) (by omega)]
    exact ⟨_,lk 0,d7 hbx⟩
   ·injection hk with hk;subst hk
    rw [rl (k+1+5) (by omega)]
    exact ⟨_,lk 1,d7 (c6 _)⟩
   ·injection hk with hk;subst hk
    rw [show k+2+5=k+7 by omega,r7]
    exact ⟨_,lk 3,d7 (c6 _)⟩
   ·injection hk with hk;subst hk
    rw [show k+3+5=k+8 by omega,r8]
    refine ⟨_,lk 5,?_⟩
    rw [ac1]
    refine a1S fun j hj=>?_
    have:hnd k j<k+7:=by unfold hnd;split<;>omega
    rw [z4 (by omega),rl _ this]
   ·injection hk with hk;subst hk
    rw [show k+4+5=k+9 by omega,r9]
    exact ⟨_,lk 6,d7 (c6 _)⟩
   ·simp at hk
theorem l7 {a0 a1 a2 a3 a4 a5 a6 b0 b1 b2 b3 b4 b5 b6:Blk} (h0:a0=b0) (h1:a1=b1) (h2:a2=b2) (h3:a3=b3) (h4:a4=b4) (h5:a5=b5) (h6:a6=b6):([a0,a1,a2,a3,a4,a5,a6]:Hp)=[b0,b1,b2,b3,b4,b5,b6]:=by
 subst h0 h1 h2 h3 h4 h5 h6;rfl
theorem a8H {k:Nat} {O:Nat->Nat} {x:Int} (h:x=O k):(toC (a18 k O)).take k++toC [[ti x]]=toC (a18 (k+1) O):=by
 rw [lbn (by simp [toC,x3])]
 unfold a18
 rw [List.range_succ,lbC,h]
 simp [toC]
theorem ac5 {fr:List (Nat × Bool)} {k:Nat} (h:fr.length=k) (f:Nat × Bool):(toC (a0p fr)).take k++toC [[ti f.1,tb f.2]]=toC (a0p (fr++[f])):=by
 rw [lbn (by simp [toC,a0p,h])]
 unfold a0p
 simp [toC]
theorem be9 (n k row:Nat) (w:D3) (b:Bool) (V G:Nat->Rat) (fr:List (Nat × Bool)) (hfr:fr.length=k) (A:Nat->Nat->Rat) (bx:Blk) (hbx:I9 bx.rows) (hn:n<=1000) (hk:k<=10000) (hrow:row<=100000)
 (hr:f9 (-1) n w.terms=true) (hl:w.terms.length<=1000) (hb:∀t ∈ w.terms,rl t.2<=60000) (hv:rl w.value<=60000):
 a9 Tryz.prog 255 [.c (.ptr 0 0 0),a7 .i64 row,aJ0 w,e8 b] (a6k n k V G (fun i=>n+i) fr A [bx]) (.tup []) (b3B n k (V4 b w.value) (sgF b w.terms) V G (fun i=>n+i) fr (row,b) A bx):=by
 have m1:(w.terms.map k5).length=w.terms.length:=by simp
 (refine ac Tryz.func255 ?_;(conv=>whnf);repeat ((first|refine b0x ?_|refine zy ?_);conv=>whnf))
 repeat' (first|refine zz ?_|refine qp b7 ?_|refine b0x ?_|refine .inl ⟨_,_,a1R (N:=k+6) (by simp [b7]) hn,?_⟩|refine n6 (b7 _ _ _) ?_|refine k7 ?_|refine g8 (t:=1) (b7 _ _ _) ?_|refine g8 (t:=2) (b7 _ _ _) ?_|refine g8 (t:=3) (b7 _ _ _) ?_|refine g9 (t:=1) (b7 _ _ _) ?_|refine g9 (t:=2) (b7 _ _ _) ?_|refine g9 (t:=3) (b7 _ _ _) ?_|refine zd ?_ ?_<;>intro h<;>try omega|refine zy ?_|fail)<;>conv=>whnf
 refine d8 c8 (fun q=>([S.c (C.ptr 0 0 0),a7 .i64 row,J,e8 b,J,J,S.c (C.t (T.ptr (y4 w))),J,S.c (C.ptr (k+7) 0 0)]++Jn 13++[s7 w.terms,a7 .i64 w.terms.length,a7 .i64 q]++Jn 73,a6k n k V G (fun i=>n+i) fr A [bx,flB (rF n (L5 w.terms q)),lnX k n w.value])) w.terms.length (fun _=>True) (idR (k+8)) trivial ?_ ?_
 ·refine a0f (X':=[]) (a1J rfl rfl rfl rfl rfl ?_) rfl (by simp [b7]) ?_ ?_
  ·rfl
  ·intro b hb;simp at hb;rcases hb with rfl|rfl|rfl
   ·exact a4J hbx
   ·exact F2 rfl
   ·exact aA2 (by omega)
  ·exact ⟨⟨p6 (by omega),rfl,rfl⟩,rfl,rfl,g6 rfl,⟨p6 (by omega),rfl,rfl⟩,g6 rfl,b8 (by omega),b8 rfl,trivial⟩
 intro q hq _
 by_cases hlt:q<w.terms.length
 ·obtain ⟨t,ht⟩:∃t,w.terms[q]? =some t:=⟨_,lbf hlt⟩
  obtain ⟨t0,t1,t2⟩:=E1 hr t (lbm ht)
  have gp:(rF n (L5 w.terms q))[0+t.1.toNat]? =some (fz (L5 w.terms q t.1.toNat)):=by rw [Nat.zero_add,F7 (by omega)]
  have eV:0+t.1.toNat=t.1.toNat:=by omega
  have e:t8 (flB (rF n (L5 w.terms q))) ((flB (rF n (L5 w.terms q))).rows.set (0+t.1.toNat) (frC (fz t.2)))=flB (rF n (L5 w.terms (q+1))):=by
   have e1:=I5 (row:=rF n (L5 w.terms q)) (y:=fz t.2) eV
   rw [T3 (by omega),←J6 ht] at e1
   exact e1
  conv=>whnf
  repeat' (first|refine zx ?_|refine b9 ht ?_|refine o5 gp ?_|refine n6 (b7 _ _ _) ?_|refine k7 ?_|refine g8 (t:=1) (b7 _ _ _) ?_|refine g8 (t:=2) (b7 _ _ _) ?_|refine g8 (t:=3) (b7 _ _ _) ?_|refine g9 (t:=1) (b7 _ _ _) ?_|refine g9 (t:=2) (b7 _ _ _) ?_|refine g9 (t:=3) (b7 _ _ _) ?_|refine zd ?_ ?_<;>intro h<;>try omega|fail)<;>conv=>whnf
  all_goals first
   |omega
   |(refine ⟨hlt,trivial,idR (k+8),a0f (X:=[bx,flB (rF n (L5 w.terms (q+1))),lnX k n w.value]) (a1J rfl rfl rfl rfl rfl (congrArg (fun z=>(mF k n A).map flB++(bx::z::lnX k n w.value::[_])) e)) rfl (by simp [b7]) ?_ ⟨⟨p6 (by omega),rfl,rfl⟩,rfl,rfl,rfl,⟨p6 (by omega),rfl,rfl⟩,rfl,rfl,b8 (by omega),trivial⟩⟩
     intro b hb;simp at hb;rcases hb with rfl|rfl|rfl
     ·exact a4J hbx
     ·exact F2 rfl
     ·exact aA2 (by omega))
 ·have hqe:q=w.terms.length:=by omega
  subst hqe
  cases b with
  |false=>
   conv=>whnf
   repeat' (first|refine aR4 [0,1,2,3,4,5,6,7,9,10,11,12,13,14,15,16,8,17,18,19,20,21,22,23] (by decide +kernel) (by decide +kernel) ?_|refine zz ?_|refine zz ?_|refine zz ?_|refine zz ?_|refine zz ?_|refine zz ?_|refine qp (0,1,2,3,4,5,6,7,9,10,11,12,13,14,15,16,8,17,18,19,20,21,22,23) ?_|refine qp (toC,x3,C1,a0p,hfr) ?_|refine qp (toC,x3,C1,a0p) ?_|refine qp 0 ?_|refine qp (0,1,8,9,10,11,12,13,14,15) ?_|refine qp (0,1) ?_|refine qp 1 ?_|refine o8 (by simp [toC,x3,C1,a0p,hfr]) (by simp [toC,x3,C1,a0p];omega) ?_|refine bl0 [0] ?_|refine bl0 [0,1,8,9,10,11,12,13,14,15] ?_|refine bl0 [0,1] ?_|refine bl0 [1] ?_|refine n6 (b7 _ _ _) ?_|refine k7 ?_|refine g8 (t:=1) (b7 _ _ _) ?_|refine g8 (t:=2) (b7 _ _ _) ?_|refine g8 (t:=3) (b7 _ _ _) ?_|refine g9 (t:=1) (b7 _ _ _) ?_|refine g9 (t:=2) (b7 _ _ _) ?_|refine g9 (t:=3) (b7 _ _ _) ?_|refine g8 (t:=4) (b7 _ _ _) ?_|refine b1J (lbR 1) ?_|refine zd ?_ ?_<;>intro h<;>try omega|refine zy ?_|fail)<;>conv=>whnf
   all_goals try omega
   all_goals refine b8Q (n:=k+6) (by simp [b7]) (b1s (lit:=_) hbx (a1J rfl rfl rfl rfl rfl (congrArg (fun z=>(mF k n A).map flB++z) (l7 rfl rfl rfl ?_ rfl ?_ ?_))))
   ·exact congrArg (fun z=>({ mode:=.live,elem:=3,size:=1,rows:=z,box:=false }:Blk)) (a8H (x:=(n:Int)+k) (by simp))
   ·exact congrArg (fun z=>({ mode:=.live,elem:=259,size:=5,rows:=z,box:=false }:Blk)) (congrArg (fun z=>z++[frC (fz w.value)++[C.own (k+6) 0 n true]]) (lbn (by simp [C1])))
   ·exact congrArg (fun z=>({ mode:=.live,elem:=284,size:=2,rows:=z,box:=false }:Blk)) (ac5 hfr (row,false))
  |true=>
   have nv:=a3J w.value hv
   conv=>whnf
   repeat' (first|refine zx ?_|refine qp nv ?_|refine n6 (b7 _ _ _) ?_|refine k7 ?_|refine g8 (t:=1) (b7 _ _ _) ?_|refine g8 (t:=2) (b7 _ _ _) ?_|refine g8 (t:=3) (b7 _ _ _) ?_|refine g9 (t:=1) (b7 _ _ _) ?_|refine g9 (t:=2) (b7 _ _ _) ?_|refine g9 (t:=3) (b7 _ _ _) ?_|refine zd ?_ ?_<;>intro h<;>try omega|fail)<;>conv=>whnf
   all_goals try omega
   refine d8 c8 (fun q=>([S.c (C.ptr 0 0 0),a7 .i64 row,J,e8 true,J,J,J,J,S.c (C.ptr (k+7) 0 0)]++Jn 33++[s7 w.terms,a7 .i64 w.terms.length,a7 .i64 q]++Jn 53,a6k n k V G (fun i=>n+i) fr A [bx,flB (rF n (a5c w.terms q)),lnX k n (-w.value)])) w.terms.length (fun _=>True) (idR (k+8)) trivial ?_ ?_
   ·refine a0f (X':=[]) (a1J rfl rfl rfl rfl rfl rfl) rfl (by simp [b7]) ?_ ?_
    ·intro b hb;simp at hb;rcases hb with rfl|rfl|rfl
     ·exact a4J hbx
     ·exact F2 rfl
     ·exact aA2 (by omega)
    ·exact ⟨⟨p6 (by omega),rfl,rfl⟩,rfl,rfl,⟨p6 (by omega),rfl,rfl⟩,g6 rfl,b8 (by omega),b8 rfl,trivial⟩
   intro q hq _
   by_cases hlt:q<w.terms.length
   ·obtain ⟨t,ht⟩:∃t,w.terms[q]? =some t:=⟨_,lbf hlt⟩
    obtain ⟨t0,t1,t2⟩:=E1 hr t (lbm ht)
    have nt:=a3J t.2 (hb t (lbm ht))
    have gp:(rF n (a5c w.terms q))[0+t.1.toNat]? =some (fz (a5c w.terms q t.1.toNat)):=by rw [Nat.zero_add,F7 (by omega)]
    have eV:0+t.1.toNat=t.1.toNat:=by omega
    have e:t8 (flB (rF n (a5c w.terms q))) ((flB (rF n (a5c w.terms q))).rows.set (0+t.1.toNat) (frC (fz (-t.2))))=flB (rF n (a5c w.terms (q+1))):=by
     have e1:=I5 (row:=rF n (a5c w.terms q)) (y:=fz (-t.2)) eV
     rw [T3 (by omega),←av1 ht] at e1
     exact e1
    conv=>whnf
    repeat' (first|refine zx ?_|refine qp nt ?_|refine b9 ht ?_|refine o5 gp ?_|refine n6 (b7 _ _ _) ?_|refine k7 ?_|refine g8 (t:=1) (b7 _ _ _) ?_|refine g8 (t:=2) (b7 _ _ _) ?_|refine g8 (t:=3) (b7 _ _ _) ?_|refine g9 (t:=1) (b7 _ _ _) ?_|refine g9 (t:=2) (b7 _ _ _) ?_|refine g9 (t:=3) (b7 _ _ _) ?_|refine zd ?_ ?_<;>intro h<;>try omega|fail)<;>conv=>whnf
    all_goals first
     |omega
     |(refine ⟨hlt,trivial,idR (k+8),a0f (X:=[bx,flB (rF n (a5c w.terms (q+1))),lnX k n (-w.value)]) (a1J rfl rfl rfl rfl rfl (congrArg (fun z=>(mF k n A).map flB++(bx::z::lnX k n (-w.value)::[_])) e)) rfl (by simp [b7]) ?_ ⟨⟨p6 (by omega),rfl,rfl⟩,rfl,rfl,⟨p6 (by omega),rfl,rfl⟩,rfl,rfl,b8 (by omega),trivial⟩⟩
       intro b hb;simp at hb;rcases hb with rfl|rfl|rfl
       ·exact a4J hbx
       ·exact F2 rfl
       ·exact aA2 (by omega))
   ·have hqe:q=w.terms.length:=by omega
    subst hqe
    have ea:a5c w.terms w.terms.length=sgF true w.terms:=b50 w.terms
    conv=>whnf
    repeat' (first|refine aR4 [0,1,2,3,4,5,6,7,9,10,11,12,13,14,15,16,8,17,18,19,20,21,22,23] (by decide +kernel) (by decide +kernel) ?_|refine zz ?_|refine zz ?_|refine zz ?_|refine zz ?_|refine zz ?_|refine zz ?_|refine qp (0,1,2,3,4,5,6,7,9,10,11,12,13,14,15,16,8,17,18,19,20,21,22,23) ?_|refine qp (toC,x3,C1,a0p,hfr) ?_|refine qp (toC,x3,C1,a0p) ?_|refine qp 0 ?_|refine qp (0,1,8,9,10,11,12,13,14,15) ?_|refine qp (0,1) ?_|refine qp 1 ?_|refine o8 (by simp [toC,x3,C1,a0p,hfr]) (by simp [toC,x3,C1,a0p];omega) ?_|refine bl0 [0] ?_|refine bl0 [0,1,8,9,10,11,12,13,14,15] ?_|refine bl0 [0,1] ?_|refine bl0 [1] ?_|refine n6 (b7 _ _ _) ?_|refine k7 ?_|refine g8 (t:=1) (b7 _ _ _) ?_|refine g8 (t:=2) (b7 _ _ _) ?_|refine g8 (t:=3) (b7 _ _ _) ?_|refine g9 (t:=1) (b7 _ _ _) ?_|refine g9 (t:=2) (b7 _ _ _) ?_|refine g9 (t:=3) (b7 _ _ _) ?_|refine g8 (t:=4) (b7 _ _ _) ?_|refine b1J (lbR 1) ?_|refine zd ?_ ?_<;>intro h<;>try omega|refine zy ?_|fail)<;>conv=>whnf
    all_goals try omega
    all_goals refine b8Q (n:=k+6) (by simp [b7]) (b1s (lit:=_) hbx (a1J rfl rfl rfl rfl rfl (congrArg (fun z=>(mF k n A).map flB++z) (l7 rfl (by rw [ea]) rfl ?_ rfl ?_ ?_))))
    ·exact congrArg (fun z=>({ mode:=.live,elem:=3,size:=1,rows:=z,box:=false }:Blk)) (a8H (x:=(n:Int)+k) (by simp))
    ·exact congrArg (fun z=>({ mode:=.live,elem:=259,size:=5,rows:=z,box:=false }:Blk)) (congrArg (fun z=>z++[frC (fz (-w.value))++[C.own (k+6) 0 n true]]) (lbn (by simp [C1])))
    ·exact congrArg (fun z=>({ mode:=.live,elem:=284,size:=2,rows:=z,box:=false }:Blk)) (ac5 hfr (row,true))
def gR (N:Nat) (f:Nat->Option Nat):List (Option Nat):=(List.range N).map f
theorem a4e {N i:Nat} {f:Nat->Option Nat} (h:i<N):(gR N f)[i]? =some (f i):=by simp [gR,h]
theorem b4m {N i:Nat} {x:Option Nat} {f:Nat->Option Nat} (h:(gR N f)[i]? =some x):i<N∧f i=x:=by
 obtain ⟨h1,h2⟩:=lbe.1 h
 simp [gR] at h1 h2
 exact ⟨h1,h2⟩
theorem aN2 {ρ:List (Option Nat)} {H:Hp}:∀{r:List (Option Nat)} {H':Hp},r.length=H'.length->(∀ (i:Nat) (k':Blk),H'[i]? =some k'->(r[i]? =some none∧k'.rows=[]∧k'.mode=.live)∨∃(j:Nat) (k:Blk),r[i]? =some (some j)∧H[j]? =some k∧a5q ρ H k k')->a4a ρ H r H'
 |[],[],_,_=>trivial
 |[],_::_,h,_=>by simp at h
 |_::_,[],h,_=>by simp at h
 |x::r,k'::H',hl,h=>by
  refine ⟨?_,aN2 (by simpa using hl) fun i k1 hk=>by simpa using h (i+1) k1 (by simpa using hk)⟩
  rcases h 0 k' rfl with ⟨h1,h2,h3⟩|⟨j,k,h1,h2,h3⟩
  ·simp at h1;subst h1;exact ⟨h2,h3⟩
  ·simp at h1;subst h1
   simp only [h2]
   exact h3
theorem b5X {N:Nat} {f:Nat->Option Nat} {env env':Env} {H H':Hp} (hn:H'.length=N) (hinj:∀i j x,i<N->j<N->f i=some x->f j=some x->i=j)
 (hB:∀(i:Nat) (k':Blk),H'[i]? =some k'->(f i=none∧k'.rows=[]∧k'.mode=.live)∨∃(j:Nat) (k:Blk),f i=some j∧H[j]? =some k∧a5q (gR N f) H k k') (hE:a14 (gR N f) H env env'):Ent 0 (gR N f) env H env' H':=
 ⟨rfl,a0A fun i j n h1 h2=>by
   obtain ⟨a1,a2⟩:=b4m h1
   obtain ⟨b1,b2⟩:=b4m h2
   exact hinj i j n a1 b1 a2 b2,aN2 (by simp [gR,hn]) fun i k' hk=>by
   have hi:i<N:=by rw [← hn];exact (lbe.1 hk).1
   rcases hB i k' hk with ⟨h1,h2⟩|⟨j,k,h1,h2⟩
   ·exact .inl ⟨by rw [a4e hi,h1],h2⟩
   ·exact .inr ⟨j,k,by rw [a4e hi,h1],h2⟩,hE⟩
theorem a6m {s:g4} (k:Nat):J9 s (k+1)=match s.rows[k]? with
 |none=>J9 s k
 |some w=>J9 s k++(if w.kind≠0 then [(k,false)] else [])++(if w.kind≠1 then [(k,true)] else []):=rfl
theorem av5 {s:g4} {i:Nat}:∀d,∃rest,J9 s (i+d)=J9 s i++rest
 |0=>⟨[],by simp⟩
 |d+1=>by
  obtain ⟨r,hr⟩:=av5 (s:=s) (i:=i) d
  rw [show i+(d+1)=(i+d)+1 by omega,a6m]
  cases s.rows[i+d]? with
  |none=>exact ⟨r,hr⟩
  |some w=>exact ⟨r++((if w.kind≠0 then [(i+d,false)] else [])++(if w.kind≠1 then [(i+d,true)] else [])),by simp only;rw [hr,lbD,lbD]⟩
theorem aq8 {s:g4} {i k:Nat} {f:Nat × Bool} (hi:i<=s.rows.length) (h:(J9 s i)[k]? =some f):(f5 s).getD k (0,false)=f:=by
 obtain ⟨r,hr⟩:=av5 (s:=s) (i:=i) (s.rows.length - i)
 rw [show i+(s.rows.length - i)=s.rows.length by omega] at hr
 unfold f5
 rw [hr,lbl,lbb (lbe.1 h).1,h];rfl
theorem a5z {s:g4}:∀i,(J9 s i).length<=2*i
 |0=>by simp [J9]
 |i+1=>by
  have ih:=a5z (s:=s) i
  rw [a6m]
  cases s.rows[i]? with
  |none=>simp only;omega
  |some w=>
   simp only [lbq]
   split<;>split<;>simp<;>omega
theorem ah0 {s:g4} {i:Nat} {w:D3} (h:s.rows[i]? =some w):J9 s (i+1)=(J9 s i++if w.kind≠0 then [(i,false)] else [])++if w.kind≠1 then [(i,true)] else []:=by
 rw [a6m,h]
def V9 (k:Nat):Nat->Nat:=fun i=>if i=0 then 0 else if i=1 then k+8 else if i=2 then 2 else if i=3 then k+7 else if i=4 then k+9 else if i<k+5 then i else if i=k+5 then k+6 else k+5
theorem ai8 {k:Nat} (i:Nat) (hi:i<k+7):(i=0∧V9 k i=0)∨(i=1∧V9 k i=k+8)∨(i=2∧V9 k i=2)∨(i=3∧V9 k i=k+7)∨(i=4∧V9 k i=k+9)∨(5<=i∧i<k+5∧V9 k i=i)∨(5<=i∧i=k+5∧V9 k i=k+6)∨(5<=i∧i=k+6∧V9 k i=k+5):=by
 unfold V9
 by_cases h0:i=0
 ·rw [if_pos h0];omega
 ·rw [if_neg h0]
  by_cases h1:i=1
  ·rw [if_pos h1];omega
  ·rw [if_neg h1]
   by_cases h2:i=2
   ·rw [if_pos h2];omega
   ·rw [if_neg h2]
    by_cases h3:i=3
    ·rw [if_pos h3];omega
    ·rw [if_neg h3]
     by_cases h4:i=4
     ·rw [if_pos h4];omega
     ·rw [if_neg h4]
      by_cases h5:i<k+5
      ·rw [if_pos h5];omega
      ·rw [if_neg h5]
       by_cases h6:i=k+5
       ·rw [if_pos h6];omega
       ·rw [if_neg h6];omega
theorem b7o {k:Nat}:V9 k (k+6)=k+5:=by
 have:=ai8 (k:=k) (k+6) (by omega)
 omega
theorem b1X {n k:Nat} {a V G:Nat->Rat} {v:Rat} {O:Nat->Nat} {fr:List (Nat × Bool)} {f:Nat × Bool} {A:Nat->Nat->Rat} {bx:Blk} {env env':Env} (hbx:I9 bx.rows) (hv:v=V k) (ha:a=A k)
 (hE:a14 (fR (k+7) (V9 k)) (b3B n k v a V G O fr f A bx) env env'):Ent 0 (fR (k+7) (V9 k)) env (b3B n k v a V G O fr f A bx) env' (a6k n (k+1) V G O (fr++[f]) A [bx]):=by
 subst hv ha
 have r1:V9 k 1=k+8:=rfl
 have r3:V9 k 3=k+7:=rfl
 have r4:V9 k 4=k+9:=rfl
 have ra:∀i,i<k->V9 k (i+5)=i+5:=fun i hi=>by
  unfold V9
  rw [if_neg (by omega),if_neg (by omega),if_neg (by omega),if_neg (by omega),if_neg (by omega),if_pos (by omega)]
 have rk:V9 k (k+5)=k+6:=by
  unfold V9
  rw [if_neg (by omega),if_neg (by omega),if_neg (by omega),if_neg (by omega),if_neg (by omega),if_neg (by omega),if_pos rfl]
 have rb:V9 k (k+6)=k+5:=by
  unfold V9
  rw [if_neg (by omega),if_neg (by omega),if_neg (by omega),if_neg (by omega),if_neg (by omega),if_neg (by omega),if_neg (by omega)]
 have lk:∀j,(b3B n k (V k) (A k) V G O fr f A bx)[k+j+5]? =([bx,flB (rF n (A k)),Z9 (k+1) O,{ mode:=.live,elem:=259,size:=5,rows:=T4 5 k n V++[frC (fz (V k))++[C.own (k+6) 0 n true]],box:=false },a1X (fr++[f])]:Hp)[j]?:=fun j=>a2b (b7 _ _ _)
 have eV:aH3 k n (V k) V=V:=by funext i;unfold aH3;split<;>simp_all
 refine aZ9 (by simp [b7]) (by omega) (fun i hi=>by omega) (fun i j hi hj h=>by have:=ai8 i hi;have:=ai8 j hj;omega) ?_ hE
 intro i k' hk
 rcases i with _|_|_|_|_|i
 ·injection hk with hk;subst hk
  exact ⟨_,rfl,rfl,rfl,rfl,.inr ⟨⟨rfl,⟨by rw [z4 (by omega),r1],rfl,rfl,fun h=>h⟩,⟨by rw [z4 (by omega)];rfl,rfl,rfl,fun h=>h⟩,⟨by rw [z4 (by omega),r3],rfl,rfl,fun h=>h⟩,rfl,⟨by rw [z4 (by omega),r4],rfl,rfl,fun h=>h⟩,trivial⟩,trivial⟩⟩
 ·injection hk with hk;subst hk
  refine ⟨_,lk 3,?_⟩
  rw [ac1,eV]
  refine a1S (h':=fun i=>i+5) fun j hj=>?_
  rw [z4 (by omega)]
  unfold hnd
  by_cases hjk:j=k
  ·subst hjk;rw [if_pos rfl,rk]
  ·rw [if_neg hjk,ra j (by omega)]
 ·injection hk with hk;subst hk;exact ⟨_,rfl,d7 (c6 _)⟩
 ·injection hk with hk;subst hk;exact ⟨_,lk 2,d7 (c6 _)⟩
 ·injection hk with hk;subst hk;exact ⟨_,lk 4,d7 (c6 _)⟩
 ·have hk:((mF (k+1) n A).map flB++[bx])[i]? =some k':=hk
  by_cases hi:i<k+1
  ·rw [K6 (Q9 hi)] at hk
   injection hk with hk;subst hk
   by_cases hik:i=k
   ·subst hik;rw [rk];exact ⟨_,lk 1,d7 (c6 _)⟩
   ·rw [ra i (by omega)]
    exact ⟨_,K6 (Q9 (by omega)),d7 (c6 _)⟩
  ·obtain ⟨t,rfl⟩:∃t,i=(k+1)+t:=⟨i - (k+1),by omega⟩
   rw [a2b (b7 _ _ _)] at hk
   rcases t with _|t
   ·injection hk with hk;subst hk
    rw [show k+1+0+5=k+6 by omega,rb]
    exact ⟨_,lk 0,d7 hbx⟩
   ·simp at hk
theorem b7Z {b0 b1 b2 b3 b4 b5 c0 c1 c2 c3 c4 c5:Blk} {L L':Hp} (h0:b0=c0) (h1:b1=c1) (h2:b2=c2) (h3:b3=c3) (h4:b4=c4) (h5:b5=c5) (h6:L=L'):b0::b1::b2::b3::b4::b5::L=c0::c1::c2::c3::c4::c5::L':=a1b h0 h1 h2 h3 h4 h5 h6
theorem C8:∀{last n:Int} {l:List (Int × Rat)},f9 last n l=true->l.length=0∨(l.length:Int)<=n - last - 1
 |_,_,[],_=>.inl rfl
 |last,n,a::r,h=>by
  unfold f9 at h
  simp only [lbN,lbI] at h
  have ih:=C8 h.2
  have h1:=h.1.1.1
  have h2:=h.1.1.2
  right
  rw [lbu]
  rcases ih with h0|h0
  ·rw [h0];omega
  ·omega
structure b8O (s:g4) (g:List (Int × Rat)) (n:Nat):Prop where
 r:j8 s=true
 tg:f9 (-1) n g=true
 en:s.n=n
 n1:n<=1000
 b:∀w ∈ s.rows,rl w.value<=60000∧∀t ∈ w.terms,rl t.2<=60000
 bg:∀t ∈ g,rl t.2<=60000
 l:s.rows.length<=4000
abbrev rbx (w:D3):Blk:={ mode:=.live,elem:=143,size:=6,rows:=[(y4 w).map C.t],box:=true }
theorem aI4 (w:D3):I9 (rbx w).rows:=c6 [y4 w]
def an9 (s:g4):List T:=[ti s.n,O7 s.rows]
def pF1:Nat->Option Nat:=fun i=>if i=0 then some 1 else if i=2 then some 0 else none
theorem b1F {s:g4} {g:List (Int × Rat)} {k:Nat} {b:Bool} {i:Nat} {w:D3} (h:(f5 s).getD k (0,false)=(i,b)) (hw:s.rows[i]? =some w):V4 b w.value=(g7 s g).V k:=by
 show _=a4o s ((f5 s).getD k (0,false))
 rw [h];unfold a4o;simp only [hw]
theorem b1L {s:g4} {g:List (Int × Rat)} {k:Nat} {b:Bool} {i:Nat} {w:D3} (h:(f5 s).getD k (0,false)=(i,b)) (hw:s.rows[i]? =some w):sgF b w.terms=(g7 s g).A k:=by
 funext j
 show _=a2G s ((f5 s).getD k (0,false)) j
 rw [h];unfold a2G;simp only [hw];rfl
abbrev dF (m n j q:Nat):Blk:={ mode:=.live,elem:=256,size:=6,rows:=[[C.t (ti n),.own 1 0 m true,.own 2 0 n true,.own 3 0 m true,.own 4 0 j true,.own 5 0 q true]],box:=true }
abbrev b7F (m n j:Nat) (V G:Nat->Rat) (O:Nat->Nat) (fr:List (Nat × Bool)) (A:Nat->Nat->Rat) (X:Hp):Hp:=
 dF m n j fr.length::a0Z 6 m n V::flB (rF n G)::Z9 m O::Z9 j (fun j=>j)::a1X fr::((mF m n A).map flB++X)
def fF1:Nat->Option Nat:=fun i=>if i=4 then none else if i<4 then some i else some (i - 1)
theorem b4V {m n:Nat} {V G:Nat->Rat} {O:Nat->Nat} {fr:List (Nat × Bool)} {A:Nat->Nat->Rat} {env env':Env} {H:Hp} (hm:fr.length=m) (hH:H=a6k n m V G O fr A []) (hE:a14 (gR (m+6) fF1) H env env'):
 Ent 0 (gR (m+6) fF1) env H env' (b7F m n 0 V G O fr A []):=by
 subst hH
 refine b5X (by simp [b7]) (fun i j x hi hj h1 h2=>by unfold fF1 at h1 h2;(repeat' split at h1)<;>(repeat' split at h2)<;>first|(cases h1;done)|(cases h2;done)|(injection h1 with h1;injection h2 with h2;omega)) ?_ hE
 intro i k' hk
 have fa:∀i,fF1 (i+6)=some (i+5):=fun i=>by unfold fF1;rw [if_neg (by omega),if_neg (by omega)];rfl
 rcases i with _|_|_|_|_|_|i
 ·injection hk with hk;subst hk
  exact .inr ⟨0,_,rfl,rfl,rfl,rfl,rfl,.inr ⟨⟨rfl,⟨by rw [a4e (by omega)];rfl,rfl,rfl,fun h=>h⟩,⟨by rw [a4e (by omega)];rfl,rfl,rfl,fun h=>h⟩,⟨by rw [a4e (by omega)];rfl,rfl,rfl,fun h=>h⟩,⟨by rw [a4e (by omega)];rfl,rfl,rfl⟩,⟨by rw [a4e (by omega)];rfl,rfl,hm.symm,fun h=>h⟩,trivial⟩,trivial⟩⟩
 ·injection hk with hk;subst hk
  refine .inr ⟨1,_,rfl,rfl,a1S (h:=fun i=>i+5) (h':=fun i=>i+6) fun j hj=>?_⟩
  rw [a4e (by omega),fa]
 ·injection hk with hk;subst hk;exact .inr ⟨2,_,rfl,rfl,d7 (c6 _)⟩
 ·injection hk with hk;subst hk;exact .inr ⟨3,_,rfl,rfl,d7 (c6 _)⟩
 ·injection hk with hk;subst hk;exact .inl ⟨rfl,rfl,rfl⟩
 ·injection hk with hk;subst hk;exact .inr ⟨4,_,rfl,rfl,d7 (c6 _)⟩
 ·have hk:((mF m n A).map flB++[])[i]? =some k':=hk
  have hi:i<m:=by have:=(lbe.1 hk).1;simpa [b7] using this
  rw [K6 (Q9 hi)] at hk
  injection hk with hk;subst hk
  exact .inr ⟨i+5,_,fa i,K6 (Q9 hi),d7 (c6 _)⟩
abbrev bj7 (m n j:Nat) (V G:Nat->Rat) (O:Nat->Nat) (fr:List (Nat × Bool)) (A:Nat->Nat->Rat):Hp:=
 { mode:=.live,elem:=256,size:=6,rows:=[[C.t (ti n),.own 1 0 m true,.own 2 0 n true,.own 3 0 m true,.own (m+6) 0 (j+1) true,.own 5 0 fr.length true]],box:=true }::
   a0Z 6 m n V::flB (rF n G)::Z9 m O::ah5 3 1::a1X fr::((mF m n A).map flB++[Z9 (j+1) (fun j=>j)])
def fF2 (m:Nat):Nat->Nat:=fun i=>if i=4 then m+6 else i
theorem b7c {m n j:Nat} {V G:Nat->Rat} {O:Nat->Nat} {fr:List (Nat × Bool)} {A:Nat->Nat->Rat} {env env':Env} {H:Hp} (hH:H=bj7 m n j V G O fr A) (hE:a14 (fR (m+6) (fF2 m)) H env env'):
 Ent 0 (fR (m+6) (fF2 m)) env H env' (b7F m n (j+1) V G O fr A []):=by
 subst hH
 have fa:∀i,i≠4->fF2 m i=i:=fun i hi=>by unfold fF2;rw [if_neg hi]
 refine aZ9 (by simp [b7]) (by omega) (fun i hi=>by omega) (fun i j hi hj h=>by unfold fF2 at h;(repeat' split at h)<;>omega) ?_ hE
 intro i k' hk
 rcases i with _|_|_|_|_|_|i
 ·injection hk with hk;subst hk
  exact ⟨_,rfl,rfl,rfl,rfl,.inr ⟨⟨rfl,⟨by rw [z4 (by omega)];rfl,rfl,rfl,fun h=>h⟩,⟨by rw [z4 (by omega)];rfl,rfl,rfl,fun h=>h⟩,⟨by rw [z4 (by omega)];rfl,rfl,rfl,fun h=>h⟩,⟨by rw [z4 (by omega)];rfl,rfl,rfl,fun h=>h⟩,⟨by rw [z4 (by omega)];rfl,rfl,rfl,fun h=>h⟩,trivial⟩,trivial⟩⟩
 ·injection hk with hk;subst hk
  refine ⟨_,rfl,a1S (h:=fun i=>i+6) (h':=fun i=>i+6) fun j hj=>?_⟩
  rw [z4 (by omega),fa _ (by omega)]
 ·injection hk with hk;subst hk;exact ⟨_,rfl,d7 (c6 _)⟩
 ·injection hk with hk;subst hk;exact ⟨_,rfl,d7 (c6 _)⟩
 ·injection hk with hk;subst hk
  refine ⟨_,a2b (t:=0) (b7 _ _ _),d7 (c6 _)⟩
 ·injection hk with hk;subst hk;exact ⟨_,rfl,d7 (c6 _)⟩
 ·have hk:((mF m n A).map flB++[])[i]? =some k':=hk
  have hi:i<m:=by have:=(lbe.1 hk).1;simpa [b7] using this
  rw [K6 (Q9 hi)] at hk
  injection hk with hk;subst hk
  rw [fa _ (by omega)]
  exact ⟨_,K6 (Q9 hi),d7 (c6 _)⟩
theorem b0p (s:g4) (g:List (Int × Rat)) (n:Nat) (h:b8O s g n):
 a9 Tryz.prog 199 [a3c s,s7 g] [] (.c (.ptr 0 0 0)) (a0d (f5 s).length n (f5 s) (g7 s g)):=by
 have m1:(s.rows.map y4).length=s.rows.length:=by simp
 have m2:(g.map k5).length=g.length:=by simp
 have z0:∀H:Hp,H.length=0->Z5 Tryz.prog 254 [a7 .i64 s.n] H (.c (.own 0 0 n true)) [flB (rF n fun _=>0)]:=fun H hH=>by rw [h.en];exact a1R hH h.n1
 have hsl:=h.l
 have htg:=h.tg
 have hbg:=h.bg
 have hgl:=C8 htg
 have hn1:=h.n1
 have hen:=h.en
 have put0:∀(K i:Nat) (w:D3) (b:Bool) (F:List (Nat × Bool)) (bx:Blk),s.rows[i]? =some w->F.length=K->I9 bx.rows->K<=10000->i<=100000->
  a9 Tryz.prog 255 [.c (.ptr 0 0 0),a7 .i64 i,aJ0 w,e8 b] (a6k n K (g7 s g).V (fun _=>0) (fun i=>n+i) F (g7 s g).A [bx]) (.tup []) (b3B n K (V4 b w.value) (sgF b w.terms) (g7 s g).V (fun _=>0) (fun i=>n+i) F (i,b) (g7 s g).A bx):=by
  intro K i w b F bx hw hF hbx hK hi
  have hn:=a0V h.r
  have hrw:=(a0l h.r hw).1
  rw [hn,h.en] at hrw
  have hl:=C8 hrw
  have hb:=h.b w (lbm hw)
  exact be9 n K i w b _ _ F hF _ bx hbx h.n1 hK hi hrw (by have:=h.n1;omega) hb.2 hb.1
 (refine ac Tryz.func199 ?_;(conv=>whnf);repeat ((first|refine b0x ?_|refine zy ?_);conv=>whnf))
 repeat' (first|refine zz ?_|refine b0x ?_|refine .inl ⟨_,_,z0 _ rfl,?_⟩|refine zd ?_ ?_<;>intro h<;>try omega|refine zy ?_|fail)<;>conv=>whnf
 refine aO4 (fun i=>([J,s7 g,S.c (C.t (T.ptr (an9 s))),J,J,S.c (C.ptr 0 0 0)]++Jn 13++[S.c (C.t (O7 s.rows)),a7 .i64 s.rows.length,a7 .i64 i]++Jn 53,a6k n (J9 s i).length (g7 s g).V (fun _=>0) (fun i=>n+i) (J9 s i) (g7 s g).A [])) s.rows.length (fun _=>True) (gR 5 pF1) trivial ?_ ?_
 ·refine b5X rfl (fun i j x hi hj h1 h2=>by unfold pF1 at h1 h2;(repeat' split at h1)<;>(repeat' split at h2)<;>first|(cases h1;done)|(cases h2;done)|(injection h1 with h1;injection h2 with h2;omega)) ?_ ?_
  ·intro i k' hk
   rcases i with _|_|_|_|_|i
   ·injection hk with hk;subst hk
    exact .inr ⟨1,_,rfl,rfl,rfl,rfl,rfl,.inr ⟨⟨a9T (by rw [h.en]),⟨rfl,rfl,rfl⟩,⟨rfl,rfl,rfl,fun h=>h⟩,⟨rfl,rfl,rfl⟩,rfl,⟨rfl,rfl,rfl⟩,trivial⟩,trivial⟩⟩
   ·injection hk with hk;subst hk;exact .inl ⟨rfl,rfl,rfl⟩
   ·injection hk with hk;subst hk;exact .inr ⟨0,_,rfl,rfl,d7 (c6 _)⟩
   ·injection hk with hk;subst hk;exact .inl ⟨rfl,rfl,rfl⟩
   ·injection hk with hk;subst hk;exact .inl ⟨rfl,rfl,rfl⟩
   ·simp [mF,J9] at hk
  ·exact ⟨rfl,g6 rfl,⟨rfl,rfl,rfl⟩,g6 rfl,b8 (by omega),b8 rfl,trivial⟩
 intro i hi _
 refine R4 c8 ?_
 conv=>whnf
 repeat' (first|refine zx ?_|refine k7 ?_|refine zd ?_ ?_<;>intro h<;>try omega|fail)<;>conv=>whnf
 ·have hlt:i<s.rows.length:=by omega
  obtain ⟨w,hw⟩:∃w,s.rows[i]? =some w:=⟨_,lbf hlt⟩
  obtain ⟨K,hK⟩:∃K,K=(J9 s i).length:=⟨_,rfl⟩
  rw [← hK]
  obtain ⟨K1,hK1⟩:∃K1,K1=(J9 s i++if w.kind≠0 then [(i,false)] else []).length:=⟨_,rfl⟩
  obtain ⟨F1,hF1⟩:∃F1,F1=(J9 s i++if w.kind≠0 then [(i,false)] else []):=⟨_,rfl⟩
  have hKb:K<=10000:=by have:=a5z (s:=s) i;omega
  refine R4 c8 ?_
  conv=>whnf
  refine ac7 (ae3 ?_)
  refine R4 c8 ?_
  conv=>whnf
  repeat' (first|refine zx ?_|refine b9 hw ?_|refine n6 (b7 _ _ _) ?_|refine k7 ?_|refine g8 (t:=0) (b7 _ _ _) ?_|refine g9 (t:=0) (b7 _ _ _) ?_|refine zd ?_ ?_<;>intro h<;>try omega|fail)<;>conv=>whnf
  refine a2H c8 ([J,s7 g,S.c (C.t (T.ptr (an9 s))),J,J,S.c (C.ptr 0 0 0),a7 .i64 i,S.c (C.ptr (K1+5) 0 0)]++Jn 11++[S.c (C.t (O7 s.rows)),a7 .i64 s.rows.length,a7 .i64 i]++Jn 53) (a6k n K1 (g7 s g).V (fun _=>0) (fun i=>n+i) F1 (g7 s g).A [rbx w]) ?_ ?_
  ·by_cases hk:w.kind=0
   ·have e1:F1=J9 s i:=by rw [hF1,if_neg (by simp [hk]),List.append_nil]
    have e2:K1=K:=by rw [hK1,if_neg (by simp [hk]),List.append_nil,hK]
    subst e1 e2
    conv=>whnf
    repeat' (first|refine zx ?_|refine n6 (b7 _ _ _) ?_|refine k7 ?_|refine g8 (t:=0) (b7 _ _ _) ?_|refine g9 (t:=0) (b7 _ _ _) ?_|refine zd ?_ ?_<;>intro h<;>try omega|fail)<;>conv=>whnf
    all_goals first
     |omega
     |exact ⟨idR (K1+6),a0f (X:=[rbx w]) (X':=[]) (a1J rfl rfl rfl rfl rfl rfl) rfl (Nat.zero_le _) (by intro b hb;simp at hb;subst hb;exact a4J (aI4 w)) ⟨rfl,rfl,⟨p6 (by omega),rfl,rfl⟩,rfl,⟨p6 (by omega),rfl,rfl⟩,rfl,rfl,rfl,trivial⟩⟩
   ·have e1:F1=J9 s i++[(i,false)]:=by rw [hF1,if_pos hk]
    have e2:K1=K+1:=by rw [hK1,if_pos hk,lbq,←hK];rfl
    have hg:(f5 s).getD K (0,false)=(i,false):=by
     refine aq8 (i:=i+1) (by omega) ?_
     rw [ah0 hw,if_pos hk,lbD,lbc (by omega),hK];simp
    subst e1 e2
    have pu:=put0 K i w false (J9 s i) (rbx w) hw hK.symm (aI4 w) hKb (by omega)
    conv=>whnf
    repeat' (first|refine zx ?_|refine .inr ⟨_,_,pu,?_⟩|refine n6 (b7 _ _ _) ?_|refine k7 ?_|refine g8 (t:=0) (b7 _ _ _) ?_|refine g9 (t:=0) (b7 _ _ _) ?_|refine zd ?_ ?_<;>intro h<;>try omega|fail)<;>conv=>whnf
    all_goals first
     |omega
     |exact ⟨_,b1X (aI4 w) (b1F hg hw) (b1L hg hw) ⟨rfl,rfl,⟨by rw [z4 (by omega)];rfl,rfl,rfl⟩,rfl,⟨by rw [z4 (by omega),b7o],rfl,rfl⟩,rfl,rfl,rfl,trivial⟩⟩
  ·have hl1:F1.length=K1:=by rw [hF1,hK1]
   have eF:J9 s (i+1)=F1++if w.kind≠1 then [(i,true)] else []:=by rw [ah0 hw,hF1]
   have hK1b:K1<=10000:=by
    have:=a5z (s:=s) i
    rw [hK1,lbq]
    split<;>simp<;>omega
   by_cases hk:w.kind=1
   ·have e1:J9 s (i+1)=F1:=by rw [eF,if_neg (by simp [hk]),List.append_nil]
    refine z6 c8 _ ?_
    conv=>whnf
    repeat' (first|refine zx ?_|refine n6 (b7 _ _ _) ?_|refine k7 ?_|refine g8 (t:=0) (b7 _ _ _) ?_|refine g9 (t:=0) (b7 _ _ _) ?_|refine zd ?_ ?_<;>intro h<;>try omega|fail)<;>conv=>whnf
    all_goals try omega
    refine z6 c8 _ ?_
    conv=>whnf
    repeat' (first|refine zx ?_|refine n6 (b7 _ _ _) ?_|refine k7 ?_|refine g8 (t:=0) (b7 _ _ _) ?_|refine g9 (t:=0) (b7 _ _ _) ?_|refine zd ?_ ?_<;>intro h<;>try omega|fail)<;>conv=>whnf
    refine ⟨hlt,trivial,idR (K1+5),?_⟩
    rw [e1,hl1]
    exact a0f (X:=[]) (X':=[rbx w]) (a1J rfl rfl rfl rfl rfl rfl) rfl (Nat.zero_le _) (by simp) ⟨rfl,rfl,⟨p6 (by omega),rfl,rfl⟩,rfl,rfl,b8 (by omega),trivial⟩
   ·have e1:J9 s (i+1)=F1++[(i,true)]:=by rw [eF,if_pos hk]
    have hg:(f5 s).getD K1 (0,false)=(i,true):=by
     refine aq8 (i:=i+1) (by omega) ?_
     rw [e1,lbc (by omega),hl1];simp
    have pu:=put0 K1 i w true F1 (rbx w) hw hl1 (aI4 w) hK1b (by omega)
    refine z6 c8 _ ?_
    conv=>whnf
    repeat' (first|refine zx ?_|refine .inr ⟨_,_,pu,?_⟩|refine n6 (b7 _ _ _) ?_|refine k7 ?_|refine g8 (t:=0) (b7 _ _ _) ?_|refine g9 (t:=0) (b7 _ _ _) ?_|refine zd ?_ ?_<;>intro h<;>try omega|fail)<;>conv=>whnf
    all_goals try omega
    refine b6C (env':=[J,s7 g,S.c (C.t (T.ptr (an9 s))),J,J,S.c (C.ptr 0 0 0)]++Jn 13++[S.c (C.t (O7 s.rows)),a7 .i64 s.rows.length,a7 .i64 i]++Jn 53) _ (b1X (aI4 w) (b1F hg hw) (b1L hg hw) ⟨rfl,rfl,⟨by rw [z4 (by omega)];rfl,rfl,rfl⟩,rfl,rfl,rfl,trivial⟩) ?_
    refine z6 c8 _ ?_
    conv=>whnf
    repeat' (first|refine zx ?_|refine n6 (b7 _ _ _) ?_|refine k7 ?_|refine g8 (t:=0) (b7 _ _ _) ?_|refine g9 (t:=0) (b7 _ _ _) ?_|refine zd ?_ ?_<;>intro h<;>try omega|fail)<;>conv=>whnf
    refine ⟨hlt,trivial,idR (K1+1+5),?_⟩
    rw [e1,show (F1++[(i,true)]).length=K1+1 by simp [hl1]]
    exact a0f (X:=[]) (X':=[rbx w]) (a1J rfl rfl rfl rfl rfl rfl) rfl (Nat.zero_le _) (by simp) ⟨rfl,rfl,⟨p6 (by omega),rfl,rfl⟩,rfl,rfl,b8 (by omega),trivial⟩
 ·have hie:i=s.rows.length:=by omega
  subst hie
  refine z6 c8 _ ?_
  conv=>whnf
  repeat' (first|refine zx ?_|refine n6 (b7 _ _ _) ?_|refine k7 ?_|refine g8 (t:=0) (b7 _ _ _) ?_|refine g9 (t:=0) (b7 _ _ _) ?_|refine zd ?_ ?_<;>intro h<;>try omega|fail)<;>conv=>whnf
  all_goals try omega
  refine d8 c8 (fun q=>([J,J,S.c (C.t (T.ptr (an9 s))),J,J,S.c (C.ptr 0 0 0)]++Jn 35++[s7 g,a7 .i64 g.length,a7 .i64 q]++Jn 31,a6k n (f5 s).length (g7 s g).V (fun j=>-(L5 g q j)) (fun i=>n+i) (f5 s) (g7 s g).A [])) g.length (fun _=>True) (idR ((f5 s).length+5)) trivial ?_ ?_
  ·refine a0f (X:=[]) (X':=[]) (a1J rfl rfl ?_ rfl rfl rfl) rfl (Nat.zero_le _) (by simp) ⟨g6 rfl,⟨p6 (by omega),rfl,rfl⟩,g6 rfl,b8 (by omega),b8 rfl,trivial⟩
   rw [w9 (g:=fun _=>0) (h:=fun j=>-(L5 g 0 j)) fun j hj=>by show (0:Rat)=-0;decide]
  intro q hq _
  by_cases hlt:q<g.length
  ·obtain ⟨t,ht⟩:∃t,g[q]? =some t:=⟨_,lbf hlt⟩
   obtain ⟨t0,t1,t2⟩:=E1 htg t (lbm ht)
   have nt:=a3J t.2 (hbg t (lbm ht))
   have gp:(rF n (fun j=>-(L5 g q j)))[0+t.1.toNat]? =some (fz (-(L5 g q t.1.toNat))):=by rw [Nat.zero_add,F7 (by omega)]
   have eV:0+t.1.toNat=t.1.toNat:=by omega
   have e:t8 (flB (rF n (fun j=>-(L5 g q j)))) ((flB (rF n (fun j=>-(L5 g q j)))).rows.set (0+t.1.toNat) (frC (fz (-t.2))))=flB (rF n (fun j=>-(L5 g (q+1) j))):=by
    have e1:=I5 (row:=rF n (fun j=>-(L5 g q j))) (y:=fz (-t.2)) eV
    rw [T3 (by omega)] at e1
    refine e1.trans ?_
    rw [J6 ht]
    refine congrArg flB ?_
    exact w9 fun j hj=>by show (if j=t.1.toNat then -t.2 else -(L5 g q j))=-(if j=t.1.toNat then t.2 else L5 g q j);split<;>rfl
   conv=>whnf
   repeat' (first|refine zx ?_|refine qp nt ?_|refine b9 ht ?_|refine o5 gp ?_|refine n6 (b7 _ _ _) ?_|refine k7 ?_|refine g8 (t:=0) (b7 _ _ _) ?_|refine g9 (t:=0) (b7 _ _ _) ?_|refine zd ?_ ?_<;>intro h<;>try omega|fail)<;>conv=>whnf
   all_goals first
    |omega
    |exact ⟨hlt,trivial,idR ((f5 s).length+5),a0f (X:=[]) (X':=[_]) (a1J rfl rfl e rfl rfl rfl) rfl (Nat.zero_le _) (by simp) ⟨rfl,⟨p6 (by omega),rfl,rfl⟩,rfl,rfl,b8 (by omega),trivial⟩⟩
  ·have hqe:q=g.length:=by omega
   subst hqe
   conv=>whnf
   repeat' (first|refine zx ?_|refine n6 (b7 _ _ _) ?_|refine k7 ?_|refine g8 (t:=0) (b7 _ _ _) ?_|refine g9 (t:=0) (b7 _ _ _) ?_|refine zd ?_ ?_<;>intro h<;>try omega|fail)<;>conv=>whnf
   all_goals try omega
   refine d8 c8 (fun q=>([J,J,J,J,J,S.c (C.ptr 0 0 0)]++Jn 53++[a7 .i64 n,a7 .i64 q]++Jn 14,b7F (f5 s).length n q (g7 s g).V (g7 s g).G (fun i=>n+i) (f5 s) (g7 s g).A [])) n (fun _=>True) (gR ((f5 s).length+6) fF1) trivial ?_ ?_
   ·exact b4V rfl rfl ⟨⟨by rw [a4e (by omega)];rfl,rfl,rfl⟩,b8 hen,b8 rfl,trivial⟩
   intro q hq _
   by_cases hlt:q<n
   ·conv=>whnf
    repeat' (first|refine zx ?_|refine qp (toC,x3) ?_|refine qp (toC,x3) ?_|refine qp 0 ?_|refine o8 (by simp [toC,x3]) (by simp [toC,x3];omega) ?_|refine bl0 [0] ?_|refine n6 (b7 _ _ _) ?_|refine k7 ?_|refine g8 (t:=0) (b7 _ _ _) ?_|refine g9 (t:=0) (b7 _ _ _) ?_|refine zd ?_ ?_<;>intro h<;>try omega|fail)<;>conv=>whnf
    all_goals first
     |omega
     |(refine ⟨hlt,trivial,fR ((f5 s).length+6) (fF2 (f5 s).length),b7c (b7Z rfl rfl rfl rfl rfl rfl (congrArg (fun z=>(mF (f5 s).length n (g7 s g).A).map flB++[z]) ?_)) ⟨⟨by rw [z4 (by omega)];rfl,rfl,rfl⟩,rfl,b8 (by omega),trivial⟩⟩
       exact congrArg (fun z=>({ mode:=.live,elem:=3,size:=1,rows:=z,box:=false }:Blk)) (a8H (O:=fun j=>j) (x:=(q:Int)) rfl))
   ·have hqe:q=n:=by omega
    subst hqe
    conv=>whnf
    repeat' (first|refine zx ?_|refine n6 (b7 _ _ _) ?_|refine k7 ?_|refine g8 (t:=0) (b7 _ _ _) ?_|refine g9 (t:=0) (b7 _ _ _) ?_|refine zd ?_ ?_<;>intro h<;>try omega|fail)<;>conv=>whnf
    all_goals try omega
    refine au5 (n:=(f5 s).length+6) a3b (Nat.zero_le _) a7p (fun i _=>?_) ⟨p6 (by omega),rfl,rfl⟩
    have e0:a0d (f5 s).length q (f5 s) (g7 s g)=b7F (f5 s).length q q (g7 s g).V (g7 s g).G (fun i=>q+i) (f5 s) (g7 s g).A []:=by
     have eO:(g7 s g).O=fun i=>q+i:=by funext i;show s.n.toNat+i=_;rw [hen];rfl
     show _::_::_::Z9 _ (g7 s g).O::_::_::_=_::_::_::_::_::_::(_++[])
     rw [List.append_nil,eO];rfl
    rw [e0]
def ptK (n:Nat) (O:Nat->Nat) (v x0:Nat->Rat):Nat->Nat->Rat
 |0=>x0
 |k+1=>fun j=>if O k<n∧j=O k then v k else ptK n O v x0 k j
theorem S0 {n:Nat} {O:Nat->Nat} {v x0:Nat->Rat} {k:Nat}:ptK n O v x0 (k+1)=fun j=>if O k<n∧j=O k then v k else ptK n O v x0 k j:=rfl
theorem af8 {n:Nat} {O:Nat->Nat} {v x0:Nat->Rat} {j:Nat}:∀{k:Nat},(∀ i,i<k->O i≠j)->ptK n O v x0 k j=x0 j
 |0,_=>rfl
 |k+1,h=>by rw [S0];simp only;rw [if_neg (fun e=>h k (by omega) e.2.symm),af8 fun i hi=>h i (by omega)]
theorem aj8 {n:Nat} {O:Nat->Nat} {v x0:Nat->Rat} {i:Nat}:∀{k:Nat},i<k->O i<n->(∀ a,a<k->O a=O i->a=i)->ptK n O v x0 k (O i)=v i
 |0,h,_,_=>by omega
 |k+1,h,hn,hu=>by
  rw [S0];simp only
  by_cases he:O k=O i
  ·have:=hu k (by omega) he
   subst this
   rw [if_pos ⟨hn,rfl⟩]
  ·rw [if_neg (fun e=>he e.2.symm)]
   have:i≠k:=fun e=>he (by rw [e])
   exact aj8 (by omega) hn fun a ha=>hu a (by omega)
theorem b0M {m n:Nat} {D:Fd} (hP:a0n m n D) {j:Nat} (hj:j<n):ptK n D.O D.V (fun _=>0) m j=a0m m n D 1 (fun _=>0) j:=by
 rcases hP.all j (by omega) with ⟨i,hi,rfl⟩|⟨q,hq,rfl⟩
 ·rw [aj8 hi hj fun a ha he=>hP.oi a i ha hi he,a6d hP hi,u0 fun j _=>by grind];grind
 ·rw [af8 fun i hi=>hP.of i q hi hq,a0o hP hq]
theorem b1o {m n c:Nat} {D:Fd} (hP:a0n m n D) (hc:c<n) {j:Nat} (hj:j<n):ptK n D.O (fun i=>-(D.A i c)) (fun j=>if D.F c<n∧j=D.F c then 1 else 0) m j=a0m m n D 0 (fun q=>if q=c then 1 else 0) j:=by
 rcases hP.all j (by omega) with ⟨i,hi,rfl⟩|⟨q,hq,rfl⟩
 ·rw [aj8 hi hj fun a ha he=>hP.oi a i ha hi he,a6d hP hi,e7 (g:=fun q=>(if c=q then (1:Rat) else 0)*D.A i q) fun q _=>by
   by_cases h:q=c
   ·subst h;simp only [if_true];grind
   ·rw [if_neg h,if_neg (fun e=>h e.symm)];grind,a57 hc]
  grind
 ·rw [af8 fun i hi=>hP.of i q hi hq,a0o hP hq]
  by_cases h:q=c
  ·subst h;rw [if_pos rfl,if_pos ⟨hj,rfl⟩]
  ·rw [if_neg h,if_neg (fun e=>h (hP.fi q c hq hc e.2))]
theorem b0u (n:Nat) (y:Nat->Rat):(zOf n y).map fz=rF n y:=by unfold zOf rF;rw [List.map_map];rfl
abbrev dT (m n:Nat) (fr:List (Nat × Bool)) (D:Fd):S:=.c (.t (.ptr (b83 m n fr D)))
theorem b52 (m n:Nat) (fr:List (Nat × Bool)) (D:Fd) (hP:a0n m n D) (hm:m<=100000) (hn:n<=1000):a9 Tryz.prog 201 [dT m n fr D] [] (t4 ((zOf n (a0m m n D 1 (fun _=>0))).map fz)) []:=by
 have m1:(a18 m D.O).length=m:=x3 _ _
 have z0:∀H:Hp,H.length=0->Z5 Tryz.prog 254 [a7 .i64 n] H (.c (.own 0 0 n true)) [flB (rF n fun _=>0)]:=fun H hH=>a1R hH hn
 rw [b0u,←w9 (g:=ptK n D.O D.V (fun _=>0) m) fun j hj=>b0M hP hj]
 (refine ac Tryz.func201 ?_;(conv=>whnf);repeat ((first|refine b0x ?_|refine zy ?_);conv=>whnf))
 repeat' (first|refine zx ?_|refine .inl ⟨_,_,z0 _ rfl,?_⟩|refine zd ?_ ?_<;>intro h<;>try omega|fail)<;>conv=>whnf
 refine d8 c8 (fun k=>([dT m n fr D,J,J,S.c (C.own 0 0 n true)]++Jn 10++[a8Q m D.O,a7 .i64 m,a7 .i64 k]++Jn 23,[flB (rF n (ptK n D.O D.V (fun _=>0) k))])) m (fun _=>True) [some 0] trivial
  ⟨rfl,rfl,⟨d7 (c6 _),trivial⟩,⟨g6 rfl,⟨rfl,rfl,rfl,fun h=>h⟩,g6 rfl,b8 (by omega),b8 rfl,trivial⟩⟩ ?_
 intro k hk _
 by_cases hlt:k<m
 ·by_cases ho:D.O k<n
  ·have gp:(rF n (ptK n D.O D.V (fun _=>0) k))[0+((D.O k:Nat):Int).toNat]? =some (fz (ptK n D.O D.V (fun _=>0) k (D.O k))):=by rw [show 0+((D.O k:Nat):Int).toNat=D.O k by omega,F7 ho]
   have e:t8 (flB (rF n (ptK n D.O D.V (fun _=>0) k))) ((flB (rF n (ptK n D.O D.V (fun _=>0) k))).rows.set (0+((D.O k:Nat):Int).toNat) (frC (fz (D.V k))))=flB (rF n (ptK n D.O D.V (fun _=>0) (k+1))):=by
    rw [I5 (show 0+((D.O k:Nat):Int).toNat=D.O k by omega),T3 ho,S0]
    refine congrArg flB (w9 fun j hj=>?_)
    simp only [ho,true_and]
   conv=>whnf
   repeat' (first|refine zx ?_|refine M7 rfl hlt ?_|refine a3a rfl hlt ?_|refine o5 gp ?_|refine zd ?_ ?_<;>intro h<;>try omega|fail)<;>conv=>whnf
   all_goals first
    |omega
    |exact ⟨hlt,trivial,[some 0],rfl,rfl,⟨⟨rfl,rfl,rfl,.inl ⟨congrArg Blk.rows e,(congrArg Blk.rows e) ▸ c6 _⟩⟩,trivial⟩,⟨rfl,⟨rfl,rfl,rfl,fun h=>h⟩,rfl,rfl,b8 (by omega),trivial⟩⟩
  ·have e:ptK n D.O D.V (fun _=>0) (k+1)=ptK n D.O D.V (fun _=>0) k:=by rw [S0];funext j;rw [if_neg (fun h=>ho h.1)]
   conv=>whnf
   repeat' (first|refine zx ?_|refine M7 rfl hlt ?_|refine zd ?_ ?_<;>intro h<;>try omega|fail)<;>conv=>whnf
   all_goals first
    |omega
    |exact ⟨hlt,trivial,[some 0],rfl,rfl,⟨a8 (rows:=(rF n (ptK n D.O D.V (fun _=>0) k)).map t6) rfl rfl rfl rfl (by rw [e]),trivial⟩,⟨rfl,⟨rfl,rfl,rfl,fun h=>h⟩,rfl,rfl,b8 (by omega),trivial⟩⟩
 ·have hke:k=m:=by omega
  subst hke
  conv=>whnf
  repeat' (first|refine zx ?_|refine zd ?_ ?_<;>intro h<;>try omega|fail)<;>conv=>whnf
  all_goals first
   |omega
   |exact I6 rfl (fun h=>h) rfl rfl (by simp [O8])
theorem ba9 (m n:Nat) (fr:List (Nat × Bool)) (D:Fd) (c:Nat) (hc:c<n) (hP:a0n m n D) (hm:m<=100000) (hn:n<=1000) (hB:∀i,i<m->rl (D.A i c)<=60000):
 a9 Tryz.prog 202 [dT m n fr D,a7 .i64 c] [] (t4 ((zOf n (a0m m n D 0 (fun q=>if q=c then 1 else 0))).map fz)) []:=by
 have m1:(a18 m D.O).length=m:=x3 _ _
 have z0:∀H:Hp,H.length=0->Z5 Tryz.prog 254 [a7 .i64 n] H (.c (.own 0 0 n true)) [flB (rF n fun _=>0)]:=fun H hH=>a1R hH hn
 have i1:=N4 1 (by decide) (by decide)
 obtain ⟨x0,hx0⟩:∃x0:Nat->Rat,x0=fun j=>if D.F c<n∧j=D.F c then 1 else 0:=⟨_,rfl⟩
 rw [b0u,←w9 (g:=ptK n D.O (fun i=>-(D.A i c)) x0 m) fun j hj=>by rw [hx0];exact b1o hP hc hj]
 by_cases hf:D.F c<n
 ·have gp0:(rF n (fun _=>(0:Rat)))[0+((D.F c:Nat):Int).toNat]? =some (fz 0):=by rw [show 0+((D.F c:Nat):Int).toNat=D.F c by omega,F7 hf]
  have e0:t8 (flB (rF n (fun _=>(0:Rat)))) ((flB (rF n (fun _=>(0:Rat)))).rows.set (0+((D.F c:Nat):Int).toNat) (frC (fz ((1:Int):Rat))))=flB (rF n x0):=by
   rw [I5 (show 0+((D.F c:Nat):Int).toNat=D.F c by omega),T3 hf,hx0]
   refine congrArg flB (w9 fun j hj=>?_)
   simp only [hf,true_and];rfl
  (refine ac Tryz.func202 ?_;(conv=>whnf);repeat ((first|refine b0x ?_|refine zy ?_);conv=>whnf))
  repeat' (first|refine zx ?_|refine qp i1 ?_|refine .inl ⟨_,_,z0 _ rfl,?_⟩|refine M7 rfl hc ?_|refine o5 gp0 ?_|refine zd ?_ ?_<;>intro h<;>try omega|fail)<;>conv=>whnf
  all_goals try omega
  refine d8 c8 (fun k=>([dT m n fr D,a7 .i64 c,J,J,J,S.c (C.own 0 0 n true)]++Jn 28++[a8Q m D.O,a7 .i64 m,a7 .i64 k]++Jn 27,[flB (rF n (ptK n D.O (fun i=>-(D.A i c)) x0 k))])) m (fun _=>True) [some 0] trivial
   ⟨rfl,rfl,⟨⟨rfl,rfl,rfl,.inl ⟨congrArg Blk.rows e0,(congrArg Blk.rows e0) ▸ c6 _⟩⟩,trivial⟩,⟨g6 rfl,b8 rfl,⟨rfl,rfl,rfl,fun h=>h⟩,g6 rfl,b8 (by omega),b8 rfl,trivial⟩⟩ ?_
  intro k hk _
  by_cases hlt:k<m
  ·have ng:=a3J (D.A k c) (hB k hlt)
   by_cases ho:D.O k<n
   ·have gp:(rF n (ptK n D.O (fun i=>-(D.A i c)) x0 k))[0+((D.O k:Nat):Int).toNat]? =some (fz (ptK n D.O (fun i=>-(D.A i c)) x0 k (D.O k))):=by rw [show 0+((D.O k:Nat):Int).toNat=D.O k by omega,F7 ho]
    have e:t8 (flB (rF n (ptK n D.O (fun i=>-(D.A i c)) x0 k))) ((flB (rF n (ptK n D.O (fun i=>-(D.A i c)) x0 k))).rows.set (0+((D.O k:Nat):Int).toNat) (frC (fz (-(D.A k c)))))=flB (rF n (ptK n D.O (fun i=>-(D.A i c)) x0 (k+1))):=by
     rw [I5 (show 0+((D.O k:Nat):Int).toNat=D.O k by omega),T3 ho,S0]
     refine congrArg flB (w9 fun j hj=>?_)
     simp only [ho,true_and]
    conv=>whnf
    repeat' (first|refine zx ?_|refine qp ng ?_|refine M7 rfl hlt ?_|refine a3a rfl hlt ?_|refine a4S rfl hc ?_|refine o5 gp ?_|refine zd ?_ ?_<;>intro h<;>try omega|fail)<;>conv=>whnf
    all_goals first
     |omega
     |exact ⟨hlt,trivial,[some 0],rfl,rfl,⟨⟨rfl,rfl,rfl,.inl ⟨congrArg Blk.rows e,(congrArg Blk.rows e) ▸ c6 _⟩⟩,trivial⟩,⟨rfl,rfl,⟨rfl,rfl,rfl,fun h=>h⟩,rfl,rfl,b8 (by omega),trivial⟩⟩
   ·have e:ptK n D.O (fun i=>-(D.A i c)) x0 (k+1)=ptK n D.O (fun i=>-(D.A i c)) x0 k:=by rw [S0];funext j;rw [if_neg (fun h=>ho h.1)]
    conv=>whnf
    repeat' (first|refine zx ?_|refine M7 rfl hlt ?_|refine zd ?_ ?_<;>intro h<;>try omega|fail)<;>conv=>whnf
    all_goals first
     |omega
     |exact ⟨hlt,trivial,[some 0],rfl,rfl,⟨a8 (rows:=(rF n (ptK n D.O (fun i=>-(D.A i c)) x0 k)).map t6) rfl rfl rfl rfl (by rw [e]),trivial⟩,⟨rfl,rfl,⟨rfl,rfl,rfl,fun h=>h⟩,rfl,rfl,b8 (by omega),trivial⟩⟩
  ·have hke:k=m:=by omega
   subst hke
   conv=>whnf
   repeat' (first|refine zx ?_|refine zd ?_ ?_<;>intro h<;>try omega|fail)<;>conv=>whnf
   all_goals first
    |omega
    |exact I6 rfl (fun h=>h) rfl rfl (by simp [O8])
 ·have e0:x0=fun _=>0:=by rw [hx0];funext j;rw [if_neg (fun h=>hf h.1)]
  (refine ac Tryz.func202 ?_;(conv=>whnf);repeat ((first|refine b0x ?_|refine zy ?_);conv=>whnf))
  repeat' (first|refine zx ?_|refine qp i1 ?_|refine .inl ⟨_,_,z0 _ rfl,?_⟩|refine M7 rfl hc ?_|refine zd ?_ ?_<;>intro h<;>try omega|fail)<;>conv=>whnf
  all_goals try omega
  refine d8 c8 (fun k=>([dT m n fr D,a7 .i64 c,J,J,J,S.c (C.own 0 0 n true)]++Jn 28++[a8Q m D.O,a7 .i64 m,a7 .i64 k]++Jn 27,[flB (rF n (ptK n D.O (fun i=>-(D.A i c)) x0 k))])) m (fun _=>True) [some 0] trivial
   ⟨rfl,rfl,⟨a8 (rows:=(rF n (fun _=>0)).map t6) rfl rfl rfl rfl (by rw [e0];rfl),trivial⟩,⟨g6 rfl,b8 rfl,⟨rfl,rfl,rfl,fun h=>h⟩,g6 rfl,b8 (by omega),b8 rfl,trivial⟩⟩ ?_
  intro k hk _
  by_cases hlt:k<m
  ·have ng:=a3J (D.A k c) (hB k hlt)
   by_cases ho:D.O k<n
   ·have gp:(rF n (ptK n D.O (fun i=>-(D.A i c)) x0 k))[0+((D.O k:Nat):Int).toNat]? =some (fz (ptK n D.O (fun i=>-(D.A i c)) x0 k (D.O k))):=by rw [show 0+((D.O k:Nat):Int).toNat=D.O k by omega,F7 ho]
    have e:t8 (flB (rF n (ptK n D.O (fun i=>-(D.A i c)) x0 k))) ((flB (rF n (ptK n D.O (fun i=>-(D.A i c)) x0 k))).rows.set (0+((D.O k:Nat):Int).toNat) (frC (fz (-(D.A k c)))))=flB (rF n (ptK n D.O (fun i=>-(D.A i c)) x0 (k+1))):=by
     rw [I5 (show 0+((D.O k:Nat):Int).toNat=D.O k by omega),T3 ho,S0]
     refine congrArg flB (w9 fun j hj=>?_)
     simp only [ho,true_and]
    conv=>whnf
    repeat' (first|refine zx ?_|refine qp ng ?_|refine M7 rfl hlt ?_|refine a3a rfl hlt ?_|refine a4S rfl hc ?_|refine o5 gp ?_|refine zd ?_ ?_<;>intro h<;>try omega|fail)<;>conv=>whnf
    all_goals first
     |omega
     |exact ⟨hlt,trivial,[some 0],rfl,rfl,⟨⟨rfl,rfl,rfl,.inl ⟨congrArg Blk.rows e,(congrArg Blk.rows e) ▸ c6 _⟩⟩,trivial⟩,⟨rfl,rfl,⟨rfl,rfl,rfl,fun h=>h⟩,rfl,rfl,b8 (by omega),trivial⟩⟩
   ·have e:ptK n D.O (fun i=>-(D.A i c)) x0 (k+1)=ptK n D.O (fun i=>-(D.A i c)) x0 k:=by rw [S0];funext j;rw [if_neg (fun h=>ho h.1)]
    conv=>whnf
    repeat' (first|refine zx ?_|refine M7 rfl hlt ?_|refine zd ?_ ?_<;>intro h<;>try omega|fail)<;>conv=>whnf
    all_goals first
     |omega
     |exact ⟨hlt,trivial,[some 0],rfl,rfl,⟨a8 (rows:=(rF n (ptK n D.O (fun i=>-(D.A i c)) x0 k)).map t6) rfl rfl rfl rfl (by rw [e]),trivial⟩,⟨rfl,rfl,⟨rfl,rfl,rfl,fun h=>h⟩,rfl,rfl,b8 (by omega),trivial⟩⟩
  ·have hke:k=m:=by omega
   subst hke
   conv=>whnf
   repeat' (first|refine zx ?_|refine zd ?_ ?_<;>intro h<;>try omega|fail)<;>conv=>whnf
   all_goals first
    |omega
    |exact I6 rfl (fun h=>h) rfl rfl (by simp [O8])
def ax9 (y:Nat->Rat) (r:Nat) (p:Rat):Nat->Rat:=fun i=>if i=r then y i+p else y i
theorem b9T (b:Bool) (p:Rat):rl (V4 b p)=rl p:=by cases b;rfl;exact T5 p
theorem b6m (m n:Nat) (fr:List (Nat × Bool)) (D:Fd) (R:Nat) (y:Nat->Rat) (k row:Nat) (b:Bool) (p:Rat) (hk:fr[k]? =some (row,b)) (hr:row<R) (hp:rl p<=50000) (hy:rl (y row)<=50000):
 a9 Tryz.prog 263 [dT m n fr D,.c (.own 0 0 R true),a7 .i64 k,frS (fz p)] [flB (rF R y)] (.tup []) [flB (rF R (ax9 y row (-(V4 b p))))]:=by
 have m1:(a0p fr).length=fr.length:=by simp [a0p]
 have eR:0+(row:Int).toNat=row:=by omega
 have gp:(rF R y)[0+(row:Int).toNat]? =some (fz (y row)):=by rw [eR,F7 hr]
 have ng:=a3J p (by omega)
 cases b with
 |true=>
  have ad:=a3Z (y row) p (by omega) (by omega)
  have e:t8 (flB (rF R y)) ((flB (rF R y)).rows.set (0+(row:Int).toNat) (frC (fz (y row+p))))=flB (rF R (ax9 y row (-(V4 true p)))):=by
   rw [I5 eR,T3 hr]
   refine congrArg flB (w9 fun j hj=>?_)
   show (if j=row then y row+p else y j)=if j=row then y j+- -p else y j
   by_cases h:j=row
   ·subst h;rw [if_pos rfl,if_pos rfl,Rat.neg_neg]
   ·rw [if_neg h,if_neg h]
  (refine ac Tryz.func263 ?_;(conv=>whnf);repeat (refine zy ?_;conv=>whnf))
  repeat' (first|refine zx ?_|refine qp ng ?_|refine qp ad ?_|refine qp 12 ?_|refine b9 hk ?_|refine o5 gp ?_|refine bl0 [12] ?_|refine zd ?_ ?_<;>intro h<;>try omega|fail)<;>conv=>whnf
  all_goals first
   |omega
   |(exfalso;simp_all;done)
   |exact ⟨[some 0],rfl,rfl,⟨⟨rfl,rfl,rfl,.inl ⟨congrArg Blk.rows e,(congrArg Blk.rows e) ▸ c6 _⟩⟩,trivial⟩,trivial⟩
 |false=>
  have ad:=a3Z (y row) (-p) (by omega) (by rw [T5];omega)
  have e:t8 (flB (rF R y)) ((flB (rF R y)).rows.set (0+(row:Int).toNat) (frC (fz (y row+-p))))=flB (rF R (ax9 y row (-(V4 false p)))):=by
   rw [I5 eR,T3 hr]
   refine congrArg flB (w9 fun j hj=>?_)
   show (if j=row then y row+-p else y j)=if j=row then y j+-p else y j
   by_cases h:j=row
   ·subst h;rfl
   ·rw [if_neg h,if_neg h]
  (refine ac Tryz.func263 ?_;(conv=>whnf);repeat (refine zy ?_;conv=>whnf))
  repeat' (first|refine zx ?_|refine qp ng ?_|refine qp ad ?_|refine qp 12 ?_|refine b9 hk ?_|refine o5 gp ?_|refine bl0 [12] ?_|refine zd ?_ ?_<;>intro h<;>try omega|fail)<;>conv=>whnf
  all_goals first
   |omega
   |(exfalso;simp_all;done)
   |exact ⟨[some 0],rfl,rfl,⟨⟨rfl,rfl,rfl,.inl ⟨congrArg Blk.rows e,(congrArg Blk.rows e) ▸ c6 _⟩⟩,trivial⟩,trivial⟩
def yK (z:Nat->Rat) (f:Nat->Nat->Rat) (k:Nat):Nat->Rat:=fun i=>z i+f7 (fun j=>f j i) k
theorem b1c {z:Nat->Rat} {f:Nat->Nat->Rat} {k:Nat}:yK z f (k+1)=fun i=>yK z f k i+f k i:=by
 funext i;unfold yK;simp only [f7];grind
theorem a9X {f:Nat->Rat} {B:Nat}:∀k:Nat,(∀ j,j<k->rl (f j)<=B)->rl (f7 f k)<=k*(B+1)+1
 |0,_=>by
  have h0:=rl0
  have e:f7 f 0=0:=by simp only [f7,X0]
  rw [e];omega
 |k+1,h=>by
  have h1:=a9X k fun j hj=>h j (by omega)
  have h2:=h k (by omega)
  have h3:=a4H (f7 f k) (f k)
  simp only [f7]
  rw [lbV]
  omega
theorem bb0 {s:g4} {w i B:Nat} {p:Rat} (h:rl p<=B) (hB:1<=B):rl (chg s w p i)<=B:=by
 unfold chg
 split
 ·rw [T5,b9T];exact h
 ·have:=rl0;omega
theorem b6Q {s:g4} {w:Nat} {p:Rat} (h:w<s.n.toNat):chg s w p=fun _=>0:=by
 funext i;unfold chg;rw [if_neg (fun e=>by omega)]
theorem ba6 {s:g4} {w k row:Nat} {b:Bool} {p:Rat} (hw:w=s.n.toNat+k) (hf:(f5 s)[k]? =some (row,b)) (y:Nat->Rat):ax9 y row (-(V4 b p))=fun i=>y i+chg s w p i:=by
 funext i
 have e:C3 s (w - s.n.toNat)=(row,b):=by unfold C3;rw [show w - s.n.toNat=k by omega,lbl,hf];rfl
 unfold ax9 chg
 rw [e]
 by_cases h:i=row
 ·subst h;rw [if_pos rfl,if_pos ⟨by omega,rfl⟩]
 ·rw [if_neg h,if_neg (fun e=>h e.2.symm)];grind
theorem b63 {s:g4} {k:Nat} {f:Nat × Bool} (h:(f5 s)[k]? =some f):f.1<s.rows.length:=by
 obtain ⟨w,hw,_⟩:=Y8.1 (lbm h)
 exact (lbe.1 hw).1
theorem b4u (s:g4) (n:Nat) (hn:s.n=n) (E:Fd) (hP:a0n (f5 s).length n E) (B:Nat) (hB:∀j,j<n->rl (E.G j)<=B) (hB1:1<=B) (hBn:(n+2)*(B+2)<=50000) (hm:(f5 s).length<=100000) (hR:s.rows.length<=1000) (hn1:n<=1000):
 a9 Tryz.prog 204 [dT (f5 s).length n (f5 s) E,a7 .i64 s.rows.length] [] (.c (.own 0 0 s.rows.length true)) [flB (rF s.rows.length (R6 s E))]:=by
 have m1:(a18 n E.F).length=n:=x3 _ _
 have hnn:s.n.toNat=n:=by omega
 have z0:∀H:Hp,H.length=0->Z5 Tryz.prog 254 [a7 .i64 s.rows.length] H (.c (.own 0 0 s.rows.length true)) [flB (rF s.rows.length fun _=>0)]:=fun H hH=>a1R hH hR
 have eB:B<=50000:=by
  have:(n+2)*(B+2)=n*(B+2)+2*(B+2):=by rw [Nat.add_mul]
  omega
 obtain ⟨f,hf⟩:∃f:Nat->Nat->Rat,f=fun j=>chg s (E.F j) (-(E.G j)):=⟨_,rfl⟩
 have e9:R6 s E=yK (fun _=>0) f n:=by
  funext i;unfold R6 yK;rw [hf,hnn];grind
 rw [e9]
 (refine ac Tryz.func204 ?_;(conv=>whnf);repeat ((first|refine b0x ?_|refine zy ?_);conv=>whnf))
 repeat' (first|refine zx ?_|refine .inl ⟨_,_,z0 _ rfl,?_⟩|refine zd ?_ ?_<;>intro h<;>try omega|fail)<;>conv=>whnf
 refine d8 c8 (fun k=>([dT (f5 s).length n (f5 s) E,J,J,J,J,S.c (C.own 0 0 s.rows.length true),J,J,J,J,J,J,J,a8Q n E.F,a7 .i64 n,a7 .i64 k]++Jn 29,[flB (rF s.rows.length (yK (fun _=>0) f k))])) n (fun _=>True) [some 0] trivial
  ⟨rfl,rfl,⟨a8 (rows:=(rF s.rows.length (fun _=>0)).map t6) rfl rfl rfl rfl ?_,trivial⟩,⟨g6 rfl,⟨rfl,rfl,rfl,fun h=>h⟩,g6 rfl,b8 (by omega),b8 rfl,trivial⟩⟩ ?_
 ·rw [w9 (g:=yK (fun _=>0) f 0) (h:=fun _=>0) fun j hj=>by unfold yK;simp only [f7,X0];grind]
 intro k hk _
 by_cases hlt:k<n
 ·have ng:=a3J (E.G k) (by have:=hB k hlt;omega)
  by_cases ho:E.F k<n
  ·have e:yK (fun _=>0) f (k+1)=yK (fun _=>0) f k:=by
    rw [b1c,hf];funext i
    have e0:chg s (E.F k) (-(E.G k)) i=0:=by rw [b6Q (by omega)]
    show _+chg s (E.F k) (-(E.G k)) i=_
    rw [e0];grind
   conv=>whnf
   repeat' (first|refine zx ?_|refine M7 rfl hlt ?_|refine zd ?_ ?_<;>intro h<;>try omega|fail)<;>conv=>whnf
   all_goals first
    |omega
    |exact ⟨hlt,trivial,[some 0],rfl,rfl,⟨a8 (rows:=(rF s.rows.length (yK (fun _=>0) f k)).map t6) rfl rfl rfl rfl (by rw [e]),trivial⟩,⟨rfl,⟨rfl,rfl,rfl,fun h=>h⟩,rfl,rfl,b8 (by omega),trivial⟩⟩
  ·have hfb:=hP.fb k hlt
   obtain ⟨q,hq⟩:∃q,E.F k=n+q:=⟨E.F k - n,by omega⟩
   obtain ⟨⟨row,b⟩,hfr⟩:∃x,(f5 s)[q]? =some x:=⟨_,lbf (by omega)⟩
   have hrow:row<s.rows.length:=b63 hfr
   have by1:rl (yK (fun _=>0) f k row)<=50000:=by
    have h1:=a9X (f:=fun j=>f j row) (B:=B) k fun j hj=>by rw [hf];exact bb0 (by rw [T5];exact hB j (by omega)) hB1
    have e:yK (fun _=>0) f k row=f7 (fun j=>f j row) k:=by unfold yK;grind
    rw [e]
    have:k*(B+1)<=n*(B+1):=lbU _ (by omega)
    have:(n+2)*(B+2)=n*(B+1)+n+2*(B+2):=by rw [Nat.add_mul,show n*(B+2)=n*(B+1)+n by rw [Nat.mul_add,Nat.mul_add];omega]
    omega
   have ch:=b6m (f5 s).length n (f5 s) E s.rows.length (yK (fun _=>0) f k) q row b (-(E.G k)) hfr hrow (by rw [T5];have:=hB k hlt;omega) by1
   have e:ax9 (yK (fun _=>0) f k) row (-(V4 b (-(E.G k))))=yK (fun _=>0) f (k+1):=by rw [ba6 (s:=s) (w:=E.F k) (by omega) hfr,b1c,hf]
   rw [e,show ((q:Nat):Int)=(E.F k:Int) - n by omega] at ch
   conv=>whnf
   repeat' (first|refine zx ?_|refine qp ng ?_|refine M7 rfl hlt ?_|refine a4S rfl hlt ?_|refine .inr ⟨_,_,ch,?_⟩|refine zd ?_ ?_<;>intro h<;>try omega|fail)<;>conv=>whnf
   all_goals first
    |omega
    |exact ⟨hlt,trivial,[some 0],rfl,rfl,⟨d7 (c6 _),trivial⟩,⟨rfl,⟨rfl,rfl,rfl,fun h=>h⟩,rfl,rfl,b8 (by omega),trivial⟩⟩
 ·have hke:k=n:=by omega
  subst hke
  conv=>whnf
  repeat' (first|refine zx ?_|refine zd ?_ ?_<;>intro h<;>try omega|fail)<;>conv=>whnf
  all_goals first
   |omega
   |exact ⟨[some 0],rfl,rfl,⟨d7 (c6 _),trivial⟩,⟨rfl,rfl,rfl,fun h=>h⟩⟩
def a7N (ρ:List (Option Nat)) (H:Hp):Env->Env->Prop
 |[],[]=>True
 |s::r,s'::r'=>match s' with
  |.junk=>a7N ρ H r r'
  |s'=>(a4z ρ H s s'∨VYS H (fun id=>E4 ρ id=true) s s')∧a7N ρ H r r'
 |_,_=>False
theorem a7N.rel {ρ:List (Option Nat)} {H:Hp}:∀{env env':Env},a7N ρ H env env'->env.length=env'.length∧∀(t:Nat) (s':S),env'[t]? =some s'->∃s,env[t]? =some s∧(a4z ρ H s s'∨VYS H (fun id=>E4 ρ id=true) s s')
 |[],[],_=>⟨rfl,by simp⟩
 |s::r,s'::r',h=>by
  have h':(a4z ρ H s s'∨VYS H (fun id=>E4 ρ id=true) s s')∧a7N ρ H r r':=by
   cases s' with
   |junk=>exact ⟨.inl trivial,h⟩
   |_=>exact h
  obtain ⟨h1,h2⟩:=a7N.rel h'.2
  refine ⟨by simp [h1],fun t s'' ht=>?_⟩
  cases t with
  |zero=>simp at ht;subst ht;exact ⟨s,rfl,h'.1⟩
  |succ t=>simpa using h2 t s'' (by simpa using ht)
 |[],_::_,h=>h.elim
 |_::_,[],h=>h.elim
structure b6E (n0:Nat) (ρ:List (Option Nat)) (env:Env) (H:Hp) (env':Env) (H':Hp):Prop where
 k:a2d ρ n0=true
 n:S3 ρ H'=true
 h:a4a ρ H ρ H'
 e:a7N ρ H env env'
theorem b6E.sim {n0:Nat} {ρ:List (Option Nat)} {env env':Env} {H H':Hp} (h:b6E n0 ρ env H env' H') {w0:World} {ι0:Io} {M0:Ms} {H0:Hp} {a:Act} {w:World} (hn:H0.length=n0) (hM0:MB w0 M0)
 (hs:Sim w0 ι0 M0 H0 a w env H):Sim w0 ι0 M0 H0 a w env' H':=by
 obtain ⟨h1,h2,h3,h4⟩:=h
 obtain ⟨ι,M,hd,hsz,he,hH,hM,hF,hst⟩:=hs
 obtain ⟨hel,heg⟩:=a7N.rel h4
 obtain ⟨q1,q2,q3⟩:=a4a.all h1 h2 h3 hn hM0 hH hst
 refine ⟨P6 ρ ι,_,hd,by omega,fun t s' ht=>?_,q1,fun b hb=>hM b hb.1,q2,q3⟩
 obtain ⟨s,r1,r2⟩:=heg t s' ht
 rcases r2 with r2|r2
 ·exact r2.rs hH (he t s r1)
 ·refine r2.rs hH (fun b hb=>hb.1) ?_ (he t s r1)
  intro id k b cap size hp hk hd hi hb
  exact hb.2 ⟨id,k,cap,size,hp,hk,hd,hi⟩
theorem ah9 {P:Program} {τ:Tab} (hτ:A8 P τ) {n0:Nat} {x y:Code} {env:Env} {H:Hp} {Q:AX->Env->Hp->Prop} (E2:Env) (H2:Hp)
 (h:a4T P τ n0 x env H fun a env' H'=>match a with
   |.normal=>∃ρ,b6E n0 ρ env' H' E2 H2
   |a=>Q a env' H') (h2:Awp P n0 y E2 H2 Q):Awp P n0 (.seq x y) env H Q:=by
 refine ⟨fun w0 ι0 M0 H0 a w hn hM hs=>?_⟩
 refine wp_seq (wp_mono ((z6 hτ x h).out w0 ι0 M0 H0 a w hn hM hs) ?_)
 rintro e a' w' ⟨x,env',H',rfl,hq,hs'⟩
 cases x with
 |normal=>obtain ⟨ρ,he⟩:=hq;exact h2.out w0 ι0 M0 H0 a' w' hn hM (he.sim hn hM hs')
 |exit id=>exact ⟨_,env',H',rfl,hq,hs'⟩
 |ret=>exact ⟨_,env',H',rfl,hq,hs'⟩
theorem b37 {P:Program} {n0:Nat} {c:Operand} {t e:Code} {env:Env} {H:Hp} {Q:AX->Env->Hp->Prop} {b:Bool} (hb:F5 env c=e8 b) (h:Awp P n0 (cond b t e) env H Q):Awp P n0 (.cond c t e) env H Q:=by
 refine ⟨fun w0 ι0 M0 H0 a w hn hM hs=>?_⟩
 have hs0:=hs
 obtain ⟨ι,M,hd,hsz,he,hH,hMB,hF,hst⟩:=hs
 have hv:=(he.ev.to hb).inv_atm
 refine wp_cond hv ?_
 cases b with
 |true=>exact h.out w0 ι0 M0 H0 a w hn hM hs0
 |false=>exact h.out w0 ι0 M0 H0 a w hn hM hs0
theorem b46 {m n:Nat} {fr:List (Nat × Bool)} {D:Fd} {X:Hp} {p:Nat->Prop} (hp:∀i,i<m+6->p i):VY (K8 m n fr D.V D.G D.O D.F D.A X) p (.own 1 0 m true) (.sl 5 .any (a9s m n D)):=by
 refine b3U (k:=a0Z 6 m n D.V) (hp _ (by omega)) rfl (fun h=>h) rfl (a5W m n D) ?_ ?_
 ·intro r hr
  obtain ⟨i,_,rfl⟩:=lbx.1 hr
  rfl
 ·intro i r hi
  have him:i<m:=by have:=(lbe.1 hi).1;rwa [a5W] at this
  rw [a8w him] at hi
  injection hi with hi
  subst hi
  refine ⟨_,a3j him,?_⟩
  show VYL _ _ ((t6 (fz (D.V i))).map C.t++[C.own (i+6) 0 n true]) _
  have hv:VY (K8 m n fr D.V D.G D.O D.F D.A X) p (C.own (i+6) 0 n true) (T.sl 4 .any ((rF n (D.A i)).map t6)):=
   .vc (u4 (k:=flB (rF n (D.A i))) (hp _ (by omega)) (K6 (Q9 him)) (fun h=>h) rfl rfl (by simp [O8]))
  exact aG7 (ys:=[C.own (i+6) 0 n true]) (us:=[T.sl 4 .any ((rF n (D.A i)).map t6)]) (show _∧True from ⟨hv,trivial⟩)
theorem az5 {m n:Nat} {fr:List (Nat × Bool)} {D:Fd} {X:Hp} {p:Nat->Prop} (hp:∀i,i<m+6->p i):VY (K8 m n fr D.V D.G D.O D.F D.A X) p (.ptr 0 0 0) (.ptr (b83 m n fr D)):=by
 refine ak2 (k:=b02 m n fr.length) (hp _ (by omega)) rfl (fun h=>h) rfl ⟨b2t,b46 hp,?_,?_,?_,?_,trivial⟩
 ·exact .vc (u4 (k:=flB (rF n D.G)) (hp _ (by omega)) rfl (fun h=>h) rfl rfl (by simp [O8]))
 ·exact .vc (u4 (k:=Z9 m D.O) (hp _ (by omega)) rfl (fun h=>h) rfl rfl (by simp [x3]))
 ·exact .vc (u4 (k:=Z9 n D.F) (hp _ (by omega)) rfl (fun h=>h) rfl rfl (by simp [x3]))
 ·exact .vc (u4 (k:=a1X fr) (hp _ (by omega)) rfl (fun h=>h) rfl rfl (by simp [a0p]))
abbrev bc4 (m n k:Nat):Blk:={ mode:=.live,elem:=256,size:=6,rows:=[[C.t (ti n),.own 2 0 m true,.own 3 0 n true,.own 4 0 m true,.own 5 0 n true,.own 6 0 k true]],box:=true }
abbrev b9l (m n:Nat) (fr:List (Nat × Bool)) (D:Fd) (b:Blk):Hp:=
 b::bc4 m n fr.length::a0Z 7 m n D.V::flB (rF n D.G)::Z9 m D.O::Z9 n D.F::a1X fr::(mF m n D.A).map flB
theorem b7f {N i:Nat} (h:i<N):(a4w [] 1 N).getD i 0=i+1:=by
 unfold a4w
 rw [List.nil_append,lbl,lba,lbh h]
 show 1+i=i+1
 omega
theorem b91 {σ:List Nat} (ts:List T) (l:List C):a21 σ (ts.map C.t++l)=ts.map C.t++a21 σ l:=by
 rw [M6,M6,lbC,List.map_map]
 congr 1
theorem aG8 {s:g4} {g:List (Int × Rat)} {n:Nat} (b:Blk) (h:a9 Tryz.prog 199 [a3c s,s7 g] [] (.c (.ptr 0 0 0)) (a0d (f5 s).length n (f5 s) (g7 s g))):
 a9 Tryz.prog 199 [a3c s,s7 g] [b] (.c (.ptr 1 0 0)) (b9l (f5 s).length n (f5 s) (g7 s g) b):=by
 have hlen:(a0d (f5 s).length n (f5 s) (g7 s g)).length=(f5 s).length+6:=a3b
 have hl:∀k ∈ a0d (f5 s).length n (f5 s) (g7 s g),k.mode=.live:=by
  intro k hk
  simp only [lbA] at hk
  rcases hk with rfl|rfl|rfl|rfl|rfl|rfl|hk
  ·rfl
  ·rfl
  ·rfl
  ·rfl
  ·rfl
  ·rfl
  ·obtain ⟨l,_,rfl⟩:=lbx.1 hk;rfl
 have hsub:(a0d (f5 s).length n (f5 s) (g7 s g)).length - ([]:Hp).length=(f5 s).length+6:=by rw [hlen];simp
 have g1:∀i,i<(f5 s).length+6->(a4w [] ([b]:Hp).length ((a0d (f5 s).length n (f5 s) (g7 s g)).length - ([]:Hp).length)).getD i 0=i+1:=fun i hi=>by
  rw [hsub];exact b7f hi
 refine O6 [] h rfl rfl rfl List.nodup_nil (by simp) (fun k hk=>by rw [hl k hk];intro h;cases h) (by simp) rfl ?_ (by rw [hsub];simp [b7];omega) ?_ ?_
 ·show S.c (.ptr 1 0 0)=S.c (.ptr _ 0 0)
  rw [g1 0 (by omega)]
 ·intro i k hk
  have hi:i<(f5 s).length+6:=by rw [← hlen];exact (lbe.1 hk).1
  rw [g1 i hi]
  rcases i with _|_|_|_|_|_|i
  ·injection hk with hk;subst hk
   refine ⟨_,rfl,rfl,rfl,rfl,rfl,?_⟩
   simp only [a8C,List.map_cons,List.map_nil,a21,a01]
   rw [g1 1 (by omega),g1 2 (by omega),g1 3 (by omega),g1 4 (by omega),g1 5 (by omega)]
  ·injection hk with hk;subst hk
   refine ⟨_,rfl,rfl,rfl,rfl,rfl,?_⟩
   unfold a8C
   show T4 7 _ _ _=(T4 6 _ _ _).map _
   unfold T4
   rw [List.map_map]
   refine lbp fun j hj=>?_
   have hj:=lbB.1 hj
   show _=a21 _ ((t6 (fz ((g7 s g).V j))).map C.t++[C.own (j+6) 0 n true])
   rw [b91]
   simp only [a21,a01]
   rw [g1 (j+6) (by omega)]
   rfl
  ·injection hk with hk;subst hk;exact ⟨_,rfl,C0 rfl⟩
  ·injection hk with hk;subst hk;exact ⟨_,rfl,C0 rfl⟩
  ·injection hk with hk;subst hk;exact ⟨_,rfl,C0 rfl⟩
  ·injection hk with hk;subst hk;exact ⟨_,rfl,C0 rfl⟩
  ·have hk:((mF (f5 s).length n (g7 s g).A).map flB)[i]? =some k:=hk
   refine ⟨k,hk,?_⟩
   obtain ⟨l,_,rfl⟩:=lbx.1 (lbm hk)
   exact C0 rfl
 ·intro j hj _
  have:j=0:=by simpa using hj
  subst this;rfl
def fS (m:Nat):Nat->Nat:=fun i=>if i<m+6 then i+1 else 0
theorem ab7 {m n:Nat} {fr:List (Nat × Bool)} {D:Fd} {b:Blk} {env env':Env} {H:Hp} (hb:I9 b.rows) (hH:H=b9l m n fr D b) (hE:a14 (fR (m+7) (fS m)) H env env'):
 Ent 0 (fR (m+7) (fS m)) env H env' (K8 m n fr D.V D.G D.O D.F D.A [b]):=by
 subst hH
 have fa:∀i,i<m+6->fS m i=i+1:=fun i hi=>by unfold fS;rw [if_pos hi]
 refine aZ9 (by simp [b7]) (by omega) (fun i hi=>by omega) (fun i j hi hj h=>by unfold fS at h;(repeat' split at h)<;>omega) ?_ hE
 intro i k' hk
 rcases i with _|_|_|_|_|_|i
 ·injection hk with hk;subst hk
  rw [fa 0 (by omega)]
  exact ⟨_,rfl,rfl,rfl,rfl,.inr ⟨⟨rfl,⟨by rw [z4 (by omega),fa _ (by omega)],rfl,rfl,fun h=>h⟩,⟨by rw [z4 (by omega),fa _ (by omega)],rfl,rfl,fun h=>h⟩,⟨by rw [z4 (by omega),fa _ (by omega)],rfl,rfl,fun h=>h⟩,⟨by rw [z4 (by omega),fa _ (by omega)],rfl,rfl,fun h=>h⟩,⟨by rw [z4 (by omega),fa _ (by omega)],rfl,rfl,fun h=>h⟩,trivial⟩,trivial⟩⟩
 ·injection hk with hk;subst hk
  rw [fa 1 (by omega)]
  refine ⟨_,rfl,a1S (h:=fun i=>i+7) (h':=fun i=>i+6) fun j hj=>?_⟩
  rw [z4 (by omega),fa _ (by omega)]
 ·injection hk with hk;subst hk;rw [fa 2 (by omega)];exact ⟨_,rfl,d7 (c6 _)⟩
 ·injection hk with hk;subst hk;rw [fa 3 (by omega)];exact ⟨_,rfl,d7 (c6 _)⟩
 ·injection hk with hk;subst hk;rw [fa 4 (by omega)];exact ⟨_,rfl,d7 (c6 _)⟩
 ·injection hk with hk;subst hk;rw [fa 5 (by omega)];exact ⟨_,rfl,d7 (c6 _)⟩
 ·have hk:((mF m n D.A).map flB++[b])[i]? =some k':=hk
  by_cases hi:i<m
  ·rw [K6 (Q9 hi)] at hk
   injection hk with hk;subst hk
   rw [fa _ (by omega)]
   refine ⟨flB (rF n (D.A i)),?_,d7 (c6 _)⟩
   show ((mF m n D.A).map flB)[i]? =_
   rw [lba,Q9 hi];rfl
  ·obtain ⟨t,rfl⟩:∃t,i=m+t:=⟨i - m,by omega⟩
   rw [a2b (b7 _ _ _)] at hk
   rcases t with _|t
   ·injection hk with hk;subst hk
    have:fS m (m+0+6)=0:=by unfold fS;rw [if_neg (by omega)]
    rw [this]
    exact ⟨_,rfl,d7 hb⟩
   ·simp at hk
theorem a8a {m n:Nat} {fr:List (Nat × Bool)} {D E:Fd} {r:S} (X:Hp) (hr:aS8 r=true) (hr':r.isT=true) (h:a9 Tryz.prog 200 [.c (.ptr 0 0 0)] (a0d m n fr D) r (a0d m n fr E)):
 a9 Tryz.prog 200 [.c (.ptr 0 0 0)] (K8 m n fr D.V D.G D.O D.F D.A X) r (K8 m n fr E.V E.G E.O E.F E.A X):=by
 have hl:∀{D:Fd},∀k ∈ a0d m n fr D,k.mode=.live∧k.app=false:=by
  intro D k hk
  simp only [lbA] at hk
  rcases hk with rfl|rfl|rfl|rfl|rfl|rfl|hk
  ·exact ⟨rfl,rfl⟩
  ·exact ⟨rfl,rfl⟩
  ·exact ⟨rfl,rfl⟩
  ·exact ⟨rfl,rfl⟩
  ·exact ⟨rfl,rfl⟩
  ·exact ⟨rfl,rfl⟩
  ·obtain ⟨l,_,rfl⟩:=lbx.1 hk
   exact ⟨rfl,rfl⟩
 exact a96 (n:=m+6) X h a3b a3b (by simp [okS,okC,Nat.blt_eq]) (fun k hk=>⟨(hl k hk).1,(hl k hk).2,a7p k hk⟩) (fun k hk=>⟨(by rw [(hl k hk).1];intro h;cases h),a7p k hk⟩) hr hr'
theorem b6t (l:List (Int × Rat)) (z:List Rat) (hl:l.length<=1000000) (h1:∀t ∈ l,rl t.2<=20000) (h2:∀v ∈ z,rl v<=40000) (hS:∀k,rl (p4 (l.take k) z)<=60000) (hz:z.length<=1000000) (hr:f9 (-1) z.length l=true):
 a9 Tryz.prog 110 [s7 l,t4 (z.map fz)] [] (frS (fz (p4 l z))) []:=by
 have m1:(l.map k5).length=l.length:=by simp
 have m2:((z.map fz).map t6).length=z.length:=by simp
 have i0:=N4 0 (by decide) (by decide)
 (refine ac Tryz.func110 ?_;(conv=>whnf);repeat ((first|refine b0x ?_|refine zy ?_);conv=>whnf))
 repeat' (first|refine zx ?_|refine qp i0 ?_|refine zd ?_ ?_<;>intro h<;>try omega|fail)<;>conv=>whnf
 refine d8 c8 (fun k=>([J,t4 (z.map fz),J,J,S.c (C.ptr 0 0 0),S.c (C.ptr 1 0 0),J,J,J,J,J,s7 l,a7 .i64 l.length,a7 .i64 k]++Jn 22,[frB U6,frB (fz (p4 (l.take k) z))])) l.length (fun _=>True) [some 0,some 1] trivial
  ⟨rfl,rfl,⟨⟨rfl,rfl,rfl,.inr ⟨⟨rfl,rfl,rfl,rfl,trivial⟩,trivial⟩⟩,⟨rfl,rfl,rfl,.inl ⟨rfl,N9 _⟩⟩,trivial⟩,⟨rfl,⟨rfl,rfl,rfl⟩,⟨rfl,rfl,rfl⟩,rfl,b8 (by simp),rfl,trivial⟩⟩ ?_
 intro k hk _
 by_cases hlt:k<l.length
 ·obtain ⟨t,ht⟩:∃t,l[k]? =some t:=⟨_,lbf hlt⟩
  obtain ⟨v,c⟩:=t
  have hv:=a8T hr _ (lbm ht)
  simp only at hv
  have bc:=h1 _ (lbm ht)
  simp only at bc
  obtain ⟨x,hx⟩:∃x,z[v.toNat]? =some x:=⟨_,lbf (by omega)⟩
  have hxd:z.getD v.toNat 0=x:=by rw [lbl,hx];rfl
  have bx:=h2 x (lbm hx)
  have b3:=a45 c x
  have bs:=hS k
  have mu:=al6 c x (by omega) (by omega)
  have ad:=a3Z (p4 (l.take k) z) (c*x) (by omega) (by omega)
  have e:p4 (l.take k) z+c*x=p4 (l.take (k+1)) z:=by
   have:l.take (k+1)=l.take k++[(v,c)]:=by rw [lbG,ht];rfl
   rw [this,T7,←hxd]
  rw [e] at ad
  have xz:(z.map fz)[v.toNat]? =some (fz x):=by rw [lba,hx];rfl
  conv=>whnf
  repeat' (first|refine zx ?_|refine qp mu ?_|refine qp ad ?_|refine qp 10 ?_|refine qp 5 ?_|refine b9 ht ?_|refine v6 (by omega) xz ?_|refine bl0 [10] ?_|refine bl0 [5] ?_|refine zd ?_ ?_<;>intro h<;>try omega|fail)<;>conv=>whnf
  all_goals first
   |omega
   |exact ⟨hlt,trivial,[some 0,some 1],rfl,rfl,⟨⟨rfl,rfl,rfl,.inl ⟨rfl,N9 _⟩⟩,⟨rfl,rfl,rfl,.inl ⟨rfl,N9 _⟩⟩,trivial⟩,⟨rfl,⟨rfl,rfl,rfl⟩,⟨rfl,rfl,rfl⟩,rfl,rfl,rfl,trivial⟩⟩
 ·have hke:k=l.length:=by omega
  subst hke
  rw [lbn (lbR _)]
  conv=>whnf
  repeat' (first|refine zx ?_|refine zd ?_ ?_<;>intro h<;>try omega|fail)<;>conv=>whnf
  all_goals first
   |omega
   |exact aN3 rfl
theorem a8m (z:List Rat):(z.map fz).all N5=true:=by
 rw [lbv];intro f hf
 obtain ⟨x,_,rfl⟩:=lbx.1 hf
 exact ad8 x
theorem aN4 (l:List (Int × Rat)) (z:List Rat) (hl:l.length<=1000000) (h1:∀t ∈ l,rl t.2<=200) (h2:∀v ∈ z,rl v<=40000) (hS:∀k,rl (p4 (l.take k) z)<=60000) (hz:z.length<=1000000) (hr:f9 (-1) z.length l=true):
 a9 Tryz.prog 158 [s7 l,t4 (z.map fz)] [] (.tup [frS (fz (p4 l z)),e8 true]) []:=by
 have m2:((z.map fz).map t6).length=z.length:=by simp
 have rt:=P4 l z.length hl h1
 rw [lbH (by omega),hr] at rt
 have pt:=b6v (z.map fz) (by simpa using hz) (fun f hf=>by
  obtain ⟨x,hx,rfl⟩:=lbx.1 hf
  have:=h2 x hx
  have a:=G9 x
  have b:=I0 x
  exact ⟨by show bl x.num<=_;omega,by show bl x.den<=_;omega⟩)
 rw [a8m] at pt
 have va:=b6t l z hl (fun t ht=>by have:=h1 t ht;omega) h2 hS hz hr
 have rt2:a9 Tryz.prog 161 [s7 l,a7 .i64 (((z.map fz).map t6).length:Nat)] [] (e8 (true && true)) []:=by rw [m2];exact rt
 (refine ac Tryz.func158 ?_;(conv=>whnf);repeat ((first|refine b0x ?_|refine zy ?_);conv=>whnf))
 repeat' (first|refine zx ?_|refine qp rt2 ?_|refine qp pt ?_|refine qp va ?_|refine zd ?_ ?_<;>intro h<;>try omega|fail)<;>conv=>whnf
 all_goals first
  |(exfalso;simp_all;done)
  |exact k9 ⟨⟨rfl,rfl,rfl,rfl,trivial⟩,rfl,trivial⟩
structure J4 (s:g4) (g:List (Int × Rat)) (n B:Nat):Prop where
 o:b8O s g n
 sb:aL2 s
 gb:∀t ∈ g,rl t.2<=200
 bd:∀D,X5 (f5 s).length n (g7 s g) D->BdD (f5 s).length n B D
 b1:1<=B
 bn:(n+3)*(B+2)<=50000
 r:s.rows.length<=1000
theorem J4.nn {s:g4} {g:List (Int × Rat)} {n B:Nat} (h:J4 s g n B):s.n.toNat=n:=by have:=h.o.en;omega
theorem J4.bb {s:g4} {g:List (Int × Rat)} {n B:Nat} (h:J4 s g n B):B<=17000:=by
 have h1:=h.bn
 have:(n+3)*(B+2)=n*(B+2)+3*(B+2):=by rw [Nat.add_mul]
 omega
theorem J4.m {s:g4} {g:List (Int × Rat)} {n B:Nat} (h:J4 s g n B):(f5 s).length<=2000:=by
 have:=a5z (s:=s) s.rows.length
 have:=h.r
 show (J9 s s.rows.length).length<=_
 omega
abbrev bO (cells:List C):Blk:={ mode:=.live,elem:=168,size:=8,rows:=[cells],box:=true }
abbrev z8:List C:=[.t (ti 0),.t (ti 0),.t (.sl 0 .nil []),.t (ti 0),.t (.sl 0 .nil []),.t (.sl 0 .nil []),.t (.sl 0 .nil []),.t (.sl 0 .nil [])]
theorem b2I:I9 (bO z8).rows:=c6 [[ti 0,ti 0,.sl 0 .nil [],ti 0,.sl 0 .nil [],.sl 0 .nil [],.sl 0 .nil [],.sl 0 .nil []]]
theorem a3X {s:g4} {g:List (Int × Rat)} {n B:Nat} (h:J4 s g n B):
 a9 Tryz.prog 200 [.c (.ptr 0 0 0)] (a0d (f5 s).length n (f5 s) (g7 s g)) (.tup [a7 .i64 (b0P (a1d s g)).1,a7 .i64 (b0P (a1d s g)).2]) (a0d (f5 s).length n (f5 s) (y3 s g)):=by
 have hn:=h.nn
 subst hn
 have hm:=h.m
 exact b3S _ _ (f5 s) (g7 s g) _ (by omega) h.o.n1 a3n (fun D hD=>by
  have hb:=h.bd D hD
  have hB:=h.bb
  exact ⟨fun i hi=>by have:=hb.v i hi;omega,fun i hi j hj=>by have:=hb.a i hi j hj;omega,fun j hj=>by have:=hb.g j hj;omega⟩)
theorem aj0 {s:g4} {g:List (Int × Rat)} {n B:Nat} (h:J4 s g n B):(A6 s g).length=n:=by unfold A6;rw [U4];exact h.nn
theorem a92 {s:g4} {g:List (Int × Rat)} {n B:Nat} (h:J4 s g n B):a9 Tryz.prog 201 [dT (f5 s).length n (f5 s) (y3 s g)] [] (t4 ((A6 s g).map fz)) []:=by
 have hn:=h.nn
 subst hn
 exact b52 _ _ _ _ S1.p (by have:=h.m;omega) h.o.n1
theorem af0 {s:g4} {g:List (Int × Rat)} {n B:Nat} (h:J4 s g n B):BdD (f5 s).length n B (y3 s g):=by
 have hn:=h.nn
 subst hn
 exact h.bd _ (a4X a3n).1
theorem aA9 {s:g4} {g:List (Int × Rat)} {n B:Nat} (h:J4 s g n B) (H:Hp):Z5 Tryz.prog 204 [dT (f5 s).length n (f5 s) (y3 s g),a7 .i64 s.rows.length] H (.c (.own H.length 0 s.rows.length true)) [flB (rF s.rows.length (R6 s (y3 s g)))]:=by
 have hb:=af0 h
 have hp:a0n (f5 s).length n (y3 s g):=by have hn:=h.nn;subst hn;exact S1.p
 refine a5J (b4u s n h.o.en (y3 s g) hp B hb.g h.b1 ?_ (by have:=h.m;omega) h.r h.o.n1) rfl rfl (c6 _)
 have:=h.bn
 have:(n+3)*(B+2)=(n+2)*(B+2)+(B+2):=by rw [show n+3=(n+2)+1 by omega,lbV]
 omega
theorem a8s {i m:Nat} (h:i<m):E4 [some m] i=true:=by
 unfold E4
 have:Nat.beq m i=false:=by
  cases hb:Nat.beq m i with
  |false=>rfl
  |true=>have:=Nat.eq_of_beq_eq_true hb;omega
 rw [this];rfl
theorem aW5 {m n:Nat} {fr:List (Nat × Bool)} {D:Fd} {env env':Env} (b:Blk) (hb:I9 b.rows) (hE:a7N [some (m+6)] (K8 m n fr D.V D.G D.O D.F D.A [b]) env env'):b6E 0 [some (m+6)] env (K8 m n fr D.V D.G D.O D.F D.A [b]) env' [b]:=by
 refine ⟨rfl,?_,a5B rfl fun i k' hk=>?_,hE⟩
 ·simp only [S3,a50];cases b.mode<;>rfl
 ·rcases i with _|i
  ·injection hk with hk;subst hk
   exact ⟨m+6,_,rfl,a2b (t:=0) (b7 _ _ _),d7 hb⟩
  ·simp at hk
theorem aF4 (s:g4) (g:List (Int × Rat)) (n B:Nat) (h:J4 s g n B) (hout:a1d s g=.best) (hS:∀k,rl (p4 (g.take k) (A6 s g))<=60000) (hpt:∀v ∈ A6 s g,rl v<=40000):
 a9 Tryz.prog 130 [a3c s,s7 g] [] (.tup [.agg (C.t (ti 0)::frC (fz (p4 g (A6 s g)))++[.t (D7 ((A6 s g).map fz)),.own 0 0 s.rows.length true,.t (.sl 0 .nil [])]),a7 .i64 0]) [flB (rF s.rows.length (R6 s (y3 s g)))]:=by
 have hn:=h.nn
 have hm:=h.m
 have hr1:=h.r
 have hgl:=C8 h.o.tg
 have hn1:=h.o.n1
 have lr:=aI0 s h.sb
 rw [h.o.r] at lr
 have rt:=P4 g s.n (by have:=h.o.n1;omega) h.gb
 rw [h.o.en,lbH (by omega),h.o.tg,←h.o.en] at rt
 have op:=aG8 (bO z8) (b0p s g n h.o)
 have se:=a3X h
 rw [hout] at se
 have m1:(s.rows.map y4).length=s.rows.length:=by simp
 have pt:=a92 h
 have va:=aN4 g (A6 s g) (by omega) h.gb hpt hS (by rw [aj0 h];omega) (by rw [aj0 h];exact h.o.tg)
 have pr:∀H:Hp,Z5 Tryz.prog 204 [dT (f5 s).length n (f5 s) (y3 s g),a7 .i64 ((s.rows.map y4).length:Nat)] H (.c (.own H.length 0 s.rows.length true)) [flB (rF s.rows.length (R6 s (y3 s g)))]:=by rw [m1];exact aA9 h
 (refine aw1 c8 Tryz.func130 rfl (by decide) ?_;refine R4 c8 ?_;(conv=>whnf);repeat ((first|refine b0x ?_|refine zy ?_);conv=>whnf))
 repeat' (first|refine zz ?_|refine b0x ?_|refine zd ?_ ?_<;>intro h<;>try omega|refine zy ?_|fail)<;>conv=>whnf
 (refine R4 c8 ?_;conv=>whnf)
 repeat' (first|refine zx ?_|refine qp lr ?_|refine qp rt ?_|refine zd ?_ ?_<;>intro h<;>try omega|fail)<;>conv=>whnf
 all_goals try (exfalso;simp_all;done)
 refine a2H c8 ([J,s7 g,S.c (C.t (T.ptr (an9 s))),J,S.c (C.ptr ((f5 s).length+6) 0 0),a7 .i64 0,S.c (C.ptr 0 0 0)]++Jn 71) (K8 (f5 s).length n (f5 s) (g7 s g).V (g7 s g).G (g7 s g).O (g7 s g).F (g7 s g).A [bO z8]) ?_ ?_
 ·conv=>whnf
  repeat' (first|refine zx ?_|refine .inr ⟨_,_,op,?_⟩|refine G3 ?_|refine zd ?_ ?_<;>intro h<;>try omega|fail)<;>conv=>whnf
  exact ⟨_,ab7 b2I rfl ⟨rfl,g6 rfl,⟨by rw [z4 (by omega)];simp [fS],rfl,rfl⟩,rfl,⟨by rw [z4 (by omega)];simp [fS],rfl,rfl⟩,trivial⟩⟩
 refine ah9 c8 ([J,s7 g,S.c (C.t (T.ptr (an9 s))),J,S.c (C.ptr 0 0 0),a7 .i64 0,dT (f5 s).length n (f5 s) (y3 s g),a7 .i64 (-1),a7 .i64 (-1)]++Jn 69) [bO z8] ?_ ?_
 ·have si:=a8a [bO z8] rfl rfl se
  conv=>whnf
  repeat' (first|refine zx ?_|refine qp 4 ?_|refine .inr ⟨_,_,si,?_⟩|refine k7 ?_|refine bl0 [4] ?_|refine zd ?_ ?_<;>intro h<;>try omega|fail)<;>conv=>whnf
  exact ⟨_,aW5 (bO z8) b2I ⟨.inl (g6 rfl),.inl (g6 rfl),.inl ⟨rfl,rfl,rfl⟩,.inl rfl,.inr (az5 fun i hi=>a8s hi),.inl rfl,.inl rfl,trivial⟩⟩
 (refine R4 c8 ?_;conv=>whnf)
 repeat' (first|refine zx ?_|refine zd ?_ ?_<;>intro h<;>try omega|fail)<;>conv=>whnf
 all_goals try omega
 (refine R4 c8 ?_;conv=>whnf)
 repeat' (first|refine zx ?_|refine zd ?_ ?_<;>intro h<;>try omega|fail)<;>conv=>whnf
 all_goals try omega
 (refine R4 c8 ?_;conv=>whnf)
 repeat' (first|refine zx ?_|refine qp pt ?_|refine zd ?_ ?_<;>intro h<;>try omega|fail)<;>conv=>whnf
 (refine R4 c8 ?_;conv=>whnf)
 repeat' (first|refine zx ?_|refine qp va ?_|refine qp 4 ?_|refine qp 5 ?_|refine bl0 [4] ?_|refine bl0 [5] ?_|refine zd ?_ ?_<;>intro h<;>try omega|fail)<;>conv=>whnf
 (refine R4 c8 ?_;conv=>whnf)
 repeat' (first|refine zx ?_|refine .inl ⟨_,_,pr _,?_⟩|refine zd ?_ ?_<;>intro h<;>try omega|fail)<;>conv=>whnf
 refine z6 c8 _ ?_
 conv=>whnf
 repeat' (first|refine zx ?_|refine zd ?_ ?_<;>intro h<;>try omega|fail)<;>conv=>whnf
 exact ⟨[some 2],rfl,rfl,⟨d7 (c6 _),trivial⟩,⟨⟨rfl,rfl,rfl,rfl,rfl,rfl,⟨rfl,rfl,rfl,fun h=>h⟩,rfl,trivial⟩,rfl,trivial⟩⟩
theorem am4 {P:Program} {g:FuncId} {args args':List S} {H H':Hp} {r:S} (h:a9 P g args' H r H') (hl:args.length=args'.length)
 (hw:∀(w:World) (ι:Io) (M:Ms) (j:Nat) (s s':S) (v:Value),args[j]? =some s->args'[j]? =some s'->RS w ι M s v->RS w ι M s' v):a9 P g args H r H':=by
 refine ⟨h.1,fun w ι M vals hl2 hv hH hM hf=>h.2 w ι M vals (by omega) (fun j s' hj=>?_) hH hM hf⟩
 have hlt:=(lbe.1 hj).1
 exact hw w ι M j _ s' _ (lbf (by omega)) hj (hv j _ (lbf (by omega)))
theorem b5Q {s:g4} {n:Nat} (b:Blk) (h:a9 Tryz.prog 199 [a3c s,s7 []] [] (.c (.ptr 0 0 0)) (a0d (f5 s).length n (f5 s) (g7 s []))):
 a9 Tryz.prog 199 [a3c s,.c (.t (.sl 0 .nil []))] [b] (.c (.ptr 1 0 0)) (b9l (f5 s).length n (f5 s) (g7 s []) b):=by
 refine am4 (aG8 b h) rfl fun w ι M j x y v hx hy hr=>?_
 rcases j with _|_|j
 ·injection hx with hx;injection hy with hy;subst hx hy;exact hr
 ·injection hx with hx;injection hy with hy;subst hx hy
  cases hr with
  |c hr=>cases hr with
   |t hr=>exact .c (.t (hr.weak rfl))
 ·simp at hx
theorem b2G {s:g4} {g:List (Int × Rat)} {n B c:Nat} (h:J4 s g n B) (hc:c<n):a9 Tryz.prog 202 [dT (f5 s).length n (f5 s) (y3 s g),a7 .i64 c] [] (t4 ((a61 s g c).map fz)) []:=by
 have hb:=af0 h
 have hB:=h.bb
 have hn:=h.nn
 subst hn
 exact ba9 _ _ _ _ c hc S1.p (by have:=h.m;omega) h.o.n1 (fun i hi=>by have:=hb.a i hi c hc;omega)
abbrev bh4:List C:=frC U6
theorem b3v {P:Program} {n0:Nat} {c:Operand} {t e:Code} {env:Env} {H:Hp} {Q:AX->Env->Hp->Prop} (hb:F5 env c=e8 true) (h:Awp P n0 t env H Q):Awp P n0 (.cond c t e) env H Q:=b37 hb h
theorem aA6 (s:g4) (g:List (Int × Rat)) (n B B0 c:Nat) (h:J4 s g n B) (h0:J4 s [] n B0) (hout:a1d s g=.col c) (hout0:a1d s []=.best):
 a9 Tryz.prog 130 [a3c s,s7 g] [] (.tup [.agg (C.t (ti 2)::bh4++[.t (D7 ((A6 s []).map fz)),.t (.sl 0 .nil []),.t (D7 ((a61 s g c).map fz))]),a7 .i64 0]) []:=by
 have hn:=h.nn
 have hm:=h.m
 have hr1:=h.r
 have hgl:=C8 h.o.tg
 have hn1:=h.o.n1
 have hcn:c<n:=by have:=(a7d hout).1;omega
 have lr:=aI0 s h.sb
 rw [h.o.r] at lr
 have rt:=P4 g s.n (by have:=h.o.n1;omega) h.gb
 rw [h.o.en,lbH (by omega),h.o.tg,←h.o.en] at rt
 have op:=aG8 (bO z8) (b0p s g n h.o)
 have se:=a3X h
 rw [hout] at se
 have op0:=b5Q (bO z8) (b0p s [] n h0.o)
 have se0:=a3X h0
 rw [hout0] at se0
 have m1:(s.rows.map y4).length=s.rows.length:=by simp
 have pt:=a92 h0
 have ra:=b2G h hcn
 (refine aw1 c8 Tryz.func130 rfl (by decide) ?_;refine R4 c8 ?_;(conv=>whnf);repeat ((first|refine b0x ?_|refine zy ?_);conv=>whnf))
 repeat' (first|refine zz ?_|refine b0x ?_|refine zd ?_ ?_<;>intro h<;>try omega|refine zy ?_|fail)<;>conv=>whnf
 (refine R4 c8 ?_;conv=>whnf)
 repeat' (first|refine zx ?_|refine qp lr ?_|refine qp rt ?_|refine zd ?_ ?_<;>intro h<;>try omega|fail)<;>conv=>whnf
 all_goals try (exfalso;simp_all;done)
 refine a2H c8 ([J,s7 g,S.c (C.t (T.ptr (an9 s))),J,S.c (C.ptr ((f5 s).length+6) 0 0),a7 .i64 0,S.c (C.ptr 0 0 0)]++Jn 71) (K8 (f5 s).length n (f5 s) (g7 s g).V (g7 s g).G (g7 s g).O (g7 s g).F (g7 s g).A [bO z8]) ?_ ?_
 ·conv=>whnf
  repeat' (first|refine zx ?_|refine .inr ⟨_,_,op,?_⟩|refine G3 ?_|refine zd ?_ ?_<;>intro h<;>try omega|fail)<;>conv=>whnf
  exact ⟨_,ab7 b2I rfl ⟨rfl,g6 rfl,⟨by rw [z4 (by omega)];simp [fS],rfl,rfl⟩,rfl,⟨by rw [z4 (by omega)];simp [fS],rfl,rfl⟩,trivial⟩⟩
 refine ah9 c8 ([J,s7 g,S.c (C.t (T.ptr (an9 s))),J,S.c (C.ptr 0 0 0),a7 .i64 0,dT (f5 s).length n (f5 s) (y3 s g),a7 .i64 (-1),a7 .i64 c]++Jn 69) [bO z8] ?_ ?_
 ·have si:=a8a [bO z8] rfl rfl se
  conv=>whnf
  repeat' (first|refine zx ?_|refine qp 4 ?_|refine .inr ⟨_,_,si,?_⟩|refine k7 ?_|refine bl0 [4] ?_|refine zd ?_ ?_<;>intro h<;>try omega|fail)<;>conv=>whnf
  exact ⟨_,aW5 (bO z8) b2I ⟨.inl (g6 rfl),.inl (g6 rfl),.inl ⟨rfl,rfl,rfl⟩,.inl rfl,.inr (az5 fun i hi=>a8s hi),.inl rfl,.inl rfl,trivial⟩⟩
 refine ac7 ?_
 refine R4 c8 ?_
 conv=>whnf
 repeat' (first|refine zx ?_|refine zd ?_ ?_<;>intro h<;>try omega|fail)<;>conv=>whnf
 all_goals try omega
 refine b3v rfl ?_
 refine a2H c8 ([J,s7 g,S.c (C.t (T.ptr (an9 s))),J,S.c (C.ptr ((f5 s).length+6) 0 0),a7 .i64 0,dT (f5 s).length n (f5 s) (y3 s g),a7 .i64 (-1),a7 .i64 c,S.c (C.ptr 0 0 0)]++Jn 68) (K8 (f5 s).length n (f5 s) (g7 s []).V (g7 s []).G (g7 s []).O (g7 s []).F (g7 s []).A [bO z8]) ?_ ?_
 ·conv=>whnf
  repeat' (first|refine zx ?_|refine .inr ⟨_,_,op0,?_⟩|refine G3 ?_|refine zd ?_ ?_<;>intro h<;>try omega|fail)<;>conv=>whnf
  exact ⟨_,ab7 b2I rfl ⟨rfl,g6 rfl,⟨by rw [z4 (by omega)];simp [fS],rfl,rfl⟩,rfl,g6 rfl,rfl,rfl,⟨by rw [z4 (by omega)];simp [fS],rfl,rfl⟩,trivial⟩⟩
 refine ah9 c8 ([J,s7 g,S.c (C.t (T.ptr (an9 s))),J,S.c (C.ptr 0 0 0),a7 .i64 0,dT (f5 s).length n (f5 s) (y3 s g),a7 .i64 (-1),a7 .i64 c,dT (f5 s).length n (f5 s) (y3 s []),a7 .i64 (-1),a7 .i64 (-1)]++Jn 66) [bO z8] ?_ ?_
 ·have si:=a8a [bO z8] rfl rfl se0
  conv=>whnf
  repeat' (first|refine zx ?_|refine qp 4 ?_|refine .inr ⟨_,_,si,?_⟩|refine k7 ?_|refine bl0 [4] ?_|refine zd ?_ ?_<;>intro h<;>try omega|fail)<;>conv=>whnf
  exact ⟨_,aW5 (bO z8) b2I ⟨.inl (g6 rfl),.inl (g6 rfl),.inl ⟨rfl,rfl,rfl⟩,.inl rfl,.inl (g6 rfl),.inl rfl,.inl rfl,.inr (az5 fun i hi=>a8s hi),.inl rfl,.inl rfl,trivial⟩⟩
 refine z6 c8 _ ?_
 conv=>whnf
 repeat' (first|refine zx ?_|refine qp pt ?_|refine qp ra ?_|refine zd ?_ ?_<;>intro h<;>try omega|fail)<;>conv=>whnf
 all_goals first
  |omega
  |exact ⟨[],rfl,rfl,trivial,⟨⟨rfl,rfl,rfl,rfl,rfl,rfl,rfl,rfl,trivial⟩,rfl,trivial⟩⟩
def aU1 (A:Nat->List T) (g:Nat->List Int) (B:Nat->List T) (id:Nat) (i:Nat):List C:=(A i).map .t++.own id 0 (g i).length true::(B i).map .t
def a3i (n:Nat) (A:Nat->List T) (g:Nat->List Int) (B:Nat->List T):List (List C):=(List.range n).map fun i=>aU1 A g B (i+1) i
def b9m (el:TypeId) (size n:Nat) (A:Nat->List T) (g:Nat->List Int) (B:Nat->List T):Blk:={ mode:=.live,elem:=el,size:=size,rows:=a3i n A g B,box:=false }
def a03 (el:TypeId) (size n:Nat) (A:Nat->List T) (g:Nat->List Int) (B:Nat->List T):Hp:=b9m el size n A g B::(List.range n).map fun i=>k8 (g i)
theorem a0J {n:Nat} {A:Nat->List T} {g:Nat->List Int} {B:Nat->List T}:(a3i n A g B).length=n:=by simp [a3i]
theorem a3q {n i:Nat} {A:Nat->List T} {g:Nat->List Int} {B:Nat->List T} (h:i<n):(a3i n A g B)[i]? =some (aU1 A g B (i+1) i):=by simp [a3i,h]
theorem a8R {el:TypeId} {size n:Nat} {A:Nat->List T} {g:Nat->List Int} {B:Nat->List T}:(a03 el size n A g B).length=n+1:=by simp [a03]
def a99 (n j N:Nat):List (Option Nat):=(List.range (n+1)).map fun i=>some (if i=j+1 then N else i)
theorem Z0 {n j N i:Nat} (h:i<n+1):(a99 n j N)[i]? =some (some (if i=j+1 then N else i)):=by simp [a99,h]
theorem ay3 {n j N:Nat}:(a99 n j N).length=n+1:=by simp [a99]
theorem N1 {ρ:List (Option Nat)} {H:Hp}:∀l:List T,a41 ρ H (l.map C.t) (l.map C.t)
 |[]=>trivial
 |x::r=>⟨a1x x,N1 r⟩
theorem a5n {ρ:List (Option Nat)} {H:Hp}:∀{a b c d:List C},a41 ρ H a b->a41 ρ H c d->a41 ρ H (a++c) (b++d)
 |[],[],_,_,_,h=>h
 |x::a,y::b,_,_,h1,h2=>⟨h1.1,a5n h1.2 h2⟩
 |[],_::_,_,_,h,_=>h.elim
 |_::_,[],_,_,h,_=>h.elim
theorem a7T {ρ:List (Option Nat)} {H:Hp}:∀{xs ys:List (List C)},xs.length=ys.length->(∀ (i:Nat) (x y:List C),xs[i]? =some x->ys[i]? =some y->a41 ρ H x y)->a4Z ρ H xs ys
 |[],[],_,_=>trivial
 |[],_::_,h,_=>by simp at h
 |_::_,[],h,_=>by simp at h
 |x::xs,y::ys,h,hh=>⟨hh 0 x y rfl rfl,a7T (by simpa using h) fun i a b ha hb=>hh (i+1) a b (by simpa using ha) (by simpa using hb)⟩
def a59 (g:Nat->List Int) (j:Nat) (l:List Int):Nat->List Int:=fun i=>if i=j then l else g i
theorem b3G {el:TypeId} {size n j N:Nat} {A:Nat->List T} {g:Nat->List Int} {B:Nat->List T} {l:List Int} {env env':Env} {H:Hp} {k0:Blk} (hj:j<n) (hnN:n<N)
 (h0:H[0]? =some k0) (hk0:k0.mode=.live∧k0.app=false∧k0.elem=el∧k0.size=size) (hr:k0.rows=(a3i n A g B).set j ((A j).map .t++.own N 0 l.length true::(B j).map .t))
 (hm:∀m,m<n->m≠j->H[m+1]? =some (k8 (g m))) (hN:H[N]? =some (k8 l)) (hE:a14 (a99 n j N) H env env'):Ent 0 (a99 n j N) env H env' (a03 el size n A (a59 g j l) B):=by
 refine ⟨rfl,a0A fun a b m h1 h2=>?_,a5B (by rw [ay3,a8R]) fun i k' hk=>?_,hE⟩
 ·have ha:=(lbe.1 h1).1
  have hb:=(lbe.1 h2).1
  rw [ay3] at ha hb
  rw [Z0 ha] at h1
  rw [Z0 hb] at h2
  simp only [lb5] at h1 h2
  split at h1<;>split at h2<;>omega
 ·have hi:=(lbe.1 hk).1
  rw [a8R] at hi
  refine ⟨if i=j+1 then N else i,?_⟩
  cases i with
  |zero=>
   refine ⟨k0,Z0 hi,by simpa using h0,?_⟩
   simp [a03] at hk
   subst hk
   obtain ⟨q1,q2,q3,q4⟩:=hk0
   refine ⟨by unfold a2M;rw [q1,q2];rfl,q3,q4,.inr ?_⟩
   rw [hr]
   refine a7T (by rw [List.length_set,a0J];exact a0J.symm) fun a x y hx hy=>?_
   have han:a<n:=by have:=(lbe.1 hy).1;rw [show (b9m el size n A (a59 g j l) B).rows=a3i n A (a59 g j l) B from rfl,a0J] at this;exact this
   have hy:(a3i n A (a59 g j l) B)[a]? =some y:=hy
   rw [a3q han] at hy
   injection hy with hy
   subst hy
   rw [lbg,a0J] at hx
   by_cases haj:j=a
   ·subst haj
    rw [if_pos rfl,if_pos hj] at hx
    injection hx with hx
    subst hx
    unfold aU1
    have e1:a59 g j l j=l:=by simp [a59]
    rw [e1]
    refine a5n (N1 _) ⟨⟨?_,rfl,rfl,fun h=>h⟩,N1 _⟩
    rw [Z0 (by omega),if_pos rfl]
   ·rw [if_neg haj,a3q han] at hx
    injection hx with hx
    subst hx
    unfold aU1
    have e1:a59 g j l a=g a:=by unfold a59;rw [if_neg (fun h=>haj h.symm)]
    rw [e1]
    refine a5n (N1 _) ⟨⟨?_,rfl,rfl,fun h=>h⟩,N1 _⟩
    rw [Z0 (by omega),if_neg (by omega)]
  |succ i=>
   have hin:i<n:=by omega
   have hk:((List.range n).map fun i=>k8 (a59 g j l i))[i]? =some k':=hk
   rw [lba,lbh hin] at hk
   injection hk with hk
   subst hk
   by_cases hij:i=j
   ·subst hij
    refine ⟨k8 l,Z0 hi,by rw [if_pos rfl];exact hN,?_⟩
    have e1:a59 g i l i=l:=by simp [a59]
    show a5q _ _ _ (k8 (a59 g i l i))
    rw [e1]
    exact ⟨rfl,rfl,rfl,.inl ⟨rfl,c6 _⟩⟩
   ·refine ⟨k8 (g i),Z0 hi,by rw [if_neg (by omega)];exact hm i hin hij,?_⟩
    have e1:a59 g j l i=g i:=by unfold a59;rw [if_neg hij]
    show a5q _ _ _ (k8 (a59 g j l i))
    rw [e1]
    exact ⟨rfl,rfl,rfl,.inl ⟨rfl,c6 _⟩⟩
def aV2 (id n:Nat):List (Option Nat):=some id::List.replicate n none
theorem aT4 {ρ:List (Option Nat)} {H:Hp}:∀{n:Nat} {R:List Blk},R.length=n->(∀ k ∈ R,k.rows=[]∧k.mode=.live)->a4a ρ H (List.replicate n none) R
 |0,[],_,_=>trivial
 |n+1,k::R,h,hh=>⟨hh k (by simp),aT4 (by simpa using h) fun k hk=>hh k (by simp [hk])⟩
 |0,_::_,h,_=>by simp at h
 |n+1,[],h,_=>by simp at h
theorem ae7 {H:Hp}:∀{n:Nat},S3 (List.replicate n none) H=true
 |0=>by cases H<;>rfl
 |n+1=>by
  rw [List.replicate_succ]
  cases H with
  |nil=>rfl
  |cons k H=>exact ae7 (H:=H)
theorem ax1 {m:Nat}:∀{n:Nat} {H:Hp},a50 m (List.replicate n none) H=false
 |0,H=>by cases H<;>rfl
 |n+1,[]=>rfl
 |n+1,k::H=>by
  rw [List.replicate_succ]
  unfold a50
  rw [ax1]
  cases k.mode<;>rfl
theorem b6G {el:TypeId} {size n id:Nat} {A B:Nat->List T} {env env':Env} {H:Hp} {k0:Blk} {s:Nat}
 (h0:H[id]? =some k0) (hk0:k0.mode=.live∧k0.app=false∧k0.elem=el∧k0.size=size) (hr:k0.rows=(List.range n).map fun i=>(A i).map .t++.t (.sl s .nil [])::(B i).map .t)
 (hE:a14 (aV2 id n) H env env'):Ent 0 (aV2 id n) env H env' (a03 el size n A (fun _=>[]) B):=by
 obtain ⟨q1,q2,q3,q4⟩:=hk0
 refine ⟨rfl,?_,⟨?_,?_⟩,hE⟩
 ·unfold aV2 a03 S3
  rw [ax1,ae7]
  rfl
 ·simp only [h0]
  refine ⟨by unfold a2M;rw [q1,q2];rfl,q3,q4,.inr ?_⟩
  rw [hr]
  refine a7T (by rw [show (b9m el size n A (fun _=>[]) B).rows=a3i n A (fun _=>[]) B from rfl,a0J];simp) fun a x y hx hy=>?_
  have han:a<n:=by have:=(lbe.1 hx).1;simpa using this
  have hy:(a3i n A (fun _=>[]) B)[a]? =some y:=hy
  rw [a3q han] at hy
  injection hy with hy
  subst hy
  rw [lba,lbh han] at hx
  injection hx with hx
  subst hx
  unfold aU1
  refine a5n (N1 _) ⟨⟨?_,rfl,rfl⟩,N1 _⟩
  show (aV2 id n)[a+1]? =some none
  unfold aV2
  rw [List.getElem?_cons_succ,lbk,if_pos han]
 ·refine aT4 (by simp) fun k hk=>?_
  obtain ⟨i,_,rfl⟩:=lbx.1 hk
  exact ⟨rfl,rfl⟩
theorem b3N {el:TypeId} {size n:Nat} {A:Nat->List T} {g:Nat->List Int} {B:Nat->List T} {env env':Env}
 (hE:a14 [some 0] (a03 el size n A g B) env env'):Ent 0 [some 0] env (a03 el size n A g B) env' [{ mode:=.live,elem:=el,size:=size,rows:=toC ((List.range n).map fun i=>A i++K4 (g i)::B i),box:=false }]:=by
 refine ⟨rfl,rfl,⟨⟨rfl,rfl,rfl,.inr ?_⟩,trivial⟩,hE⟩
 show a4Z _ _ (a3i n A g B) (toC _)
 refine a7T (by rw [a0J];simp [toC]) fun a x y hx hy=>?_
 have han:a<n:=by have:=(lbe.1 hx).1;rw [a0J] at this;exact this
 rw [a3q han] at hx
 injection hx with hx
 subst hx
 have hy:(((List.range n).map fun i=>A i++K4 (g i)::B i).map (·.map C.t))[a]? =some y:=hy
 rw [lba,lba,lbh han] at hy
 injection hy with hy
 subst hy
 show a41 _ _ _ ((A a++K4 (g a)::B a).map C.t)
 rw [lbC,List.map_cons]
 unfold aU1
 refine a5n (N1 _) ⟨?_,N1 _⟩
 have hk:(a03 el size n A g B)[a+1]? =some (k8 (g a)):=by simp [a03,han]
 exact show VC _ _ _ _ from u4 (by simp [E4];rfl) hk (by intro h;cases h) rfl rfl (by simp)
theorem b65 {el:TypeId} {size n:Nat} {A:Nat->List T} {g:Nat->List Int} {B:Nat->List T}:∀k ∈ a03 el size n A g B,okB (n+1) k:=by
 intro k hk
 rcases lbA.1 hk with rfl|hk
 ·intro r hr c hc
  obtain ⟨i,hi,rfl⟩:=lbx.1 hr
  have hi:=lbB.1 hi
  unfold aU1 at hc
  rcases lbz.1 hc with hc|hc
  ·obtain ⟨x,_,rfl⟩:=lbx.1 hc;trivial
  ·rcases lbA.1 hc with rfl|hc
   ·show i+1<n+1;omega
   ·obtain ⟨x,_,rfl⟩:=lbx.1 hc;trivial
 ·obtain ⟨i,_,rfl⟩:=lbx.1 hk
  exact F2 rfl
theorem b3g {el:TypeId} {size n:Nat} {A:Nat->List T} {g:Nat->List Int} {B:Nat->List T} {env env':Env} {R:Hp} (hE:a14 (idR (n+1)) (a03 el size n A g B++R) env env'):Ent 0 (idR (n+1)) env (a03 el size n A g B++R) env' (a03 el size n A g B):=
 b0w a8R (Nat.zero_le _) b65 hE
def b9C (h:Fr) (b:Bool) (gs:List Int) (n:Int):List T:=[ti h.p.sg,K4 h.p.dl,ti h.q.sg,K4 h.q.dl,tb b,K4 gs,ti n]
def hiF (o:Option (Rat × Rat)):Fr:=match o with
 |some (_,hi)=>fz hi
 |none=>U6
def a1K (e:Ev) (i:Nat):Option (Rat × Rat):=match e.moves[i]? with
 |some x=>B2 e x
 |none=>none
theorem aB2 {e:Ev} {i:Nat} {x:n9} (h:e.moves[i]? =some x):a1K e i=B2 e x:=by unfold a1K;rw [h]
def W9 (t:d9) (kind:Int) (i:Nat):List T:=b9C (hiF (a1K t.ev i)) (a1K t.ev i).isSome (i8 t.finds kind i) (o6 t.cleans kind i)
abbrev a2X (t:d9) (kind:Int):T:=.sl 7 .any ((List.range t.ev.moves.length).map (W9 t kind))
def kn1 (e:Ev) (k i:Nat):List T:=
 let h:=if i<k then hiF (a1K e i) else U6
 [ti h.p.sg,K4 h.p.dl,ti h.q.sg,K4 h.q.dl,tb (decide (i<k) && (a1K e i).isSome),.sl 0 .nil [],ti 0]
abbrev knB (rows:List (List T)):Blk:={ mode:=.live,elem:=119,size:=7,rows:=toC rows,box:=false }
theorem aI5 {e:Ev} {k i:Nat} (h:i≠k):kn1 e (k+1) i=kn1 e k i:=by
 unfold kn1
 by_cases h1:i<k
 ·simp only [if_pos h1,if_pos (show i<k+1 by omega),h1,show i<k+1 by omega]
 ·simp only [if_neg h1,if_neg (show ¬i<k+1 by omega),h1,show ¬i<k+1 by omega]
theorem b1d {e:Ev} {k n:Nat} (h:k<n):(toC ((List.range n).map (kn1 e k))).set k ((kn1 e (k+1) k).map C.t)=toC ((List.range n).map (kn1 e (k+1))):=by
 apply List.ext_getElem?
 intro i
 unfold toC
 rw [lbg,lba,lba,lba]
 by_cases hi:k=i
 ·subst hi
  rw [if_pos rfl]
  simp [h]
 ·rw [if_neg hi,lba]
  cases hr:(List.range n)[i]? with
  |none=>rfl
  |some j=>
   have:j=i:=by
    obtain ⟨h1,h2⟩:=lbe.1 hr
    simp at h2;omega
   subst this
   show some ((kn1 e k j).map C.t)=some ((kn1 e (k+1) j).map C.t)
   rw [aI5 (fun h=>hi h.symm)]
theorem aM1 {e:Ev} {k:Nat} (h:a1K e k=none):kn1 e (k+1) k=kn1 e k k:=by
 unfold kn1
 simp only [if_pos (show k<k+1 by omega),if_neg (show ¬k<k by omega),h]
 simp [hiF]
theorem aE8 {e:Ev} {k n:Nat} (h:a1K e k=none):(List.range n).map (kn1 e (k+1))=(List.range n).map (kn1 e k):=lbp fun i _=>by
 by_cases hi:i=k
 ·subst hi;exact aM1 h
 ·exact aI5 hi
theorem b4p {e:Ev} {n:Nat} {ρ:List (Option Nat)} {H:Hp}:a4Z ρ H (List.replicate n [C.t (ti 0),C.t (.sl 0 .nil []),C.t (ti 0),C.t (.sl 0 .nil []),C.t (tb false),C.t (.sl 0 .nil []),C.t (ti 0)]) (toC ((List.range n).map (kn1 e 0))):=by
 refine a7T (by simp [toC]) fun i x y hx hy=>?_
 have hi:i<n:=by have:=(lbe.1 hx).1;simpa using this
 rw [lbk,if_pos hi] at hx
 injection hx with hx
 subst hx
 unfold toC at hy
 rw [lba,lba,lbh hi] at hy
 injection hy with hy
 subst hy
 show a41 _ _ _ ((kn1 e 0 i).map C.t)
 unfold kn1
 simp only [if_neg (show ¬i<0 by omega)]
 exact ⟨rfl,rfl,rfl,rfl,rfl,rfl,rfl,trivial⟩
def knA (e:Ev) (i:Nat):List T:=[ti (hiF (a1K e i)).p.sg,K4 (hiF (a1K e i)).p.dl,ti (hiF (a1K e i)).q.sg,K4 (hiF (a1K e i)).q.dl,tb (a1K e i).isSome]
def E6 (t:d9) (kind:Int) (k i:Nat):List Int:=i8 (t.finds.take k) kind i
theorem a7v (l:List L0) (f:L0) (kind:Int) (i:Nat):i8 (l++[f]) kind i=if f.kind=kind∧f.mv=(i:Int) then i8 l kind i++[f.grams] else i8 l kind i:=by
 rw [a6Z];split<;>simp
theorem V6 {α:Type} {l:List α} {k:Nat} {x:α} (h:l[k]? =some x):l.take (k+1)=l.take k++[x]:=by rw [lbG,h];rfl
def kn3 (t:d9) (kind:Int) (k i:Nat):List T:=knA t.ev i++K4 (i8 t.finds kind i)::[ti (o6 (t.cleans.take k) kind i)]
theorem b8U (t:d9) (kind:Int) (k i:Nat):o6 (t.cleans.take k) kind i<=t.cleans.length:=lbS (lbt _ _) (by simp;omega)
theorem b7b {t:d9} {kind:Int} {n:Nat}:(List.range n).map (kn3 t kind t.cleans.length)=(List.range n).map (W9 t kind):=lbp fun i _=>by
 unfold kn3;rw [lbn (lbR _)];rfl
theorem b4R {t:d9} {kind:Int} {n k:Nat} {c:Q3} (h:t.cleans[k]? =some c) (hk:c.kind≠kind):(List.range n).map (kn3 t kind (k+1))=(List.range n).map (kn3 t kind k):=lbp fun i _=>by
 unfold kn3
 rw [V6 h,a0N,if_neg (fun h=>hk h.1)];rfl
theorem b8c {t:d9} {kind:Int} {n k m:Nat} {c:Q3} (hm:m<n) (h:t.cleans[k]? =some c) (hk:c.kind=kind) (hmv:c.mv=m):
 (toC ((List.range n).map (kn3 t kind k))).set m ((knA t.ev m++K4 (i8 t.finds kind m)::[ti ((o6 (t.cleans.take k) kind m:Int)+1)]).map C.t)=toC ((List.range n).map (kn3 t kind (k+1))):=by
 have key:∀i,i<n->i≠m->kn3 t kind (k+1) i=kn3 t kind k i:=fun i _ hi=>by
  unfold kn3
  rw [V6 h,a0N,if_neg (fun h=>hi (by omega))];rfl
 have own:kn3 t kind (k+1) m=knA t.ev m++K4 (i8 t.finds kind m)::[ti ((o6 (t.cleans.take k) kind m:Int)+1)]:=by
  unfold kn3
  rw [V6 h,a0N,if_pos ⟨hk,hmv⟩];rfl
 rw [← own]
 unfold toC
 rw [← List.map_set]
 congr 1
 apply List.ext_getElem?
 intro i
 simp only [lbg,lba,lbr,List.length_range]
 by_cases hi:m=i
 ·subst hi;simp [hm]
 ·rw [if_neg hi]
  by_cases hin:i<n
  ·rw [lbh hin]
   show some _=some _
   rw [key i hin (fun h=>hi h.symm)]
  ·rw [lbd (by simp;omega)];rfl
theorem b4v {l:List Int} {x:Int}:List.take l.length (toC (l.map c9))++toC [[ti x]]=toC ((l++[x]).map c9):=by
 rw [lbn (by simp [toC])]
 simp [toC,c9]
theorem b71 (t:d9) (kind:Int) (hs:t.Sized) (h0:y8 t.ev=0) (hf:∀f ∈ t.finds,0<=f.mv∧f.mv<t.ev.moves.length) (hc:∀c ∈ t.cleans,0<=c.mv∧c.mv<t.ev.moves.length):
 a9 Tryz.prog 67 [trS t,a7 .i64 kind] [] (.c (.t (a2X t kind))) []:=by
 obtain ⟨b1,b2,b3,b4⟩:=a0e h0
 have l1:=hs.f
 have l2:=hs.c
 have m0:(t.ev.moves.map n9.row).length=t.ev.moves.length:=by simp
 have m1:(t.finds.map L0.row).length=t.finds.length:=by simp
 have m2:(t.cleans.map Q3.row).length=t.cleans.length:=by simp
 have s3:=hs.ev.s3
 have s4:=hs.ev.s4
 (refine ac Tryz.func67 ?_;(conv=>whnf);repeat ((first|refine b0x ?_|refine zy ?_);conv=>whnf))
 repeat' (first|refine zx ?_|refine a2B (by omega) (by omega) (by omega) (by decide) ?_|refine zd ?_ ?_<;>intro h<;>try omega|fail)<;>conv=>whnf
 refine d8 c8 (fun k=>([J,a7 .i64 kind,S.c (C.t (T.ptr (trT t))),J,J,S.c (C.ptr 0 0 0),S.c (C.own 1 0 t.ev.moves.length true)]++Jn 13++[S.c (C.t (a1g t.ev.moves)),a7 .i64 t.ev.moves.length,a7 .i64 k]++Jn 80,[evB t.ev,knB ((List.range t.ev.moves.length).map (kn1 t.ev k))])) t.ev.moves.length (fun _=>True) [some 0,some 1] trivial ?_ ?_
 ·refine ⟨rfl,rfl,⟨⟨rfl,rfl,rfl,.inl ⟨rfl,j7 _⟩⟩,⟨rfl,rfl,rfl,.inr ?_⟩,trivial⟩,⟨rfl,rfl,⟨rfl,rfl,rfl⟩,⟨rfl,rfl,?_,fun h=>h⟩,rfl,b8 (by simp),rfl,trivial⟩⟩
  ·have e9:((((t.ev.moves.map n9.row).length:Nat):Int)).toNat=t.ev.moves.length:=by omega
   rw [← e9]
   exact b4p
  ·omega
 intro k hk _
 by_cases hlt:k<t.ev.moves.length
 ·obtain ⟨x,hx⟩:∃x,t.ev.moves[k]? =some x:=⟨_,lbf hlt⟩
  have iv:=ag4 t.ev.certs t.ev.recalls (by omega) (by omega) x.scale x.reading x.day
  have eK:0+(k:Int).toNat=k:=by omega
  have hk0:(List.range t.ev.moves.length)[0+(k:Int).toNat]? =some k:=by rw [eK,lbh hlt]
  have gs:∀c,((knB ((List.range t.ev.moves.length).map (kn1 t.ev k))).rows.set (0+(k:Int).toNat) c)[0+(k:Int).toNat]? =some c:=fun c=>by
   rw [List.getElem?_set_self]
   show _<(toC _).length
   simp [toC];omega
  by_cases hsc:x.scale=-1
  ·have hn:a1K t.ev k=none:=by rw [aB2 hx];unfold B2;rw [if_pos hsc]
   have e1:=aE8 (n:=t.ev.moves.length) hn
   conv=>whnf
   repeat' (first|refine zx ?_|refine b9 hx ?_|refine zd ?_ ?_<;>intro h<;>try omega|fail)<;>conv=>whnf
   all_goals try omega
   refine ⟨hlt,trivial,[some 0,some 1],rfl,rfl,⟨⟨rfl,rfl,rfl,.inl ⟨rfl,j7 _⟩⟩,a8 rfl rfl rfl ?_ rfl,trivial⟩,⟨rfl,rfl,⟨rfl,rfl,rfl⟩,⟨rfl,rfl,rfl,fun h=>h⟩,rfl,rfl,rfl,trivial⟩⟩
   rw [e1]
  ·have hiv:a1K t.ev k=G4 t.ev.certs t.ev.recalls x.scale x.reading x.day:=by rw [aB2 hx];unfold B2;rw [if_neg hsc]
   rw [← hiv] at iv
   cases hi:a1K t.ev k with
   |none=>
    rw [hi] at iv
    have er:(kn1 t.ev (k+1) k).map C.t=frC U6++[C.t (tb false),C.t (.sl 0 .nil []),C.t (ti 0)]:=by rw [aM1 hi];simp [kn1]
    conv=>whnf
    repeat' (first|refine zx ?_|refine qp iv ?_|refine qp (2,3,18) ?_|refine b9 hx ?_|refine o5 hk0 ?_|refine ⟨_,gs _,?_⟩|refine bl0 [2,3,18] ?_|refine zd ?_ ?_<;>intro h<;>try omega|fail)<;>conv=>whnf
    all_goals try omega
    refine ⟨hlt,trivial,[some 0,some 1],rfl,rfl,⟨⟨rfl,rfl,rfl,.inl ⟨rfl,j7 _⟩⟩,a8 rfl rfl rfl ?_ rfl,trivial⟩,⟨rfl,rfl,⟨rfl,rfl,rfl⟩,⟨rfl,rfl,rfl,fun h=>h⟩,rfl,rfl,rfl,trivial⟩⟩
    have e2:=b1d (e:=t.ev) hlt
    rw [er] at e2
    rw [← e2]
    show ((toC _).set (0+(k:Int).toNat) _).set (0+(k:Int).toNat) _=_
    rw [List.set_set,eK]
    rfl
   |some p=>
    obtain ⟨lo,hi'⟩:=p
    rw [hi] at iv
    have er:(kn1 t.ev (k+1) k).map C.t=frC (fz hi')++[C.t (tb true),C.t (.sl 0 .nil []),C.t (ti 0)]:=by simp [kn1,hi,hiF]
    conv=>whnf
    repeat' (first|refine zx ?_|refine qp iv ?_|refine qp (2,3,18) ?_|refine b9 hx ?_|refine o5 hk0 ?_|refine ⟨_,gs _,?_⟩|refine bl0 [2,3,18] ?_|refine zd ?_ ?_<;>intro h<;>try omega|fail)<;>conv=>whnf
    all_goals try omega
    refine ⟨hlt,trivial,[some 0,some 1],rfl,rfl,⟨⟨rfl,rfl,rfl,.inl ⟨rfl,j7 _⟩⟩,a8 rfl rfl rfl ?_ rfl,trivial⟩,⟨rfl,rfl,⟨rfl,rfl,rfl⟩,⟨rfl,rfl,rfl,fun h=>h⟩,rfl,rfl,rfl,trivial⟩⟩
    have e2:=b1d (e:=t.ev) hlt
    rw [er] at e2
    rw [← e2]
    show ((toC _).set (0+(k:Int).toNat) _).set (0+(k:Int).toNat) _=_
    rw [List.set_set,eK]
    rfl
 ·conv=>whnf
  repeat' (first|refine zx ?_|refine zd ?_ ?_<;>intro h<;>try omega|fail)<;>conv=>whnf
  all_goals try omega
  have e0:E6 t kind 0=fun _=>[]:=by funext i;simp [E6,i8]
  refine d8 c8 (fun k=>([J,a7 .i64 kind,S.c (C.t (T.ptr (trT t))),J,J,J,S.c (C.own 0 0 t.ev.moves.length true)]++Jn 48++[S.c (C.t (ag0 t.finds)),a7 .i64 t.finds.length,a7 .i64 k]++Jn 45,a03 119 7 t.ev.moves.length (knA t.ev) (E6 t kind k) (fun _=>[ti 0]))) t.finds.length (fun _=>True) (aV2 1 t.ev.moves.length) trivial ?_ ?_
  ·have hke:k=t.ev.moves.length:=by omega
   subst hke
   refine (?_:Ent 0 (aV2 1 t.ev.moves.length) _ _ _ (a03 119 7 t.ev.moves.length (knA t.ev) (E6 t kind 0) (fun _=>[ti 0])))
   rw [e0]
   refine b6G (k0:=knB ((List.range t.ev.moves.length).map (kn1 t.ev t.ev.moves.length))) (s:=0) rfl ⟨rfl,rfl,rfl,rfl⟩ ?_ ?_
   ·show toC _=_
    unfold toC
    rw [List.map_map]
    refine lbp fun i hi=>?_
    have:=lbB.1 hi
    simp [kn1,knA,this]
   ·exact ⟨rfl,rfl,⟨rfl,rfl,rfl,fun h=>h⟩,g6 rfl,b8 (by simp),rfl,trivial⟩
  intro j hj _
  by_cases hjt:j<t.finds.length
  ·obtain ⟨f,hfj⟩:∃f,t.finds[j]? =some f:=⟨_,lbf hjt⟩
   obtain ⟨f1,f2⟩:=hf f (lbm hfj)
   obtain ⟨m,hm⟩:∃m:Nat,f.mv=m:=⟨f.mv.toNat,by omega⟩
   have hmn:m<t.ev.moves.length:=by omega
   have eM:0+f.mv.toNat=m:=by omega
   have rL:(List.range t.ev.moves.length).length=t.ev.moves.length:=by simp
   have rG:(List.range t.ev.moves.length)[m]? =some m:=lbh hmn
   have gR:(a3i t.ev.moves.length (knA t.ev) (E6 t kind j) (fun _=>[ti 0]))[0+f.mv.toNat]? =some (aU1 (knA t.ev) (E6 t kind j) (fun _=>[ti 0]) (m+1) m):=by rw [eM];exact a3q hmn
   have gl:(E6 t kind j m).length<=t.finds.length:=by
    unfold E6 i8
    rw [lbr]
    exact lbS (lbt _ _) (by simp;omega)
   have hbox:∀(fB:Nat->Blk) (dead nb fb:Blk),(((((List.range t.ev.moves.length).map fB++[fb]).set m dead)++[nb])[t.ev.moves.length]?)=some fb:=fun fB dead nb fb=>by
    rw [lbb (by simp),lbg,if_neg (by omega),lbc (by simp)]
    simp
   have hnew:∀(fB:Nat->Blk) (dead nb fb:Blk),(((((List.range t.ev.moves.length).map fB++[fb]).set m dead)++[nb])[t.ev.moves.length+1]?)=some nb:=fun fB dead nb fb=>by
    rw [lbc (by simp)]
    simp
   have hold:∀(fB:Nat->Blk) (dead nb fb:Blk) (p:Nat),p<t.ev.moves.length->p≠m->(((((List.range t.ev.moves.length).map fB++[fb]).set m dead)++[nb])[p]?)=some (fB p):=fun fB dead nb fb p hp hpm=>by
    rw [lbb (by simp;omega),lbg,if_neg (by omega),lbb (by simpa using hp),lba,lbh hp];rfl
   by_cases hkd:f.kind=kind
   ·conv=>whnf
    repeat' (first|refine zx ?_|refine qp toC ?_|refine qp toC ?_|refine qp (0,1,2) ?_|refine b9 hfj ?_|refine n6 rL ?_|refine a5k rL ?_|refine G3 ?_|refine a3T ?_|refine ⟨_,gR,?_⟩|refine a9V (hbox _ _ _ _) ?_|refine Z7 rG ?_|refine aH6 rG ?_|refine D4 rL ?_|refine g8 rL ?_|refine a8z rL ?_|refine g9 rL ?_|refine aB6 ?_|refine o8 (by simp [toC]) (by simp [toC];omega) ?_|refine bl0 [0,1,2] ?_|refine zd ?_ ?_<;>intro h<;>try omega|fail)<;>conv=>whnf
    all_goals try omega
    refine ⟨hjt,trivial,a99 t.ev.moves.length m (t.ev.moves.length+2),?_⟩
    refine (?_:Ent 0 (a99 t.ev.moves.length m (t.ev.moves.length+2)) _ _ _ (a03 119 7 t.ev.moves.length (knA t.ev) (E6 t kind (j+1)) (fun _=>[ti 0])))
    have eg:E6 t kind (j+1)=a59 (E6 t kind j) m (E6 t kind j m++[f.grams]):=by
     funext i
     unfold E6 a59
     rw [V6 hfj,a7v]
     by_cases hi:i=m
     ·subst hi;rw [if_pos ⟨hkd,hm⟩,if_pos rfl]
     ·rw [if_neg (fun h=>hi (by omega)),if_neg hi]
    rw [eg]
    refine b3G hmn (by omega) rfl ⟨rfl,rfl,rfl,rfl⟩ ?_ ?_ ?_ ?_
    ·show (a3i _ _ _ _).set (0+f.mv.toNat) _=_
     rw [eM,lbq]
     rfl
    ·intro p hp hpm
     exact hold _ _ _ _ p hp hpm
    ·refine (hnew _ _ _ _).trans ?_
     show some (Blk.mk .live _ 1 (List.take _ (toC ((E6 t kind j m).map c9))++toC [[ti f.grams]]) false false)=_
     rw [b4v]
    ·exact ⟨rfl,rfl,⟨by rw [Z0 (by omega)];rfl,rfl,rfl,fun h=>h⟩,rfl,rfl,rfl,trivial⟩
   ·conv=>whnf
    repeat' (first|refine zx ?_|refine b9 hfj ?_|refine n6 rL ?_|refine a5k rL ?_|refine G3 ?_|refine a3T ?_|refine D4 rL ?_|refine g8 rL ?_|refine a8z rL ?_|refine g9 rL ?_|refine zd ?_ ?_<;>intro h<;>try omega|fail)<;>conv=>whnf
    all_goals try omega
    refine ⟨hjt,trivial,idR (t.ev.moves.length+1),?_⟩
    refine (?_:Ent 0 (idR (t.ev.moves.length+1)) _ (a03 119 7 t.ev.moves.length (knA t.ev) (E6 t kind j) (fun _=>[ti 0])++_) _ (a03 119 7 t.ev.moves.length (knA t.ev) (E6 t kind (j+1)) (fun _=>[ti 0])))
    have eg:E6 t kind (j+1)=E6 t kind j:=by
     funext i
     unfold E6
     rw [V6 hfj,a7v,if_neg (fun h=>hkd h.1)]
    rw [eg]
    exact b3g ⟨rfl,rfl,⟨p6 (by omega),rfl,rfl,fun h=>h⟩,rfl,rfl,rfl,trivial⟩
  ·have hje:j=t.finds.length:=by omega
   subst hje
   have rL:(List.range t.ev.moves.length).length=t.ev.moves.length:=by simp
   conv=>whnf
   repeat' (first|refine zx ?_|refine G3 ?_|refine a3T ?_|refine a5k rL ?_|refine zd ?_ ?_<;>intro h<;>try omega|fail)<;>conv=>whnf
   all_goals try omega
   have eg:E6 t kind t.finds.length=i8 t.finds kind:=by funext i;unfold E6;rw [lbn (lbR _)]
   rw [eg]
   refine d8 c8 (fun k=>([J,a7 .i64 kind,J,J,J,J,S.c (C.own 0 0 t.ev.moves.length true)]++Jn 75++[S.c (C.t (a2t t.cleans)),a7 .i64 t.cleans.length,a7 .i64 k]++Jn 18,[knB ((List.range t.ev.moves.length).map (kn3 t kind k))])) t.cleans.length (fun _=>True) [some 0] trivial ?_ ?_
   ·exact b3N (g:=i8 t.finds kind) ⟨rfl,⟨rfl,rfl,rfl,fun h=>h⟩,g6 rfl,b8 (by simp),rfl,trivial⟩
   intro q hq _
   by_cases hqt:q<t.cleans.length
   ·obtain ⟨c,hcq⟩:∃c,t.cleans[q]? =some c:=⟨_,lbf hqt⟩
    obtain ⟨g1,g2⟩:=hc c (lbm hcq)
    obtain ⟨m,hm⟩:∃m:Nat,c.mv=m:=⟨c.mv.toNat,by omega⟩
    have hmn:m<t.ev.moves.length:=by omega
    have eM:0+c.mv.toNat=m:=by omega
    have hk0:(List.range t.ev.moves.length)[0+c.mv.toNat]? =some m:=by rw [eM];exact lbh hmn
    have cb:=b8U t kind q m
    by_cases hkd:c.kind=kind
    ·conv=>whnf
     repeat' (first|refine zx ?_|refine b9 hcq ?_|refine o5 hk0 ?_|refine zd ?_ ?_<;>intro h<;>try omega|fail)<;>conv=>whnf
     all_goals try omega
     refine ⟨hqt,trivial,[some 0],rfl,rfl,⟨a8 rfl rfl rfl ?_ rfl,trivial⟩,⟨rfl,⟨rfl,rfl,rfl,fun h=>h⟩,rfl,rfl,rfl,trivial⟩⟩
     show (toC _).set (0+c.mv.toNat) _=_
     rw [eM,←b8c hmn hcq hkd hm]
     rfl
    ·have e3:=b4R (t:=t) (kind:=kind) (n:=t.ev.moves.length) hcq hkd
     conv=>whnf
     repeat' (first|refine zx ?_|refine b9 hcq ?_|refine o5 hk0 ?_|refine zd ?_ ?_<;>intro h<;>try omega|fail)<;>conv=>whnf
     all_goals try omega
     refine ⟨hqt,trivial,[some 0],rfl,rfl,⟨a8 rfl rfl rfl ?_ rfl,trivial⟩,⟨rfl,⟨rfl,rfl,rfl,fun h=>h⟩,rfl,rfl,rfl,trivial⟩⟩
     rw [e3]
   ·have hqe:q=t.cleans.length:=by omega
    subst hqe
    conv=>whnf
    repeat' (first|refine zx ?_|refine zd ?_ ?_<;>intro h<;>try omega|fail)<;>conv=>whnf
    all_goals try omega
    rw [b7b]
    exact I6 (k:=knB ((List.range t.ev.moves.length).map (W9 t kind))) rfl (by intro h;cases h) rfl rfl (by simp)
abbrev S8 (l:List (Int × Rat)):Blk:={ mode:=.live,elem:=132,size:=5,rows:=toC (l.map k5),box:=false }
abbrev L9 (l:List D3):Blk:={ mode:=.live,elem:=143,size:=6,rows:=toC (l.map y4),box:=false }
abbrev a3k (n:Int) (id len:Nat):Blk:={ mode:=.live,elem:=70,size:=2,rows:=[[.t (ti n),.own id 0 len true]],box:=true }
abbrev b8N (id len:Nat) (kind:Int):Blk:={ mode:=.live,elem:=143,size:=6,rows:=[.own id 0 len true::.t (ti kind)::frC (fz zR)],box:=true }
abbrev b8d (x:n9):Blk:={ mode:=.live,elem:=79,size:=6,rows:=[x.row.map .t],box:=true }
theorem a47 (x:n9):I9 [x.row.map C.t]:=by simp [I9,n9.row,C.isT]
abbrev b8E:Blk:={ mode:=.live,elem:=143,size:=6,rows:=[.t (a8e [])::.t (ti 0)::frC U6],box:=true }
abbrev b1h (el:TypeId) (size:Nat):Blk:=⟨.dead,el,size,[],false,false⟩
theorem a1w {l:List D3} {w:D3} {n:Nat} (h:n=l.length):List.take n (toC (l.map y4))++toC [y4 w]=toC ((l++[w]).map y4):=by
 rw [lbn (by simp [toC,h])]
 simp [toC]
theorem bb2 (n:Int) (rows:List D3) (hr:rows.length<=1000000) (mv:Nat) (kind:Int) (v:Rat):
 a9 Tryz.prog 128 [a7 .i64 mv,a7 .i64 kind,frS (fz v),.c (.ptr 0 0 0)] [a3k n 1 rows.length,L9 rows] (.tup []) [a3k n 2 (rows.length+1),b1h 143 6,L9 (rows++[p9 mv kind v])]:=by
 have i1:=N4 1 (by decide) (by decide)
 (refine ac Tryz.func128 ?_;(conv=>whnf);repeat ((first|refine b0x ?_|refine zy ?_);conv=>whnf))
 repeat' (first|refine zz ?_|refine qp i1 ?_|refine qp toC ?_|refine qp toC ?_|refine a2n.weak ?_|refine o8 (by simp [toC]) (by simp [toC];omega) ?_|refine zd ?_ ?_<;>intro h<;>try omega|refine zy ?_|fail)<;>conv=>whnf
 refine ⟨⟨[some 0,some 1,some 2],rfl,rfl,⟨⟨rfl,rfl,rfl,.inr ⟨⟨rfl,⟨rfl,rfl,rfl,fun h=>h⟩,trivial⟩,trivial⟩⟩,⟨rfl,rfl,rfl,.inl ⟨rfl,by simp [I9]⟩⟩,a8 rfl rfl rfl ?_ rfl,trivial⟩,trivial⟩⟩
 show List.take rows.length (toC (rows.map y4))++toC [y4 (p9 mv kind v)]=_
 exact a1w rfl
theorem b9o {H:Hp} {id:Nat} {n:Int} {rows:List D3} (hs:H[2]? =some (a3k n id rows.length)) (hid:H[id]? =some (L9 rows)) (hne:id≠2) (hr:rows.length<=1000000) (mv:Nat) (kind:Int) (v:Rat):
 a9 Tryz.prog 128 [a7 .i64 mv,a7 .i64 kind,frS (fz v),.c (.ptr 2 0 0)] H (.tup []) (((H.set 2 (a3k n H.length (rows.length+1))).set id (b1h 143 6))++[L9 (rows++[p9 mv kind v])]):=by
 have h2:2<H.length:=(lbe.1 hs).1
 have hi:id<H.length:=(lbe.1 hid).1
 have ex:a4w [2,id] H.length 1=[2,id,H.length]:=by simp [a4w]
 refine O6 [2,id] (bb2 n rows hr mv kind v) rfl rfl rfl (by simp;omega) ?_ ?_ (by simp) rfl rfl (by simp) ?_ ?_
 ·intro i k hk
  match i,hk with
  |0,hk=>
   injection hk with hk
   subst hk
   exact ⟨rfl,rfl,by simp [okL,okC],_,hs,⟨rfl,rfl,rfl,rfl,by simp [a8C,a21,a01]⟩⟩
  |1,hk=>
   injection hk with hk
   subst hk
   exact ⟨rfl,rfl,a2i _,_,hid,C0 rfl⟩
 ·intro k hk
  simp at hk
  rcases hk with rfl|rfl|rfl<;>(intro h;cases h)
 ·intro i k hk
  show ∃k',_[(a4w [2,id] H.length 1).getD i 0]? =some k'∧az9 (a4w [2,id] H.length 1) k k'
  rw [ex]
  match i,hk with
  |0,hk=>
   injection hk with hk
   subst hk
   refine ⟨a3k n H.length (rows.length+1),?_,⟨rfl,rfl,rfl,rfl,by simp [a8C,a21,a01]⟩⟩
   show (_++_)[2]? =_
   rw [lbb (by simp;omega),lbg,if_neg (by omega),lbg,if_pos rfl,if_pos h2]
  |1,hk=>
   injection hk with hk
   subst hk
   refine ⟨b1h 143 6,?_,⟨rfl,rfl,rfl,rfl,rfl⟩⟩
   show (_++_)[id]? =_
   rw [lbb (by simp;omega),lbg,if_pos rfl,if_pos (by simp;omega)]
  |2,hk=>
   injection hk with hk
   subst hk
   refine ⟨L9 (rows++[p9 mv kind v]),?_,C0 rfl⟩
   show (_++_)[H.length]? =_
   rw [lbc (by simp)]
   simp
 ·intro j hj hjn
  simp at hjn
  rw [lbb (by simp;omega),lbg,if_neg (by omega),lbg,if_neg (by omega)]
theorem a1A {l:List (Int × Rat)} {w:Int × Rat} {n:Nat} (h:n=l.length):List.take n (toC (l.map k5))++toC [k5 w]=toC ((l++[w]).map k5):=by
 rw [lbn (by simp [toC,h])]
 simp [toC]
theorem U2 {e:Ev} {p:Int} {k:Nat} {y:n9} (h:e.moves[k]? =some y):j0 e p (k+1)=if y.dst=p then j0 e p k++[((k:Int),((1:Int):Rat))] else if y.src=p then j0 e p k++[((k:Int),((-1:Int):Rat))] else j0 e p k:=by rw [j0,h]
theorem a2s {e:Ev} {p:Int}:∀k,(j0 e p k).length<=k
 |0=>by simp [j0]
 |k+1=>by
  have ih:=a2s (e:=e) (p:=p) k
  unfold j0
  cases e.moves[k]? with
  |none=>simp only;omega
  |some y=>
   simp only
   split
   ·simp;omega
   ·split
    ·simp;omega
    ·omega
theorem b7B (e:Ev) (h0:y8 e=0) {i:Nat} {x:n9} (hx:e.moves[i]? =some x):a9 Tryz.prog 129 [evS e,a7 .i64 i] [] (aJ0 (u9 e i x)) []:=by
 obtain ⟨b1,b2,b3,b4⟩:=a0e h0
 have hi:i<e.moves.length:=(lbe.1 hx).1
 have m0:(e.moves.map n9.row).length=e.moves.length:=by simp
 have i0:=N4 0 (by decide) (by decide)
 have i1:=N4 1 (by decide) (by decide)
 have im:=N4 (-1) (by decide) (by decide)
 have tk:(e.moves.map n9.row).take i=(e.moves.take i).map n9.row:=(List.map_take ..).symm
 have tl:(e.moves.take i).length=i:=by simp;omega
 have mt:((e.moves.take i).map n9.row).length=i:=by simp;omega
 cases hal:x.all
 case' false=>have hK:(u9 e i x).kind=0:=by unfold u9;rw [hal];rfl
 case' true=>have hK:(u9 e i x).kind=2:=by unfold u9;rw [hal];rfl
 all_goals
  (refine ac Tryz.func129 ?_;(conv=>whnf);repeat ((first|refine b0x ?_|refine zy ?_);conv=>whnf))
  repeat' (first|refine zx ?_|refine qp i0 ?_|refine b9 hx ?_|refine a4r (by omega) (by omega) (by omega) ?_|refine zd ?_ ?_<;>intro h<;>try omega|fail)<;>conv=>whnf
  all_goals first
   |omega
   |(exfalso;simp_all;done)
   |skip
  refine d8 c8 (fun k=>([J,a7 .i64 i,J,J,S.c (C.ptr 0 0 0),S.c (C.ptr 1 0 0),S.c (C.ptr 2 0 0)]++Jn 15++[S.c (C.t (a1g (e.moves.take i))),a7 .i64 i,a7 .i64 k]++Jn 40,[b8E,b8d x,b8N 3 (j0 e x.src k).length (u9 e i x).kind,S8 (j0 e x.src k)])) i (fun _=>True) [some 0,some 1,some 2,none] trivial ?_ ?_
  ·rw [hK]
   refine ⟨rfl,rfl,⟨⟨rfl,rfl,rfl,.inr ⟨⟨rfl,rfl,rfl,rfl,rfl,rfl,trivial⟩,trivial⟩⟩,⟨rfl,rfl,rfl,.inl ⟨rfl,a47 x⟩⟩,⟨rfl,rfl,rfl,.inr ⟨⟨⟨rfl,rfl,rfl⟩,rfl,rfl,rfl,rfl,rfl,trivial⟩,trivial⟩⟩,⟨rfl,rfl⟩,trivial⟩,⟨rfl,⟨rfl,rfl,rfl⟩,⟨rfl,rfl,rfl⟩,⟨rfl,rfl,rfl⟩,g6 ?_,b8 ?_,rfl,trivial⟩⟩
   ·show T.sl 6 _ (((e.moves.map n9.row).take ((i:Int)).toNat).drop 0)=_
    rw [lbY,tk];rfl
   ·show ((((e.moves.map n9.row).take ((i:Int)).toNat).drop 0).length:Int)=i
    rw [lbY,tk,List.drop_zero,mt]
  intro k hk _
  have kl:=a2s (e:=e) (p:=x.src) k
  by_cases hlt:k<i
  ·obtain ⟨y,hy⟩:∃y,e.moves[k]? =some y:=⟨_,lbf (by omega)⟩
   have hyt:(e.moves.take i)[k]? =some y:=by rw [lbi,if_pos hlt];exact hy
   by_cases c1:y.dst=x.src
   ·have et:j0 e x.src (k+1)=j0 e x.src k++[((k:Int),((1:Int):Rat))]:=by rw [U2 hy,if_pos c1]
    conv=>whnf
    repeat' (first|refine zx ?_|refine qp i1 ?_|refine qp toC ?_|refine qp toC ?_|refine b9 hyt ?_|refine o8 (by simp [toC]) (by simp [toC];omega) ?_|refine zd ?_ ?_<;>intro h<;>try omega|fail)<;>conv=>whnf
    all_goals try omega
    refine ⟨hlt,trivial,[some 0,some 1,some 2,some 5],rfl,rfl,⟨⟨rfl,rfl,rfl,.inr ⟨⟨rfl,rfl,rfl,rfl,rfl,rfl,trivial⟩,trivial⟩⟩,⟨rfl,rfl,rfl,.inl ⟨rfl,a47 x⟩⟩,⟨rfl,rfl,rfl,.inr ⟨⟨⟨rfl,rfl,?_,fun h=>h⟩,rfl,rfl,rfl,rfl,rfl,trivial⟩,trivial⟩⟩,a8 rfl rfl rfl ?_ rfl,trivial⟩,⟨rfl,⟨rfl,rfl,rfl⟩,⟨rfl,rfl,rfl⟩,⟨rfl,rfl,rfl⟩,rfl,rfl,rfl,trivial⟩⟩
    ·rw [et,lbq];rfl
    ·rw [et]
     show List.take (j0 e x.src k).length (toC ((j0 e x.src k).map k5))++toC [k5 ((k:Int),((1:Int):Rat))]=_
     exact a1A rfl
   ·by_cases c2:y.src=x.src
    ·have et:j0 e x.src (k+1)=j0 e x.src k++[((k:Int),((-1:Int):Rat))]:=by rw [U2 hy,if_neg c1,if_pos c2]
     conv=>whnf
     repeat' (first|refine zx ?_|refine qp im ?_|refine qp toC ?_|refine qp toC ?_|refine b9 hyt ?_|refine o8 (by simp [toC]) (by simp [toC];omega) ?_|refine zd ?_ ?_<;>intro h<;>try omega|fail)<;>conv=>whnf
     all_goals try omega
     refine ⟨hlt,trivial,[some 0,some 1,some 2,some 5],rfl,rfl,⟨⟨rfl,rfl,rfl,.inr ⟨⟨rfl,rfl,rfl,rfl,rfl,rfl,trivial⟩,trivial⟩⟩,⟨rfl,rfl,rfl,.inl ⟨rfl,a47 x⟩⟩,⟨rfl,rfl,rfl,.inr ⟨⟨⟨rfl,rfl,?_,fun h=>h⟩,rfl,rfl,rfl,rfl,rfl,trivial⟩,trivial⟩⟩,a8 rfl rfl rfl ?_ rfl,trivial⟩,⟨rfl,⟨rfl,rfl,rfl⟩,⟨rfl,rfl,rfl⟩,⟨rfl,rfl,rfl⟩,rfl,rfl,rfl,trivial⟩⟩
     ·rw [et,lbq];rfl
     ·rw [et]
      show List.take (j0 e x.src k).length (toC ((j0 e x.src k).map k5))++toC [k5 ((k:Int),((-1:Int):Rat))]=_
      exact a1A rfl
    ·have et:j0 e x.src (k+1)=j0 e x.src k:=by rw [U2 hy,if_neg c1,if_neg c2]
     conv=>whnf
     repeat' (first|refine zx ?_|refine b9 hyt ?_|refine zd ?_ ?_<;>intro h<;>try omega|fail)<;>conv=>whnf
     all_goals try omega
     refine ⟨hlt,trivial,[some 0,some 1,some 2,some 3],rfl,rfl,⟨⟨rfl,rfl,rfl,.inr ⟨⟨rfl,rfl,rfl,rfl,rfl,rfl,trivial⟩,trivial⟩⟩,⟨rfl,rfl,rfl,.inl ⟨rfl,a47 x⟩⟩,⟨rfl,rfl,rfl,.inr ⟨⟨⟨rfl,rfl,?_,fun h=>h⟩,rfl,rfl,rfl,rfl,rfl,trivial⟩,trivial⟩⟩,a8 rfl rfl rfl ?_ rfl,trivial⟩,⟨rfl,⟨rfl,rfl,rfl⟩,⟨rfl,rfl,rfl⟩,⟨rfl,rfl,rfl⟩,rfl,rfl,rfl,trivial⟩⟩
     ·rw [et]
     ·rw [et]
  ·have hke:k=i:=by omega
   subst hke
   conv=>whnf
   repeat' (first|refine zx ?_|refine qp im ?_|refine qp toC ?_|refine qp toC ?_|refine o8 (by simp [toC]) (by simp [toC];omega) ?_|refine zd ?_ ?_<;>intro h<;>try omega|fail)<;>conv=>whnf
   all_goals try omega
   refine k9 ⟨show VC _ (fun id=>E4 [] id=true) _ _ from u4 rfl rfl (by intro h;cases h) rfl (rows:=(j0 e x.src k++[((k:Int),((-1:Int):Rat))]).map k5) ?_ ?_,rfl,rfl,rfl,rfl,rfl,trivial⟩
   ·show List.take (j0 e x.src k).length (toC ((j0 e x.src k).map k5))++toC [k5 ((k:Int),((-1:Int):Rat))]=_
    exact a1A rfl
   ·rw [lbr,lbq];rfl
theorem a90 {e:Ev}:∀{l:List Q3},M5 e l=0->∀c ∈ l,0<=c.mv∧c.mv<e.moves.length
 |[],_,c,hc=>by cases hc
 |g::r,h,c,hc=>by
  unfold M5 at h
  by_cases h1:a1n e g.mv g.kind≠0
  ·rw [if_pos h1] at h;exact absurd h h1
  rw [if_neg h1] at h
  rcases lbA.1 hc with rfl|hc
  ·unfold a1n at h1
   by_cases h3:c.mv<0∨(e.moves.length:Int)<=c.mv
   ·rw [if_pos h3] at h1;exact absurd (by decide) h1
   omega
  ·exact a90 h c hc
def hiR (o:Option (Rat × Rat)):Rat:=match o with
 |some (_,hi)=>hi
 |none=>0
theorem ae8 {e:Ev} {x:n9} (h:(B2 e x).isSome=true):hiF (B2 e x)=fz (hiR (B2 e x))∧rl (hiR (B2 e x))<=200:=by
 cases hiv:B2 e x with
 |none=>rw [hiv] at h;cases h
 |some p=>
  obtain ⟨lo,hi⟩:=p
  refine ⟨rfl,?_⟩
  show rl hi<=200
  unfold B2 at hiv
  by_cases hs:x.scale=-1
  ·rw [if_pos hs] at hiv;cases hiv
  ·rw [if_neg hs] at hiv
   have:=(a9p hiv).2
   omega
theorem a0S {H:Hp} {id len:Nat} {n:Int} {rows:List D3} {rs:List (List C)} {f:Fr} {v:Rat} (hf:f=fz v) (hs:H[2]? =some (a3k n id len)) (hid:H[id]? =some { mode:=.live,elem:=143,size:=6,rows:=rs,box:=false })
 (hlen:len=rows.length) (hrs:rs=toC (rows.map y4)) (hne:id≠2) (hr:rows.length<=1000000) (mv:Nat) (kind:Int):
 a9 Tryz.prog 128 [a7 .i64 mv,a7 .i64 kind,frS f,.c (.ptr 2 0 0)] H (.tup []) (((H.set 2 (a3k n H.length (rows.length+1))).set id (b1h 143 6))++[L9 (rows++[p9 mv kind v])]):=by
 subst hf;subst hlen;subst hrs;exact b9o hs hid hne hr mv kind v
theorem ah2 {t:d9} {kind:Int} {k:Nat} (hk:k<=200) (hf:t.finds.length<=20) (hc:t.cleans.length<=50):(s6 t kind k).length<=14400:=by
 have h1:=S7 (t:=t) (kind:=kind) k
 have h2:=lbT hk (show 2+t.finds.length+t.cleans.length<=72 by omega)
 omega
abbrev az2 (t:d9) (kind:Int) (i:Nat):Blk:={ mode:=.live,elem:=119,size:=7,rows:=[(W9 t kind i).map .t],box:=true }
theorem U0 {ρ:List (Option Nat)} {H:Hp}:∀rows:List (List T),a4Z ρ H (rows.map (·.map C.t)) (rows.map (·.map C.t))
 |[]=>trivial
 |r::rs=>⟨N1 r,U0 rs⟩
abbrev a7k:FuncId:=128
abbrev a22:Blk:={ mode:=.live,elem:=70,size:=2,rows:=[[.t (ti 0),.t (O7 [])]],box:=true }
theorem b3o {P:Program} {f:FuncId} {args:List S} {H H1 H':Hp} {r s:S} (h:a9 P f args H r H1) (hf:Fin H.length r H1 s H'):a9 P f args H s H':=by
 refine ⟨h.1,fun w ι M vals hl hr hH hM hF=>?_⟩
 refine Calls.mono (h.2 w ι M vals hl hr hH hM hF) ?_
 rintro e w' ⟨v,rfl,ι',M',h4,hH',hM',hF',hst⟩
 obtain ⟨ρ,f1,f2,f3,f4⟩:=hf
 obtain ⟨g1,g2,g3⟩:=a4a.all f1 f2 f3 rfl hM hH' hst
 exact ⟨v,rfl,P6 ρ ι',_,f4.rs hH' h4,g1,fun b hb=>hM' b hb.1,g2,g3⟩
theorem b2V (t:d9) (kind:Int) (hs:t.Sized) (h1:¬(v3 t≠0∨kind<0∨8<=kind)):a9 Tryz.prog 60 [trS t,a7 .i64 kind] [] (.tup [.agg [.t (ti t.ev.moves.length),.own 0 0 (R5 t kind).rows.length true],a7 .i64 0]) [L9 (R5 t kind).rows]:=by
 have ck:=ae1 t hs
 have m2:(t.ev.moves.map n9.row).length=t.ev.moves.length:=by simp
 obtain ⟨k1,k2,k3⟩:v3 t=0∧0<=kind∧kind<8:=by omega
 rw [k1] at ck
 obtain ⟨q1,q2,q3,q4,q5⟩:=o4 k1
 obtain ⟨b1,b2,b3,b4⟩:=a0e q1
 have kn:=b71 t kind hs q1 (fun f hf=>by have:=F9 q4 f hf;omega) (fun c hc=>a90 q5 c hc)
 (refine ac Tryz.func60 ?_;(conv=>whnf);repeat ((first|refine b0x ?_|refine zy ?_);conv=>whnf))
 repeat' (first|refine zx ?_|refine qp ck ?_|refine qp kn ?_|refine zd ?_ ?_<;>intro h<;>try omega|fail)<;>conv=>whnf
 all_goals try omega
 refine d8 c8 (fun k=>([J,J,J,J,S.c (C.ptr 0 0 0),J,S.c (C.ptr 1 0 0),S.c (C.ptr 2 0 0),S.c (C.fn (Fn.func a7k) [C.ptr 2 0 0])]++Jn 25++[S.c (C.t (a2X t kind)),a7 .i64 t.ev.moves.length,a7 .i64 k]++Jn 47,[a22,evB t.ev,a3k t.ev.moves.length 3 (s6 t kind k).length,L9 (s6 t kind k)])) t.ev.moves.length (fun _=>True) [some 0,some 1,some 2,none] trivial ?_ ?_
 ·refine ⟨rfl,rfl,⟨⟨rfl,rfl,rfl,.inr ⟨⟨rfl,rfl,trivial⟩,trivial⟩⟩,⟨rfl,rfl,rfl,.inl ⟨rfl,j7 _⟩⟩,⟨rfl,rfl,rfl,.inr ⟨⟨?_,⟨rfl,rfl,rfl⟩,trivial⟩,trivial⟩⟩,⟨rfl,rfl⟩,trivial⟩,⟨⟨rfl,rfl,rfl⟩,⟨rfl,rfl,rfl⟩,⟨rfl,rfl,rfl⟩,⟨rfl,⟨rfl,rfl,rfl⟩,trivial⟩,rfl,b8 (by simp),rfl,trivial⟩⟩
  exact a9T (by rw [m2])
 intro k hk _
 by_cases hlt:k<t.ev.moves.length
 ·obtain ⟨x,hx⟩:∃x,t.ev.moves[k]? =some x:=⟨_,lbf hlt⟩
  have bn:=bc5 t.ev q1 hx
  have st:=b7B t.ev q1 hx
  have gk:(List.range t.ev.moves.length)[k]? =some k:=lbh hlt
  have iv:a1K t.ev k=B2 t.ev x:=aB2 hx
  have rl0:=ah2 (t:=t) (kind:=kind) (k:=k) (by omega) q2 q3
  have gl:(i8 t.finds kind k).length<=20:=by unfold i8;rw [lbr];exact lbS (lbt _ _) q2
  have cl:o6 t.cleans kind k<=50:=lbS (lbt _ _) q3
  have i0:=N4 0 (by decide) (by decide)
  obtain ⟨R1,hR1⟩:∃R1:List D3,R1=s6 t kind k++(if j9 t.ev x.src=0 then [] else [u9 t.ev k x])++P1 (B2 t.ev x) k:=⟨_,rfl⟩
  have l5:(s6 t kind k).length+1=(s6 t kind k++[u9 t.ev k x]).length:=by simp
  have r5:List.take (s6 t kind k).length (toC ((s6 t kind k).map y4))++toC [y4 (u9 t.ev k x)]=toC ((s6 t kind k++[u9 t.ev k x]).map y4):=a1w rfl
  have b5:(s6 t kind k++[u9 t.ev k x]).length<=1000000:=by simp;omega
  have b3:(s6 t kind k).length<=1000000:=by omega
  obtain ⟨G,hG⟩:∃G:Nat->List D3,∀j,G j=R1++((i8 t.finds kind k).take j).map (fun g:Int=>p9 k 0 (g:Rat)):=⟨_,fun _=>rfl⟩
  obtain ⟨K,hK⟩:∃K:Nat->List D3,∀j,K j=(R1++(i8 t.finds kind k).map (fun g:Int=>p9 k 0 (g:Rat)))++List.replicate j (p9 k 2 ((0:Int):Rat)):=⟨_,fun _=>rfl⟩
  have hG0:G 0=R1:=by rw [hG];simp
  have hK0:K 0=R1++(i8 t.finds kind k).map (fun g:Int=>p9 k 0 (g:Rat)):=by rw [hK];simp
  have hKe:s6 t kind (k+1)=K (o6 t.cleans kind k):=by
   rw [hK,hR1]
   show (match t.ev.moves[k]? with|none=>s6 t kind k|some x=>s6 t kind k++N6 t kind k x)=_
   rw [hx]
   unfold N6
   simp [lbD]
  have hKs:toC ((K (o6 t.cleans kind k)).map y4)=toC ((s6 t kind (k+1)).map y4)∧(K (o6 t.cleans kind k)).length=(s6 t kind (k+1)).length:=by rw [hKe];exact ⟨rfl,rfl⟩
  have hgr:∀g ∈ i8 t.finds kind k,1<=g∧g<=1099511627776:=fun g hg=>by
   unfold i8 at hg
   obtain ⟨f,hf,rfl⟩:=lbx.1 hg
   have:=F9 q4 f (lby.1 hf).1
   omega
  have hcr:P1 (B2 t.ev x) k=if (B2 t.ev x).isSome then [p9 k 1 (hiR (B2 t.ev x))] else []:=by cases B2 t.ev x<;>rfl
  cases hc:(B2 t.ev x).isSome<;>cases hb:decide (j9 t.ev x.src=0)<;>rw [hb] at bn
  ·have hci:(a1K t.ev k).isSome=false:=by rw [iv];exact hc
   rw [hc] at hcr
   have hcr:P1 (B2 t.ev x) k=[]:=hcr
   have eR:R1=s6 t kind k++[u9 t.ev k x]:=by rw [hR1,hcr];simp only [lbK,lbI] at hb;simp [hb,lbD]
   have hRl:R1.length<=14500:=by rw [eR];(try simp);omega
   conv=>whnf
   repeat' (first|refine zx ?_|refine qp bn ?_|refine qp st ?_|refine qp toC ?_|refine qp toC ?_|refine b9 gk ?_|refine o8 (by simp [toC]) (by simp [toC];omega) ?_|refine zd ?_ ?_<;>intro h<;>try omega|fail)<;>conv=>whnf
   all_goals try omega
   all_goals try (rw [hci] at h;exact absurd h (by decide))
   refine d8 c8 (fun j=>([J,J,J,J,S.c (C.ptr 0 0 0),J,S.c (C.ptr 1 0 0),S.c (C.ptr 2 0 0),S.c (C.fn (Fn.func a7k) [C.ptr 2 0 0]),a7 .i64 k,S.c (C.ptr 4 0 0)]++Jn 23++[S.c (C.t (a2X t kind)),a7 .i64 t.ev.moves.length,a7 .i64 k]++Jn 24++[S.c (C.t (K4 (i8 t.finds kind k))),a7 .i64 (i8 t.finds kind k).length,a7 .i64 j]++Jn 20,[a22,evB t.ev,a3k t.ev.moves.length 3 (G j).length,L9 (G j),az2 t kind k])) (i8 t.finds kind k).length (fun _=>True) [some 0,some 1,some 2,some 5,some 4] trivial ⟨rfl,rfl,⟨⟨rfl,rfl,rfl,.inr ⟨⟨rfl,rfl,trivial⟩,trivial⟩⟩,⟨rfl,rfl,rfl,.inl ⟨rfl,j7 _⟩⟩,⟨rfl,rfl,rfl,.inr ⟨⟨rfl,⟨rfl,rfl,?_,fun h=>h⟩,trivial⟩,trivial⟩⟩,a8 rfl rfl rfl ?_ rfl,⟨rfl,rfl,rfl,.inr (U0 [W9 t kind k])⟩,trivial⟩,⟨⟨rfl,rfl,rfl⟩,⟨rfl,rfl,rfl⟩,⟨rfl,rfl,rfl⟩,⟨rfl,⟨rfl,rfl,rfl⟩,trivial⟩,rfl,⟨rfl,rfl,rfl⟩,rfl,rfl,rfl,rfl,b8 (by simp),rfl,trivial⟩⟩ ?_
   ·simp [hG0,eR,toC]
   ·rw [hG0,eR];exact r5
   intro j hj _
   have hGl:(G j).length<=1000000:=by rw [hG];simp [lbq];omega
   by_cases hjt:j<(i8 t.finds kind k).length
   ·obtain ⟨g,hg⟩:∃g,(i8 t.finds kind k)[j]? =some g:=⟨_,lbf hjt⟩
    have gb:=hgr g (lbm hg)
    have ig:=N4 g (by omega) (by omega)
    have eG:G (j+1)=G j++[p9 k 0 (g:Rat)]:=by rw [hG,hG,lbG,hg];simp
    conv=>whnf
    repeat' (first|refine zx ?_|refine qp ig ?_|refine b9 hg ?_|refine .inr ⟨_,_,a0S (id:=3) rfl rfl rfl rfl rfl (by decide) hGl _ _,?_⟩|refine zd ?_ ?_<;>intro h<;>try omega|fail)<;>conv=>whnf
    all_goals try omega
    refine ⟨hjt,trivial,[some 0,some 1,some 2,some 5,some 4],rfl,rfl,⟨⟨rfl,rfl,rfl,.inr ⟨⟨rfl,rfl,trivial⟩,trivial⟩⟩,⟨rfl,rfl,rfl,.inl ⟨rfl,j7 _⟩⟩,⟨rfl,rfl,rfl,.inr ⟨⟨rfl,⟨rfl,rfl,?_,fun h=>h⟩,trivial⟩,trivial⟩⟩,a8 rfl rfl rfl ?_ rfl,⟨rfl,rfl,rfl,.inr (U0 [W9 t kind k])⟩,trivial⟩,⟨⟨rfl,rfl,rfl⟩,⟨rfl,rfl,rfl⟩,⟨rfl,rfl,rfl⟩,⟨rfl,⟨rfl,rfl,rfl⟩,trivial⟩,rfl,⟨rfl,rfl,rfl⟩,rfl,rfl,rfl,rfl,rfl,rfl,trivial⟩⟩
    ·rw [eG];simp
    ·rw [eG]
   have hje:j=(i8 t.finds kind k).length:=by omega
   subst hje
   have hGe:G (i8 t.finds kind k).length=R1++(i8 t.finds kind k).map (fun g:Int=>p9 k 0 (g:Rat)):=by rw [hG,lbn (lbR _)]
   conv=>whnf
   repeat' (first|refine zx ?_|refine zd ?_ ?_<;>intro h<;>try omega|fail)<;>conv=>whnf
   all_goals try omega
   refine d8 c8 (fun j=>([J,J,J,J,S.c (C.ptr 0 0 0),J,S.c (C.ptr 1 0 0),S.c (C.ptr 2 0 0),S.c (C.fn (Fn.func a7k) [C.ptr 2 0 0]),a7 .i64 k]++Jn 24++[S.c (C.t (a2X t kind)),a7 .i64 t.ev.moves.length,a7 .i64 k]++Jn 37++[a7 .i64 (o6 t.cleans kind k),a7 .i64 j]++Jn 8,[a22,evB t.ev,a3k t.ev.moves.length 3 (K j).length,L9 (K j)])) (o6 t.cleans kind k) (fun _=>True) [some 0,some 1,some 2,some 3] trivial ⟨rfl,rfl,⟨⟨rfl,rfl,rfl,.inr ⟨⟨rfl,rfl,trivial⟩,trivial⟩⟩,⟨rfl,rfl,rfl,.inl ⟨rfl,j7 _⟩⟩,⟨rfl,rfl,rfl,.inr ⟨⟨rfl,⟨rfl,rfl,?_,fun h=>h⟩,trivial⟩,trivial⟩⟩,a8 rfl rfl rfl ?_ rfl,trivial⟩,⟨⟨rfl,rfl,rfl⟩,⟨rfl,rfl,rfl⟩,⟨rfl,rfl,rfl⟩,⟨rfl,⟨rfl,rfl,rfl⟩,trivial⟩,rfl,rfl,rfl,rfl,rfl,rfl,trivial⟩⟩ ?_
   ·rw [hK0,hGe]
   ·rw [hK0,hGe]
   clear hj hjt
   intro j hj _
   have hKl:(K j).length<=1000000:=by rw [hK];simp [lbq];omega
   by_cases hjt:j<o6 t.cleans kind k
   ·have eK:K (j+1)=K j++[p9 k 2 ((0:Int):Rat)]:=by rw [hK,hK,List.replicate_succ'];simp
    conv=>whnf
    repeat' (first|refine zx ?_|refine qp i0 ?_|refine .inr ⟨_,_,a0S (id:=3) rfl rfl rfl rfl rfl (by decide) hKl _ _,?_⟩|refine zd ?_ ?_<;>intro h<;>try omega|fail)<;>conv=>whnf
    all_goals try omega
    refine ⟨hjt,trivial,[some 0,some 1,some 2,some 4],rfl,rfl,⟨⟨rfl,rfl,rfl,.inr ⟨⟨rfl,rfl,trivial⟩,trivial⟩⟩,⟨rfl,rfl,rfl,.inl ⟨rfl,j7 _⟩⟩,⟨rfl,rfl,rfl,.inr ⟨⟨rfl,⟨rfl,rfl,?_,fun h=>h⟩,trivial⟩,trivial⟩⟩,a8 rfl rfl rfl ?_ rfl,trivial⟩,⟨⟨rfl,rfl,rfl⟩,⟨rfl,rfl,rfl⟩,⟨rfl,rfl,rfl⟩,⟨rfl,⟨rfl,rfl,rfl⟩,trivial⟩,rfl,rfl,rfl,rfl,rfl,rfl,trivial⟩⟩
    ·rw [eK];simp
    ·rw [eK]
   have hje:j=o6 t.cleans kind k:=by omega
   subst hje
   conv=>whnf
   repeat' (first|refine zx ?_|refine zd ?_ ?_<;>intro h<;>try omega|fail)<;>conv=>whnf
   all_goals try omega
   exact ⟨hlt,trivial,[some 0,some 1,some 2,some 3],rfl,rfl,⟨⟨rfl,rfl,rfl,.inr ⟨⟨rfl,rfl,trivial⟩,trivial⟩⟩,⟨rfl,rfl,rfl,.inl ⟨rfl,j7 _⟩⟩,⟨rfl,rfl,rfl,.inr ⟨⟨rfl,⟨rfl,rfl,hKs.2,fun h=>h⟩,trivial⟩,trivial⟩⟩,a8 rfl rfl rfl hKs.1 rfl,trivial⟩,⟨⟨rfl,rfl,rfl⟩,⟨rfl,rfl,rfl⟩,⟨rfl,rfl,rfl⟩,⟨rfl,⟨rfl,rfl,rfl⟩,trivial⟩,rfl,rfl,rfl,trivial⟩⟩
  ·have hci:(a1K t.ev k).isSome=false:=by rw [iv];exact hc
   rw [hc] at hcr
   have hcr:P1 (B2 t.ev x) k=[]:=hcr
   have eR:R1=s6 t kind k:=by rw [hR1,hcr];simp only [lbK,lbI] at hb;simp [hb,lbD]
   have hRl:R1.length<=14500:=by rw [eR];(try simp);omega
   conv=>whnf
   repeat' (first|refine zx ?_|refine qp bn ?_|refine qp st ?_|refine qp toC ?_|refine qp toC ?_|refine b9 gk ?_|refine o8 (by simp [toC]) (by simp [toC];omega) ?_|refine zd ?_ ?_<;>intro h<;>try omega|fail)<;>conv=>whnf
   all_goals try omega
   all_goals try (rw [hci] at h;exact absurd h (by decide))
   refine d8 c8 (fun j=>([J,J,J,J,S.c (C.ptr 0 0 0),J,S.c (C.ptr 1 0 0),S.c (C.ptr 2 0 0),S.c (C.fn (Fn.func a7k) [C.ptr 2 0 0]),a7 .i64 k,S.c (C.ptr 4 0 0)]++Jn 23++[S.c (C.t (a2X t kind)),a7 .i64 t.ev.moves.length,a7 .i64 k]++Jn 24++[S.c (C.t (K4 (i8 t.finds kind k))),a7 .i64 (i8 t.finds kind k).length,a7 .i64 j]++Jn 20,[a22,evB t.ev,a3k t.ev.moves.length 3 (G j).length,L9 (G j),az2 t kind k])) (i8 t.finds kind k).length (fun _=>True) [some 0,some 1,some 2,some 3,some 4] trivial ⟨rfl,rfl,⟨⟨rfl,rfl,rfl,.inr ⟨⟨rfl,rfl,trivial⟩,trivial⟩⟩,⟨rfl,rfl,rfl,.inl ⟨rfl,j7 _⟩⟩,⟨rfl,rfl,rfl,.inr ⟨⟨rfl,⟨rfl,rfl,?_,fun h=>h⟩,trivial⟩,trivial⟩⟩,a8 rfl rfl rfl ?_ rfl,⟨rfl,rfl,rfl,.inr (U0 [W9 t kind k])⟩,trivial⟩,⟨⟨rfl,rfl,rfl⟩,⟨rfl,rfl,rfl⟩,⟨rfl,rfl,rfl⟩,⟨rfl,⟨rfl,rfl,rfl⟩,trivial⟩,rfl,⟨rfl,rfl,rfl⟩,rfl,rfl,rfl,rfl,b8 (by simp),rfl,trivial⟩⟩ ?_
   ·simp [hG0,eR,toC]
   ·rw [hG0,eR]<;>rfl
   intro j hj _
   have hGl:(G j).length<=1000000:=by rw [hG];simp [lbq];omega
   by_cases hjt:j<(i8 t.finds kind k).length
   ·obtain ⟨g,hg⟩:∃g,(i8 t.finds kind k)[j]? =some g:=⟨_,lbf hjt⟩
    have gb:=hgr g (lbm hg)
    have ig:=N4 g (by omega) (by omega)
    have eG:G (j+1)=G j++[p9 k 0 (g:Rat)]:=by rw [hG,hG,lbG,hg];simp
    conv=>whnf
    repeat' (first|refine zx ?_|refine qp ig ?_|refine b9 hg ?_|refine .inr ⟨_,_,a0S (id:=3) rfl rfl rfl rfl rfl (by decide) hGl _ _,?_⟩|refine zd ?_ ?_<;>intro h<;>try omega|fail)<;>conv=>whnf
    all_goals try omega
    refine ⟨hjt,trivial,[some 0,some 1,some 2,some 5,some 4],rfl,rfl,⟨⟨rfl,rfl,rfl,.inr ⟨⟨rfl,rfl,trivial⟩,trivial⟩⟩,⟨rfl,rfl,rfl,.inl ⟨rfl,j7 _⟩⟩,⟨rfl,rfl,rfl,.inr ⟨⟨rfl,⟨rfl,rfl,?_,fun h=>h⟩,trivial⟩,trivial⟩⟩,a8 rfl rfl rfl ?_ rfl,⟨rfl,rfl,rfl,.inr (U0 [W9 t kind k])⟩,trivial⟩,⟨⟨rfl,rfl,rfl⟩,⟨rfl,rfl,rfl⟩,⟨rfl,rfl,rfl⟩,⟨rfl,⟨rfl,rfl,rfl⟩,trivial⟩,rfl,⟨rfl,rfl,rfl⟩,rfl,rfl,rfl,rfl,rfl,rfl,trivial⟩⟩
    ·rw [eG];simp
    ·rw [eG]
   have hje:j=(i8 t.finds kind k).length:=by omega
   subst hje
   have hGe:G (i8 t.finds kind k).length=R1++(i8 t.finds kind k).map (fun g:Int=>p9 k 0 (g:Rat)):=by rw [hG,lbn (lbR _)]
   conv=>whnf
   repeat' (first|refine zx ?_|refine zd ?_ ?_<;>intro h<;>try omega|fail)<;>conv=>whnf
   all_goals try omega
   refine d8 c8 (fun j=>([J,J,J,J,S.c (C.ptr 0 0 0),J,S.c (C.ptr 1 0 0),S.c (C.ptr 2 0 0),S.c (C.fn (Fn.func a7k) [C.ptr 2 0 0]),a7 .i64 k]++Jn 24++[S.c (C.t (a2X t kind)),a7 .i64 t.ev.moves.length,a7 .i64 k]++Jn 37++[a7 .i64 (o6 t.cleans kind k),a7 .i64 j]++Jn 8,[a22,evB t.ev,a3k t.ev.moves.length 3 (K j).length,L9 (K j)])) (o6 t.cleans kind k) (fun _=>True) [some 0,some 1,some 2,some 3] trivial ⟨rfl,rfl,⟨⟨rfl,rfl,rfl,.inr ⟨⟨rfl,rfl,trivial⟩,trivial⟩⟩,⟨rfl,rfl,rfl,.inl ⟨rfl,j7 _⟩⟩,⟨rfl,rfl,rfl,.inr ⟨⟨rfl,⟨rfl,rfl,?_,fun h=>h⟩,trivial⟩,trivial⟩⟩,a8 rfl rfl rfl ?_ rfl,trivial⟩,⟨⟨rfl,rfl,rfl⟩,⟨rfl,rfl,rfl⟩,⟨rfl,rfl,rfl⟩,⟨rfl,⟨rfl,rfl,rfl⟩,trivial⟩,rfl,rfl,rfl,rfl,rfl,rfl,trivial⟩⟩ ?_
   ·rw [hK0,hGe]
   ·rw [hK0,hGe]
   clear hj hjt
   intro j hj _
   have hKl:(K j).length<=1000000:=by rw [hK];simp [lbq];omega
   by_cases hjt:j<o6 t.cleans kind k
   ·have eK:K (j+1)=K j++[p9 k 2 ((0:Int):Rat)]:=by rw [hK,hK,List.replicate_succ'];simp
    conv=>whnf
    repeat' (first|refine zx ?_|refine qp i0 ?_|refine .inr ⟨_,_,a0S (id:=3) rfl rfl rfl rfl rfl (by decide) hKl _ _,?_⟩|refine zd ?_ ?_<;>intro h<;>try omega|fail)<;>conv=>whnf
    all_goals try omega
    refine ⟨hjt,trivial,[some 0,some 1,some 2,some 4],rfl,rfl,⟨⟨rfl,rfl,rfl,.inr ⟨⟨rfl,rfl,trivial⟩,trivial⟩⟩,⟨rfl,rfl,rfl,.inl ⟨rfl,j7 _⟩⟩,⟨rfl,rfl,rfl,.inr ⟨⟨rfl,⟨rfl,rfl,?_,fun h=>h⟩,trivial⟩,trivial⟩⟩,a8 rfl rfl rfl ?_ rfl,trivial⟩,⟨⟨rfl,rfl,rfl⟩,⟨rfl,rfl,rfl⟩,⟨rfl,rfl,rfl⟩,⟨rfl,⟨rfl,rfl,rfl⟩,trivial⟩,rfl,rfl,rfl,rfl,rfl,rfl,trivial⟩⟩
    ·rw [eK];simp
    ·rw [eK]
   have hje:j=o6 t.cleans kind k:=by omega
   subst hje
   conv=>whnf
   repeat' (first|refine zx ?_|refine zd ?_ ?_<;>intro h<;>try omega|fail)<;>conv=>whnf
   all_goals try omega
   exact ⟨hlt,trivial,[some 0,some 1,some 2,some 3],rfl,rfl,⟨⟨rfl,rfl,rfl,.inr ⟨⟨rfl,rfl,trivial⟩,trivial⟩⟩,⟨rfl,rfl,rfl,.inl ⟨rfl,j7 _⟩⟩,⟨rfl,rfl,rfl,.inr ⟨⟨rfl,⟨rfl,rfl,hKs.2,fun h=>h⟩,trivial⟩,trivial⟩⟩,a8 rfl rfl rfl hKs.1 rfl,trivial⟩,⟨⟨rfl,rfl,rfl⟩,⟨rfl,rfl,rfl⟩,⟨rfl,rfl,rfl⟩,⟨rfl,⟨rfl,rfl,rfl⟩,trivial⟩,rfl,rfl,rfl,trivial⟩⟩
  ·have hci:(a1K t.ev k).isSome=true:=by rw [iv];exact hc
   rw [hc] at hcr
   have hcr:P1 (B2 t.ev x) k=[p9 k 1 (hiR (B2 t.ev x))]:=hcr
   have eR:R1=(s6 t kind k++[u9 t.ev k x])++[p9 k 1 (hiR (B2 t.ev x))]:=by rw [hR1,hcr];simp only [lbK,lbI] at hb;simp [hb,lbD]
   have hRl:R1.length<=14500:=by rw [eR];(try simp);omega
   have hfv:hiF (a1K t.ev k)=fz (hiR (B2 t.ev x)):=by rw [iv];exact (ae8 hc).1
   conv=>whnf
   repeat' (first|refine zx ?_|refine qp bn ?_|refine qp st ?_|refine qp toC ?_|refine qp toC ?_|refine b9 gk ?_|refine o8 (by simp [toC]) (by simp [toC];omega) ?_|refine .inr ⟨_,_,a0S (id:=5) hfv rfl rfl l5 r5 (by decide) b5 _ _,?_⟩|refine zd ?_ ?_<;>intro h<;>try omega|fail)<;>conv=>whnf
   all_goals try omega
   all_goals try (rw [hci] at h;exact absurd h (by decide))
   refine d8 c8 (fun j=>([J,J,J,J,S.c (C.ptr 0 0 0),J,S.c (C.ptr 1 0 0),S.c (C.ptr 2 0 0),S.c (C.fn (Fn.func a7k) [C.ptr 2 0 0]),a7 .i64 k,S.c (C.ptr 4 0 0)]++Jn 23++[S.c (C.t (a2X t kind)),a7 .i64 t.ev.moves.length,a7 .i64 k]++Jn 24++[S.c (C.t (K4 (i8 t.finds kind k))),a7 .i64 (i8 t.finds kind k).length,a7 .i64 j]++Jn 20,[a22,evB t.ev,a3k t.ev.moves.length 3 (G j).length,L9 (G j),az2 t kind k])) (i8 t.finds kind k).length (fun _=>True) [some 0,some 1,some 2,some 6,some 4] trivial ⟨rfl,rfl,⟨⟨rfl,rfl,rfl,.inr ⟨⟨rfl,rfl,trivial⟩,trivial⟩⟩,⟨rfl,rfl,rfl,.inl ⟨rfl,j7 _⟩⟩,⟨rfl,rfl,rfl,.inr ⟨⟨rfl,⟨rfl,rfl,?_,fun h=>h⟩,trivial⟩,trivial⟩⟩,a8 rfl rfl rfl ?_ rfl,⟨rfl,rfl,rfl,.inr (U0 [W9 t kind k])⟩,trivial⟩,⟨⟨rfl,rfl,rfl⟩,⟨rfl,rfl,rfl⟩,⟨rfl,rfl,rfl⟩,⟨rfl,⟨rfl,rfl,rfl⟩,trivial⟩,rfl,⟨rfl,rfl,rfl⟩,rfl,rfl,rfl,rfl,b8 (by simp),rfl,trivial⟩⟩ ?_
   ·simp [hG0,eR,toC]
   ·rw [hG0,eR]<;>rfl
   intro j hj _
   have hGl:(G j).length<=1000000:=by rw [hG];simp [lbq];omega
   by_cases hjt:j<(i8 t.finds kind k).length
   ·obtain ⟨g,hg⟩:∃g,(i8 t.finds kind k)[j]? =some g:=⟨_,lbf hjt⟩
    have gb:=hgr g (lbm hg)
    have ig:=N4 g (by omega) (by omega)
    have eG:G (j+1)=G j++[p9 k 0 (g:Rat)]:=by rw [hG,hG,lbG,hg];simp
    conv=>whnf
    repeat' (first|refine zx ?_|refine qp ig ?_|refine b9 hg ?_|refine .inr ⟨_,_,a0S (id:=3) rfl rfl rfl rfl rfl (by decide) hGl _ _,?_⟩|refine zd ?_ ?_<;>intro h<;>try omega|fail)<;>conv=>whnf
    all_goals try omega
    refine ⟨hjt,trivial,[some 0,some 1,some 2,some 5,some 4],rfl,rfl,⟨⟨rfl,rfl,rfl,.inr ⟨⟨rfl,rfl,trivial⟩,trivial⟩⟩,⟨rfl,rfl,rfl,.inl ⟨rfl,j7 _⟩⟩,⟨rfl,rfl,rfl,.inr ⟨⟨rfl,⟨rfl,rfl,?_,fun h=>h⟩,trivial⟩,trivial⟩⟩,a8 rfl rfl rfl ?_ rfl,⟨rfl,rfl,rfl,.inr (U0 [W9 t kind k])⟩,trivial⟩,⟨⟨rfl,rfl,rfl⟩,⟨rfl,rfl,rfl⟩,⟨rfl,rfl,rfl⟩,⟨rfl,⟨rfl,rfl,rfl⟩,trivial⟩,rfl,⟨rfl,rfl,rfl⟩,rfl,rfl,rfl,rfl,rfl,rfl,trivial⟩⟩
    ·rw [eG];simp
    ·rw [eG]
   have hje:j=(i8 t.finds kind k).length:=by omega
   subst hje
   have hGe:G (i8 t.finds kind k).length=R1++(i8 t.finds kind k).map (fun g:Int=>p9 k 0 (g:Rat)):=by rw [hG,lbn (lbR _)]
   conv=>whnf
   repeat' (first|refine zx ?_|refine zd ?_ ?_<;>intro h<;>try omega|fail)<;>conv=>whnf
   all_goals try omega
   refine d8 c8 (fun j=>([J,J,J,J,S.c (C.ptr 0 0 0),J,S.c (C.ptr 1 0 0),S.c (C.ptr 2 0 0),S.c (C.fn (Fn.func a7k) [C.ptr 2 0 0]),a7 .i64 k]++Jn 24++[S.c (C.t (a2X t kind)),a7 .i64 t.ev.moves.length,a7 .i64 k]++Jn 37++[a7 .i64 (o6 t.cleans kind k),a7 .i64 j]++Jn 8,[a22,evB t.ev,a3k t.ev.moves.length 3 (K j).length,L9 (K j)])) (o6 t.cleans kind k) (fun _=>True) [some 0,some 1,some 2,some 3] trivial ⟨rfl,rfl,⟨⟨rfl,rfl,rfl,.inr ⟨⟨rfl,rfl,trivial⟩,trivial⟩⟩,⟨rfl,rfl,rfl,.inl ⟨rfl,j7 _⟩⟩,⟨rfl,rfl,rfl,.inr ⟨⟨rfl,⟨rfl,rfl,?_,fun h=>h⟩,trivial⟩,trivial⟩⟩,a8 rfl rfl rfl ?_ rfl,trivial⟩,⟨⟨rfl,rfl,rfl⟩,⟨rfl,rfl,rfl⟩,⟨rfl,rfl,rfl⟩,⟨rfl,⟨rfl,rfl,rfl⟩,trivial⟩,rfl,rfl,rfl,rfl,rfl,rfl,trivial⟩⟩ ?_
   ·rw [hK0,hGe]
   ·rw [hK0,hGe]
   clear hj hjt
   intro j hj _
   have hKl:(K j).length<=1000000:=by rw [hK];simp [lbq];omega
   by_cases hjt:j<o6 t.cleans kind k
   ·have eK:K (j+1)=K j++[p9 k 2 ((0:Int):Rat)]:=by rw [hK,hK,List.replicate_succ'];simp
    conv=>whnf
    repeat' (first|refine zx ?_|refine qp i0 ?_|refine .inr ⟨_,_,a0S (id:=3) rfl rfl rfl rfl rfl (by decide) hKl _ _,?_⟩|refine zd ?_ ?_<;>intro h<;>try omega|fail)<;>conv=>whnf
    all_goals try omega
    refine ⟨hjt,trivial,[some 0,some 1,some 2,some 4],rfl,rfl,⟨⟨rfl,rfl,rfl,.inr ⟨⟨rfl,rfl,trivial⟩,trivial⟩⟩,⟨rfl,rfl,rfl,.inl ⟨rfl,j7 _⟩⟩,⟨rfl,rfl,rfl,.inr ⟨⟨rfl,⟨rfl,rfl,?_,fun h=>h⟩,trivial⟩,trivial⟩⟩,a8 rfl rfl rfl ?_ rfl,trivial⟩,⟨⟨rfl,rfl,rfl⟩,⟨rfl,rfl,rfl⟩,⟨rfl,rfl,rfl⟩,⟨rfl,⟨rfl,rfl,rfl⟩,trivial⟩,rfl,rfl,rfl,rfl,rfl,rfl,trivial⟩⟩
    ·rw [eK];simp
    ·rw [eK]
   have hje:j=o6 t.cleans kind k:=by omega
   subst hje
   conv=>whnf
   repeat' (first|refine zx ?_|refine zd ?_ ?_<;>intro h<;>try omega|fail)<;>conv=>whnf
   all_goals try omega
   exact ⟨hlt,trivial,[some 0,some 1,some 2,some 3],rfl,rfl,⟨⟨rfl,rfl,rfl,.inr ⟨⟨rfl,rfl,trivial⟩,trivial⟩⟩,⟨rfl,rfl,rfl,.inl ⟨rfl,j7 _⟩⟩,⟨rfl,rfl,rfl,.inr ⟨⟨rfl,⟨rfl,rfl,hKs.2,fun h=>h⟩,trivial⟩,trivial⟩⟩,a8 rfl rfl rfl hKs.1 rfl,trivial⟩,⟨⟨rfl,rfl,rfl⟩,⟨rfl,rfl,rfl⟩,⟨rfl,rfl,rfl⟩,⟨rfl,⟨rfl,rfl,rfl⟩,trivial⟩,rfl,rfl,rfl,trivial⟩⟩
  ·have hci:(a1K t.ev k).isSome=true:=by rw [iv];exact hc
   rw [hc] at hcr
   have hcr:P1 (B2 t.ev x) k=[p9 k 1 (hiR (B2 t.ev x))]:=hcr
   have eR:R1=s6 t kind k++[p9 k 1 (hiR (B2 t.ev x))]:=by rw [hR1,hcr];simp only [lbK,lbI] at hb;simp [hb,lbD]
   have hRl:R1.length<=14500:=by rw [eR];(try simp);omega
   have hfv:hiF (a1K t.ev k)=fz (hiR (B2 t.ev x)):=by rw [iv];exact (ae8 hc).1
   conv=>whnf
   repeat' (first|refine zx ?_|refine qp bn ?_|refine qp st ?_|refine qp toC ?_|refine qp toC ?_|refine b9 gk ?_|refine o8 (by simp [toC]) (by simp [toC];omega) ?_|refine .inr ⟨_,_,a0S (id:=3) hfv rfl rfl rfl rfl (by decide) b3 _ _,?_⟩|refine zd ?_ ?_<;>intro h<;>try omega|fail)<;>conv=>whnf
   all_goals try omega
   all_goals try (rw [hci] at h;exact absurd h (by decide))
   refine d8 c8 (fun j=>([J,J,J,J,S.c (C.ptr 0 0 0),J,S.c (C.ptr 1 0 0),S.c (C.ptr 2 0 0),S.c (C.fn (Fn.func a7k) [C.ptr 2 0 0]),a7 .i64 k,S.c (C.ptr 4 0 0)]++Jn 23++[S.c (C.t (a2X t kind)),a7 .i64 t.ev.moves.length,a7 .i64 k]++Jn 24++[S.c (C.t (K4 (i8 t.finds kind k))),a7 .i64 (i8 t.finds kind k).length,a7 .i64 j]++Jn 20,[a22,evB t.ev,a3k t.ev.moves.length 3 (G j).length,L9 (G j),az2 t kind k])) (i8 t.finds kind k).length (fun _=>True) [some 0,some 1,some 2,some 5,some 4] trivial ⟨rfl,rfl,⟨⟨rfl,rfl,rfl,.inr ⟨⟨rfl,rfl,trivial⟩,trivial⟩⟩,⟨rfl,rfl,rfl,.inl ⟨rfl,j7 _⟩⟩,⟨rfl,rfl,rfl,.inr ⟨⟨rfl,⟨rfl,rfl,?_,fun h=>h⟩,trivial⟩,trivial⟩⟩,a8 rfl rfl rfl ?_ rfl,⟨rfl,rfl,rfl,.inr (U0 [W9 t kind k])⟩,trivial⟩,⟨⟨rfl,rfl,rfl⟩,⟨rfl,rfl,rfl⟩,⟨rfl,rfl,rfl⟩,⟨rfl,⟨rfl,rfl,rfl⟩,trivial⟩,rfl,⟨rfl,rfl,rfl⟩,rfl,rfl,rfl,rfl,b8 (by simp),rfl,trivial⟩⟩ ?_
   ·simp [hG0,eR,toC]
   ·rw [hG0,eR]<;>rfl
   intro j hj _
   have hGl:(G j).length<=1000000:=by rw [hG];simp [lbq];omega
   by_cases hjt:j<(i8 t.finds kind k).length
   ·obtain ⟨g,hg⟩:∃g,(i8 t.finds kind k)[j]? =some g:=⟨_,lbf hjt⟩
    have gb:=hgr g (lbm hg)
    have ig:=N4 g (by omega) (by omega)
    have eG:G (j+1)=G j++[p9 k 0 (g:Rat)]:=by rw [hG,hG,lbG,hg];simp
    conv=>whnf
    repeat' (first|refine zx ?_|refine qp ig ?_|refine b9 hg ?_|refine .inr ⟨_,_,a0S (id:=3) rfl rfl rfl rfl rfl (by decide) hGl _ _,?_⟩|refine zd ?_ ?_<;>intro h<;>try omega|fail)<;>conv=>whnf
    all_goals try omega
    refine ⟨hjt,trivial,[some 0,some 1,some 2,some 5,some 4],rfl,rfl,⟨⟨rfl,rfl,rfl,.inr ⟨⟨rfl,rfl,trivial⟩,trivial⟩⟩,⟨rfl,rfl,rfl,.inl ⟨rfl,j7 _⟩⟩,⟨rfl,rfl,rfl,.inr ⟨⟨rfl,⟨rfl,rfl,?_,fun h=>h⟩,trivial⟩,trivial⟩⟩,a8 rfl rfl rfl ?_ rfl,⟨rfl,rfl,rfl,.inr (U0 [W9 t kind k])⟩,trivial⟩,⟨⟨rfl,rfl,rfl⟩,⟨rfl,rfl,rfl⟩,⟨rfl,rfl,rfl⟩,⟨rfl,⟨rfl,rfl,rfl⟩,trivial⟩,rfl,⟨rfl,rfl,rfl⟩,rfl,rfl,rfl,rfl,rfl,rfl,trivial⟩⟩
    ·rw [eG];simp
    ·rw [eG]
   have hje:j=(i8 t.finds kind k).length:=by omega
   subst hje
   have hGe:G (i8 t.finds kind k).length=R1++(i8 t.finds kind k).map (fun g:Int=>p9 k 0 (g:Rat)):=by rw [hG,lbn (lbR _)]
   conv=>whnf
   repeat' (first|refine zx ?_|refine zd ?_ ?_<;>intro h<;>try omega|fail)<;>conv=>whnf
   all_goals try omega
   refine d8 c8 (fun j=>([J,J,J,J,S.c (C.ptr 0 0 0),J,S.c (C.ptr 1 0 0),S.c (C.ptr 2 0 0),S.c (C.fn (Fn.func a7k) [C.ptr 2 0 0]),a7 .i64 k]++Jn 24++[S.c (C.t (a2X t kind)),a7 .i64 t.ev.moves.length,a7 .i64 k]++Jn 37++[a7 .i64 (o6 t.cleans kind k),a7 .i64 j]++Jn 8,[a22,evB t.ev,a3k t.ev.moves.length 3 (K j).length,L9 (K j)])) (o6 t.cleans kind k) (fun _=>True) [some 0,some 1,some 2,some 3] trivial ⟨rfl,rfl,⟨⟨rfl,rfl,rfl,.inr ⟨⟨rfl,rfl,trivial⟩,trivial⟩⟩,⟨rfl,rfl,rfl,.inl ⟨rfl,j7 _⟩⟩,⟨rfl,rfl,rfl,.inr ⟨⟨rfl,⟨rfl,rfl,?_,fun h=>h⟩,trivial⟩,trivial⟩⟩,a8 rfl rfl rfl ?_ rfl,trivial⟩,⟨⟨rfl,rfl,rfl⟩,⟨rfl,rfl,rfl⟩,⟨rfl,rfl,rfl⟩,⟨rfl,⟨rfl,rfl,rfl⟩,trivial⟩,rfl,rfl,rfl,rfl,rfl,rfl,trivial⟩⟩ ?_
   ·rw [hK0,hGe]
   ·rw [hK0,hGe]
   clear hj hjt
   intro j hj _
   have hKl:(K j).length<=1000000:=by rw [hK];simp [lbq];omega
   by_cases hjt:j<o6 t.cleans kind k
   ·have eK:K (j+1)=K j++[p9 k 2 ((0:Int):Rat)]:=by rw [hK,hK,List.replicate_succ'];simp
    conv=>whnf
    repeat' (first|refine zx ?_|refine qp i0 ?_|refine .inr ⟨_,_,a0S (id:=3) rfl rfl rfl rfl rfl (by decide) hKl _ _,?_⟩|refine zd ?_ ?_<;>intro h<;>try omega|fail)<;>conv=>whnf
    all_goals try omega
    refine ⟨hjt,trivial,[some 0,some 1,some 2,some 4],rfl,rfl,⟨⟨rfl,rfl,rfl,.inr ⟨⟨rfl,rfl,trivial⟩,trivial⟩⟩,⟨rfl,rfl,rfl,.inl ⟨rfl,j7 _⟩⟩,⟨rfl,rfl,rfl,.inr ⟨⟨rfl,⟨rfl,rfl,?_,fun h=>h⟩,trivial⟩,trivial⟩⟩,a8 rfl rfl rfl ?_ rfl,trivial⟩,⟨⟨rfl,rfl,rfl⟩,⟨rfl,rfl,rfl⟩,⟨rfl,rfl,rfl⟩,⟨rfl,⟨rfl,rfl,rfl⟩,trivial⟩,rfl,rfl,rfl,rfl,rfl,rfl,trivial⟩⟩
    ·rw [eK];simp
    ·rw [eK]
   have hje:j=o6 t.cleans kind k:=by omega
   subst hje
   conv=>whnf
   repeat' (first|refine zx ?_|refine zd ?_ ?_<;>intro h<;>try omega|fail)<;>conv=>whnf
   all_goals try omega
   exact ⟨hlt,trivial,[some 0,some 1,some 2,some 3],rfl,rfl,⟨⟨rfl,rfl,rfl,.inr ⟨⟨rfl,rfl,trivial⟩,trivial⟩⟩,⟨rfl,rfl,rfl,.inl ⟨rfl,j7 _⟩⟩,⟨rfl,rfl,rfl,.inr ⟨⟨rfl,⟨rfl,rfl,hKs.2,fun h=>h⟩,trivial⟩,trivial⟩⟩,a8 rfl rfl rfl hKs.1 rfl,trivial⟩,⟨⟨rfl,rfl,rfl⟩,⟨rfl,rfl,rfl⟩,⟨rfl,rfl,rfl⟩,⟨rfl,⟨rfl,rfl,rfl⟩,trivial⟩,rfl,rfl,rfl,trivial⟩⟩
 ·have hke:k=t.ev.moves.length:=by omega
  subst hke
  conv=>whnf
  repeat' (first|refine zx ?_|refine zd ?_ ?_<;>intro h<;>try omega|fail)<;>conv=>whnf
  all_goals try omega
  exact ⟨[some 3],rfl,rfl,⟨a8 (rows:=(s6 t kind t.ev.moves.length).map y4) rfl rfl rfl rfl rfl,trivial⟩,⟨⟨rfl,⟨rfl,rfl,rfl,fun h=>h⟩,trivial⟩,rfl,trivial⟩⟩
theorem B9 {α:Type} {f:α->List T} {l:List α} {x:α} {n:Nat} (h:n=l.length):List.take n (toC (l.map f))++toC [f x]=toC ((l++[x]).map f):=by
 rw [lbn (by simp [toC,h])]
 simp [toC]
def a0g (l:List (Int × Rat)) (f:Rat):List (Int × Rat):=l.map fun t=>(t.1,t.2*f)
theorem a8W (l:List (Int × Rat)) (f:Rat) {k:Nat} {t:Int × Rat} (h:l[k]? =some t):(a0g l f).take (k+1)=(a0g l f).take k++[(t.1,t.2*f)]:=by
 rw [lbG]
 congr 1
 unfold a0g
 rw [lba,h];rfl
theorem a25 (l:List (Int × Rat)) (f:Rat):(a0g l f).length=l.length:=by simp [a0g]
theorem b7t (l:List (Int × Rat)) (f:Rat) (hf:f≠0) (hr:f9 (-1) 1500 l=true) (hb:∀t ∈ l,rl t.2<=200) (hfb:rl f<=200):
 a9 Tryz.prog 164 [s7 l,frS (fz f)] [] (s7 (a0g l f)) []:=by
 have hl:=C8 hr
 have m1:(l.map k5).length=l.length:=by simp
 have rt:=P4 l 1500 (by omega) hb
 rw [lbH (by omega),hr] at rt
 have sg:=a9Y f (by omega)
 have sz:=a4N (x:=f)
 have hs0:sgR f≠0:=fun h=>hf (sz.1 h)
 (refine ac Tryz.func164 ?_;(conv=>whnf);repeat ((first|refine b0x ?_|refine zy ?_);conv=>whnf))
 repeat' (first|refine zx ?_|refine qp rt ?_|refine qp sg ?_|refine zd ?_ ?_<;>intro h<;>try omega|fail)<;>conv=>whnf
 all_goals try omega
 all_goals try (exfalso;simp_all;done)
 refine d8 c8 (fun k=>([J,J,J,S.c (C.t (T.ptr (t6 (fz f)))),J,S.c (C.own 0 0 k true)]++Jn 12++[s7 l,a7 .i64 l.length,a7 .i64 k]++Jn 19,[S8 ((a0g l f).take k)])) l.length (fun _=>True) [none] trivial
  ⟨rfl,rfl,⟨⟨rfl,rfl⟩,trivial⟩,⟨g6 rfl,⟨rfl,rfl,rfl⟩,g6 rfl,b8 (by omega),b8 rfl,trivial⟩⟩ ?_
 intro k hk _
 by_cases hlt:k<l.length
 ·obtain ⟨t,ht⟩:∃t,l[k]? =some t:=⟨_,lbf hlt⟩
  have bt:=hb t (lbm ht)
  have mu:=al6 t.2 f (by omega) (by omega)
  have lk:((a0g l f).take k).length=k:=by rw [lbs,a25];omega
  have lA:k<=(S8 ((a0g l f).take k)).rows.length:=by show k<=(toC _).length;simp [toC,a25];omega
  conv=>whnf
  repeat' (first|refine zx ?_|refine qp mu ?_|refine qp toC ?_|refine qp 6 ?_|refine b9 ht ?_|refine o8 lA (by simp [toC];omega) ?_|refine bl0 [6] ?_|refine zd ?_ ?_<;>intro h<;>try omega|fail)<;>conv=>whnf
  all_goals first
   |omega
   |(refine ⟨hlt,trivial,[some 3],rfl,rfl,⟨a8 (rows:=((a0g l f).take (k+1)).map k5) rfl rfl rfl ?_ rfl,trivial⟩,⟨rfl,⟨rfl,rfl,rfl,fun h=>h⟩,rfl,rfl,b8 (by omega),trivial⟩⟩
     rw [a8W l f ht]
     exact B9 (f:=k5) (x:=(t.1,t.2*f)) lk.symm)
 ·have hke:k=l.length:=by omega
  subst hke
  conv=>whnf
  repeat' (first|refine zx ?_|refine zd ?_ ?_<;>intro h<;>try omega|fail)<;>conv=>whnf
  all_goals first
   |omega
   |exact I6 rfl (fun h=>h) rfl (by rw [lbn (by rw [a25];exact lbR _)]) (by simp [a25])
theorem a2x {n n':Int} (h:n<=n'):∀{last:Int} {l:List (Int × Rat)},f9 last n l=true->f9 last n' l=true
 |_,[],_=>rfl
 |last,a::r,hr=>by
  unfold f9 at hr ⊢
  simp only [lbN,lbI] at hr ⊢
  exact ⟨⟨⟨hr.1.1.1,by omega⟩,hr.1.2⟩,a2x h hr.2⟩
def R8 (l:List (Int × Rat)):List (Int × Rat):=a0g l ((-1:Int):Rat)
theorem a8f (l:List Fr) (h0:0<l.length) (h1:l.length<=100000):a9 Tryz.prog 205 [t4 l] [] (.c (.own 0 0 l.length true)) [flB l]:=by
 have m1:(l.map t6).length=l.length:=by simp
 have hl:0<(l.map t6).length:=by omega
 (refine ac Tryz.func205 ?_;(conv=>whnf);repeat (refine zy ?_;conv=>whnf))
 repeat' (first|refine zx ?_|refine qp (toC,lbr,List.length_nil) ?_|refine qp (toC,lbr) ?_|refine ⟨hl,?_⟩|refine zz ?_|refine a79 rfl (by simp only [toC,lbr,List.length_nil];omega) ?_|refine o8 (Nat.zero_le _) (by simp only [toC,lbr];omega) ?_|refine zd ?_ ?_<;>intro h<;>try omega|fail)<;>conv=>whnf
 all_goals first
  |omega
  |exact ⟨[some 0],rfl,rfl,⟨a8 (rows:=l.map t6) rfl rfl rfl rfl rfl,trivial⟩,⟨rfl,rfl,by simp [toC],fun h=>h⟩⟩
def smF (a b:Nat->Rat) (k:Nat):Nat->Rat:=fun j=>if j<k then a j+b j else a j
theorem a6P {P:Program} {g:FuncId} {args:List S} {H:Hp} {b:Blk} {cs:List C} {s2:S} {j lo len:Nat} {app:Bool} (h:a9 P g args [] (.tup [.agg cs,s2]) [b]) (ha:args.all S.isT=true) (hm:b.mode=.live) (hb:I9 b.rows)
 (hf:aS8 (.tup [.agg cs,s2])=true) (hj:cs[j]? =some (.own 0 lo len app)):Z5 P g args H (a7B [H.length] (.tup [.agg cs,s2])) [b]:=by
 refine ⟨h.1,fun w ι M vals hl hv hH hM hf0=>?_⟩
 have:=h.2 w (fun _=>none) M vals hl (fun j s hj=>(hv j s hj).tree (lbv.1 ha s (lbm hj)))
  ⟨by simp,by simp,by simp,by simp,by simp⟩ hM (fun _ _=>rfl)
 refine Calls.mono this ?_
 rintro e w' ⟨v,rfl,ι',M',h1,h2,h3,h4,h5⟩
 have hnl:∀x,¬a48 (fun _=>none) ([]:Hp) x:=by rintro x ⟨id,k,_,_,hk,_⟩;simp at hk
 obtain ⟨l,hl0⟩:∃l,ι' 0=some l:=by
  cases h1 with
  |tup vs hl hr=>
   have h0:=hr 0 _ rfl
   generalize vs.getD 0 undef=v0 at h0
   cases h0 with
   |agg us hl hr=>
    have h9:=hr j _ hj
    generalize us.getD j undef=v9 at h9
    cases h9 with
    |own hi=>exact ⟨_,hi⟩
    |nil hi=>exact ⟨_,hi⟩
 have hnew:y7 ι H.length [b].length (fun _=>l) H.length=some l:=by unfold y7;simp
 have hMM:∀x,a4G M [b].length (fun _=>l) x->M' x:=by
  intro x hx
  rcases hx with hx|⟨k,hk,cap,size,he⟩
  ·rcases h5.mold x hx with h|h
   ·exact h
   ·exact absurd h (hnl x)
  ·have he:l=.blk x cap size:=he
   subst he
   exact h2.liv 0 b rfl hm x cap size hl0
 refine ⟨v,rfl,fun _=>l,?_,⟨h5.os,h5.tape,h5.output,h5.size,fun x hx=>h5.keep x hx (hnl x)⟩,?_,?_,?_⟩
 ·refine RS.keep (w:=w') (ι:=y7 ι H.length [b].length (fun _=>l)) (M:=M') (fun _ _ _=>rfl) (fun x hx=>.inl (hMM x hx)) (fun _ _ h=>h) (RS.ren (σ:=[H.length]) (fun id l' hi=>?_) hf h1)
  rcases id with _|id
  ·rw [hl0] at hi;injection hi with hi;subst hi;exact hnew
  ·rw [h4 (id+1) (by simp)] at hi;cases hi
 ·intro k blk hk
  cases k with
  |succ k=>simp at hk
  |zero=>
   simp at hk
   subst hk
   refine ⟨hm,?_⟩
   have hbr:=h2.blk 0 b rfl (by rw [hm];intro h;cases h) l hl0
   cases l with
   |nil=>exact hbr
   |blk x cap size=>
    obtain ⟨r1,r2,r3,r4,r5,cur,r6,r7,r8⟩:=hbr
    refine ⟨r1,r2,r3,r4,r5,cur,r6,r7,fun i j c hc=>?_⟩
    obtain ⟨u,u1,u2⟩:=r8 i j c hc
    exact ⟨u,u1,ac0 hMM hb hc u2⟩
 ·intro k x cap size hk he
  have he:l=.blk x cap size:=he
  subst he
  refine ⟨?_,h3 x (h2.liv 0 b rfl hm x cap size hl0)⟩
  rcases h5.live x ⟨0,b,cap,size,rfl,hm,hl0⟩ with h|h
  ·exact absurd h (hnl x)
  ·exact h
 ·intro k k' x cap size cap' size' hk hk' _ _
  simp at hk hk'
  omega
structure b9Z where
 hh:Int
 state:Int
 w:List Rat
 wo:List Rat
 pr:List Rat
def b9Z.row (v:b9Z):List T:=[ti v.hh,ti v.state,D7 (v.w.map fz),D7 (v.wo.map fz),D7 (v.pr.map fz)]
theorem al8 {x:Rat}:sgR x > 0↔0<x:=by unfold sgR;split<;>(try split)<;>simp_all<;>grind
theorem b6d {x:Rat}:sgR x<0↔x<0:=by unfold sgR;split<;>(try split)<;>simp_all
theorem b3O {s:g4} {g:List (Int × Rat)} {n B:Nat} (h:J4 s g n B):∀v ∈ A6 s g,rl v<=17000:=by
 intro v hv
 have hb:=af0 h
 have hn:=h.nn
 have hB:=h.bb
 obtain ⟨j,hj,rfl⟩:=a5F hv
 have hp:a0n (f5 s).length s.n.toNat (y3 s g):=S1.p
 rw [hn] at hj hp ⊢
 rw [← b0M hp hj]
 have key:∀k,k<=(f5 s).length->rl (ptK n (y3 s g).O (y3 s g).V (fun _=>0) k j)<=17000:=by
  intro k
  induction k with
  |zero=>intro _;have:=rl0;show rl 0<=_;omega
  |succ k ih=>
   intro hk
   rw [S0]
   simp only
   split
   ·have:=hb.v k (by omega);omega
   ·exact ih (by omega)
 exact key _ (lbR _)
theorem b9x {s:g4} {g:List (Int × Rat)} {n B:Nat} (h:J4 s g n B) (hout:a1d s g=.best) (hS:∀k,rl (p4 (g.take k) (A6 s g))<=50000) (H:Hp):
 Z5 Tryz.prog 130 [a3c s,s7 g] H (.tup [.agg (C.t (ti 0)::frC (fz (p4 g (A6 s g)))++[.t (D7 ((A6 s g).map fz)),.own H.length 0 s.rows.length true,.t (.sl 0 .nil [])]),a7 .i64 0]) [flB (rF s.rows.length (R6 s (y3 s g)))]:=
 a6P (j:=6) (lo:=0) (len:=s.rows.length) (app:=true) (aF4 s g n B h hout (fun k=>by have:=hS k;omega) (fun v hv=>by have:=b3O h v hv;omega)) rfl rfl (c6 _) rfl rfl
theorem b87 {s:g4} {g:List (Int × Rat)} {n B B0 c:Nat} (h:J4 s g n B) (h0:J4 s [] n B0) (hout:a1d s g=.col c) (hout0:a1d s []=.best) (H:Hp):
 Z5 Tryz.prog 130 [a3c s,s7 g] H (.tup [.agg (C.t (ti 2)::bh4++[.t (D7 ((A6 s []).map fz)),.t (.sl 0 .nil []),.t (D7 ((a61 s g c).map fz))]),a7 .i64 0]) []:=
 z9 (aA6 s g n B B0 c h h0 hout hout0) rfl rfl
structure bi0 where
 mv:Int
 mat:Int
def bi0.row (p:bi0):List T:=[ti p.mv,ti p.mat]
theorem a6I (l:List Int) (hl:l.length<=1000000):a9 Tryz.prog 246 [d6 l] [] (d6 (G0 l)) []:=by
 have l2:(l.map c9).length=l.length:=by simp
 (refine ac Tryz.func246 ?_;(conv=>whnf);repeat (refine zy ?_;conv=>whnf))
 repeat' (first|refine zx ?_|refine zd ?_ ?_<;>intro h<;>try omega|fail)<;>conv=>whnf
 refine n8 c8 (σ:=Nat) (fun n=>([d6 l,J,J,a7 .i64 n]++Jn 19,[])) (fun n=>n<=l.length∧∀j x,n<=j->l[j]? =some x->x=0) (fun n=>n) l.length []
  ⟨lbR _,fun j x hj hx=>by rw [lbd hj] at hx;cases hx⟩ ⟨rfl,rfl,trivial,⟨g6 rfl,b8 (by simp),trivial⟩⟩ ?_
 rintro n ⟨hn,hz⟩
 have hn:n<=l.length:=hn
 conv=>whnf
 repeat' (first|refine zz ?_|refine qp toC ?_|refine qp toC ?_|refine a2n.own ?_|refine v6 (by omega) (a1T (by omega) hn) ?_|refine a4r (by omega) (by omega) (by omega) ?_|refine o8 (by simp [toC]) (by simp [toC];omega) ?_|refine zd ?_ ?_<;>intro h<;>try omega|refine zy ?_|fail)<;>conv=>whnf
 ·have h0:dat l (n - 1)=0:=by assumption
  have h1:0<n:=by omega
  refine ⟨[],n - 1,⟨rfl,rfl,trivial,⟨rfl,b8 (by omega),trivial⟩⟩,⟨by omega,fun j x hj hxj=>?_⟩,by show n - 1<n;omega⟩
  by_cases hj2:j=n - 1
  ·subst hj2;rw [u5 (by omega)] at hxj;injection hxj with hx;rw [← hx];exact h0
  ·exact hz j x (by omega) hxj
 all_goals
  have e:l.take n=G0 l:=a3v hz (fun x h0 hx=>by
   first
    |omega
    |(rw [u5 (by omega)] at hx;injection hx with hx;rw [← hx];assumption)) hn
  rw [← e]
  refine I6 rfl (by intro h;cases h) rfl ?_ ?_
  ·simp [toC,y5,List.map_take]
  ·simp [toC]
theorem b9g (s:Int) (l:List Int) (hl:l.length<=1000000):a9 Tryz.prog 183 [a7 .i64 s,d6 l] [] (bgS (sgn s l)) []:=by
 (refine ac Tryz.func183 ?_;(conv=>whnf);repeat (refine zy ?_;conv=>whnf))
 repeat' (first|refine zx ?_|refine qp (a6I l hl) ?_|refine zd ?_ ?_<;>intro h<;>try omega|fail)<;>conv=>whnf
 ·have h0:(G0 l).length=0:=by simp at *;assumption
  unfold sgn
  rw [if_pos h0]
  exact k9 ⟨rfl,rfl,trivial⟩
 ·have h0:¬(G0 l).length=0:=by simp at *;assumption
  unfold sgn
  rw [if_neg h0]
  exact k9 ⟨rfl,rfl,trivial⟩
theorem I8 (s:Int) (k:Nat) (h:s=1∨s=-1∨k=0) (lk:(dg k).length<=700000):
 a9 Tryz.prog 183 [a7 .i64 s,d6 (dg k)] [] (bgS (bz (s*k))) []:=by
 have e:=b9g s (dg k) (by omega)
 rw [b0n (t5 k) (by rw [o9];omega),o9] at e
 exact e
theorem a5K (l:List Int) (i:Nat) (hl:l.length<=1000000):a9 Tryz.prog 247 [d6 l,a7 .i64 i] [] (a7 .i64 (dat l i)) []:=by
 have l2:(l.map c9).length=l.length:=by simp
 (refine ac Tryz.func247 ?_;(conv=>whnf);repeat (refine zy ?_;conv=>whnf))
 repeat' (first|refine zx ?_|refine b9 (u5 (by omega)) ?_|refine zd ?_ ?_<;>intro h<;>try omega|fail)<;>conv=>whnf
 all_goals first
  |exact k6 rfl
  |exact k6 (Q1 (by omega)).symm
theorem a5D (l:List Int) (i:Nat):val (l.drop i)=dat l i+1048576*val (l.drop (i+1)):=by
 by_cases h:i<l.length
 ·exact a6T h
 ·rw [lbo (by omega),lbo (by omega),Q1 (by omega)];rfl
theorem ad0 (l:List Int) (i:Nat):val l=val (l.take i)+pw i*val (l.drop i):=by
 by_cases h:i<=l.length
 ·exact a5X l i h
 ·rw [lbo (by omega),lbn (by omega)];simp [val]
theorem a7c {l:List Int} (h:Okd l) (i:Nat):0<=val (l.take i)∧val (l.take i)<pw i:=by
 refine ⟨v4 (h.take i),?_⟩
 have h1:=X4 (h.take i)
 have h2:=a1r (i:=(l.take i).length) (j:=i) (by simp;omega)
 omega
theorem aK0 {a b:List Int} (ha:Okd a) (hb:Okd b) {i:Nat} (h:val (a.drop (i+1))=val (b.drop (i+1))) (hd:dat a i<dat b i):val a<val b:=by
 rw [ad0 a i,ad0 b i,a5D a i,a5D b i,h]
 have h1:=a7c ha i
 have h2:=a7c hb i
 have hp:=R0 i
 have h3:=lbW (a:=dat a i+1048576*val (b.drop (i+1))+1) (b:=dat b i+1048576*val (b.drop (i+1))) (c:=pw i) (by omega) (by omega)
 rw [Int.mul_add _ _ (1:Int)] at h3
 omega
theorem a64 (l:List Int):val (l.drop 0)=val l:=by rw [List.drop_zero]
structure an7 (a b:List Int) (i:Nat) (out:List Int) (c:Int):Prop where
 len:out.length=i
 ok:Okd out
 le:i<=a.length
 c0:0<=c
 c1:c<=1
 eq:val out - pw i*c=val (a.take i) - val (b.take i)
theorem an7.init (a b:List Int):an7 a b 0 [] 0:=⟨rfl,.nil,Nat.zero_le _,by decide,by decide,by simp [val]⟩
theorem an7.step {a b out:List Int} {i:Nat} {c n c':Int} (h:an7 a b i out c) (ha:Okd a) (hb:Okd b) (hi:i<a.length) (hn:n=dat a i - dat b i - c+1048576*c') (h0:0<=n∧n<1048576) (hc:0<=c'∧c'<=1):
 an7 a b (i+1) (out++[n]) c':=by
 refine ⟨by simp [h.len],h.ok.append (Okd.cons h0 .nil),hi,hc.1,hc.2,?_⟩
 rw [L7,h.len,s8,s8,F3]
 have:=h.eq
 simp only [val]
 rw [hn]
 grind
theorem an7.fin {a b out:List Int} {c:Int} (h:an7 a b a.length out c) (ha:Okd a) (hb:Okd b) (hl:b.length<=a.length) (hv:val b<=val a):G0 out=dg (val a - val b).toNat:=by
 have h1:=h.eq
 rw [lbn (lbR _),lbn hl] at h1
 have h2:=X4 h.ok
 rw [h.len] at h2
 have hc:c=0:=by
  have:=h.c0
  have:=h.c1
  rcases Int.lt_or_le 0 c with h3|h3
  ·have:c=1:=by omega
   subst this
   omega
  ·omega
 subst hc
 rw [K5 h.ok]
 congr 2
 simp at h1
 exact h1
structure b6X (a b:List Int) (i k:Nat) (out:List Int) (c:Int):Prop where
 out:(ag8 a b i k out c∧k<=b.length)∨(k=b.length+1∧c=0∧a4y a b (i+1) out)
theorem b7p {l:List Int} {i:Nat}:l.set i (dat l i)=l:=by
 by_cases h:i<l.length
 ·apply List.ext_getElem?
  intro j
  by_cases hj:i=j
  ·subst hj;rw [List.getElem?_set_self h];unfold dat;rw [lbl,lbf h];rfl
  ·rw [List.getElem?_set_ne hj]
 ·rw [List.set_eq_of_length_le (by omega)]
theorem b6X.exit {a b out:List Int} {i k:Nat} {c:Int} (h:b6X a b i k out c) (ha:Okd a) (hb:Okd b) (hi:i<a.length) (hk:b.length<=k) (hc:c<=0):a4y a b (i+1) out:=by
 rcases h.out with ⟨h1,h2⟩|⟨h1,h2,h3⟩
 ·have hk:k=b.length:=by omega
  subst hk
  have hc:c=0:=by have:=h1.c0;omega
  subst hc
  have:=h1.done ha hb hi
  rw [Int.add_zero,b7p] at this
  exact this
 ·exact h3
theorem b5g {r d:Nat} {x:Int} (hx:0<=x∧x<1048576):G0 (x::dg r)=dg (r*1048576+x.toNat):=by
 rw [K5 (Okd.cons hx (t5 r))]
 congr 1
 simp only [val,o9]
 omega
theorem b53 (a b:List Int) (ha:Okd a) (hb:Okd b) (la:a.length<=1000000) (lb:b.length<=1000000):a9 Tryz.prog 186 [d6 a,d6 b] [] (e8 (decide (val a<val b))) []:=by
 have l1:(a.map c9).length=a.length:=by simp
 have l2:(b.map c9).length=b.length:=by simp
 (refine ac Tryz.func186 ?_;(conv=>whnf);repeat (refine zy ?_;conv=>whnf))
 repeat' (first|refine zx ?_|refine qp cond ?_|refine ⟨_,B5 (y:=((max a.length b.length:Nat):Int) - 1) (by simp only [cond];split<;>omega) (by omega) (by omega),?_⟩|refine zd ?_ ?_<;>intro h<;>try omega|fail)<;>conv=>whnf
 refine n8 c8 (σ:=Nat) (fun k=>([d6 a,d6 b,J,J,J,a7 .i64 ((k:Int) - 1)]++Jn 24,[])) (fun k=>k<=1000000∧val (a.drop k)=val (b.drop k)) (fun k=>k) (max a.length b.length) []
  ⟨by omega,by rw [lbo (by omega),lbo (by omega)]⟩ ⟨rfl,rfl,trivial,⟨g6 rfl,g6 rfl,rfl,trivial⟩⟩ ?_
 rintro k ⟨hk,hd⟩
 have hk:k<=1000000:=hk
 have hd:val (a.drop k)=val (b.drop k):=hd
 by_cases h0:0<k
 ·obtain ⟨i,rfl⟩:∃i,k=i+1:=⟨k - 1,by omega⟩
  have d1:=a5K a i la
  have d2:=a5K b i lb
  have ei:(((i+1:Nat):Int) - 1)=i:=by omega
  rw [ei]
  conv=>whnf
  repeat' (first|refine zx ?_|refine qp d1 ?_|refine qp d2 ?_|refine zd ?_ ?_<;>intro h<;>try omega|fail)<;>conv=>whnf
  ·have h:=aK0 ha hb hd (by assumption)
   exact c7 (by simp [h])
  ·have h:=aK0 hb ha hd.symm (by omega)
   exact c7 (by simp;omega)
  ·have he:dat a i=dat b i:=by omega
   refine ⟨[],i,⟨rfl,rfl,trivial,⟨rfl,rfl,rfl,trivial⟩⟩,⟨by omega,?_⟩,by show i<i+1;omega⟩
   rw [a5D a i,a5D b i,he,hd]
 ·obtain rfl:k=0:=by omega
  rw [a64,a64] at hd
  conv=>whnf
  repeat' (first|refine zx ?_|refine zd ?_ ?_<;>intro h<;>try omega|fail)<;>conv=>whnf
  all_goals first
   |omega
   |exact c7 (by simp;omega)
theorem b1I (a b:List Int) (ha:Okd a) (hb:Okd b) (la:a.length<=400000) (lb:b.length<=a.length) (hv:val b<=val a):
 a9 Tryz.prog 187 [d6 a,d6 b] [] (d6 (dg (val a - val b).toNat)) []:=by
 have l1:(a.map c9).length=a.length:=by simp
 have l2:(b.map c9).length=b.length:=by simp
 (refine ac Tryz.func187 ?_;(conv=>whnf);repeat (refine zy ?_;conv=>whnf))
 repeat' (first|refine zx ?_|refine zd ?_ ?_<;>intro h<;>try omega|fail)<;>conv=>whnf
 refine n8 c8 (σ:=Nat × List Int × Int) (fun|(k,out,c)=>([d6 a,d6 b,J,J,J,M4 0 out,a7 .i64 c,a7 .i64 k]++Jn 27,[k8 out])) (fun x=>an7 a b x.1 x.2.1 x.2.2) (fun x=>a.length - x.1) (0,[],0) [none]
  (an7.init a b) ⟨rfl,rfl,⟨⟨rfl,rfl⟩,trivial⟩,⟨g6 rfl,g6 rfl,⟨rfl,rfl,rfl⟩,rfl,rfl,trivial⟩⟩ ?_
 rintro ⟨k,out,c⟩ hI
 have hI:an7 a b k out c:=hI
 have hlen:=hI.len
 have hle:=hI.le
 have hc0:=hI.c0
 have hc1:=hI.c1
 have hda:=ha.dat k
 have hdb:=hb.dat k
 have d2:=a5K b k (by omega)
 conv=>whnf
 repeat' (first|refine zx ?_|refine qp d2 ?_|refine qp toC ?_|refine qp toC ?_|refine b9 (u5 (by omega)) ?_|refine o8 (by simp [toC]) (by simp [toC];omega) ?_|refine zd ?_ ?_<;>intro h<;>try omega|fail)<;>conv=>whnf
 ·have hst:=hI.step ha hb (n:=dat a k - dat b k - c+1048576) (c':=1) (by omega) (by omega) (by omega) (by omega)
  refine ⟨[some 1],(k+1,out++[dat a k - dat b k - c+1048576],1),⟨rfl,rfl,⟨a8 rfl rfl rfl a29 rfl,trivial⟩,⟨rfl,rfl,f8 rfl (by simp [toC]),rfl,b8 (by omega),trivial⟩⟩,hst,?_⟩
  show a.length - (k+1)<a.length - k
  omega
 ·have hst:=hI.step ha hb (n:=dat a k - dat b k - c) (c':=0) (by omega) (by omega) (by omega) (by omega)
  refine ⟨[some 1],(k+1,out++[dat a k - dat b k - c],0),⟨rfl,rfl,⟨a8 rfl rfl rfl a29 rfl,trivial⟩,⟨rfl,rfl,f8 rfl (by simp [toC]),rfl,b8 (by omega),trivial⟩⟩,hst,?_⟩
  show a.length - (k+1)<a.length - k
  omega
 ·have hk:k=a.length:=by omega
  subst hk
  have hf:=hI.fin ha hb lb hv
  have t:=a6I out (by omega)
  rw [hf] at t
  refine .inr ⟨_,_,w6 [0] t ⟨a19 (u4 (by simp) rfl (by intro h;cases h) rfl rfl (by simp)),trivial⟩ rfl,?_⟩
  conv=>whnf
  exact ak7 rfl
theorem b8D {a:Int} (h:0<=a):a.tmod 1048576=a % 1048576:=Int.tmod_eq_emod_of_nonneg h
theorem b21 (a b:List Int) (ha:Okd a) (hb:Okd b) (la:a.length<=400000) (lb:b.length<=400000):
 a9 Tryz.prog 184 [d6 a,d6 b] [] (d6 (dg (val a*val b).toNat)) []:=by
 have l1:(a.map c9).length=a.length:=by simp
 have l2:(b.map c9).length=b.length:=by simp
 (refine ac Tryz.func184 ?_;(conv=>whnf);repeat (refine zy ?_;conv=>whnf))
 repeat' (first|refine zx ?_|refine a2B (by omega) (by omega) (by omega) (by decide) ?_|refine zd ?_ ?_<;>intro h<;>try omega|fail)<;>conv=>whnf
 refine n8 c8 (σ:=Nat × List Int) (fun|(i,out)=>([d6 a,d6 b,J,J,J,M4 0 out,a7 .i64 i]++Jn 53,[k8 out])) (fun x=>a4y a b x.1 x.2) (fun x=>a.length - x.1) (0,List.replicate (a.length+b.length) 0) [some 0]
  (a4y.init a b) ⟨rfl,rfl,⟨a8 rfl rfl rfl ?_ rfl,trivial⟩,⟨g6 rfl,g6 rfl,f8 rfl (by simp;omega),rfl,trivial⟩⟩ ?_
 ·show List.replicate _ _=_
  rw [show ((((a.map c9).length:Nat):Int)+((b.map c9).length:Nat)).toNat=a.length+b.length by omega]
  simp [toC,c9,B3]
 rintro ⟨i,out⟩ hI
 have hI:a4y a b i out:=hI
 have hlen:=hI.len
 have hle:=hI.le
 conv=>whnf
 repeat' (first|refine zx ?_|refine zd ?_ ?_<;>intro h<;>try omega|fail)<;>conv=>whnf
 ·have hi:i<a.length:=by omega
  refine n8 c8 (σ:=Nat × List Int × Int) (fun|(k,out,c)=>([d6 a,d6 b,J,J,J,M4 0 out,a7 .i64 i,a7 .i64 c,a7 .i64 k]++Jn 51,[k8 out])) (fun x=>b6X a b i x.1 x.2.1 x.2.2) (fun x=>b.length+1 - x.1) (0,out,0) [some 0]
   ⟨.inl ⟨hI.start,Nat.zero_le _⟩⟩ ⟨rfl,rfl,⟨a8 rfl rfl rfl rfl rfl,trivial⟩,⟨g6 rfl,g6 rfl,f8 rfl rfl,rfl,rfl,rfl,trivial⟩⟩ ?_
  rintro ⟨k,out,c⟩ hT
  have hT:b6X a b i k out c:=hT
  have hdb:=hb.dat k
  have hda:=ha.dat i
  have hm:=a3N (ha.dat i) (hb.dat k)
  have d2:=a5K b k (by omega)
  have e1:((i:Int)+k).toNat=i+k:=by omega
  rcases hT.out with ⟨hK,hkb⟩|⟨hk1,hc,hM⟩
  ·have hlen:=hK.len
   have hc0:=hK.c0
   have hc1:=hK.c1
   have hdo:=hK.ok.dat (i+k)
   have hz:k=b.length->dat out (i+k)=0∧dat b k=0:=fun h=>⟨hK.zero _ (by omega),Q1 (by omega)⟩
   have hzm:k=b.length->dat a i*dat b k=0:=fun h=>by rw [(hz h).2,Int.mul_zero]
   conv=>whnf
   repeat' (first|refine zx ?_|refine qp d2 ?_|refine b9 (u5 (by omega)) ?_|refine U1 (by omega) (by show _<((out.length:Nat):Int);omega) ?_|refine o5 (O0 e1 (by omega)) ?_|refine ⟨by decide,_,b5K (by omega) (by omega) (by decide),?_⟩|refine au1 (by decide) ?_|refine zd ?_ ?_<;>intro h<;>try omega|fail)<;>conv=>whnf
   all_goals have hn:0<=dat out (i+k)+dat a i*dat b k+c:=by omega
   ·have hst:=hK.step ha hb hi (by omega)
    refine ⟨[some 0],(k+1,out.set (i+k) ((dat out (i+k)+dat a i*dat b k+c) % 1048576),(dat out (i+k)+dat a i*dat b k+c) / 1048576),⟨rfl,rfl,⟨a8 rfl rfl rfl ?_ rfl,trivial⟩,⟨rfl,rfl,f8 rfl (by simp),rfl,rfl,rfl,trivial⟩⟩,⟨.inl ⟨hst,by omega⟩⟩,?_⟩
    ·rw [← b8D hn];exact K2 (by omega)
    ·show b.length+1 - (k+1)<b.length+1 - k;omega
   ·have hkb2:k=b.length:=by omega
    obtain ⟨z1,z2⟩:=hz hkb2
    have z3:=hzm hkb2
    have en:dat out (i+k)+dat a i*dat b k+c=c:=by omega
    have hdone:=hK
    rw [hkb2] at hdone
    have hdone:=hdone.done ha hb hi
    rw [← hkb2] at hdone
    refine ⟨[some 0],(k+1,out.set (i+k) ((dat out (i+k)+dat a i*dat b k+c) % 1048576),(dat out (i+k)+dat a i*dat b k+c) / 1048576),⟨rfl,rfl,⟨a8 rfl rfl rfl ?_ rfl,trivial⟩,⟨rfl,rfl,f8 rfl (by simp),rfl,rfl,rfl,trivial⟩⟩,⟨.inr ⟨by show k+1=b.length+1;omega,by show (dat out (i+k)+dat a i*dat b k+c) / 1048576=0;omega,?_⟩⟩,?_⟩
    ·rw [← b8D hn];exact K2 (by omega)
    ·have e2:(dat out (i+k)+dat a i*dat b k+c) % 1048576=dat out (i+k)+c:=by omega
     rw [e2];exact hdone
    ·show b.length+1 - (k+1)<b.length+1 - k;omega
   ·have hx:=hT.exit ha hb hi (by omega) (by omega)
    exact ⟨[some 0],(i+1,out),⟨rfl,rfl,⟨a8 rfl rfl rfl rfl rfl,trivial⟩,⟨rfl,rfl,f8 rfl rfl,b8 (by omega),trivial⟩⟩,hx,by show a.length - (i+1)<a.length - i;omega⟩
  ·have hlen:=hM.len
   have hx:=hT.exit ha hb hi (by omega) (by omega)
   conv=>whnf
   repeat' (first|refine zx ?_|refine zd ?_ ?_<;>intro h<;>try omega|fail)<;>conv=>whnf
   all_goals first
    |omega
    |exact ⟨[some 0],(i+1,out),⟨rfl,rfl,⟨a8 rfl rfl rfl rfl rfl,trivial⟩,⟨rfl,rfl,f8 rfl rfl,b8 (by omega),trivial⟩⟩,hx,by show a.length - (i+1)<a.length - i;omega⟩
 ·have hi:i=a.length:=by omega
  subst hi
  have hf:=hI.fin
  have t:=a6I out (by omega)
  rw [hf] at t
  refine .inr ⟨_,_,w6 [0] t ⟨a19 (u4 (by simp) rfl (by intro h;cases h) rfl rfl (by simp)),trivial⟩ rfl,?_⟩
  conv=>whnf
  exact ak7 rfl
theorem aK9 (m n:Nat) (lm:(dg m).length<=300000) (ln:(dg n).length<=300000):
 a9 Tryz.prog 184 [d6 (dg m),d6 (dg n)] [] (d6 (dg (m*n))) []:=by
 have h:=b21 (dg m) (dg n) (t5 m) (t5 n) (by omega) (by omega)
 rw [o9,o9,show ((m:Int)*n).toNat=m*n by rw [← Int.natCast_mul];rfl] at h
 exact h
theorem b5m (m n:Nat) (hn:0<n) (lm:(dg m).length<=200000) (ln:(dg n).length<=200000):
 a9 Tryz.prog 244 [d6 (dg m),d6 (dg n)] [] (aW1 m n) []:=by
 have l1:((dg m).map c9).length=(dg m).length:=by simp
 have l2:((dg n).map c9).length=(dg n).length:=by simp
 (refine ac Tryz.func244 ?_;(conv=>whnf);repeat (refine zy ?_;conv=>whnf))
 repeat' (first|refine zx ?_|refine a2B (by omega) (by omega) (by omega) (by decide) ?_|refine zd ?_ ?_<;>intro h<;>try omega|fail)<;>conv=>whnf
 refine n8 c8 (σ:=Nat × List Int × Nat) (fun|(j,q,r)=>([d6 (dg m),d6 (dg n),J,J,J,J,M4 0 q,d6 (dg r),a7 .i64 ((j:Int) - 1)]++Jn 51,[k8 q])) (fun x=>a0D (dg m) n x.1 x.2.1 x.2.2) (fun x=>x.1) ((dg m).length,List.replicate (dg m).length 0,0) [some 0]
  (a0D.init _ (by omega)) ⟨rfl,rfl,⟨a8 rfl rfl rfl ?_ rfl,trivial⟩,⟨g6 rfl,g6 rfl,f8 rfl (by simp),rfl,b8 (by omega),trivial⟩⟩ ?_
 ·show List.replicate _ _=_
  simp [toC,c9,B3]
 rintro ⟨j,q,r⟩ hI
 have hI:a0D (dg m) n j q r:=hI
 have hlen:=hI.len
 have hle:=hI.le
 have hr1:=hI.r1
 by_cases hj:0<j
 ·obtain ⟨i,rfl⟩:∃i,j=i+1:=⟨j - 1,by omega⟩
  have ei:(((i+1:Nat):Int) - 1)=i:=by omega
  have hda:=(t5 m).dat i
  obtain ⟨y,hy⟩:=Int.eq_ofNat_of_zero_le hda.1
  have lr:=p7 (show r<=n by omega)
  have lm2:i<(dg m).length:=by omega
  generalize hR:r*1048576+y=R
  have hRn:R<n*1048576:=by
   have:=lbU 1048576 (show r+1<=n by omega)
   rw [Nat.add_mul] at this
   omega
  have lR:(dg R).length<=(dg n).length+1:=N3 (by
   have h1:=O3 n
   rw [F3]
   have h2:=lbX (a:=(n:Int)+1) (b:=pw (dg n).length) (c:=1048576) (by omega) (by decide)
   omega)
  have tr:=a6I (dat (dg m) i::dg r) (by simp;omega)
  rw [b5g (d:=n) hda,hy,lbY,hR] at tr
  conv=>whnf
  repeat' (first|refine zz ?_|refine qp (toC,y5) ?_|refine qp toC ?_|refine qp 2 ?_|refine qp (toC,y5,c9,hy) ?_|refine qp (toC,Nat.add_comm) ?_|refine a2n.own ?_|refine F4 ei (u5 (by omega)) ?_|refine o8 (by simp [toC,y5]) (by simp [toC];omega) ?_|refine .inr ⟨_,_,w6 [2] tr ⟨a19 (u4 (by simp) rfl (by intro h;cases h) rfl (by simp [toC,y5,c9,hy]) (by simp [toC,Nat.add_comm])),trivial⟩ rfl,?_⟩|refine zd ?_ ?_<;>intro h<;>try omega|refine zy ?_|fail)<;>conv=>whnf
  refine n8 c8 (σ:=Nat × Nat) (fun|(lo,hi)=>([d6 (dg m),d6 (dg n),J,J,J,J,M4 0 q,d6 (dg R),a7 .i64 i,a7 .i64 lo,a7 .i64 hi]++Jn 49,[k8 q])) (fun x=>x.1*n<=R∧R<x.2*n∧x.1<x.2∧x.2<=1048576) (fun x=>x.2 - x.1) (0,1048576) [some 0]
   ⟨by simp,by show R<1048576*n;rw [Nat.mul_comm];exact hRn,by decide,by decide⟩ ⟨rfl,rfl,⟨a8 rfl rfl rfl rfl rfl,trivial⟩,⟨rfl,rfl,f8 rfl rfl,rfl,b8 ei,rfl,rfl,trivial⟩⟩ ?_
  rintro ⟨lo,hi⟩ ⟨i1,i2,i3,i4⟩
  have i1:lo*n<=R:=i1
  have i2:R<hi*n:=i2
  have i3:lo<hi:=i3
  have i4:hi<=1048576:=i4
  have ln1:(dg n).length<=200000:=ln
  by_cases hc:1<hi - lo
  ·have hmid:(((lo:Int)+hi) / 2)=(((lo+hi) / 2:Nat):Int):=by omega
   generalize hM:(lo+hi) / 2=mid at hmid
   have tm:=b21 (dg n) [(mid:Int)] (t5 n) (by intro x hx;simp at hx;omega) (by omega) (by simp)
   have e0:val [(mid:Int)]=mid:=by simp [val]
   rw [e0,o9,show ((n:Int)*mid).toNat=n*mid by rw [← Int.natCast_mul];rfl] at tm
   have lnm:(dg (n*mid)).length<=(dg n).length+1:=lbS (a3K _ _) (by have:=s9 (x:=(mid:Int)) (by omega) (by omega);simp only [bl,Int.natAbs_natCast] at this;omega)
   have ls:=b53 (dg R) (dg (n*mid)) (t5 _) (t5 _) (by omega) (by omega)
   rw [o9,o9] at ls
   conv=>whnf
   repeat' (first|refine zx ?_|refine qp ls ?_|refine qp (Int.tdiv_eq_ediv_of_nonneg (by omega)) ?_|refine ⟨by decide,_,B5 (y:=(mid:Int)) (by rw [Int.tdiv_eq_ediv_of_nonneg (by omega)];exact hmid) (by omega) (by omega),?_⟩|refine .inl ⟨_,_,a0K tm ⟨ao7,a19 (aS2 rfl),trivial⟩ rfl,?_⟩|refine zd ?_ ?_<;>intro h<;>try omega|fail)<;>conv=>whnf
   ·have hlt:R<n*mid:=Int.ofNat_lt.1 (lbL (by assumption))
    exact ⟨[some 0],(lo,mid),⟨rfl,rfl,⟨a8 rfl rfl rfl rfl rfl,trivial⟩,⟨rfl,rfl,f8 rfl rfl,rfl,rfl,rfl,rfl,trivial⟩⟩,⟨i1,by show R<mid*n;rw [Nat.mul_comm];exact hlt,by show lo<mid;omega,by show mid<=1048576;omega⟩,by show mid - lo<hi - lo;omega⟩
   ·have hlt:n*mid<=R:=Nat.not_lt.1 (fun h=>absurd (Int.ofNat_lt.2 h) (lbM (by assumption)))
    exact ⟨[some 0],(mid,hi),⟨rfl,rfl,⟨a8 rfl rfl rfl rfl rfl,trivial⟩,⟨rfl,rfl,f8 rfl rfl,rfl,rfl,rfl,rfl,trivial⟩⟩,⟨by show mid*n<=R;rw [Nat.mul_comm];exact hlt,i2,by show mid<hi;omega,i4⟩,by show hi - mid<hi - lo;omega⟩
  ·obtain rfl:hi=lo+1:=by omega
   have hq:R / n=lo:=by
    rw [Nat.div_eq_iff hn]
    rw [Nat.add_mul] at i2
    omega
   have hm2:=Nat.div_add_mod R n
   rw [hq] at hm2
   have hrm:=Nat.mod_lt R hn
   have tl:=a6I [(lo:Int)] (by simp)
   rw [K5 (by intro x hx;simp at hx;omega),show (val [(lo:Int)]).toNat=lo by simp [val]] at tl
   have llo:(dg lo).length<=1:=by have:=s9 (x:=(lo:Int)) (by omega) (by omega);simpa [bl] using this
   have tt:=aK9 n lo (by omega) (by omega)
   have mi:=b1I (dg R) (dg (n*lo)) (t5 _) (t5 _) (by omega) (p7 (by omega)) (by rw [o9,o9];omega)
   rw [o9,o9,show ((R:Int) - ((n*lo:Nat):Int)).toNat=R % n by omega] at mi
   have hst:=hI.step (t5 m) (by omega)
   have c1:((r:Int)*1048576+dat (dg m) i)=(R:Int):=by rw [hy,←hR];simp
   rw [c1] at hst
   have c2:(R:Int) / n=(lo:Int):=by rw [← hq];simp
   have c3:(R:Int) % n=((R % n:Nat):Int):=by simp
   rw [c2,c3] at hst
   have gq:q[0+(i:Int).toNat]? =some (dat q i):=O0 (by omega) (by omega)
   conv=>whnf
   repeat' (first|refine zx ?_|refine qp tt ?_|refine qp mi ?_|refine .inl ⟨_,_,a0K tl ⟨a19 (aS2 rfl),trivial⟩ rfl,?_⟩|refine U1 (by omega) (by show _<((q.length:Nat):Int);omega) ?_|refine o5 gq ?_|refine zd ?_ ?_<;>intro h<;>try omega|fail)<;>conv=>whnf
   all_goals try omega
   refine ⟨[some 0],(i,q.set i lo,R % n),⟨rfl,rfl,⟨a8 rfl rfl rfl (K2 (by omega)) rfl,trivial⟩,⟨rfl,rfl,f8 rfl (by simp),rfl,b8 (by omega),trivial⟩⟩,hst,by show i<i+1;omega⟩
 ·obtain rfl:j=0:=by omega
  obtain ⟨f1,f2⟩:=hI.fin (t5 m) (by omega)
  have tq:=a6I q (by have:=hI.len;omega)
  rw [f1,o9,show ((m:Int) / n).toNat=m / n by rw [← Int.natCast_ediv];rfl] at tq
  rw [o9] at f2
  have f3:r=m % n:=by
   have:(m:Int) % n=((m % n:Nat):Int):=by simp
   omega
  subst f3
  conv=>whnf
  repeat' (first|refine zx ?_|refine qp 0 ?_|refine .inr ⟨_,_,w6 [0] tq ⟨a19 (u4 (by simp) rfl (by intro h;cases h) rfl rfl (by simp)),trivial⟩ rfl,?_⟩|refine zd ?_ ?_<;>intro h<;>try omega|fail)<;>conv=>whnf
  all_goals try omega
  exact k9 ⟨rfl,rfl,trivial⟩
theorem a3B (b:Bg) (hl:b.dl.length<=1000000):a9 Tryz.prog 180 [bgS b] [] (e8 (I3 b)) []:=by
 have l2:(b.dl.map c9).length=b.dl.length:=by simp
 (refine ac Tryz.func180 ?_;(conv=>whnf);repeat ((first|refine b0x ?_|refine zy ?_);conv=>whnf))
 repeat' (first|refine zx ?_|refine zd ?_ ?_<;>intro h<;>try omega|fail)<;>conv=>whnf
 refine d8 c8 (fun k=>([J,S.c (C.t (T.ptr [ti b.sg,K4 b.dl])),J,a7 .i64 k]++Jn 52,[])) b.dl.length (fun k=>(b.dl.take k).all inD=true) [] rfl
  ⟨rfl,rfl,trivial,⟨g6 rfl,rfl,trivial⟩⟩ ?_
 intro k hk hI
 by_cases hlt:k<b.dl.length
 ·conv=>whnf
  repeat' (first|refine zx ?_|refine b9 (u5 (by omega)) ?_|refine zd ?_ ?_<;>intro h<;>try omega|fail)<;>conv=>whnf
  all_goals first
   |omega
   |exact ⟨hlt,by rw [u6 (u5 hlt),hI];simp [inD];omega,[],rfl,rfl,trivial,⟨rfl,rfl,trivial⟩⟩
   |(refine c7 ?_;unfold I3;rw [x9 (u5 hlt) (by simp [inD];omega)];rfl)
 ·have hke:k=b.dl.length:=by omega
  subst hke
  have ha:b.dl.all inD=true:=by rw [← hI,lbn (by omega)]
  have hgl:0<b.dl.length->b.dl[((((b.dl.map c9).length:Nat):Int) - 1).toNat]? =some (dat b.dl (b.dl.length - 1)):=fun h=>by rw [l2];exact a7g h
  conv=>whnf
  repeat' (first|refine zx ?_|refine v6 (by omega) (hgl (by omega)) ?_|refine zd ?_ ?_<;>intro h<;>try omega|fail)<;>conv=>whnf
  all_goals first
   |omega
   |(exfalso;simp_all;done)
   |(exfalso;simp_all;omega)
   |skip
  all_goals
   refine c7 ?_
   unfold I3
   rw [ha]
   by_cases hz:b.dl.length=0
   ·rw [if_pos hz];simp_all<;>omega
   ·rw [if_neg hz];simp_all<;>omega
theorem a0M (x:Int) (lx:bl x<=300000):a9 Tryz.prog 180 [bgS (bz x)] [] (e8 true) []:=by
 have:=a3B (bz x) (show bl x<=1000000 by omega)
 rw [a0i] at this
 exact this
theorem b9j (n:Int) (h0:-9223372036854775808<=n) (h1:n<=9223372036854775807):a9 Tryz.prog 176 [a7 .i64 n] [] (bgS (bz n)) []:=by
 rcases Int.lt_trichotomy n 0 with hn|hn|hn
 ·(refine ac Tryz.func176 ?_;(conv=>whnf);repeat (refine zy ?_;conv=>whnf))
  repeat' (first|refine zx ?_|refine zd ?_ ?_<;>intro h<;>try omega|fail)<;>conv=>whnf
  all_goals try omega
  refine n8 c8 (σ:=List Int × Nat) (fun|(acc,u)=>([a7 .i64 (- (u:Int)),J,S.c (C.ptr 0 0 0),a7 .i64 (-1),M4 1 acc]++Jn 23,[b3d,k8 acc])) (fun s=>OfI n s.1 s.2) (fun s=>s.2) ([],n.natAbs) [some 0,none]
   ⟨rfl⟩ ⟨rfl,rfl,⟨⟨rfl,rfl,rfl,.inl ⟨rfl,W5⟩⟩,⟨rfl,rfl⟩,trivial⟩,⟨b8 (by omega),⟨rfl,rfl,rfl⟩,rfl,⟨rfl,rfl,rfl⟩,trivial⟩⟩ ?_
  rintro ⟨acc,u⟩ hI
  have hI:OfI n acc u:=hI
  have hl:=hI.len h0 h1
  have hu:=hI.le
  have hm:(- (u:Int)).tmod 1048576=- ((u:Int) % 1048576):=by
   first
    |exact Int.tmod_eq_emod_of_nonneg (by omega)
    |(rw [Int.neg_tmod,Int.tmod_eq_emod_of_nonneg (by omega)])
  have hd:(- (u:Int)).tdiv 1048576=- ((u / 1048576:Nat):Int):=by
   first
    |(rw [Int.tdiv_eq_ediv_of_nonneg (by omega)];simp;done)
    |(rw [Int.neg_tdiv,Int.tdiv_eq_ediv_of_nonneg (by omega)];simp)
  by_cases hu0:0<u
  ·have hst:=hI.step hu0
   conv=>whnf
   repeat' (first|refine zx ?_|refine qp toC ?_|refine qp toC ?_|refine o8 (by simp [toC]) (by simp [toC];omega) ?_|refine ⟨by decide,_,B5 hd (by omega) (by omega),?_⟩|refine au1 (by decide) ?_|refine zd ?_ ?_<;>intro h<;>try omega|fail)<;>conv=>whnf
   all_goals try omega
   all_goals
    refine ⟨[some 0,some 2],(acc++[(u:Int) % 1048576],u / 1048576),⟨rfl,rfl,⟨⟨rfl,rfl,rfl,.inl ⟨rfl,W5⟩⟩,a8 rfl rfl rfl ?_ rfl,trivial⟩,⟨b8 rfl,⟨rfl,rfl,rfl⟩,rfl,f8 rfl (by simp [toC]),trivial⟩⟩,hst,by show u / 1048576<u;omega⟩
    have e:∀y:Int,y=(u:Int) % 1048576->(toC (acc.map c9)).take acc.length++toC [[ti y]]=toC ((acc++[(u:Int) % 1048576]).map c9):=fun y hy=>by rw [hy];exact a29
    exact e _ (by omega)
  ·have h0u:u=0:=by omega
   subst h0u
   have e:acc=dg n.natAbs:=by have:=hI.eq;rw [W4,List.append_nil] at this;exact this
   have sg:=I8 (-1) n.natAbs (by omega) (by rw [← e];omega)
   rw [← e,show (-1)*(n.natAbs:Int)=n by omega] at sg
   conv=>whnf
   repeat' (first|refine zx ?_|refine qp 1 ?_|refine .inr ⟨_,_,w6 [1] sg ⟨ao7,a19 (u4 (by simp) rfl (by intro h;cases h) rfl rfl (by simp)),trivial⟩ rfl,?_⟩|refine zd ?_ ?_<;>intro h<;>try omega|fail)<;>conv=>whnf
   all_goals try omega
   exact k9 ⟨rfl,rfl,trivial⟩
 ·subst hn
  (refine ac Tryz.func176 ?_;(conv=>whnf);repeat (refine zy ?_;conv=>whnf))
  repeat' (first|refine zx ?_|refine zd ?_ ?_<;>intro h<;>try omega|fail)<;>conv=>whnf
  all_goals first
   |omega
   |exact k9 ⟨rfl,rfl,trivial⟩
 ·(refine ac Tryz.func176 ?_;(conv=>whnf);repeat (refine zy ?_;conv=>whnf))
  repeat' (first|refine zx ?_|refine zd ?_ ?_<;>intro h<;>try omega|fail)<;>conv=>whnf
  all_goals try omega
  refine n8 c8 (σ:=List Int × Nat) (fun|(acc,u)=>([a7 .i64 ((u:Int)),J,S.c (C.ptr 0 0 0),a7 .i64 (1),M4 1 acc]++Jn 23,[b3d,k8 acc])) (fun s=>OfI n s.1 s.2) (fun s=>s.2) ([],n.natAbs) [some 0,none]
   ⟨rfl⟩ ⟨rfl,rfl,⟨⟨rfl,rfl,rfl,.inl ⟨rfl,W5⟩⟩,⟨rfl,rfl⟩,trivial⟩,⟨b8 (by omega),⟨rfl,rfl,rfl⟩,rfl,⟨rfl,rfl,rfl⟩,trivial⟩⟩ ?_
  rintro ⟨acc,u⟩ hI
  have hI:OfI n acc u:=hI
  have hl:=hI.len h0 h1
  have hu:=hI.le
  have hm:((u:Int)).tmod 1048576=((u:Int) % 1048576):=by
   first
    |exact Int.tmod_eq_emod_of_nonneg (by omega)
    |(rw [Int.neg_tmod,Int.tmod_eq_emod_of_nonneg (by omega)])
  have hd:((u:Int)).tdiv 1048576=((u / 1048576:Nat):Int):=by
   first
    |(rw [Int.tdiv_eq_ediv_of_nonneg (by omega)];simp;done)
    |(rw [Int.neg_tdiv,Int.tdiv_eq_ediv_of_nonneg (by omega)];simp)
  by_cases hu0:0<u
  ·have hst:=hI.step hu0
   conv=>whnf
   repeat' (first|refine zx ?_|refine qp toC ?_|refine qp toC ?_|refine o8 (by simp [toC]) (by simp [toC];omega) ?_|refine ⟨by decide,_,B5 hd (by omega) (by omega),?_⟩|refine au1 (by decide) ?_|refine zd ?_ ?_<;>intro h<;>try omega|fail)<;>conv=>whnf
   all_goals try omega
   all_goals
    refine ⟨[some 0,some 2],(acc++[(u:Int) % 1048576],u / 1048576),⟨rfl,rfl,⟨⟨rfl,rfl,rfl,.inl ⟨rfl,W5⟩⟩,a8 rfl rfl rfl ?_ rfl,trivial⟩,⟨b8 rfl,⟨rfl,rfl,rfl⟩,rfl,f8 rfl (by simp [toC]),trivial⟩⟩,hst,by show u / 1048576<u;omega⟩
    have e:∀y:Int,y=(u:Int) % 1048576->(toC (acc.map c9)).take acc.length++toC [[ti y]]=toC ((acc++[(u:Int) % 1048576]).map c9):=fun y hy=>by rw [hy];exact a29
    exact e _ (by omega)
  ·have h0u:u=0:=by omega
   subst h0u
   have e:acc=dg n.natAbs:=by have:=hI.eq;rw [W4,List.append_nil] at this;exact this
   have sg:=I8 (1) n.natAbs (by omega) (by rw [← e];omega)
   rw [← e,show (1)*(n.natAbs:Int)=n by omega] at sg
   conv=>whnf
   repeat' (first|refine zx ?_|refine qp 1 ?_|refine .inr ⟨_,_,w6 [1] sg ⟨ao7,a19 (u4 (by simp) rfl (by intro h;cases h) rfl rfl (by simp)),trivial⟩ rfl,?_⟩|refine zd ?_ ?_<;>intro h<;>try omega|fail)<;>conv=>whnf
   all_goals try omega
   exact k9 ⟨rfl,rfl,trivial⟩
theorem b8K (x y:Int) (lx:bl x<=200000) (ly:bl y<=200000):a9 Tryz.prog 181 [bgS (bz x),bgS (bz y)] [] (.tup [bgS (bz (Int.gcd x y)),a7 .i64 0]) []:=by
 have r1:=a0M x (by omega)
 have r2:=a0M y (by omega)
 (refine ac Tryz.func181 ?_;(conv=>whnf);repeat (refine zy ?_;conv=>whnf))
 repeat' (first|refine zx ?_|refine qp r1 ?_|refine qp r2 ?_|refine zd ?_ ?_<;>intro h<;>try omega|fail)<;>conv=>whnf
 all_goals first
  |(exfalso;simp_all;done)
  |skip
 refine n8 c8 (σ:=Nat × Nat) (fun|(X,Y)=>([J,J,J,J,S.c (C.ptr 0 0 0),J,d6 (dg X),d6 (dg Y)]++Jn 28,[b3d])) (fun s=>b7R x y s.1 s.2) (fun s=>s.2) (x.natAbs,y.natAbs) [some 2]
  ⟨rfl,lx,ly⟩ ⟨rfl,rfl,⟨⟨rfl,rfl,rfl,.inl ⟨rfl,W5⟩⟩,trivial⟩,⟨⟨rfl,rfl,rfl⟩,rfl,rfl,trivial⟩⟩ ?_
 rintro ⟨X,Y⟩ hI
 have hI:b7R x y X Y:=hI
 obtain ⟨g1,g2,g3⟩:=hI
 have l2:((dg Y).map c9).length=(dg Y).length:=by simp
 by_cases hY:0<Y
 ·have hp:(dg Y).length≠0:=by rw [Ne,List.length_eq_zero_iff,Q5];omega
  have dv:=b5m X Y hY (by omega) (by omega)
  conv=>whnf
  repeat' (first|refine zx ?_|refine qp dv ?_|refine zd ?_ ?_<;>intro h<;>try omega|fail)<;>conv=>whnf
  all_goals first
   |omega
   |exact ⟨[some 0],(Y,X % Y),⟨rfl,rfl,⟨⟨rfl,rfl,rfl,.inl ⟨rfl,W5⟩⟩,trivial⟩,⟨⟨rfl,rfl,rfl⟩,rfl,rfl,trivial⟩⟩,⟨by rw [← g1,Nat.gcd_comm Y,←Nat.gcd_rec,Nat.gcd_comm],g3,lbS (p7 (Nat.le_of_lt (Nat.mod_lt X hY))) g3⟩,Nat.mod_lt X hY⟩
 ·have hY:Y=0:=by omega
  subst hY
  have hp:(dg 0).length=0:=rfl
  have s1:=I8 1 X (by simp) (by omega)
  conv=>whnf
  repeat' (first|refine zx ?_|refine qp s1 ?_|refine zd ?_ ?_<;>intro h<;>try omega|fail)<;>conv=>whnf
  all_goals first
   |omega
   |skip
  refine a6o ?_
  rw [Int.one_mul,show X=Int.gcd x y by rw [Int.gcd,←g1,Nat.gcd_zero_right]]
theorem b8A (x y:Int) (hy:0<y) (hxy:x % y=0) (lx:bl x<=200000) (ly:bl y<=200000):a9 Tryz.prog 189 [bgS (bz x),bgS (bz y)] [] (.tup [bgS (bz (x / y)),bgS (bz 0),a7 .i64 0]) []:=by
 have r1:=a0M x (by omega)
 have r2:=a0M y (by omega)
 have hys:(bz y).sg=1:=by rw [aq0,Int.sign_eq_one_of_pos hy]
 have ov:=b5m x.natAbs y.natAbs (by omega) lx ly
 have hmod:x.natAbs % y.natAbs=0:=by
  have:=Int.natAbs_dvd_natAbs.2 (Int.dvd_of_emod_eq_zero hxy)
  exact Nat.mod_eq_zero_of_dvd this
 have lq:=p7 (Nat.div_le_self x.natAbs y.natAbs)
 have hsg:(bz x).sg=x.sign:=rfl
 have hs:=C9 x
 have hq:x.sign*((x.natAbs / y.natAbs:Nat):Int)=x / y:=by
  obtain ⟨k,hk⟩:=Int.dvd_of_emod_eq_zero hxy
  subst hk
  have hk2:(y*k) / y=k:=Int.mul_ediv_cancel_left _ (by omega)
  rw [hk2,Int.natAbs_mul,Nat.mul_div_cancel_left _ (by omega),Int.sign_mul,Int.sign_eq_one_of_pos hy,Int.one_mul]
  exact Int.sign_mul_natAbs k
 have s1:=I8 x.sign (x.natAbs / y.natAbs) (by
  rcases hs with ⟨h,h1⟩|⟨h,h1⟩|⟨h,h1⟩
  ·right;right;subst h1;simp
  ·exact .inl h
  ·exact .inr (.inl h)) (by unfold bl at lx;omega)
 rw [hq] at s1
 have s2:=I8 x.sign 0 (by simp) (by rw [W4];simp)
 rw [show x.sign*((0:Nat):Int)=0 by simp] at s2
 have hmul:x.sign*1=x.sign:=Int.mul_one _
 have hd0:((dg (x.natAbs % y.natAbs)).map c9).length=0:=by rw [hmod,W4];rfl
 unfold aW1 at ov
 rw [hmod] at ov hd0
 (refine ac Tryz.func189 ?_;(conv=>whnf);repeat (refine zy ?_;conv=>whnf))
 repeat' (first|refine zx ?_|refine qp r1 ?_|refine qp r2 ?_|refine qp ov ?_|refine qp s1 ?_|refine qp s2 ?_|refine qp (hys,hsg) ?_|refine ⟨_,B5 (y:=x.sign) (by rw [hys,hsg];exact hmul) (by omega) (by omega),?_⟩|refine zd ?_ ?_<;>intro h<;>try omega|fail)<;>conv=>whnf
 all_goals first
  |omega
  |(exfalso;simp_all;done)
  |exact b1D rfl rfl
theorem b1v (p q:Int) (hq:0<q) (lp:bl p<=200000) (lq:bl q<=200000):a9 Tryz.prog 114 [bgS (bz p),bgS (bz q)] [] (.tup [frS (fz (Rat.divInt p q)),a7 .i64 0]) []:=by
 have r1:=a0M p (by omega)
 have r2:=a0M q (by omega)
 have hsg:(bz q).sg=1:=by rw [aq0,Int.sign_eq_one_of_pos hq]
 have lg:=ab4 p q lp lq
 have hg:0<(Int.gcd p q:Int):=by have:=Int.gcd_pos_of_ne_zero_right p (b:=q) (by omega);omega
 have g:=b8K p q lp lq
 have d1:=b8A p _ hg (Int.emod_eq_zero_of_dvd (Int.gcd_dvd_left ..)) lp lg
 have d2:=b8A q _ hg (Int.emod_eq_zero_of_dvd (Int.gcd_dvd_right ..)) lq lg
 have e:=a8O (p:=p) (q:=q) (by omega) rfl
 (refine ac Tryz.func114 ?_;(conv=>whnf);repeat (refine zy ?_;conv=>whnf))
 repeat' (first|refine zx ?_|refine qp r1 ?_|refine qp r2 ?_|refine qp g ?_|refine qp d1 ?_|refine qp d2 ?_|refine zd ?_ ?_<;>intro h<;>try omega|fail)<;>conv=>whnf
 all_goals first
  |omega
  |(exfalso;simp_all;done)
  |exact Y0 e.symm
theorem be4 (p q:Int) (hq:0<q) (p0:-9223372036854775808<=p) (p1:p<=9223372036854775807) (q1:q<=9223372036854775807):
 a9 Tryz.prog 106 [a7 .i64 p,a7 .i64 q] [] (.tup [frS (fz (Rat.divInt p q)),a7 .i64 0]) []:=by
 have l1:=U7 p0 p1
 have l2:=U7 (x:=q) (by omega) q1
 have o1:=b9j p p0 p1
 have o2:=b9j q (by omega) q1
 have n:=b1v p q hq (by omega) (by omega)
 (refine ac Tryz.func106 ?_;(conv=>whnf);repeat (refine zy ?_;conv=>whnf))
 repeat' (first|refine zx ?_|refine qp o1 ?_|refine qp o2 ?_|refine qp n ?_|refine zd ?_ ?_<;>intro h<;>try omega|fail)<;>conv=>whnf
 all_goals exact Y0 rfl
theorem a4j (n:Int) (p0:-9223372036854775808<=n) (p1:n<=9223372036854775807):a9 Tryz.prog 41 [a7 .i64 n] [] (frS (fz (n:Rat))) []:=by
 have o:=be4 n 1 (by decide) p0 p1 (by decide)
 have e:Rat.divInt n 1=(n:Rat):=by rw [Rat.divInt_eq_div];simp;grind
 rw [e] at o
 (refine ac Tryz.func41 ?_;(conv=>whnf);repeat (refine zy ?_;conv=>whnf))
 repeat' (first|refine zx ?_|refine qp o ?_|refine zd ?_ ?_<;>intro h<;>try omega|fail)<;>conv=>whnf
 all_goals exact k9 ⟨rfl,rfl,rfl,rfl,trivial⟩
abbrev ir (n:Int):Rat:=((n:Int):Rat)
instance:DecidableEq D3:=fun a b=>decidable_of_iff (a.terms=b.terms∧a.kind=b.kind∧a.value=b.value) ⟨fun ⟨h1,h2,h3⟩=>by cases a;cases b;simp_all,fun h=>by subst h;exact ⟨rfl,rfl,rfl⟩⟩
instance:DecidableEq g4:=fun a b=>decidable_of_iff (a.n=b.n∧a.rows=b.rows) ⟨fun ⟨h1,h2⟩=>by cases a;cases b;simp_all,fun h=>by subst h;exact ⟨rfl,rfl⟩⟩
section
theorem b57 {e:Ev} (h0:y8 e=0) {m:n9} (hm:m ∈ e.moves):∃(i:Nat) (p:G5),m.src=(i:Int)∧e.places[i]? =some p∧T9 e p=true:=by
 obtain ⟨h1,h2⟩:=B6 (p8 h0 hm)
 obtain ⟨i,hi⟩:=Int.eq_ofNat_of_zero_le h1
 have hlt:i<e.places.length:=by omega
 refine ⟨i,e.places[i],hi,lbf hlt,?_⟩
 have:=(a6K h0).2.2.2.2.1
 rw [lbv] at this
 exact this _ (lbE hlt)
section
variable {e:Ev} (h0:y8 e=0)
include h0
end
end
def D2 (l:List (Int × Rat)):Prop:=∀t ∈ l,∃c:Int,t.2=((c:Int):Rat)∧bl c<=1
theorem Y1 {i:Int} {c:Int} (h0:-1048575<=c) (h1:c<=1048575):D2 [(i,((c:Int):Rat))]:=by
 intro t ht
 simp at ht
 subst ht
 exact ⟨c,rfl,s9 h0 h1⟩
theorem a7Y {a b:List (Int × Rat)} (ha:D2 a) (hb:D2 b):D2 (a++b):=by
 intro t ht
 rcases lbz.1 ht with h|h
 ·exact ha t h
 ·exact hb t h
theorem a69 {e:Ev} {p:Int}:∀k,D2 (j0 e p k)
 |0=>by intro t ht;cases ht
 |k+1=>by
  have ih:=a69 (e:=e) (p:=p) k
  unfold j0
  split
  ·exact ih
  ·split
   ·exact a7Y ih (Y1 (by decide) (by decide))
   ·split
    ·exact a7Y ih (Y1 (by decide) (by decide))
    ·exact ih
theorem a6W {l:List (Int × Rat)} {z:List Rat} {B:Nat} (h1:∀t ∈ l,rl t.2<=1) (h2:∀v ∈ z,rl v<=B):∀k,rl (p4 (l.take k) z)<=l.length*(B+4)+1:=by
 have key:∀k,k<=l.length->rl (p4 (l.take k) z)<=k*(B+4)+1:=by
  intro k
  induction k with
  |zero=>intro _;rw [List.take_zero];have:=rl0;show rl 0<=_;omega
  |succ k ih=>
   intro hk
   have ih:=ih (by omega)
   rw [List.take_succ_eq_append_getElem (show k<l.length by omega),T7]
   have a1:=h1 l[k] (lbE _)
   have a2:rl (z.getD l[k].1.toNat 0)<=B+1:=by
    by_cases hz:l[k].1.toNat<z.length
    ·have:=h2 _ (lbm (getD_some hz));omega
    ·rw [lbl,lbd (by omega)]
     have:=rl0
     show rl 0<=_
     omega
   have a3:=a45 l[k].2 (z.getD l[k].1.toNat 0)
   have a4:=a4H (p4 (l.take k) z) (l[k].2*z.getD l[k].1.toNat 0)
   rw [lbV]
   omega
 intro k
 by_cases hk:k<=l.length
 ·have h3:=key k hk
  have h4:=lbU (B+4) hk
  omega
 ·have h3:=key l.length (lbR _)
  rw [lbn (lbR _)] at h3
  rw [lbn (by omega)];exact h3
theorem P9 {l:List (Int × Rat)} (h:D2 l):∀t ∈ l,rl t.2<=1:=by
 intro t ht
 obtain ⟨c,hc,hb⟩:=h t ht
 rw [hc,a2K]
 have h1:bl 1<=1:=s9 (by decide) (by decide)
 omega
theorem b36 {s:g4} {g:List (Int × Rat)} {n B:Nat} (h:J4 s g n B):∀v ∈ A6 s g,rl v<=B:=by
 intro v hv
 have hb:=af0 h
 have hn:=h.nn
 have h1:=h.b1
 obtain ⟨j,hj,rfl⟩:=a5F hv
 have hp:a0n (f5 s).length s.n.toNat (y3 s g):=S1.p
 rw [hn] at hj hp ⊢
 rw [← b0M hp hj]
 have key:∀k,k<=(f5 s).length->rl (ptK n (y3 s g).O (y3 s g).V (fun _=>0) k j)<=B:=by
  intro k
  induction k with
  |zero=>intro _;have:=rl0;show rl 0<=_;omega
  |succ k ih=>
   intro hk
   rw [S0]
   simp only
   split
   ·exact hb.v k (by omega)
   ·exact ih (by omega)
 exact key _ (lbR _)
theorem a0z {l:List (Int × Rat)} (h:D2 l):D2 (R8 l):=by
 intro t ht
 obtain ⟨u,hu,rfl⟩:=lbx.1 ht
 obtain ⟨c,hc,hb⟩:=h u hu
 refine ⟨-c,?_,by rw [aa1];exact hb⟩
 show u.2*((-1:Int):Rat)=((-c:Int):Rat)
 rw [hc]
 have e:((-c:Int):Rat)=-((c:Int):Rat):=by push_cast;rfl
 have e1:((-1:Int):Rat)=-1:=rfl
 rw [e,e1];grind
theorem Y5 {n:Int}:∀{l:List (Int × Rat)} {last:Int},f9 last n l=true->f9 last n (R8 l)=true
 |[],_,_=>rfl
 |a::r,last,h=>by
  unfold f9 at h
  show f9 last n ((a.1,a.2*((-1:Int):Rat))::R8 r)=true
  unfold f9
  simp only [lbN,lbI] at h ⊢
  refine ⟨⟨⟨h.1.1.1,h.1.1.2⟩,fun e=>h.1.2 ?_⟩,Y5 h.2⟩
  have e1:((-1:Int):Rat)=-1:=rfl
  rw [e1] at e
  grind
theorem b81 (l:List (Int × Rat)):(R8 l).length=l.length:=a25 _ _
theorem aC2 {s:g4} {g:List (Int × Rat)} (hr:j8 s=true) (hz:a1d s []=.best):a1d s g=.best∨∃c,a1d s g=.col c:=by
 rcases ar9 s g with h|⟨r,h⟩|h
 ·exact .inl h
 ·have h1:=(a3o hr rfl hz).1
  rw [b0W h] at h1;cases h1
 ·exact .inr h
end Go.Proofs.YtdbogogfeffjlaaGreat
