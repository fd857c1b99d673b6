/- Part 5. -/
import Derived.Test.YtdbogogfeffjlaaGreatQs4
namespace Go.Proofs.YtdbogogfeffjlaaGreat
set_option linter.unusedVariables false
set_option linter.unusedSimpArgs false
set_option maxRecDepth 100000
open Go.RowKit
open St1 St2 St3 St4 St5 St6 St7 St8
theorem a53 {P:Program} {g:FuncId} {args:List S} {H:Hp} {b:Blk} {n:Nat} {app:Bool} (h:a9 P g args [] (.c (.own 0 0 n app)) [b]) (ha:args.all S.isT=true) (hm:b.mode=.live) (hb:I2 b.rows):
 W6 P g args H (.c (.own H.length 0 n app)) [b]:=by
 refine ⟨h.1,fun w ι M vals hl hv hH hM hf=>?_⟩
 have:=h.2 w (fun _=>none) M vals hl (fun j s hj=>(hv j s hj).tree (List.all_eq_true.1 ha s (lg2 hj)))
  ⟨by simp,by simp,by simp,by simp,by simp⟩ hM (fun _ _=>rfl)
 refine Calls.mono this ?_
 rintro e w' ⟨v,rfl,ι',M',h1,h2,h3,h4,h5⟩
 have hnl:∀x,¬a2V (fun _=>none) ([]:Hp) x:=by rintro x ⟨id,k,_,_,hk,_⟩;simp at hk
 obtain ⟨l,hl0⟩:∃l,ι' 0=some l:=by
  cases h1 with
  |c h1=>cases h1 with
   |own hi=>exact ⟨_,hi⟩
   |nil hi=>exact ⟨_,hi⟩
 have hnew:y4 ι H.length [b].length (fun _=>l) H.length=some l:=by unfold y4;simp
 have hMM:∀x,a4w M [b].length (fun _=>l) x->M' x:=by
  intro x hx
  rcases hx with hx|⟨k,hk,cap,size,he⟩
  ·rcases h5.mold x hx with h|h
   ·exact h
   ·exact absurd h (hnl x)
  ·have he:l=.blk x cap size:=he
   subst he
   exact h2.liv 0 b rfl hm x cap size hl0
 refine ⟨v,rfl,fun _=>l,?_,⟨h5.os,h5.tape,h5.output,h5.size,fun x hx=>h5.keep x hx (hnl x)⟩,?_,?_,?_⟩
 ·cases h1 with
  |c h1=>cases h1 with
   |own hi q1 q2 q3 q4 q5=>
    rw [hl0] at hi;injection hi with hi
    subst hi
    exact .c (.own hnew q1 q2 q3 q4 q5)
   |nil hi=>
    rw [hl0] at hi;injection hi with hi
    subst hi
    exact .c (.nil hnew)
 ·intro k blk hk
  cases k with
  |succ k=>simp at hk
  |zero=>
   simp at hk
   subst hk
   refine ⟨hm,?_⟩
   have hbr:=h2.blk 0 b rfl (by rw [hm];intro h;cases h) l hl0
   cases l with
   |nil=>exact hbr
   |blk x cap size=>
    obtain ⟨r1,r2,r3,r4,r5,cur,r6,r7,r8⟩:=hbr
    refine ⟨r1,r2,r3,r4,r5,cur,r6,r7,fun i j c hc=>?_⟩
    obtain ⟨u,u1,u2⟩:=r8 i j c hc
    exact ⟨u,u1,a8O hMM hb hc u2⟩
 ·intro k x cap size hk he
  have he:l=.blk x cap size:=he
  subst he
  refine ⟨?_,h3 x (h2.liv 0 b rfl hm x cap size hl0)⟩
  rcases h5.live x ⟨0,b,cap,size,rfl,hm,hl0⟩ with h|h
  ·exact absurd h (hnl x)
  ·exact h
 ·intro k k' x cap size cap' size' hk hk' _ _
  simp at hk hk'
  omega
theorem b1D (H:Hp) (n:Nat) (hn:n<=1000):W6 Tryz.prog 254 [a7 .i64 n] H (.c (.own H.length 0 n true)) [flB (rF n fun _=>0)]:=
 a53 (b6i n hn) rfl rfl (c7 _)
def a4m (l:List (Int × Rat)):Nat->Nat->Rat
 |0=>v8 l
 |k+1=>match l[k]? with
  |none=>a4m l k
  |some t=>fun j=>if j=t.1.toNat then -t.2 else a4m l k j
theorem an5 {l:List (Int × Rat)} {k:Nat} {t:Int × Rat} (h:l[k]? =some t):a4m l (k+1)=fun j=>if j=t.1.toNat then -t.2 else a4m l k j:=by rw [a4m,h]
theorem b00 (l:List (Int × Rat)) (j:Nat):∀k,k<=l.length->a4m l k j=-(I9 l k j)∨(I9 l k j=0∧a4m l k j=v8 l j)
 |0,_=>.inr ⟨rfl,rfl⟩
 |k+1,hk=>by
  obtain ⟨t,ht⟩:∃t,l[k]? =some t:=⟨_,lg0 (by omega)⟩
  rw [an5 ht,G5 ht]
  simp only
  by_cases hj:j=t.1.toNat
  ·rw [if_pos hj,if_pos hj];exact .inl rfl
  ·rw [if_neg hj,if_neg hj];exact b00 l j k (by omega)
theorem b3W (l:List (Int × Rat)):a4m l l.length=fun j=>-(v8 l j):=by
 funext j
 rcases b00 l j l.length (Nat.le_refl _) with h|⟨h1,h2⟩
 ·exact h
 ·rw [h2]
  have:v8 l j=0:=h1
  rw [this];decide
def sgF (b:Bool) (l:List (Int × Rat)):Nat->Rat:=fun j=>S2 b (v8 l j)
theorem a19 {H:Hp} {N n:Nat} (hN:H.length=N) (hn:n<=1000):W6 Tryz.prog 254 [a7 .i64 n] H (.c (.own N 0 n true)) [flB (rF n fun _=>0)]:=by subst hN;exact b1D H n hn
abbrev pB (n k l i f:Nat):Blk:={ mode:=.live,elem:=256,size:=6,rows:=[[C.t (ti n),.own l 0 k true,.own 2 0 n true,.own i 0 k true,.t (.sl 0 .nil []),.own f 0 k true]],box:=true }
abbrev a9G (t:TypeId) (s:Nat):Blk:=⟨.dead,t,s,[],false,false⟩
abbrev a5O (n k:Nat) (V G:Nat->Rat) (O:Nat->Nat) (fr:List (Nat × Bool)) (A:Nat->Nat->Rat) (X:Hp):Hp:=
 pB n k 1 3 4::a0v 5 k n V::flB (rF n G)::X5 k O::a1E fr::((mF k n A).map flB++X)
abbrev lnX (k n:Nat) (v:Rat):Blk:={ mode:=.live,elem:=259,size:=5,rows:=[frC (fz v)++[C.own (k+6) 0 n true]],box:=true }
abbrev b0D (n k:Nat) (v:Rat) (a V G:Nat->Rat) (O:Nat->Nat) (fr:List (Nat × Bool)) (f:Nat × Bool) (A:Nat->Nat->Rat) (bx:Blk):Hp:=
 pB n (k+1) (k+8) (k+7) (k+9)::a9G 259 5::flB (rF n G)::a9G 3 1::a9G 284 2::((mF k n A).map flB++
  [bx,flB (rF n a),X5 (k+1) O,{ mode:=.live,elem:=259,size:=5,rows:=P7 5 k n V++[frC (fz v)++[C.own (k+6) 0 n true]],box:=false },a1E (fr++[f])])
theorem as1 {k n N:Nat} {v:Rat} (h:k+6<N):okB N (lnX k n v):=by
 intro r hr c hc
 simp at hr;subst hr
 simp [frC] at hc
 rcases hc with rfl|rfl|rfl|rfl|rfl<;>first|trivial|exact h
theorem b8N {n k N l i f:Nat} (h1:l<N) (h2:i<N) (h3:f<N) (h4:2<N):okB N (pB n k l i f):=by
 intro r hr c hc
 simp at hr;subst hr
 simp at hc
 rcases hc with rfl|rfl|rfl|rfl|rfl|rfl<;>first|trivial|assumption
theorem aE3 {n k:Nat} {V G:Nat->Rat} {O:Nat->Nat} {fr:List (Nat × Bool)} {A:Nat->Nat->Rat} {X:Hp}:(a5O n k V G O fr A X).length=k+5+X.length:=by simp [b8];omega
theorem b51 {n k N:Nat} {V G:Nat->Rat} {O:Nat->Nat} {fr:List (Nat × Bool)} {A:Nat->Nat->Rat} {X:Hp} (h:k+5<=N) (hX:∀b ∈ X,okB N b):∀b ∈ a5O n k V G O fr A X,okB N b:=by
 intro b hb
 simp only [List.mem_cons,List.mem_append] at hb
 rcases hb with rfl|rfl|rfl|rfl|rfl|hb|hb
 ·exact b8N (by omega) (by omega) (by omega) (by omega)
 ·exact a9k h
 ·exact E7 rfl
 ·exact E7 rfl
 ·exact E7 rfl
 ·obtain ⟨l,_,rfl⟩:=List.mem_map.1 hb
  exact E7 rfl
 ·exact hX b hb
theorem b3D {n k:Nat} {V G:Nat->Rat} {O:Nat->Nat} {fr:List (Nat × Bool)} {A:Nat->Nat->Rat} {X X':Hp}:a5O n k V G O fr A (X++X')=a5O n k V G O fr A X++X':=by
 show _::_::_::_::_::(_++(X++X'))=_::_::_::_::_::((_++X)++X')
 rw [List.append_assoc]
theorem Y0 {n0 N n k:Nat} {V G:Nat->Rat} {O:Nat->Nat} {fr:List (Nat × Bool)} {A:Nat->Nat->Rat} {X X' H:Hp} {env env':Env} (hH:H=a5O n k V G O fr A (X++X')) (hN:k+5+X.length=N) (h0:n0<=N) (hX:∀b ∈ X,okB N b)
 (hE:a0B (idR N) H env env'):Ent n0 (idR N) env H env' (a5O n k V G O fr A X):=by
 refine a6T (by rw [aE3];exact hN) h0 (b51 (by omega) hX) (fun i hi=>?_) hE
 rw [hH,b3D,List.getElem?_append_left (by rw [aE3];omega)]
theorem a1t {b0 b1 b2 b3 b4 c0 c1 c2 c3 c4:Blk} {L L':Hp} (h0:b0=c0) (h1:b1=c1) (h2:b2=c2) (h3:b3=c3) (h4:b4=c4) (h6:L=L'):b0::b1::b2::b3::b4::L=c0::c1::c2::c3::c4::L':=by
 subst h0 h1 h2 h3 h4 h6;rfl
def fR (N:Nat) (f:Nat->Nat):List (Option Nat):=(List.range N).map fun i=>some (f i)
theorem y5 {N i:Nat} {f:Nat->Nat} (h:i<N):(fR N f)[i]? =some (some (f i)):=by simp [fR,h]
theorem b7f (N:Nat) (f:Nat->Nat):(fR N f).length=N:=by simp [fR]
theorem b3e {N i j:Nat} {f:Nat->Nat} (h:(fR N f)[i]? =some (some j)):i<N∧f i=j:=by
 obtain ⟨h1,h2⟩:=lg1 h
 simp [fR] at h1 h2
 exact ⟨h1,h2⟩
theorem a9Z {ρ:List (Option Nat)}:∀{m:Nat},(∀ i:Nat,i<m->ρ[i]? =some (some i))->a1A ρ m=true
 |0,_=>rfl
 |m+1,h=>by
  unfold a1A
  rw [h m (by omega),a9Z fun i hi=>h i (by omega)]
  simp
theorem aV6 {N:Nat} {f:Nat->Nat} {H H':Hp} (hn:H'.length=N) (hB:∀(i:Nat) (k':Blk),H'[i]? =some k'->∃k:Blk,H[f i]? =some k∧a4j (fR N f) H k k'):a3q (fR N f) H (fR N f) H':=
 a4P (by rw [b7f,hn]) fun i k' hk=>by
  have hi:i<N:=by rw [← hn];exact (lg1 hk).1
  obtain ⟨k,h1,h2⟩:=hB i k' hk
  exact ⟨f i,k,y5 hi,h1,h2⟩
theorem aI6 {N:Nat} {f:Nat->Nat} {H:Hp} (hinj:∀i j,i<N->j<N->f i=f j->i=j):Q4 (fR N f) H=true:=a07 fun i j n h1 h2=>by
 obtain ⟨a1,a2⟩:=b3e h1
 obtain ⟨b1,b2⟩:=b3e h2
 exact hinj i j a1 b1 (by omega)
theorem aS6 {n0 N:Nat} {f:Nat->Nat} {env env':Env} {H H':Hp} (hn:H'.length=N) (h0:n0<=N) (hk:∀i,i<n0->f i=i) (hinj:∀i j,i<N->j<N->f i=f j->i=j)
 (hB:∀(i:Nat) (k':Blk),H'[i]? =some k'->∃k:Blk,H[f i]? =some k∧a4j (fR N f) H k k') (hE:a0B (fR N f) H env env'):Ent n0 (fR N f) env H env' H':=
 ⟨a9Z fun i hi=>by rw [y5 (by omega),hk i hi],aI6 hinj,aV6 hn hB,hE⟩
theorem b89 {n0 N:Nat} {f:Nat->Nat} {r s:S} {H H':Hp} (hn:H'.length=N) (h0:n0<=N) (hk:∀i,i<n0->f i=i) (hinj:∀i j,i<N->j<N->f i=f j->i=j)
 (hB:∀(i:Nat) (k':Blk),H'[i]? =some k'->∃k:Blk,H[f i]? =some k∧a4j (fR N f) H k k') (hE:a8i (fR N f) H r s):Fin n0 r H s H':=
 ⟨fR N f,a9Z fun i hi=>by rw [y5 (by omega),hk i hi],aI6 hinj,aV6 hn hB,hE⟩
theorem b4A (k:Blk):a2g k k=true:=by unfold a2g;cases k.mode<;>simp
theorem c9 {ρ:List (Option Nat)} {H:Hp} {k:Blk} (h:I2 k.rows):a4j ρ H k k:=⟨b4A k,rfl,rfl,.inl ⟨rfl,h⟩⟩
theorem aV7 {ρ:List (Option Nat)} {H:Hp} {l l':List C} (h:a36 ρ H l l'):∀ts:List T,a36 ρ H (ts.map C.t++l) (ts.map C.t++l')
 |[]=>h
 |t::r=>⟨a0Z t,aV7 h r⟩
theorem a1j {ρ:List (Option Nat)} {H:Hp} {m n:Nat} {V:Nat->Rat} {h h':Nat->Nat} (hh:∀i,i<m->ρ[h' i]? =some (some (h i))):
 a4j ρ H { mode:=.live,elem:=259,size:=5,rows:=(List.range m).map fun i=>frC (fz (V i))++[C.own (h i) 0 n true],box:=false } { mode:=.live,elem:=259,size:=5,rows:=(List.range m).map fun i=>frC (fz (V i))++[C.own (h' i) 0 n true],box:=false }:=by
 refine ⟨rfl,rfl,rfl,.inr (a5Z (by simp) fun i x y hx hy=>?_)⟩
 have hi:i<m:=by have:=(lg1 hx).1;simpa using this
 simp [hi] at hx hy
 subst hx hy
 exact aV7 (ts:=k7 (fz (V i))) (l:=[C.own (h i) 0 n true]) (l':=[C.own (h' i) 0 n true]) ⟨⟨hh i hi,rfl,rfl,fun h=>h⟩,trivial⟩
theorem aW9 {a b:Nat} {K:Prop} (h:a<=b) (k:K):a<=b∧K:=⟨h,k⟩
theorem a4z {N:Nat} {b:Blk} (h:I2 b.rows):okB N b:=by
 intro r hr c hc
 have:=h r hr c hc
 cases c<;>first|trivial|cases this
def aE6 (k n:Nat) (v:Rat) (V:Nat->Rat):Nat->Rat:=fun i=>if i=k then v else V i
def hnd (k:Nat):Nat->Nat:=fun i=>if i=k then k+6 else i+5
theorem aa3 {k n:Nat} {v:Rat} {V:Nat->Rat}:P7 5 k n V++[frC (fz v)++[C.own (k+6) 0 n true]]=(List.range (k+1)).map fun i=>frC (fz (aE6 k n v V i))++[C.own (hnd k i) 0 n true]:=by
 rw [List.range_succ,List.map_append]
 congr 1
 ·refine List.map_congr_left fun i hi=>?_
  have:=List.mem_range.1 hi
  unfold aE6 hnd
  rw [if_neg (by omega),if_neg (by omega)]
 ·unfold aE6 hnd;simp
abbrev b9c (n k:Nat) (v:Rat) (a V G:Nat->Rat) (O:Nat->Nat) (fr:List (Nat × Bool)) (f:Nat × Bool) (A:Nat->Nat->Rat) (bx lx lit:Blk):Hp:=
 pB n (k+1) (k+10) (k+8) (k+11)::a9G 259 5::flB (rF n G)::a9G 3 1::a9G 284 2::((mF k n A).map flB++
  [bx,flB (rF n a),lx,X5 (k+1) O,lit,{ mode:=.live,elem:=259,size:=5,rows:=P7 5 k n V++[frC (fz v)++[C.own (k+6) 0 n true]],box:=false },a1E (fr++[f])])
def ad1 (k:Nat):Nat->Nat:=fun i=>if i<k+7 then i else if i=k+7 then k+8 else if i=k+8 then k+10 else k+11
theorem a1z {α β:Type} {f:β->α} {M:List β} {X:List α} {N t:Nat} (h:M.length=N):(M.map f++X)[N+t]? =X[t]?:=by
 rw [List.getElem?_append_right (by simp [h])];simp [h]
theorem b6E {n0 n:Nat} {r s:S} {H H':Hp} (e:n0=n) (h:Fin n r H s H'):Fin n0 r H s H':=by subst e;exact h
theorem b0g {n k:Nat} {v:Rat} {a V G:Nat->Rat} {O:Nat->Nat} {fr:List (Nat × Bool)} {f:Nat × Bool} {A:Nat->Nat->Rat} {bx lx lit:Blk} {H:Hp} (hbx:I2 bx.rows) (hH:H=b9c n k v a V G O fr f A bx lx lit):
 Fin (k+6) (.tup []) H (.tup []) (b0D n k v a V G O fr f A bx):=by
 subst hH
 refine b89 (N:=k+10) (f:=ad1 k) (by simp [b8]) (by omega) (fun i hi=>by unfold ad1;rw [if_pos (by omega)]) (fun i j hi hj h=>by unfold ad1 at h;(repeat' split at h)<;>omega) ?_ trivial
 have r7:ad1 k (k+7)=k+8:=by unfold ad1;rw [if_neg (by omega),if_pos rfl]
 have r8:ad1 k (k+8)=k+10:=by unfold ad1;rw [if_neg (by omega),if_neg (by omega),if_pos rfl]
 have r9:ad1 k (k+9)=k+11:=by unfold ad1;rw [if_neg (by omega),if_neg (by omega),if_neg (by omega)]
 have rl:∀i,i<k+7->ad1 k i=i:=fun i hi=>by unfold ad1;rw [if_pos hi]
 intro i k' hk
 rcases i with _|_|_|_|_|i
 ·injection hk with hk;subst hk
  rw [rl 0 (by omega)]
  exact ⟨_,rfl,rfl,rfl,rfl,.inr ⟨⟨rfl,⟨by rw [y5 (by omega),r8],rfl,rfl,fun h=>h⟩,⟨by rw [y5 (by omega),rl 2 (by omega)],rfl,rfl,fun h=>h⟩,⟨by rw [y5 (by omega),r7],rfl,rfl,fun h=>h⟩,rfl,⟨by rw [y5 (by omega),r9],rfl,rfl,fun h=>h⟩,trivial⟩,trivial⟩⟩
 ·injection hk with hk;subst hk;rw [rl 1 (by omega)];exact ⟨_,rfl,c9 (by simp [I2])⟩
 ·injection hk with hk;subst hk;rw [rl 2 (by omega)];exact ⟨_,rfl,c9 (c7 _)⟩
 ·injection hk with hk;subst hk;rw [rl 3 (by omega)];exact ⟨_,rfl,c9 (by simp [I2])⟩
 ·injection hk with hk;subst hk;rw [rl 4 (by omega)];exact ⟨_,rfl,c9 (by simp [I2])⟩
 ·have hk:((mF k n A).map flB++[bx,flB (rF n a),X5 (k+1) O,{ mode:=.live,elem:=259,size:=5,rows:=P7 5 k n V++[frC (fz v)++[C.own (k+6) 0 n true]],box:=false },a1E (fr++[f])])[i]? =some k':=hk
  by_cases hi:i<k
  ·rw [J6 (O9 hi)] at hk
   injection hk with hk;subst hk
   rw [rl (i+5) (by omega)]
   exact ⟨_,J6 (O9 hi),c9 (c7 _)⟩
  ·obtain ⟨t,rfl⟩:∃t,i=k+t:=⟨i - k,by omega⟩
   rw [a1z (b8 _ _ _)] at hk
   have lk:∀j,(b9c n k v a V G O fr f A bx lx lit)[k+j+5]? =([bx,flB (rF n a),lx,X5 (k+1) O,lit,{ mode:=.live,elem:=259,size:=5,rows:=P7 5 k n V++[frC (fz v)++[C.own (k+6) 0 n true]],box:=false },a1E (fr++[f])]:Hp)[j]?:=fun j=>a1z (b8 _ _ _)
   rcases t with _|_|_|_|_|t
   ·injection hk with hk;subst hk
    rw [rl (k+0+5) (by omega)]
    exact ⟨_,lk 0,c9 hbx⟩
   ·injection hk with hk;subst hk
    rw [rl (k+1+5) (by omega)]
    exact ⟨_,lk 1,c9 (c7 _)⟩
   ·injection hk with hk;subst hk
    rw [show k+2+5=k+7 by omega,r7]
    exact ⟨_,lk 3,c9 (c7 _)⟩
   ·injection hk with hk;subst hk
    rw [show k+3+5=k+8 by omega,r8]
    refine ⟨_,lk 5,?_⟩
    rw [aa3]
    refine a1j fun j hj=>?_
    have:hnd k j<k+7:=by unfold hnd;split<;>omega
    rw [y5 (by omega),rl _ this]
   ·injection hk with hk;subst hk
    rw [show k+4+5=k+9 by omega,r9]
    exact ⟨_,lk 6,c9 (c7 _)⟩
   ·simp at hk
theorem l7 {a0 a1 a2 a3 a4 a5 a6 b0 b1 b2 b3 b4 b5 b6:Blk} (h0:a0=b0) (h1:a1=b1) (h2:a2=b2) (h3:a3=b3) (h4:a4=b4) (h5:a5=b5) (h6:a6=b6):([a0,a1,a2,a3,a4,a5,a6]:Hp)=[b0,b1,b2,b3,b4,b5,b6]:=by
 subst h0 h1 h2 h3 h4 h5 h6;rfl
theorem a71 {k:Nat} {O:Nat->Nat} {x:Int} (h:x=O k):(toC (a0H k O)).take k++toC [[ti x]]=toC (a0H (k+1) O):=by
 rw [lg4 (by simp [toC,w7])]
 unfold a0H
 rw [List.range_succ,List.map_append,h]
 simp [toC]
theorem a9K {fr:List (Nat × Bool)} {k:Nat} (h:fr.length=k) (f:Nat × Bool):(toC (Z8 fr)).take k++toC [[ti f.1,tb f.2]]=toC (Z8 (fr++[f])):=by
 rw [lg4 (by simp [toC,Z8,h])]
 unfold Z8
 simp [toC]
set_option maxHeartbeats 4000000 in
theorem b8C (n k row:Nat) (w:C2) (b:Bool) (V G:Nat->Rat) (fr:List (Nat × Bool)) (hfr:fr.length=k) (A:Nat->Nat->Rat) (bx:Blk) (hbx:I2 bx.rows) (hn:n<=1000) (hk:k<=10000) (hrow:row<=100000)
 (hr:e8 (-1) n w.terms=true) (hl:w.terms.length<=1000) (hb:∀t ∈ w.terms,rl t.2<=60000) (hv:rl w.value<=60000):
 a9 Tryz.prog 255 [.c (.ptr 0 0 0),a7 .i64 row,ax5 w,d6 b] (a5O n k V G (fun i=>n+i) fr A [bx]) (.tup []) (b0D n k (S2 b w.value) (sgF b w.terms) V G (fun i=>n+i) fr (row,b) A bx):=by
 have m1:(w.terms.map i9).length=w.terms.length:=by simp
 (refine ac Tryz.func255 ?_;(conv=>whnf);repeat ((first|refine b0x ?_|refine zy ?_);conv=>whnf))
 repeat' (first|refine zz ?_|refine qp b8 ?_|refine b0x ?_|refine .inl ⟨_,_,a19 (N:=k+6) (by simp [b8]) hn,?_⟩|refine j4 (b8 _ _ _) ?_|refine j3 ?_|refine g9 (t:=1) (b8 _ _ _) ?_|refine g9 (t:=2) (b8 _ _ _) ?_|refine g9 (t:=3) (b8 _ _ _) ?_|refine i5 (t:=1) (b8 _ _ _) ?_|refine i5 (t:=2) (b8 _ _ _) ?_|refine i5 (t:=3) (b8 _ _ _) ?_|refine zd ?_ ?_<;>intro h<;>try omega|refine zy ?_|fail)<;>conv=>whnf
 refine d7 c8 (fun q=>([S.c (C.ptr 0 0 0),a7 .i64 row,J,d6 b,J,J,S.c (C.t (T.ptr (w5 w))),J,S.c (C.ptr (k+7) 0 0),J,J,J,J,J,J,J,J,J,J,J,J,J,j7 w.terms,a7 .i64 w.terms.length,a7 .i64 q,J,J,J,J,J,J,J,J,J,J,J,J,J,J,J,J,J,J,J,J,J,J,J,J,J,J,J,J,J,J,J,J,J,J,J,J,J,J,J,J,J,J,J,J,J,J,J,J,J,J,J,J,J,J,J,J,J,J,J,J,J,J,J,J,J,J,J,J,J,J,J,J,J],a5O n k V G (fun i=>n+i) fr A [bx,flB (rF n (I9 w.terms q)),lnX k n w.value])) w.terms.length (fun _=>True) (idR (k+8)) trivial ?_ ?_
 ·refine Y0 (X':=[]) (a1t rfl rfl rfl rfl rfl ?_) rfl (by simp [b8]) ?_ ?_
  ·rfl
  ·intro b hb;simp at hb;rcases hb with rfl|rfl|rfl
   ·exact a4z hbx
   ·exact E7 rfl
   ·exact as1 (by omega)
  ·exact ⟨⟨k9 (by omega),rfl,rfl⟩,rfl,rfl,g7 rfl,⟨k9 (by omega),rfl,rfl⟩,g7 rfl,c6 (by omega),c6 rfl,trivial⟩
 intro q hq _
 by_cases hlt:q<w.terms.length
 ·obtain ⟨t,ht⟩:∃t,w.terms[q]? =some t:=⟨_,lg0 hlt⟩
  obtain ⟨t0,t1,t2⟩:=p8 hr t (lg2 ht)
  have gp:(rF n (I9 w.terms q))[0+t.1.toNat]? =some (fz (I9 w.terms q t.1.toNat)):=by rw [Nat.zero_add,D4 (by omega)]
  have eV:0+t.1.toNat=t.1.toNat:=by omega
  have e:u6 (flB (rF n (I9 w.terms q))) ((flB (rF n (I9 w.terms q))).rows.set (0+t.1.toNat) (frC (fz t.2)))=flB (rF n (I9 w.terms (q+1))):=by
   have e1:=E6 (row:=rF n (I9 w.terms q)) (y:=fz t.2) eV
   rw [P1 (by omega),←G5 ht] at e1
   exact e1
  conv=>whnf
  repeat' (first|refine zz ?_|refine b9 ht ?_|refine n7 gp ?_|refine j4 (b8 _ _ _) ?_|refine j3 ?_|refine g9 (t:=1) (b8 _ _ _) ?_|refine g9 (t:=2) (b8 _ _ _) ?_|refine g9 (t:=3) (b8 _ _ _) ?_|refine i5 (t:=1) (b8 _ _ _) ?_|refine i5 (t:=2) (b8 _ _ _) ?_|refine i5 (t:=3) (b8 _ _ _) ?_|refine zd ?_ ?_<;>intro h<;>try omega|refine zy ?_|fail)<;>conv=>whnf
  all_goals first
   |omega
   |(refine ⟨hlt,trivial,idR (k+8),Y0 (X:=[bx,flB (rF n (I9 w.terms (q+1))),lnX k n w.value]) (a1t rfl rfl rfl rfl rfl (congrArg (fun z=>(mF k n A).map flB++(bx::z::lnX k n w.value::[_])) e)) rfl (by simp [b8]) ?_ ⟨⟨k9 (by omega),rfl,rfl⟩,rfl,rfl,rfl,⟨k9 (by omega),rfl,rfl⟩,rfl,rfl,c6 (by omega),trivial⟩⟩
     intro b hb;simp at hb;rcases hb with rfl|rfl|rfl
     ·exact a4z hbx
     ·exact E7 rfl
     ·exact as1 (by omega))
 ·have hqe:q=w.terms.length:=by omega
  subst hqe
  cases b with
  |false=>
   conv=>whnf
   repeat' (first|refine aw7 [0,1,2,3,4,5,6,7,9,10,11,12,13,14,15,16,8,17,18,19,20,21,22,23] (by decide +kernel) (by decide +kernel) ?_|refine zz ?_|refine zz ?_|refine zz ?_|refine zz ?_|refine zz ?_|refine zz ?_|refine qp (0,1,2,3,4,5,6,7,9,10,11,12,13,14,15,16,8,17,18,19,20,21,22,23) ?_|refine qp (toC,w7,A8,Z8,hfr) ?_|refine qp (toC,w7,A8,Z8) ?_|refine qp 0 ?_|refine qp (0,1,8,9,10,11,12,13,14,15) ?_|refine qp (0,1) ?_|refine qp 1 ?_|refine o6 (by simp [toC,w7,A8,Z8,hfr]) (by simp [toC,w7,A8,Z8];omega) ?_|refine bl0 [0] ?_|refine bl0 [0,1,8,9,10,11,12,13,14,15] ?_|refine bl0 [0,1] ?_|refine bl0 [1] ?_|refine j4 (b8 _ _ _) ?_|refine j3 ?_|refine g9 (t:=1) (b8 _ _ _) ?_|refine g9 (t:=2) (b8 _ _ _) ?_|refine g9 (t:=3) (b8 _ _ _) ?_|refine i5 (t:=1) (b8 _ _ _) ?_|refine i5 (t:=2) (b8 _ _ _) ?_|refine i5 (t:=3) (b8 _ _ _) ?_|refine g9 (t:=4) (b8 _ _ _) ?_|refine aW9 (Nat.le_refl 1) ?_|refine zd ?_ ?_<;>intro h<;>try omega|refine zy ?_|fail)<;>conv=>whnf
   all_goals try omega
   all_goals refine b6E (n:=k+6) (by simp [b8]) (b0g (lit:=_) hbx (a1t rfl rfl rfl rfl rfl (congrArg (fun z=>(mF k n A).map flB++z) (l7 rfl rfl rfl ?_ rfl ?_ ?_))))
   ·exact congrArg (fun z=>({ mode:=.live,elem:=3,size:=1,rows:=z,box:=false }:Blk)) (a71 (x:=(n:Int)+k) (by simp))
   ·exact congrArg (fun z=>({ mode:=.live,elem:=259,size:=5,rows:=z,box:=false }:Blk)) (congrArg (fun z=>z++[frC (fz w.value)++[C.own (k+6) 0 n true]]) (lg4 (by simp [A8])))
   ·exact congrArg (fun z=>({ mode:=.live,elem:=284,size:=2,rows:=z,box:=false }:Blk)) (a9K hfr (row,false))
  |true=>
   have nv:=a31 w.value hv
   conv=>whnf
   repeat' (first|refine zz ?_|refine qp nv ?_|refine j4 (b8 _ _ _) ?_|refine j3 ?_|refine g9 (t:=1) (b8 _ _ _) ?_|refine g9 (t:=2) (b8 _ _ _) ?_|refine g9 (t:=3) (b8 _ _ _) ?_|refine i5 (t:=1) (b8 _ _ _) ?_|refine i5 (t:=2) (b8 _ _ _) ?_|refine i5 (t:=3) (b8 _ _ _) ?_|refine zd ?_ ?_<;>intro h<;>try omega|refine zy ?_|fail)<;>conv=>whnf
   all_goals try omega
   refine d7 c8 (fun q=>([S.c (C.ptr 0 0 0),a7 .i64 row,J,d6 true,J,J,J,J,S.c (C.ptr (k+7) 0 0),J,J,J,J,J,J,J,J,J,J,J,J,J,J,J,J,J,J,J,J,J,J,J,J,J,J,J,J,J,J,J,J,J,j7 w.terms,a7 .i64 w.terms.length,a7 .i64 q,J,J,J,J,J,J,J,J,J,J,J,J,J,J,J,J,J,J,J,J,J,J,J,J,J,J,J,J,J,J,J,J,J,J,J,J,J,J,J,J,J,J,J,J,J,J,J,J,J,J,J,J,J],a5O n k V G (fun i=>n+i) fr A [bx,flB (rF n (a4m w.terms q)),lnX k n (-w.value)])) w.terms.length (fun _=>True) (idR (k+8)) trivial ?_ ?_
   ·refine Y0 (X':=[]) (a1t rfl rfl rfl rfl rfl rfl) rfl (by simp [b8]) ?_ ?_
    ·intro b hb;simp at hb;rcases hb with rfl|rfl|rfl
     ·exact a4z hbx
     ·exact E7 rfl
     ·exact as1 (by omega)
    ·exact ⟨⟨k9 (by omega),rfl,rfl⟩,rfl,rfl,⟨k9 (by omega),rfl,rfl⟩,g7 rfl,c6 (by omega),c6 rfl,trivial⟩
   intro q hq _
   by_cases hlt:q<w.terms.length
   ·obtain ⟨t,ht⟩:∃t,w.terms[q]? =some t:=⟨_,lg0 hlt⟩
    obtain ⟨t0,t1,t2⟩:=p8 hr t (lg2 ht)
    have nt:=a31 t.2 (hb t (lg2 ht))
    have gp:(rF n (a4m w.terms q))[0+t.1.toNat]? =some (fz (a4m w.terms q t.1.toNat)):=by rw [Nat.zero_add,D4 (by omega)]
    have eV:0+t.1.toNat=t.1.toNat:=by omega
    have e:u6 (flB (rF n (a4m w.terms q))) ((flB (rF n (a4m w.terms q))).rows.set (0+t.1.toNat) (frC (fz (-t.2))))=flB (rF n (a4m w.terms (q+1))):=by
     have e1:=E6 (row:=rF n (a4m w.terms q)) (y:=fz (-t.2)) eV
     rw [P1 (by omega),←an5 ht] at e1
     exact e1
    conv=>whnf
    repeat' (first|refine zz ?_|refine qp nt ?_|refine b9 ht ?_|refine n7 gp ?_|refine j4 (b8 _ _ _) ?_|refine j3 ?_|refine g9 (t:=1) (b8 _ _ _) ?_|refine g9 (t:=2) (b8 _ _ _) ?_|refine g9 (t:=3) (b8 _ _ _) ?_|refine i5 (t:=1) (b8 _ _ _) ?_|refine i5 (t:=2) (b8 _ _ _) ?_|refine i5 (t:=3) (b8 _ _ _) ?_|refine zd ?_ ?_<;>intro h<;>try omega|refine zy ?_|fail)<;>conv=>whnf
    all_goals first
     |omega
     |(refine ⟨hlt,trivial,idR (k+8),Y0 (X:=[bx,flB (rF n (a4m w.terms (q+1))),lnX k n (-w.value)]) (a1t rfl rfl rfl rfl rfl (congrArg (fun z=>(mF k n A).map flB++(bx::z::lnX k n (-w.value)::[_])) e)) rfl (by simp [b8]) ?_ ⟨⟨k9 (by omega),rfl,rfl⟩,rfl,rfl,⟨k9 (by omega),rfl,rfl⟩,rfl,rfl,c6 (by omega),trivial⟩⟩
       intro b hb;simp at hb;rcases hb with rfl|rfl|rfl
       ·exact a4z hbx
       ·exact E7 rfl
       ·exact as1 (by omega))
   ·have hqe:q=w.terms.length:=by omega
    subst hqe
    have ea:a4m w.terms w.terms.length=sgF true w.terms:=b3W w.terms
    conv=>whnf
    repeat' (first|refine aw7 [0,1,2,3,4,5,6,7,9,10,11,12,13,14,15,16,8,17,18,19,20,21,22,23] (by decide +kernel) (by decide +kernel) ?_|refine zz ?_|refine zz ?_|refine zz ?_|refine zz ?_|refine zz ?_|refine zz ?_|refine qp (0,1,2,3,4,5,6,7,9,10,11,12,13,14,15,16,8,17,18,19,20,21,22,23) ?_|refine qp (toC,w7,A8,Z8,hfr) ?_|refine qp (toC,w7,A8,Z8) ?_|refine qp 0 ?_|refine qp (0,1,8,9,10,11,12,13,14,15) ?_|refine qp (0,1) ?_|refine qp 1 ?_|refine o6 (by simp [toC,w7,A8,Z8,hfr]) (by simp [toC,w7,A8,Z8];omega) ?_|refine bl0 [0] ?_|refine bl0 [0,1,8,9,10,11,12,13,14,15] ?_|refine bl0 [0,1] ?_|refine bl0 [1] ?_|refine j4 (b8 _ _ _) ?_|refine j3 ?_|refine g9 (t:=1) (b8 _ _ _) ?_|refine g9 (t:=2) (b8 _ _ _) ?_|refine g9 (t:=3) (b8 _ _ _) ?_|refine i5 (t:=1) (b8 _ _ _) ?_|refine i5 (t:=2) (b8 _ _ _) ?_|refine i5 (t:=3) (b8 _ _ _) ?_|refine g9 (t:=4) (b8 _ _ _) ?_|refine aW9 (Nat.le_refl 1) ?_|refine zd ?_ ?_<;>intro h<;>try omega|refine zy ?_|fail)<;>conv=>whnf
    all_goals try omega
    all_goals refine b6E (n:=k+6) (by simp [b8]) (b0g (lit:=_) hbx (a1t rfl rfl rfl rfl rfl (congrArg (fun z=>(mF k n A).map flB++z) (l7 rfl (by rw [ea]) rfl ?_ rfl ?_ ?_))))
    ·exact congrArg (fun z=>({ mode:=.live,elem:=3,size:=1,rows:=z,box:=false }:Blk)) (a71 (x:=(n:Int)+k) (by simp))
    ·exact congrArg (fun z=>({ mode:=.live,elem:=259,size:=5,rows:=z,box:=false }:Blk)) (congrArg (fun z=>z++[frC (fz (-w.value))++[C.own (k+6) 0 n true]]) (lg4 (by simp [A8])))
    ·exact congrArg (fun z=>({ mode:=.live,elem:=284,size:=2,rows:=z,box:=false }:Blk)) (a9K hfr (row,true))
def gR (N:Nat) (f:Nat->Option Nat):List (Option Nat):=(List.range N).map f
theorem a3b {N i:Nat} {f:Nat->Option Nat} (h:i<N):(gR N f)[i]? =some (f i):=by simp [gR,h]
theorem b2i {N i:Nat} {x:Option Nat} {f:Nat->Option Nat} (h:(gR N f)[i]? =some x):i<N∧f i=x:=by
 obtain ⟨h1,h2⟩:=lg1 h
 simp [gR] at h1 h2
 exact ⟨h1,h2⟩
theorem az9 {ρ:List (Option Nat)} {H:Hp}:∀{r:List (Option Nat)} {H':Hp},r.length=H'.length->(∀ (i:Nat) (k':Blk),H'[i]? =some k'->(r[i]? =some none∧k'.rows=[]∧k'.mode=.live)∨∃(j:Nat) (k:Blk),r[i]? =some (some j)∧H[j]? =some k∧a4j ρ H k k')->a3q ρ H r H'
 |[],[],_,_=>trivial
 |[],_::_,h,_=>by simp at h
 |_::_,[],h,_=>by simp at h
 |x::r,k'::H',hl,h=>by
  refine ⟨?_,az9 (by simpa using hl) fun i k1 hk=>by simpa using h (i+1) k1 (by simpa using hk)⟩
  rcases h 0 k' rfl with ⟨h1,h2,h3⟩|⟨j,k,h1,h2,h3⟩
  ·simp at h1;subst h1;exact ⟨h2,h3⟩
  ·simp at h1;subst h1
   simp only [h2]
   exact h3
theorem b4q {N:Nat} {f:Nat->Option Nat} {env env':Env} {H H':Hp} (hn:H'.length=N) (hinj:∀i j x,i<N->j<N->f i=some x->f j=some x->i=j)
 (hB:∀(i:Nat) (k':Blk),H'[i]? =some k'->(f i=none∧k'.rows=[]∧k'.mode=.live)∨∃(j:Nat) (k:Blk),f i=some j∧H[j]? =some k∧a4j (gR N f) H k k') (hE:a0B (gR N f) H env env'):Ent 0 (gR N f) env H env' H':=
 ⟨rfl,a07 fun i j n h1 h2=>by
   obtain ⟨a1,a2⟩:=b2i h1
   obtain ⟨b1,b2⟩:=b2i h2
   exact hinj i j n a1 b1 a2 b2,az9 (by simp [gR,hn]) fun i k' hk=>by
   have hi:i<N:=by rw [← hn];exact (lg1 hk).1
   rcases hB i k' hk with ⟨h1,h2⟩|⟨j,k,h1,h2⟩
   ·exact .inl ⟨by rw [a3b hi,h1],h2⟩
   ·exact .inr ⟨j,k,by rw [a3b hi,h1],h2⟩,hE⟩
theorem a5N {s:f8} (k:Nat):J7 s (k+1)=match s.rows[k]? with
 |none=>J7 s k
 |some w=>J7 s k++(if w.kind≠0 then [(k,false)] else [])++(if w.kind≠1 then [(k,true)] else []):=rfl
theorem al7 {s:f8} {i:Nat}:∀d,∃rest,J7 s (i+d)=J7 s i++rest
 |0=>⟨[],by simp⟩
 |d+1=>by
  obtain ⟨r,hr⟩:=al7 (s:=s) (i:=i) d
  rw [show i+(d+1)=(i+d)+1 by omega,a5N]
  cases s.rows[i+d]? with
  |none=>exact ⟨r,hr⟩
  |some w=>exact ⟨r++((if w.kind≠0 then [(i+d,false)] else [])++(if w.kind≠1 then [(i+d,true)] else [])),by simp only;rw [hr,List.append_assoc,List.append_assoc]⟩
theorem ai0 {s:f8} {i k:Nat} {f:Nat × Bool} (hi:i<=s.rows.length) (h:(J7 s i)[k]? =some f):(f7 s).getD k (0,false)=f:=by
 obtain ⟨r,hr⟩:=al7 (s:=s) (i:=i) (s.rows.length - i)
 rw [show i+(s.rows.length - i)=s.rows.length by omega] at hr
 unfold f7
 rw [hr,lg3,List.getElem?_append_left (lg1 h).1,h];rfl
theorem a54 {s:f8}:∀i,(J7 s i).length<=2*i
 |0=>by simp [J7]
 |i+1=>by
  have ih:=a54 (s:=s) i
  rw [a5N]
  cases s.rows[i]? with
  |none=>simp only;omega
  |some w=>
   simp only [List.length_append]
   split<;>split<;>simp<;>omega
theorem a9I {s:f8} {i:Nat} {w:C2} (h:s.rows[i]? =some w):J7 s (i+1)=(J7 s i++if w.kind≠0 then [(i,false)] else [])++if w.kind≠1 then [(i,true)] else []:=by
 rw [a5N,h]
def S4 (k:Nat):Nat->Nat:=fun i=>if i=0 then 0 else if i=1 then k+8 else if i=2 then 2 else if i=3 then k+7 else if i=4 then k+9 else if i<k+5 then i else if i=k+5 then k+6 else k+5
theorem a8Q {k:Nat} (i:Nat) (hi:i<k+7):(i=0∧S4 k i=0)∨(i=1∧S4 k i=k+8)∨(i=2∧S4 k i=2)∨(i=3∧S4 k i=k+7)∨(i=4∧S4 k i=k+9)∨(5<=i∧i<k+5∧S4 k i=i)∨(5<=i∧i=k+5∧S4 k i=k+6)∨(5<=i∧i=k+6∧S4 k i=k+5):=by
 unfold S4
 by_cases h0:i=0
 ·rw [if_pos h0];omega
 ·rw [if_neg h0]
  by_cases h1:i=1
  ·rw [if_pos h1];omega
  ·rw [if_neg h1]
   by_cases h2:i=2
   ·rw [if_pos h2];omega
   ·rw [if_neg h2]
    by_cases h3:i=3
    ·rw [if_pos h3];omega
    ·rw [if_neg h3]
     by_cases h4:i=4
     ·rw [if_pos h4];omega
     ·rw [if_neg h4]
      by_cases h5:i<k+5
      ·rw [if_pos h5];omega
      ·rw [if_neg h5]
       by_cases h6:i=k+5
       ·rw [if_pos h6];omega
       ·rw [if_neg h6];omega
theorem b5L {k:Nat}:S4 k (k+6)=k+5:=by
 have:=a8Q (k:=k) (k+6) (by omega)
 omega
theorem aZ2 {n k:Nat} {a V G:Nat->Rat} {v:Rat} {O:Nat->Nat} {fr:List (Nat × Bool)} {f:Nat × Bool} {A:Nat->Nat->Rat} {bx:Blk} {env env':Env} (hbx:I2 bx.rows) (hv:v=V k) (ha:a=A k)
 (hE:a0B (fR (k+7) (S4 k)) (b0D n k v a V G O fr f A bx) env env'):Ent 0 (fR (k+7) (S4 k)) env (b0D n k v a V G O fr f A bx) env' (a5O n (k+1) V G O (fr++[f]) A [bx]):=by
 subst hv ha
 have r1:S4 k 1=k+8:=rfl
 have r3:S4 k 3=k+7:=rfl
 have r4:S4 k 4=k+9:=rfl
 have ra:∀i,i<k->S4 k (i+5)=i+5:=fun i hi=>by
  unfold S4
  rw [if_neg (by omega),if_neg (by omega),if_neg (by omega),if_neg (by omega),if_neg (by omega),if_pos (by omega)]
 have rk:S4 k (k+5)=k+6:=by
  unfold S4
  rw [if_neg (by omega),if_neg (by omega),if_neg (by omega),if_neg (by omega),if_neg (by omega),if_neg (by omega),if_pos rfl]
 have rb:S4 k (k+6)=k+5:=by
  unfold S4
  rw [if_neg (by omega),if_neg (by omega),if_neg (by omega),if_neg (by omega),if_neg (by omega),if_neg (by omega),if_neg (by omega)]
 have lk:∀j,(b0D n k (V k) (A k) V G O fr f A bx)[k+j+5]? =([bx,flB (rF n (A k)),X5 (k+1) O,{ mode:=.live,elem:=259,size:=5,rows:=P7 5 k n V++[frC (fz (V k))++[C.own (k+6) 0 n true]],box:=false },a1E (fr++[f])]:Hp)[j]?:=fun j=>a1z (b8 _ _ _)
 have eV:aE6 k n (V k) V=V:=by funext i;unfold aE6;split<;>simp_all
 refine aS6 (by simp [b8]) (by omega) (fun i hi=>by omega) (fun i j hi hj h=>by have:=a8Q i hi;have:=a8Q j hj;omega) ?_ hE
 intro i k' hk
 rcases i with _|_|_|_|_|i
 ·injection hk with hk;subst hk
  exact ⟨_,rfl,rfl,rfl,rfl,.inr ⟨⟨rfl,⟨by rw [y5 (by omega),r1],rfl,rfl,fun h=>h⟩,⟨by rw [y5 (by omega)];rfl,rfl,rfl,fun h=>h⟩,⟨by rw [y5 (by omega),r3],rfl,rfl,fun h=>h⟩,rfl,⟨by rw [y5 (by omega),r4],rfl,rfl,fun h=>h⟩,trivial⟩,trivial⟩⟩
 ·injection hk with hk;subst hk
  refine ⟨_,lk 3,?_⟩
  rw [aa3,eV]
  refine a1j (h':=fun i=>i+5) fun j hj=>?_
  rw [y5 (by omega)]
  unfold hnd
  by_cases hjk:j=k
  ·subst hjk;rw [if_pos rfl,rk]
  ·rw [if_neg hjk,ra j (by omega)]
 ·injection hk with hk;subst hk;exact ⟨_,rfl,c9 (c7 _)⟩
 ·injection hk with hk;subst hk;exact ⟨_,lk 2,c9 (c7 _)⟩
 ·injection hk with hk;subst hk;exact ⟨_,lk 4,c9 (c7 _)⟩
 ·have hk:((mF (k+1) n A).map flB++[bx])[i]? =some k':=hk
  by_cases hi:i<k+1
  ·rw [J6 (O9 hi)] at hk
   injection hk with hk;subst hk
   by_cases hik:i=k
   ·subst hik;rw [rk];exact ⟨_,lk 1,c9 (c7 _)⟩
   ·rw [ra i (by omega)]
    exact ⟨_,J6 (O9 (by omega)),c9 (c7 _)⟩
  ·obtain ⟨t,rfl⟩:∃t,i=(k+1)+t:=⟨i - (k+1),by omega⟩
   rw [a1z (b8 _ _ _)] at hk
   rcases t with _|t
   ·injection hk with hk;subst hk
    rw [show k+1+0+5=k+6 by omega,rb]
    exact ⟨_,lk 0,c9 hbx⟩
   ·simp at hk
theorem b6k {b0 b1 b2 b3 b4 b5 c0 c1 c2 c3 c4 c5:Blk} {L L':Hp} (h0:b0=c0) (h1:b1=c1) (h2:b2=c2) (h3:b3=c3) (h4:b4=c4) (h5:b5=c5) (h6:L=L'):b0::b1::b2::b3::b4::b5::L=c0::c1::c2::c3::c4::c5::L':=a0J h0 h1 h2 h3 h4 h5 h6
theorem z5:∀{last n:Int} {l:List (Int × Rat)},e8 last n l=true->l.length=0∨(l.length:Int)<=n - last - 1
 |_,_,[],_=>.inl rfl
 |last,n,a::r,h=>by
  unfold e8 at h
  simp only [Bool.and_eq_true,decide_eq_true_eq] at h
  have ih:=z5 h.2
  have h1:=h.1.1.1
  have h2:=h.1.1.2
  right
  rw [List.length_cons]
  rcases ih with h0|h0
  ·rw [h0];omega
  ·omega
structure b6L (s:f8) (g:List (Int × Rat)) (n:Nat):Prop where
 r:g6 s=true
 tg:e8 (-1) n g=true
 en:s.n=n
 n1:n<=1000
 b:∀w ∈ s.rows,rl w.value<=60000∧∀t ∈ w.terms,rl t.2<=60000
 bg:∀t ∈ g,rl t.2<=60000
 l:s.rows.length<=4000
abbrev rbx (w:C2):Blk:={ mode:=.live,elem:=143,size:=6,rows:=[(w5 w).map C.t],box:=true }
theorem ax4 (w:C2):I2 (rbx w).rows:=c7 [w5 w]
def ae9 (s:f8):List T:=[ti s.n,E1 s.rows]
def pF1:Nat->Option Nat:=fun i=>if i=0 then some 1 else if i=2 then some 0 else none
theorem aY4 {s:f8} {g:List (Int × Rat)} {k:Nat} {b:Bool} {i:Nat} {w:C2} (h:(f7 s).getD k (0,false)=(i,b)) (hw:s.rows[i]? =some w):S2 b w.value=(g8 s g).V k:=by
 show _=a3F s ((f7 s).getD k (0,false))
 rw [h];unfold a3F;simp only [hw]
theorem aV2 {s:f8} {g:List (Int × Rat)} {k:Nat} {b:Bool} {i:Nat} {w:C2} (h:(f7 s).getD k (0,false)=(i,b)) (hw:s.rows[i]? =some w):sgF b w.terms=(g8 s g).A k:=by
 funext j
 show _=a1P s ((f7 s).getD k (0,false)) j
 rw [h];unfold a1P;simp only [hw];rfl
abbrev dF (m n j q:Nat):Blk:={ mode:=.live,elem:=256,size:=6,rows:=[[C.t (ti n),.own 1 0 m true,.own 2 0 n true,.own 3 0 m true,.own 4 0 j true,.own 5 0 q true]],box:=true }
abbrev b4I (m n j:Nat) (V G:Nat->Rat) (O:Nat->Nat) (fr:List (Nat × Bool)) (A:Nat->Nat->Rat) (X:Hp):Hp:=
 dF m n j fr.length::a0v 6 m n V::flB (rF n G)::X5 m O::X5 j (fun j=>j)::a1E fr::((mF m n A).map flB++X)
def fF1:Nat->Option Nat:=fun i=>if i=4 then none else if i<4 then some i else some (i - 1)
theorem b3O {m n:Nat} {V G:Nat->Rat} {O:Nat->Nat} {fr:List (Nat × Bool)} {A:Nat->Nat->Rat} {env env':Env} {H:Hp} (hm:fr.length=m) (hH:H=a5O n m V G O fr A []) (hE:a0B (gR (m+6) fF1) H env env'):
 Ent 0 (gR (m+6) fF1) env H env' (b4I m n 0 V G O fr A []):=by
 subst hH
 refine b4q (by simp [b8]) (fun i j x hi hj h1 h2=>by unfold fF1 at h1 h2;(repeat' split at h1)<;>(repeat' split at h2)<;>first|(cases h1;done)|(cases h2;done)|(injection h1 with h1;injection h2 with h2;omega)) ?_ hE
 intro i k' hk
 have fa:∀i,fF1 (i+6)=some (i+5):=fun i=>by unfold fF1;rw [if_neg (by omega),if_neg (by omega)];rfl
 rcases i with _|_|_|_|_|_|i
 ·injection hk with hk;subst hk
  exact .inr ⟨0,_,rfl,rfl,rfl,rfl,rfl,.inr ⟨⟨rfl,⟨by rw [a3b (by omega)];rfl,rfl,rfl,fun h=>h⟩,⟨by rw [a3b (by omega)];rfl,rfl,rfl,fun h=>h⟩,⟨by rw [a3b (by omega)];rfl,rfl,rfl,fun h=>h⟩,⟨by rw [a3b (by omega)];rfl,rfl,rfl⟩,⟨by rw [a3b (by omega)];rfl,rfl,hm.symm,fun h=>h⟩,trivial⟩,trivial⟩⟩
 ·injection hk with hk;subst hk
  refine .inr ⟨1,_,rfl,rfl,a1j (h:=fun i=>i+5) (h':=fun i=>i+6) fun j hj=>?_⟩
  rw [a3b (by omega),fa]
 ·injection hk with hk;subst hk;exact .inr ⟨2,_,rfl,rfl,c9 (c7 _)⟩
 ·injection hk with hk;subst hk;exact .inr ⟨3,_,rfl,rfl,c9 (c7 _)⟩
 ·injection hk with hk;subst hk;exact .inl ⟨rfl,rfl,rfl⟩
 ·injection hk with hk;subst hk;exact .inr ⟨4,_,rfl,rfl,c9 (c7 _)⟩
 ·have hk:((mF m n A).map flB++[])[i]? =some k':=hk
  have hi:i<m:=by have:=(lg1 hk).1;simpa [b8] using this
  rw [J6 (O9 hi)] at hk
  injection hk with hk;subst hk
  exact .inr ⟨i+5,_,fa i,J6 (O9 hi),c9 (c7 _)⟩
abbrev b9y (m n j:Nat) (V G:Nat->Rat) (O:Nat->Nat) (fr:List (Nat × Bool)) (A:Nat->Nat->Rat):Hp:=
 { mode:=.live,elem:=256,size:=6,rows:=[[C.t (ti n),.own 1 0 m true,.own 2 0 n true,.own 3 0 m true,.own (m+6) 0 (j+1) true,.own 5 0 fr.length true]],box:=true }::
   a0v 6 m n V::flB (rF n G)::X5 m O::a9G 3 1::a1E fr::((mF m n A).map flB++[X5 (j+1) (fun j=>j)])
def fF2 (m:Nat):Nat->Nat:=fun i=>if i=4 then m+6 else i
theorem b5g {m n j:Nat} {V G:Nat->Rat} {O:Nat->Nat} {fr:List (Nat × Bool)} {A:Nat->Nat->Rat} {env env':Env} {H:Hp} (hH:H=b9y m n j V G O fr A) (hE:a0B (fR (m+6) (fF2 m)) H env env'):
 Ent 0 (fR (m+6) (fF2 m)) env H env' (b4I m n (j+1) V G O fr A []):=by
 subst hH
 have fa:∀i,i≠4->fF2 m i=i:=fun i hi=>by unfold fF2;rw [if_neg hi]
 refine aS6 (by simp [b8]) (by omega) (fun i hi=>by omega) (fun i j hi hj h=>by unfold fF2 at h;(repeat' split at h)<;>omega) ?_ hE
 intro i k' hk
 rcases i with _|_|_|_|_|_|i
 ·injection hk with hk;subst hk
  exact ⟨_,rfl,rfl,rfl,rfl,.inr ⟨⟨rfl,⟨by rw [y5 (by omega)];rfl,rfl,rfl,fun h=>h⟩,⟨by rw [y5 (by omega)];rfl,rfl,rfl,fun h=>h⟩,⟨by rw [y5 (by omega)];rfl,rfl,rfl,fun h=>h⟩,⟨by rw [y5 (by omega)];rfl,rfl,rfl,fun h=>h⟩,⟨by rw [y5 (by omega)];rfl,rfl,rfl,fun h=>h⟩,trivial⟩,trivial⟩⟩
 ·injection hk with hk;subst hk
  refine ⟨_,rfl,a1j (h:=fun i=>i+6) (h':=fun i=>i+6) fun j hj=>?_⟩
  rw [y5 (by omega),fa _ (by omega)]
 ·injection hk with hk;subst hk;exact ⟨_,rfl,c9 (c7 _)⟩
 ·injection hk with hk;subst hk;exact ⟨_,rfl,c9 (c7 _)⟩
 ·injection hk with hk;subst hk
  refine ⟨_,a1z (t:=0) (b8 _ _ _),c9 (c7 _)⟩
 ·injection hk with hk;subst hk;exact ⟨_,rfl,c9 (c7 _)⟩
 ·have hk:((mF m n A).map flB++[])[i]? =some k':=hk
  have hi:i<m:=by have:=(lg1 hk).1;simpa [b8] using this
  rw [J6 (O9 hi)] at hk
  injection hk with hk;subst hk
  rw [fa _ (by omega)]
  exact ⟨_,J6 (O9 hi),c9 (c7 _)⟩
set_option maxHeartbeats 4000000 in
theorem aU5 (s:f8) (g:List (Int × Rat)) (n:Nat) (h:b6L s g n):
 a9 Tryz.prog 199 [Q3 s,j7 g] [] (.c (.ptr 0 0 0)) (Z0 (f7 s).length n (f7 s) (g8 s g)):=by
 have m1:(s.rows.map w5).length=s.rows.length:=by simp
 have m2:(g.map i9).length=g.length:=by simp
 have z0:∀H:Hp,H.length=0->W6 Tryz.prog 254 [a7 .i64 s.n] H (.c (.own 0 0 n true)) [flB (rF n fun _=>0)]:=fun H hH=>by rw [h.en];exact a19 hH h.n1
 have hsl:=h.l
 have htg:=h.tg
 have hbg:=h.bg
 have hgl:=z5 htg
 have hn1:=h.n1
 have hen:=h.en
 have put0:∀(K i:Nat) (w:C2) (b:Bool) (F:List (Nat × Bool)) (bx:Blk),s.rows[i]? =some w->F.length=K->I2 bx.rows->K<=10000->i<=100000->
  a9 Tryz.prog 255 [.c (.ptr 0 0 0),a7 .i64 i,ax5 w,d6 b] (a5O n K (g8 s g).V (fun _=>0) (fun i=>n+i) F (g8 s g).A [bx]) (.tup []) (b0D n K (S2 b w.value) (sgF b w.terms) (g8 s g).V (fun _=>0) (fun i=>n+i) F (i,b) (g8 s g).A bx):=by
  intro K i w b F bx hw hF hbx hK hi
  have hn:=V7 h.r
  have hrw:=(T6 h.r hw).1
  rw [hn,h.en] at hrw
  have hl:=z5 hrw
  have hb:=h.b w (lg2 hw)
  exact b8C n K i w b _ _ F hF _ bx hbx h.n1 hK hi hrw (by have:=h.n1;omega) hb.2 hb.1
 (refine ac Tryz.func199 ?_;(conv=>whnf);repeat ((first|refine b0x ?_|refine zy ?_);conv=>whnf))
 repeat' (first|refine zz ?_|refine b0x ?_|refine .inl ⟨_,_,z0 _ rfl,?_⟩|refine zd ?_ ?_<;>intro h<;>try omega|refine zy ?_|fail)<;>conv=>whnf
 refine aE8 (fun i=>([J,j7 g,S.c (C.t (T.ptr (ae9 s))),J,J,S.c (C.ptr 0 0 0),J,J,J,J,J,J,J,J,J,J,J,J,J,S.c (C.t (E1 s.rows)),a7 .i64 s.rows.length,a7 .i64 i,J,J,J,J,J,J,J,J,J,J,J,J,J,J,J,J,J,J,J,J,J,J,J,J,J,J,J,J,J,J,J,J,J,J,J,J,J,J,J,J,J,J,J,J,J,J,J,J,J,J,J,J,J],a5O n (J7 s i).length (g8 s g).V (fun _=>0) (fun i=>n+i) (J7 s i) (g8 s g).A [])) s.rows.length (fun _=>True) (gR 5 pF1) trivial ?_ ?_
 ·refine b4q rfl (fun i j x hi hj h1 h2=>by unfold pF1 at h1 h2;(repeat' split at h1)<;>(repeat' split at h2)<;>first|(cases h1;done)|(cases h2;done)|(injection h1 with h1;injection h2 with h2;omega)) ?_ ?_
  ·intro i k' hk
   rcases i with _|_|_|_|_|i
   ·injection hk with hk;subst hk
    exact .inr ⟨1,_,rfl,rfl,rfl,rfl,rfl,.inr ⟨⟨a8D (by rw [h.en]),⟨rfl,rfl,rfl⟩,⟨rfl,rfl,rfl,fun h=>h⟩,⟨rfl,rfl,rfl⟩,rfl,⟨rfl,rfl,rfl⟩,trivial⟩,trivial⟩⟩
   ·injection hk with hk;subst hk;exact .inl ⟨rfl,rfl,rfl⟩
   ·injection hk with hk;subst hk;exact .inr ⟨0,_,rfl,rfl,c9 (c7 _)⟩
   ·injection hk with hk;subst hk;exact .inl ⟨rfl,rfl,rfl⟩
   ·injection hk with hk;subst hk;exact .inl ⟨rfl,rfl,rfl⟩
   ·simp [mF,J7] at hk
  ·exact ⟨rfl,g7 rfl,⟨rfl,rfl,rfl⟩,g7 rfl,c6 (by omega),c6 rfl,trivial⟩
 intro i hi _
 refine P4 c8 ?_
 conv=>whnf
 repeat' (first|refine zz ?_|refine j3 ?_|refine zd ?_ ?_<;>intro h<;>try omega|refine zy ?_|fail)<;>conv=>whnf
 ·have hlt:i<s.rows.length:=by omega
  obtain ⟨w,hw⟩:∃w,s.rows[i]? =some w:=⟨_,lg0 hlt⟩
  obtain ⟨K,hK⟩:∃K,K=(J7 s i).length:=⟨_,rfl⟩
  rw [← hK]
  obtain ⟨K1,hK1⟩:∃K1,K1=(J7 s i++if w.kind≠0 then [(i,false)] else []).length:=⟨_,rfl⟩
  obtain ⟨F1,hF1⟩:∃F1,F1=(J7 s i++if w.kind≠0 then [(i,false)] else []):=⟨_,rfl⟩
  have hKb:K<=10000:=by have:=a54 (s:=s) i;omega
  refine P4 c8 ?_
  conv=>whnf
  refine a9E (a9J ?_)
  refine P4 c8 ?_
  conv=>whnf
  repeat' (first|refine zz ?_|refine b9 hw ?_|refine j4 (b8 _ _ _) ?_|refine j3 ?_|refine g9 (t:=0) (b8 _ _ _) ?_|refine i5 (t:=0) (b8 _ _ _) ?_|refine zd ?_ ?_<;>intro h<;>try omega|refine zy ?_|fail)<;>conv=>whnf
  refine a1Q c8 ([J,j7 g,S.c (C.t (T.ptr (ae9 s))),J,J,S.c (C.ptr 0 0 0),a7 .i64 i,S.c (C.ptr (K1+5) 0 0),J,J,J,J,J,J,J,J,J,J,J,S.c (C.t (E1 s.rows)),a7 .i64 s.rows.length,a7 .i64 i,J,J,J,J,J,J,J,J,J,J,J,J,J,J,J,J,J,J,J,J,J,J,J,J,J,J,J,J,J,J,J,J,J,J,J,J,J,J,J,J,J,J,J,J,J,J,J,J,J,J,J,J,J]) (a5O n K1 (g8 s g).V (fun _=>0) (fun i=>n+i) F1 (g8 s g).A [rbx w]) ?_ ?_
  ·by_cases hk:w.kind=0
   ·have e1:F1=J7 s i:=by rw [hF1,if_neg (by simp [hk]),List.append_nil]
    have e2:K1=K:=by rw [hK1,if_neg (by simp [hk]),List.append_nil,hK]
    subst e1 e2
    conv=>whnf
    repeat' (first|refine zz ?_|refine j4 (b8 _ _ _) ?_|refine j3 ?_|refine g9 (t:=0) (b8 _ _ _) ?_|refine i5 (t:=0) (b8 _ _ _) ?_|refine zd ?_ ?_<;>intro h<;>try omega|refine zy ?_|fail)<;>conv=>whnf
    all_goals first
     |omega
     |exact ⟨idR (K1+6),Y0 (X:=[rbx w]) (X':=[]) (a1t rfl rfl rfl rfl rfl rfl) rfl (Nat.zero_le _) (by intro b hb;simp at hb;subst hb;exact a4z (ax4 w)) ⟨rfl,rfl,⟨k9 (by omega),rfl,rfl⟩,rfl,⟨k9 (by omega),rfl,rfl⟩,rfl,rfl,rfl,trivial⟩⟩
   ·have e1:F1=J7 s i++[(i,false)]:=by rw [hF1,if_pos hk]
    have e2:K1=K+1:=by rw [hK1,if_pos hk,List.length_append,←hK];rfl
    have hg:(f7 s).getD K (0,false)=(i,false):=by
     refine ai0 (i:=i+1) (by omega) ?_
     rw [a9I hw,if_pos hk,List.append_assoc,List.getElem?_append_right (by omega),hK];simp
    subst e1 e2
    have pu:=put0 K i w false (J7 s i) (rbx w) hw hK.symm (ax4 w) hKb (by omega)
    conv=>whnf
    repeat' (first|refine zz ?_|refine .inr ⟨_,_,pu,?_⟩|refine j4 (b8 _ _ _) ?_|refine j3 ?_|refine g9 (t:=0) (b8 _ _ _) ?_|refine i5 (t:=0) (b8 _ _ _) ?_|refine zd ?_ ?_<;>intro h<;>try omega|refine zy ?_|fail)<;>conv=>whnf
    all_goals first
     |omega
     |exact ⟨_,aZ2 (ax4 w) (aY4 hg hw) (aV2 hg hw) ⟨rfl,rfl,⟨by rw [y5 (by omega)];rfl,rfl,rfl⟩,rfl,⟨by rw [y5 (by omega),b5L],rfl,rfl⟩,rfl,rfl,rfl,trivial⟩⟩
  ·have hl1:F1.length=K1:=by rw [hF1,hK1]
   have eF:J7 s (i+1)=F1++if w.kind≠1 then [(i,true)] else []:=by rw [a9I hw,hF1]
   have hK1b:K1<=10000:=by
    have:=a54 (s:=s) i
    rw [hK1,List.length_append]
    split<;>simp<;>omega
   by_cases hk:w.kind=1
   ·have e1:J7 s (i+1)=F1:=by rw [eF,if_neg (by simp [hk]),List.append_nil]
    refine y7 c8 _ ?_
    conv=>whnf
    repeat' (first|refine zz ?_|refine j4 (b8 _ _ _) ?_|refine j3 ?_|refine g9 (t:=0) (b8 _ _ _) ?_|refine i5 (t:=0) (b8 _ _ _) ?_|refine zd ?_ ?_<;>intro h<;>try omega|refine zy ?_|fail)<;>conv=>whnf
    all_goals try omega
    refine y7 c8 _ ?_
    conv=>whnf
    repeat' (first|refine zz ?_|refine j4 (b8 _ _ _) ?_|refine j3 ?_|refine g9 (t:=0) (b8 _ _ _) ?_|refine i5 (t:=0) (b8 _ _ _) ?_|refine zd ?_ ?_<;>intro h<;>try omega|refine zy ?_|fail)<;>conv=>whnf
    refine ⟨hlt,trivial,idR (K1+5),?_⟩
    rw [e1,hl1]
    exact Y0 (X:=[]) (X':=[rbx w]) (a1t rfl rfl rfl rfl rfl rfl) rfl (Nat.zero_le _) (by simp) ⟨rfl,rfl,⟨k9 (by omega),rfl,rfl⟩,rfl,rfl,c6 (by omega),trivial⟩
   ·have e1:J7 s (i+1)=F1++[(i,true)]:=by rw [eF,if_pos hk]
    have hg:(f7 s).getD K1 (0,false)=(i,true):=by
     refine ai0 (i:=i+1) (by omega) ?_
     rw [e1,List.getElem?_append_right (by omega),hl1];simp
    have pu:=put0 K1 i w true F1 (rbx w) hw hl1 (ax4 w) hK1b (by omega)
    refine y7 c8 _ ?_
    conv=>whnf
    repeat' (first|refine zz ?_|refine .inr ⟨_,_,pu,?_⟩|refine j4 (b8 _ _ _) ?_|refine j3 ?_|refine g9 (t:=0) (b8 _ _ _) ?_|refine i5 (t:=0) (b8 _ _ _) ?_|refine zd ?_ ?_<;>intro h<;>try omega|refine zy ?_|fail)<;>conv=>whnf
    all_goals try omega
    refine b6p (env':=[J,j7 g,S.c (C.t (T.ptr (ae9 s))),J,J,S.c (C.ptr 0 0 0),J,J,J,J,J,J,J,J,J,J,J,J,J,S.c (C.t (E1 s.rows)),a7 .i64 s.rows.length,a7 .i64 i,J,J,J,J,J,J,J,J,J,J,J,J,J,J,J,J,J,J,J,J,J,J,J,J,J,J,J,J,J,J,J,J,J,J,J,J,J,J,J,J,J,J,J,J,J,J,J,J,J,J,J,J,J]) _ (aZ2 (ax4 w) (aY4 hg hw) (aV2 hg hw) ⟨rfl,rfl,⟨by rw [y5 (by omega)];rfl,rfl,rfl⟩,rfl,rfl,rfl,trivial⟩) ?_
    refine y7 c8 _ ?_
    conv=>whnf
    repeat' (first|refine zz ?_|refine j4 (b8 _ _ _) ?_|refine j3 ?_|refine g9 (t:=0) (b8 _ _ _) ?_|refine i5 (t:=0) (b8 _ _ _) ?_|refine zd ?_ ?_<;>intro h<;>try omega|refine zy ?_|fail)<;>conv=>whnf
    refine ⟨hlt,trivial,idR (K1+1+5),?_⟩
    rw [e1,show (F1++[(i,true)]).length=K1+1 by simp [hl1]]
    exact Y0 (X:=[]) (X':=[rbx w]) (a1t rfl rfl rfl rfl rfl rfl) rfl (Nat.zero_le _) (by simp) ⟨rfl,rfl,⟨k9 (by omega),rfl,rfl⟩,rfl,rfl,c6 (by omega),trivial⟩
 ·have hie:i=s.rows.length:=by omega
  subst hie
  refine y7 c8 _ ?_
  conv=>whnf
  repeat' (first|refine zz ?_|refine j4 (b8 _ _ _) ?_|refine j3 ?_|refine g9 (t:=0) (b8 _ _ _) ?_|refine i5 (t:=0) (b8 _ _ _) ?_|refine zd ?_ ?_<;>intro h<;>try omega|refine zy ?_|fail)<;>conv=>whnf
  all_goals try omega
  refine d7 c8 (fun q=>([J,J,S.c (C.t (T.ptr (ae9 s))),J,J,S.c (C.ptr 0 0 0),J,J,J,J,J,J,J,J,J,J,J,J,J,J,J,J,J,J,J,J,J,J,J,J,J,J,J,J,J,J,J,J,J,J,J,j7 g,a7 .i64 g.length,a7 .i64 q,J,J,J,J,J,J,J,J,J,J,J,J,J,J,J,J,J,J,J,J,J,J,J,J,J,J,J,J,J,J,J],a5O n (f7 s).length (g8 s g).V (fun j=>-(I9 g q j)) (fun i=>n+i) (f7 s) (g8 s g).A [])) g.length (fun _=>True) (idR ((f7 s).length+5)) trivial ?_ ?_
  ·refine Y0 (X:=[]) (X':=[]) (a1t rfl rfl ?_ rfl rfl rfl) rfl (Nat.zero_le _) (by simp) ⟨g7 rfl,⟨k9 (by omega),rfl,rfl⟩,g7 rfl,c6 (by omega),c6 rfl,trivial⟩
   rw [w6 (g:=fun _=>0) (h:=fun j=>-(I9 g 0 j)) fun j hj=>by show (0:Rat)=-0;decide]
  intro q hq _
  by_cases hlt:q<g.length
  ·obtain ⟨t,ht⟩:∃t,g[q]? =some t:=⟨_,lg0 hlt⟩
   obtain ⟨t0,t1,t2⟩:=p8 htg t (lg2 ht)
   have nt:=a31 t.2 (hbg t (lg2 ht))
   have gp:(rF n (fun j=>-(I9 g q j)))[0+t.1.toNat]? =some (fz (-(I9 g q t.1.toNat))):=by rw [Nat.zero_add,D4 (by omega)]
   have eV:0+t.1.toNat=t.1.toNat:=by omega
   have e:u6 (flB (rF n (fun j=>-(I9 g q j)))) ((flB (rF n (fun j=>-(I9 g q j)))).rows.set (0+t.1.toNat) (frC (fz (-t.2))))=flB (rF n (fun j=>-(I9 g (q+1) j))):=by
    have e1:=E6 (row:=rF n (fun j=>-(I9 g q j))) (y:=fz (-t.2)) eV
    rw [P1 (by omega)] at e1
    refine e1.trans ?_
    rw [G5 ht]
    refine congrArg flB ?_
    exact w6 fun j hj=>by show (if j=t.1.toNat then -t.2 else -(I9 g q j))=-(if j=t.1.toNat then t.2 else I9 g q j);split<;>rfl
   conv=>whnf
   repeat' (first|refine zz ?_|refine qp nt ?_|refine b9 ht ?_|refine n7 gp ?_|refine j4 (b8 _ _ _) ?_|refine j3 ?_|refine g9 (t:=0) (b8 _ _ _) ?_|refine i5 (t:=0) (b8 _ _ _) ?_|refine zd ?_ ?_<;>intro h<;>try omega|refine zy ?_|fail)<;>conv=>whnf
   all_goals first
    |omega
    |exact ⟨hlt,trivial,idR ((f7 s).length+5),Y0 (X:=[]) (X':=[_]) (a1t rfl rfl e rfl rfl rfl) rfl (Nat.zero_le _) (by simp) ⟨rfl,⟨k9 (by omega),rfl,rfl⟩,rfl,rfl,c6 (by omega),trivial⟩⟩
  ·have hqe:q=g.length:=by omega
   subst hqe
   conv=>whnf
   repeat' (first|refine zz ?_|refine j4 (b8 _ _ _) ?_|refine j3 ?_|refine g9 (t:=0) (b8 _ _ _) ?_|refine i5 (t:=0) (b8 _ _ _) ?_|refine zd ?_ ?_<;>intro h<;>try omega|refine zy ?_|fail)<;>conv=>whnf
   all_goals try omega
   refine d7 c8 (fun q=>([J,J,J,J,J,S.c (C.ptr 0 0 0),J,J,J,J,J,J,J,J,J,J,J,J,J,J,J,J,J,J,J,J,J,J,J,J,J,J,J,J,J,J,J,J,J,J,J,J,J,J,J,J,J,J,J,J,J,J,J,J,J,J,J,J,J,a7 .i64 n,a7 .i64 q,J,J,J,J,J,J,J,J,J,J,J,J,J,J],b4I (f7 s).length n q (g8 s g).V (g8 s g).G (fun i=>n+i) (f7 s) (g8 s g).A [])) n (fun _=>True) (gR ((f7 s).length+6) fF1) trivial ?_ ?_
   ·exact b3O rfl rfl ⟨⟨by rw [a3b (by omega)];rfl,rfl,rfl⟩,c6 hen,c6 rfl,trivial⟩
   intro q hq _
   by_cases hlt:q<n
   ·conv=>whnf
    repeat' (first|refine zz ?_|refine qp (toC,w7) ?_|refine qp (toC,w7) ?_|refine qp 0 ?_|refine o6 (by simp [toC,w7]) (by simp [toC,w7];omega) ?_|refine bl0 [0] ?_|refine j4 (b8 _ _ _) ?_|refine j3 ?_|refine g9 (t:=0) (b8 _ _ _) ?_|refine i5 (t:=0) (b8 _ _ _) ?_|refine zd ?_ ?_<;>intro h<;>try omega|refine zy ?_|fail)<;>conv=>whnf
    all_goals first
     |omega
     |(refine ⟨hlt,trivial,fR ((f7 s).length+6) (fF2 (f7 s).length),b5g (b6k rfl rfl rfl rfl rfl rfl (congrArg (fun z=>(mF (f7 s).length n (g8 s g).A).map flB++[z]) ?_)) ⟨⟨by rw [y5 (by omega)];rfl,rfl,rfl⟩,rfl,c6 (by omega),trivial⟩⟩
       exact congrArg (fun z=>({ mode:=.live,elem:=3,size:=1,rows:=z,box:=false }:Blk)) (a71 (O:=fun j=>j) (x:=(q:Int)) rfl))
   ·have hqe:q=n:=by omega
    subst hqe
    conv=>whnf
    repeat' (first|refine zz ?_|refine j4 (b8 _ _ _) ?_|refine j3 ?_|refine g9 (t:=0) (b8 _ _ _) ?_|refine i5 (t:=0) (b8 _ _ _) ?_|refine zd ?_ ?_<;>intro h<;>try omega|refine zy ?_|fail)<;>conv=>whnf
    all_goals try omega
    refine ak1 (n:=(f7 s).length+6) a2v (Nat.zero_le _) a6q (fun i _=>?_) ⟨k9 (by omega),rfl,rfl⟩
    have e0:Z0 (f7 s).length q (f7 s) (g8 s g)=b4I (f7 s).length q q (g8 s g).V (g8 s g).G (fun i=>q+i) (f7 s) (g8 s g).A []:=by
     have eO:(g8 s g).O=fun i=>q+i:=by funext i;show s.n.toNat+i=_;rw [hen];rfl
     show _::_::_::X5 _ (g8 s g).O::_::_::_=_::_::_::_::_::_::(_++[])
     rw [List.append_nil,eO];rfl
    rw [e0]
def ptK (n:Nat) (O:Nat->Nat) (v x0:Nat->Rat):Nat->Nat->Rat
 |0=>x0
 |k+1=>fun j=>if O k<n∧j=O k then v k else ptK n O v x0 k j
theorem Q2 {n:Nat} {O:Nat->Nat} {v x0:Nat->Rat} {k:Nat}:ptK n O v x0 (k+1)=fun j=>if O k<n∧j=O k then v k else ptK n O v x0 k j:=rfl
theorem aa6 {n:Nat} {O:Nat->Nat} {v x0:Nat->Rat} {j:Nat}:∀{k:Nat},(∀ i,i<k->O i≠j)->ptK n O v x0 k j=x0 j
 |0,_=>rfl
 |k+1,h=>by rw [Q2];simp only;rw [if_neg (fun e=>h k (by omega) e.2.symm),aa6 fun i hi=>h i (by omega)]
theorem a9U {n:Nat} {O:Nat->Nat} {v x0:Nat->Rat} {i:Nat}:∀{k:Nat},i<k->O i<n->(∀ a,a<k->O a=O i->a=i)->ptK n O v x0 k (O i)=v i
 |0,h,_,_=>by omega
 |k+1,h,hn,hu=>by
  rw [Q2];simp only
  by_cases he:O k=O i
  ·have:=hu k (by omega) he
   subst this
   rw [if_pos ⟨hn,rfl⟩]
  ·rw [if_neg (fun e=>he e.2.symm)]
   have:i≠k:=fun e=>he (by rw [e])
   exact a9U (by omega) hn fun a ha=>hu a (by omega)
theorem aR1 {m n:Nat} {D:Fd} (hP:Z7 m n D) {j:Nat} (hj:j<n):ptK n D.O D.V (fun _=>0) m j=Z6 m n D 1 (fun _=>0) j:=by
 rcases hP.all j (by omega) with ⟨i,hi,rfl⟩|⟨q,hq,rfl⟩
 ·rw [a9U hi hj fun a ha he=>hP.oi a i ha hi he,a5i hP hi,s6 fun j _=>by grind];grind
 ·rw [aa6 fun i hi=>hP.of i q hi hq,a00 hP hq]
theorem aV5 {m n c:Nat} {D:Fd} (hP:Z7 m n D) (hc:c<n) {j:Nat} (hj:j<n):ptK n D.O (fun i=>-(D.A i c)) (fun j=>if D.F c<n∧j=D.F c then 1 else 0) m j=Z6 m n D 0 (fun q=>if q=c then 1 else 0) j:=by
 rcases hP.all j (by omega) with ⟨i,hi,rfl⟩|⟨q,hq,rfl⟩
 ·rw [a9U hi hj fun a ha he=>hP.oi a i ha hi he,a5i hP hi,f6 (g:=fun q=>(if c=q then (1:Rat) else 0)*D.A i q) fun q _=>by
   by_cases h:q=c
   ·subst h;simp only [if_true];grind
   ·rw [if_neg h,if_neg (fun e=>h e.symm)];grind,a3S hc]
  grind
 ·rw [aa6 fun i hi=>hP.of i q hi hq,a00 hP hq]
  by_cases h:q=c
  ·subst h;rw [if_pos rfl,if_pos ⟨hj,rfl⟩]
  ·rw [if_neg h,if_neg (fun e=>h (hP.fi q c hq hc e.2))]
theorem aR6 (n:Nat) (y:Nat->Rat):(zOf n y).map fz=rF n y:=by unfold zOf rF;rw [List.map_map];rfl
abbrev dT (m n:Nat) (fr:List (Nat × Bool)) (D:Fd):S:=.c (.t (.ptr (b5M m n fr D)))
set_option maxHeartbeats 2000000 in
theorem b2w (m n:Nat) (fr:List (Nat × Bool)) (D:Fd) (hP:Z7 m n D) (hm:m<=100000) (hn:n<=1000):a9 Tryz.prog 201 [dT m n fr D] [] (i8 ((zOf n (Z6 m n D 1 (fun _=>0))).map fz)) []:=by
 have m1:(a0H m D.O).length=m:=w7 _ _
 have z0:∀H:Hp,H.length=0->W6 Tryz.prog 254 [a7 .i64 n] H (.c (.own 0 0 n true)) [flB (rF n fun _=>0)]:=fun H hH=>a19 hH hn
 rw [aR6,←w6 (g:=ptK n D.O D.V (fun _=>0) m) fun j hj=>aR1 hP hj]
 (refine ac Tryz.func201 ?_;(conv=>whnf);repeat ((first|refine b0x ?_|refine zy ?_);conv=>whnf))
 repeat' (first|refine zz ?_|refine .inl ⟨_,_,z0 _ rfl,?_⟩|refine zd ?_ ?_<;>intro h<;>try omega|refine zy ?_|fail)<;>conv=>whnf
 refine d7 c8 (fun k=>([dT m n fr D,J,J,S.c (C.own 0 0 n true),J,J,J,J,J,J,J,J,J,J,a7z m D.O,a7 .i64 m,a7 .i64 k,J,J,J,J,J,J,J,J,J,J,J,J,J,J,J,J,J,J,J,J,J,J,J],[flB (rF n (ptK n D.O D.V (fun _=>0) k))])) m (fun _=>True) [some 0] trivial
  ⟨rfl,rfl,⟨c9 (c7 _),trivial⟩,⟨g7 rfl,⟨rfl,rfl,rfl,fun h=>h⟩,g7 rfl,c6 (by omega),c6 rfl,trivial⟩⟩ ?_
 intro k hk _
 by_cases hlt:k<m
 ·by_cases ho:D.O k<n
  ·have gp:(rF n (ptK n D.O D.V (fun _=>0) k))[0+((D.O k:Nat):Int).toNat]? =some (fz (ptK n D.O D.V (fun _=>0) k (D.O k))):=by rw [show 0+((D.O k:Nat):Int).toNat=D.O k by omega,D4 ho]
   have e:u6 (flB (rF n (ptK n D.O D.V (fun _=>0) k))) ((flB (rF n (ptK n D.O D.V (fun _=>0) k))).rows.set (0+((D.O k:Nat):Int).toNat) (frC (fz (D.V k))))=flB (rF n (ptK n D.O D.V (fun _=>0) (k+1))):=by
    rw [E6 (show 0+((D.O k:Nat):Int).toNat=D.O k by omega),P1 ho,Q2]
    refine congrArg flB (w6 fun j hj=>?_)
    simp only [ho,true_and]
   conv=>whnf
   repeat' (first|refine zz ?_|refine L2 rfl hlt ?_|refine a2w rfl hlt ?_|refine n7 gp ?_|refine zd ?_ ?_<;>intro h<;>try omega|refine zy ?_|fail)<;>conv=>whnf
   all_goals first
    |omega
    |exact ⟨hlt,trivial,[some 0],rfl,rfl,⟨⟨rfl,rfl,rfl,.inl ⟨congrArg Blk.rows e,(congrArg Blk.rows e) ▸ c7 _⟩⟩,trivial⟩,⟨rfl,⟨rfl,rfl,rfl,fun h=>h⟩,rfl,rfl,c6 (by omega),trivial⟩⟩
  ·have e:ptK n D.O D.V (fun _=>0) (k+1)=ptK n D.O D.V (fun _=>0) k:=by rw [Q2];funext j;rw [if_neg (fun h=>ho h.1)]
   conv=>whnf
   repeat' (first|refine zz ?_|refine L2 rfl hlt ?_|refine zd ?_ ?_<;>intro h<;>try omega|refine zy ?_|fail)<;>conv=>whnf
   all_goals first
    |omega
    |exact ⟨hlt,trivial,[some 0],rfl,rfl,⟨a8 (rows:=(rF n (ptK n D.O D.V (fun _=>0) k)).map k7) rfl rfl rfl rfl (by rw [e]),trivial⟩,⟨rfl,⟨rfl,rfl,rfl,fun h=>h⟩,rfl,rfl,c6 (by omega),trivial⟩⟩
 ·have hke:k=m:=by omega
  subst hke
  conv=>whnf
  repeat' (first|refine zz ?_|refine zd ?_ ?_<;>intro h<;>try omega|refine zy ?_|fail)<;>conv=>whnf
  all_goals first
   |omega
   |exact R8 rfl (fun h=>h) rfl rfl (by simp [N7])
set_option maxHeartbeats 2000000 in
theorem b7B (m n:Nat) (fr:List (Nat × Bool)) (D:Fd) (c:Nat) (hc:c<n) (hP:Z7 m n D) (hm:m<=100000) (hn:n<=1000) (hB:∀i,i<m->rl (D.A i c)<=60000):
 a9 Tryz.prog 202 [dT m n fr D,a7 .i64 c] [] (i8 ((zOf n (Z6 m n D 0 (fun q=>if q=c then 1 else 0))).map fz)) []:=by
 have m1:(a0H m D.O).length=m:=w7 _ _
 have z0:∀H:Hp,H.length=0->W6 Tryz.prog 254 [a7 .i64 n] H (.c (.own 0 0 n true)) [flB (rF n fun _=>0)]:=fun H hH=>a19 hH hn
 have i1:=I3 1 (by decide) (by decide)
 obtain ⟨x0,hx0⟩:∃x0:Nat->Rat,x0=fun j=>if D.F c<n∧j=D.F c then 1 else 0:=⟨_,rfl⟩
 rw [aR6,←w6 (g:=ptK n D.O (fun i=>-(D.A i c)) x0 m) fun j hj=>by rw [hx0];exact aV5 hP hc hj]
 by_cases hf:D.F c<n
 ·have gp0:(rF n (fun _=>(0:Rat)))[0+((D.F c:Nat):Int).toNat]? =some (fz 0):=by rw [show 0+((D.F c:Nat):Int).toNat=D.F c by omega,D4 hf]
  have e0:u6 (flB (rF n (fun _=>(0:Rat)))) ((flB (rF n (fun _=>(0:Rat)))).rows.set (0+((D.F c:Nat):Int).toNat) (frC (fz ((1:Int):Rat))))=flB (rF n x0):=by
   rw [E6 (show 0+((D.F c:Nat):Int).toNat=D.F c by omega),P1 hf,hx0]
   refine congrArg flB (w6 fun j hj=>?_)
   simp only [hf,true_and];rfl
  (refine ac Tryz.func202 ?_;(conv=>whnf);repeat ((first|refine b0x ?_|refine zy ?_);conv=>whnf))
  repeat' (first|refine zz ?_|refine qp i1 ?_|refine .inl ⟨_,_,z0 _ rfl,?_⟩|refine L2 rfl hc ?_|refine n7 gp0 ?_|refine zd ?_ ?_<;>intro h<;>try omega|refine zy ?_|fail)<;>conv=>whnf
  all_goals try omega
  refine d7 c8 (fun k=>([dT m n fr D,a7 .i64 c,J,J,J,S.c (C.own 0 0 n true),J,J,J,J,J,J,J,J,J,J,J,J,J,J,J,J,J,J,J,J,J,J,J,J,J,J,J,J,a7z m D.O,a7 .i64 m,a7 .i64 k,J,J,J,J,J,J,J,J,J,J,J,J,J,J,J,J,J,J,J,J,J,J,J,J,J,J,J],[flB (rF n (ptK n D.O (fun i=>-(D.A i c)) x0 k))])) m (fun _=>True) [some 0] trivial
   ⟨rfl,rfl,⟨⟨rfl,rfl,rfl,.inl ⟨congrArg Blk.rows e0,(congrArg Blk.rows e0) ▸ c7 _⟩⟩,trivial⟩,⟨g7 rfl,c6 rfl,⟨rfl,rfl,rfl,fun h=>h⟩,g7 rfl,c6 (by omega),c6 rfl,trivial⟩⟩ ?_
  intro k hk _
  by_cases hlt:k<m
  ·have ng:=a31 (D.A k c) (hB k hlt)
   by_cases ho:D.O k<n
   ·have gp:(rF n (ptK n D.O (fun i=>-(D.A i c)) x0 k))[0+((D.O k:Nat):Int).toNat]? =some (fz (ptK n D.O (fun i=>-(D.A i c)) x0 k (D.O k))):=by rw [show 0+((D.O k:Nat):Int).toNat=D.O k by omega,D4 ho]
    have e:u6 (flB (rF n (ptK n D.O (fun i=>-(D.A i c)) x0 k))) ((flB (rF n (ptK n D.O (fun i=>-(D.A i c)) x0 k))).rows.set (0+((D.O k:Nat):Int).toNat) (frC (fz (-(D.A k c)))))=flB (rF n (ptK n D.O (fun i=>-(D.A i c)) x0 (k+1))):=by
     rw [E6 (show 0+((D.O k:Nat):Int).toNat=D.O k by omega),P1 ho,Q2]
     refine congrArg flB (w6 fun j hj=>?_)
     simp only [ho,true_and]
    conv=>whnf
    repeat' (first|refine zz ?_|refine qp ng ?_|refine L2 rfl hlt ?_|refine a2w rfl hlt ?_|refine a4c rfl hc ?_|refine n7 gp ?_|refine zd ?_ ?_<;>intro h<;>try omega|refine zy ?_|fail)<;>conv=>whnf
    all_goals first
     |omega
     |exact ⟨hlt,trivial,[some 0],rfl,rfl,⟨⟨rfl,rfl,rfl,.inl ⟨congrArg Blk.rows e,(congrArg Blk.rows e) ▸ c7 _⟩⟩,trivial⟩,⟨rfl,rfl,⟨rfl,rfl,rfl,fun h=>h⟩,rfl,rfl,c6 (by omega),trivial⟩⟩
   ·have e:ptK n D.O (fun i=>-(D.A i c)) x0 (k+1)=ptK n D.O (fun i=>-(D.A i c)) x0 k:=by rw [Q2];funext j;rw [if_neg (fun h=>ho h.1)]
    conv=>whnf
    repeat' (first|refine zz ?_|refine L2 rfl hlt ?_|refine zd ?_ ?_<;>intro h<;>try omega|refine zy ?_|fail)<;>conv=>whnf
    all_goals first
     |omega
     |exact ⟨hlt,trivial,[some 0],rfl,rfl,⟨a8 (rows:=(rF n (ptK n D.O (fun i=>-(D.A i c)) x0 k)).map k7) rfl rfl rfl rfl (by rw [e]),trivial⟩,⟨rfl,rfl,⟨rfl,rfl,rfl,fun h=>h⟩,rfl,rfl,c6 (by omega),trivial⟩⟩
  ·have hke:k=m:=by omega
   subst hke
   conv=>whnf
   repeat' (first|refine zz ?_|refine zd ?_ ?_<;>intro h<;>try omega|refine zy ?_|fail)<;>conv=>whnf
   all_goals first
    |omega
    |exact R8 rfl (fun h=>h) rfl rfl (by simp [N7])
 ·have e0:x0=fun _=>0:=by rw [hx0];funext j;rw [if_neg (fun h=>hf h.1)]
  (refine ac Tryz.func202 ?_;(conv=>whnf);repeat ((first|refine b0x ?_|refine zy ?_);conv=>whnf))
  repeat' (first|refine zz ?_|refine qp i1 ?_|refine .inl ⟨_,_,z0 _ rfl,?_⟩|refine L2 rfl hc ?_|refine zd ?_ ?_<;>intro h<;>try omega|refine zy ?_|fail)<;>conv=>whnf
  all_goals try omega
  refine d7 c8 (fun k=>([dT m n fr D,a7 .i64 c,J,J,J,S.c (C.own 0 0 n true),J,J,J,J,J,J,J,J,J,J,J,J,J,J,J,J,J,J,J,J,J,J,J,J,J,J,J,J,a7z m D.O,a7 .i64 m,a7 .i64 k,J,J,J,J,J,J,J,J,J,J,J,J,J,J,J,J,J,J,J,J,J,J,J,J,J,J,J],[flB (rF n (ptK n D.O (fun i=>-(D.A i c)) x0 k))])) m (fun _=>True) [some 0] trivial
   ⟨rfl,rfl,⟨a8 (rows:=(rF n (fun _=>0)).map k7) rfl rfl rfl rfl (by rw [e0];rfl),trivial⟩,⟨g7 rfl,c6 rfl,⟨rfl,rfl,rfl,fun h=>h⟩,g7 rfl,c6 (by omega),c6 rfl,trivial⟩⟩ ?_
  intro k hk _
  by_cases hlt:k<m
  ·have ng:=a31 (D.A k c) (hB k hlt)
   by_cases ho:D.O k<n
   ·have gp:(rF n (ptK n D.O (fun i=>-(D.A i c)) x0 k))[0+((D.O k:Nat):Int).toNat]? =some (fz (ptK n D.O (fun i=>-(D.A i c)) x0 k (D.O k))):=by rw [show 0+((D.O k:Nat):Int).toNat=D.O k by omega,D4 ho]
    have e:u6 (flB (rF n (ptK n D.O (fun i=>-(D.A i c)) x0 k))) ((flB (rF n (ptK n D.O (fun i=>-(D.A i c)) x0 k))).rows.set (0+((D.O k:Nat):Int).toNat) (frC (fz (-(D.A k c)))))=flB (rF n (ptK n D.O (fun i=>-(D.A i c)) x0 (k+1))):=by
     rw [E6 (show 0+((D.O k:Nat):Int).toNat=D.O k by omega),P1 ho,Q2]
     refine congrArg flB (w6 fun j hj=>?_)
     simp only [ho,true_and]
    conv=>whnf
    repeat' (first|refine zz ?_|refine qp ng ?_|refine L2 rfl hlt ?_|refine a2w rfl hlt ?_|refine a4c rfl hc ?_|refine n7 gp ?_|refine zd ?_ ?_<;>intro h<;>try omega|refine zy ?_|fail)<;>conv=>whnf
    all_goals first
     |omega
     |exact ⟨hlt,trivial,[some 0],rfl,rfl,⟨⟨rfl,rfl,rfl,.inl ⟨congrArg Blk.rows e,(congrArg Blk.rows e) ▸ c7 _⟩⟩,trivial⟩,⟨rfl,rfl,⟨rfl,rfl,rfl,fun h=>h⟩,rfl,rfl,c6 (by omega),trivial⟩⟩
   ·have e:ptK n D.O (fun i=>-(D.A i c)) x0 (k+1)=ptK n D.O (fun i=>-(D.A i c)) x0 k:=by rw [Q2];funext j;rw [if_neg (fun h=>ho h.1)]
    conv=>whnf
    repeat' (first|refine zz ?_|refine L2 rfl hlt ?_|refine zd ?_ ?_<;>intro h<;>try omega|refine zy ?_|fail)<;>conv=>whnf
    all_goals first
     |omega
     |exact ⟨hlt,trivial,[some 0],rfl,rfl,⟨a8 (rows:=(rF n (ptK n D.O (fun i=>-(D.A i c)) x0 k)).map k7) rfl rfl rfl rfl (by rw [e]),trivial⟩,⟨rfl,rfl,⟨rfl,rfl,rfl,fun h=>h⟩,rfl,rfl,c6 (by omega),trivial⟩⟩
  ·have hke:k=m:=by omega
   subst hke
   conv=>whnf
   repeat' (first|refine zz ?_|refine zd ?_ ?_<;>intro h<;>try omega|refine zy ?_|fail)<;>conv=>whnf
   all_goals first
    |omega
    |exact R8 rfl (fun h=>h) rfl rfl (by simp [N7])
def am5 (y:Nat->Rat) (r:Nat) (p:Rat):Nat->Rat:=fun i=>if i=r then y i+p else y i
theorem b7b (b:Bool) (p:Rat):rl (S2 b p)=rl p:=by cases b;rfl;exact P9 p
set_option maxHeartbeats 2000000 in
theorem b3i (m n:Nat) (fr:List (Nat × Bool)) (D:Fd) (R:Nat) (y:Nat->Rat) (k row:Nat) (b:Bool) (p:Rat) (hk:fr[k]? =some (row,b)) (hr:row<R) (hp:rl p<=50000) (hy:rl (y row)<=50000):
 a9 Tryz.prog 263 [dT m n fr D,.c (.own 0 0 R true),a7 .i64 k,frS (fz p)] [flB (rF R y)] (.tup []) [flB (rF R (am5 y row (-(S2 b p))))]:=by
 have m1:(Z8 fr).length=fr.length:=by simp [Z8]
 have eR:0+(row:Int).toNat=row:=by omega
 have gp:(rF R y)[0+(row:Int).toNat]? =some (fz (y row)):=by rw [eR,D4 hr]
 have ng:=a31 p (by omega)
 cases b with
 |true=>
  have ad:=a28 (y row) p (by omega) (by omega)
  have e:u6 (flB (rF R y)) ((flB (rF R y)).rows.set (0+(row:Int).toNat) (frC (fz (y row+p))))=flB (rF R (am5 y row (-(S2 true p)))):=by
   rw [E6 eR,P1 hr]
   refine congrArg flB (w6 fun j hj=>?_)
   show (if j=row then y row+p else y j)=if j=row then y j+- -p else y j
   by_cases h:j=row
   ·subst h;rw [if_pos rfl,if_pos rfl,Rat.neg_neg]
   ·rw [if_neg h,if_neg h]
  (refine ac Tryz.func263 ?_;(conv=>whnf);repeat (refine zy ?_;conv=>whnf))
  repeat' (first|refine zz ?_|refine qp ng ?_|refine qp ad ?_|refine qp 12 ?_|refine b9 hk ?_|refine n7 gp ?_|refine bl0 [12] ?_|refine zd ?_ ?_<;>intro h<;>try omega|refine zy ?_|fail)<;>conv=>whnf
  all_goals first
   |omega
   |(exfalso;simp_all;done)
   |exact ⟨[some 0],rfl,rfl,⟨⟨rfl,rfl,rfl,.inl ⟨congrArg Blk.rows e,(congrArg Blk.rows e) ▸ c7 _⟩⟩,trivial⟩,trivial⟩
 |false=>
  have ad:=a28 (y row) (-p) (by omega) (by rw [P9];omega)
  have e:u6 (flB (rF R y)) ((flB (rF R y)).rows.set (0+(row:Int).toNat) (frC (fz (y row+-p))))=flB (rF R (am5 y row (-(S2 false p)))):=by
   rw [E6 eR,P1 hr]
   refine congrArg flB (w6 fun j hj=>?_)
   show (if j=row then y row+-p else y j)=if j=row then y j+-p else y j
   by_cases h:j=row
   ·subst h;rfl
   ·rw [if_neg h,if_neg h]
  (refine ac Tryz.func263 ?_;(conv=>whnf);repeat (refine zy ?_;conv=>whnf))
  repeat' (first|refine zz ?_|refine qp ng ?_|refine qp ad ?_|refine qp 12 ?_|refine b9 hk ?_|refine n7 gp ?_|refine bl0 [12] ?_|refine zd ?_ ?_<;>intro h<;>try omega|refine zy ?_|fail)<;>conv=>whnf
  all_goals first
   |omega
   |(exfalso;simp_all;done)
   |exact ⟨[some 0],rfl,rfl,⟨⟨rfl,rfl,rfl,.inl ⟨congrArg Blk.rows e,(congrArg Blk.rows e) ▸ c7 _⟩⟩,trivial⟩,trivial⟩
def yK (z:Nat->Rat) (f:Nat->Nat->Rat) (k:Nat):Nat->Rat:=fun i=>z i+g4 (fun j=>f j i) k
theorem aW3 {z:Nat->Rat} {f:Nat->Nat->Rat} {k:Nat}:yK z f (k+1)=fun i=>yK z f k i+f k i:=by
 funext i;unfold yK;simp only [g4];grind
theorem a8u {f:Nat->Rat} {B:Nat}:∀k:Nat,(∀ j,j<k->rl (f j)<=B)->rl (g4 f k)<=k*(B+1)+1
 |0,_=>by
  have h0:=rl0
  have e:g4 f 0=0:=by simp only [g4,Y4]
  rw [e];omega
 |k+1,h=>by
  have h1:=a8u k fun j hj=>h j (by omega)
  have h2:=h k (by omega)
  have h3:=a3Z (g4 f k) (f k)
  simp only [g4]
  rw [Nat.succ_mul]
  omega
theorem b7D {s:f8} {w i B:Nat} {p:Rat} (h:rl p<=B) (hB:1<=B):rl (chg s w p i)<=B:=by
 unfold chg
 split
 ·rw [P9,b7b];exact h
 ·have:=rl0;omega
theorem b5W {s:f8} {w:Nat} {p:Rat} (h:w<s.n.toNat):chg s w p=fun _=>0:=by
 funext i;unfold chg;rw [if_neg (fun e=>by omega)]
theorem b8d {s:f8} {w k row:Nat} {b:Bool} {p:Rat} (hw:w=s.n.toNat+k) (hf:(f7 s)[k]? =some (row,b)) (y:Nat->Rat):am5 y row (-(S2 b p))=fun i=>y i+chg s w p i:=by
 funext i
 have e:B5 s (w - s.n.toNat)=(row,b):=by unfold B5;rw [show w - s.n.toNat=k by omega,lg3,hf];rfl
 unfold am5 chg
 rw [e]
 by_cases h:i=row
 ·subst h;rw [if_pos rfl,if_pos ⟨by omega,rfl⟩]
 ·rw [if_neg h,if_neg (fun e=>h e.2.symm)];grind
theorem b2M {s:f8} {k:Nat} {f:Nat × Bool} (h:(f7 s)[k]? =some f):f.1<s.rows.length:=by
 obtain ⟨w,hw,_⟩:=V8.1 (lg2 h)
 exact (lg1 hw).1
set_option maxHeartbeats 2000000 in
theorem b48 (s:f8) (n:Nat) (hn:s.n=n) (E:Fd) (hP:Z7 (f7 s).length n E) (B:Nat) (hB:∀j,j<n->rl (E.G j)<=B) (hB1:1<=B) (hBn:(n+2)*(B+2)<=50000) (hm:(f7 s).length<=100000) (hR:s.rows.length<=1000) (hn1:n<=1000):
 a9 Tryz.prog 204 [dT (f7 s).length n (f7 s) E,a7 .i64 s.rows.length] [] (.c (.own 0 0 s.rows.length true)) [flB (rF s.rows.length (P5 s E))]:=by
 have m1:(a0H n E.F).length=n:=w7 _ _
 have hnn:s.n.toNat=n:=by omega
 have z0:∀H:Hp,H.length=0->W6 Tryz.prog 254 [a7 .i64 s.rows.length] H (.c (.own 0 0 s.rows.length true)) [flB (rF s.rows.length fun _=>0)]:=fun H hH=>a19 hH hR
 have eB:B<=50000:=by
  have:(n+2)*(B+2)=n*(B+2)+2*(B+2):=by rw [Nat.add_mul]
  omega
 obtain ⟨f,hf⟩:∃f:Nat->Nat->Rat,f=fun j=>chg s (E.F j) (-(E.G j)):=⟨_,rfl⟩
 have e9:P5 s E=yK (fun _=>0) f n:=by
  funext i;unfold P5 yK;rw [hf,hnn];grind
 rw [e9]
 (refine ac Tryz.func204 ?_;(conv=>whnf);repeat ((first|refine b0x ?_|refine zy ?_);conv=>whnf))
 repeat' (first|refine zz ?_|refine .inl ⟨_,_,z0 _ rfl,?_⟩|refine zd ?_ ?_<;>intro h<;>try omega|refine zy ?_|fail)<;>conv=>whnf
 refine d7 c8 (fun k=>([dT (f7 s).length n (f7 s) E,J,J,J,J,S.c (C.own 0 0 s.rows.length true),J,J,J,J,J,J,J,a7z n E.F,a7 .i64 n,a7 .i64 k,J,J,J,J,J,J,J,J,J,J,J,J,J,J,J,J,J,J,J,J,J,J,J,J,J,J,J,J,J],[flB (rF s.rows.length (yK (fun _=>0) f k))])) n (fun _=>True) [some 0] trivial
  ⟨rfl,rfl,⟨a8 (rows:=(rF s.rows.length (fun _=>0)).map k7) rfl rfl rfl rfl ?_,trivial⟩,⟨g7 rfl,⟨rfl,rfl,rfl,fun h=>h⟩,g7 rfl,c6 (by omega),c6 rfl,trivial⟩⟩ ?_
 ·rw [w6 (g:=yK (fun _=>0) f 0) (h:=fun _=>0) fun j hj=>by unfold yK;simp only [g4,Y4];grind]
 intro k hk _
 by_cases hlt:k<n
 ·have ng:=a31 (E.G k) (by have:=hB k hlt;omega)
  by_cases ho:E.F k<n
  ·have e:yK (fun _=>0) f (k+1)=yK (fun _=>0) f k:=by
    rw [aW3,hf];funext i
    have e0:chg s (E.F k) (-(E.G k)) i=0:=by rw [b5W (by omega)]
    show _+chg s (E.F k) (-(E.G k)) i=_
    rw [e0];grind
   conv=>whnf
   repeat' (first|refine zz ?_|refine L2 rfl hlt ?_|refine zd ?_ ?_<;>intro h<;>try omega|refine zy ?_|fail)<;>conv=>whnf
   all_goals first
    |omega
    |exact ⟨hlt,trivial,[some 0],rfl,rfl,⟨a8 (rows:=(rF s.rows.length (yK (fun _=>0) f k)).map k7) rfl rfl rfl rfl (by rw [e]),trivial⟩,⟨rfl,⟨rfl,rfl,rfl,fun h=>h⟩,rfl,rfl,c6 (by omega),trivial⟩⟩
  ·have hfb:=hP.fb k hlt
   obtain ⟨q,hq⟩:∃q,E.F k=n+q:=⟨E.F k - n,by omega⟩
   obtain ⟨⟨row,b⟩,hfr⟩:∃x,(f7 s)[q]? =some x:=⟨_,lg0 (by omega)⟩
   have hrow:row<s.rows.length:=b2M hfr
   have by1:rl (yK (fun _=>0) f k row)<=50000:=by
    have h1:=a8u (f:=fun j=>f j row) (B:=B) k fun j hj=>by rw [hf];exact b7D (by rw [P9];exact hB j (by omega)) hB1
    have e:yK (fun _=>0) f k row=g4 (fun j=>f j row) k:=by unfold yK;grind
    rw [e]
    have:k*(B+1)<=n*(B+1):=Nat.mul_le_mul_right _ (by omega)
    have:(n+2)*(B+2)=n*(B+1)+n+2*(B+2):=by rw [Nat.add_mul,show n*(B+2)=n*(B+1)+n by rw [Nat.mul_add,Nat.mul_add];omega]
    omega
   have ch:=b3i (f7 s).length n (f7 s) E s.rows.length (yK (fun _=>0) f k) q row b (-(E.G k)) hfr hrow (by rw [P9];have:=hB k hlt;omega) by1
   have e:am5 (yK (fun _=>0) f k) row (-(S2 b (-(E.G k))))=yK (fun _=>0) f (k+1):=by rw [b8d (s:=s) (w:=E.F k) (by omega) hfr,aW3,hf]
   rw [e,show ((q:Nat):Int)=(E.F k:Int) - n by omega] at ch
   conv=>whnf
   repeat' (first|refine zz ?_|refine qp ng ?_|refine L2 rfl hlt ?_|refine a4c rfl hlt ?_|refine .inr ⟨_,_,ch,?_⟩|refine zd ?_ ?_<;>intro h<;>try omega|refine zy ?_|fail)<;>conv=>whnf
   all_goals first
    |omega
    |exact ⟨hlt,trivial,[some 0],rfl,rfl,⟨c9 (c7 _),trivial⟩,⟨rfl,⟨rfl,rfl,rfl,fun h=>h⟩,rfl,rfl,c6 (by omega),trivial⟩⟩
 ·have hke:k=n:=by omega
  subst hke
  conv=>whnf
  repeat' (first|refine zz ?_|refine zd ?_ ?_<;>intro h<;>try omega|refine zy ?_|fail)<;>conv=>whnf
  all_goals first
   |omega
   |exact ⟨[some 0],rfl,rfl,⟨c9 (c7 _),trivial⟩,⟨rfl,rfl,rfl,fun h=>h⟩⟩
def a6D (ρ:List (Option Nat)) (H:Hp):Env->Env->Prop
 |[],[]=>True
 |s::r,s'::r'=>match s' with
  |.junk=>a6D ρ H r r'
  |s'=>(a3U ρ H s s'∨VYS H (fun id=>F3 ρ id=true) s s')∧a6D ρ H r r'
 |_,_=>False
theorem a6D.rel {ρ:List (Option Nat)} {H:Hp}:∀{env env':Env},a6D ρ H env env'->env.length=env'.length∧∀(t:Nat) (s':S),env'[t]? =some s'->∃s,env[t]? =some s∧(a3U ρ H s s'∨VYS H (fun id=>F3 ρ id=true) s s')
 |[],[],_=>⟨rfl,by simp⟩
 |s::r,s'::r',h=>by
  have h':(a3U ρ H s s'∨VYS H (fun id=>F3 ρ id=true) s s')∧a6D ρ H r r':=by
   cases s' with
   |junk=>exact ⟨.inl trivial,h⟩
   |_=>exact h
  obtain ⟨h1,h2⟩:=a6D.rel h'.2
  refine ⟨by simp [h1],fun t s'' ht=>?_⟩
  cases t with
  |zero=>simp at ht;subst ht;exact ⟨s,rfl,h'.1⟩
  |succ t=>simpa using h2 t s'' (by simpa using ht)
 |[],_::_,h=>h.elim
 |_::_,[],h=>h.elim
structure b5Q (n0:Nat) (ρ:List (Option Nat)) (env:Env) (H:Hp) (env':Env) (H':Hp):Prop where
 k:a1A ρ n0=true
 n:Q4 ρ H'=true
 h:a3q ρ H ρ H'
 e:a6D ρ H env env'
theorem b5Q.sim {n0:Nat} {ρ:List (Option Nat)} {env env':Env} {H H':Hp} (h:b5Q n0 ρ env H env' H') {w0:World} {ι0:Io} {M0:Ms} {H0:Hp} {a:Act} {w:World} (hn:H0.length=n0) (hM0:MB w0 M0)
 (hs:Sim w0 ι0 M0 H0 a w env H):Sim w0 ι0 M0 H0 a w env' H':=by
 obtain ⟨h1,h2,h3,h4⟩:=h
 obtain ⟨ι,M,hd,hsz,he,hH,hM,hF,hst⟩:=hs
 obtain ⟨hel,heg⟩:=a6D.rel h4
 obtain ⟨q1,q2,q3⟩:=a3q.all h1 h2 h3 hn hM0 hH hst
 refine ⟨O2 ρ ι,_,hd,by omega,fun t s' ht=>?_,q1,fun b hb=>hM b hb.1,q2,q3⟩
 obtain ⟨s,r1,r2⟩:=heg t s' ht
 rcases r2 with r2|r2
 ·exact r2.rs hH (he t s r1)
 ·refine r2.rs hH (fun b hb=>hb.1) ?_ (he t s r1)
  intro id k b cap size hp hk hd hi hb
  exact hb.2 ⟨id,k,cap,size,hp,hk,hd,hi⟩
theorem a92 {P:Program} {τ:Tab} (hτ:z7 P τ) {n0:Nat} {x y:Code} {env:Env} {H:Hp} {Q:AX->Env->Hp->Prop} (E2:Env) (H2:Hp)
 (h:a3E P τ n0 x env H fun a env' H'=>match a with
   |.normal=>∃ρ,b5Q n0 ρ env' H' E2 H2
   |a=>Q a env' H') (h2:Awp P n0 y E2 H2 Q):Awp P n0 (.seq x y) env H Q:=by
 refine ⟨fun w0 ι0 M0 H0 a w hn hM hs=>?_⟩
 refine wp_seq (wp_mono ((y7 hτ x h).out w0 ι0 M0 H0 a w hn hM hs) ?_)
 rintro e a' w' ⟨x,env',H',rfl,hq,hs'⟩
 cases x with
 |normal=>obtain ⟨ρ,he⟩:=hq;exact h2.out w0 ι0 M0 H0 a' w' hn hM (he.sim hn hM hs')
 |exit id=>exact ⟨_,env',H',rfl,hq,hs'⟩
 |ret=>exact ⟨_,env',H',rfl,hq,hs'⟩
theorem b1F {P:Program} {n0:Nat} {c:Operand} {t e:Code} {env:Env} {H:Hp} {Q:AX->Env->Hp->Prop} {b:Bool} (hb:F2 env c=d6 b) (h:Awp P n0 (cond b t e) env H Q):Awp P n0 (.cond c t e) env H Q:=by
 refine ⟨fun w0 ι0 M0 H0 a w hn hM hs=>?_⟩
 have hs0:=hs
 obtain ⟨ι,M,hd,hsz,he,hH,hMB,hF,hst⟩:=hs
 have hv:=(he.ev.to hb).inv_atm
 refine wp_cond hv ?_
 cases b with
 |true=>exact h.out w0 ι0 M0 H0 a w hn hM hs0
 |false=>exact h.out w0 ι0 M0 H0 a w hn hM hs0
theorem b2l {m n:Nat} {fr:List (Nat × Bool)} {D:Fd} {X:Hp} {p:Nat->Prop} (hp:∀i,i<m+6->p i):VY (K0 m n fr D.V D.G D.O D.F D.A X) p (.own 1 0 m true) (.sl 5 .any (a80 m n D)):=by
 refine b1X (k:=a0v 6 m n D.V) (hp _ (by omega)) rfl (fun h=>h) rfl (a4N m n D) ?_ ?_
 ·intro r hr
  obtain ⟨i,_,rfl⟩:=List.mem_map.1 hr
  rfl
 ·intro i r hi
  have him:i<m:=by have:=(lg1 hi).1;rwa [a4N] at this
  rw [a7A him] at hi
  injection hi with hi
  subst hi
  refine ⟨_,a2E him,?_⟩
  show VYL _ _ ((k7 (fz (D.V i))).map C.t++[C.own (i+6) 0 n true]) _
  have hv:VY (K0 m n fr D.V D.G D.O D.F D.A X) p (C.own (i+6) 0 n true) (T.sl 4 .any ((rF n (D.A i)).map k7)):=
   .vc (s8 (k:=flB (rF n (D.A i))) (hp _ (by omega)) (J6 (O9 him)) (fun h=>h) rfl rfl (by simp [N7]))
  exact as7 (ys:=[C.own (i+6) 0 n true]) (us:=[T.sl 4 .any ((rF n (D.A i)).map k7)]) (show _∧True from ⟨hv,trivial⟩)
theorem ar3 {m n:Nat} {fr:List (Nat × Bool)} {D:Fd} {X:Hp} {p:Nat->Prop} (hp:∀i,i<m+6->p i):VY (K0 m n fr D.V D.G D.O D.F D.A X) p (.ptr 0 0 0) (.ptr (b5M m n fr D)):=by
 refine a8Y (k:=aN4 m n fr.length) (hp _ (by omega)) rfl (fun h=>h) rfl ⟨b0G,b2l hp,?_,?_,?_,?_,trivial⟩
 ·exact .vc (s8 (k:=flB (rF n D.G)) (hp _ (by omega)) rfl (fun h=>h) rfl rfl (by simp [N7]))
 ·exact .vc (s8 (k:=X5 m D.O) (hp _ (by omega)) rfl (fun h=>h) rfl rfl (by simp [w7]))
 ·exact .vc (s8 (k:=X5 n D.F) (hp _ (by omega)) rfl (fun h=>h) rfl rfl (by simp [w7]))
 ·exact .vc (s8 (k:=a1E fr) (hp _ (by omega)) rfl (fun h=>h) rfl rfl (by simp [Z8]))
abbrev b8u (m n k:Nat):Blk:={ mode:=.live,elem:=256,size:=6,rows:=[[C.t (ti n),.own 2 0 m true,.own 3 0 n true,.own 4 0 m true,.own 5 0 n true,.own 6 0 k true]],box:=true }
abbrev b7w (m n:Nat) (fr:List (Nat × Bool)) (D:Fd) (b:Blk):Hp:=
 b::b8u m n fr.length::a0v 7 m n D.V::flB (rF n D.G)::X5 m D.O::X5 n D.F::a1E fr::(mF m n D.A).map flB
theorem b5m {N i:Nat} (h:i<N):(a3I [] 1 N).getD i 0=i+1:=by
 unfold a3I
 rw [List.nil_append,lg3,List.getElem?_map,List.getElem?_range h]
 show 1+i=i+1
 omega
theorem b71 {σ:List Nat} (ts:List T) (l:List C):a18 σ (ts.map C.t++l)=ts.map C.t++a18 σ l:=by
 rw [L1,L1,List.map_append,List.map_map]
 congr 1
theorem ao0 {s:f8} {g:List (Int × Rat)} {n:Nat} (b:Blk) (h:a9 Tryz.prog 199 [Q3 s,j7 g] [] (.c (.ptr 0 0 0)) (Z0 (f7 s).length n (f7 s) (g8 s g))):
 a9 Tryz.prog 199 [Q3 s,j7 g] [b] (.c (.ptr 1 0 0)) (b7w (f7 s).length n (f7 s) (g8 s g) b):=by
 have hlen:(Z0 (f7 s).length n (f7 s) (g8 s g)).length=(f7 s).length+6:=a2v
 have hl:∀k ∈ Z0 (f7 s).length n (f7 s) (g8 s g),k.mode=.live:=by
  intro k hk
  simp only [List.mem_cons] at hk
  rcases hk with rfl|rfl|rfl|rfl|rfl|rfl|hk
  ·rfl
  ·rfl
  ·rfl
  ·rfl
  ·rfl
  ·rfl
  ·obtain ⟨l,_,rfl⟩:=List.mem_map.1 hk;rfl
 have hsub:(Z0 (f7 s).length n (f7 s) (g8 s g)).length - ([]:Hp).length=(f7 s).length+6:=by rw [hlen];simp
 have g1:∀i,i<(f7 s).length+6->(a3I [] ([b]:Hp).length ((Z0 (f7 s).length n (f7 s) (g8 s g)).length - ([]:Hp).length)).getD i 0=i+1:=fun i hi=>by
  rw [hsub];exact b5m hi
 refine X2 [] h rfl rfl rfl List.nodup_nil (by simp) (fun k hk=>by rw [hl k hk];intro h;cases h) (by simp) rfl ?_ (by rw [hsub];simp [b8];omega) ?_ ?_
 ·show S.c (.ptr 1 0 0)=S.c (.ptr _ 0 0)
  rw [g1 0 (by omega)]
 ·intro i k hk
  have hi:i<(f7 s).length+6:=by rw [← hlen];exact (lg1 hk).1
  rw [g1 i hi]
  rcases i with _|_|_|_|_|_|i
  ·injection hk with hk;subst hk
   refine ⟨_,rfl,rfl,rfl,rfl,rfl,?_⟩
   simp only [a7H,List.map_cons,List.map_nil,a18,X3]
   rw [g1 1 (by omega),g1 2 (by omega),g1 3 (by omega),g1 4 (by omega),g1 5 (by omega)]
  ·injection hk with hk;subst hk
   refine ⟨_,rfl,rfl,rfl,rfl,rfl,?_⟩
   unfold a7H
   show P7 7 _ _ _=(P7 6 _ _ _).map _
   unfold P7
   rw [List.map_map]
   refine List.map_congr_left fun j hj=>?_
   have hj:=List.mem_range.1 hj
   show _=a18 _ ((k7 (fz ((g8 s g).V j))).map C.t++[C.own (j+6) 0 n true])
   rw [b71]
   simp only [a18,X3]
   rw [g1 (j+6) (by omega)]
   rfl
  ·injection hk with hk;subst hk;exact ⟨_,rfl,E9 rfl⟩
  ·injection hk with hk;subst hk;exact ⟨_,rfl,E9 rfl⟩
  ·injection hk with hk;subst hk;exact ⟨_,rfl,E9 rfl⟩
  ·injection hk with hk;subst hk;exact ⟨_,rfl,E9 rfl⟩
  ·have hk:((mF (f7 s).length n (g8 s g).A).map flB)[i]? =some k:=hk
   refine ⟨k,hk,?_⟩
   obtain ⟨l,_,rfl⟩:=List.mem_map.1 (lg2 hk)
   exact E9 rfl
 ·intro j hj _
  have:j=0:=by simpa using hj
  subst this;rfl
def fS (m:Nat):Nat->Nat:=fun i=>if i<m+6 then i+1 else 0
theorem ac8 {m n:Nat} {fr:List (Nat × Bool)} {D:Fd} {b:Blk} {env env':Env} {H:Hp} (hb:I2 b.rows) (hH:H=b7w m n fr D b) (hE:a0B (fR (m+7) (fS m)) H env env'):
 Ent 0 (fR (m+7) (fS m)) env H env' (K0 m n fr D.V D.G D.O D.F D.A [b]):=by
 subst hH
 have fa:∀i,i<m+6->fS m i=i+1:=fun i hi=>by unfold fS;rw [if_pos hi]
 refine aS6 (by simp [b8]) (by omega) (fun i hi=>by omega) (fun i j hi hj h=>by unfold fS at h;(repeat' split at h)<;>omega) ?_ hE
 intro i k' hk
 rcases i with _|_|_|_|_|_|i
 ·injection hk with hk;subst hk
  rw [fa 0 (by omega)]
  exact ⟨_,rfl,rfl,rfl,rfl,.inr ⟨⟨rfl,⟨by rw [y5 (by omega),fa _ (by omega)],rfl,rfl,fun h=>h⟩,⟨by rw [y5 (by omega),fa _ (by omega)],rfl,rfl,fun h=>h⟩,⟨by rw [y5 (by omega),fa _ (by omega)],rfl,rfl,fun h=>h⟩,⟨by rw [y5 (by omega),fa _ (by omega)],rfl,rfl,fun h=>h⟩,⟨by rw [y5 (by omega),fa _ (by omega)],rfl,rfl,fun h=>h⟩,trivial⟩,trivial⟩⟩
 ·injection hk with hk;subst hk
  rw [fa 1 (by omega)]
  refine ⟨_,rfl,a1j (h:=fun i=>i+7) (h':=fun i=>i+6) fun j hj=>?_⟩
  rw [y5 (by omega),fa _ (by omega)]
 ·injection hk with hk;subst hk;rw [fa 2 (by omega)];exact ⟨_,rfl,c9 (c7 _)⟩
 ·injection hk with hk;subst hk;rw [fa 3 (by omega)];exact ⟨_,rfl,c9 (c7 _)⟩
 ·injection hk with hk;subst hk;rw [fa 4 (by omega)];exact ⟨_,rfl,c9 (c7 _)⟩
 ·injection hk with hk;subst hk;rw [fa 5 (by omega)];exact ⟨_,rfl,c9 (c7 _)⟩
 ·have hk:((mF m n D.A).map flB++[b])[i]? =some k':=hk
  by_cases hi:i<m
  ·rw [J6 (O9 hi)] at hk
   injection hk with hk;subst hk
   rw [fa _ (by omega)]
   refine ⟨flB (rF n (D.A i)),?_,c9 (c7 _)⟩
   show ((mF m n D.A).map flB)[i]? =_
   rw [List.getElem?_map,O9 hi];rfl
  ·obtain ⟨t,rfl⟩:∃t,i=m+t:=⟨i - m,by omega⟩
   rw [a1z (b8 _ _ _)] at hk
   rcases t with _|t
   ·injection hk with hk;subst hk
    have:fS m (m+0+6)=0:=by unfold fS;rw [if_neg (by omega)]
    rw [this]
    exact ⟨_,rfl,c9 hb⟩
   ·simp at hk
theorem a7q {m n:Nat} {fr:List (Nat × Bool)} {D E:Fd} {r:S} (X:Hp) (hr:aB1 r=true) (hr':r.isT=true) (h:a9 Tryz.prog 200 [.c (.ptr 0 0 0)] (Z0 m n fr D) r (Z0 m n fr E)):
 a9 Tryz.prog 200 [.c (.ptr 0 0 0)] (K0 m n fr D.V D.G D.O D.F D.A X) r (K0 m n fr E.V E.G E.O E.F E.A X):=by
 have hl:∀{D:Fd},∀k ∈ Z0 m n fr D,k.mode=.live∧k.app=false:=by
  intro D k hk
  simp only [List.mem_cons] at hk
  rcases hk with rfl|rfl|rfl|rfl|rfl|rfl|hk
  ·exact ⟨rfl,rfl⟩
  ·exact ⟨rfl,rfl⟩
  ·exact ⟨rfl,rfl⟩
  ·exact ⟨rfl,rfl⟩
  ·exact ⟨rfl,rfl⟩
  ·exact ⟨rfl,rfl⟩
  ·obtain ⟨l,_,rfl⟩:=List.mem_map.1 hk
   exact ⟨rfl,rfl⟩
 exact a7L (n:=m+6) X h a2v a2v (by simp [okS,okC,Nat.blt_eq]) (fun k hk=>⟨(hl k hk).1,(hl k hk).2,a6q k hk⟩) (fun k hk=>⟨(by rw [(hl k hk).1];intro h;cases h),a6q k hk⟩) hr hr'
theorem az2 (l:List (Int × Rat)) (z:List Rat) (hl:l.length<=1000000) (h1:∀t ∈ l,rl t.2<=20000) (h2:∀v ∈ z,rl v<=40000) (hS:∀k,rl (j9 (l.take k) z)<=60000) (hz:z.length<=1000000) (hr:e8 (-1) z.length l=true):
 a9 Tryz.prog 110 [j7 l,i8 (z.map fz)] [] (frS (fz (j9 l z))) []:=by
 have m1:(l.map i9).length=l.length:=by simp
 have m2:((z.map fz).map k7).length=z.length:=by simp
 have i0:=I3 0 (by decide) (by decide)
 (refine ac Tryz.func110 ?_;(conv=>whnf);repeat ((first|refine b0x ?_|refine zy ?_);conv=>whnf))
 repeat' (first|refine zz ?_|refine qp i0 ?_|refine zd ?_ ?_<;>intro h<;>try omega|refine zy ?_|fail)<;>conv=>whnf
 refine d7 c8 (fun k=>([J,i8 (z.map fz),J,J,S.c (C.ptr 0 0 0),S.c (C.ptr 1 0 0),J,J,J,J,J,j7 l,a7 .i64 l.length,a7 .i64 k,J,J,J,J,J,J,J,J,J,J,J,J,J,J,J,J,J,J,J,J,J,J],[frB E5,frB (fz (j9 (l.take k) z))])) l.length (fun _=>True) [some 0,some 1] trivial
  ⟨rfl,rfl,⟨⟨rfl,rfl,rfl,.inr ⟨⟨rfl,rfl,rfl,rfl,trivial⟩,trivial⟩⟩,⟨rfl,rfl,rfl,.inl ⟨rfl,u3 _⟩⟩,trivial⟩,⟨rfl,⟨rfl,rfl,rfl⟩,⟨rfl,rfl,rfl⟩,rfl,c6 (by simp),rfl,trivial⟩⟩ ?_
 intro k hk _
 by_cases hlt:k<l.length
 ·obtain ⟨t,ht⟩:∃t,l[k]? =some t:=⟨_,lg0 hlt⟩
  obtain ⟨v,c⟩:=t
  have hv:=a7v hr _ (lg2 ht)
  simp only at hv
  have bc:=h1 _ (lg2 ht)
  simp only at bc
  obtain ⟨x,hx⟩:∃x,z[v.toNat]? =some x:=⟨_,lg0 (by omega)⟩
  have hxd:z.getD v.toNat 0=x:=by rw [lg3,hx];rfl
  have bx:=h2 x (lg2 hx)
  have b3:=a29 c x
  have bs:=hS k
  have mu:=a75 c x (by omega) (by omega)
  have ad:=a28 (j9 (l.take k) z) (c*x) (by omega) (by omega)
  have e:j9 (l.take k) z+c*x=j9 (l.take (k+1)) z:=by
   have:l.take (k+1)=l.take k++[(v,c)]:=by rw [List.take_add_one,ht];rfl
   rw [this,R7,←hxd]
  rw [e] at ad
  have xz:(z.map fz)[v.toNat]? =some (fz x):=by rw [List.getElem?_map,hx];rfl
  conv=>whnf
  repeat' (first|refine zz ?_|refine qp mu ?_|refine qp ad ?_|refine qp 10 ?_|refine qp 5 ?_|refine b9 ht ?_|refine p9 (by omega) xz ?_|refine bl0 [10] ?_|refine bl0 [5] ?_|refine zd ?_ ?_<;>intro h<;>try omega|refine zy ?_|fail)<;>conv=>whnf
  all_goals first
   |omega
   |exact ⟨hlt,trivial,[some 0,some 1],rfl,rfl,⟨⟨rfl,rfl,rfl,.inl ⟨rfl,u3 _⟩⟩,⟨rfl,rfl,rfl,.inl ⟨rfl,u3 _⟩⟩,trivial⟩,⟨rfl,⟨rfl,rfl,rfl⟩,⟨rfl,rfl,rfl⟩,rfl,rfl,rfl,trivial⟩⟩
 ·have hke:k=l.length:=by omega
  subst hke
  rw [lg4 (Nat.le_refl _)]
  conv=>whnf
  repeat' (first|refine zz ?_|refine zd ?_ ?_<;>intro h<;>try omega|refine zy ?_|fail)<;>conv=>whnf
  all_goals first
   |omega
   |exact af6 rfl
theorem a10 (z:List Rat):(z.map fz).all x4=true:=by
 rw [List.all_eq_true];intro f hf
 obtain ⟨x,_,rfl⟩:=List.mem_map.1 hf
 exact a91 x
theorem aA2 (l:List (Int × Rat)) (z:List Rat) (hl:l.length<=1000000) (h1:∀t ∈ l,rl t.2<=200) (h2:∀v ∈ z,rl v<=40000) (hS:∀k,rl (j9 (l.take k) z)<=60000) (hz:z.length<=1000000) (hr:e8 (-1) z.length l=true):
 a9 Tryz.prog 158 [j7 l,i8 (z.map fz)] [] (.tup [frS (fz (j9 l z)),d6 true]) []:=by
 have m2:((z.map fz).map k7).length=z.length:=by simp
 have rt:=J8 l z.length hl h1
 rw [decide_eq_true (by omega),hr] at rt
 have pt:=au5 (z.map fz) (by simpa using hz) (fun f hf=>by
  obtain ⟨x,hx,rfl⟩:=List.mem_map.1 hf
  have:=h2 x hx
  have a:=D8 x
  have b:=F4 x
  exact ⟨by show bl x.num<=_;omega,by show bl x.den<=_;omega⟩)
 rw [a10] at pt
 have va:=az2 l z hl (fun t ht=>by have:=h1 t ht;omega) h2 hS hz hr
 have rt2:a9 Tryz.prog 161 [j7 l,a7 .i64 (((z.map fz).map k7).length:Nat)] [] (d6 (true && true)) []:=by rw [m2];exact rt
 (refine ac Tryz.func158 ?_;(conv=>whnf);repeat ((first|refine b0x ?_|refine zy ?_);conv=>whnf))
 repeat' (first|refine zz ?_|refine qp rt2 ?_|refine qp pt ?_|refine qp va ?_|refine zd ?_ ?_<;>intro h<;>try omega|refine zy ?_|fail)<;>conv=>whnf
 all_goals first
  |(exfalso;simp_all;done)
  |exact j2 ⟨⟨rfl,rfl,rfl,rfl,trivial⟩,rfl,trivial⟩
structure I4 (s:f8) (g:List (Int × Rat)) (n B:Nat):Prop where
 o:b6L s g n
 sb:a39 s
 gb:∀t ∈ g,rl t.2<=200
 bd:∀D,U5 (f7 s).length n (g8 s g) D->BdD (f7 s).length n B D
 b1:1<=B
 bn:(n+3)*(B+2)<=50000
 r:s.rows.length<=1000
theorem I4.nn {s:f8} {g:List (Int × Rat)} {n B:Nat} (h:I4 s g n B):s.n.toNat=n:=by have:=h.o.en;omega
theorem I4.bb {s:f8} {g:List (Int × Rat)} {n B:Nat} (h:I4 s g n B):B<=17000:=by
 have h1:=h.bn
 have:(n+3)*(B+2)=n*(B+2)+3*(B+2):=by rw [Nat.add_mul]
 omega
theorem I4.m {s:f8} {g:List (Int × Rat)} {n B:Nat} (h:I4 s g n B):(f7 s).length<=2000:=by
 have:=a54 (s:=s) s.rows.length
 have:=h.r
 show (J7 s s.rows.length).length<=_
 omega
abbrev bO (cells:List C):Blk:={ mode:=.live,elem:=168,size:=8,rows:=[cells],box:=true }
abbrev z8:List C:=[.t (ti 0),.t (ti 0),.t (.sl 0 .nil []),.t (ti 0),.t (.sl 0 .nil []),.t (.sl 0 .nil []),.t (.sl 0 .nil []),.t (.sl 0 .nil [])]
theorem b0L:I2 (bO z8).rows:=c7 [[ti 0,ti 0,.sl 0 .nil [],ti 0,.sl 0 .nil [],.sl 0 .nil [],.sl 0 .nil [],.sl 0 .nil []]]
theorem a3h {s:f8} {g:List (Int × Rat)} {n B:Nat} (h:I4 s g n B):
 a9 Tryz.prog 200 [.c (.ptr 0 0 0)] (Z0 (f7 s).length n (f7 s) (g8 s g)) (.tup [a7 .i64 (aJ9 (a0L s g)).1,a7 .i64 (aJ9 (a0L s g)).2]) (Z0 (f7 s).length n (f7 s) (y3 s g)):=by
 have hn:=h.nn
 subst hn
 have hm:=h.m
 exact b1H _ _ (f7 s) (g8 s g) _ (by omega) h.o.n1 a2n (fun D hD=>by
  have hb:=h.bd D hD
  have hB:=h.bb
  exact ⟨fun i hi=>by have:=hb.v i hi;omega,fun i hi j hj=>by have:=hb.a i hi j hj;omega,fun j hj=>by have:=hb.g j hj;omega⟩)
theorem a9R {s:f8} {g:List (Int × Rat)} {n B:Nat} (h:I4 s g n B):(y8 s g).length=n:=by unfold y8;rw [R3];exact h.nn
theorem a8a {s:f8} {g:List (Int × Rat)} {n B:Nat} (h:I4 s g n B):a9 Tryz.prog 201 [dT (f7 s).length n (f7 s) (y3 s g)] [] (i8 ((y8 s g).map fz)) []:=by
 have hn:=h.nn
 subst hn
 exact b2w _ _ _ _ R0.p (by have:=h.m;omega) h.o.n1
theorem aa9 {s:f8} {g:List (Int × Rat)} {n B:Nat} (h:I4 s g n B):BdD (f7 s).length n B (y3 s g):=by
 have hn:=h.nn
 subst hn
 exact h.bd _ (a49 a2n).1
theorem ao9 {s:f8} {g:List (Int × Rat)} {n B:Nat} (h:I4 s g n B) (H:Hp):W6 Tryz.prog 204 [dT (f7 s).length n (f7 s) (y3 s g),a7 .i64 s.rows.length] H (.c (.own H.length 0 s.rows.length true)) [flB (rF s.rows.length (P5 s (y3 s g)))]:=by
 have hb:=aa9 h
 have hp:Z7 (f7 s).length n (y3 s g):=by have hn:=h.nn;subst hn;exact R0.p
 refine a53 (b48 s n h.o.en (y3 s g) hp B hb.g h.b1 ?_ (by have:=h.m;omega) h.r h.o.n1) rfl rfl (c7 _)
 have:=h.bn
 have:(n+3)*(B+2)=(n+2)*(B+2)+(B+2):=by rw [show n+3=(n+2)+1 by omega,Nat.succ_mul]
 omega
theorem a7h {i m:Nat} (h:i<m):F3 [some m] i=true:=by
 unfold F3
 have:Nat.beq m i=false:=by
  cases hb:Nat.beq m i with
  |false=>rfl
  |true=>have:=Nat.eq_of_beq_eq_true hb;omega
 rw [this];rfl
theorem aS2 {m n:Nat} {fr:List (Nat × Bool)} {D:Fd} {env env':Env} (b:Blk) (hb:I2 b.rows) (hE:a6D [some (m+6)] (K0 m n fr D.V D.G D.O D.F D.A [b]) env env'):b5Q 0 [some (m+6)] env (K0 m n fr D.V D.G D.O D.F D.A [b]) env' [b]:=by
 refine ⟨rfl,?_,a4P rfl fun i k' hk=>?_,hE⟩
 ·simp only [Q4,a4u];cases b.mode<;>rfl
 ·rcases i with _|i
  ·injection hk with hk;subst hk
   exact ⟨m+6,_,rfl,a1z (t:=0) (b8 _ _ _),c9 hb⟩
  ·simp at hk
set_option maxHeartbeats 4000000 in
theorem aq7 (s:f8) (g:List (Int × Rat)) (n B:Nat) (h:I4 s g n B) (hout:a0L s g=.best) (hS:∀k,rl (j9 (g.take k) (y8 s g))<=60000) (hpt:∀v ∈ y8 s g,rl v<=40000):
 a9 Tryz.prog 130 [Q3 s,j7 g] [] (.tup [.agg (C.t (ti 0)::frC (fz (j9 g (y8 s g)))++[.t (C6 ((y8 s g).map fz)),.own 0 0 s.rows.length true,.t (.sl 0 .nil [])]),a7 .i64 0]) [flB (rF s.rows.length (P5 s (y3 s g)))]:=by
 have hn:=h.nn
 have hm:=h.m
 have hr1:=h.r
 have hgl:=z5 h.o.tg
 have hn1:=h.o.n1
 have lr:=a3W s h.sb
 rw [h.o.r] at lr
 have rt:=J8 g s.n (by have:=h.o.n1;omega) h.gb
 rw [h.o.en,decide_eq_true (by omega),h.o.tg,←h.o.en] at rt
 have op:=ao0 (bO z8) (aU5 s g n h.o)
 have se:=a3h h
 rw [hout] at se
 have m1:(s.rows.map w5).length=s.rows.length:=by simp
 have pt:=a8a h
 have va:=aA2 g (y8 s g) (by omega) h.gb hpt hS (by rw [a9R h];omega) (by rw [a9R h];exact h.o.tg)
 have pr:∀H:Hp,W6 Tryz.prog 204 [dT (f7 s).length n (f7 s) (y3 s g),a7 .i64 ((s.rows.map w5).length:Nat)] H (.c (.own H.length 0 s.rows.length true)) [flB (rF s.rows.length (P5 s (y3 s g)))]:=by rw [m1];exact ao9 h
 (refine ag7 c8 Tryz.func130 rfl (by decide) ?_;refine P4 c8 ?_;(conv=>whnf);repeat ((first|refine b0x ?_|refine zy ?_);conv=>whnf))
 repeat' (first|refine zz ?_|refine b0x ?_|refine zd ?_ ?_<;>intro h<;>try omega|refine zy ?_|fail)<;>conv=>whnf
 (refine P4 c8 ?_;conv=>whnf)
 repeat' (first|refine zz ?_|refine qp lr ?_|refine qp rt ?_|refine zd ?_ ?_<;>intro h<;>try omega|refine zy ?_|fail)<;>conv=>whnf
 all_goals try (exfalso;simp_all;done)
 refine a1Q c8 ([J,j7 g,S.c (C.t (T.ptr (ae9 s))),J,S.c (C.ptr ((f7 s).length+6) 0 0),a7 .i64 0,S.c (C.ptr 0 0 0),J,J,J,J,J,J,J,J,J,J,J,J,J,J,J,J,J,J,J,J,J,J,J,J,J,J,J,J,J,J,J,J,J,J,J,J,J,J,J,J,J,J,J,J,J,J,J,J,J,J,J,J,J,J,J,J,J,J,J,J,J,J,J,J,J,J,J,J,J,J,J]) (K0 (f7 s).length n (f7 s) (g8 s g).V (g8 s g).G (g8 s g).O (g8 s g).F (g8 s g).A [bO z8]) ?_ ?_
 ·conv=>whnf
  repeat' (first|refine zz ?_|refine .inr ⟨_,_,op,?_⟩|refine F6 ?_|refine zd ?_ ?_<;>intro h<;>try omega|refine zy ?_|fail)<;>conv=>whnf
  exact ⟨_,ac8 b0L rfl ⟨rfl,g7 rfl,⟨by rw [y5 (by omega)];simp [fS],rfl,rfl⟩,rfl,⟨by rw [y5 (by omega)];simp [fS],rfl,rfl⟩,trivial⟩⟩
 refine a92 c8 ([J,j7 g,S.c (C.t (T.ptr (ae9 s))),J,S.c (C.ptr 0 0 0),a7 .i64 0,dT (f7 s).length n (f7 s) (y3 s g),a7 .i64 (-1),a7 .i64 (-1),J,J,J,J,J,J,J,J,J,J,J,J,J,J,J,J,J,J,J,J,J,J,J,J,J,J,J,J,J,J,J,J,J,J,J,J,J,J,J,J,J,J,J,J,J,J,J,J,J,J,J,J,J,J,J,J,J,J,J,J,J,J,J,J,J,J,J,J,J]) [bO z8] ?_ ?_
 ·have si:=a7q [bO z8] rfl rfl se
  conv=>whnf
  repeat' (first|refine zz ?_|refine qp 4 ?_|refine .inr ⟨_,_,si,?_⟩|refine j3 ?_|refine bl0 [4] ?_|refine zd ?_ ?_<;>intro h<;>try omega|refine zy ?_|fail)<;>conv=>whnf
  exact ⟨_,aS2 (bO z8) b0L ⟨.inl (g7 rfl),.inl (g7 rfl),.inl ⟨rfl,rfl,rfl⟩,.inl rfl,.inr (ar3 fun i hi=>a7h hi),.inl rfl,.inl rfl,trivial⟩⟩
 (refine P4 c8 ?_;conv=>whnf)
 repeat' (first|refine zz ?_|refine zd ?_ ?_<;>intro h<;>try omega|refine zy ?_|fail)<;>conv=>whnf
 all_goals try omega
 (refine P4 c8 ?_;conv=>whnf)
 repeat' (first|refine zz ?_|refine zd ?_ ?_<;>intro h<;>try omega|refine zy ?_|fail)<;>conv=>whnf
 all_goals try omega
 (refine P4 c8 ?_;conv=>whnf)
 repeat' (first|refine zz ?_|refine qp pt ?_|refine zd ?_ ?_<;>intro h<;>try omega|refine zy ?_|fail)<;>conv=>whnf
 (refine P4 c8 ?_;conv=>whnf)
 repeat' (first|refine zz ?_|refine qp va ?_|refine qp 4 ?_|refine qp 5 ?_|refine bl0 [4] ?_|refine bl0 [5] ?_|refine zd ?_ ?_<;>intro h<;>try omega|refine zy ?_|fail)<;>conv=>whnf
 (refine P4 c8 ?_;conv=>whnf)
 repeat' (first|refine zz ?_|refine .inl ⟨_,_,pr _,?_⟩|refine zd ?_ ?_<;>intro h<;>try omega|refine zy ?_|fail)<;>conv=>whnf
 refine y7 c8 _ ?_
 conv=>whnf
 repeat' (first|refine zz ?_|refine zd ?_ ?_<;>intro h<;>try omega|refine zy ?_|fail)<;>conv=>whnf
 exact ⟨[some 2],rfl,rfl,⟨c9 (c7 _),trivial⟩,⟨⟨rfl,rfl,rfl,rfl,rfl,rfl,⟨rfl,rfl,rfl,fun h=>h⟩,rfl,trivial⟩,rfl,trivial⟩⟩
theorem ac0 {P:Program} {g:FuncId} {args args':List S} {H H':Hp} {r:S} (h:a9 P g args' H r H') (hl:args.length=args'.length)
 (hw:∀(w:World) (ι:Io) (M:Ms) (j:Nat) (s s':S) (v:Value),args[j]? =some s->args'[j]? =some s'->RS w ι M s v->RS w ι M s' v):a9 P g args H r H':=by
 refine ⟨h.1,fun w ι M vals hl2 hv hH hM hf=>h.2 w ι M vals (by omega) (fun j s' hj=>?_) hH hM hf⟩
 have hlt:=(lg1 hj).1
 exact hw w ι M j _ s' _ (lg0 (by omega)) hj (hv j _ (lg0 (by omega)))
theorem b1N {s:f8} {n:Nat} (b:Blk) (h:a9 Tryz.prog 199 [Q3 s,j7 []] [] (.c (.ptr 0 0 0)) (Z0 (f7 s).length n (f7 s) (g8 s []))):
 a9 Tryz.prog 199 [Q3 s,.c (.t (.sl 0 .nil []))] [b] (.c (.ptr 1 0 0)) (b7w (f7 s).length n (f7 s) (g8 s []) b):=by
 refine ac0 (ao0 b h) rfl fun w ι M j x y v hx hy hr=>?_
 rcases j with _|_|j
 ·injection hx with hx;injection hy with hy;subst hx hy;exact hr
 ·injection hx with hx;injection hy with hy;subst hx hy
  cases hr with
  |c hr=>cases hr with
   |t hr=>exact .c (.t (hr.weak rfl))
 ·simp at hx
theorem b1e {s:f8} {g:List (Int × Rat)} {n B c:Nat} (h:I4 s g n B) (hc:c<n):a9 Tryz.prog 202 [dT (f7 s).length n (f7 s) (y3 s g),a7 .i64 c] [] (i8 ((a57 s g c).map fz)) []:=by
 have hb:=aa9 h
 have hB:=h.bb
 have hn:=h.nn
 subst hn
 exact b7B _ _ _ _ c hc R0.p (by have:=h.m;omega) h.o.n1 (fun i hi=>by have:=hb.a i hi c hc;omega)
abbrev b8m:List C:=frC E5
theorem b1r {P:Program} {n0:Nat} {c:Operand} {t e:Code} {env:Env} {H:Hp} {Q:AX->Env->Hp->Prop} (hb:F2 env c=d6 true) (h:Awp P n0 t env H Q):Awp P n0 (.cond c t e) env H Q:=b1F hb h
set_option maxHeartbeats 4000000 in
theorem au2 (s:f8) (g:List (Int × Rat)) (n B B0 c:Nat) (h:I4 s g n B) (h0:I4 s [] n B0) (hout:a0L s g=.col c) (hout0:a0L s []=.best):
 a9 Tryz.prog 130 [Q3 s,j7 g] [] (.tup [.agg (C.t (ti 2)::b8m++[.t (C6 ((y8 s []).map fz)),.t (.sl 0 .nil []),.t (C6 ((a57 s g c).map fz))]),a7 .i64 0]) []:=by
 have hn:=h.nn
 have hm:=h.m
 have hr1:=h.r
 have hgl:=z5 h.o.tg
 have hn1:=h.o.n1
 have hcn:c<n:=by have:=(a6j hout).1;omega
 have lr:=a3W s h.sb
 rw [h.o.r] at lr
 have rt:=J8 g s.n (by have:=h.o.n1;omega) h.gb
 rw [h.o.en,decide_eq_true (by omega),h.o.tg,←h.o.en] at rt
 have op:=ao0 (bO z8) (aU5 s g n h.o)
 have se:=a3h h
 rw [hout] at se
 have op0:=b1N (bO z8) (aU5 s [] n h0.o)
 have se0:=a3h h0
 rw [hout0] at se0
 have m1:(s.rows.map w5).length=s.rows.length:=by simp
 have pt:=a8a h0
 have ra:=b1e h hcn
 (refine ag7 c8 Tryz.func130 rfl (by decide) ?_;refine P4 c8 ?_;(conv=>whnf);repeat ((first|refine b0x ?_|refine zy ?_);conv=>whnf))
 repeat' (first|refine zz ?_|refine b0x ?_|refine zd ?_ ?_<;>intro h<;>try omega|refine zy ?_|fail)<;>conv=>whnf
 (refine P4 c8 ?_;conv=>whnf)
 repeat' (first|refine zz ?_|refine qp lr ?_|refine qp rt ?_|refine zd ?_ ?_<;>intro h<;>try omega|refine zy ?_|fail)<;>conv=>whnf
 all_goals try (exfalso;simp_all;done)
 refine a1Q c8 ([J,j7 g,S.c (C.t (T.ptr (ae9 s))),J,S.c (C.ptr ((f7 s).length+6) 0 0),a7 .i64 0,S.c (C.ptr 0 0 0),J,J,J,J,J,J,J,J,J,J,J,J,J,J,J,J,J,J,J,J,J,J,J,J,J,J,J,J,J,J,J,J,J,J,J,J,J,J,J,J,J,J,J,J,J,J,J,J,J,J,J,J,J,J,J,J,J,J,J,J,J,J,J,J,J,J,J,J,J,J,J]) (K0 (f7 s).length n (f7 s) (g8 s g).V (g8 s g).G (g8 s g).O (g8 s g).F (g8 s g).A [bO z8]) ?_ ?_
 ·conv=>whnf
  repeat' (first|refine zz ?_|refine .inr ⟨_,_,op,?_⟩|refine F6 ?_|refine zd ?_ ?_<;>intro h<;>try omega|refine zy ?_|fail)<;>conv=>whnf
  exact ⟨_,ac8 b0L rfl ⟨rfl,g7 rfl,⟨by rw [y5 (by omega)];simp [fS],rfl,rfl⟩,rfl,⟨by rw [y5 (by omega)];simp [fS],rfl,rfl⟩,trivial⟩⟩
 refine a92 c8 ([J,j7 g,S.c (C.t (T.ptr (ae9 s))),J,S.c (C.ptr 0 0 0),a7 .i64 0,dT (f7 s).length n (f7 s) (y3 s g),a7 .i64 (-1),a7 .i64 c,J,J,J,J,J,J,J,J,J,J,J,J,J,J,J,J,J,J,J,J,J,J,J,J,J,J,J,J,J,J,J,J,J,J,J,J,J,J,J,J,J,J,J,J,J,J,J,J,J,J,J,J,J,J,J,J,J,J,J,J,J,J,J,J,J,J,J,J,J]) [bO z8] ?_ ?_
 ·have si:=a7q [bO z8] rfl rfl se
  conv=>whnf
  repeat' (first|refine zz ?_|refine qp 4 ?_|refine .inr ⟨_,_,si,?_⟩|refine j3 ?_|refine bl0 [4] ?_|refine zd ?_ ?_<;>intro h<;>try omega|refine zy ?_|fail)<;>conv=>whnf
  exact ⟨_,aS2 (bO z8) b0L ⟨.inl (g7 rfl),.inl (g7 rfl),.inl ⟨rfl,rfl,rfl⟩,.inl rfl,.inr (ar3 fun i hi=>a7h hi),.inl rfl,.inl rfl,trivial⟩⟩
 refine a9E ?_
 refine P4 c8 ?_
 conv=>whnf
 repeat' (first|refine zz ?_|refine zd ?_ ?_<;>intro h<;>try omega|refine zy ?_|fail)<;>conv=>whnf
 all_goals try omega
 refine b1r rfl ?_
 refine a1Q c8 ([J,j7 g,S.c (C.t (T.ptr (ae9 s))),J,S.c (C.ptr ((f7 s).length+6) 0 0),a7 .i64 0,dT (f7 s).length n (f7 s) (y3 s g),a7 .i64 (-1),a7 .i64 c,S.c (C.ptr 0 0 0),J,J,J,J,J,J,J,J,J,J,J,J,J,J,J,J,J,J,J,J,J,J,J,J,J,J,J,J,J,J,J,J,J,J,J,J,J,J,J,J,J,J,J,J,J,J,J,J,J,J,J,J,J,J,J,J,J,J,J,J,J,J,J,J,J,J,J,J]) (K0 (f7 s).length n (f7 s) (g8 s []).V (g8 s []).G (g8 s []).O (g8 s []).F (g8 s []).A [bO z8]) ?_ ?_
 ·conv=>whnf
  repeat' (first|refine zz ?_|refine .inr ⟨_,_,op0,?_⟩|refine F6 ?_|refine zd ?_ ?_<;>intro h<;>try omega|refine zy ?_|fail)<;>conv=>whnf
  exact ⟨_,ac8 b0L rfl ⟨rfl,g7 rfl,⟨by rw [y5 (by omega)];simp [fS],rfl,rfl⟩,rfl,g7 rfl,rfl,rfl,⟨by rw [y5 (by omega)];simp [fS],rfl,rfl⟩,trivial⟩⟩
 refine a92 c8 ([J,j7 g,S.c (C.t (T.ptr (ae9 s))),J,S.c (C.ptr 0 0 0),a7 .i64 0,dT (f7 s).length n (f7 s) (y3 s g),a7 .i64 (-1),a7 .i64 c,dT (f7 s).length n (f7 s) (y3 s []),a7 .i64 (-1),a7 .i64 (-1),J,J,J,J,J,J,J,J,J,J,J,J,J,J,J,J,J,J,J,J,J,J,J,J,J,J,J,J,J,J,J,J,J,J,J,J,J,J,J,J,J,J,J,J,J,J,J,J,J,J,J,J,J,J,J,J,J,J,J,J,J,J,J,J,J,J]) [bO z8] ?_ ?_
 ·have si:=a7q [bO z8] rfl rfl se0
  conv=>whnf
  repeat' (first|refine zz ?_|refine qp 4 ?_|refine .inr ⟨_,_,si,?_⟩|refine j3 ?_|refine bl0 [4] ?_|refine zd ?_ ?_<;>intro h<;>try omega|refine zy ?_|fail)<;>conv=>whnf
  exact ⟨_,aS2 (bO z8) b0L ⟨.inl (g7 rfl),.inl (g7 rfl),.inl ⟨rfl,rfl,rfl⟩,.inl rfl,.inl (g7 rfl),.inl rfl,.inl rfl,.inr (ar3 fun i hi=>a7h hi),.inl rfl,.inl rfl,trivial⟩⟩
 refine y7 c8 _ ?_
 conv=>whnf
 repeat' (first|refine zz ?_|refine qp pt ?_|refine qp ra ?_|refine zd ?_ ?_<;>intro h<;>try omega|refine zy ?_|fail)<;>conv=>whnf
 all_goals first
  |omega
  |exact ⟨[],rfl,rfl,trivial,⟨⟨rfl,rfl,rfl,rfl,rfl,rfl,rfl,rfl,trivial⟩,rfl,trivial⟩⟩
def aw5 (A:Nat->List T) (g:Nat->List Int) (B:Nat->List T) (id:Nat) (i:Nat):List C:=(A i).map .t++.own id 0 (g i).length true::(B i).map .t
def a2x (n:Nat) (A:Nat->List T) (g:Nat->List Int) (B:Nat->List T):List (List C):=(List.range n).map fun i=>aw5 A g B (i+1) i
def b7A (el:TypeId) (size n:Nat) (A:Nat->List T) (g:Nat->List Int) (B:Nat->List T):Blk:={ mode:=.live,elem:=el,size:=size,rows:=a2x n A g B,box:=false }
def Y7 (el:TypeId) (size n:Nat) (A:Nat->List T) (g:Nat->List Int) (B:Nat->List T):Hp:=b7A el size n A g B::(List.range n).map fun i=>o5 (g i)
theorem a09 {n:Nat} {A:Nat->List T} {g:Nat->List Int} {B:Nat->List T}:(a2x n A g B).length=n:=by simp [a2x]
theorem a2F {n i:Nat} {A:Nat->List T} {g:Nat->List Int} {B:Nat->List T} (h:i<n):(a2x n A g B)[i]? =some (aw5 A g B (i+1) i):=by simp [a2x,h]
theorem a7e {el:TypeId} {size n:Nat} {A:Nat->List T} {g:Nat->List Int} {B:Nat->List T}:(Y7 el size n A g B).length=n+1:=by simp [Y7]
def a7W (n j N:Nat):List (Option Nat):=(List.range (n+1)).map fun i=>some (if i=j+1 then N else i)
theorem W5 {n j N i:Nat} (h:i<n+1):(a7W n j N)[i]? =some (some (if i=j+1 then N else i)):=by simp [a7W,h]
theorem af8 {n j N:Nat}:(a7W n j N).length=n+1:=by simp [a7W]
theorem L6 {ρ:List (Option Nat)} {H:Hp}:∀l:List T,a36 ρ H (l.map C.t) (l.map C.t)
 |[]=>trivial
 |x::r=>⟨a0Z x,L6 r⟩
theorem a4s {ρ:List (Option Nat)} {H:Hp}:∀{a b c d:List C},a36 ρ H a b->a36 ρ H c d->a36 ρ H (a++c) (b++d)
 |[],[],_,_,_,h=>h
 |x::a,y::b,_,_,h1,h2=>⟨h1.1,a4s h1.2 h2⟩
 |[],_::_,_,_,h,_=>h.elim
 |_::_,[],_,_,h,_=>h.elim
theorem a6r {ρ:List (Option Nat)} {H:Hp}:∀{xs ys:List (List C)},xs.length=ys.length->(∀ (i:Nat) (x y:List C),xs[i]? =some x->ys[i]? =some y->a36 ρ H x y)->a3V ρ H xs ys
 |[],[],_,_=>trivial
 |[],_::_,h,_=>by simp at h
 |_::_,[],h,_=>by simp at h
 |x::xs,y::ys,h,hh=>⟨hh 0 x y rfl rfl,a6r (by simpa using h) fun i a b ha hb=>hh (i+1) a b (by simpa using ha) (by simpa using hb)⟩
def a4x (g:Nat->List Int) (j:Nat) (l:List Int):Nat->List Int:=fun i=>if i=j then l else g i
theorem b2K {el:TypeId} {size n j N:Nat} {A:Nat->List T} {g:Nat->List Int} {B:Nat->List T} {l:List Int} {env env':Env} {H:Hp} {k0:Blk} (hj:j<n) (hnN:n<N)
 (h0:H[0]? =some k0) (hk0:k0.mode=.live∧k0.app=false∧k0.elem=el∧k0.size=size) (hr:k0.rows=(a2x n A g B).set j ((A j).map .t++.own N 0 l.length true::(B j).map .t))
 (hm:∀m,m<n->m≠j->H[m+1]? =some (o5 (g m))) (hN:H[N]? =some (o5 l)) (hE:a0B (a7W n j N) H env env'):Ent 0 (a7W n j N) env H env' (Y7 el size n A (a4x g j l) B):=by
 refine ⟨rfl,a07 fun a b m h1 h2=>?_,a4P (by rw [af8,a7e]) fun i k' hk=>?_,hE⟩
 ·have ha:=(lg1 h1).1
  have hb:=(lg1 h2).1
  rw [af8] at ha hb
  rw [W5 ha] at h1
  rw [W5 hb] at h2
  simp only [Option.some.injEq] at h1 h2
  split at h1<;>split at h2<;>omega
 ·have hi:=(lg1 hk).1
  rw [a7e] at hi
  refine ⟨if i=j+1 then N else i,?_⟩
  cases i with
  |zero=>
   refine ⟨k0,W5 hi,by simpa using h0,?_⟩
   simp [Y7] at hk
   subst hk
   obtain ⟨q1,q2,q3,q4⟩:=hk0
   refine ⟨by unfold a2g;rw [q1,q2];rfl,q3,q4,.inr ?_⟩
   rw [hr]
   refine a6r (by rw [List.length_set,a09];exact a09.symm) fun a x y hx hy=>?_
   have han:a<n:=by have:=(lg1 hy).1;rw [show (b7A el size n A (a4x g j l) B).rows=a2x n A (a4x g j l) B from rfl,a09] at this;exact this
   have hy:(a2x n A (a4x g j l) B)[a]? =some y:=hy
   rw [a2F han] at hy
   injection hy with hy
   subst hy
   rw [List.getElem?_set,a09] at hx
   by_cases haj:j=a
   ·subst haj
    rw [if_pos rfl,if_pos hj] at hx
    injection hx with hx
    subst hx
    unfold aw5
    have e1:a4x g j l j=l:=by simp [a4x]
    rw [e1]
    refine a4s (L6 _) ⟨⟨?_,rfl,rfl,fun h=>h⟩,L6 _⟩
    rw [W5 (by omega),if_pos rfl]
   ·rw [if_neg haj,a2F han] at hx
    injection hx with hx
    subst hx
    unfold aw5
    have e1:a4x g j l a=g a:=by unfold a4x;rw [if_neg (fun h=>haj h.symm)]
    rw [e1]
    refine a4s (L6 _) ⟨⟨?_,rfl,rfl,fun h=>h⟩,L6 _⟩
    rw [W5 (by omega),if_neg (by omega)]
  |succ i=>
   have hin:i<n:=by omega
   have hk:((List.range n).map fun i=>o5 (a4x g j l i))[i]? =some k':=hk
   rw [List.getElem?_map,List.getElem?_range hin] at hk
   injection hk with hk
   subst hk
   by_cases hij:i=j
   ·subst hij
    refine ⟨o5 l,W5 hi,by rw [if_pos rfl];exact hN,?_⟩
    have e1:a4x g i l i=l:=by simp [a4x]
    show a4j _ _ _ (o5 (a4x g i l i))
    rw [e1]
    exact ⟨rfl,rfl,rfl,.inl ⟨rfl,c7 _⟩⟩
   ·refine ⟨o5 (g i),W5 hi,by rw [if_neg (by omega)];exact hm i hin hij,?_⟩
    have e1:a4x g j l i=g i:=by unfold a4x;rw [if_neg hij]
    show a4j _ _ _ (o5 (a4x g j l i))
    rw [e1]
    exact ⟨rfl,rfl,rfl,.inl ⟨rfl,c7 _⟩⟩
def aM4 (id n:Nat):List (Option Nat):=some id::List.replicate n none
theorem aH1 {ρ:List (Option Nat)} {H:Hp}:∀{n:Nat} {R:List Blk},R.length=n->(∀ k ∈ R,k.rows=[]∧k.mode=.live)->a3q ρ H (List.replicate n none) R
 |0,[],_,_=>trivial
 |n+1,k::R,h,hh=>⟨hh k (by simp),aH1 (by simpa using h) fun k hk=>hh k (by simp [hk])⟩
 |0,_::_,h,_=>by simp at h
 |n+1,[],h,_=>by simp at h
theorem ad0 {H:Hp}:∀{n:Nat},Q4 (List.replicate n none) H=true
 |0=>by cases H<;>rfl
 |n+1=>by
  rw [List.replicate_succ]
  cases H with
  |nil=>rfl
  |cons k H=>exact ad0 (H:=H)
theorem ag6 {m:Nat}:∀{n:Nat} {H:Hp},a4u m (List.replicate n none) H=false
 |0,H=>by cases H<;>rfl
 |n+1,[]=>rfl
 |n+1,k::H=>by
  rw [List.replicate_succ]
  unfold a4u
  rw [ag6]
  cases k.mode<;>rfl
theorem b6q {el:TypeId} {size n id:Nat} {A B:Nat->List T} {env env':Env} {H:Hp} {k0:Blk} {s:Nat}
 (h0:H[id]? =some k0) (hk0:k0.mode=.live∧k0.app=false∧k0.elem=el∧k0.size=size) (hr:k0.rows=(List.range n).map fun i=>(A i).map .t++.t (.sl s .nil [])::(B i).map .t)
 (hE:a0B (aM4 id n) H env env'):Ent 0 (aM4 id n) env H env' (Y7 el size n A (fun _=>[]) B):=by
 obtain ⟨q1,q2,q3,q4⟩:=hk0
 refine ⟨rfl,?_,⟨?_,?_⟩,hE⟩
 ·unfold aM4 Y7 Q4
  rw [ag6,ad0]
  rfl
 ·simp only [h0]
  refine ⟨by unfold a2g;rw [q1,q2];rfl,q3,q4,.inr ?_⟩
  rw [hr]
  refine a6r (by rw [show (b7A el size n A (fun _=>[]) B).rows=a2x n A (fun _=>[]) B from rfl,a09];simp) fun a x y hx hy=>?_
  have han:a<n:=by have:=(lg1 hx).1;simpa using this
  have hy:(a2x n A (fun _=>[]) B)[a]? =some y:=hy
  rw [a2F han] at hy
  injection hy with hy
  subst hy
  rw [List.getElem?_map,List.getElem?_range han] at hx
  injection hx with hx
  subst hx
  unfold aw5
  refine a4s (L6 _) ⟨⟨?_,rfl,rfl⟩,L6 _⟩
  show (aM4 id n)[a+1]? =some none
  unfold aM4
  rw [List.getElem?_cons_succ,List.getElem?_replicate,if_pos han]
 ·refine aH1 (by simp) fun k hk=>?_
  obtain ⟨i,_,rfl⟩:=List.mem_map.1 hk
  exact ⟨rfl,rfl⟩
theorem b4w {el:TypeId} {size n:Nat} {A:Nat->List T} {g:Nat->List Int} {B:Nat->List T} {env env':Env}
 (hE:a0B [some 0] (Y7 el size n A g B) env env'):Ent 0 [some 0] env (Y7 el size n A g B) env' [{ mode:=.live,elem:=el,size:=size,rows:=toC ((List.range n).map fun i=>A i++I1 (g i)::B i),box:=false }]:=by
 refine ⟨rfl,rfl,⟨⟨rfl,rfl,rfl,.inr ?_⟩,trivial⟩,hE⟩
 show a3V _ _ (a2x n A g B) (toC _)
 refine a6r (by rw [a09];simp [toC]) fun a x y hx hy=>?_
 have han:a<n:=by have:=(lg1 hx).1;rw [a09] at this;exact this
 rw [a2F han] at hx
 injection hx with hx
 subst hx
 have hy:(((List.range n).map fun i=>A i++I1 (g i)::B i).map (·.map C.t))[a]? =some y:=hy
 rw [List.getElem?_map,List.getElem?_map,List.getElem?_range han] at hy
 injection hy with hy
 subst hy
 show a36 _ _ _ ((A a++I1 (g a)::B a).map C.t)
 rw [List.map_append,List.map_cons]
 unfold aw5
 refine a4s (L6 _) ⟨?_,L6 _⟩
 have hk:(Y7 el size n A g B)[a+1]? =some (o5 (g a)):=by simp [Y7,han]
 exact show VC _ _ _ _ from s8 (by simp [F3];rfl) hk (by intro h;cases h) rfl rfl (by simp)
theorem b4f {el:TypeId} {size n:Nat} {A:Nat->List T} {g:Nat->List Int} {B:Nat->List T}:∀k ∈ Y7 el size n A g B,okB (n+1) k:=by
 intro k hk
 rcases List.mem_cons.1 hk with rfl|hk
 ·intro r hr c hc
  obtain ⟨i,hi,rfl⟩:=List.mem_map.1 hr
  have hi:=List.mem_range.1 hi
  unfold aw5 at hc
  rcases List.mem_append.1 hc with hc|hc
  ·obtain ⟨x,_,rfl⟩:=List.mem_map.1 hc;trivial
  ·rcases List.mem_cons.1 hc with rfl|hc
   ·show i+1<n+1;omega
   ·obtain ⟨x,_,rfl⟩:=List.mem_map.1 hc;trivial
 ·obtain ⟨i,_,rfl⟩:=List.mem_map.1 hk
  exact E7 rfl
theorem b12 {el:TypeId} {size n:Nat} {A:Nat->List T} {g:Nat->List Int} {B:Nat->List T} {env env':Env} {R:Hp} (hE:a0B (idR (n+1)) (Y7 el size n A g B++R) env env'):Ent 0 (idR (n+1)) env (Y7 el size n A g B++R) env' (Y7 el size n A g B):=
 aU1 a7e (Nat.zero_le _) b4f hE
def b82 (h:Fr) (b:Bool) (gs:List Int) (n:Int):List T:=[ti h.p.sg,I1 h.p.dl,ti h.q.sg,I1 h.q.dl,tb b,I1 gs,ti n]
def hiF (o:Option (Rat × Rat)):Fr:=match o with
 |some (_,hi)=>fz hi
 |none=>E5
def a1I (e:Ev) (i:Nat):Option (Rat × Rat):=match e.moves[i]? with
 |some x=>E4 e x
 |none=>none
theorem av5 {e:Ev} {i:Nat} {x:x8} (h:e.moves[i]? =some x):a1I e i=E4 e x:=by unfold a1I;rw [h]
def T9 (t:f5) (kind:Int) (i:Nat):List T:=b82 (hiF (a1I t.ev i)) (a1I t.ev i).isSome (i6 t.finds kind i) (m8 t.cleans kind i)
abbrev a26 (t:f5) (kind:Int):T:=.sl 7 .any ((List.range t.ev.moves.length).map (T9 t kind))
def kn1 (e:Ev) (k i:Nat):List T:=
 let h:=if i<k then hiF (a1I e i) else E5
 [ti h.p.sg,I1 h.p.dl,ti h.q.sg,I1 h.q.dl,tb (decide (i<k) && (a1I e i).isSome),.sl 0 .nil [],ti 0]
abbrev knB (rows:List (List T)):Blk:={ mode:=.live,elem:=119,size:=7,rows:=toC rows,box:=false }
theorem ax0 {e:Ev} {k i:Nat} (h:i≠k):kn1 e (k+1) i=kn1 e k i:=by
 unfold kn1
 by_cases h1:i<k
 ·simp only [if_pos h1,if_pos (show i<k+1 by omega),h1,show i<k+1 by omega]
 ·simp only [if_neg h1,if_neg (show ¬i<k+1 by omega),h1,show ¬i<k+1 by omega]
theorem aY2 {e:Ev} {k n:Nat} (h:k<n):(toC ((List.range n).map (kn1 e k))).set k ((kn1 e (k+1) k).map C.t)=toC ((List.range n).map (kn1 e (k+1))):=by
 apply List.ext_getElem?
 intro i
 unfold toC
 rw [List.getElem?_set,List.getElem?_map,List.getElem?_map,List.getElem?_map]
 by_cases hi:k=i
 ·subst hi
  rw [if_pos rfl]
  simp [h]
 ·rw [if_neg hi,List.getElem?_map]
  cases hr:(List.range n)[i]? with
  |none=>rfl
  |some j=>
   have:j=i:=by
    obtain ⟨h1,h2⟩:=lg1 hr
    simp at h2;omega
   subst this
   show some ((kn1 e k j).map C.t)=some ((kn1 e (k+1) j).map C.t)
   rw [ax0 (fun h=>hi h.symm)]
theorem aC0 {e:Ev} {k:Nat} (h:a1I e k=none):kn1 e (k+1) k=kn1 e k k:=by
 unfold kn1
 simp only [if_pos (show k<k+1 by omega),if_neg (show ¬k<k by omega),h]
 simp [hiF]
theorem ar7 {e:Ev} {k n:Nat} (h:a1I e k=none):(List.range n).map (kn1 e (k+1))=(List.range n).map (kn1 e k):=List.map_congr_left fun i _=>by
 by_cases hi:i=k
 ·subst hi;exact aC0 h
 ·exact ax0 hi
theorem b20 {e:Ev} {n:Nat} {ρ:List (Option Nat)} {H:Hp}:a3V ρ H (List.replicate n [C.t (ti 0),C.t (.sl 0 .nil []),C.t (ti 0),C.t (.sl 0 .nil []),C.t (tb false),C.t (.sl 0 .nil []),C.t (ti 0)]) (toC ((List.range n).map (kn1 e 0))):=by
 refine a6r (by simp [toC]) fun i x y hx hy=>?_
 have hi:i<n:=by have:=(lg1 hx).1;simpa using this
 rw [List.getElem?_replicate,if_pos hi] at hx
 injection hx with hx
 subst hx
 unfold toC at hy
 rw [List.getElem?_map,List.getElem?_map,List.getElem?_range hi] at hy
 injection hy with hy
 subst hy
 show a36 _ _ _ ((kn1 e 0 i).map C.t)
 unfold kn1
 simp only [if_neg (show ¬i<0 by omega)]
 exact ⟨rfl,rfl,rfl,rfl,rfl,rfl,rfl,trivial⟩
def knA (e:Ev) (i:Nat):List T:=[ti (hiF (a1I e i)).p.sg,I1 (hiF (a1I e i)).p.dl,ti (hiF (a1I e i)).q.sg,I1 (hiF (a1I e i)).q.dl,tb (a1I e i).isSome]
def D6 (t:f5) (kind:Int) (k i:Nat):List Int:=i6 (t.finds.take k) kind i
theorem a6P (l:List I8) (f:I8) (kind:Int) (i:Nat):i6 (l++[f]) kind i=if f.kind=kind∧f.mv=(i:Int) then i6 l kind i++[f.grams] else i6 l kind i:=by
 rw [a6u];split<;>simp
theorem S6 {α:Type} {l:List α} {k:Nat} {x:α} (h:l[k]? =some x):l.take (k+1)=l.take k++[x]:=by rw [List.take_add_one,h];rfl
def kn3 (t:f5) (kind:Int) (k i:Nat):List T:=knA t.ev i++I1 (i6 t.finds kind i)::[ti (m8 (t.cleans.take k) kind i)]
theorem b7h (t:f5) (kind:Int) (k i:Nat):m8 (t.cleans.take k) kind i<=t.cleans.length:=Nat.le_trans (List.length_filter_le _ _) (by simp;omega)
theorem b6d {t:f5} {kind:Int} {n:Nat}:(List.range n).map (kn3 t kind t.cleans.length)=(List.range n).map (T9 t kind):=List.map_congr_left fun i _=>by
 unfold kn3;rw [lg4 (Nat.le_refl _)];rfl
theorem b2u {t:f5} {kind:Int} {n k:Nat} {c:R9} (h:t.cleans[k]? =some c) (hk:c.kind≠kind):(List.range n).map (kn3 t kind (k+1))=(List.range n).map (kn3 t kind k):=List.map_congr_left fun i _=>by
 unfold kn3
 rw [S6 h,a0k,if_neg (fun h=>hk h.1)];rfl
theorem b5d {t:f5} {kind:Int} {n k m:Nat} {c:R9} (hm:m<n) (h:t.cleans[k]? =some c) (hk:c.kind=kind) (hmv:c.mv=m):
 (toC ((List.range n).map (kn3 t kind k))).set m ((knA t.ev m++I1 (i6 t.finds kind m)::[ti ((m8 (t.cleans.take k) kind m:Int)+1)]).map C.t)=toC ((List.range n).map (kn3 t kind (k+1))):=by
 have key:∀i,i<n->i≠m->kn3 t kind (k+1) i=kn3 t kind k i:=fun i _ hi=>by
  unfold kn3
  rw [S6 h,a0k,if_neg (fun h=>hi (by omega))];rfl
 have own:kn3 t kind (k+1) m=knA t.ev m++I1 (i6 t.finds kind m)::[ti ((m8 (t.cleans.take k) kind m:Int)+1)]:=by
  unfold kn3
  rw [S6 h,a0k,if_pos ⟨hk,hmv⟩];rfl
 rw [← own]
 unfold toC
 rw [← List.map_set]
 congr 1
 apply List.ext_getElem?
 intro i
 simp only [List.getElem?_set,List.getElem?_map,List.length_map,List.length_range]
 by_cases hi:m=i
 ·subst hi;simp [hm]
 ·rw [if_neg hi]
  by_cases hin:i<n
  ·rw [List.getElem?_range hin]
   show some _=some _
   rw [key i hin (fun h=>hi h.symm)]
  ·rw [List.getElem?_eq_none (by simp;omega)];rfl
theorem b3I {l:List Int} {x:Int}:List.take l.length (toC (l.map e7))++toC [[ti x]]=toC ((l++[x]).map e7):=by
 rw [lg4 (by simp [toC])]
 simp [toC,e7]
set_option maxHeartbeats 4000000 in
theorem b64 (t:f5) (kind:Int) (hs:t.Sized) (h0:B7 t.ev=0) (hf:∀f ∈ t.finds,0<=f.mv∧f.mv<t.ev.moves.length) (hc:∀c ∈ t.cleans,0<=c.mv∧c.mv<t.ev.moves.length):
 a9 Tryz.prog 67 [trS t,a7 .i64 kind] [] (.c (.t (a26 t kind))) []:=by
 obtain ⟨b1,b2,b3,b4⟩:=X9 h0
 have l1:=hs.f
 have l2:=hs.c
 have m0:(t.ev.moves.map x8.row).length=t.ev.moves.length:=by simp
 have m1:(t.finds.map I8.row).length=t.finds.length:=by simp
 have m2:(t.cleans.map R9.row).length=t.cleans.length:=by simp
 have s3:=hs.ev.s3
 have s4:=hs.ev.s4
 (refine ac Tryz.func67 ?_;(conv=>whnf);repeat ((first|refine b0x ?_|refine zy ?_);conv=>whnf))
 repeat' (first|refine zz ?_|refine a3y (by omega) (by omega) (by omega) (by decide) ?_|refine zd ?_ ?_<;>intro h<;>try omega|refine zy ?_|fail)<;>conv=>whnf
 refine d7 c8 (fun k=>([J,a7 .i64 kind,S.c (C.t (T.ptr (trT t))),J,J,S.c (C.ptr 0 0 0),S.c (C.own 1 0 t.ev.moves.length true),J,J,J,J,J,J,J,J,J,J,J,J,J,S.c (C.t (a1v t.ev.moves)),a7 .i64 t.ev.moves.length,a7 .i64 k,J,J,J,J,J,J,J,J,J,J,J,J,J,J,J,J,J,J,J,J,J,J,J,J,J,J,J,J,J,J,J,J,J,J,J,J,J,J,J,J,J,J,J,J,J,J,J,J,J,J,J,J,J,J,J,J,J,J,J,J,J,J,J,J,J,J,J,J,J,J,J,J,J,J,J,J,J,J,J,J],[evB t.ev,knB ((List.range t.ev.moves.length).map (kn1 t.ev k))])) t.ev.moves.length (fun _=>True) [some 0,some 1] trivial ?_ ?_
 ·refine ⟨rfl,rfl,⟨⟨rfl,rfl,rfl,.inl ⟨rfl,l9 _⟩⟩,⟨rfl,rfl,rfl,.inr ?_⟩,trivial⟩,⟨rfl,rfl,⟨rfl,rfl,rfl⟩,⟨rfl,rfl,?_,fun h=>h⟩,rfl,c6 (by simp),rfl,trivial⟩⟩
  ·have e9:((((t.ev.moves.map x8.row).length:Nat):Int)).toNat=t.ev.moves.length:=by omega
   rw [← e9]
   exact b20
  ·omega
 intro k hk _
 by_cases hlt:k<t.ev.moves.length
 ·obtain ⟨x,hx⟩:∃x,t.ev.moves[k]? =some x:=⟨_,lg0 hlt⟩
  have iv:=aP4 t.ev.certs t.ev.recalls (by omega) (by omega) x.scale x.reading x.day
  have eK:0+(k:Int).toNat=k:=by omega
  have hk0:(List.range t.ev.moves.length)[0+(k:Int).toNat]? =some k:=by rw [eK,List.getElem?_range hlt]
  have gs:∀c,((knB ((List.range t.ev.moves.length).map (kn1 t.ev k))).rows.set (0+(k:Int).toNat) c)[0+(k:Int).toNat]? =some c:=fun c=>by
   rw [List.getElem?_set_self]
   show _<(toC _).length
   simp [toC];omega
  by_cases hsc:x.scale=-1
  ·have hn:a1I t.ev k=none:=by rw [av5 hx];unfold E4;rw [if_pos hsc]
   have e1:=ar7 (n:=t.ev.moves.length) hn
   conv=>whnf
   repeat' (first|refine zz ?_|refine b9 hx ?_|refine zd ?_ ?_<;>intro h<;>try omega|refine zy ?_|fail)<;>conv=>whnf
   all_goals try omega
   refine ⟨hlt,trivial,[some 0,some 1],rfl,rfl,⟨⟨rfl,rfl,rfl,.inl ⟨rfl,l9 _⟩⟩,a8 rfl rfl rfl ?_ rfl,trivial⟩,⟨rfl,rfl,⟨rfl,rfl,rfl⟩,⟨rfl,rfl,rfl,fun h=>h⟩,rfl,rfl,rfl,trivial⟩⟩
   rw [e1]
  ·have hiv:a1I t.ev k=H4 t.ev.certs t.ev.recalls x.scale x.reading x.day:=by rw [av5 hx];unfold E4;rw [if_neg hsc]
   rw [← hiv] at iv
   cases hi:a1I t.ev k with
   |none=>
    rw [hi] at iv
    have er:(kn1 t.ev (k+1) k).map C.t=frC E5++[C.t (tb false),C.t (.sl 0 .nil []),C.t (ti 0)]:=by rw [aC0 hi];simp [kn1]
    conv=>whnf
    repeat' (first|refine zz ?_|refine qp iv ?_|refine qp (2,3,18) ?_|refine b9 hx ?_|refine n7 hk0 ?_|refine ⟨_,gs _,?_⟩|refine bl0 [2,3,18] ?_|refine zd ?_ ?_<;>intro h<;>try omega|refine zy ?_|fail)<;>conv=>whnf
    all_goals try omega
    refine ⟨hlt,trivial,[some 0,some 1],rfl,rfl,⟨⟨rfl,rfl,rfl,.inl ⟨rfl,l9 _⟩⟩,a8 rfl rfl rfl ?_ rfl,trivial⟩,⟨rfl,rfl,⟨rfl,rfl,rfl⟩,⟨rfl,rfl,rfl,fun h=>h⟩,rfl,rfl,rfl,trivial⟩⟩
    have e2:=aY2 (e:=t.ev) hlt
    rw [er] at e2
    rw [← e2]
    show ((toC _).set (0+(k:Int).toNat) _).set (0+(k:Int).toNat) _=_
    rw [List.set_set,eK]
    rfl
   |some p=>
    obtain ⟨lo,hi'⟩:=p
    rw [hi] at iv
    have er:(kn1 t.ev (k+1) k).map C.t=frC (fz hi')++[C.t (tb true),C.t (.sl 0 .nil []),C.t (ti 0)]:=by simp [kn1,hi,hiF]
    conv=>whnf
    repeat' (first|refine zz ?_|refine qp iv ?_|refine qp (2,3,18) ?_|refine b9 hx ?_|refine n7 hk0 ?_|refine ⟨_,gs _,?_⟩|refine bl0 [2,3,18] ?_|refine zd ?_ ?_<;>intro h<;>try omega|refine zy ?_|fail)<;>conv=>whnf
    all_goals try omega
    refine ⟨hlt,trivial,[some 0,some 1],rfl,rfl,⟨⟨rfl,rfl,rfl,.inl ⟨rfl,l9 _⟩⟩,a8 rfl rfl rfl ?_ rfl,trivial⟩,⟨rfl,rfl,⟨rfl,rfl,rfl⟩,⟨rfl,rfl,rfl,fun h=>h⟩,rfl,rfl,rfl,trivial⟩⟩
    have e2:=aY2 (e:=t.ev) hlt
    rw [er] at e2
    rw [← e2]
    show ((toC _).set (0+(k:Int).toNat) _).set (0+(k:Int).toNat) _=_
    rw [List.set_set,eK]
    rfl
 ·conv=>whnf
  repeat' (first|refine zz ?_|refine zd ?_ ?_<;>intro h<;>try omega|refine zy ?_|fail)<;>conv=>whnf
  all_goals try omega
  have e0:D6 t kind 0=fun _=>[]:=by funext i;simp [D6,i6]
  refine d7 c8 (fun k=>([J,a7 .i64 kind,S.c (C.t (T.ptr (trT t))),J,J,J,S.c (C.own 0 0 t.ev.moves.length true),J,J,J,J,J,J,J,J,J,J,J,J,J,J,J,J,J,J,J,J,J,J,J,J,J,J,J,J,J,J,J,J,J,J,J,J,J,J,J,J,J,J,J,J,J,J,J,J,S.c (C.t (ab2 t.finds)),a7 .i64 t.finds.length,a7 .i64 k,J,J,J,J,J,J,J,J,J,J,J,J,J,J,J,J,J,J,J,J,J,J,J,J,J,J,J,J,J,J,J,J,J,J,J,J,J,J,J,J,J,J,J,J,J],Y7 119 7 t.ev.moves.length (knA t.ev) (D6 t kind k) (fun _=>[ti 0]))) t.finds.length (fun _=>True) (aM4 1 t.ev.moves.length) trivial ?_ ?_
  ·have hke:k=t.ev.moves.length:=by omega
   subst hke
   refine (?_:Ent 0 (aM4 1 t.ev.moves.length) _ _ _ (Y7 119 7 t.ev.moves.length (knA t.ev) (D6 t kind 0) (fun _=>[ti 0])))
   rw [e0]
   refine b6q (k0:=knB ((List.range t.ev.moves.length).map (kn1 t.ev t.ev.moves.length))) (s:=0) rfl ⟨rfl,rfl,rfl,rfl⟩ ?_ ?_
   ·show toC _=_
    unfold toC
    rw [List.map_map]
    refine List.map_congr_left fun i hi=>?_
    have:=List.mem_range.1 hi
    simp [kn1,knA,this]
   ·exact ⟨rfl,rfl,⟨rfl,rfl,rfl,fun h=>h⟩,g7 rfl,c6 (by simp),rfl,trivial⟩
  intro j hj _
  by_cases hjt:j<t.finds.length
  ·obtain ⟨f,hfj⟩:∃f,t.finds[j]? =some f:=⟨_,lg0 hjt⟩
   obtain ⟨f1,f2⟩:=hf f (lg2 hfj)
   obtain ⟨m,hm⟩:∃m:Nat,f.mv=m:=⟨f.mv.toNat,by omega⟩
   have hmn:m<t.ev.moves.length:=by omega
   have eM:0+f.mv.toNat=m:=by omega
   have rL:(List.range t.ev.moves.length).length=t.ev.moves.length:=by simp
   have rG:(List.range t.ev.moves.length)[m]? =some m:=List.getElem?_range hmn
   have gR:(a2x t.ev.moves.length (knA t.ev) (D6 t kind j) (fun _=>[ti 0]))[0+f.mv.toNat]? =some (aw5 (knA t.ev) (D6 t kind j) (fun _=>[ti 0]) (m+1) m):=by rw [eM];exact a2F hmn
   have gl:(D6 t kind j m).length<=t.finds.length:=by
    unfold D6 i6
    rw [List.length_map]
    exact Nat.le_trans (List.length_filter_le _ _) (by simp;omega)
   have hbox:∀(fB:Nat->Blk) (dead nb fb:Blk),(((((List.range t.ev.moves.length).map fB++[fb]).set m dead)++[nb])[t.ev.moves.length]?)=some fb:=fun fB dead nb fb=>by
    rw [List.getElem?_append_left (by simp),List.getElem?_set,if_neg (by omega),List.getElem?_append_right (by simp)]
    simp
   have hnew:∀(fB:Nat->Blk) (dead nb fb:Blk),(((((List.range t.ev.moves.length).map fB++[fb]).set m dead)++[nb])[t.ev.moves.length+1]?)=some nb:=fun fB dead nb fb=>by
    rw [List.getElem?_append_right (by simp)]
    simp
   have hold:∀(fB:Nat->Blk) (dead nb fb:Blk) (p:Nat),p<t.ev.moves.length->p≠m->(((((List.range t.ev.moves.length).map fB++[fb]).set m dead)++[nb])[p]?)=some (fB p):=fun fB dead nb fb p hp hpm=>by
    rw [List.getElem?_append_left (by simp;omega),List.getElem?_set,if_neg (by omega),List.getElem?_append_left (by simpa using hp),List.getElem?_map,List.getElem?_range hp];rfl
   by_cases hkd:f.kind=kind
   ·conv=>whnf
    repeat' (first|refine zz ?_|refine qp toC ?_|refine qp toC ?_|refine qp (0,1,2) ?_|refine b9 hfj ?_|refine j4 rL ?_|refine a4v rL ?_|refine F6 ?_|refine a3a ?_|refine ⟨_,gR,?_⟩|refine a8N (hbox _ _ _ _) ?_|refine V9 rG ?_|refine aG4 rG ?_|refine C7 rL ?_|refine g9 rL ?_|refine a6S rL ?_|refine i5 rL ?_|refine ao2 ?_|refine o6 (by simp [toC]) (by simp [toC];omega) ?_|refine bl0 [0,1,2] ?_|refine zd ?_ ?_<;>intro h<;>try omega|refine zy ?_|fail)<;>conv=>whnf
    all_goals try omega
    refine ⟨hjt,trivial,a7W t.ev.moves.length m (t.ev.moves.length+2),?_⟩
    refine (?_:Ent 0 (a7W t.ev.moves.length m (t.ev.moves.length+2)) _ _ _ (Y7 119 7 t.ev.moves.length (knA t.ev) (D6 t kind (j+1)) (fun _=>[ti 0])))
    have eg:D6 t kind (j+1)=a4x (D6 t kind j) m (D6 t kind j m++[f.grams]):=by
     funext i
     unfold D6 a4x
     rw [S6 hfj,a6P]
     by_cases hi:i=m
     ·subst hi;rw [if_pos ⟨hkd,hm⟩,if_pos rfl]
     ·rw [if_neg (fun h=>hi (by omega)),if_neg hi]
    rw [eg]
    refine b2K hmn (by omega) rfl ⟨rfl,rfl,rfl,rfl⟩ ?_ ?_ ?_ ?_
    ·show (a2x _ _ _ _).set (0+f.mv.toNat) _=_
     rw [eM,List.length_append]
     rfl
    ·intro p hp hpm
     exact hold _ _ _ _ p hp hpm
    ·refine (hnew _ _ _ _).trans ?_
     show some (Blk.mk .live _ 1 (List.take _ (toC ((D6 t kind j m).map e7))++toC [[ti f.grams]]) false false)=_
     rw [b3I]
    ·exact ⟨rfl,rfl,⟨by rw [W5 (by omega)];rfl,rfl,rfl,fun h=>h⟩,rfl,rfl,rfl,trivial⟩
   ·conv=>whnf
    repeat' (first|refine zz ?_|refine b9 hfj ?_|refine j4 rL ?_|refine a4v rL ?_|refine F6 ?_|refine a3a ?_|refine C7 rL ?_|refine g9 rL ?_|refine a6S rL ?_|refine i5 rL ?_|refine zd ?_ ?_<;>intro h<;>try omega|refine zy ?_|fail)<;>conv=>whnf
    all_goals try omega
    refine ⟨hjt,trivial,idR (t.ev.moves.length+1),?_⟩
    refine (?_:Ent 0 (idR (t.ev.moves.length+1)) _ (Y7 119 7 t.ev.moves.length (knA t.ev) (D6 t kind j) (fun _=>[ti 0])++_) _ (Y7 119 7 t.ev.moves.length (knA t.ev) (D6 t kind (j+1)) (fun _=>[ti 0])))
    have eg:D6 t kind (j+1)=D6 t kind j:=by
     funext i
     unfold D6
     rw [S6 hfj,a6P,if_neg (fun h=>hkd h.1)]
    rw [eg]
    exact b12 ⟨rfl,rfl,⟨k9 (by omega),rfl,rfl,fun h=>h⟩,rfl,rfl,rfl,trivial⟩
  ·have hje:j=t.finds.length:=by omega
   subst hje
   have rL:(List.range t.ev.moves.length).length=t.ev.moves.length:=by simp
   conv=>whnf
   repeat' (first|refine zz ?_|refine F6 ?_|refine a3a ?_|refine a4v rL ?_|refine zd ?_ ?_<;>intro h<;>try omega|refine zy ?_|fail)<;>conv=>whnf
   all_goals try omega
   have eg:D6 t kind t.finds.length=i6 t.finds kind:=by funext i;unfold D6;rw [lg4 (Nat.le_refl _)]
   rw [eg]
   refine d7 c8 (fun k=>([J,a7 .i64 kind,J,J,J,J,S.c (C.own 0 0 t.ev.moves.length true),J,J,J,J,J,J,J,J,J,J,J,J,J,J,J,J,J,J,J,J,J,J,J,J,J,J,J,J,J,J,J,J,J,J,J,J,J,J,J,J,J,J,J,J,J,J,J,J,J,J,J,J,J,J,J,J,J,J,J,J,J,J,J,J,J,J,J,J,J,J,J,J,J,J,J,S.c (C.t (a1N t.cleans)),a7 .i64 t.cleans.length,a7 .i64 k,J,J,J,J,J,J,J,J,J,J,J,J,J,J,J,J,J,J],[knB ((List.range t.ev.moves.length).map (kn3 t kind k))])) t.cleans.length (fun _=>True) [some 0] trivial ?_ ?_
   ·exact b4w (g:=i6 t.finds kind) ⟨rfl,⟨rfl,rfl,rfl,fun h=>h⟩,g7 rfl,c6 (by simp),rfl,trivial⟩
   intro q hq _
   by_cases hqt:q<t.cleans.length
   ·obtain ⟨c,hcq⟩:∃c,t.cleans[q]? =some c:=⟨_,lg0 hqt⟩
    obtain ⟨g1,g2⟩:=hc c (lg2 hcq)
    obtain ⟨m,hm⟩:∃m:Nat,c.mv=m:=⟨c.mv.toNat,by omega⟩
    have hmn:m<t.ev.moves.length:=by omega
    have eM:0+c.mv.toNat=m:=by omega
    have hk0:(List.range t.ev.moves.length)[0+c.mv.toNat]? =some m:=by rw [eM];exact List.getElem?_range hmn
    have cb:=b7h t kind q m
    by_cases hkd:c.kind=kind
    ·conv=>whnf
     repeat' (first|refine zz ?_|refine b9 hcq ?_|refine n7 hk0 ?_|refine zd ?_ ?_<;>intro h<;>try omega|refine zy ?_|fail)<;>conv=>whnf
     all_goals try omega
     refine ⟨hqt,trivial,[some 0],rfl,rfl,⟨a8 rfl rfl rfl ?_ rfl,trivial⟩,⟨rfl,⟨rfl,rfl,rfl,fun h=>h⟩,rfl,rfl,rfl,trivial⟩⟩
     show (toC _).set (0+c.mv.toNat) _=_
     rw [eM,←b5d hmn hcq hkd hm]
     rfl
    ·have e3:=b2u (t:=t) (kind:=kind) (n:=t.ev.moves.length) hcq hkd
     conv=>whnf
     repeat' (first|refine zz ?_|refine b9 hcq ?_|refine n7 hk0 ?_|refine zd ?_ ?_<;>intro h<;>try omega|refine zy ?_|fail)<;>conv=>whnf
     all_goals try omega
     refine ⟨hqt,trivial,[some 0],rfl,rfl,⟨a8 rfl rfl rfl ?_ rfl,trivial⟩,⟨rfl,⟨rfl,rfl,rfl,fun h=>h⟩,rfl,rfl,rfl,trivial⟩⟩
     rw [e3]
   ·have hqe:q=t.cleans.length:=by omega
    subst hqe
    conv=>whnf
    repeat' (first|refine zz ?_|refine zd ?_ ?_<;>intro h<;>try omega|refine zy ?_|fail)<;>conv=>whnf
    all_goals try omega
    rw [b6d]
    exact R8 (k:=knB ((List.range t.ev.moves.length).map (T9 t kind))) rfl (by intro h;cases h) rfl rfl (by simp)
abbrev M4 (l:List (Int × Rat)):Blk:={ mode:=.live,elem:=132,size:=5,rows:=toC (l.map i9),box:=false }
abbrev K8 (l:List C2):Blk:={ mode:=.live,elem:=143,size:=6,rows:=toC (l.map w5),box:=false }
abbrev a2m (n:Int) (id len:Nat):Blk:={ mode:=.live,elem:=70,size:=2,rows:=[[.t (ti n),.own id 0 len true]],box:=true }
abbrev b6I (id len:Nat) (kind:Int):Blk:={ mode:=.live,elem:=143,size:=6,rows:=[.own id 0 len true::.t (ti kind)::frC (fz zR)],box:=true }
abbrev b5T (x:x8):Blk:={ mode:=.live,elem:=79,size:=6,rows:=[x.row.map .t],box:=true }
theorem a3j (x:x8):I2 [x.row.map C.t]:=by simp [I2,x8.row,C.isT]
abbrev b6w:Blk:={ mode:=.live,elem:=143,size:=6,rows:=[.t (a6U [])::.t (ti 0)::frC E5],box:=true }
abbrev b0r (el:TypeId) (size:Nat):Blk:=⟨.dead,el,size,[],false,false⟩
theorem a11 {l:List C2} {w:C2} {n:Nat} (h:n=l.length):List.take n (toC (l.map w5))++toC [w5 w]=toC ((l++[w]).map w5):=by
 rw [lg4 (by simp [toC,h])]
 simp [toC]
set_option maxHeartbeats 4000000 in
theorem b76 (n:Int) (rows:List C2) (hr:rows.length<=1000000) (mv:Nat) (kind:Int) (v:Rat):
 a9 Tryz.prog 128 [a7 .i64 mv,a7 .i64 kind,frS (fz v),.c (.ptr 0 0 0)] [a2m n 1 rows.length,K8 rows] (.tup []) [a2m n 2 (rows.length+1),b0r 143 6,K8 (rows++[n8 mv kind v])]:=by
 have i1:=I3 1 (by decide) (by decide)
 (refine ac Tryz.func128 ?_;(conv=>whnf);repeat ((first|refine b0x ?_|refine zy ?_);conv=>whnf))
 repeat' (first|refine zz ?_|refine qp i1 ?_|refine qp toC ?_|refine qp toC ?_|refine a3L.weak ?_|refine o6 (by simp [toC]) (by simp [toC];omega) ?_|refine zd ?_ ?_<;>intro h<;>try omega|refine zy ?_|fail)<;>conv=>whnf
 refine ⟨⟨[some 0,some 1,some 2],rfl,rfl,⟨⟨rfl,rfl,rfl,.inr ⟨⟨rfl,⟨rfl,rfl,rfl,fun h=>h⟩,trivial⟩,trivial⟩⟩,⟨rfl,rfl,rfl,.inl ⟨rfl,by simp [I2]⟩⟩,a8 rfl rfl rfl ?_ rfl,trivial⟩,trivial⟩⟩
 show List.take rows.length (toC (rows.map w5))++toC [w5 (n8 mv kind v)]=_
 exact a11 rfl
theorem b8c {H:Hp} {id:Nat} {n:Int} {rows:List C2} (hs:H[2]? =some (a2m n id rows.length)) (hid:H[id]? =some (K8 rows)) (hne:id≠2) (hr:rows.length<=1000000) (mv:Nat) (kind:Int) (v:Rat):
 a9 Tryz.prog 128 [a7 .i64 mv,a7 .i64 kind,frS (fz v),.c (.ptr 2 0 0)] H (.tup []) (((H.set 2 (a2m n H.length (rows.length+1))).set id (b0r 143 6))++[K8 (rows++[n8 mv kind v])]):=by
 have h2:2<H.length:=(lg1 hs).1
 have hi:id<H.length:=(lg1 hid).1
 have ex:a3I [2,id] H.length 1=[2,id,H.length]:=by simp [a3I]
 refine X2 [2,id] (b76 n rows hr mv kind v) rfl rfl rfl (by simp;omega) ?_ ?_ (by simp) rfl rfl (by simp) ?_ ?_
 ·intro i k hk
  match i,hk with
  |0,hk=>
   injection hk with hk
   subst hk
   exact ⟨rfl,rfl,by simp [okL,okC],_,hs,⟨rfl,rfl,rfl,rfl,by simp [a7H,a18,X3]⟩⟩
  |1,hk=>
   injection hk with hk
   subst hk
   exact ⟨rfl,rfl,a35 _,_,hid,E9 rfl⟩
 ·intro k hk
  simp at hk
  rcases hk with rfl|rfl|rfl<;>(intro h;cases h)
 ·intro i k hk
  show ∃k',_[(a3I [2,id] H.length 1).getD i 0]? =some k'∧ap9 (a3I [2,id] H.length 1) k k'
  rw [ex]
  match i,hk with
  |0,hk=>
   injection hk with hk
   subst hk
   refine ⟨a2m n H.length (rows.length+1),?_,⟨rfl,rfl,rfl,rfl,by simp [a7H,a18,X3]⟩⟩
   show (_++_)[2]? =_
   rw [List.getElem?_append_left (by simp;omega),List.getElem?_set,if_neg (by omega),List.getElem?_set,if_pos rfl,if_pos h2]
  |1,hk=>
   injection hk with hk
   subst hk
   refine ⟨b0r 143 6,?_,⟨rfl,rfl,rfl,rfl,rfl⟩⟩
   show (_++_)[id]? =_
   rw [List.getElem?_append_left (by simp;omega),List.getElem?_set,if_pos rfl,if_pos (by simp;omega)]
  |2,hk=>
   injection hk with hk
   subst hk
   refine ⟨K8 (rows++[n8 mv kind v]),?_,E9 rfl⟩
   show (_++_)[H.length]? =_
   rw [List.getElem?_append_right (by simp)]
   simp
 ·intro j hj hjn
  simp at hjn
  rw [List.getElem?_append_left (by simp;omega),List.getElem?_set,if_neg (by omega),List.getElem?_set,if_neg (by omega)]
theorem a0X {l:List (Int × Rat)} {w:Int × Rat} {n:Nat} (h:n=l.length):List.take n (toC (l.map i9))++toC [i9 w]=toC ((l++[w]).map i9):=by
 rw [lg4 (by simp [toC,h])]
 simp [toC]
theorem R4 {e:Ev} {p:Int} {k:Nat} {y:x8} (h:e.moves[k]? =some y):i7 e p (k+1)=if y.dst=p then i7 e p k++[((k:Int),((1:Int):Rat))] else if y.src=p then i7 e p k++[((k:Int),((-1:Int):Rat))] else i7 e p k:=by rw [i7,h]
theorem a1Z {e:Ev} {p:Int}:∀k,(i7 e p k).length<=k
 |0=>by simp [i7]
 |k+1=>by
  have ih:=a1Z (e:=e) (p:=p) k
  unfold i7
  cases e.moves[k]? with
  |none=>simp only;omega
  |some y=>
   simp only
   split
   ·simp;omega
   ·split
    ·simp;omega
    ·omega
set_option maxHeartbeats 4000000 in
theorem b56 (e:Ev) (h0:B7 e=0) {i:Nat} {x:x8} (hx:e.moves[i]? =some x):a9 Tryz.prog 129 [evS e,a7 .i64 i] [] (ax5 (t6 e i x)) []:=by
 obtain ⟨b1,b2,b3,b4⟩:=X9 h0
 have hi:i<e.moves.length:=(lg1 hx).1
 have m0:(e.moves.map x8.row).length=e.moves.length:=by simp
 have i0:=I3 0 (by decide) (by decide)
 have i1:=I3 1 (by decide) (by decide)
 have im:=I3 (-1) (by decide) (by decide)
 have tk:(e.moves.map x8.row).take i=(e.moves.take i).map x8.row:=(List.map_take ..).symm
 have tl:(e.moves.take i).length=i:=by simp;omega
 have mt:((e.moves.take i).map x8.row).length=i:=by simp;omega
 cases hal:x.all
 case' false=>have hK:(t6 e i x).kind=0:=by unfold t6;rw [hal];rfl
 case' true=>have hK:(t6 e i x).kind=2:=by unfold t6;rw [hal];rfl
 all_goals
  (refine ac Tryz.func129 ?_;(conv=>whnf);repeat ((first|refine b0x ?_|refine zy ?_);conv=>whnf))
  repeat' (first|refine zz ?_|refine qp i0 ?_|refine b9 hx ?_|refine T0 (by omega) (by omega) (by omega) ?_|refine zd ?_ ?_<;>intro h<;>try omega|refine zy ?_|fail)<;>conv=>whnf
  all_goals first
   |omega
   |(exfalso;simp_all;done)
   |skip
  refine d7 c8 (fun k=>([J,a7 .i64 i,J,J,S.c (C.ptr 0 0 0),S.c (C.ptr 1 0 0),S.c (C.ptr 2 0 0),J,J,J,J,J,J,J,J,J,J,J,J,J,J,J,S.c (C.t (a1v (e.moves.take i))),a7 .i64 i,a7 .i64 k,J,J,J,J,J,J,J,J,J,J,J,J,J,J,J,J,J,J,J,J,J,J,J,J,J,J,J,J,J,J,J,J,J,J,J,J,J,J,J,J],[b6w,b5T x,b6I 3 (i7 e x.src k).length (t6 e i x).kind,M4 (i7 e x.src k)])) i (fun _=>True) [some 0,some 1,some 2,none] trivial ?_ ?_
  ·rw [hK]
   refine ⟨rfl,rfl,⟨⟨rfl,rfl,rfl,.inr ⟨⟨rfl,rfl,rfl,rfl,rfl,rfl,trivial⟩,trivial⟩⟩,⟨rfl,rfl,rfl,.inl ⟨rfl,a3j x⟩⟩,⟨rfl,rfl,rfl,.inr ⟨⟨⟨rfl,rfl,rfl⟩,rfl,rfl,rfl,rfl,rfl,trivial⟩,trivial⟩⟩,⟨rfl,rfl⟩,trivial⟩,⟨rfl,⟨rfl,rfl,rfl⟩,⟨rfl,rfl,rfl⟩,⟨rfl,rfl,rfl⟩,g7 ?_,c6 ?_,rfl,trivial⟩⟩
   ·show T.sl 6 _ (((e.moves.map x8.row).take ((i:Int)).toNat).drop 0)=_
    rw [Int.toNat_natCast,tk];rfl
   ·show ((((e.moves.map x8.row).take ((i:Int)).toNat).drop 0).length:Int)=i
    rw [Int.toNat_natCast,tk,List.drop_zero,mt]
  intro k hk _
  have kl:=a1Z (e:=e) (p:=x.src) k
  by_cases hlt:k<i
  ·obtain ⟨y,hy⟩:∃y,e.moves[k]? =some y:=⟨_,lg0 (by omega)⟩
   have hyt:(e.moves.take i)[k]? =some y:=by rw [List.getElem?_take,if_pos hlt];exact hy
   by_cases c1:y.dst=x.src
   ·have et:i7 e x.src (k+1)=i7 e x.src k++[((k:Int),((1:Int):Rat))]:=by rw [R4 hy,if_pos c1]
    conv=>whnf
    repeat' (first|refine zz ?_|refine qp i1 ?_|refine qp toC ?_|refine qp toC ?_|refine b9 hyt ?_|refine o6 (by simp [toC]) (by simp [toC];omega) ?_|refine zd ?_ ?_<;>intro h<;>try omega|refine zy ?_|fail)<;>conv=>whnf
    all_goals try omega
    refine ⟨hlt,trivial,[some 0,some 1,some 2,some 5],rfl,rfl,⟨⟨rfl,rfl,rfl,.inr ⟨⟨rfl,rfl,rfl,rfl,rfl,rfl,trivial⟩,trivial⟩⟩,⟨rfl,rfl,rfl,.inl ⟨rfl,a3j x⟩⟩,⟨rfl,rfl,rfl,.inr ⟨⟨⟨rfl,rfl,?_,fun h=>h⟩,rfl,rfl,rfl,rfl,rfl,trivial⟩,trivial⟩⟩,a8 rfl rfl rfl ?_ rfl,trivial⟩,⟨rfl,⟨rfl,rfl,rfl⟩,⟨rfl,rfl,rfl⟩,⟨rfl,rfl,rfl⟩,rfl,rfl,rfl,trivial⟩⟩
    ·rw [et,List.length_append];rfl
    ·rw [et]
     show List.take (i7 e x.src k).length (toC ((i7 e x.src k).map i9))++toC [i9 ((k:Int),((1:Int):Rat))]=_
     exact a0X rfl
   ·by_cases c2:y.src=x.src
    ·have et:i7 e x.src (k+1)=i7 e x.src k++[((k:Int),((-1:Int):Rat))]:=by rw [R4 hy,if_neg c1,if_pos c2]
     conv=>whnf
     repeat' (first|refine zz ?_|refine qp im ?_|refine qp toC ?_|refine qp toC ?_|refine b9 hyt ?_|refine o6 (by simp [toC]) (by simp [toC];omega) ?_|refine zd ?_ ?_<;>intro h<;>try omega|refine zy ?_|fail)<;>conv=>whnf
     all_goals try omega
     refine ⟨hlt,trivial,[some 0,some 1,some 2,some 5],rfl,rfl,⟨⟨rfl,rfl,rfl,.inr ⟨⟨rfl,rfl,rfl,rfl,rfl,rfl,trivial⟩,trivial⟩⟩,⟨rfl,rfl,rfl,.inl ⟨rfl,a3j x⟩⟩,⟨rfl,rfl,rfl,.inr ⟨⟨⟨rfl,rfl,?_,fun h=>h⟩,rfl,rfl,rfl,rfl,rfl,trivial⟩,trivial⟩⟩,a8 rfl rfl rfl ?_ rfl,trivial⟩,⟨rfl,⟨rfl,rfl,rfl⟩,⟨rfl,rfl,rfl⟩,⟨rfl,rfl,rfl⟩,rfl,rfl,rfl,trivial⟩⟩
     ·rw [et,List.length_append];rfl
     ·rw [et]
      show List.take (i7 e x.src k).length (toC ((i7 e x.src k).map i9))++toC [i9 ((k:Int),((-1:Int):Rat))]=_
      exact a0X rfl
    ·have et:i7 e x.src (k+1)=i7 e x.src k:=by rw [R4 hy,if_neg c1,if_neg c2]
     conv=>whnf
     repeat' (first|refine zz ?_|refine b9 hyt ?_|refine zd ?_ ?_<;>intro h<;>try omega|refine zy ?_|fail)<;>conv=>whnf
     all_goals try omega
     refine ⟨hlt,trivial,[some 0,some 1,some 2,some 3],rfl,rfl,⟨⟨rfl,rfl,rfl,.inr ⟨⟨rfl,rfl,rfl,rfl,rfl,rfl,trivial⟩,trivial⟩⟩,⟨rfl,rfl,rfl,.inl ⟨rfl,a3j x⟩⟩,⟨rfl,rfl,rfl,.inr ⟨⟨⟨rfl,rfl,?_,fun h=>h⟩,rfl,rfl,rfl,rfl,rfl,trivial⟩,trivial⟩⟩,a8 rfl rfl rfl ?_ rfl,trivial⟩,⟨rfl,⟨rfl,rfl,rfl⟩,⟨rfl,rfl,rfl⟩,⟨rfl,rfl,rfl⟩,rfl,rfl,rfl,trivial⟩⟩
     ·rw [et]
     ·rw [et]
  ·have hke:k=i:=by omega
   subst hke
   conv=>whnf
   repeat' (first|refine zz ?_|refine qp im ?_|refine qp toC ?_|refine qp toC ?_|refine o6 (by simp [toC]) (by simp [toC];omega) ?_|refine zd ?_ ?_<;>intro h<;>try omega|refine zy ?_|fail)<;>conv=>whnf
   all_goals try omega
   refine j2 ⟨show VC _ (fun id=>F3 [] id=true) _ _ from s8 rfl rfl (by intro h;cases h) rfl (rows:=(i7 e x.src k++[((k:Int),((-1:Int):Rat))]).map i9) ?_ ?_,rfl,rfl,rfl,rfl,rfl,trivial⟩
   ·show List.take (i7 e x.src k).length (toC ((i7 e x.src k).map i9))++toC [i9 ((k:Int),((-1:Int):Rat))]=_
    exact a0X rfl
   ·rw [List.length_map,List.length_append];rfl
theorem a7P {e:Ev}:∀{l:List R9},K9 e l=0->∀c ∈ l,0<=c.mv∧c.mv<e.moves.length
 |[],_,c,hc=>by cases hc
 |g::r,h,c,hc=>by
  unfold K9 at h
  by_cases h1:a0N e g.mv g.kind≠0
  ·rw [if_pos h1] at h;exact absurd h h1
  rw [if_neg h1] at h
  rcases List.mem_cons.1 hc with rfl|hc
  ·unfold a0N at h1
   by_cases h3:c.mv<0∨(e.moves.length:Int)<=c.mv
   ·rw [if_pos h3] at h1;exact absurd (by decide) h1
   omega
  ·exact a7P h c hc
def hiR (o:Option (Rat × Rat)):Rat:=match o with
 |some (_,hi)=>hi
 |none=>0
theorem a9O {e:Ev} {x:x8} (h:(E4 e x).isSome=true):hiF (E4 e x)=fz (hiR (E4 e x))∧rl (hiR (E4 e x))<=200:=by
 cases hiv:E4 e x with
 |none=>rw [hiv] at h;cases h
 |some p=>
  obtain ⟨lo,hi⟩:=p
  refine ⟨rfl,?_⟩
  show rl hi<=200
  unfold E4 at hiv
  by_cases hs:x.scale=-1
  ·rw [if_pos hs] at hiv;cases hiv
  ·rw [if_neg hs] at hiv
   have:=(aA0 hiv).2
   omega
theorem a0n {H:Hp} {id len:Nat} {n:Int} {rows:List C2} {rs:List (List C)} {f:Fr} {v:Rat} (hf:f=fz v) (hs:H[2]? =some (a2m n id len)) (hid:H[id]? =some { mode:=.live,elem:=143,size:=6,rows:=rs,box:=false })
 (hlen:len=rows.length) (hrs:rs=toC (rows.map w5)) (hne:id≠2) (hr:rows.length<=1000000) (mv:Nat) (kind:Int):
 a9 Tryz.prog 128 [a7 .i64 mv,a7 .i64 kind,frS f,.c (.ptr 2 0 0)] H (.tup []) (((H.set 2 (a2m n H.length (rows.length+1))).set id (b0r 143 6))++[K8 (rows++[n8 mv kind v])]):=by
 subst hf;subst hlen;subst hrs;exact b8c hs hid hne hr mv kind v
theorem a8V {t:f5} {kind:Int} {k:Nat} (hk:k<=200) (hf:t.finds.length<=20) (hc:t.cleans.length<=50):(o4 t kind k).length<=14400:=by
 have h1:=Q0 (t:=t) (kind:=kind) k
 have h2:=Nat.mul_le_mul hk (show 2+t.finds.length+t.cleans.length<=72 by omega)
 omega
abbrev at1 (t:f5) (kind:Int) (i:Nat):Blk:={ mode:=.live,elem:=119,size:=7,rows:=[(T9 t kind i).map .t],box:=true }
theorem R5 {ρ:List (Option Nat)} {H:Hp}:∀rows:List (List T),a3V ρ H (rows.map (·.map C.t)) (rows.map (·.map C.t))
 |[]=>trivial
 |r::rs=>⟨L6 r,R5 rs⟩
abbrev a67:FuncId:=128
abbrev a1s:Blk:={ mode:=.live,elem:=70,size:=2,rows:=[[.t (ti 0),.t (E1 [])]],box:=true }
theorem b1g {P:Program} {f:FuncId} {args:List S} {H H1 H':Hp} {r s:S} (h:a9 P f args H r H1) (hf:Fin H.length r H1 s H'):a9 P f args H s H':=by
 refine ⟨h.1,fun w ι M vals hl hr hH hM hF=>?_⟩
 refine Calls.mono (h.2 w ι M vals hl hr hH hM hF) ?_
 rintro e w' ⟨v,rfl,ι',M',h4,hH',hM',hF',hst⟩
 obtain ⟨ρ,f1,f2,f3,f4⟩:=hf
 obtain ⟨g1,g2,g3⟩:=a3q.all f1 f2 f3 rfl hM hH' hst
 exact ⟨v,rfl,O2 ρ ι',_,f4.rs hH' h4,g1,fun b hb=>hM' b hb.1,g2,g3⟩
set_option maxHeartbeats 4000000 in
theorem b1b (t:f5) (kind:Int) (hs:t.Sized) (h1:¬(u0 t≠0∨kind<0∨8<=kind)):a9 Tryz.prog 60 [trS t,a7 .i64 kind] [] (.tup [.agg [.t (ti t.ev.moves.length),.own 0 0 (P3 t kind).rows.length true],a7 .i64 0]) [K8 (P3 t kind).rows]:=by
 have ck:=aw9 t hs
 have m2:(t.ev.moves.map x8.row).length=t.ev.moves.length:=by simp
 obtain ⟨k1,k2,k3⟩:u0 t=0∧0<=kind∧kind<8:=by omega
 rw [k1] at ck
 obtain ⟨q1,q2,q3,q4,q5⟩:=p6 k1
 obtain ⟨b1,b2,b3,b4⟩:=X9 q1
 have kn:=b64 t kind hs q1 (fun f hf=>by have:=B9 q4 f hf;omega) (fun c hc=>a7P q5 c hc)
 (refine ac Tryz.func60 ?_;(conv=>whnf);repeat ((first|refine b0x ?_|refine zy ?_);conv=>whnf))
 repeat' (first|refine zz ?_|refine qp ck ?_|refine qp kn ?_|refine zd ?_ ?_<;>intro h<;>try omega|refine zy ?_|fail)<;>conv=>whnf
 all_goals try omega
 refine d7 c8 (fun k=>([J,J,J,J,S.c (C.ptr 0 0 0),J,S.c (C.ptr 1 0 0),S.c (C.ptr 2 0 0),S.c (C.fn (Fn.func a67) [C.ptr 2 0 0]),J,J,J,J,J,J,J,J,J,J,J,J,J,J,J,J,J,J,J,J,J,J,J,J,J,S.c (C.t (a26 t kind)),a7 .i64 t.ev.moves.length,a7 .i64 k,J,J,J,J,J,J,J,J,J,J,J,J,J,J,J,J,J,J,J,J,J,J,J,J,J,J,J,J,J,J,J,J,J,J,J,J,J,J,J,J,J,J,J,J,J,J,J],[a1s,evB t.ev,a2m t.ev.moves.length 3 (o4 t kind k).length,K8 (o4 t kind k)])) t.ev.moves.length (fun _=>True) [some 0,some 1,some 2,none] trivial ?_ ?_
 ·refine ⟨rfl,rfl,⟨⟨rfl,rfl,rfl,.inr ⟨⟨rfl,rfl,trivial⟩,trivial⟩⟩,⟨rfl,rfl,rfl,.inl ⟨rfl,l9 _⟩⟩,⟨rfl,rfl,rfl,.inr ⟨⟨?_,⟨rfl,rfl,rfl⟩,trivial⟩,trivial⟩⟩,⟨rfl,rfl⟩,trivial⟩,⟨⟨rfl,rfl,rfl⟩,⟨rfl,rfl,rfl⟩,⟨rfl,rfl,rfl⟩,⟨rfl,⟨rfl,rfl,rfl⟩,trivial⟩,rfl,c6 (by simp),rfl,trivial⟩⟩
  exact a8D (by rw [m2])
 intro k hk _
 by_cases hlt:k<t.ev.moves.length
 ·obtain ⟨x,hx⟩:∃x,t.ev.moves[k]? =some x:=⟨_,lg0 hlt⟩
  have bn:=b8P t.ev q1 hx
  have st:=b56 t.ev q1 hx
  have gk:(List.range t.ev.moves.length)[k]? =some k:=List.getElem?_range hlt
  have iv:a1I t.ev k=E4 t.ev x:=av5 hx
  have rl0:=a8V (t:=t) (kind:=kind) (k:=k) (by omega) q2 q3
  have gl:(i6 t.finds kind k).length<=20:=by unfold i6;rw [List.length_map];exact Nat.le_trans (List.length_filter_le _ _) q2
  have cl:m8 t.cleans kind k<=50:=Nat.le_trans (List.length_filter_le _ _) q3
  have i0:=I3 0 (by decide) (by decide)
  obtain ⟨R1,hR1⟩:∃R1:List C2,R1=o4 t kind k++(if u4 t.ev x.src=0 then [] else [t6 t.ev k x])++N6 (E4 t.ev x) k:=⟨_,rfl⟩
  have l5:(o4 t kind k).length+1=(o4 t kind k++[t6 t.ev k x]).length:=by simp
  have r5:List.take (o4 t kind k).length (toC ((o4 t kind k).map w5))++toC [w5 (t6 t.ev k x)]=toC ((o4 t kind k++[t6 t.ev k x]).map w5):=a11 rfl
  have b5:(o4 t kind k++[t6 t.ev k x]).length<=1000000:=by simp;omega
  have b3:(o4 t kind k).length<=1000000:=by omega
  obtain ⟨G,hG⟩:∃G:Nat->List C2,∀j,G j=R1++((i6 t.finds kind k).take j).map (fun g:Int=>n8 k 0 (g:Rat)):=⟨_,fun _=>rfl⟩
  obtain ⟨K,hK⟩:∃K:Nat->List C2,∀j,K j=(R1++(i6 t.finds kind k).map (fun g:Int=>n8 k 0 (g:Rat)))++List.replicate j (n8 k 2 ((0:Int):Rat)):=⟨_,fun _=>rfl⟩
  have hG0:G 0=R1:=by rw [hG];simp
  have hK0:K 0=R1++(i6 t.finds kind k).map (fun g:Int=>n8 k 0 (g:Rat)):=by rw [hK];simp
  have hKe:o4 t kind (k+1)=K (m8 t.cleans kind k):=by
   rw [hK,hR1]
   show (match t.ev.moves[k]? with|none=>o4 t kind k|some x=>o4 t kind k++M9 t kind k x)=_
   rw [hx]
   unfold M9
   simp [List.append_assoc]
  have hKs:toC ((K (m8 t.cleans kind k)).map w5)=toC ((o4 t kind (k+1)).map w5)∧(K (m8 t.cleans kind k)).length=(o4 t kind (k+1)).length:=by rw [hKe];exact ⟨rfl,rfl⟩
  have hgr:∀g ∈ i6 t.finds kind k,1<=g∧g<=1099511627776:=fun g hg=>by
   unfold i6 at hg
   obtain ⟨f,hf,rfl⟩:=List.mem_map.1 hg
   have:=B9 q4 f (List.mem_filter.1 hf).1
   omega
  have hcr:N6 (E4 t.ev x) k=if (E4 t.ev x).isSome then [n8 k 1 (hiR (E4 t.ev x))] else []:=by cases E4 t.ev x<;>rfl
  cases hc:(E4 t.ev x).isSome<;>cases hb:decide (u4 t.ev x.src=0)<;>rw [hb] at bn
  ·have hci:(a1I t.ev k).isSome=false:=by rw [iv];exact hc
   rw [hc] at hcr
   have hcr:N6 (E4 t.ev x) k=[]:=hcr
   have eR:R1=o4 t kind k++[t6 t.ev k x]:=by rw [hR1,hcr];simp only [decide_eq_false_iff_not,decide_eq_true_eq] at hb;simp [hb,List.append_assoc]
   have hRl:R1.length<=14500:=by rw [eR];(try simp);omega
   conv=>whnf
   repeat' (first|refine zz ?_|refine qp bn ?_|refine qp st ?_|refine qp toC ?_|refine qp toC ?_|refine b9 gk ?_|refine o6 (by simp [toC]) (by simp [toC];omega) ?_|refine zd ?_ ?_<;>intro h<;>try omega|refine zy ?_|fail)<;>conv=>whnf
   all_goals try omega
   all_goals try (rw [hci] at h;exact absurd h (by decide))
   refine d7 c8 (fun j=>([J,J,J,J,S.c (C.ptr 0 0 0),J,S.c (C.ptr 1 0 0),S.c (C.ptr 2 0 0),S.c (C.fn (Fn.func a67) [C.ptr 2 0 0]),a7 .i64 k,S.c (C.ptr 4 0 0),J,J,J,J,J,J,J,J,J,J,J,J,J,J,J,J,J,J,J,J,J,J,J,S.c (C.t (a26 t kind)),a7 .i64 t.ev.moves.length,a7 .i64 k,J,J,J,J,J,J,J,J,J,J,J,J,J,J,J,J,J,J,J,J,J,J,J,J,S.c (C.t (I1 (i6 t.finds kind k))),a7 .i64 (i6 t.finds kind k).length,a7 .i64 j,J,J,J,J,J,J,J,J,J,J,J,J,J,J,J,J,J,J,J,J],[a1s,evB t.ev,a2m t.ev.moves.length 3 (G j).length,K8 (G j),at1 t kind k])) (i6 t.finds kind k).length (fun _=>True) [some 0,some 1,some 2,some 5,some 4] trivial ⟨rfl,rfl,⟨⟨rfl,rfl,rfl,.inr ⟨⟨rfl,rfl,trivial⟩,trivial⟩⟩,⟨rfl,rfl,rfl,.inl ⟨rfl,l9 _⟩⟩,⟨rfl,rfl,rfl,.inr ⟨⟨rfl,⟨rfl,rfl,?_,fun h=>h⟩,trivial⟩,trivial⟩⟩,a8 rfl rfl rfl ?_ rfl,⟨rfl,rfl,rfl,.inr (R5 [T9 t kind k])⟩,trivial⟩,⟨⟨rfl,rfl,rfl⟩,⟨rfl,rfl,rfl⟩,⟨rfl,rfl,rfl⟩,⟨rfl,⟨rfl,rfl,rfl⟩,trivial⟩,rfl,⟨rfl,rfl,rfl⟩,rfl,rfl,rfl,rfl,c6 (by simp),rfl,trivial⟩⟩ ?_
   ·simp [hG0,eR,toC]
   ·rw [hG0,eR];exact r5
   intro j hj _
   have hGl:(G j).length<=1000000:=by rw [hG];simp [List.length_append];omega
   by_cases hjt:j<(i6 t.finds kind k).length
   ·obtain ⟨g,hg⟩:∃g,(i6 t.finds kind k)[j]? =some g:=⟨_,lg0 hjt⟩
    have gb:=hgr g (lg2 hg)
    have ig:=I3 g (by omega) (by omega)
    have eG:G (j+1)=G j++[n8 k 0 (g:Rat)]:=by rw [hG,hG,List.take_add_one,hg];simp
    conv=>whnf
    repeat' (first|refine zz ?_|refine qp ig ?_|refine b9 hg ?_|refine .inr ⟨_,_,a0n (id:=3) rfl rfl rfl rfl rfl (by decide) hGl _ _,?_⟩|refine zd ?_ ?_<;>intro h<;>try omega|refine zy ?_|fail)<;>conv=>whnf
    all_goals try omega
    refine ⟨hjt,trivial,[some 0,some 1,some 2,some 5,some 4],rfl,rfl,⟨⟨rfl,rfl,rfl,.inr ⟨⟨rfl,rfl,trivial⟩,trivial⟩⟩,⟨rfl,rfl,rfl,.inl ⟨rfl,l9 _⟩⟩,⟨rfl,rfl,rfl,.inr ⟨⟨rfl,⟨rfl,rfl,?_,fun h=>h⟩,trivial⟩,trivial⟩⟩,a8 rfl rfl rfl ?_ rfl,⟨rfl,rfl,rfl,.inr (R5 [T9 t kind k])⟩,trivial⟩,⟨⟨rfl,rfl,rfl⟩,⟨rfl,rfl,rfl⟩,⟨rfl,rfl,rfl⟩,⟨rfl,⟨rfl,rfl,rfl⟩,trivial⟩,rfl,⟨rfl,rfl,rfl⟩,rfl,rfl,rfl,rfl,rfl,rfl,trivial⟩⟩
    ·rw [eG];simp
    ·rw [eG]
   have hje:j=(i6 t.finds kind k).length:=by omega
   subst hje
   have hGe:G (i6 t.finds kind k).length=R1++(i6 t.finds kind k).map (fun g:Int=>n8 k 0 (g:Rat)):=by rw [hG,lg4 (Nat.le_refl _)]
   conv=>whnf
   repeat' (first|refine zz ?_|refine zd ?_ ?_<;>intro h<;>try omega|refine zy ?_|fail)<;>conv=>whnf
   all_goals try omega
   refine d7 c8 (fun j=>([J,J,J,J,S.c (C.ptr 0 0 0),J,S.c (C.ptr 1 0 0),S.c (C.ptr 2 0 0),S.c (C.fn (Fn.func a67) [C.ptr 2 0 0]),a7 .i64 k,J,J,J,J,J,J,J,J,J,J,J,J,J,J,J,J,J,J,J,J,J,J,J,J,S.c (C.t (a26 t kind)),a7 .i64 t.ev.moves.length,a7 .i64 k,J,J,J,J,J,J,J,J,J,J,J,J,J,J,J,J,J,J,J,J,J,J,J,J,J,J,J,J,J,J,J,J,J,J,J,J,J,a7 .i64 (m8 t.cleans kind k),a7 .i64 j,J,J,J,J,J,J,J,J],[a1s,evB t.ev,a2m t.ev.moves.length 3 (K j).length,K8 (K j)])) (m8 t.cleans kind k) (fun _=>True) [some 0,some 1,some 2,some 3] trivial ⟨rfl,rfl,⟨⟨rfl,rfl,rfl,.inr ⟨⟨rfl,rfl,trivial⟩,trivial⟩⟩,⟨rfl,rfl,rfl,.inl ⟨rfl,l9 _⟩⟩,⟨rfl,rfl,rfl,.inr ⟨⟨rfl,⟨rfl,rfl,?_,fun h=>h⟩,trivial⟩,trivial⟩⟩,a8 rfl rfl rfl ?_ rfl,trivial⟩,⟨⟨rfl,rfl,rfl⟩,⟨rfl,rfl,rfl⟩,⟨rfl,rfl,rfl⟩,⟨rfl,⟨rfl,rfl,rfl⟩,trivial⟩,rfl,rfl,rfl,rfl,rfl,rfl,trivial⟩⟩ ?_
   ·rw [hK0,hGe]
   ·rw [hK0,hGe]
   clear hj hjt
   intro j hj _
   have hKl:(K j).length<=1000000:=by rw [hK];simp [List.length_append];omega
   by_cases hjt:j<m8 t.cleans kind k
   ·have eK:K (j+1)=K j++[n8 k 2 ((0:Int):Rat)]:=by rw [hK,hK,List.replicate_succ'];simp
    conv=>whnf
    repeat' (first|refine zz ?_|refine qp i0 ?_|refine .inr ⟨_,_,a0n (id:=3) rfl rfl rfl rfl rfl (by decide) hKl _ _,?_⟩|refine zd ?_ ?_<;>intro h<;>try omega|refine zy ?_|fail)<;>conv=>whnf
    all_goals try omega
    refine ⟨hjt,trivial,[some 0,some 1,some 2,some 4],rfl,rfl,⟨⟨rfl,rfl,rfl,.inr ⟨⟨rfl,rfl,trivial⟩,trivial⟩⟩,⟨rfl,rfl,rfl,.inl ⟨rfl,l9 _⟩⟩,⟨rfl,rfl,rfl,.inr ⟨⟨rfl,⟨rfl,rfl,?_,fun h=>h⟩,trivial⟩,trivial⟩⟩,a8 rfl rfl rfl ?_ rfl,trivial⟩,⟨⟨rfl,rfl,rfl⟩,⟨rfl,rfl,rfl⟩,⟨rfl,rfl,rfl⟩,⟨rfl,⟨rfl,rfl,rfl⟩,trivial⟩,rfl,rfl,rfl,rfl,rfl,rfl,trivial⟩⟩
    ·rw [eK];simp
    ·rw [eK]
   have hje:j=m8 t.cleans kind k:=by omega
   subst hje
   conv=>whnf
   repeat' (first|refine zz ?_|refine zd ?_ ?_<;>intro h<;>try omega|refine zy ?_|fail)<;>conv=>whnf
   all_goals try omega
   exact ⟨hlt,trivial,[some 0,some 1,some 2,some 3],rfl,rfl,⟨⟨rfl,rfl,rfl,.inr ⟨⟨rfl,rfl,trivial⟩,trivial⟩⟩,⟨rfl,rfl,rfl,.inl ⟨rfl,l9 _⟩⟩,⟨rfl,rfl,rfl,.inr ⟨⟨rfl,⟨rfl,rfl,hKs.2,fun h=>h⟩,trivial⟩,trivial⟩⟩,a8 rfl rfl rfl hKs.1 rfl,trivial⟩,⟨⟨rfl,rfl,rfl⟩,⟨rfl,rfl,rfl⟩,⟨rfl,rfl,rfl⟩,⟨rfl,⟨rfl,rfl,rfl⟩,trivial⟩,rfl,rfl,rfl,trivial⟩⟩
  ·have hci:(a1I t.ev k).isSome=false:=by rw [iv];exact hc
   rw [hc] at hcr
   have hcr:N6 (E4 t.ev x) k=[]:=hcr
   have eR:R1=o4 t kind k:=by rw [hR1,hcr];simp only [decide_eq_false_iff_not,decide_eq_true_eq] at hb;simp [hb,List.append_assoc]
   have hRl:R1.length<=14500:=by rw [eR];(try simp);omega
   conv=>whnf
   repeat' (first|refine zz ?_|refine qp bn ?_|refine qp st ?_|refine qp toC ?_|refine qp toC ?_|refine b9 gk ?_|refine o6 (by simp [toC]) (by simp [toC];omega) ?_|refine zd ?_ ?_<;>intro h<;>try omega|refine zy ?_|fail)<;>conv=>whnf
   all_goals try omega
   all_goals try (rw [hci] at h;exact absurd h (by decide))
   refine d7 c8 (fun j=>([J,J,J,J,S.c (C.ptr 0 0 0),J,S.c (C.ptr 1 0 0),S.c (C.ptr 2 0 0),S.c (C.fn (Fn.func a67) [C.ptr 2 0 0]),a7 .i64 k,S.c (C.ptr 4 0 0),J,J,J,J,J,J,J,J,J,J,J,J,J,J,J,J,J,J,J,J,J,J,J,S.c (C.t (a26 t kind)),a7 .i64 t.ev.moves.length,a7 .i64 k,J,J,J,J,J,J,J,J,J,J,J,J,J,J,J,J,J,J,J,J,J,J,J,J,S.c (C.t (I1 (i6 t.finds kind k))),a7 .i64 (i6 t.finds kind k).length,a7 .i64 j,J,J,J,J,J,J,J,J,J,J,J,J,J,J,J,J,J,J,J,J],[a1s,evB t.ev,a2m t.ev.moves.length 3 (G j).length,K8 (G j),at1 t kind k])) (i6 t.finds kind k).length (fun _=>True) [some 0,some 1,some 2,some 3,some 4] trivial ⟨rfl,rfl,⟨⟨rfl,rfl,rfl,.inr ⟨⟨rfl,rfl,trivial⟩,trivial⟩⟩,⟨rfl,rfl,rfl,.inl ⟨rfl,l9 _⟩⟩,⟨rfl,rfl,rfl,.inr ⟨⟨rfl,⟨rfl,rfl,?_,fun h=>h⟩,trivial⟩,trivial⟩⟩,a8 rfl rfl rfl ?_ rfl,⟨rfl,rfl,rfl,.inr (R5 [T9 t kind k])⟩,trivial⟩,⟨⟨rfl,rfl,rfl⟩,⟨rfl,rfl,rfl⟩,⟨rfl,rfl,rfl⟩,⟨rfl,⟨rfl,rfl,rfl⟩,trivial⟩,rfl,⟨rfl,rfl,rfl⟩,rfl,rfl,rfl,rfl,c6 (by simp),rfl,trivial⟩⟩ ?_
   ·simp [hG0,eR,toC]
   ·rw [hG0,eR]<;>rfl
   intro j hj _
   have hGl:(G j).length<=1000000:=by rw [hG];simp [List.length_append];omega
   by_cases hjt:j<(i6 t.finds kind k).length
   ·obtain ⟨g,hg⟩:∃g,(i6 t.finds kind k)[j]? =some g:=⟨_,lg0 hjt⟩
    have gb:=hgr g (lg2 hg)
    have ig:=I3 g (by omega) (by omega)
    have eG:G (j+1)=G j++[n8 k 0 (g:Rat)]:=by rw [hG,hG,List.take_add_one,hg];simp
    conv=>whnf
    repeat' (first|refine zz ?_|refine qp ig ?_|refine b9 hg ?_|refine .inr ⟨_,_,a0n (id:=3) rfl rfl rfl rfl rfl (by decide) hGl _ _,?_⟩|refine zd ?_ ?_<;>intro h<;>try omega|refine zy ?_|fail)<;>conv=>whnf
    all_goals try omega
    refine ⟨hjt,trivial,[some 0,some 1,some 2,some 5,some 4],rfl,rfl,⟨⟨rfl,rfl,rfl,.inr ⟨⟨rfl,rfl,trivial⟩,trivial⟩⟩,⟨rfl,rfl,rfl,.inl ⟨rfl,l9 _⟩⟩,⟨rfl,rfl,rfl,.inr ⟨⟨rfl,⟨rfl,rfl,?_,fun h=>h⟩,trivial⟩,trivial⟩⟩,a8 rfl rfl rfl ?_ rfl,⟨rfl,rfl,rfl,.inr (R5 [T9 t kind k])⟩,trivial⟩,⟨⟨rfl,rfl,rfl⟩,⟨rfl,rfl,rfl⟩,⟨rfl,rfl,rfl⟩,⟨rfl,⟨rfl,rfl,rfl⟩,trivial⟩,rfl,⟨rfl,rfl,rfl⟩,rfl,rfl,rfl,rfl,rfl,rfl,trivial⟩⟩
    ·rw [eG];simp
    ·rw [eG]
   have hje:j=(i6 t.finds kind k).length:=by omega
   subst hje
   have hGe:G (i6 t.finds kind k).length=R1++(i6 t.finds kind k).map (fun g:Int=>n8 k 0 (g:Rat)):=by rw [hG,lg4 (Nat.le_refl _)]
   conv=>whnf
   repeat' (first|refine zz ?_|refine zd ?_ ?_<;>intro h<;>try omega|refine zy ?_|fail)<;>conv=>whnf
   all_goals try omega
   refine d7 c8 (fun j=>([J,J,J,J,S.c (C.ptr 0 0 0),J,S.c (C.ptr 1 0 0),S.c (C.ptr 2 0 0),S.c (C.fn (Fn.func a67) [C.ptr 2 0 0]),a7 .i64 k,J,J,J,J,J,J,J,J,J,J,J,J,J,J,J,J,J,J,J,J,J,J,J,J,S.c (C.t (a26 t kind)),a7 .i64 t.ev.moves.length,a7 .i64 k,J,J,J,J,J,J,J,J,J,J,J,J,J,J,J,J,J,J,J,J,J,J,J,J,J,J,J,J,J,J,J,J,J,J,J,J,J,a7 .i64 (m8 t.cleans kind k),a7 .i64 j,J,J,J,J,J,J,J,J],[a1s,evB t.ev,a2m t.ev.moves.length 3 (K j).length,K8 (K j)])) (m8 t.cleans kind k) (fun _=>True) [some 0,some 1,some 2,some 3] trivial ⟨rfl,rfl,⟨⟨rfl,rfl,rfl,.inr ⟨⟨rfl,rfl,trivial⟩,trivial⟩⟩,⟨rfl,rfl,rfl,.inl ⟨rfl,l9 _⟩⟩,⟨rfl,rfl,rfl,.inr ⟨⟨rfl,⟨rfl,rfl,?_,fun h=>h⟩,trivial⟩,trivial⟩⟩,a8 rfl rfl rfl ?_ rfl,trivial⟩,⟨⟨rfl,rfl,rfl⟩,⟨rfl,rfl,rfl⟩,⟨rfl,rfl,rfl⟩,⟨rfl,⟨rfl,rfl,rfl⟩,trivial⟩,rfl,rfl,rfl,rfl,rfl,rfl,trivial⟩⟩ ?_
   ·rw [hK0,hGe]
   ·rw [hK0,hGe]
   clear hj hjt
   intro j hj _
   have hKl:(K j).length<=1000000:=by rw [hK];simp [List.length_append];omega
   by_cases hjt:j<m8 t.cleans kind k
   ·have eK:K (j+1)=K j++[n8 k 2 ((0:Int):Rat)]:=by rw [hK,hK,List.replicate_succ'];simp
    conv=>whnf
    repeat' (first|refine zz ?_|refine qp i0 ?_|refine .inr ⟨_,_,a0n (id:=3) rfl rfl rfl rfl rfl (by decide) hKl _ _,?_⟩|refine zd ?_ ?_<;>intro h<;>try omega|refine zy ?_|fail)<;>conv=>whnf
    all_goals try omega
    refine ⟨hjt,trivial,[some 0,some 1,some 2,some 4],rfl,rfl,⟨⟨rfl,rfl,rfl,.inr ⟨⟨rfl,rfl,trivial⟩,trivial⟩⟩,⟨rfl,rfl,rfl,.inl ⟨rfl,l9 _⟩⟩,⟨rfl,rfl,rfl,.inr ⟨⟨rfl,⟨rfl,rfl,?_,fun h=>h⟩,trivial⟩,trivial⟩⟩,a8 rfl rfl rfl ?_ rfl,trivial⟩,⟨⟨rfl,rfl,rfl⟩,⟨rfl,rfl,rfl⟩,⟨rfl,rfl,rfl⟩,⟨rfl,⟨rfl,rfl,rfl⟩,trivial⟩,rfl,rfl,rfl,rfl,rfl,rfl,trivial⟩⟩
    ·rw [eK];simp
    ·rw [eK]
   have hje:j=m8 t.cleans kind k:=by omega
   subst hje
   conv=>whnf
   repeat' (first|refine zz ?_|refine zd ?_ ?_<;>intro h<;>try omega|refine zy ?_|fail)<;>conv=>whnf
   all_goals try omega
   exact ⟨hlt,trivial,[some 0,some 1,some 2,some 3],rfl,rfl,⟨⟨rfl,rfl,rfl,.inr ⟨⟨rfl,rfl,trivial⟩,trivial⟩⟩,⟨rfl,rfl,rfl,.inl ⟨rfl,l9 _⟩⟩,⟨rfl,rfl,rfl,.inr ⟨⟨rfl,⟨rfl,rfl,hKs.2,fun h=>h⟩,trivial⟩,trivial⟩⟩,a8 rfl rfl rfl hKs.1 rfl,trivial⟩,⟨⟨rfl,rfl,rfl⟩,⟨rfl,rfl,rfl⟩,⟨rfl,rfl,rfl⟩,⟨rfl,⟨rfl,rfl,rfl⟩,trivial⟩,rfl,rfl,rfl,trivial⟩⟩
  ·have hci:(a1I t.ev k).isSome=true:=by rw [iv];exact hc
   rw [hc] at hcr
   have hcr:N6 (E4 t.ev x) k=[n8 k 1 (hiR (E4 t.ev x))]:=hcr
   have eR:R1=(o4 t kind k++[t6 t.ev k x])++[n8 k 1 (hiR (E4 t.ev x))]:=by rw [hR1,hcr];simp only [decide_eq_false_iff_not,decide_eq_true_eq] at hb;simp [hb,List.append_assoc]
   have hRl:R1.length<=14500:=by rw [eR];(try simp);omega
   have hfv:hiF (a1I t.ev k)=fz (hiR (E4 t.ev x)):=by rw [iv];exact (a9O hc).1
   conv=>whnf
   repeat' (first|refine zz ?_|refine qp bn ?_|refine qp st ?_|refine qp toC ?_|refine qp toC ?_|refine b9 gk ?_|refine o6 (by simp [toC]) (by simp [toC];omega) ?_|refine .inr ⟨_,_,a0n (id:=5) hfv rfl rfl l5 r5 (by decide) b5 _ _,?_⟩|refine zd ?_ ?_<;>intro h<;>try omega|refine zy ?_|fail)<;>conv=>whnf
   all_goals try omega
   all_goals try (rw [hci] at h;exact absurd h (by decide))
   refine d7 c8 (fun j=>([J,J,J,J,S.c (C.ptr 0 0 0),J,S.c (C.ptr 1 0 0),S.c (C.ptr 2 0 0),S.c (C.fn (Fn.func a67) [C.ptr 2 0 0]),a7 .i64 k,S.c (C.ptr 4 0 0),J,J,J,J,J,J,J,J,J,J,J,J,J,J,J,J,J,J,J,J,J,J,J,S.c (C.t (a26 t kind)),a7 .i64 t.ev.moves.length,a7 .i64 k,J,J,J,J,J,J,J,J,J,J,J,J,J,J,J,J,J,J,J,J,J,J,J,J,S.c (C.t (I1 (i6 t.finds kind k))),a7 .i64 (i6 t.finds kind k).length,a7 .i64 j,J,J,J,J,J,J,J,J,J,J,J,J,J,J,J,J,J,J,J,J],[a1s,evB t.ev,a2m t.ev.moves.length 3 (G j).length,K8 (G j),at1 t kind k])) (i6 t.finds kind k).length (fun _=>True) [some 0,some 1,some 2,some 6,some 4] trivial ⟨rfl,rfl,⟨⟨rfl,rfl,rfl,.inr ⟨⟨rfl,rfl,trivial⟩,trivial⟩⟩,⟨rfl,rfl,rfl,.inl ⟨rfl,l9 _⟩⟩,⟨rfl,rfl,rfl,.inr ⟨⟨rfl,⟨rfl,rfl,?_,fun h=>h⟩,trivial⟩,trivial⟩⟩,a8 rfl rfl rfl ?_ rfl,⟨rfl,rfl,rfl,.inr (R5 [T9 t kind k])⟩,trivial⟩,⟨⟨rfl,rfl,rfl⟩,⟨rfl,rfl,rfl⟩,⟨rfl,rfl,rfl⟩,⟨rfl,⟨rfl,rfl,rfl⟩,trivial⟩,rfl,⟨rfl,rfl,rfl⟩,rfl,rfl,rfl,rfl,c6 (by simp),rfl,trivial⟩⟩ ?_
   ·simp [hG0,eR,toC]
   ·rw [hG0,eR]<;>rfl
   intro j hj _
   have hGl:(G j).length<=1000000:=by rw [hG];simp [List.length_append];omega
   by_cases hjt:j<(i6 t.finds kind k).length
   ·obtain ⟨g,hg⟩:∃g,(i6 t.finds kind k)[j]? =some g:=⟨_,lg0 hjt⟩
    have gb:=hgr g (lg2 hg)
    have ig:=I3 g (by omega) (by omega)
    have eG:G (j+1)=G j++[n8 k 0 (g:Rat)]:=by rw [hG,hG,List.take_add_one,hg];simp
    conv=>whnf
    repeat' (first|refine zz ?_|refine qp ig ?_|refine b9 hg ?_|refine .inr ⟨_,_,a0n (id:=3) rfl rfl rfl rfl rfl (by decide) hGl _ _,?_⟩|refine zd ?_ ?_<;>intro h<;>try omega|refine zy ?_|fail)<;>conv=>whnf
    all_goals try omega
    refine ⟨hjt,trivial,[some 0,some 1,some 2,some 5,some 4],rfl,rfl,⟨⟨rfl,rfl,rfl,.inr ⟨⟨rfl,rfl,trivial⟩,trivial⟩⟩,⟨rfl,rfl,rfl,.inl ⟨rfl,l9 _⟩⟩,⟨rfl,rfl,rfl,.inr ⟨⟨rfl,⟨rfl,rfl,?_,fun h=>h⟩,trivial⟩,trivial⟩⟩,a8 rfl rfl rfl ?_ rfl,⟨rfl,rfl,rfl,.inr (R5 [T9 t kind k])⟩,trivial⟩,⟨⟨rfl,rfl,rfl⟩,⟨rfl,rfl,rfl⟩,⟨rfl,rfl,rfl⟩,⟨rfl,⟨rfl,rfl,rfl⟩,trivial⟩,rfl,⟨rfl,rfl,rfl⟩,rfl,rfl,rfl,rfl,rfl,rfl,trivial⟩⟩
    ·rw [eG];simp
    ·rw [eG]
   have hje:j=(i6 t.finds kind k).length:=by omega
   subst hje
   have hGe:G (i6 t.finds kind k).length=R1++(i6 t.finds kind k).map (fun g:Int=>n8 k 0 (g:Rat)):=by rw [hG,lg4 (Nat.le_refl _)]
   conv=>whnf
   repeat' (first|refine zz ?_|refine zd ?_ ?_<;>intro h<;>try omega|refine zy ?_|fail)<;>conv=>whnf
   all_goals try omega
   refine d7 c8 (fun j=>([J,J,J,J,S.c (C.ptr 0 0 0),J,S.c (C.ptr 1 0 0),S.c (C.ptr 2 0 0),S.c (C.fn (Fn.func a67) [C.ptr 2 0 0]),a7 .i64 k,J,J,J,J,J,J,J,J,J,J,J,J,J,J,J,J,J,J,J,J,J,J,J,J,S.c (C.t (a26 t kind)),a7 .i64 t.ev.moves.length,a7 .i64 k,J,J,J,J,J,J,J,J,J,J,J,J,J,J,J,J,J,J,J,J,J,J,J,J,J,J,J,J,J,J,J,J,J,J,J,J,J,a7 .i64 (m8 t.cleans kind k),a7 .i64 j,J,J,J,J,J,J,J,J],[a1s,evB t.ev,a2m t.ev.moves.length 3 (K j).length,K8 (K j)])) (m8 t.cleans kind k) (fun _=>True) [some 0,some 1,some 2,some 3] trivial ⟨rfl,rfl,⟨⟨rfl,rfl,rfl,.inr ⟨⟨rfl,rfl,trivial⟩,trivial⟩⟩,⟨rfl,rfl,rfl,.inl ⟨rfl,l9 _⟩⟩,⟨rfl,rfl,rfl,.inr ⟨⟨rfl,⟨rfl,rfl,?_,fun h=>h⟩,trivial⟩,trivial⟩⟩,a8 rfl rfl rfl ?_ rfl,trivial⟩,⟨⟨rfl,rfl,rfl⟩,⟨rfl,rfl,rfl⟩,⟨rfl,rfl,rfl⟩,⟨rfl,⟨rfl,rfl,rfl⟩,trivial⟩,rfl,rfl,rfl,rfl,rfl,rfl,trivial⟩⟩ ?_
   ·rw [hK0,hGe]
   ·rw [hK0,hGe]
   clear hj hjt
   intro j hj _
   have hKl:(K j).length<=1000000:=by rw [hK];simp [List.length_append];omega
   by_cases hjt:j<m8 t.cleans kind k
   ·have eK:K (j+1)=K j++[n8 k 2 ((0:Int):Rat)]:=by rw [hK,hK,List.replicate_succ'];simp
    conv=>whnf
    repeat' (first|refine zz ?_|refine qp i0 ?_|refine .inr ⟨_,_,a0n (id:=3) rfl rfl rfl rfl rfl (by decide) hKl _ _,?_⟩|refine zd ?_ ?_<;>intro h<;>try omega|refine zy ?_|fail)<;>conv=>whnf
    all_goals try omega
    refine ⟨hjt,trivial,[some 0,some 1,some 2,some 4],rfl,rfl,⟨⟨rfl,rfl,rfl,.inr ⟨⟨rfl,rfl,trivial⟩,trivial⟩⟩,⟨rfl,rfl,rfl,.inl ⟨rfl,l9 _⟩⟩,⟨rfl,rfl,rfl,.inr ⟨⟨rfl,⟨rfl,rfl,?_,fun h=>h⟩,trivial⟩,trivial⟩⟩,a8 rfl rfl rfl ?_ rfl,trivial⟩,⟨⟨rfl,rfl,rfl⟩,⟨rfl,rfl,rfl⟩,⟨rfl,rfl,rfl⟩,⟨rfl,⟨rfl,rfl,rfl⟩,trivial⟩,rfl,rfl,rfl,rfl,rfl,rfl,trivial⟩⟩
    ·rw [eK];simp
    ·rw [eK]
   have hje:j=m8 t.cleans kind k:=by omega
   subst hje
   conv=>whnf
   repeat' (first|refine zz ?_|refine zd ?_ ?_<;>intro h<;>try omega|refine zy ?_|fail)<;>conv=>whnf
   all_goals try omega
   exact ⟨hlt,trivial,[some 0,some 1,some 2,some 3],rfl,rfl,⟨⟨rfl,rfl,rfl,.inr ⟨⟨rfl,rfl,trivial⟩,trivial⟩⟩,⟨rfl,rfl,rfl,.inl ⟨rfl,l9 _⟩⟩,⟨rfl,rfl,rfl,.inr ⟨⟨rfl,⟨rfl,rfl,hKs.2,fun h=>h⟩,trivial⟩,trivial⟩⟩,a8 rfl rfl rfl hKs.1 rfl,trivial⟩,⟨⟨rfl,rfl,rfl⟩,⟨rfl,rfl,rfl⟩,⟨rfl,rfl,rfl⟩,⟨rfl,⟨rfl,rfl,rfl⟩,trivial⟩,rfl,rfl,rfl,trivial⟩⟩
  ·have hci:(a1I t.ev k).isSome=true:=by rw [iv];exact hc
   rw [hc] at hcr
   have hcr:N6 (E4 t.ev x) k=[n8 k 1 (hiR (E4 t.ev x))]:=hcr
   have eR:R1=o4 t kind k++[n8 k 1 (hiR (E4 t.ev x))]:=by rw [hR1,hcr];simp only [decide_eq_false_iff_not,decide_eq_true_eq] at hb;simp [hb,List.append_assoc]
   have hRl:R1.length<=14500:=by rw [eR];(try simp);omega
   have hfv:hiF (a1I t.ev k)=fz (hiR (E4 t.ev x)):=by rw [iv];exact (a9O hc).1
   conv=>whnf
   repeat' (first|refine zz ?_|refine qp bn ?_|refine qp st ?_|refine qp toC ?_|refine qp toC ?_|refine b9 gk ?_|refine o6 (by simp [toC]) (by simp [toC];omega) ?_|refine .inr ⟨_,_,a0n (id:=3) hfv rfl rfl rfl rfl (by decide) b3 _ _,?_⟩|refine zd ?_ ?_<;>intro h<;>try omega|refine zy ?_|fail)<;>conv=>whnf
   all_goals try omega
   all_goals try (rw [hci] at h;exact absurd h (by decide))
   refine d7 c8 (fun j=>([J,J,J,J,S.c (C.ptr 0 0 0),J,S.c (C.ptr 1 0 0),S.c (C.ptr 2 0 0),S.c (C.fn (Fn.func a67) [C.ptr 2 0 0]),a7 .i64 k,S.c (C.ptr 4 0 0),J,J,J,J,J,J,J,J,J,J,J,J,J,J,J,J,J,J,J,J,J,J,J,S.c (C.t (a26 t kind)),a7 .i64 t.ev.moves.length,a7 .i64 k,J,J,J,J,J,J,J,J,J,J,J,J,J,J,J,J,J,J,J,J,J,J,J,J,S.c (C.t (I1 (i6 t.finds kind k))),a7 .i64 (i6 t.finds kind k).length,a7 .i64 j,J,J,J,J,J,J,J,J,J,J,J,J,J,J,J,J,J,J,J,J],[a1s,evB t.ev,a2m t.ev.moves.length 3 (G j).length,K8 (G j),at1 t kind k])) (i6 t.finds kind k).length (fun _=>True) [some 0,some 1,some 2,some 5,some 4] trivial ⟨rfl,rfl,⟨⟨rfl,rfl,rfl,.inr ⟨⟨rfl,rfl,trivial⟩,trivial⟩⟩,⟨rfl,rfl,rfl,.inl ⟨rfl,l9 _⟩⟩,⟨rfl,rfl,rfl,.inr ⟨⟨rfl,⟨rfl,rfl,?_,fun h=>h⟩,trivial⟩,trivial⟩⟩,a8 rfl rfl rfl ?_ rfl,⟨rfl,rfl,rfl,.inr (R5 [T9 t kind k])⟩,trivial⟩,⟨⟨rfl,rfl,rfl⟩,⟨rfl,rfl,rfl⟩,⟨rfl,rfl,rfl⟩,⟨rfl,⟨rfl,rfl,rfl⟩,trivial⟩,rfl,⟨rfl,rfl,rfl⟩,rfl,rfl,rfl,rfl,c6 (by simp),rfl,trivial⟩⟩ ?_
   ·simp [hG0,eR,toC]
   ·rw [hG0,eR]<;>rfl
   intro j hj _
   have hGl:(G j).length<=1000000:=by rw [hG];simp [List.length_append];omega
   by_cases hjt:j<(i6 t.finds kind k).length
   ·obtain ⟨g,hg⟩:∃g,(i6 t.finds kind k)[j]? =some g:=⟨_,lg0 hjt⟩
    have gb:=hgr g (lg2 hg)
    have ig:=I3 g (by omega) (by omega)
    have eG:G (j+1)=G j++[n8 k 0 (g:Rat)]:=by rw [hG,hG,List.take_add_one,hg];simp
    conv=>whnf
    repeat' (first|refine zz ?_|refine qp ig ?_|refine b9 hg ?_|refine .inr ⟨_,_,a0n (id:=3) rfl rfl rfl rfl rfl (by decide) hGl _ _,?_⟩|refine zd ?_ ?_<;>intro h<;>try omega|refine zy ?_|fail)<;>conv=>whnf
    all_goals try omega
    refine ⟨hjt,trivial,[some 0,some 1,some 2,some 5,some 4],rfl,rfl,⟨⟨rfl,rfl,rfl,.inr ⟨⟨rfl,rfl,trivial⟩,trivial⟩⟩,⟨rfl,rfl,rfl,.inl ⟨rfl,l9 _⟩⟩,⟨rfl,rfl,rfl,.inr ⟨⟨rfl,⟨rfl,rfl,?_,fun h=>h⟩,trivial⟩,trivial⟩⟩,a8 rfl rfl rfl ?_ rfl,⟨rfl,rfl,rfl,.inr (R5 [T9 t kind k])⟩,trivial⟩,⟨⟨rfl,rfl,rfl⟩,⟨rfl,rfl,rfl⟩,⟨rfl,rfl,rfl⟩,⟨rfl,⟨rfl,rfl,rfl⟩,trivial⟩,rfl,⟨rfl,rfl,rfl⟩,rfl,rfl,rfl,rfl,rfl,rfl,trivial⟩⟩
    ·rw [eG];simp
    ·rw [eG]
   have hje:j=(i6 t.finds kind k).length:=by omega
   subst hje
   have hGe:G (i6 t.finds kind k).length=R1++(i6 t.finds kind k).map (fun g:Int=>n8 k 0 (g:Rat)):=by rw [hG,lg4 (Nat.le_refl _)]
   conv=>whnf
   repeat' (first|refine zz ?_|refine zd ?_ ?_<;>intro h<;>try omega|refine zy ?_|fail)<;>conv=>whnf
   all_goals try omega
   refine d7 c8 (fun j=>([J,J,J,J,S.c (C.ptr 0 0 0),J,S.c (C.ptr 1 0 0),S.c (C.ptr 2 0 0),S.c (C.fn (Fn.func a67) [C.ptr 2 0 0]),a7 .i64 k,J,J,J,J,J,J,J,J,J,J,J,J,J,J,J,J,J,J,J,J,J,J,J,J,S.c (C.t (a26 t kind)),a7 .i64 t.ev.moves.length,a7 .i64 k,J,J,J,J,J,J,J,J,J,J,J,J,J,J,J,J,J,J,J,J,J,J,J,J,J,J,J,J,J,J,J,J,J,J,J,J,J,a7 .i64 (m8 t.cleans kind k),a7 .i64 j,J,J,J,J,J,J,J,J],[a1s,evB t.ev,a2m t.ev.moves.length 3 (K j).length,K8 (K j)])) (m8 t.cleans kind k) (fun _=>True) [some 0,some 1,some 2,some 3] trivial ⟨rfl,rfl,⟨⟨rfl,rfl,rfl,.inr ⟨⟨rfl,rfl,trivial⟩,trivial⟩⟩,⟨rfl,rfl,rfl,.inl ⟨rfl,l9 _⟩⟩,⟨rfl,rfl,rfl,.inr ⟨⟨rfl,⟨rfl,rfl,?_,fun h=>h⟩,trivial⟩,trivial⟩⟩,a8 rfl rfl rfl ?_ rfl,trivial⟩,⟨⟨rfl,rfl,rfl⟩,⟨rfl,rfl,rfl⟩,⟨rfl,rfl,rfl⟩,⟨rfl,⟨rfl,rfl,rfl⟩,trivial⟩,rfl,rfl,rfl,rfl,rfl,rfl,trivial⟩⟩ ?_
   ·rw [hK0,hGe]
   ·rw [hK0,hGe]
   clear hj hjt
   intro j hj _
   have hKl:(K j).length<=1000000:=by rw [hK];simp [List.length_append];omega
   by_cases hjt:j<m8 t.cleans kind k
   ·have eK:K (j+1)=K j++[n8 k 2 ((0:Int):Rat)]:=by rw [hK,hK,List.replicate_succ'];simp
    conv=>whnf
    repeat' (first|refine zz ?_|refine qp i0 ?_|refine .inr ⟨_,_,a0n (id:=3) rfl rfl rfl rfl rfl (by decide) hKl _ _,?_⟩|refine zd ?_ ?_<;>intro h<;>try omega|refine zy ?_|fail)<;>conv=>whnf
    all_goals try omega
    refine ⟨hjt,trivial,[some 0,some 1,some 2,some 4],rfl,rfl,⟨⟨rfl,rfl,rfl,.inr ⟨⟨rfl,rfl,trivial⟩,trivial⟩⟩,⟨rfl,rfl,rfl,.inl ⟨rfl,l9 _⟩⟩,⟨rfl,rfl,rfl,.inr ⟨⟨rfl,⟨rfl,rfl,?_,fun h=>h⟩,trivial⟩,trivial⟩⟩,a8 rfl rfl rfl ?_ rfl,trivial⟩,⟨⟨rfl,rfl,rfl⟩,⟨rfl,rfl,rfl⟩,⟨rfl,rfl,rfl⟩,⟨rfl,⟨rfl,rfl,rfl⟩,trivial⟩,rfl,rfl,rfl,rfl,rfl,rfl,trivial⟩⟩
    ·rw [eK];simp
    ·rw [eK]
   have hje:j=m8 t.cleans kind k:=by omega
   subst hje
   conv=>whnf
   repeat' (first|refine zz ?_|refine zd ?_ ?_<;>intro h<;>try omega|refine zy ?_|fail)<;>conv=>whnf
   all_goals try omega
   exact ⟨hlt,trivial,[some 0,some 1,some 2,some 3],rfl,rfl,⟨⟨rfl,rfl,rfl,.inr ⟨⟨rfl,rfl,trivial⟩,trivial⟩⟩,⟨rfl,rfl,rfl,.inl ⟨rfl,l9 _⟩⟩,⟨rfl,rfl,rfl,.inr ⟨⟨rfl,⟨rfl,rfl,hKs.2,fun h=>h⟩,trivial⟩,trivial⟩⟩,a8 rfl rfl rfl hKs.1 rfl,trivial⟩,⟨⟨rfl,rfl,rfl⟩,⟨rfl,rfl,rfl⟩,⟨rfl,rfl,rfl⟩,⟨rfl,⟨rfl,rfl,rfl⟩,trivial⟩,rfl,rfl,rfl,trivial⟩⟩
 ·have hke:k=t.ev.moves.length:=by omega
  subst hke
  conv=>whnf
  repeat' (first|refine zz ?_|refine zd ?_ ?_<;>intro h<;>try omega|refine zy ?_|fail)<;>conv=>whnf
  all_goals try omega
  exact ⟨[some 3],rfl,rfl,⟨a8 (rows:=(o4 t kind t.ev.moves.length).map w5) rfl rfl rfl rfl rfl,trivial⟩,⟨⟨rfl,⟨rfl,rfl,rfl,fun h=>h⟩,trivial⟩,rfl,trivial⟩⟩
theorem A6 {α:Type} {f:α->List T} {l:List α} {x:α} {n:Nat} (h:n=l.length):List.take n (toC (l.map f))++toC [f x]=toC ((l++[x]).map f):=by
 rw [lg4 (by simp [toC,h])]
 simp [toC]
def Y2 (l:List (Int × Rat)) (f:Rat):List (Int × Rat):=l.map fun t=>(t.1,t.2*f)
theorem a8b (l:List (Int × Rat)) (f:Rat) {k:Nat} {t:Int × Rat} (h:l[k]? =some t):(Y2 l f).take (k+1)=(Y2 l f).take k++[(t.1,t.2*f)]:=by
 rw [List.take_add_one]
 congr 1
 unfold Y2
 rw [List.getElem?_map,h];rfl
theorem a1x (l:List (Int × Rat)) (f:Rat):(Y2 l f).length=l.length:=by simp [Y2]
set_option maxHeartbeats 2000000 in
theorem b4P (l:List (Int × Rat)) (f:Rat) (hf:f≠0) (hr:e8 (-1) 1500 l=true) (hb:∀t ∈ l,rl t.2<=200) (hfb:rl f<=200):
 a9 Tryz.prog 164 [j7 l,frS (fz f)] [] (j7 (Y2 l f)) []:=by
 have hl:=z5 hr
 have m1:(l.map i9).length=l.length:=by simp
 have rt:=J8 l 1500 (by omega) hb
 rw [decide_eq_true (by omega),hr] at rt
 have sg:=Z4 f (by omega)
 have sz:=a2p (x:=f)
 have hs0:sgR f≠0:=fun h=>hf (sz.1 h)
 (refine ac Tryz.func164 ?_;(conv=>whnf);repeat ((first|refine b0x ?_|refine zy ?_);conv=>whnf))
 repeat' (first|refine zz ?_|refine qp rt ?_|refine qp sg ?_|refine zd ?_ ?_<;>intro h<;>try omega|refine zy ?_|fail)<;>conv=>whnf
 all_goals try omega
 all_goals try (exfalso;simp_all;done)
 refine d7 c8 (fun k=>([J,J,J,S.c (C.t (T.ptr (k7 (fz f)))),J,S.c (C.own 0 0 k true),J,J,J,J,J,J,J,J,J,J,J,J,j7 l,a7 .i64 l.length,a7 .i64 k,J,J,J,J,J,J,J,J,J,J,J,J,J,J,J,J,J,J,J],[M4 ((Y2 l f).take k)])) l.length (fun _=>True) [none] trivial
  ⟨rfl,rfl,⟨⟨rfl,rfl⟩,trivial⟩,⟨g7 rfl,⟨rfl,rfl,rfl⟩,g7 rfl,c6 (by omega),c6 rfl,trivial⟩⟩ ?_
 intro k hk _
 by_cases hlt:k<l.length
 ·obtain ⟨t,ht⟩:∃t,l[k]? =some t:=⟨_,lg0 hlt⟩
  have bt:=hb t (lg2 ht)
  have mu:=a75 t.2 f (by omega) (by omega)
  have lk:((Y2 l f).take k).length=k:=by rw [List.length_take,a1x];omega
  have lA:k<=(M4 ((Y2 l f).take k)).rows.length:=by show k<=(toC _).length;simp [toC,a1x];omega
  conv=>whnf
  repeat' (first|refine zz ?_|refine qp mu ?_|refine qp toC ?_|refine qp 6 ?_|refine b9 ht ?_|refine o6 lA (by simp [toC];omega) ?_|refine bl0 [6] ?_|refine zd ?_ ?_<;>intro h<;>try omega|refine zy ?_|fail)<;>conv=>whnf
  all_goals first
   |omega
   |(refine ⟨hlt,trivial,[some 3],rfl,rfl,⟨a8 (rows:=((Y2 l f).take (k+1)).map i9) rfl rfl rfl ?_ rfl,trivial⟩,⟨rfl,⟨rfl,rfl,rfl,fun h=>h⟩,rfl,rfl,c6 (by omega),trivial⟩⟩
     rw [a8b l f ht]
     exact A6 (f:=i9) (x:=(t.1,t.2*f)) lk.symm)
 ·have hke:k=l.length:=by omega
  subst hke
  conv=>whnf
  repeat' (first|refine zz ?_|refine zd ?_ ?_<;>intro h<;>try omega|refine zy ?_|fail)<;>conv=>whnf
  all_goals first
   |omega
   |exact R8 rfl (fun h=>h) rfl (by rw [lg4 (by rw [a1x];exact Nat.le_refl _)]) (by simp [a1x])
theorem a1S {n n':Int} (h:n<=n'):∀{last:Int} {l:List (Int × Rat)},e8 last n l=true->e8 last n' l=true
 |_,[],_=>rfl
 |last,a::r,hr=>by
  unfold e8 at hr ⊢
  simp only [Bool.and_eq_true,decide_eq_true_eq] at hr ⊢
  exact ⟨⟨⟨hr.1.1.1,by omega⟩,hr.1.2⟩,a1S h hr.2⟩
def P6 (l:List (Int × Rat)):List (Int × Rat):=Y2 l ((-1:Int):Rat)
theorem a7J (l:List Fr) (h0:0<l.length) (h1:l.length<=100000):a9 Tryz.prog 205 [i8 l] [] (.c (.own 0 0 l.length true)) [flB l]:=by
 have m1:(l.map k7).length=l.length:=by simp
 have hl:0<(l.map k7).length:=by omega
 (refine ac Tryz.func205 ?_;(conv=>whnf);repeat (refine zy ?_;conv=>whnf))
 repeat' (first|refine zz ?_|refine qp (toC,List.length_map,List.length_nil) ?_|refine qp (toC,List.length_map) ?_|refine ⟨hl,?_⟩|refine zz ?_|refine a6C rfl (by simp only [toC,List.length_map,List.length_nil];omega) ?_|refine o6 (Nat.zero_le _) (by simp only [toC,List.length_map];omega) ?_|refine zd ?_ ?_<;>intro h<;>try omega|refine zy ?_|fail)<;>conv=>whnf
 all_goals first
  |omega
  |exact ⟨[some 0],rfl,rfl,⟨a8 (rows:=l.map k7) rfl rfl rfl rfl rfl,trivial⟩,⟨rfl,rfl,by simp [toC],fun h=>h⟩⟩
def smF (a b:Nat->Rat) (k:Nat):Nat->Rat:=fun j=>if j<k then a j+b j else a j
theorem a5F {P:Program} {g:FuncId} {args:List S} {H:Hp} {b:Blk} {cs:List C} {s2:S} {j lo len:Nat} {app:Bool} (h:a9 P g args [] (.tup [.agg cs,s2]) [b]) (ha:args.all S.isT=true) (hm:b.mode=.live) (hb:I2 b.rows)
 (hf:aB1 (.tup [.agg cs,s2])=true) (hj:cs[j]? =some (.own 0 lo len app)):W6 P g args H (a6H [H.length] (.tup [.agg cs,s2])) [b]:=by
 refine ⟨h.1,fun w ι M vals hl hv hH hM hf0=>?_⟩
 have:=h.2 w (fun _=>none) M vals hl (fun j s hj=>(hv j s hj).tree (List.all_eq_true.1 ha s (lg2 hj)))
  ⟨by simp,by simp,by simp,by simp,by simp⟩ hM (fun _ _=>rfl)
 refine Calls.mono this ?_
 rintro e w' ⟨v,rfl,ι',M',h1,h2,h3,h4,h5⟩
 have hnl:∀x,¬a2V (fun _=>none) ([]:Hp) x:=by rintro x ⟨id,k,_,_,hk,_⟩;simp at hk
 obtain ⟨l,hl0⟩:∃l,ι' 0=some l:=by
  cases h1 with
  |tup vs hl hr=>
   have h0:=hr 0 _ rfl
   generalize vs.getD 0 undef=v0 at h0
   cases h0 with
   |agg us hl hr=>
    have h9:=hr j _ hj
    generalize us.getD j undef=v9 at h9
    cases h9 with
    |own hi=>exact ⟨_,hi⟩
    |nil hi=>exact ⟨_,hi⟩
 have hnew:y4 ι H.length [b].length (fun _=>l) H.length=some l:=by unfold y4;simp
 have hMM:∀x,a4w M [b].length (fun _=>l) x->M' x:=by
  intro x hx
  rcases hx with hx|⟨k,hk,cap,size,he⟩
  ·rcases h5.mold x hx with h|h
   ·exact h
   ·exact absurd h (hnl x)
  ·have he:l=.blk x cap size:=he
   subst he
   exact h2.liv 0 b rfl hm x cap size hl0
 refine ⟨v,rfl,fun _=>l,?_,⟨h5.os,h5.tape,h5.output,h5.size,fun x hx=>h5.keep x hx (hnl x)⟩,?_,?_,?_⟩
 ·refine RS.keep (w:=w') (ι:=y4 ι H.length [b].length (fun _=>l)) (M:=M') (fun _ _ _=>rfl) (fun x hx=>.inl (hMM x hx)) (fun _ _ h=>h) (RS.ren (σ:=[H.length]) (fun id l' hi=>?_) hf h1)
  rcases id with _|id
  ·rw [hl0] at hi;injection hi with hi;subst hi;exact hnew
  ·rw [h4 (id+1) (by simp)] at hi;cases hi
 ·intro k blk hk
  cases k with
  |succ k=>simp at hk
  |zero=>
   simp at hk
   subst hk
   refine ⟨hm,?_⟩
   have hbr:=h2.blk 0 b rfl (by rw [hm];intro h;cases h) l hl0
   cases l with
   |nil=>exact hbr
   |blk x cap size=>
    obtain ⟨r1,r2,r3,r4,r5,cur,r6,r7,r8⟩:=hbr
    refine ⟨r1,r2,r3,r4,r5,cur,r6,r7,fun i j c hc=>?_⟩
    obtain ⟨u,u1,u2⟩:=r8 i j c hc
    exact ⟨u,u1,a8O hMM hb hc u2⟩
 ·intro k x cap size hk he
  have he:l=.blk x cap size:=he
  subst he
  refine ⟨?_,h3 x (h2.liv 0 b rfl hm x cap size hl0)⟩
  rcases h5.live x ⟨0,b,cap,size,rfl,hm,hl0⟩ with h|h
  ·exact absurd h (hnl x)
  ·exact h
 ·intro k k' x cap size cap' size' hk hk' _ _
  simp at hk hk'
  omega
structure b6Y where
 hh:Int
 state:Int
 w:List Rat
 wo:List Rat
 pr:List Rat
def b6Y.row (v:b6Y):List T:=[ti v.hh,ti v.state,C6 (v.w.map fz),C6 (v.wo.map fz),C6 (v.pr.map fz)]
theorem a2U {x:Rat}:sgR x > 0↔0<x:=by unfold sgR;split<;>(try split)<;>simp_all<;>grind
theorem au9 {x:Rat}:sgR x<0↔x<0:=by unfold sgR;split<;>(try split)<;>simp_all
theorem b31 {s:f8} {g:List (Int × Rat)} {n B:Nat} (h:I4 s g n B):∀v ∈ y8 s g,rl v<=17000:=by
 intro v hv
 have hb:=aa9 h
 have hn:=h.nn
 have hB:=h.bb
 obtain ⟨j,hj,rfl⟩:=a4T hv
 have hp:Z7 (f7 s).length s.n.toNat (y3 s g):=R0.p
 rw [hn] at hj hp ⊢
 rw [← aR1 hp hj]
 have key:∀k,k<=(f7 s).length->rl (ptK n (y3 s g).O (y3 s g).V (fun _=>0) k j)<=17000:=by
  intro k
  induction k with
  |zero=>intro _;have:=rl0;show rl 0<=_;omega
  |succ k ih=>
   intro hk
   rw [Q2]
   simp only
   split
   ·have:=hb.v k (by omega);omega
   ·exact ih (by omega)
 exact key _ (Nat.le_refl _)
theorem b7o {s:f8} {g:List (Int × Rat)} {n B:Nat} (h:I4 s g n B) (hout:a0L s g=.best) (hS:∀k,rl (j9 (g.take k) (y8 s g))<=50000) (H:Hp):
 W6 Tryz.prog 130 [Q3 s,j7 g] H (.tup [.agg (C.t (ti 0)::frC (fz (j9 g (y8 s g)))++[.t (C6 ((y8 s g).map fz)),.own H.length 0 s.rows.length true,.t (.sl 0 .nil [])]),a7 .i64 0]) [flB (rF s.rows.length (P5 s (y3 s g)))]:=
 a5F (j:=6) (lo:=0) (len:=s.rows.length) (app:=true) (aq7 s g n B h hout (fun k=>by have:=hS k;omega) (fun v hv=>by have:=b31 h v hv;omega)) rfl rfl (c7 _) rfl rfl
theorem b6r {s:f8} {g:List (Int × Rat)} {n B B0 c:Nat} (h:I4 s g n B) (h0:I4 s [] n B0) (hout:a0L s g=.col c) (hout0:a0L s []=.best) (H:Hp):
 W6 Tryz.prog 130 [Q3 s,j7 g] H (.tup [.agg (C.t (ti 2)::b8m++[.t (C6 ((y8 s []).map fz)),.t (.sl 0 .nil []),.t (C6 ((a57 s g c).map fz))]),a7 .i64 0]) []:=
 z6 (au2 s g n B B0 c h h0 hout hout0) rfl rfl
structure b8J where
 mv:Int
 mat:Int
def b8J.row (p:b8J):List T:=[ti p.mv,ti p.mat]
theorem a5q (l:List Int) (hl:l.length<=1000000):a9 Tryz.prog 246 [d9 l] [] (d9 (F7 l)) []:=by
 have l2:(l.map e7).length=l.length:=by simp
 (refine ac Tryz.func246 ?_;(conv=>whnf);repeat (refine zy ?_;conv=>whnf))
 repeat' (first|refine zz ?_|refine zd ?_ ?_<;>intro h<;>try omega|refine zy ?_|fail)<;>conv=>whnf
 refine k5 c8 (σ:=Nat) (fun n=>([d9 l,J,J,a7 .i64 n,J,J,J,J,J,J,J,J,J,J,J,J,J,J,J,J,J,J,J],[])) (fun n=>n<=l.length∧∀j x,n<=j->l[j]? =some x->x=0) (fun n=>n) l.length []
  ⟨Nat.le_refl _,fun j x hj hx=>by rw [List.getElem?_eq_none hj] at hx;cases hx⟩ ⟨rfl,rfl,trivial,⟨g7 rfl,c6 (by simp),trivial⟩⟩ ?_
 rintro n ⟨hn,hz⟩
 have hn:n<=l.length:=hn
 conv=>whnf
 repeat' (first|refine zz ?_|refine qp toC ?_|refine qp toC ?_|refine a3L.own ?_|refine p9 (by omega) (a1n (by omega) hn) ?_|refine T0 (by omega) (by omega) (by omega) ?_|refine o6 (by simp [toC]) (by simp [toC];omega) ?_|refine zd ?_ ?_<;>intro h<;>try omega|refine zy ?_|fail)<;>conv=>whnf
 ·have h0:dat l (n - 1)=0:=by assumption
  have h1:0<n:=by omega
  refine ⟨[],n - 1,⟨rfl,rfl,trivial,⟨rfl,c6 (by omega),trivial⟩⟩,⟨by omega,fun j x hj hxj=>?_⟩,by show n - 1<n;omega⟩
  by_cases hj2:j=n - 1
  ·subst hj2;rw [s7 (by omega)] at hxj;injection hxj with hx;rw [← hx];exact h0
  ·exact hz j x (by omega) hxj
 all_goals
  have e:l.take n=F7 l:=a33 hz (fun x h0 hx=>by
   first
    |omega
    |(rw [s7 (by omega)] at hx;injection hx with hx;rw [← hx];assumption)) hn
  rw [← e]
  refine R8 rfl (by intro h;cases h) rfl ?_ ?_
  ·simp [toC,E3,List.map_take]
  ·simp [toC]
theorem b73 (s:Int) (l:List Int) (hl:l.length<=1000000):a9 Tryz.prog 183 [a7 .i64 s,d9 l] [] (bgS (sgn s l)) []:=by
 (refine ac Tryz.func183 ?_;(conv=>whnf);repeat (refine zy ?_;conv=>whnf))
 repeat' (first|refine zz ?_|refine qp (a5q l hl) ?_|refine zd ?_ ?_<;>intro h<;>try omega|refine zy ?_|fail)<;>conv=>whnf
 ·have h0:(F7 l).length=0:=by simp at *;assumption
  unfold sgn
  rw [if_pos h0]
  exact j2 ⟨rfl,rfl,trivial⟩
 ·have h0:¬(F7 l).length=0:=by simp at *;assumption
  unfold sgn
  rw [if_neg h0]
  exact j2 ⟨rfl,rfl,trivial⟩
theorem H9 (s:Int) (k:Nat) (h:s=1∨s=-1∨k=0) (lk:(dg k).length<=700000):
 a9 Tryz.prog 183 [a7 .i64 s,d9 (dg k)] [] (bgS (bz (s*k))) []:=by
 have e:=b73 s (dg k) (by omega)
 rw [aL0 (p7 k) (by rw [k6];omega),k6] at e
 exact e
theorem a4J (l:List Int) (i:Nat) (hl:l.length<=1000000):a9 Tryz.prog 247 [d9 l,a7 .i64 i] [] (a7 .i64 (dat l i)) []:=by
 have l2:(l.map e7).length=l.length:=by simp
 (refine ac Tryz.func247 ?_;(conv=>whnf);repeat (refine zy ?_;conv=>whnf))
 repeat' (first|refine zz ?_|refine b9 (s7 (by omega)) ?_|refine zd ?_ ?_<;>intro h<;>try omega|refine zy ?_|fail)<;>conv=>whnf
 all_goals first
  |exact j1 rfl
  |exact j1 (O1 (by omega)).symm
theorem a4R (l:List Int) (i:Nat):val (l.drop i)=dat l i+1048576*val (l.drop (i+1)):=by
 by_cases h:i<l.length
 ·exact a6x h
 ·rw [List.drop_of_length_le (by omega),List.drop_of_length_le (by omega),O1 (by omega)];rfl
theorem ab3 (l:List Int) (i:Nat):val l=val (l.take i)+pw i*val (l.drop i):=by
 by_cases h:i<=l.length
 ·exact a4X l i h
 ·rw [List.drop_of_length_le (by omega),lg4 (by omega)];simp [val]
theorem a6y {l:List Int} (h:Okd l) (i:Nat):0<=val (l.take i)∧val (l.take i)<pw i:=by
 refine ⟨t8 (h.take i),?_⟩
 have h1:=V3 (h.take i)
 have h2:=a0S (i:=(l.take i).length) (j:=i) (by simp;omega)
 omega
theorem aF9 {a b:List Int} (ha:Okd a) (hb:Okd b) {i:Nat} (h:val (a.drop (i+1))=val (b.drop (i+1))) (hd:dat a i<dat b i):val a<val b:=by
 rw [ab3 a i,ab3 b i,a4R a i,a4R b i,h]
 have h1:=a6y ha i
 have h2:=a6y hb i
 have hp:=P2 i
 have h3:=Int.mul_le_mul_of_nonneg_left (a:=dat a i+1048576*val (b.drop (i+1))+1) (b:=dat b i+1048576*val (b.drop (i+1))) (c:=pw i) (by omega) (by omega)
 rw [Int.mul_add _ _ (1:Int)] at h3
 omega
theorem a5e (l:List Int):val (l.drop 0)=val l:=by rw [List.drop_zero]
structure ae1 (a b:List Int) (i:Nat) (out:List Int) (c:Int):Prop where
 len:out.length=i
 ok:Okd out
 le:i<=a.length
 c0:0<=c
 c1:c<=1
 eq:val out - pw i*c=val (a.take i) - val (b.take i)
theorem ae1.init (a b:List Int):ae1 a b 0 [] 0:=⟨rfl,.nil,Nat.zero_le _,by decide,by decide,by simp [val]⟩
theorem ae1.step {a b out:List Int} {i:Nat} {c n c':Int} (h:ae1 a b i out c) (ha:Okd a) (hb:Okd b) (hi:i<a.length) (hn:n=dat a i - dat b i - c+1048576*c') (h0:0<=n∧n<1048576) (hc:0<=c'∧c'<=1):
 ae1 a b (i+1) (out++[n]) c':=by
 refine ⟨by simp [h.len],h.ok.append (Okd.cons h0 .nil),hi,hc.1,hc.2,?_⟩
 rw [K6,h.len,o8,o8,F0]
 have:=h.eq
 simp only [val]
 rw [hn]
 grind
theorem ae1.fin {a b out:List Int} {c:Int} (h:ae1 a b a.length out c) (ha:Okd a) (hb:Okd b) (hl:b.length<=a.length) (hv:val b<=val a):F7 out=dg (val a - val b).toNat:=by
 have h1:=h.eq
 rw [lg4 (Nat.le_refl _),lg4 hl] at h1
 have h2:=V3 h.ok
 rw [h.len] at h2
 have hc:c=0:=by
  have:=h.c0
  have:=h.c1
  rcases Int.lt_or_le 0 c with h3|h3
  ·have:c=1:=by omega
   subst this
   omega
  ·omega
 subst hc
 rw [J3 h.ok]
 congr 2
 simp at h1
 exact h1
structure b5x (a b:List Int) (i k:Nat) (out:List Int) (c:Int):Prop where
 out:(a96 a b i k out c∧k<=b.length)∨(k=b.length+1∧c=0∧a3N a b (i+1) out)
theorem b6s {l:List Int} {i:Nat}:l.set i (dat l i)=l:=by
 by_cases h:i<l.length
 ·apply List.ext_getElem?
  intro j
  by_cases hj:i=j
  ·subst hj;rw [List.getElem?_set_self h];unfold dat;rw [lg3,lg0 h];rfl
  ·rw [List.getElem?_set_ne hj]
 ·rw [List.set_eq_of_length_le (by omega)]
theorem b5x.exit {a b out:List Int} {i k:Nat} {c:Int} (h:b5x a b i k out c) (ha:Okd a) (hb:Okd b) (hi:i<a.length) (hk:b.length<=k) (hc:c<=0):a3N a b (i+1) out:=by
 rcases h.out with ⟨h1,h2⟩|⟨h1,h2,h3⟩
 ·have hk:k=b.length:=by omega
  subst hk
  have hc:c=0:=by have:=h1.c0;omega
  subst hc
  have:=h1.done ha hb hi
  rw [Int.add_zero,b6s] at this
  exact this
 ·exact h3
theorem b2X {r d:Nat} {x:Int} (hx:0<=x∧x<1048576):F7 (x::dg r)=dg (r*1048576+x.toNat):=by
 rw [J3 (Okd.cons hx (p7 r))]
 congr 1
 simp only [val,k6]
 omega
theorem b2s (a b:List Int) (ha:Okd a) (hb:Okd b) (la:a.length<=1000000) (lb:b.length<=1000000):a9 Tryz.prog 186 [d9 a,d9 b] [] (d6 (decide (val a<val b))) []:=by
 have l1:(a.map e7).length=a.length:=by simp
 have l2:(b.map e7).length=b.length:=by simp
 (refine ac Tryz.func186 ?_;(conv=>whnf);repeat (refine zy ?_;conv=>whnf))
 repeat' (first|refine zz ?_|refine qp cond ?_|refine ⟨_,B3 (y:=((max a.length b.length:Nat):Int) - 1) (by simp only [cond];split<;>omega) (by omega) (by omega),?_⟩|refine zd ?_ ?_<;>intro h<;>try omega|refine zy ?_|fail)<;>conv=>whnf
 refine k5 c8 (σ:=Nat) (fun k=>([d9 a,d9 b,J,J,J,a7 .i64 ((k:Int) - 1),J,J,J,J,J,J,J,J,J,J,J,J,J,J,J,J,J,J,J,J,J,J,J,J],[])) (fun k=>k<=1000000∧val (a.drop k)=val (b.drop k)) (fun k=>k) (max a.length b.length) []
  ⟨by omega,by rw [List.drop_of_length_le (by omega),List.drop_of_length_le (by omega)]⟩ ⟨rfl,rfl,trivial,⟨g7 rfl,g7 rfl,rfl,trivial⟩⟩ ?_
 rintro k ⟨hk,hd⟩
 have hk:k<=1000000:=hk
 have hd:val (a.drop k)=val (b.drop k):=hd
 by_cases h0:0<k
 ·obtain ⟨i,rfl⟩:∃i,k=i+1:=⟨k - 1,by omega⟩
  have d1:=a4J a i la
  have d2:=a4J b i lb
  have ei:(((i+1:Nat):Int) - 1)=i:=by omega
  rw [ei]
  conv=>whnf
  repeat' (first|refine zz ?_|refine qp d1 ?_|refine qp d2 ?_|refine zd ?_ ?_<;>intro h<;>try omega|refine zy ?_|fail)<;>conv=>whnf
  ·have h:=aF9 ha hb hd (by assumption)
   exact b7 (by simp [h])
  ·have h:=aF9 hb ha hd.symm (by omega)
   exact b7 (by simp;omega)
  ·have he:dat a i=dat b i:=by omega
   refine ⟨[],i,⟨rfl,rfl,trivial,⟨rfl,rfl,rfl,trivial⟩⟩,⟨by omega,?_⟩,by show i<i+1;omega⟩
   rw [a4R a i,a4R b i,he,hd]
 ·obtain rfl:k=0:=by omega
  rw [a5e,a5e] at hd
  conv=>whnf
  repeat' (first|refine zz ?_|refine zd ?_ ?_<;>intro h<;>try omega|refine zy ?_|fail)<;>conv=>whnf
  all_goals first
   |omega
   |exact b7 (by simp;omega)
theorem b0q (a b:List Int) (ha:Okd a) (hb:Okd b) (la:a.length<=400000) (lb:b.length<=a.length) (hv:val b<=val a):
 a9 Tryz.prog 187 [d9 a,d9 b] [] (d9 (dg (val a - val b).toNat)) []:=by
 have l1:(a.map e7).length=a.length:=by simp
 have l2:(b.map e7).length=b.length:=by simp
 (refine ac Tryz.func187 ?_;(conv=>whnf);repeat (refine zy ?_;conv=>whnf))
 repeat' (first|refine zz ?_|refine zd ?_ ?_<;>intro h<;>try omega|refine zy ?_|fail)<;>conv=>whnf
 refine k5 c8 (σ:=Nat × List Int × Int) (fun|(k,out,c)=>([d9 a,d9 b,J,J,J,a0G 0 out,a7 .i64 c,a7 .i64 k,J,J,J,J,J,J,J,J,J,J,J,J,J,J,J,J,J,J,J,J,J,J,J,J,J,J,J],[o5 out])) (fun x=>ae1 a b x.1 x.2.1 x.2.2) (fun x=>a.length - x.1) (0,[],0) [none]
  (ae1.init a b) ⟨rfl,rfl,⟨⟨rfl,rfl⟩,trivial⟩,⟨g7 rfl,g7 rfl,⟨rfl,rfl,rfl⟩,rfl,rfl,trivial⟩⟩ ?_
 rintro ⟨k,out,c⟩ hI
 have hI:ae1 a b k out c:=hI
 have hlen:=hI.len
 have hle:=hI.le
 have hc0:=hI.c0
 have hc1:=hI.c1
 have hda:=ha.dat k
 have hdb:=hb.dat k
 have d2:=a4J b k (by omega)
 conv=>whnf
 repeat' (first|refine zz ?_|refine qp d2 ?_|refine qp toC ?_|refine qp toC ?_|refine b9 (s7 (by omega)) ?_|refine o6 (by simp [toC]) (by simp [toC];omega) ?_|refine zd ?_ ?_<;>intro h<;>try omega|refine zy ?_|fail)<;>conv=>whnf
 ·have hst:=hI.step ha hb (n:=dat a k - dat b k - c+1048576) (c':=1) (by omega) (by omega) (by omega) (by omega)
  refine ⟨[some 1],(k+1,out++[dat a k - dat b k - c+1048576],1),⟨rfl,rfl,⟨a8 rfl rfl rfl a16 rfl,trivial⟩,⟨rfl,rfl,j8 rfl (by simp [toC]),rfl,c6 (by omega),trivial⟩⟩,hst,?_⟩
  show a.length - (k+1)<a.length - k
  omega
 ·have hst:=hI.step ha hb (n:=dat a k - dat b k - c) (c':=0) (by omega) (by omega) (by omega) (by omega)
  refine ⟨[some 1],(k+1,out++[dat a k - dat b k - c],0),⟨rfl,rfl,⟨a8 rfl rfl rfl a16 rfl,trivial⟩,⟨rfl,rfl,j8 rfl (by simp [toC]),rfl,c6 (by omega),trivial⟩⟩,hst,?_⟩
  show a.length - (k+1)<a.length - k
  omega
 ·have hk:k=a.length:=by omega
  subst hk
  have hf:=hI.fin ha hb lb hv
  have t:=a5q out (by omega)
  rw [hf] at t
  refine .inr ⟨_,_,u7 [0] t ⟨a0I (s8 (by simp) rfl (by intro h;cases h) rfl rfl (by simp)),trivial⟩ rfl,?_⟩
  conv=>whnf
  exact aa1 rfl
theorem b6F {a:Int} (h:0<=a):a.tmod 1048576=a % 1048576:=Int.tmod_eq_emod_of_nonneg h
set_option maxHeartbeats 1000000 in
theorem aX6 (a b:List Int) (ha:Okd a) (hb:Okd b) (la:a.length<=400000) (lb:b.length<=400000):
 a9 Tryz.prog 184 [d9 a,d9 b] [] (d9 (dg (val a*val b).toNat)) []:=by
 have l1:(a.map e7).length=a.length:=by simp
 have l2:(b.map e7).length=b.length:=by simp
 (refine ac Tryz.func184 ?_;(conv=>whnf);repeat (refine zy ?_;conv=>whnf))
 repeat' (first|refine zz ?_|refine a3y (by omega) (by omega) (by omega) (by decide) ?_|refine zd ?_ ?_<;>intro h<;>try omega|refine zy ?_|fail)<;>conv=>whnf
 refine k5 c8 (σ:=Nat × List Int) (fun|(i,out)=>([d9 a,d9 b,J,J,J,a0G 0 out,a7 .i64 i,J,J,J,J,J,J,J,J,J,J,J,J,J,J,J,J,J,J,J,J,J,J,J,J,J,J,J,J,J,J,J,J,J,J,J,J,J,J,J,J,J,J,J,J,J,J,J,J,J,J,J,J,J],[o5 out])) (fun x=>a3N a b x.1 x.2) (fun x=>a.length - x.1) (0,List.replicate (a.length+b.length) 0) [some 0]
  (a3N.init a b) ⟨rfl,rfl,⟨a8 rfl rfl rfl ?_ rfl,trivial⟩,⟨g7 rfl,g7 rfl,j8 rfl (by simp;omega),rfl,trivial⟩⟩ ?_
 ·show List.replicate _ _=_
  rw [show ((((a.map e7).length:Nat):Int)+((b.map e7).length:Nat)).toNat=a.length+b.length by omega]
  simp [toC,e7,C4]
 rintro ⟨i,out⟩ hI
 have hI:a3N a b i out:=hI
 have hlen:=hI.len
 have hle:=hI.le
 conv=>whnf
 repeat' (first|refine zz ?_|refine zd ?_ ?_<;>intro h<;>try omega|refine zy ?_|fail)<;>conv=>whnf
 ·have hi:i<a.length:=by omega
  refine k5 c8 (σ:=Nat × List Int × Int) (fun|(k,out,c)=>([d9 a,d9 b,J,J,J,a0G 0 out,a7 .i64 i,a7 .i64 c,a7 .i64 k,J,J,J,J,J,J,J,J,J,J,J,J,J,J,J,J,J,J,J,J,J,J,J,J,J,J,J,J,J,J,J,J,J,J,J,J,J,J,J,J,J,J,J,J,J,J,J,J,J,J,J],[o5 out])) (fun x=>b5x a b i x.1 x.2.1 x.2.2) (fun x=>b.length+1 - x.1) (0,out,0) [some 0]
   ⟨.inl ⟨hI.start,Nat.zero_le _⟩⟩ ⟨rfl,rfl,⟨a8 rfl rfl rfl rfl rfl,trivial⟩,⟨g7 rfl,g7 rfl,j8 rfl rfl,rfl,rfl,rfl,trivial⟩⟩ ?_
  rintro ⟨k,out,c⟩ hT
  have hT:b5x a b i k out c:=hT
  have hdb:=hb.dat k
  have hda:=ha.dat i
  have hm:=a2W (ha.dat i) (hb.dat k)
  have d2:=a4J b k (by omega)
  have e1:((i:Int)+k).toNat=i+k:=by omega
  rcases hT.out with ⟨hK,hkb⟩|⟨hk1,hc,hM⟩
  ·have hlen:=hK.len
   have hc0:=hK.c0
   have hc1:=hK.c1
   have hdo:=hK.ok.dat (i+k)
   have hz:k=b.length->dat out (i+k)=0∧dat b k=0:=fun h=>⟨hK.zero _ (by omega),O1 (by omega)⟩
   have hzm:k=b.length->dat a i*dat b k=0:=fun h=>by rw [(hz h).2,Int.mul_zero]
   conv=>whnf
   repeat' (first|refine zz ?_|refine qp d2 ?_|refine b9 (s7 (by omega)) ?_|refine a0l (by omega) (by show _<((out.length:Nat):Int);omega) ?_|refine n7 (L9 e1 (by omega)) ?_|refine ⟨by decide,_,b3Y (by omega) (by omega) (by decide),?_⟩|refine ah5 (by decide) ?_|refine zd ?_ ?_<;>intro h<;>try omega|refine zy ?_|fail)<;>conv=>whnf
   all_goals have hn:0<=dat out (i+k)+dat a i*dat b k+c:=by omega
   ·have hst:=hK.step ha hb hi (by omega)
    refine ⟨[some 0],(k+1,out.set (i+k) ((dat out (i+k)+dat a i*dat b k+c) % 1048576),(dat out (i+k)+dat a i*dat b k+c) / 1048576),⟨rfl,rfl,⟨a8 rfl rfl rfl ?_ rfl,trivial⟩,⟨rfl,rfl,j8 rfl (by simp),rfl,rfl,rfl,trivial⟩⟩,⟨.inl ⟨hst,by omega⟩⟩,?_⟩
    ·rw [← b6F hn];exact K2 (by omega)
    ·show b.length+1 - (k+1)<b.length+1 - k;omega
   ·have hkb2:k=b.length:=by omega
    obtain ⟨z1,z2⟩:=hz hkb2
    have z3:=hzm hkb2
    have en:dat out (i+k)+dat a i*dat b k+c=c:=by omega
    have hdone:=hK
    rw [hkb2] at hdone
    have hdone:=hdone.done ha hb hi
    rw [← hkb2] at hdone
    refine ⟨[some 0],(k+1,out.set (i+k) ((dat out (i+k)+dat a i*dat b k+c) % 1048576),(dat out (i+k)+dat a i*dat b k+c) / 1048576),⟨rfl,rfl,⟨a8 rfl rfl rfl ?_ rfl,trivial⟩,⟨rfl,rfl,j8 rfl (by simp),rfl,rfl,rfl,trivial⟩⟩,⟨.inr ⟨by show k+1=b.length+1;omega,by show (dat out (i+k)+dat a i*dat b k+c) / 1048576=0;omega,?_⟩⟩,?_⟩
    ·rw [← b6F hn];exact K2 (by omega)
    ·have e2:(dat out (i+k)+dat a i*dat b k+c) % 1048576=dat out (i+k)+c:=by omega
     rw [e2];exact hdone
    ·show b.length+1 - (k+1)<b.length+1 - k;omega
   ·have hx:=hT.exit ha hb hi (by omega) (by omega)
    exact ⟨[some 0],(i+1,out),⟨rfl,rfl,⟨a8 rfl rfl rfl rfl rfl,trivial⟩,⟨rfl,rfl,j8 rfl rfl,c6 (by omega),trivial⟩⟩,hx,by show a.length - (i+1)<a.length - i;omega⟩
  ·have hlen:=hM.len
   have hx:=hT.exit ha hb hi (by omega) (by omega)
   conv=>whnf
   repeat' (first|refine zz ?_|refine zd ?_ ?_<;>intro h<;>try omega|refine zy ?_|fail)<;>conv=>whnf
   all_goals first
    |omega
    |exact ⟨[some 0],(i+1,out),⟨rfl,rfl,⟨a8 rfl rfl rfl rfl rfl,trivial⟩,⟨rfl,rfl,j8 rfl rfl,c6 (by omega),trivial⟩⟩,hx,by show a.length - (i+1)<a.length - i;omega⟩
 ·have hi:i=a.length:=by omega
  subst hi
  have hf:=hI.fin
  have t:=a5q out (by omega)
  rw [hf] at t
  refine .inr ⟨_,_,u7 [0] t ⟨a0I (s8 (by simp) rfl (by intro h;cases h) rfl rfl (by simp)),trivial⟩ rfl,?_⟩
  conv=>whnf
  exact aa1 rfl
theorem aG3 (m n:Nat) (lm:(dg m).length<=300000) (ln:(dg n).length<=300000):
 a9 Tryz.prog 184 [d9 (dg m),d9 (dg n)] [] (d9 (dg (m*n))) []:=by
 have h:=aX6 (dg m) (dg n) (p7 m) (p7 n) (by omega) (by omega)
 rw [k6,k6,show ((m:Int)*n).toNat=m*n by rw [← Int.natCast_mul];rfl] at h
 exact h
set_option maxHeartbeats 1000000 in
theorem b1J (m n:Nat) (hn:0<n) (lm:(dg m).length<=200000) (ln:(dg n).length<=200000):
 a9 Tryz.prog 244 [d9 (dg m),d9 (dg n)] [] (aK5 m n) []:=by
 have l1:((dg m).map e7).length=(dg m).length:=by simp
 have l2:((dg n).map e7).length=(dg n).length:=by simp
 (refine ac Tryz.func244 ?_;(conv=>whnf);repeat (refine zy ?_;conv=>whnf))
 repeat' (first|refine zz ?_|refine a3y (by omega) (by omega) (by omega) (by decide) ?_|refine zd ?_ ?_<;>intro h<;>try omega|refine zy ?_|fail)<;>conv=>whnf
 refine k5 c8 (σ:=Nat × List Int × Nat) (fun|(j,q,r)=>([d9 (dg m),d9 (dg n),J,J,J,J,a0G 0 q,d9 (dg r),a7 .i64 ((j:Int) - 1),J,J,J,J,J,J,J,J,J,J,J,J,J,J,J,J,J,J,J,J,J,J,J,J,J,J,J,J,J,J,J,J,J,J,J,J,J,J,J,J,J,J,J,J,J,J,J,J,J,J,J],[o5 q])) (fun x=>a06 (dg m) n x.1 x.2.1 x.2.2) (fun x=>x.1) ((dg m).length,List.replicate (dg m).length 0,0) [some 0]
  (a06.init _ (by omega)) ⟨rfl,rfl,⟨a8 rfl rfl rfl ?_ rfl,trivial⟩,⟨g7 rfl,g7 rfl,j8 rfl (by simp),rfl,c6 (by omega),trivial⟩⟩ ?_
 ·show List.replicate _ _=_
  simp [toC,e7,C4]
 rintro ⟨j,q,r⟩ hI
 have hI:a06 (dg m) n j q r:=hI
 have hlen:=hI.len
 have hle:=hI.le
 have hr1:=hI.r1
 by_cases hj:0<j
 ·obtain ⟨i,rfl⟩:∃i,j=i+1:=⟨j - 1,by omega⟩
  have ei:(((i+1:Nat):Int) - 1)=i:=by omega
  have hda:=(p7 m).dat i
  obtain ⟨y,hy⟩:=Int.eq_ofNat_of_zero_le hda.1
  have lr:=m9 (show r<=n by omega)
  have lm2:i<(dg m).length:=by omega
  generalize hR:r*1048576+y=R
  have hRn:R<n*1048576:=by
   have:=Nat.mul_le_mul_right 1048576 (show r+1<=n by omega)
   rw [Nat.add_mul] at this
   omega
  have lR:(dg R).length<=(dg n).length+1:=N1 (by
   have h1:=L3 n
   rw [F0]
   have h2:=Int.mul_le_mul_of_nonneg_right (a:=(n:Int)+1) (b:=pw (dg n).length) (c:=1048576) (by omega) (by decide)
   omega)
  have tr:=a5q (dat (dg m) i::dg r) (by simp;omega)
  rw [b2X (d:=n) hda,hy,Int.toNat_natCast,hR] at tr
  conv=>whnf
  repeat' (first|refine zz ?_|refine qp (toC,E3) ?_|refine qp toC ?_|refine qp 2 ?_|refine qp (toC,E3,e7,hy) ?_|refine qp (toC,Nat.add_comm) ?_|refine a3L.own ?_|refine u5 ei (s7 (by omega)) ?_|refine o6 (by simp [toC,E3]) (by simp [toC];omega) ?_|refine .inr ⟨_,_,u7 [2] tr ⟨a0I (s8 (by simp) rfl (by intro h;cases h) rfl (by simp [toC,E3,e7,hy]) (by simp [toC,Nat.add_comm])),trivial⟩ rfl,?_⟩|refine zd ?_ ?_<;>intro h<;>try omega|refine zy ?_|fail)<;>conv=>whnf
  refine k5 c8 (σ:=Nat × Nat) (fun|(lo,hi)=>([d9 (dg m),d9 (dg n),J,J,J,J,a0G 0 q,d9 (dg R),a7 .i64 i,a7 .i64 lo,a7 .i64 hi,J,J,J,J,J,J,J,J,J,J,J,J,J,J,J,J,J,J,J,J,J,J,J,J,J,J,J,J,J,J,J,J,J,J,J,J,J,J,J,J,J,J,J,J,J,J,J,J,J],[o5 q])) (fun x=>x.1*n<=R∧R<x.2*n∧x.1<x.2∧x.2<=1048576) (fun x=>x.2 - x.1) (0,1048576) [some 0]
   ⟨by simp,by show R<1048576*n;rw [Nat.mul_comm];exact hRn,by decide,by decide⟩ ⟨rfl,rfl,⟨a8 rfl rfl rfl rfl rfl,trivial⟩,⟨rfl,rfl,j8 rfl rfl,rfl,c6 ei,rfl,rfl,trivial⟩⟩ ?_
  rintro ⟨lo,hi⟩ ⟨i1,i2,i3,i4⟩
  have i1:lo*n<=R:=i1
  have i2:R<hi*n:=i2
  have i3:lo<hi:=i3
  have i4:hi<=1048576:=i4
  have ln1:(dg n).length<=200000:=ln
  by_cases hc:1<hi - lo
  ·have hmid:(((lo:Int)+hi) / 2)=(((lo+hi) / 2:Nat):Int):=by omega
   generalize hM:(lo+hi) / 2=mid at hmid
   have tm:=aX6 (dg n) [(mid:Int)] (p7 n) (by intro x hx;simp at hx;omega) (by omega) (by simp)
   have e0:val [(mid:Int)]=mid:=by simp [val]
   rw [e0,k6,show ((n:Int)*mid).toNat=n*mid by rw [← Int.natCast_mul];rfl] at tm
   have lnm:(dg (n*mid)).length<=(dg n).length+1:=Nat.le_trans (a3l _ _) (by have:=o7 (x:=(mid:Int)) (by omega) (by omega);simp only [bl,Int.natAbs_natCast] at this;omega)
   have ls:=b2s (dg R) (dg (n*mid)) (p7 _) (p7 _) (by omega) (by omega)
   rw [k6,k6] at ls
   conv=>whnf
   repeat' (first|refine zz ?_|refine qp ls ?_|refine qp (Int.tdiv_eq_ediv_of_nonneg (by omega)) ?_|refine ⟨by decide,_,B3 (y:=(mid:Int)) (by rw [Int.tdiv_eq_ediv_of_nonneg (by omega)];exact hmid) (by omega) (by omega),?_⟩|refine .inl ⟨_,_,a04 tm ⟨ae2,a0I (aC4 rfl),trivial⟩ rfl,?_⟩|refine zd ?_ ?_<;>intro h<;>try omega|refine zy ?_|fail)<;>conv=>whnf
   ·have hlt:R<n*mid:=Int.ofNat_lt.1 (of_decide_eq_true (by assumption))
    exact ⟨[some 0],(lo,mid),⟨rfl,rfl,⟨a8 rfl rfl rfl rfl rfl,trivial⟩,⟨rfl,rfl,j8 rfl rfl,rfl,rfl,rfl,rfl,trivial⟩⟩,⟨i1,by show R<mid*n;rw [Nat.mul_comm];exact hlt,by show lo<mid;omega,by show mid<=1048576;omega⟩,by show mid - lo<hi - lo;omega⟩
   ·have hlt:n*mid<=R:=Nat.not_lt.1 (fun h=>absurd (Int.ofNat_lt.2 h) (of_decide_eq_false (by assumption)))
    exact ⟨[some 0],(mid,hi),⟨rfl,rfl,⟨a8 rfl rfl rfl rfl rfl,trivial⟩,⟨rfl,rfl,j8 rfl rfl,rfl,rfl,rfl,rfl,trivial⟩⟩,⟨by show mid*n<=R;rw [Nat.mul_comm];exact hlt,i2,by show mid<hi;omega,i4⟩,by show hi - mid<hi - lo;omega⟩
  ·obtain rfl:hi=lo+1:=by omega
   have hq:R / n=lo:=by
    rw [Nat.div_eq_iff hn]
    rw [Nat.add_mul] at i2
    omega
   have hm2:=Nat.div_add_mod R n
   rw [hq] at hm2
   have hrm:=Nat.mod_lt R hn
   have tl:=a5q [(lo:Int)] (by simp)
   rw [J3 (by intro x hx;simp at hx;omega),show (val [(lo:Int)]).toNat=lo by simp [val]] at tl
   have llo:(dg lo).length<=1:=by have:=o7 (x:=(lo:Int)) (by omega) (by omega);simpa [bl] using this
   have tt:=aG3 n lo (by omega) (by omega)
   have mi:=b0q (dg R) (dg (n*lo)) (p7 _) (p7 _) (by omega) (m9 (by omega)) (by rw [k6,k6];omega)
   rw [k6,k6,show ((R:Int) - ((n*lo:Nat):Int)).toNat=R % n by omega] at mi
   have hst:=hI.step (p7 m) (by omega)
   have c1:((r:Int)*1048576+dat (dg m) i)=(R:Int):=by rw [hy,←hR];simp
   rw [c1] at hst
   have c2:(R:Int) / n=(lo:Int):=by rw [← hq];simp
   have c3:(R:Int) % n=((R % n:Nat):Int):=by simp
   rw [c2,c3] at hst
   have gq:q[0+(i:Int).toNat]? =some (dat q i):=L9 (by omega) (by omega)
   conv=>whnf
   repeat' (first|refine zz ?_|refine qp tt ?_|refine qp mi ?_|refine .inl ⟨_,_,a04 tl ⟨a0I (aC4 rfl),trivial⟩ rfl,?_⟩|refine a0l (by omega) (by show _<((q.length:Nat):Int);omega) ?_|refine n7 gq ?_|refine zd ?_ ?_<;>intro h<;>try omega|refine zy ?_|fail)<;>conv=>whnf
   all_goals try omega
   refine ⟨[some 0],(i,q.set i lo,R % n),⟨rfl,rfl,⟨a8 rfl rfl rfl (K2 (by omega)) rfl,trivial⟩,⟨rfl,rfl,j8 rfl (by simp),rfl,c6 (by omega),trivial⟩⟩,hst,by show i<i+1;omega⟩
 ·obtain rfl:j=0:=by omega
  obtain ⟨f1,f2⟩:=hI.fin (p7 m) (by omega)
  have tq:=a5q q (by have:=hI.len;omega)
  rw [f1,k6,show ((m:Int) / n).toNat=m / n by rw [← Int.natCast_ediv];rfl] at tq
  rw [k6] at f2
  have f3:r=m % n:=by
   have:(m:Int) % n=((m % n:Nat):Int):=by simp
   omega
  subst f3
  conv=>whnf
  repeat' (first|refine zz ?_|refine qp 0 ?_|refine .inr ⟨_,_,u7 [0] tq ⟨a0I (s8 (by simp) rfl (by intro h;cases h) rfl rfl (by simp)),trivial⟩ rfl,?_⟩|refine zd ?_ ?_<;>intro h<;>try omega|refine zy ?_|fail)<;>conv=>whnf
  all_goals try omega
  exact j2 ⟨rfl,rfl,trivial⟩
end Go.Proofs.YtdbogogfeffjlaaGreat
