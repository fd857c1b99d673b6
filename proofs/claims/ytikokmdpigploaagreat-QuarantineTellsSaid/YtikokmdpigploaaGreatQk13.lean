/- Part 13. -/
import Derived.Test.YtikokmdpigploaaGreatQk12
namespace Go.Proofs.YtikokmdpigploaaGreat
set_option linter.all false
set_option maxRecDepth 100000
set_option maxHeartbeats 8000000
open Go.RowKit
open St1 St2 St3 St4 St5 St6 St7 St8 StA StB StC
abbrev bG0 (m n j:Nat):Blk:={ mode:=.live,elem:=274,size:=12,rows:=[[C.own 1 0 m true,.own 2 0 m true,.own 3 0 n true,.t (ti (bz 1).sg),.t (w7 (bz 1).dl),.own 4 0 m true,.own (m+9) 0 (j+1) true,.own 6 0 m true,.own 7 0 m true,.own 8 0 m true,.t (ti (bz 1).sg),.t (w7 (bz 1).dl)]],box:=true }
abbrev bG7 (m n j:Nat) (fr:LB) (sc:LI) (V G:Nat->Int) (O:Nat->Nat) (A:Nat->Nat->Int):Hp:=
 bG0 m n j::zlB (zF m V)::hdB 9 m n::zlB (zF n G)::R3 m O::ad2 3 1::o8 (frI fr)::o8 (T3 fr)::zlB sc::((mZ m n A).map zlB++[R3 (j+1) fun j=>j])
def fF (m i:Nat):Nat:=if i=5 then m+9 else i
def b6p {m n j:Nat} {fr:LB} {sc:LI} {V G:Nat->Int} {O:Nat->Nat} {A:Nat->Nat->Int} {env env':Env} {H:Hp} (hH:H=bG7 m n j fr sc V G O A) (hE:Z1 (fR (m+9) (fF m)) H env env'):
 Ent 0 (fR (m+9) (fF m)) env H env' (G7 m n (j+1) fr sc 1 V G O (fun j=>j) A []):=by
 subst hH;have fa:∀i,i≠5->fF m i=i:=fun i hi=>by unfold fF;rw [if_neg hi]
 have ff:∀i,i<m+9->(fR (m+9) (fF m))[i]? =some (some (fF m i)):=fun i hi=>x3 hi
 refine a9A (by simp [e8]) om (fun i hi=>om) (fun i j hi hj h=>by unfold fF at h;(repeat' split at h)<;>omega) ?_ hE;intro i k' hk;rcases i with _|_|_|_|_|_|_|_|_|i
 ·injection hk with hk;subst hk
  exact ⟨_,rfl,rfl,rfl,rfl,.inr ⟨⟨⟨by rw [ff _ om];rfl,rfl,rfl,fun h=>h⟩,⟨by rw [ff _ om];rfl,rfl,rfl,fun h=>h⟩,⟨by rw [ff _ om];rfl,rfl,rfl,fun h=>h⟩,rfl,rfl,⟨by rw [ff _ om];rfl,rfl,rfl,fun h=>h⟩,⟨by rw [ff _ om];rfl,rfl,rfl,fun h=>h⟩,⟨by rw [ff _ om];rfl,rfl,rfl,fun h=>h⟩,⟨by rw [ff _ om];rfl,rfl,rfl,fun h=>h⟩,⟨by rw [ff _ om];rfl,rfl,rfl,fun h=>h⟩,rz⟩,trivial⟩⟩
 ·injection hk with hk;subst hk;exact ⟨_,rfl,f5 (e7 _)⟩
 ·injection hk with hk;subst hk
  refine ⟨_,rfl,rfl,rfl,rfl,.inr (a1O rfl fun i x y hx hy=>?_)⟩;have hx:(hdR 9 m n)[i]? =some x:=hx;have hy:(hdR 9 m n)[i]? =some y:=hy;have hi:i<m:=by have:=(lbe.1 hx).1;rwa [z9] at this
  rw [a8j hi] at hx hy;injection hx with hx;injection hy with hy
  subst hx hy;exact ⟨⟨by rw [ff _ om,fa _ om],rfl,rfl,fun h=>h⟩,trivial⟩
 ·injection hk with hk;subst hk;exact ⟨_,rfl,f5 (e7 _)⟩
 ·injection hk with hk;subst hk;exact ⟨_,rfl,f5 (e7 _)⟩
 ·injection hk with hk;subst hk;exact ⟨_,aK6 (j:=0),f5 (e7 _)⟩
 ·injection hk with hk;subst hk;exact ⟨_,rfl,f5 (e7 _)⟩
 ·injection hk with hk;subst hk;exact ⟨_,rfl,f5 (e7 _)⟩
 ·injection hk with hk;subst hk;exact ⟨_,rfl,f5 (e7 _)⟩
 ·have hk:((mZ m n A).map zlB++[])[i]? =some k':=hk;have hi:i<m:=by have:=(lbe.1 hk).1;simpa [e8] using this
  rw [E9 (Z6 hi)] at hk;injection hk with hk;subst hk
  rw [fa _ om];exact ⟨_,E9 (Z6 hi),f5 (e7 _)⟩
structure bA5 (s:j2) (g:List (Int × Rat)) (n:Nat):Prop where
 sm:I8 s
 tg:j9 (-1) n g=true
 en:s.n=n
 w:z5 g
def b7u (s:j2) (g:List (Int × Rat)) (n:Nat) (h:bA5 s g n):
 d6 Tryz.prog 212 [S9 s,m8 g] [] (.c (.ptr 0 0 0)) (G7 (i8 (j1 s)).length n n (i8 (j1 s)) (scL s (i8 (j1 s))) 1 (V0 s g) (C0 g g.length) (fun i=>n+i) (fun j=>j) (A0 s g) []):=by
 have hs:=h.sm
 have htg:=h.tg
 have hen:=h.en
 have hgw:=h.w
 have hn9:=hs.n
 have hr1:=hs.l
 have hgl:=v8 htg
 have m1:(s.rows.map w5).length=s.rows.length:=zq
 have m2:(g.map k6).length=g.length:=zq
 have of1:=b4A 1 de de
 have bl1:bl 1<=1:=o7 de de
 have lrow:∀(i:Nat) (w:z7),s.rows[i]? =some w->j9 (-1) n w.terms=true∧w.terms.length<=1000∧z5 w.terms∧rl w.value<=100:=fun i w hw=>by
  have hI:=hs.i w (lbm hw)
  have hn:=L3 hs.r
  have hrw:=(Y4 hs.r hw).1
  rw [hn,hen] at hrw
  have hl:=v8 hrw
  obtain ⟨d1,d2⟩:=a3R hI.2
  have d3:=a0Z w.value
  have b1:=o7 (x:=(w.value.den:Int)) om om
  have b2:=S2 (x:=w.value.num) om om
  exact ⟨hrw,om,hI.1,by show max _ _<=100;omega⟩
 have put0:∀(K i:Nat) (w:z7) (b:Bool) (Fr:List (Nat × Bool)),s.rows[i]? =some w->Fr.length=K->K<=10000->i<=100000->
  d6 Tryz.prog 276 [.c (.ptr 0 0 0),c9 .i64 s.n,c9 .i64 i,aw9 w,c9 .i64 (sg1 b)] (G7 K n 0 Fr (scL s Fr) 1 (V0 s g) (fun _=>0) (fun i=>n+i) (fun j=>j) (A0 s g) []) (.tup []) (b4T K n Fr (i,b) (scL s Fr) w.value.den (sg1 b*w.value.num) (aQ w b w.terms.length) (V0 s g) (fun _=>0) (fun i=>n+i) (fun j=>j) (A0 s g)):=by
  intro K i w b Fr hw hF hK hi
  obtain ⟨q1,q2,q3,q4⟩:=lrow i w hw
  rw [hen]
  exact b9X n K i w b Fr hF (scL s Fr) (by rw [ah5,hF]) _ _ _ _ om hK hi q1 q2 q3 q4
 (refine ac Tryz.func212 ?_;(conv=>whnf);repeat ((first|refine b0x ?_|refine zy ?_);conv=>whnf))
 repeat' (first|refine zx ?_|refine qp of1 ?_|refine zy ?_|refine a0x om om om de ?_|refine zd ?_ ?_<;>intro h<;>try omega|fail)<;>conv=>whnf
 refine an0 (fun i=>([J,m8 g,S.c (C.t (T.ptr (a1F s))),J,J,S.c (C.ptr 0 0 0),c9 .i64 i]++Jn 114,G7 (G3 (j1 s) i).length n 0 (G3 (j1 s) i) (scL s (G3 (j1 s) i)) 1 (V0 s g) (fun _=>0) (fun i=>n+i) (fun j=>j) (A0 s g) [])) s.rows.length (fun _=>True) (gR 9 pJ1) trivial ?_ ?_
 ·refine b1x rfl (fun i j x hi hj h1 h2=>by unfold pJ1 at h1 h2;(repeat' split at h1)<;>(repeat' split at h2)<;>first|(cases h1;done)|(cases h2;done)|(injection h1 with h1;injection h2 with h2;omega)) ?_ ?_
  ·intro i k' hk
   rcases i with _|_|_|_|_|_|_|_|_|i
   ·injection hk with hk;subst hk
    exact .inr ⟨1,_,rfl,rfl,rfl,rfl,rfl,.inr ⟨⟨⟨rfl,rfl,rfl⟩,⟨rfl,rfl,rfl⟩,⟨rfl,rfl,om,fun h=>h⟩,rfl,rfl,⟨rfl,rfl,rfl⟩,⟨rfl,rfl,rfl⟩,⟨rfl,rfl,rfl⟩,⟨rfl,rfl,rfl⟩,⟨rfl,rfl,rfl⟩,rfl,rfl,trivial⟩,trivial⟩⟩
   ·injection hk with hk;subst hk;exact .inl ⟨rfl,rfl,rfl⟩
   ·injection hk with hk;subst hk;exact .inl ⟨rfl,rfl,rfl⟩
   ·injection hk with hk;subst hk;exact .inr ⟨0,_,rfl,rfl,b3H om⟩
   ·injection hk with hk;subst hk;exact .inl ⟨rfl,rfl,rfl⟩
   ·injection hk with hk;subst hk;exact .inl ⟨rfl,rfl,rfl⟩
   ·injection hk with hk;subst hk;exact .inl ⟨rfl,rfl,rfl⟩
   ·injection hk with hk;subst hk;exact .inl ⟨rfl,rfl,rfl⟩
   ·injection hk with hk;subst hk;exact .inl ⟨rfl,rfl,rfl⟩
   ·simp [mZ,G3] at hk
  ·exact ⟨k8 rfl,k8 rfl,⟨rfl,rfl,rfl⟩,d7 rfl,trivial⟩
 intro i hi _
 refine y4 d9 ?_
 conv=>whnf
 repeat' (first|refine zx ?_|refine g8 (e8 _ _ _) ?_|refine f8 ?_|refine zd ?_ ?_<;>intro h<;>try omega|fail)<;>conv=>whnf
 ·have hlt:i<s.rows.length:=by omega
  obtain ⟨w,hw⟩:∃w,s.rows[i]? =some w:=⟨_,lbf hlt⟩
  have hw':=ao7 hw
  obtain ⟨F0,hF0⟩:∃F0,F0=G3 (j1 s) i:=⟨_,rfl⟩
  obtain ⟨K,hK⟩:∃K,K=F0.length:=⟨_,rfl⟩
  obtain ⟨F1,hF1⟩:∃F1,F1=(F0++if w.kind≠0 then [(i,false)] else []):=⟨_,rfl⟩
  obtain ⟨K1,hK1⟩:∃K1,K1=F1.length:=⟨_,rfl⟩
  have hKb:K<=10000:=by have:=a0C (s:=j1 s) i;rw [← hF0] at this;omega
  have hK1b:K1<=10000:=by
   have:=a0C (s:=j1 s) i
   rw [← hF0] at this
   rw [hK1,hF1,lbq]
   split<;>simp<;>omega
  have eF:G3 (j1 s) (i+1)=F1++if w.kind≠1 then [(i,true)] else []:=by rw [a7t hw',hF1,hF0];rfl
  rw [← hF0,←hK]
  refine a8u (a7U ?_)
  refine x9 d9 ([J,m8 g,S.c (C.t (T.ptr (a1F s))),J,J,S.c (C.ptr 0 0 0),c9 .i64 i]++Jn 114) (G7 K1 n 0 F1 (scL s F1) 1 (V0 s g) (fun _=>0) (fun i=>n+i) (fun j=>j) (A0 s g) []) ?_ ?_
  ·by_cases hk:w.kind=0
   ·have e1:F1=F0:=by rw [hF1,if_neg (by simp [hk]),Y7]
    have e2:K1=K:=by rw [hK1,e1,hK]
    rw [e1,e2]
    conv=>whnf
    repeat' (first|refine zx ?_|refine f7 hw ?_|refine g8 (e8 _ _ _) ?_|refine f8 ?_|refine zd ?_ ?_<;>intro h<;>try omega|fail)<;>conv=>whnf
    all_goals first
     |omega
     |exact ⟨idR (K+9),p4 (T:=[]) (T':=[]) rfl rfl (J0 _) zq ⟨rfl,rfl,⟨i6 om,rfl,rfl⟩,rfl,trivial⟩⟩
   ·have e1:F1=F0++[(i,false)]:=by rw [hF1,if_pos hk]
    have e2:K1=K+1:=by rw [hK1,e1,lbq,←hK];rfl
    have hg:(i8 (j1 s)).getD K (0,false)=(i,false):=by
     refine a6R (i:=i+1) (by show i+1<=(s.rows.map P4).length;rw [lbr];omega) ?_
     rw [eF,e1,lbE,lbc om,hK];simp
    rw [e1,e2,aT0 hw]
    have pu:=put0 K i w false F0 hw hK.symm hKb om
    conv=>whnf
    repeat' (first|refine zx ?_|refine .inr ⟨_,_,pu,?_⟩|refine f7 hw ?_|refine g8 (e8 _ _ _) ?_|refine f8 ?_|refine zd ?_ ?_<;>intro h<;>try omega|fail)<;>conv=>whnf
    all_goals first
     |omega
     |exact ⟨_,aV1 (bl3 (g:=g) hg hw) (bk0 (g:=g) hg hw) ⟨rfl,rfl,⟨by rw [x3 om];rfl,rfl,rfl⟩,rfl,trivial⟩⟩
  ·by_cases hk:w.kind=1
   ·have e1:G3 (j1 s) (i+1)=F1:=by rw [eF,if_neg (by simp [hk]),Y7]
    refine p6 d9 _ ?_
    conv=>whnf
    repeat' (first|refine zx ?_|refine f7 hw ?_|refine g8 (e8 _ _ _) ?_|refine f8 ?_|refine zd ?_ ?_<;>intro h<;>try omega|fail)<;>conv=>whnf
    all_goals try omega
    refine p6 d9 _ ?_
    conv=>whnf
    repeat' (first|refine zx ?_|refine g8 (e8 _ _ _) ?_|refine f8 ?_|refine zd ?_ ?_<;>intro h<;>try omega|fail)<;>conv=>whnf
    refine ⟨hlt,trivial,idR (K1+9),?_⟩
    rw [e1,←hK1]
    exact p4 (T:=[]) (T':=[]) rfl rfl (J0 _) zq ⟨rfl,rfl,⟨i6 om,rfl,rfl⟩,d7 om,trivial⟩
   ·have e1:G3 (j1 s) (i+1)=F1++[(i,true)]:=by rw [eF,if_pos hk]
    have hg:(i8 (j1 s)).getD K1 (0,false)=(i,true):=by
     refine a6R (i:=i+1) (by show i+1<=(s.rows.map P4).length;rw [lbr];omega) ?_
     rw [e1,lbc om,hK1];simp
    have pu:=put0 K1 i w true F1 hw hK1.symm hK1b om
    refine p6 d9 _ ?_
    conv=>whnf
    repeat' (first|refine zx ?_|refine .inr ⟨_,_,pu,?_⟩|refine f7 hw ?_|refine g8 (e8 _ _ _) ?_|refine f8 ?_|refine zd ?_ ?_<;>intro h<;>try omega|fail)<;>conv=>whnf
    all_goals try omega
    refine b34 (env':=[J,m8 g,S.c (C.t (T.ptr (a1F s))),J,J,S.c (C.ptr 0 0 0),c9 .i64 i]++Jn 114) _ (aV1 (bl3 (g:=g) hg hw) (bk0 (g:=g) hg hw) ?_) ?_
    ·exact ⟨rfl,rfl,⟨by rw [x3 om];rfl,rfl,rfl⟩,rfl,trivial⟩
    refine p6 d9 _ ?_
    conv=>whnf
    repeat' (first|refine zx ?_|refine g8 (e8 _ _ _) ?_|refine f8 ?_|refine zd ?_ ?_<;>intro h<;>try omega|fail)<;>conv=>whnf
    refine ⟨hlt,trivial,idR (K1+1+9),?_⟩
    rw [e1,show (F1++[(i,true)]).length=K1+1 by simp [hK1],aT0 hw]
    exact p4 (T:=[]) (T':=[]) rfl rfl (J0 _) zq ⟨rfl,rfl,⟨i6 om,rfl,rfl⟩,d7 om,trivial⟩
 ·have hie:i=s.rows.length:=by omega
  subst hie
  have efr:G3 (j1 s) s.rows.length=i8 (j1 s):=by unfold i8;rw [show (j1 s).rows.length=s.rows.length from lbr ..]
  rw [efr]
  have hm2:=a0C (s:=j1 s) s.rows.length
  rw [efr] at hm2
  generalize i8 (j1 s)=fr at hm2
  obtain ⟨m,hm⟩:∃m,m=fr.length:=⟨_,rfl⟩
  rw [← hm] at hm2 ⊢
  refine i7 d9 (fun q=>([J,m8 g,S.c (C.t (T.ptr (a1F s))),J,J,S.c (C.ptr 0 0 0),J,c9 .i64 q]++Jn 113,G7 m n 0 fr (scL s fr) 1 (V0 s g) (fun _=>0) (fun i=>n+i) (fun j=>j) (A0 s g) [])) g.length (fun _=>True) (idR (m+9)) trivial ?_ ?_
  ·exact p4 (T:=[]) (T':=[]) rfl rfl (J0 _) zq ⟨rfl,rfl,⟨i6 om,rfl,rfl⟩,d7 rfl,trivial⟩
  intro q hq _
  by_cases hlt:q<g.length
  ·obtain ⟨t,ht⟩:∃t,g[q]? =some t:=⟨_,lbf hlt⟩
   obtain ⟨c,hc,hcb⟩:=hgw t (lbm ht)
   have ci:=aC1 1 de c om hcb
   rw [← hc] at ci
   conv=>whnf
   repeat' (first|refine zx ?_|refine qp ci ?_|refine f7 ht ?_|refine g8 (e8 _ _ _) ?_|refine f8 ?_|refine bl0 [0] ?_|refine zd ?_ ?_<;>intro h<;>try omega|fail)<;>conv=>whnf
   all_goals first
    |omega
    |exact ⟨hlt,trivial,idR (m+9),p4 (T:=[]) (T':=[]) rfl rfl (J0 _) zq ⟨rfl,rfl,⟨i6 om,rfl,rfl⟩,d7 om,trivial⟩⟩
  ·have hqe:q=g.length:=by omega
   subst hqe
   conv=>whnf
   repeat' (first|refine zx ?_|refine g8 (e8 _ _ _) ?_|refine f8 ?_|refine zd ?_ ?_<;>intro h<;>try omega|fail)<;>conv=>whnf
   all_goals try omega
   refine i7 d9 (fun q=>([J,m8 g,S.c (C.t (T.ptr (a1F s))),J,J,S.c (C.ptr 0 0 0),J,J,c9 .i64 q]++Jn 112,G7 m n 0 fr (scL s fr) 1 (V0 s g) (C0 g q) (fun i=>n+i) (fun j=>j) (A0 s g) [])) g.length (fun _=>True) (idR (m+9)) trivial ?_ ?_
   ·rw [bf8]
    exact p4 (T:=[]) (T':=[]) rfl rfl (J0 _) zq ⟨rfl,rfl,⟨i6 om,rfl,rfl⟩,d7 rfl,trivial⟩
   intro q hq _
   by_cases hlt:q<g.length
   ·obtain ⟨t,ht⟩:∃t,g[q]? =some t:=⟨_,lbf hlt⟩
    obtain ⟨c,hc,hcb⟩:=hgw t (lbm ht)
    obtain ⟨t0,t1,t2⟩:=E7 htg t (lbm ht)
    have ti:=aT4 1 c om hcb
    have lc:bl (1*c)<=300000:=by rw [a1S];omega
    have ng:=a5F (1*c) lc
    rw [← hc] at ti
    have eV:0+t.1.toNat=t.1.toNat:=om
    have gp:(zF n (C0 g q))[0+t.1.toNat]? =some (C0 g q t.1.toNat):=by rw [eV,Q2 om]
    conv=>whnf
    repeat' (first|refine zx ?_|refine qp ti ?_|refine qp ng ?_|refine f7 ht ?_|refine a26 gp ?_|refine g8 (e8 _ _ _) ?_|refine f8 ?_|refine bl0 [0,1,2,3] ?_|refine zd ?_ ?_<;>intro h<;>try omega|fail)<;>conv=>whnf
    all_goals first
     |omega
     |exact ⟨hlt,trivial,idR (m+9),p4 (T:=[]) (T':=[]) (I9 rfl rfl rfl ((a12 eV om).trans (by rw [bd1 ht hc])) rfl rfl rfl rfl rfl rfl) rfl (J0 _) zq ⟨rfl,rfl,⟨i6 om,rfl,rfl⟩,d7 om,trivial⟩⟩
   ·have hqe:q=g.length:=by omega
    subst hqe
    conv=>whnf
    repeat' (first|refine zx ?_|refine g8 (e8 _ _ _) ?_|refine f8 ?_|refine zd ?_ ?_<;>intro h<;>try omega|fail)<;>conv=>whnf
    all_goals try omega
    refine i7 d9 (fun q=>([J,J,S.c (C.t (T.ptr (a1F s))),J,J,S.c (C.ptr 0 0 0),J,J,J,c9 .i64 q]++Jn 111,G7 m n q fr (scL s fr) 1 (V0 s g) (C0 g g.length) (fun i=>n+i) (fun j=>j) (A0 s g) [])) n (fun _=>True) (idR (m+9)) trivial ?_ ?_
    ·exact p4 (T:=[]) (T':=[]) rfl rfl (J0 _) zq ⟨rfl,⟨i6 om,rfl,rfl⟩,d7 rfl,trivial⟩
    intro q hq _
    by_cases hlt:q<n
    ·conv=>whnf
     repeat' (first|refine zx ?_|refine o6 (by simp [toC,l9]) (by simp [toC,l9];omega) ?_|refine g8 (e8 _ _ _) ?_|refine f8 ?_|refine bl0 [0] ?_|refine zd ?_ ?_<;>intro h<;>try omega|fail)<;>conv=>whnf
     all_goals first
      |omega
      |(refine ⟨hlt,trivial,fR (m+9) (fF m),b6p (I9 rfl rfl rfl rfl rfl rfl rfl rfl rfl (congrArg (fun z=>(mZ m n (A0 s g)).map zlB++[z]) ?_)) ⟨rfl,⟨by rw [x3 om];rfl,rfl,rfl⟩,d7 om,trivial⟩⟩
        exact congrArg (fun z=>({ mode:=.live,elem:=3,size:=1,rows:=z,box:=false }:Blk)) (a48 (O:=fun j=>j) (x:=(q:Int)) rfl))
    ·have hqe:q=n:=by omega
     subst hqe
     conv=>whnf
     repeat' (first|refine zx ?_|refine g8 (e8 _ _ _) ?_|refine f8 ?_|refine zd ?_ ?_<;>intro h<;>try omega|fail)<;>conv=>whnf
     all_goals first
      |omega
      |exact a5B (T:=[]) rfl rfl (J0 _) ⟨i6 om,rfl,rfl⟩
def b1X {q z:Int} {x:Rat} (hq:0<q) (h:((z:Int):Rat)=((q:Int):Rat)*x):Rat.divInt z q=x:=by
 have hne:((q:Int):Rat)≠0:=by
  intro e;have:q=0:=by exact_mod_cast e
  omega
 rw [a5D,h,ak6,a6b,a67,b1M _ hne];grind
def a8H {ρ:List (Option Nat)} {H:Hp} {n N:Nat} (e:N=n):a30 ρ H (F5 86 4 (List.replicate N [B6 (.int .i64 0),B6 (.slice none 0 0),B6 (.int .i64 0),B6 (.slice none 0 0)]) false) (flB (pZ 0 n)):=by
 subst e;refine ⟨rfl,rfl,rfl,.inr (a1O ?_ ?_)⟩
 ·simp [F5,toC,as4]
 ·intro i x y hx hy;simp only [F5,lbk] at hx;split at hx
  ·rename_i hi;injection hx with hx;subst hx;have hy:(toC ((pZ 0 N).map t5))[i]? =some y:=hy;rw [toC,lba,lba,a4X om,if_neg om] at hy;injection hy with hy;subst hy;exact rz
  ·cases hx
def aM1 {k n i:Nat} (e:i=k) (h:k<n):t4 (flB (pZ k n)) ((flB (pZ k n)).rows.set i (frC (fz ((0:Int):Rat))))=flB (pZ (k+1) n):=by
 have:=I5 (row:=pZ k n) (y:=fz 0) e;rw [b5F h] at this;exact this
def b9i (n:Nat) (hn:n<=1000):ec 284 [eI n] [] (.c (.own 0 0 n true)) [flB (rF n fun _=>0)]:=by
 have i0:=a8o 0 de de;refine ac Tryz.func284 ?_;conv=>whnf
 repeat' (first|refine zx ?_|refine a0x om om om de ?_|apply zD<;>intro h<;>try omega)<;>conv=>whnf
 refine i7 d9 (fun k=>([eI n,J,J,S.c (C.own 0 0 n true),eI k]++Jn 12,[flB (pZ k n)])) n tT [some 0] trivial
  ⟨rfl,rfl,⟨a8H om,trivial⟩,⟨d7 rfl,⟨rfl,rfl,om,fun h=>h⟩,d7 rfl,trivial⟩⟩ ?_
 intro k hk _;by_cases hlt:k<n
 ·have eM:0+(k:Int).toNat=k:=by omega
  have gp:(pZ k n)[0+(k:Int).toNat]? =some (if k<k then fz 0 else M4):=by rw [eM];exact a4X hlt
  conv=>whnf
  repeat' (first|refine zx ?_|refine p8 gp ?_|apply zD<;>intro h<;>try omega)<;>conv=>whnf
  all_goals first|omega|exact ⟨hlt,trivial,[some 0],rfl,rfl,⟨d8 (rows:=(pZ (k+1) n).map t5) rfl rfl rfl (congrArg Blk.rows (aM1 eM hlt)) rfl,trivial⟩,⟨rfl,⟨rfl,rfl,rfl,fun h=>h⟩,d7 om,trivial⟩⟩
 ·have hke:k=n:=by omega
  subst hke;conv=>whnf
  repeat' (first|refine zx ?_|apply zD<;>intro h<;>try omega)<;>conv=>whnf
  all_goals first|omega|exact ⟨[some 0],rfl,rfl,⟨d8 (rows:=(rF k fun _=>0).map t5) rfl rfl rfl (by rw [← am2]) rfl,trivial⟩,⟨rfl,rfl,rfl,fun h=>h⟩⟩
def a9L {n i j:Nat} {g:Nat->Rat} {y:Rat} (e:i=j) (h:j<n):t4 (flB (rF n g)) ((flB (rF n g)).rows.set i (frC (fz y)))=flB (rF n fun k=>if k=j then y else g k):=by
 subst e;have:=I5 (row:=rF n g) (y:=fz y) (rfl:i=i);rw [S4 h] at this;exact this
def I7 {ρ:List (Option Nat)} {H:Hp} {k:Blk} {l:List Fr} (h:k=flB l):a30 ρ H k (flB l):=by subst h;exact f5 (e7 _)
def b9L (m n:Nat) (fr:LB) (sc:LI) (Z:Zd) (D:Fd) (hr:aH1 m n Z D) (hP:X8 m n D) (hB:ZB m n 1000 Z) (hm:m<=100000) (hn:n<=1000):
 ec 215 [jT m n fr sc Z,eI n] [] (p5 ((zOf n (a0j m n D 1 (fun _=>0))).map fz)) []:=by
 have m1:(X6 m Z.O).length=m:=l9 _ _;have i0:=a8o 0 de de;have lD:=hB.d;rw [a7D,←s9 (g:=ptK n D.O D.V (fun _=>0) m) fun j hj=>a9p hP hj];refine ac Tryz.func215 ?_;conv=>whnf
 repeat' (first|refine zx ?_|refine a0x om om om de ?_|apply zD<;>intro h<;>try omega)<;>conv=>whnf
 refine i7 d9 (fun k=>([jT m n fr sc Z,eI n,J,J,J,S.c (C.own 0 0 n true),eI k]++Jn 52,[flB (pZ k n)])) n tT [some 0] trivial
  ⟨rfl,rfl,⟨a8H om,trivial⟩,⟨rfl,d7 rfl,⟨rfl,rfl,om,fun h=>h⟩,d7 rfl,trivial⟩⟩ ?_
 intro k hk _;by_cases hlt:k<n
 ·have eM:0+(k:Int).toNat=k:=by omega
  have gp:(pZ k n)[0+(k:Int).toNat]? =some (if k<k then fz 0 else M4):=by rw [eM];exact a4X hlt
  conv=>whnf
  repeat' (first|refine zx ?_|refine p8 gp ?_|apply zD<;>intro h<;>try omega)<;>conv=>whnf
  all_goals first|omega|exact ⟨hlt,trivial,[some 0],rfl,rfl,⟨I7 (aM1 eM hlt),trivial⟩,⟨rfl,rfl,⟨rfl,rfl,rfl,fun h=>h⟩,d7 om,trivial⟩⟩
 ·have hke:k=n:=by omega
  subst hke;conv=>whnf
  repeat' (first|refine zx ?_|apply zD<;>intro h<;>try omega)<;>conv=>whnf
  all_goals try omega
  refine i7 d9 (fun i=>([jT m k fr sc Z,eI k,J,J,J,S.c (C.own 0 0 k true),J,eI i]++Jn 51,[flB (rF k (ptK k D.O D.V (fun _=>0) i))])) m tT [some 0] trivial
   ⟨rfl,rfl,⟨I7 (by rw [am2];rfl),trivial⟩,⟨rfl,rfl,⟨rfl,rfl,rfl,fun h=>h⟩,d7 rfl,trivial⟩⟩ ?_
  intro i hi _;by_cases hlt:i<m
  ·have eO:Z.O i=D.O i:=by rw [hr.o]
   by_cases ho:D.O i<k
   ·have rt:=ag8 (Z.V i) Z.D hr.d (by have:=hB.v i hlt;omega) om;rw [b1X hr.d (hr.v i hlt)] at rt;have eIq:0+((Z.O i:Nat):Int).toNat=D.O i:=by rw [eO];omega
    have gp:(rF k (ptK k D.O D.V (fun _=>0) i))[0+((Z.O i:Nat):Int).toNat]? =some (fz (ptK k D.O D.V (fun _=>0) i (D.O i))):=by rw [eIq,E6 ho]
    have e:rF k (fun j=>if j=D.O i then D.V i else ptK k D.O D.V (fun _=>0) i j)=rF k (ptK k D.O D.V (fun _=>0) (i+1)):=by
     rw [G0];exact s9 fun j hj=>by simp only [ho,true_and]
    conv=>whnf
    repeat' (first|refine zx ?_|refine s8 rfl hlt ?_|refine a0q rfl hlt ?_|refine p8 gp ?_|apply zD<;>intro h<;>try omega)<;>conv=>whnf
    all_goals first|omega|exact ⟨hlt,trivial,[some 0],rfl,rfl,⟨I7 ((a9L eIq ho).trans (by rw [e])),trivial⟩,⟨rfl,rfl,⟨rfl,rfl,rfl,fun h=>h⟩,d7 om,trivial⟩⟩
   ·have e:ptK k D.O D.V (fun _=>0) (i+1)=ptK k D.O D.V (fun _=>0) i:=by rw [G0];funext j;rw [if_neg (fun h=>ho h.1)]
    conv=>whnf
    repeat' (first|refine zx ?_|refine s8 rfl hlt ?_|apply zD<;>intro h<;>try omega)<;>conv=>whnf
    all_goals first|omega|exact ⟨hlt,trivial,[some 0],rfl,rfl,⟨I7 (by rw [e]),trivial⟩,⟨rfl,rfl,⟨rfl,rfl,rfl,fun h=>h⟩,d7 om,trivial⟩⟩
  ·have hie:i=m:=by omega
   subst hie;conv=>whnf
   repeat' (first|refine zx ?_|apply zD<;>intro h<;>try omega)<;>conv=>whnf
   all_goals first|omega|exact I4 rfl (fun h=>h) rfl rfl (by simp [K5])
def bF4 (m n:Nat) (fr:LB) (sc:LI) (Z:Zd) (D:Fd) (c:Nat) (hc:c<n) (hr:aH1 m n Z D) (hP:X8 m n D) (hB:ZB m n 1000 Z) (hm:m<=100000) (hn:n<=1000):
 ec 217 [jT m n fr sc Z,eI n,eI c] [] (p5 ((zOf n (a0j m n D 0 (fun q=>if q=c then 1 else 0))).map fz)) []:=by
 have m1:(X6 m Z.O).length=m:=l9 _ _;have i0:=a8o 0 de de;have i1:=a8o 1 de de;have lD:=hB.d;obtain ⟨x0,hx0⟩:∃x0:Nat->Rat,x0=fun j=>if D.F c<n∧j=D.F c then 1 else 0:=⟨_,rfl⟩
 rw [a7D,←s9 (g:=ptK n D.O (fun i=>-(D.A i c)) x0 m) fun j hj=>by rw [hx0];exact ag6 hP hc hj];have eF:Z.F c=D.F c:=by rw [hr.f]
 (refine U1 d9 Tryz.func217 rfl de ?_;refine y4 d9 ?_;(conv=>whnf);repeat ((first|refine b0x ?_|refine zy ?_);conv=>whnf))
 repeat' (first|refine zx ?_|apply zD<;>intro h<;>try omega)<;>conv=>whnf
 refine x9 d9 ([jT m n fr sc Z,eI n,eI c,J,J,J,J,S.c (C.own 0 0 n true)]++Jn 76) [flB (pZ 0 n)] ?_ ?_
 ·conv=>whnf
  repeat' (first|refine zx ?_|refine a0x om om om de ?_|apply zD<;>intro h<;>try omega)<;>conv=>whnf
  all_goals exact ⟨[some 0],rfl,rfl,⟨a8H om,trivial⟩,⟨rfl,d7 rfl,d7 rfl,⟨rfl,rfl,om,fun h=>h⟩,trivial⟩⟩
 refine x9 d9 ([jT m n fr sc Z,eI n,eI c,J,J,J,J,S.c (C.own 0 0 n true)]++Jn 76) [flB (rF n fun _=>0)] ?_ ?_
 ·conv=>whnf
  repeat' (first|refine zx ?_|apply zD<;>intro h<;>try omega)<;>conv=>whnf
  refine i7 d9 (fun k=>([jT m n fr sc Z,eI n,eI c,J,J,J,J,S.c (C.own 0 0 n true),eI k]++Jn 75,[flB (pZ k n)])) n tT [some 0] trivial
   ⟨rfl,rfl,⟨I7 rfl,trivial⟩,⟨rfl,rfl,rfl,⟨rfl,rfl,rfl,fun h=>h⟩,d7 rfl,trivial⟩⟩ ?_
  intro k hk _;by_cases hlt:k<n
  ·have eM:0+(k:Int).toNat=k:=by omega
   have gp:(pZ k n)[0+(k:Int).toNat]? =some (if k<k then fz 0 else M4):=by rw [eM];exact a4X hlt
   conv=>whnf
   repeat' (first|refine zx ?_|refine p8 gp ?_|apply zD<;>intro h<;>try omega)<;>conv=>whnf
   all_goals first|omega|exact ⟨hlt,trivial,[some 0],rfl,rfl,⟨I7 (aM1 eM hlt),trivial⟩,⟨rfl,rfl,rfl,⟨rfl,rfl,rfl,fun h=>h⟩,d7 om,trivial⟩⟩
  ·have hke:k=n:=by omega
   subst hke;conv=>whnf
   repeat' (first|refine zx ?_|apply zD<;>intro h<;>try omega)<;>conv=>whnf
   all_goals first|omega|exact ⟨[some 0],rfl,rfl,⟨I7 (by rw [am2]),trivial⟩,⟨rfl,rfl,rfl,⟨rfl,rfl,rfl,fun h=>h⟩,trivial⟩⟩
 refine x9 d9 ([jT m n fr sc Z,eI n,eI c,J,J,J,J,S.c (C.own 0 0 n true)]++Jn 76) [flB (rF n x0)] ?_ ?_
 ·by_cases hf:D.F c<n
  ·have eC:0+((Z.F c:Nat):Int).toNat=D.F c:=by rw [eF];omega
   have gp:(rF n fun _=>(0:Rat))[0+((Z.F c:Nat):Int).toNat]? =some (fz 0):=by rw [eC,E6 hf]
   have e:rF n (fun j=>if j=D.F c then ((1:Int):Rat) else 0)=rF n x0:=by
    rw [hx0];exact s9 fun j hj=>by simp only [hf,true_and];rfl
   conv=>whnf
   repeat' (first|refine zx ?_|refine s8 rfl hc ?_|refine p8 gp ?_|apply zD<;>intro h<;>try omega)<;>conv=>whnf
   all_goals first|omega|exact ⟨[some 0],rfl,rfl,⟨I7 ((a9L eC hf).trans (by rw [e])),trivial⟩,⟨rfl,rfl,rfl,⟨rfl,rfl,rfl,fun h=>h⟩,trivial⟩⟩
  ·have e:x0=fun _=>0:=by rw [hx0];funext j;rw [if_neg (fun h=>hf h.1)]
   conv=>whnf
   repeat' (first|refine zx ?_|refine s8 rfl hc ?_|apply zD<;>intro h<;>try omega)<;>conv=>whnf
   all_goals first|omega|exact ⟨[some 0],rfl,rfl,⟨I7 (by rw [e]),trivial⟩,⟨rfl,rfl,rfl,⟨rfl,rfl,rfl,fun h=>h⟩,trivial⟩⟩
 refine p6 d9 _ ?_;conv=>whnf
 repeat' (first|refine zx ?_|apply zD<;>intro h<;>try omega)<;>conv=>whnf
 refine i7 d9 (fun i=>([jT m n fr sc Z,eI n,eI c,J,J,J,J,S.c (C.own 0 0 n true),J,eI i]++Jn 74,[flB (rF n (ptK n D.O (fun i=>-(D.A i c)) x0 i))])) m tT [some 0] trivial
  ⟨rfl,rfl,⟨I7 rfl,trivial⟩,⟨rfl,rfl,rfl,⟨rfl,rfl,rfl,fun h=>h⟩,d7 rfl,trivial⟩⟩ ?_
 intro i hi _;by_cases hlt:i<m
 ·have eO:Z.O i=D.O i:=by rw [hr.o]
  by_cases ho:D.O i<n
  ·have bA:=hB.a i hlt c hc;have ng:=a5F (Z.A i c) om;have rt:=ag8 (-(Z.A i c)) Z.D hr.d (by rw [U7];omega) om;rw [b1X hr.d (x:=-(D.A i c)) (by push_cast;rw [hr.a i hlt c hc];grind)] at rt;have eIq:0+((Z.O i:Nat):Int).toNat=D.O i:=by rw [eO];omega
   have gp:(rF n (ptK n D.O (fun i=>-(D.A i c)) x0 i))[0+((Z.O i:Nat):Int).toNat]? =some (fz (ptK n D.O (fun i=>-(D.A i c)) x0 i (D.O i))):=by rw [eIq,E6 ho]
   have e:rF n (fun j=>if j=D.O i then -(D.A i c) else ptK n D.O (fun i=>-(D.A i c)) x0 i j)=rF n (ptK n D.O (fun i=>-(D.A i c)) x0 (i+1)):=by
    rw [G0];exact s9 fun j hj=>by simp only [ho,true_and]
   conv=>whnf
   repeat' (first|refine zx ?_|refine s8 rfl hlt ?_|refine a28 rfl hlt ?_|refine a0q rfl hc ?_|refine p8 gp ?_|apply zD<;>intro h<;>try omega)<;>conv=>whnf
   all_goals first|omega|exact ⟨hlt,trivial,[some 0],rfl,rfl,⟨I7 ((a9L eIq ho).trans (by rw [e])),trivial⟩,⟨rfl,rfl,rfl,⟨rfl,rfl,rfl,fun h=>h⟩,d7 om,trivial⟩⟩
  ·have e:ptK n D.O (fun i=>-(D.A i c)) x0 (i+1)=ptK n D.O (fun i=>-(D.A i c)) x0 i:=by rw [G0];funext j;rw [if_neg (fun h=>ho h.1)]
   conv=>whnf
   repeat' (first|refine zx ?_|refine s8 rfl hlt ?_|apply zD<;>intro h<;>try omega)<;>conv=>whnf
   all_goals first|omega|exact ⟨hlt,trivial,[some 0],rfl,rfl,⟨I7 (by rw [e]),trivial⟩,⟨rfl,rfl,rfl,⟨rfl,rfl,rfl,fun h=>h⟩,d7 om,trivial⟩⟩
 ·have hie:i=m:=by omega
  subst hie;conv=>whnf
  repeat' (first|refine zx ?_|apply zD<;>intro h<;>try omega)<;>conv=>whnf
  all_goals first|omega|exact I4 rfl (fun h=>h) rfl rfl (by simp [K5])
def b4o {x y:Int}:M6 x y=0↔x=y:=by unfold M6;split<;>(try split)<;>omega
def b3v (f:Fr) (lp:f.p.dl.length<=200000) (lq:f.q.dl.length<=200000):ec 165 [frS f] [] (j8 (Q9 f)) []:=by
 obtain ⟨p,q⟩:=f;simp only at lp lq;have r1:=a4m p om;have r2:=a4m q om;cases hp:J6 p with
 |false=>
  rw [hp] at r1;refine ac Tryz.func165 ?_;conv=>whnf
  repeat' (first|refine zx ?_|apply zD<;>intro<;>try omega)<;>conv=>whnf
  all_goals (first|(exfalso;simp_all;done)|(refine g9 ?_;unfold Q9;simp [hp]))
 |true=>
  rw [hp] at r1;cases hq:J6 q with
  |false=>
   rw [hq] at r2;refine ac Tryz.func165 ?_;conv=>whnf
   repeat' (first|refine zx ?_|apply zD<;>intro<;>try omega)<;>conv=>whnf
   all_goals (first|(exfalso;simp_all;done)|(refine g9 ?_;unfold Q9;simp [hq]))
  |true=>
   rw [hq] at r2;obtain ⟨x,rfl⟩:=as9 hp;obtain ⟨y,rfl⟩:=as9 hq;have hsg:(bz y).sg=y.sign:=rfl;have hsg2:(Fr.mk (bz x) (bz y)).q.sg=y.sign:=rfl;have sy:=C8 y;have lg:=a9I x y lp lq;have g:=b7g x y lp lq;have o:=b4A 1 de de;have c:=a97 (Int.gcd x y) 1 om (by have:=o7 (x:=1) de de;omega);have hc:=b4o (x:=Int.gcd x y) (y:=1);refine ac Tryz.func165 ?_;conv=>whnf
   repeat' (first|refine zx ?_|refine bl0 [5] ?_|apply zD<;>intro<;>try omega)<;>conv=>whnf
   all_goals first|(exfalso;simp_all;done)|(refine g9 ?_;unfold Q9;simp only [a0K,a5k,H9];simp;omega)
def aa5 (x:Rat) (lx:rl x<=200000):ec 165 [frS (fz x)] [] (j8 true) []:=by
 have h:=b3v (fz x) (lbT (G9 x) lx) (lbT (H6 x) lx);rw [ak9] at h;exact h
def al8 (x y:Rat):0<(x.den:Int)*y.den:=a9r (by have:=x.den_pos;omega) (by have:=y.den_pos;omega)
def al7 (x y:Rat) (lx:rl x<=60000) (ly:rl y<=60000):ec 236 [frS (fz x),frS (fz y)] [] (.tup [frS (fz (x+y)),eI 0]) []:=by
 have r1:=aa5 x om;have r2:=aa5 y om;have x1:=G9 x;have x2:=H6 x;have y1:=G9 y;have y2:=H6 y;have l1:=E3 x.num y.den;have l2:=E3 y.num x.den;have l3:=E3 x.den y.den;have l4:=a7N (x.num*y.den) (y.num*x.den);have t1:=a6k x.num y.den om om;have t2:=a6k y.num x.den om om;have t3:=a6k x.den y.den om om;have a:=b7F (x.num*y.den) (y.num*x.den) om om;have n:=aY5 (x.num*y.den+y.num*x.den) (x.den*y.den) (al8 x y) om om;rw [← ah8] at n;refine ac Tryz.func236 ?_;conv=>whnf
 repeat' (first|refine zx ?_|refine bl0 [7] ?_|refine bl0 [5] ?_|apply zD<;>intro<;>try omega)<;>conv=>whnf
 all_goals first|(exfalso;simp_all;done)|exact a0f rfl
def bk9 (x y:Rat) (lx:rl x<=60000) (ly:rl y<=60000):ec 274 [frS (fz x),frS (fz y)] [] (.tup [frS (fz (x - y)),eI 0]) []:=by
 have r1:=aa5 x om;have r2:=aa5 y om;have x1:=G9 x;have x2:=H6 x;have y1:=G9 y;have y2:=H6 y;have l1:=E3 x.num y.den;have l2:=E3 y.num x.den;have l3:=E3 x.den y.den;have l4:=a7N (x.num*y.den) (-(y.num*x.den));rw [U7,←a9c] at l4;have t1:=a6k x.num y.den om om;have t2:=a6k y.num x.den om om;have t3:=a6k x.den y.den om om;have a:=bk2 (x.num*y.den) (y.num*x.den) om om;have n:=aY5 (x.num*y.den - y.num*x.den) (x.den*y.den) (al8 x y) om om;have e:Rat.divInt (x.num*y.den - y.num*x.den) (x.den*y.den)=x - y:=by
  have:=ah8 x (-y);rw [ak5,Rat.neg_den,Int.neg_mul,←a9c,←b2I] at this;exact this.symm
 rw [e] at n;refine ac Tryz.func274 ?_;conv=>whnf
 repeat' (first|refine zx ?_|refine bl0 [7] ?_|refine bl0 [5] ?_|apply zD<;>intro<;>try omega)<;>conv=>whnf
 all_goals first|(exfalso;simp_all;done)|exact a0f rfl
def bl7 (x y:Rat) (lx:rl x<=60000) (ly:rl y<=60000):ec 235 [frS (fz x),frS (fz y)] [] (.tup [frS (fz (x*y)),eI 0]) []:=by
 have r1:=aa5 x om;have r2:=aa5 y om;have x1:=G9 x;have x2:=H6 x;have y1:=G9 y;have y2:=H6 y;have l1:=E3 x.num y.num;have l3:=E3 x.den y.den;have t1:=a6k x.num y.num om om;have t3:=a6k x.den y.den om om;have n:=aY5 (x.num*y.num) (x.den*y.den) (al8 x y) om om;rw [← aK4] at n;refine ac Tryz.func235 ?_;conv=>whnf
 repeat' (first|refine zx ?_|refine bl0 [7] ?_|refine bl0 [5] ?_|apply zD<;>intro<;>try omega)<;>conv=>whnf
 all_goals first|(exfalso;simp_all;done)|exact a0f rfl
def aE6 (x y:Rat) (lx:rl x<=60000) (ly:rl y<=60000):ec 162 [frS (fz x),frS (fz y)] [] (eI (a5d x y)) []:=by
 have r1:=aa5 x om;have r2:=aa5 y om;have x1:=G9 x;have x2:=H6 x;have y1:=G9 y;have y2:=H6 y;have l1:=E3 x.num y.den;have l2:=E3 y.num x.den;have t1:=a6k x.num y.den om om;have t2:=a6k y.num x.den om om;have c:=a97 (x.num*y.den) (y.num*x.den) om om;rw [b0w] at c;refine ac Tryz.func162 ?_;conv=>whnf
 repeat' (first|refine zx ?_|refine bl0 [7] ?_|refine bl0 [5] ?_|apply zD<;>intro<;>try omega)<;>conv=>whnf
 all_goals first|(exfalso;simp_all;done)|exact o4 rfl
def a6j (x:Rat) (lx:rl x<=60000):ec 92 [frS (fz x)] [] (eI (sgR x)) []:=by
 have r1:=aa5 x om;refine ac Tryz.func92 ?_;conv=>whnf
 repeat' (first|refine zx ?_|apply zD<;>intro<;>try omega)<;>conv=>whnf
 all_goals first|(exfalso;simp_all;done)|exact o4 (a8Q x)
def aQ2 (fr:LB) (sc:LI) (y:Nat->Rat) (i:Nat) (p q:Int):Nat->Rat:=fun k=>
 if k=(fr.getD i (0,false)).1 then (if (fr.getD i (0,false)).2 then y k+Rat.divInt (p*sc.getD i 0) q else y k - Rat.divInt (p*sc.getD i 0) q) else y k
def bq1 {fr:LB} {sc:LI} {y:Nat->Rat} {i B:Nat} {p q:Int} (hq:0<q) (hy:∀k,rl (y k)<=B) (lp:bl p<=1000) (lq:bl q<=1002) (ls:∀i,bl (sc.getD i 0)<=10):∀k,rl (aQ2 fr sc y i p q k)<=B+1020:=by
 intro k;have h1:=E3 p (sc.getD i 0);have h2:=ls i;have h3:=N1 (p:=p*sc.getD i 0) (q:=q) om;have h4:=hy k;have h5:=a3A (y k) (Rat.divInt (p*sc.getD i 0) q);have h6:=aM9 (y k) (Rat.divInt (p*sc.getD i 0) q);unfold aQ2;split
 ·split<;>omega
 ·omega
def b5M (m n R i row B:Nat) (b:Bool) (fr:LB) (sc:LI) (Z:Zd) (y:Nat->Rat) (p q:Int) (hsc:sc.length=m) (hi:i<m) (hf:fr[i]? =some (row,b)) (hrow:row<R) (hq:0<q) (hy:∀k,rl (y k)<=B) (hB:B<=40000) (lp:bl p<=1000) (lq:bl q<=1002) (ls:∀i,bl (sc.getD i 0)<=10) (hm:m<=100000):
 ec 285 [jT m n fr sc Z,.c (.own 0 0 R true),eI i,bgS (bz p),bgS (bz q)] [flB (rF R y)] (.tup []) [flB (rF R (aQ2 fr sc y i p q))]:=by
 obtain ⟨d,hd⟩:∃d,sc[i]? =some d:=⟨_,lbf om⟩;have hdg:sc.getD i 0=d:=by rw [lbl,hd];rfl
 have hfg:fr.getD i (0,false)=(row,b):=by rw [lbl,hf];rfl
 have ld:=ls i;rw [hdg] at ld;have h1:=E3 p d;have h3:=N1 (p:=p*d) (q:=q) om;have mu:=aj6 p d om om;have rt:=ag8 (p*d) q hq om om;have su:=bk9 (y row) (Rat.divInt (p*d) q) (by have:=hy row;omega) om;have ad:=al7 (y row) (Rat.divInt (p*d) q) (by have:=hy row;omega) om;have gs:(T3 fr)[i]? =some (sg1 b):=by unfold T3;rw [lba,hf];rfl
 have gi:(frI fr)[i]? =some (row:Int):=by unfold frI;rw [lba,hf];rfl
 have eR:0+(row:Int).toNat=row:=om;have gy:(rF R y)[0+(row:Int).toNat]? =some (fz (y row)):=by rw [eR,E6 hrow]
 have gd:((sc.map V5))[(i:Int).toNat]? =some (V5 d):=by rw [show (i:Int).toNat=i by omega,lba,hd];rfl
 have exd:∀{K:List T->Prop},K (V5 d)->∃row,0<=(i:Int)∧(sc.map V5)[(i:Int).toNat]? =some row∧K row:=fun k=>⟨_,om,gd,k⟩
 cases b with
 |false=>
  have e:(fun k=>if k=row then y row - Rat.divInt (p*d) q else y k)=aQ2 fr sc y i p q:=by
   funext k;unfold aQ2;rw [hfg,hdg];by_cases hk:k=row
   ·subst hk;rw [if_pos rfl,if_pos rfl];rfl
   ·rw [if_neg hk,if_neg hk]
  have gs:(T3 fr)[i]? =some 1:=gs;refine ac Tryz.func285 ?_;conv=>whnf
  repeat' (first|refine zx ?_|refine exd ?_|refine D9 rfl gs ?_|refine D9 rfl gi ?_|refine p8 gy ?_|refine bl0 [14] ?_|apply zD<;>intro<;>try omega)<;>conv=>whnf
  all_goals first
   |omega
   |exact ⟨[some 0],rfl,rfl,⟨I7 ((a9L eR hrow).trans (by rw [e])),trivial⟩,trivial⟩
 |true=>
  have e:(fun k=>if k=row then y row+Rat.divInt (p*d) q else y k)=aQ2 fr sc y i p q:=by
   funext k;unfold aQ2;rw [hfg,hdg];by_cases hk:k=row
   ·subst hk;rw [if_pos rfl,if_pos rfl];rfl
   ·rw [if_neg hk,if_neg hk]
  have gs:(T3 fr)[i]? =some (-1):=gs;refine ac Tryz.func285 ?_;conv=>whnf
  repeat' (first|refine zx ?_|refine exd ?_|refine D9 rfl gs ?_|refine D9 rfl gi ?_|refine p8 gy ?_|refine bl0 [14] ?_|apply zD<;>intro<;>try omega)<;>conv=>whnf
  all_goals first|omega|exact ⟨[some 0],rfl,rfl,⟨I7 ((a9L eR hrow).trans (by rw [e])),trivial⟩,trivial⟩
def prK (n:Nat) (fr:LB) (sc:LI) (F:Nat->Nat) (P:Nat->Int) (q:Int) (y0:Nat->Rat):Nat->Nat->Rat
 |0=>y0
 |k+1=>if n<=F k then aQ2 fr sc (prK n fr sc F P q y0 k) (F k - n) (P k) q else prK n fr sc F P q y0 k
def b6r {n B0:Nat} {fr:LB} {sc:LI} {F:Nat->Nat} {P:Nat->Int} {q:Int} {y0:Nat->Rat} (hq:0<q) (h0:∀i,rl (y0 i)<=B0) (lq:bl q<=1002) (ls:∀i,bl (sc.getD i 0)<=10):∀k,(∀ j,j<k->bl (P j)<=1000)->∀i,rl (prK n fr sc F P q y0 k i)<=B0+k*1020
 |0,_,i=>by have:=h0 i;show rl (y0 i)<=_;omega
 |k+1,hP,i=>by
  have ih:=b6r (n:=n) (fr:=fr) (F:=F) (P:=P) hq h0 lq ls k fun j hj=>hP j om
  rw [prK];split
  ·have:=bq1 (fr:=fr) (i:=F k - n) hq ih (hP k om) lq ls i;omega
  ·have:=ih i;omega
structure FrP (m R:Nat) (fr:LB) (sc:LI):Prop where
 lf:fr.length=m
 ls:sc.length=m
 r:∀f ∈ fr,f.1<R
 b:∀i,bl (sc.getD i 0)<=10
def b6I (m n R:Nat) (fr:LB) (sc:LI) (Z:Zd) (hF:FrP m R fr sc) (hB:ZB m n 1000 Z) (hd:0<Z.D) (hfb:∀j,j<n->Z.F j<n+m) (hm:m<=100000) (hn:n<=30) (hR:R<=1000):
 ec 216 [jT m n fr sc Z,eI n,eI R] [] (p5 (rF R (prK n fr sc Z.F (fun j=>-(Z.C j)) (Z.D*1) (fun _=>0) n))) []:=by
 have m1:(X6 n Z.F).length=n:=l9 _ _;have lD:=hB.d;have l1:bl 1<=1:=o7 de de;have lq:=E3 Z.D 1;have hq:0<Z.D*1:=om;have z0:∀H:Hp,H.length=0->a02 Tryz.prog 284 [eI R] H (.c (.own 0 0 R true)) [flB (rF R fun _=>0)]:=fun H hH=>by
  have:=a2d (H:=H) (b9i R hR) rfl rfl (e7 _);rwa [hH] at this
 have mq:=aj6 Z.D 1 om om;have r0:∀i:Nat,rl ((fun _=>(0:Rat)) i)<=1:=fun i=>rl0
 refine ac Tryz.func216 ?_;conv=>whnf
 repeat' (first|refine zx ?_|refine .inl ⟨_,_,z0 _ rfl,?_⟩|apply zD<;>intro h<;>try omega)<;>conv=>whnf
 refine i7 d9 (fun k=>([jT m n fr sc Z,eI n,J,J,J,J,J,S.c (C.own 0 0 R true),eI k]++Jn 50,[flB (rF R (prK n fr sc Z.F (fun j=>-(Z.C j)) (Z.D*1) (fun _=>0) k))])) n tT [some 0] trivial
  ⟨rfl,rfl,⟨I7 rfl,trivial⟩,⟨rfl,rfl,⟨rfl,rfl,rfl,fun h=>h⟩,d7 rfl,trivial⟩⟩ ?_
 intro k hk _;by_cases hlt:k<n
 ·have hF1:=hfb k hlt;have lc:=hB.c k hlt;have ng:=a5F (Z.C k) om;have hy:=b6r (n:=n) (fr:=fr) (sc:=sc) (F:=Z.F) (P:=fun j=>-(Z.C j)) hq r0 om hF.b k (fun j hj=>by rw [U7];exact hB.c j om);by_cases hge:n<=Z.F k
  ·obtain ⟨f,hf⟩:∃f,fr[Z.F k - n]? =some f:=⟨_,lbf (by have:=hF.lf;omega)⟩;have hfr:=hF.r f (lbm hf);have ch:=b5M m n R (Z.F k - n) f.1 (1+k*1020) f.2 fr sc Z (prK n fr sc Z.F (fun j=>-(Z.C j)) (Z.D*1) (fun _=>0) k) (-(Z.C k)) (Z.D*1) hF.ls om hf hfr hq hy om (by rw [U7];omega) om hF.b hm;rw [show (((Z.F k - n:Nat):Nat):Int)=(Z.F k:Int) - (n:Int) by omega] at ch;have e:prK n fr sc Z.F (fun j=>-(Z.C j)) (Z.D*1) (fun _=>0) (k+1)=aQ2 fr sc (prK n fr sc Z.F (fun j=>-(Z.C j)) (Z.D*1) (fun _=>0) k) (Z.F k - n) (-(Z.C k)) (Z.D*1):=by rw [prK,if_pos hge]
   conv=>whnf
   repeat' (first|refine zx ?_|refine .inr ⟨_,_,ch,?_⟩|refine s8 rfl hlt ?_|refine a0q rfl hlt ?_|apply zD<;>intro h<;>try omega)<;>conv=>whnf
   all_goals first|omega|exact ⟨hlt,trivial,[some 0],rfl,rfl,⟨I7 (by rw [e]),trivial⟩,⟨rfl,rfl,⟨rfl,rfl,rfl,fun h=>h⟩,d7 om,trivial⟩⟩
  ·have e:prK n fr sc Z.F (fun j=>-(Z.C j)) (Z.D*1) (fun _=>0) (k+1)=prK n fr sc Z.F (fun j=>-(Z.C j)) (Z.D*1) (fun _=>0) k:=by rw [prK,if_neg hge]
   conv=>whnf
   repeat' (first|refine zx ?_|refine s8 rfl hlt ?_|apply zD<;>intro h<;>try omega)<;>conv=>whnf
   all_goals first|omega|exact ⟨hlt,trivial,[some 0],rfl,rfl,⟨I7 (by rw [e]),trivial⟩,⟨rfl,rfl,⟨rfl,rfl,rfl,fun h=>h⟩,d7 om,trivial⟩⟩
 ·have hke:k=n:=by omega
  subst hke;conv=>whnf
  repeat' (first|refine zx ?_|apply zD<;>intro h<;>try omega)<;>conv=>whnf
  all_goals first|omega|exact I4 rfl (fun h=>h) rfl rfl (by simp [K5])
def b8O {α:Type} {f:α->List T} {l:List α} {k:Nat} {u:α} (hu:l[k]? =some u) {Φ:List T->Prop} (h:Φ (f u)):
 ∃row,(0<=bif true then if 0 > ((k+1:Nat):Int) - 1 then 0 else ((k+1:Nat):Int) - 1 else if 0<((k+1:Nat):Int) - 1 then 0 else ((k+1:Nat):Int) - 1)∧
  (l.map f)[(bif true then if 0 > ((k+1:Nat):Int) - 1 then 0 else ((k+1:Nat):Int) - 1 else if 0<((k+1:Nat):Int) - 1 then 0 else ((k+1:Nat):Int) - 1).toNat]? =some row∧Φ row:=by
 have e:(bif true then if 0 > ((k+1:Nat):Int) - 1 then 0 else ((k+1:Nat):Int) - 1 else if 0<((k+1:Nat):Int) - 1 then 0 else ((k+1:Nat):Int) - 1)=(k:Int):=by
  show (if 0 > ((k+1:Nat):Int) - 1 then 0 else ((k+1:Nat):Int) - 1)=_;rw [if_neg om];omega
 rw [e];exact ⟨f u,om,by rw [lbZ,lba,hu];rfl,h⟩
def T2 (l:List (Int × Rat)) (n:Int) (hl:l.length<=1000000) (hB:∀t ∈ l,rl t.2<=200):ec 160 [m8 l,eI n] [] (j8 (decide (0<=n) && j9 (-1) n l)) []:=by
 have m1:(l.map k6).length=l.length:=zq;by_cases h0:n<0
 ·rw [lbK om,a1Z];refine ac Tryz.func160 ?_;conv=>whnf
  repeat' (first|refine zx ?_|apply zD<;>intro h<;>try omega)<;>conv=>whnf
  all_goals first|omega|exact g9 rfl
 rw [lbI om,H9];refine ac Tryz.func160 ?_;conv=>whnf
 repeat' (first|refine zx ?_|apply zD<;>intro h<;>try omega)<;>conv=>whnf
 all_goals try omega
 refine i7 d9 (fun k=>([m8 l,eI n,J,J,J,eI k]++Jn 59,[])) l.length (fun k=>j9 (-1) n l=j9 (a49 l k) n (l.drop k)∧-1<=a49 l k) [] ⟨rfl,ab0 _⟩
  rz ?_
 rintro k hk ⟨hI,hJ⟩;by_cases hlt:k<l.length
 ·obtain ⟨t,ht⟩:∃t,l[k]? =some t:=⟨_,lbf hlt⟩;obtain ⟨v,c⟩:=t;have bc:=hB _ (lbm ht);simp only at bc;have rr:=aa5 c om;have sz:(fz c).p.sg=0↔c=0:=by
   show c.num.sign=0↔c=0;rw [b25];exact Rat.num_eq_zero
  rw [a1y ht,j9] at hI;simp only at hI;by_cases hok:a49 l k<v∧v<n∧c≠0
  ·rw [lbI hok.1,lbI hok.2.1,lbI hok.2.2] at hI;simp only [H9] at hI;have hne:(fz (v,c).2).p.sg≠0:=fun h=>hok.2.2 (sz.1 h)
   obtain ⟨q1,q2,_⟩:=hok;cases k with
   |zero=>
    conv=>whnf
    repeat' (first|refine zx ?_|refine f7 ht ?_|apply zD<;>intro h<;>try omega)<;>conv=>whnf
    all_goals first
     |omega
     |exact ⟨hlt,⟨by rw [W1 ht];exact hI,by rw [W1 ht];simp only;omega⟩,[],rz⟩
   |succ k=>
    obtain ⟨u,hu⟩:∃u,l[k]? =some u:=⟨_,lbf om⟩;rw [W1 hu] at q1 hJ;conv=>whnf
    repeat' (first|refine zx ?_|refine f7 ht ?_|refine b8O hu ?_|apply zD<;>intro h<;>try omega)<;>conv=>whnf
    all_goals first|omega|exact ⟨hlt,⟨by rw [W1 ht];exact hI,by rw [W1 ht];simp only;omega⟩,[],rz⟩
  ·have hF:j9 (-1) n l=false:=by
    rw [hI];rw [← lbR];simp only [lbO,lbJ];exact fun h=>hok ⟨h.1.1.1,h.1.1.2,h.1.2⟩
   rw [hF];have hor:v<=a49 l k∨n<=v∨(fz (v,c).2).p.sg=0:=by
    by_cases q1:a49 l k<v
    ·by_cases q2:v<n
     ·refine .inr (.inr (sz.2 ?_));by_cases q3:c=0
      ·exact q3
      ·exact absurd ⟨q1,q2,q3⟩ hok
     ·exact .inr (.inl om)
    ·exact .inl om
   clear hI hok;cases k with
   |zero=>
    have e0:a49 l 0=-1:=rfl;conv=>whnf
    repeat' (first|refine zx ?_|refine f7 ht ?_|apply zD<;>intro h<;>try omega)<;>conv=>whnf
    all_goals first
     |omega
     |exact g9 rfl
   |succ k=>
    obtain ⟨u,hu⟩:∃u,l[k]? =some u:=⟨_,lbf om⟩;rw [W1 hu] at hor;conv=>whnf
    repeat' (first|refine zx ?_|refine f7 ht ?_|refine b8O hu ?_|apply zD<;>intro h<;>try omega)<;>conv=>whnf
    all_goals first|omega|exact g9 rfl
 ·rw [lbo om] at hI;have hI:j9 (-1) n l=true:=hI;rw [hI];conv=>whnf
  repeat' (first|refine zx ?_|apply zD<;>intro h<;>try omega)<;>conv=>whnf
  all_goals first|omega|exact g9 rfl
def bC6 (w:z7) (n:Int) (hl:w.terms.length<=1000000) (hB:∀t ∈ w.terms,rl t.2<=200) (hv:rl w.value<=200):ec 275 [aw9 w,eI n] [] (j8 (decide (0<=n) && v6 n w)) []:=by
 have rt:=T2 w.terms n hl hB;have rv:=aa5 w.value om;unfold v6;cases h1:decide (0<=n)<;>cases h2:j9 (-1) n w.terms<;>rw [h1,h2] at rt<;>
 ·refine ac Tryz.func275 ?_;conv=>whnf
  repeat' (first|refine zx ?_|apply zD<;>intro<;>try omega)<;>conv=>whnf
  all_goals first|(exfalso;simp_all;done)|(refine g9 ?_;simp;done)|(refine g9 ?_;simp;omega)
theorem a8l (s:j2) (hb:aI2 s):d6 Tryz.prog 211 [S9 s] [] (j8 (n7 s)) []:=by
 have m1:(s.rows.map w5).length=s.rows.length:=by simp
 have l1:=hb.n0
 by_cases h0:¬(0<=s.n∧s.n<=1500∧s.rows.length<=6000)
 ·have e1:n7 s=false:=by
   unfold n7
   rw [← lbR]
   simp only [lbO,lbJ]
   exact fun h=>h0 ⟨h.1.1.1,h.1.1.2,h.1.2⟩
  rw [e1]
  (refine ac Tryz.func211 ?_;(conv=>whnf);repeat ((first|refine b0x ?_|refine zy ?_);conv=>whnf))
  repeat' (first|refine zx ?_|refine zd ?_ ?_<;>intro h<;>try omega|fail)<;>conv=>whnf
  all_goals first
   |omega
   |exact g9 rfl
 obtain ⟨c1,c2,c3⟩:=Decidable.not_not.1 h0
 have e1:n7 s=s.rows.all (v6 s.n):=by
  unfold n7
  rw [lbI c1,lbI c2,lbI c3];rfl
 rw [e1]
 clear h0
 (refine ac Tryz.func211 ?_;(conv=>whnf);repeat ((first|refine b0x ?_|refine zy ?_);conv=>whnf))
 repeat' (first|refine zx ?_|refine zd ?_ ?_<;>intro h<;>try omega|fail)<;>conv=>whnf
 all_goals try omega
 refine i7 d9 (fun k=>([J,S.c (C.t (T.ptr [ti s.n,J7 s.rows])),J,c9 .i64 k]++Jn 30,[])) s.rows.length (fun k=>(s.rows.take k).all (v6 s.n)=true) [] rfl
  ⟨rfl,rfl,trivial,⟨rfl,rfl,trivial⟩⟩ ?_
 intro k hk hI
 by_cases hlt:k<s.rows.length
 ·obtain ⟨w,hw⟩:∃w,s.rows[k]? =some w:=⟨_,lbf hlt⟩
  obtain ⟨b1,b2,b3⟩:=hb.t w (lbm hw)
  have rt:=bC6 w s.n (by omega) b2 b3
  rw [lbI c1,H9] at rt
  cases hrt:v6 s.n w with
  |false=>
   rw [hrt] at rt
   rw [C5 hw hrt]
   conv=>whnf
   repeat' (first|refine zx ?_|refine qp rt ?_|refine f7 hw ?_|refine zd ?_ ?_<;>intro h<;>try omega|fail)<;>conv=>whnf
   all_goals first
    |omega
    |(exfalso;simp_all;done)
    |exact g9 rfl
  |true=>
   rw [hrt] at rt
   conv=>whnf
   repeat' (first|refine zx ?_|refine qp rt ?_|refine f7 hw ?_|refine zd ?_ ?_<;>intro h<;>try omega|fail)<;>conv=>whnf
   all_goals first
    |omega
    |(exfalso;simp_all;done)
    |exact ⟨hlt,by rw [y9 hw,hI,hrt];rfl,[],rfl,rfl,trivial,⟨rfl,rfl,trivial⟩⟩
 ·rw [lbn (by omega)] at hI
  rw [hI]
  conv=>whnf
  repeat' (first|refine zx ?_|refine zd ?_ ?_<;>intro h<;>try omega|fail)<;>conv=>whnf
  all_goals first
   |omega
   |exact g9 rfl
def b92 (z:List Fr) (hl:z.length<=1000000) (hd:∀f ∈ z,f.p.dl.length<=200000∧f.q.dl.length<=200000):ec 234 [p5 z] [] (j8 (z.all Q9)) []:=by
 have m1:(z.map t5).length=z.length:=zq;refine ac Tryz.func234 ?_;conv=>whnf
 repeat' (first|refine zx ?_|apply zD<;>intro<;>try omega)<;>conv=>whnf
 refine i7 d9 (fun k=>([p5 z,J,J,eI k]++Jn 12,[])) z.length (fun k=>(z.take k).all Q9=true) [] rfl
  rz ?_
 intro k hk hI;by_cases hlt:k<z.length
 ·obtain ⟨f,hf⟩:∃f,z[k]? =some f:=⟨_,lbf hlt⟩;have q:=hd f (lbm hf);have rr:=b3v f q.1 q.2;cases hff:Q9 f with
  |true=>
   rw [hff] at rr;conv=>whnf
   repeat' (first|refine zx ?_|refine f7 hf ?_|apply zD<;>intro<;>try omega)<;>conv=>whnf
   all_goals first
    |omega
    |exact ⟨hlt,by rw [y9 hf,hI,hff];rfl,[],rz⟩
  |false=>
   rw [hff] at rr;rw [C5 hf hff];conv=>whnf
   repeat' (first|refine zx ?_|refine f7 hf ?_|apply zD<;>intro<;>try omega)<;>conv=>whnf
   all_goals first|omega|exact g9 rfl
 ·rw [lbn om] at hI;rw [hI];conv=>whnf
  repeat' (first|refine zx ?_|apply zD<;>intro<;>try omega)<;>conv=>whnf
  all_goals first|omega|exact g9 rfl
def aT7 (z:List Rat) (hl:z.length<=1000000) (hd:∀v ∈ z,rl v<=200000):ec 234 [p5 (z.map fz)] [] (j8 true) []:=by
 have pt:=b92 (z.map fz) (by simpa using hl) (fun f hf=>by
  obtain ⟨x,hx,rfl⟩:=lby.1 hf;have:=hd x hx;have a:=G9 x;have b:=H6 x;exact ⟨by show bl x.num<=_;omega,by show bl x.den<=_;omega⟩)
 rw [a9F] at pt;exact pt
def aH8 (l:List (Int × Rat)) (z:List Rat) (hl:l.length<=1000000) (h1:∀t ∈ l,rl t.2<=200) (h2:∀v ∈ z,rl v<=40000) (hS:∀k,rl (n8 (l.take k) z)<=60000) (hz:z.length<=1000000) (hr:j9 (-1) z.length l=true):
 ec 157 [m8 l,p5 (z.map fz)] [] (.tup [frS (fz (n8 l z)),j8 true]) []:=by
 have m1:(l.map k6).length=l.length:=zq;have m2:((z.map fz).map t5).length=z.length:=zq;have i0:=a5s 0 de de;have rt:=T2 l z.length hl h1;rw [lbI om,hr] at rt;have rt2:ec 160 [m8 l,eI (((z.map fz).map t5).length:Nat)] [] (j8 (true && true)) []:=by rw [m2];exact rt
 have pt:=aT7 z hz (fun v hv=>by have:=h2 v hv;omega);refine ac Tryz.func157 ?_;conv=>whnf
 repeat' (first|refine zx ?_|apply zD<;>intro<;>try omega)<;>conv=>whnf
 all_goals try (exfalso;simp_all;done)
 refine i7 d9 (fun k=>([m8 l,p5 (z.map fz),J,J,sP 0 0 0,J,sP 1 0 0,eI k]++Jn 44,[frB M4,frB (fz (n8 (l.take k) z))])) l.length tT [some 0,some 1] trivial
  ⟨rfl,rfl,⟨⟨rfl,rfl,rfl,.inr rz⟩,⟨rfl,rfl,rfl,.inl ⟨rfl,Q0 _⟩⟩,trivial⟩,rz⟩ ?_
 intro k hk _;by_cases hlt:k<l.length
 ·obtain ⟨t,ht⟩:∃t,l[k]? =some t:=⟨_,lbf hlt⟩;obtain ⟨v,c⟩:=t;have hv:=a9Q hr _ (lbm ht);simp only at hv;have bc:=h1 _ (lbm ht);simp only at bc;obtain ⟨x,hx⟩:∃x,z[v.toNat]? =some x:=⟨_,lbf om⟩;have hxd:z.getD v.toNat 0=x:=by rw [lbl,hx];rfl
  have bx:=h2 x (lbm hx);have b3:=a52 c x;have bs:=hS k;have mu:=bl7 c x om om;have ad:=al7 (n8 (l.take k) z) (c*x) om om;have e:n8 (l.take k) z+c*x=n8 (l.take (k+1)) z:=by
   have:l.take (k+1)=l.take k++[(v,c)]:=by rw [lbH,ht];rfl
   rw [this,R5,←hxd]
  rw [e] at ad;have xz:(z.map fz)[v.toNat]? =some (fz x):=by rw [lba,hx];rfl
  conv=>whnf
  repeat' (first|refine zx ?_|refine f7 ht ?_|refine x5 om xz ?_|refine bl0 [16] ?_|refine bl0 [5] ?_|apply zD<;>intro<;>try omega)<;>conv=>whnf
  all_goals first|omega|exact ⟨hlt,trivial,[some 0,some 1],rfl,rfl,⟨⟨rfl,rfl,rfl,.inl ⟨rfl,Q0 _⟩⟩,⟨rfl,rfl,rfl,.inl ⟨rfl,Q0 _⟩⟩,trivial⟩,rz⟩
 ·have hke:k=l.length:=by omega
  subst hke;rw [lbn (lbS _)];conv=>whnf
  repeat' (first|refine zx ?_|apply zD<;>intro<;>try omega)<;>conv=>whnf
  all_goals first|omega|exact n9 rz
abbrev bB9 (m n:Nat) (D:Int):Blk:={ mode:=.live,elem:=274,size:=12,rows:=[[C.own 2 0 m true,.own 3 0 m true,.own 4 0 n true,.t (ti (bz D).sg),.t (w7 (bz D).dl),.own 5 0 m true,.own 6 0 n true,.own 7 0 m true,.own 8 0 m true,.own 9 0 m true,.t (ti (bz 1).sg),.t (w7 (bz 1).dl)]],box:=true }
abbrev bo2 (m n:Nat) (fr:LB) (sc:LI) (Z:Zd) (b:Blk):Hp:=
 b::bB9 m n Z.D::zlB (zF m Z.V)::hdB 10 m n::zlB (zF n Z.C)::R3 m Z.O::R3 n Z.F::o8 (frI fr)::o8 (T3 fr)::zlB sc::(mZ m n Z.A).map zlB
def bv0 {m n:Nat} {fr:LB} {sc:LI} {Z:Zd} {g:FuncId} {args:List S} (b:Blk) (ha:args.map (a73 [])=args) (hok:args.all (okS 0)=true) (h:ec g args [] (.c (.ptr 0 0 0)) (K2 m n fr sc Z [])):
 ec g args [b] (.c (.ptr 1 0 0)) (bo2 m n fr sc Z b):=by
 have hlen:(K2 m n fr sc Z []).length=m+9:=W5;have hsub:(K2 m n fr sc Z []).length - ([]:Hp).length=m+9:=by rw [hlen];simp
 have g1:∀i,i<m+9->(a4Z [] ([b]:Hp).length ((K2 m n fr sc Z []).length - ([]:Hp).length)).getD i 0=i+1:=fun i hi=>by
  rw [hsub];exact b3Y hi
 refine W4 [] h ha.symm hok rfl List.nodup_nil zq (fun k hk=>by rw [(a19 k hk).1];intro h;cases h) zq rfl ?_ (by rw [hsub];simp [e8];omega) ?_ ?_
 ·show S.c (.ptr 1 0 0)=S.c (.ptr _ 0 0);rw [g1 0 om]
 ·intro i k hk;have hi:i<m+9:=by rw [← hlen];exact (lbe.1 hk).1
  rw [g1 i hi];rcases i with _|_|_|_|_|_|_|_|_|i
  ·injection hk with hk;subst hk
   refine ⟨_,rfl,rfl,rfl,rfl,rfl,?_⟩;simp only [a7H,ad9,List.map_nil,a1m,Z4];rw [g1 1 om,g1 2 om,g1 3 om,g1 4 om,g1 5 om,g1 6 om,g1 7 om,g1 8 om]
  ·injection hk with hk;subst hk;exact ⟨_,rfl,B3 rfl⟩
  ·injection hk with hk;subst hk
   refine ⟨_,rfl,rfl,rfl,rfl,rfl,?_⟩;unfold a7H;show hdR 10 _ _=(hdR 9 _ _).map _;unfold hdR;rw [a4P];refine lbp fun j hj=>?_
   have hj:=lbC.1 hj;show _=a1m _ [C.own (j+9) 0 n true];simp only [a1m,Z4];rw [g1 (j+9) om]
  ·injection hk with hk;subst hk;exact ⟨_,rfl,B3 rfl⟩
  ·injection hk with hk;subst hk;exact ⟨_,rfl,B3 rfl⟩
  ·injection hk with hk;subst hk;exact ⟨_,rfl,B3 rfl⟩
  ·injection hk with hk;subst hk;exact ⟨_,rfl,B3 rfl⟩
  ·injection hk with hk;subst hk;exact ⟨_,rfl,B3 rfl⟩
  ·injection hk with hk;subst hk;exact ⟨_,rfl,B3 rfl⟩
  ·have hk:((mZ m n Z.A).map zlB++[])[i]? =some k:=hk;rw [Y7] at hk;refine ⟨k,hk,?_⟩;obtain ⟨l,_,rfl⟩:=lby.1 (lbm hk);exact B3 rfl
 ·intro j hj _;have:j=0:=by simpa using hj
  subst this;rfl
def fSJ (m:Nat):Nat->Nat:=fun i=>if i<m+9 then i+1 else 0
def au0 {m n:Nat} {fr:LB} {sc:LI} {Z:Zd} {b:Blk} {env env':Env} {H:Hp} (hb:J9 b.rows) (hH:H=bo2 m n fr sc Z b) (hE:Z1 (fR (m+10) (fSJ m)) H env env'):
 Ent 0 (fR (m+10) (fSJ m)) env H env' (K2 m n fr sc Z [b]):=by
 subst hH;have fa:∀i,i<m+9->fSJ m i=i+1:=fun i hi=>by unfold fSJ;rw [if_pos hi]
 have ff:∀i,i<m+9->(fR (m+10) (fSJ m))[i]? =some (some (i+1)):=fun i hi=>by rw [x3 om,fa i hi]
 refine a9A (by simp [e8]) om (fun i hi=>om) (fun i j hi hj h=>by unfold fSJ at h;(repeat' split at h)<;>omega) ?_ hE;intro i k' hk;rcases i with _|_|_|_|_|_|_|_|_|i
 ·injection hk with hk;subst hk
  rw [fa 0 om];exact ⟨_,rfl,rfl,rfl,rfl,.inr ⟨⟨⟨ff _ om,rfl,rfl,fun h=>h⟩,⟨ff _ om,rfl,rfl,fun h=>h⟩,⟨ff _ om,rfl,rfl,fun h=>h⟩,rfl,rfl,⟨ff _ om,rfl,rfl,fun h=>h⟩,⟨ff _ om,rfl,rfl,fun h=>h⟩,⟨ff _ om,rfl,rfl,fun h=>h⟩,⟨ff _ om,rfl,rfl,fun h=>h⟩,⟨ff _ om,rfl,rfl,fun h=>h⟩,rz⟩,trivial⟩⟩
 ·injection hk with hk;subst hk;rw [fa 1 om];exact ⟨_,rfl,f5 (e7 _)⟩
 ·injection hk with hk;subst hk
  rw [fa 2 om];refine ⟨_,rfl,rfl,rfl,rfl,.inr (a1O (by show (hdR 10 m n).length=(hdR 9 m n).length;simp [z9]) fun i x y hx hy=>?_)⟩;have hx:(hdR 10 m n)[i]? =some x:=hx;have hy:(hdR 9 m n)[i]? =some y:=hy;have hi:i<m:=by have:=(lbe.1 hx).1;rwa [z9] at this
  rw [a8j hi] at hx hy;injection hx with hx;injection hy with hy
  subst hx hy;exact ⟨⟨ff _ om,rfl,rfl,fun h=>h⟩,trivial⟩
 ·injection hk with hk;subst hk;rw [fa 3 om];exact ⟨_,rfl,f5 (e7 _)⟩
 ·injection hk with hk;subst hk;rw [fa 4 om];exact ⟨_,rfl,f5 (e7 _)⟩
 ·injection hk with hk;subst hk;rw [fa 5 om];exact ⟨_,rfl,f5 (e7 _)⟩
 ·injection hk with hk;subst hk;rw [fa 6 om];exact ⟨_,rfl,f5 (e7 _)⟩
 ·injection hk with hk;subst hk;rw [fa 7 om];exact ⟨_,rfl,f5 (e7 _)⟩
 ·injection hk with hk;subst hk;rw [fa 8 om];exact ⟨_,rfl,f5 (e7 _)⟩
 ·have hk:((mZ m n Z.A).map zlB++[b])[i]? =some k':=hk;by_cases hi:i<m
  ·rw [E9 (Z6 hi)] at hk;injection hk with hk;subst hk
   rw [fa _ om];refine ⟨zlB (zF n (Z.A i)),?_,f5 (e7 _)⟩;show ((mZ m n Z.A).map zlB)[i]? =_;rw [lba,Z6 hi];rfl
  ·obtain ⟨t,rfl⟩:∃t,i=m+t:=⟨i - m,om⟩;rw [aK6] at hk;rcases t with _|t
   ·injection hk with hk;subst hk
    have:fSJ m (m+0+9)=0:=by unfold fSJ;rw [if_neg om]
    rw [this];exact ⟨_,rfl,f5 hb⟩
   ·simp at hk
def b2Q {m n:Nat} {fr:LB} {sc:LI} {Z:Zd} {env env':Env} (b:Blk) (hb:J9 b.rows) (hE:a7c [some (m+9)] (K2 m n fr sc Z [b]) env env'):b7f 0 [some (m+9)] env (K2 m n fr sc Z [b]) env' [b]:=by
 refine ⟨rfl,?_,a3m rfl fun i k' hk=>?_,hE⟩
 ·simp only [U4,a5p];cases b.mode<;>rfl
 ·rcases i with _|i
  ·injection hk with hk;subst hk
   exact ⟨m+9,_,rfl,aK6 (j:=0),f5 hb⟩
  ·simp at hk
structure LJ (s:j2) (g:List (Int × Rat)):Prop where
 sm:I8 s
 w:z5 g
 tg:j9 (-1) ((s.n.toNat:Nat):Int) g=true
def b2A {s:j2} (h:I8 s):LJ s []:=⟨h,(fun t ht=>by cases ht),rfl⟩
def bo1 {s:j2} {g:List (Int × Rat)} (h:LJ s g):bA5 s g s.n.toNat:=⟨h.sm,h.tg,(L3 h.sm.r).symm,h.w⟩
abbrev Mj (s:j2):Nat:=(i8 (j1 s)).length
def aT2 {s:j2} (h:I8 s):Mj s<=2000:=by
 have:=a0C (s:=j1 s) (j1 s).rows.length;have e:(j1 s).rows.length=s.rows.length:=lbr ..;have:=h.l;show (G3 (j1 s) (j1 s).rows.length).length<=2000;omega
noncomputable abbrev Zj (s:j2) (g:List (Int × Rat)) (D:Fd):Zd:=Y2 (Mj s) (j1 s).n.toNat (j5 (j1 s) g) D
noncomputable abbrev b0O (s:j2) (g:List (Int × Rat)) (D:Fd) (T:Hp):Hp:=K2 (Mj s) s.n.toNat (i8 (j1 s)) (scL s (i8 (j1 s))) (Zj s g D) T
def b8M {s:j2} {g:List (Int × Rat)} (h:LJ s g):bx2 (Mj s) s.n.toNat (j5 (j1 s) g) (fun j=>-(A7 g j)):=by
 have hn:=L3 h.sm.r;have:=h.sm.n;refine ⟨by have:=aT2 h.sm;omega,om,a8O,U0,fun D hD=>?_⟩;obtain ⟨h1,h2⟩:=aV0 h.sm h.w hD;exact ⟨h1,fun i hi=>lbT (h2.v i hi) de,fun i hi j hj=>lbT (h2.a i hi j hj) de,fun j hj=>lbT (h2.c j hj) de,lbT h2.d de⟩
def bg1 {s:j2} {g:List (Int × Rat)} (h:LJ s g):d6 Tryz.prog 212 [S9 s,m8 g] [] (.c (.ptr 0 0 0)) (b0O s g (j5 (j1 s) g) []):=by
 have op:=b7u s g s.n.toNat (bo1 h)
 have hD:=b16 h.sm h.w
 have e:G7 (Mj s) s.n.toNat s.n.toNat (i8 (j1 s)) (scL s (i8 (j1 s))) 1 (V0 s g) (C0 g g.length) (fun i=>s.n.toNat+i) (fun j=>j) (A0 s g) []=b0O s g (j5 (j1 s) g) []:=by
  have hD':b2h (Mj s) (j1 s).n.toNat (j5 (j1 s) g) (j5 (j1 s) g)=1:=hD
  have e1:∀x:Rat,((((b2h (Mj s) (j1 s).n.toNat (j5 (j1 s) g) (j5 (j1 s) g):Int):Rat))*x).num=x.num:=fun x=>by
   rw [hD'];congr 1;show (1:Rat)*x=x;grind
  refine a6M (Z:=⟨V0 s g,A0 s g,C0 g g.length,1,fun i=>s.n.toNat+i,fun j=>j⟩) ⟨fun i _=>(e1 _).symm,fun i _ j _=>(e1 _).symm,fun j _=>(e1 _).symm,hD.symm,rfl,rfl⟩
 rw [e] at op
 exact op
def a90 {s:j2} {g:List (Int × Rat)} (h:LJ s g) (T:Hp):ec 213 [.c (.ptr 0 0 0)] (b0O s g (j5 (j1 s) g) T) (.tup [eI (a6q (X7 (j1 s) g)).1,eI (a6q (X7 (j1 s) g)).2]) (b0O s g (y8 (j1 s) g) T):=
 aE4 T (b2F _ _ _ _ _ _ (b8M h) rfl (ah5 ..)) (by simp [okS,okC,a0T]) rfl rfl
def aQ0 {s:j2} {g:List (Int × Rat)} (h:LJ s g):aH1 (Mj s) s.n.toNat (Zj s g (y8 (j1 s) g)) (y8 (j1 s) g)∧ZB (Mj s) s.n.toNat 1000 (Zj s g (y8 (j1 s) g))∧X8 (Mj s) s.n.toNat (y8 (j1 s) g):=by
 obtain ⟨h1,h2⟩:=(b8M h).d _ (a34 U0).1;exact ⟨(a6V h1).2,h2,O3.p⟩
def bn4 {s:j2} (h:I8 s):FrP (Mj s) s.rows.length (i8 (j1 s)) (scL s (i8 (j1 s))):=by
 refine ⟨rfl,ah5 ..,fun f hf=>?_,fun i=>?_⟩
 ·obtain ⟨w,hw,_⟩:=Q1.1 hf;have:=(lbe.1 hw).1;have e:(j1 s).rows.length=s.rows.length:=lbr ..;omega
 ·have l0:bl 0<=1:=o7 de de;have l1:bl 1<=1:=o7 de de;have key:∀f:Nat × Bool,bl (b7y s f)<=10:=fun f=>by
   unfold b7y;cases hw:s.rows[f.1]? with
   |none=>show bl 1<=10;omega
   |some w=>
    have:=(a3R (h.i w (lbm hw)).2).1;have:=a0Z w.value;have:=o7 (x:=(w.value.den:Int)) om om;show bl (w.value.den:Int)<=10;omega
  unfold scL;rw [lbl,lba];cases (i8 (j1 s))[i]? with
  |none=>show bl 0<=10;omega
  |some f=>exact key f
def aQ8 {s:j2} (h:I8 s):aI2 s:=by
 refine ⟨by have:=h.l;omega,fun w hw=>?_⟩;obtain ⟨k,hk,hkw⟩:=X4 hw;have hwk:s.rows[k]? =some w:=by rw [lbf hk,hkw]
 have hn:=L3 h.r;have hrw:=(Y4 h.r hwk).1;rw [hn] at hrw;have hl:=v8 hrw;have:=h.n;have hI:=h.i w hw;obtain ⟨d1,d2⟩:=a3R hI.2;have d3:=a0Z w.value;have b1:=o7 (x:=(w.value.den:Int)) om om;have b2:=S2 (x:=w.value.num) om om;exact ⟨om,fun t ht=>lbT (D5 hI.1 t ht) de,by show max _ _<=200;omega⟩
abbrev by2 (o:bD8):S:=.agg (C.t (ti o.kind)::frC o.value++[C.t (z4 (o.X.map fz)),C.t (z4 (o.Y.map fz)),C.t (z4 (o.R.map fz))])
def b2O {s:j2} {g:List (Int × Rat)} {D:Fd} {T:Hp} {p:Nat->Prop} (hp:∀i,i<Mj s+9->p i):VY (b0O s g D T) p (.ptr 0 0 0) (.ptr (bh4 (Mj s) s.n.toNat (i8 (j1 s)) (scL s (i8 (j1 s))) (Zj s g D))):=b5E rfl (ah5 ..) hp
noncomputable abbrev dJ (s:j2) (g:List (Int × Rat)):S:=jT (Mj s) s.n.toNat (i8 (j1 s)) (scL s (i8 (j1 s))) (Zj s g (y8 (j1 s) g))
def b8x {s:j2} {g:List (Int × Rat)} (h:LJ s g):ec 215 [dJ s g,eI s.n] [] (p5 ((u9 (j1 s) g).map fz)) []:=by
 obtain ⟨h1,h2,h3⟩:=aQ0 h;have hn:=L3 h.sm.r;have:=h.sm.n;have:=aT2 h.sm;have pt:=b9L (Mj s) s.n.toNat (i8 (j1 s)) (scL s (i8 (j1 s))) _ _ h1 h3 h2 om om;rw [hn] at pt;exact pt
def bq8 {s:j2} {g:List (Int × Rat)} (h:LJ s g) {c:Nat} (hc:c<s.n.toNat):ec 217 [dJ s g,eI s.n,eI c] [] (p5 ((a1W (j1 s) g c).map fz)) []:=by
 obtain ⟨h1,h2,h3⟩:=aQ0 h;have hn:=L3 h.sm.r;have:=h.sm.n;have:=aT2 h.sm;have pt:=bF4 (Mj s) s.n.toNat (i8 (j1 s)) (scL s (i8 (j1 s))) _ _ c hc h1 h3 h2 om om;rw [hn] at pt;exact pt
def b4G {s:j2} {g:List (Int × Rat)} (h:LJ s g):∃Y:List Rat,ec 216 [dJ s g,eI s.n,eI s.rows.length] [] (p5 (Y.map fz)) []:=by
 obtain ⟨h1,h2,h3⟩:=aQ0 h;have hn:=L3 h.sm.r;have:=h.sm.n;have:=h.sm.l;have:=aT2 h.sm;have pt:=b6I (Mj s) s.n.toNat s.rows.length _ _ _ (bn4 h.sm) h2 h1.d (fun j hj=>by rw [h1.f];exact h3.fb j hj) om om om;rw [hn,←a7D] at pt;exact ⟨_,pt⟩
def aq8 {s:j2} {g:List (Int × Rat)} (h:LJ s g) (b:Blk):ec 212 [S9 s,m8 g] [b] (.c (.ptr 1 0 0)) (bo2 (Mj s) s.n.toNat (i8 (j1 s)) (scL s (i8 (j1 s))) (Zj s g (j5 (j1 s) g)) b):=
 bv0 b (by simp [a73,a1m,Z4]) (by simp [okS,okC,okL]) (bg1 h)
def b5V {P:Program} {g:FuncId} {x:S} {H H':Hp} {r:S} (h:d6 P g [x,m8 []] H r H'):d6 P g [x,.c (.t (.sl 0 .nil []))] H r H':=by
 refine a7n h rfl fun w ι M j a b v hx hy hr=>?_
 rcases j with _|_|j
 ·injection hx with hx;injection hy with hy;subst hx hy;exact hr
 ·injection hx with hx;injection hy with hy;subst hx hy
  cases hr with
  |c hr=>cases hr with
   |t hr=>exact .c (.t (hr.weak rfl))
 ·simp at hx
def b82 (m:Nat):fSJ m (m+9)=0:=by unfold fSJ;rw [if_neg om]
def b7q (m:Nat):fSJ m 0=1:=by unfold fSJ;rw [if_pos om]
def b9s (s:j2) (g:List (Int × Rat)) (h:LJ s g) (hout:X7 (j1 s) g=.best):∃Y:List Rat,
 ec 140 [S9 s,m8 g] [] (.tup [by2 ⟨0,fz (n8 g (u9 (j1 s) g)),u9 (j1 s) g,Y,[]⟩,eI 0]) []:=by
 have lr:=a8l s (aQ8 h.sm);rw [h.sm.r] at lr;have hn:=L3 h.sm.r;have hn9:=h.sm.n;have hgl:=v8 h.tg;have hg200:∀t ∈ g,rl t.2<=200:=fun t ht=>lbT (D5 h.w t ht) de
 have rt:=T2 g s.n om hg200;rw [← hn,lbI om,h.tg,hn] at rt;have m1:(s.rows.map w5).length=s.rows.length:=zq;have op:=aq8 h (bO z8);have se:=a90 h [bO z8];rw [hout] at se;obtain ⟨Y,pr⟩:=b4G h;rw [show s.rows.length=(s.rows.map w5).length from m1.symm] at pr;refine ⟨Y,?_⟩;have pt:=b8x h;have pl:(u9 (j1 s) g).length=s.n.toNat:=S8;have pb:=a6i h.sm h.w;have va:=aH8 g (u9 (j1 s) g) om hg200 (fun v hv=>lbT (pb v hv) de) (fun k=>by
  have:=a2u (D5 h.w) pb k;have:g.length*(25+4)<=9*29:=lbU om (lbS _);omega) om (by rw [pl];exact h.tg)
 (refine U1 d9 Tryz.func140 rfl de ?_;refine y4 d9 ?_;(conv=>whnf);repeat ((first|refine b0x ?_|refine zy ?_);conv=>whnf))
 repeat' (first|refine zz ?_|refine b0x ?_|apply zD<;>intro h<;>try omega|refine zy ?_|fail)<;>conv=>whnf
 (refine y4 d9 ?_;conv=>whnf)
 repeat' (first|refine zx ?_|apply zD<;>intro h<;>try omega)<;>conv=>whnf
 all_goals try (exfalso;simp_all;done)
 refine x9 d9 ([J,m8 g,S.c (C.t (T.ptr (a1F s))),J,S.c (C.ptr (Mj s+9) 0 0),eI 0,sP 0 0 0]++Jn 86) (b0O s g (j5 (j1 s) g) [bO z8]) ?_ ?_
 ·conv=>whnf
  repeat' (first|refine zx ?_|refine .inr ⟨_,_,op,?_⟩|refine G2 ?_|apply zD<;>intro h<;>try omega)<;>conv=>whnf
  exact ⟨_,au0 af2 rfl ⟨k8 rfl,k8 rfl,⟨by rw [x3 om,b82],rz⟩,rfl,⟨by rw [x3 om,b7q],rz⟩,trivial⟩⟩
 refine a1E d9 ([J,m8 g,S.c (C.t (T.ptr (a1F s))),J,sP 0 0 0,eI 0,dJ s g,eI (-1),eI (-1)]++Jn 84) [bO z8] ?_ ?_
 ·conv=>whnf
  repeat' (first|refine zx ?_|refine .inr ⟨_,_,se,?_⟩|refine f8 ?_|refine bl0 [4] ?_|apply zD<;>intro h<;>try omega)<;>conv=>whnf
  exact ⟨_,b2Q (bO z8) af2 ⟨.inl (k8 rfl),.inl (k8 rfl),.inl rz,.inl rfl,.inr (b2O fun i hi=>a2i hi),.inl rfl,.inl rfl,trivial⟩⟩
 (refine y4 d9 ?_;conv=>whnf)
 repeat' (first|refine zx ?_|apply zD<;>intro h<;>try omega)<;>conv=>whnf
 all_goals try omega
 refine p6 d9 _ ?_;conv=>whnf
 repeat' (first|refine zx ?_|refine bl0 [4] ?_|refine bl0 [5] ?_|apply zD<;>intro h<;>try omega)<;>conv=>whnf
 all_goals first|omega|exact n9 rz
def b69 (m n:Nat) (fr:LB) (sc:LI) (Z:Zd) (D:Fd) (hr:aH1 m n Z D) (hP:X8 m n D) (hB:ZB m n 1000 Z) (hm:m<=100000) (hn:n<=1000):
 ec 215 [jT m n fr sc Z,eI n] [] (.c (.own 0 0 n true)) [flB ((zOf n (a0j m n D 1 (fun _=>0))).map fz)]:=by
 have m1:(X6 m Z.O).length=m:=l9 _ _;have i0:=a8o 0 de de;have lD:=hB.d;rw [a7D,←s9 (g:=ptK n D.O D.V (fun _=>0) m) fun j hj=>a9p hP hj];refine ac Tryz.func215 ?_;conv=>whnf
 repeat' (first|refine zx ?_|refine a0x om om om de ?_|apply zD<;>intro h<;>try omega)<;>conv=>whnf
 refine i7 d9 (fun k=>([jT m n fr sc Z,eI n,J,J,J,S.c (C.own 0 0 n true),eI k]++Jn 52,[flB (pZ k n)])) n tT [some 0] trivial
  ⟨rfl,rfl,⟨a8H om,trivial⟩,⟨rfl,d7 rfl,⟨rfl,rfl,om,fun h=>h⟩,d7 rfl,trivial⟩⟩ ?_
 intro k hk _;by_cases hlt:k<n
 ·have eM:0+(k:Int).toNat=k:=by omega
  have gp:(pZ k n)[0+(k:Int).toNat]? =some (if k<k then fz 0 else M4):=by rw [eM];exact a4X hlt
  conv=>whnf
  repeat' (first|refine zx ?_|refine p8 gp ?_|apply zD<;>intro h<;>try omega)<;>conv=>whnf
  all_goals first|omega|exact ⟨hlt,trivial,[some 0],rfl,rfl,⟨I7 (aM1 eM hlt),trivial⟩,⟨rfl,rfl,⟨rfl,rfl,rfl,fun h=>h⟩,d7 om,trivial⟩⟩
 ·have hke:k=n:=by omega
  subst hke;conv=>whnf
  repeat' (first|refine zx ?_|apply zD<;>intro h<;>try omega)<;>conv=>whnf
  all_goals try omega
  refine i7 d9 (fun i=>([jT m k fr sc Z,eI k,J,J,J,S.c (C.own 0 0 k true),J,eI i]++Jn 51,[flB (rF k (ptK k D.O D.V (fun _=>0) i))])) m tT [some 0] trivial
   ⟨rfl,rfl,⟨I7 (by rw [am2];rfl),trivial⟩,⟨rfl,rfl,⟨rfl,rfl,rfl,fun h=>h⟩,d7 rfl,trivial⟩⟩ ?_
  intro i hi _;by_cases hlt:i<m
  ·have eO:Z.O i=D.O i:=by rw [hr.o]
   by_cases ho:D.O i<k
   ·have rt:=ag8 (Z.V i) Z.D hr.d (by have:=hB.v i hlt;omega) om;rw [b1X hr.d (hr.v i hlt)] at rt;have eIq:0+((Z.O i:Nat):Int).toNat=D.O i:=by rw [eO];omega
    have gp:(rF k (ptK k D.O D.V (fun _=>0) i))[0+((Z.O i:Nat):Int).toNat]? =some (fz (ptK k D.O D.V (fun _=>0) i (D.O i))):=by rw [eIq,E6 ho]
    have e:rF k (fun j=>if j=D.O i then D.V i else ptK k D.O D.V (fun _=>0) i j)=rF k (ptK k D.O D.V (fun _=>0) (i+1)):=by
     rw [G0];exact s9 fun j hj=>by simp only [ho,true_and]
    conv=>whnf
    repeat' (first|refine zx ?_|refine s8 rfl hlt ?_|refine a0q rfl hlt ?_|refine p8 gp ?_|apply zD<;>intro h<;>try omega)<;>conv=>whnf
    all_goals first|omega|exact ⟨hlt,trivial,[some 0],rfl,rfl,⟨I7 ((a9L eIq ho).trans (by rw [e])),trivial⟩,⟨rfl,rfl,⟨rfl,rfl,rfl,fun h=>h⟩,d7 om,trivial⟩⟩
   ·have e:ptK k D.O D.V (fun _=>0) (i+1)=ptK k D.O D.V (fun _=>0) i:=by rw [G0];funext j;rw [if_neg (fun h=>ho h.1)]
    conv=>whnf
    repeat' (first|refine zx ?_|refine s8 rfl hlt ?_|apply zD<;>intro h<;>try omega)<;>conv=>whnf
    all_goals first|omega|exact ⟨hlt,trivial,[some 0],rfl,rfl,⟨I7 (by rw [e]),trivial⟩,⟨rfl,rfl,⟨rfl,rfl,rfl,fun h=>h⟩,d7 om,trivial⟩⟩
  ·have hie:i=m:=by omega
   subst hie;conv=>whnf
   repeat' (first|refine zx ?_|apply zD<;>intro h<;>try omega)<;>conv=>whnf
   all_goals first|omega|exact ⟨[some 0],rfl,rfl,⟨f5 (e7 _),trivial⟩,⟨rfl,rfl,rfl,fun h=>h⟩⟩
def b4Z {s:j2} {g:List (Int × Rat)} (h:LJ s g):ec 215 [dJ s g,eI s.n] [] (.c (.own 0 0 s.n.toNat true)) [flB ((u9 (j1 s) g).map fz)]:=by
 obtain ⟨h1,h2,h3⟩:=aQ0 h;have hn:=L3 h.sm.r;have:=h.sm.n;have:=aT2 h.sm;have pt:=b69 (Mj s) s.n.toNat (i8 (j1 s)) (scL s (i8 (j1 s))) _ _ h1 h3 h2 om om;rw [hn] at pt;exact pt
def b5R (s:j2) (g:List (Int × Rat)) (c:Nat) (h:LJ s g) (hout:X7 (j1 s) g=.col c) (hout0:X7 (j1 s) []=.best):
 ec 140 [S9 s,m8 g] [] (.tup [.agg (C.t (ti 2)::frC M4++[.own 0 0 s.n.toNat true,C.t (z4 []),C.t (z4 ((a1W (j1 s) g c).map fz))]),eI 0]) [flB ((u9 (j1 s) []).map fz)]:=by
 have lr:=a8l s (aQ8 h.sm);rw [h.sm.r] at lr;have hn:=L3 h.sm.r;have hn9:=h.sm.n;have hgl:=v8 h.tg;have hg200:∀t ∈ g,rl t.2<=200:=fun t ht=>lbT (D5 h.w t ht) de
 have rt:=T2 g s.n om hg200;rw [← hn,lbI om,h.tg,hn] at rt;have m1:(s.rows.map w5).length=s.rows.length:=zq;have op:=aq8 h (bO z8);have se:=a90 h [bO z8];rw [hout] at se;have op0:=b5V (aq8 (b2A h.sm) (bO z8));have se0:=a90 (b2A h.sm) [bO z8];rw [hout0] at se0;have hc:c<s.n.toNat:=(a4c hout).1;have pt:=fun H:Hp=>a2d (H:=H) (b4Z (b2A h.sm)) rfl rfl (e7 _)
 have ra:=bq8 h hc
 (refine U1 d9 Tryz.func140 rfl de ?_;refine y4 d9 ?_;(conv=>whnf);repeat ((first|refine b0x ?_|refine zy ?_);conv=>whnf))
 repeat' (first|refine zz ?_|refine b0x ?_|apply zD<;>intro h<;>try omega|refine zy ?_|fail)<;>conv=>whnf
 (refine y4 d9 ?_;conv=>whnf)
 repeat' (first|refine zx ?_|apply zD<;>intro h<;>try omega)<;>conv=>whnf
 all_goals try (exfalso;simp_all;done)
 refine x9 d9 ([J,m8 g,S.c (C.t (T.ptr (a1F s))),J,S.c (C.ptr (Mj s+9) 0 0),eI 0,sP 0 0 0]++Jn 86) (b0O s g (j5 (j1 s) g) [bO z8]) ?_ ?_
 ·conv=>whnf
  repeat' (first|refine zx ?_|refine .inr ⟨_,_,op,?_⟩|refine G2 ?_|apply zD<;>intro h<;>try omega)<;>conv=>whnf
  exact ⟨_,au0 af2 rfl ⟨k8 rfl,k8 rfl,⟨by rw [x3 om,b82],rz⟩,rfl,⟨by rw [x3 om,b7q],rz⟩,trivial⟩⟩
 refine a1E d9 ([J,m8 g,S.c (C.t (T.ptr (a1F s))),J,sP 0 0 0,eI 0,dJ s g,eI (-1),eI c]++Jn 84) [bO z8] ?_ ?_
 ·conv=>whnf
  repeat' (first|refine zx ?_|refine .inr ⟨_,_,se,?_⟩|refine f8 ?_|refine bl0 [4] ?_|apply zD<;>intro h<;>try omega)<;>conv=>whnf
  exact ⟨_,b2Q (bO z8) af2 ⟨.inl (k8 rfl),.inl (k8 rfl),.inl rz,.inl rfl,.inr (b2O fun i hi=>a2i hi),.inl rfl,.inl rfl,trivial⟩⟩
 (refine y4 d9 ?_;conv=>whnf)
 repeat' (first|refine zx ?_|apply zD<;>intro h<;>try omega)<;>conv=>whnf
 all_goals try omega
 (refine y4 d9 ?_;conv=>whnf)
 repeat' (first|refine zx ?_|apply zD<;>intro h<;>try omega)<;>conv=>whnf
 all_goals try omega
 refine x9 d9 ([J,m8 g,S.c (C.t (T.ptr (a1F s))),J,S.c (C.ptr (Mj s+9) 0 0),eI 0,dJ s g,J,eI c,J,J,J,sP 0 0 0]++Jn 80) (b0O s [] (j5 (j1 s) []) [bO z8]) ?_ ?_
 ·conv=>whnf
  repeat' (first|refine zx ?_|refine .inr ⟨_,_,op0,?_⟩|refine G2 ?_|apply zD<;>intro h<;>try omega)<;>conv=>whnf
  exact ⟨_,au0 af2 rfl ⟨k8 rfl,k8 rfl,⟨by rw [x3 om,b82],rz⟩,rfl,k8 rfl,rfl,⟨by rw [x3 om,b7q],rz⟩,trivial⟩⟩
 refine a1E d9 ([J,m8 g,S.c (C.t (T.ptr (a1F s))),J,sP 0 0 0,eI 0,dJ s g,eI (-1),eI c,J,J,J,dJ s []]++Jn 80) [bO z8] ?_ ?_
 ·conv=>whnf
  repeat' (first|refine zx ?_|refine .inr ⟨_,_,se0,?_⟩|refine f8 ?_|refine bl0 [4] ?_|apply zD<;>intro h<;>try omega)<;>conv=>whnf
  exact ⟨_,b2Q (bO z8) af2 ⟨.inl (k8 rfl),.inl (k8 rfl),.inl rz,.inl rfl,.inl (k8 rfl),.inl rfl,.inl rfl,.inr (b2O fun i hi=>a2i hi),trivial⟩⟩
 refine p6 d9 _ ?_;conv=>whnf
 repeat' (first|refine zx ?_|refine .inl ⟨_,_,pt _,?_⟩|apply zD<;>intro h<;>try omega)<;>conv=>whnf
 all_goals first|omega|exact ⟨[some 1],rfl,rfl,⟨f5 (e7 _),trivial⟩,⟨⟨rfl,rfl,rfl,rfl,rfl,⟨rfl,rfl,rfl,fun h=>h⟩,rz⟩,rz⟩⟩
def u0 (e:Ev):Nat->List Nat
 |0=>[]
 |k+1=>match e.moves[k]? with
  |some m=>if w9 e m.src=0 then u0 e k++[k] else u0 e k
  |none=>u0 e k
def n6 (e:Ev):List Nat:=u0 e e.moves.length
def b1A (e:Ev) (i:Nat):Prop:=∃m,e.moves[i]? =some m∧w9 e m.src=0
def a6l {e:Ev} {i:Nat}:∀{k:Nat},i ∈ u0 e k↔i<k∧b1A e i
 |0=>by simp [u0]
 |k+1=>by
  have ih:=a6l (e:=e) (i:=i) (k:=k);unfold u0;cases hm:e.moves[k]? with
  |none=>
   simp only;rw [ih];constructor
   ·rintro ⟨h1,h2⟩;exact ⟨om,h2⟩
   ·rintro ⟨h1,h2⟩;refine ⟨?_,h2⟩;obtain ⟨m,h3,_⟩:=h2;by_cases h:i=k
    ·subst h;rw [hm] at h3;cases h3
    ·omega
  |some m=>
   simp only;by_cases hk:w9 e m.src=0
   ·rw [if_pos hk,lbA,ih,List.mem_singleton];constructor
    ·rintro (⟨h1,h2⟩|h)
     ·exact ⟨om,h2⟩
     ·subst h;exact ⟨om,m,hm,hk⟩
    ·rintro ⟨h1,h2⟩;by_cases h:i=k
     ·exact .inr h
     ·exact .inl ⟨om,h2⟩
   ·rw [if_neg hk,ih];constructor
    ·rintro ⟨h1,h2⟩;exact ⟨om,h2⟩
    ·rintro ⟨h1,h2⟩;refine ⟨?_,h2⟩;obtain ⟨m',h3,h4⟩:=h2;by_cases h:i=k
     ·subst h;rw [hm] at h3;injection h3 with h3;subst h3;exact absurd h4 hk
     ·omega
def a0h {e:Ev} {i:Nat}:i ∈ n6 e↔b1A e i:=by
 unfold n6;rw [a6l];constructor
 ·exact fun h=>h.2
 ·intro h;have h':=h;obtain ⟨m,h1,_⟩:=h';exact ⟨(lbe.1 h1).1,h⟩
def B1 {e:Ev}:∀k,(u0 e k).length<=k
 |0=>by simp [u0]
 |k+1=>by
  have ih:=B1 (e:=e) k;unfold u0;split
  ·split
   ·simp;omega
   ·omega
  ·omega
def P6 (l:List Nat) (i:Nat):List z7:=(l.filter fun j=>decide (j≠i)).map fun j=>y5 j 2 ((0:Int):Rat)
def u4 (t:j6) (kind:Int) (i:Nat):j2:=⟨t.ev.moves.length,(U8 (B9 t) kind).rows++P6 (n6 t.ev) i⟩
def a3o (l:List Nat) (i:Nat):(P6 l i).length<=l.length:=by unfold P6;rw [lbr];exact lbt _ _
structure aA9 (t:j6) (kind:Int) (i:Nat) (z:List Rat):Prop where
 p:b9z (B9 t) kind z
 o:∀j,b1A t.ev j->j≠i->z.getD j 0=0
def ae5 {t:j6} {kind:Int} {i:Nat} (hm:t.ev.moves.length<=14) (hc:t.cleans.length<=50):n7 (u4 t kind i)=true:=by
 have h:=a9s (t:=B9 t) (kind:=kind) hm (by simp [B9]) hc;unfold n7 at h ⊢;simp only [lbO,lbJ] at h ⊢;obtain ⟨⟨⟨h1,h2⟩,h3⟩,h4⟩:=h;have hl:=X3 (t:=B9 t) (kind:=kind) t.ev.moves.length;have hl2:t.ev.moves.length*(2+(B9 t).finds.length+(B9 t).cleans.length)<=14*52:=lbU hm (by show 2+0+t.cleans.length<=52;omega);have hl3:=a3o (n6 t.ev) i;have hl4:=B1 (e:=t.ev) t.ev.moves.length;refine ⟨⟨⟨h1,h2⟩,?_⟩,?_⟩
 ·show ((t9 (B9 t) kind t.ev.moves.length++P6 (n6 t.ev) i).length)<=6000;rw [lbq];have:(n6 t.ev).length<=t.ev.moves.length:=hl4;omega
 ·show ((U8 (B9 t) kind).rows++P6 (n6 t.ev) i).all (v6 (t.ev.moves.length:Nat))=true;rw [a7S];have h5:(U8 (B9 t) kind).rows.all (v6 (t.ev.moves.length:Nat))=true:=h4;rw [h5,H9,lbw];intro w hw;obtain ⟨j,hj,rfl⟩:=lby.1 hw;have hj:=(a6l.1 (lbz.1 hj).1).1;unfold v6 y5;simp only [lbO,lbJ];exact ⟨⟨a7J om om a7W,de⟩,de⟩
theorem alone_holds {t:j6} {kind:Int} {i:Nat} {z:List Rat} (ht:y7 t=0) (k0:0<=kind) (k1:kind<8) (hm:t.ev.moves.length<=14):m9 (u4 t kind i) z=true↔aA9 t kind i z:=by
 have hc:=(v3 ht).2.2.1;have hb:=sys_holds (t:=B9 t) (kind:=kind) (z:=z) (a3V ht) k0 k1 hm;have hr1:=ae5 (t:=t) (kind:=kind) (i:=i) hm hc;have hr2:=a9s (t:=B9 t) (kind:=kind) hm (by simp [B9]) hc;have e:m9 (u4 t kind i) z=(m9 (U8 (B9 t) kind) z && (P6 (n6 t.ev) i).all fun w=>Y9 w z):=by
  unfold m9;rw [hr1,hr2];show (true && decide ((z.length:Int)=(t.ev.moves.length:Nat)) && _ && ((U8 (B9 t) kind).rows++P6 (n6 t.ev) i).all _)=_;rw [a7S];simp only [H9,Bool.and_assoc]
  rfl
 rw [e,lbO,hb];constructor
 ·rintro ⟨h1,h2⟩;refine ⟨h1,fun j hj hji=>?_⟩;exact a6u.1 (lbw.1 h2 (y5 j 2 ((0:Int):Rat)) (lby.2 ⟨j,lbz.2 ⟨a0h.2 hj,lbI hji⟩,rfl⟩))
 ·rintro ⟨h1,h2⟩;refine ⟨h1,lbw.2 fun w hw=>?_⟩;obtain ⟨j,hj,rfl⟩:=lby.1 hw;have hj:=lbz.1 hj;exact a6u.2 (h2 j (a0h.1 hj.1) (lbM hj.2))
def at7 (n i:Nat):(List.replicate n (0:Rat)).getD i 0=0:=by
 rw [lbl];by_cases h:i<n
 ·simp [h]
 ·rw [lbd zo];rfl
def b5w {e:Ev} {z:List Rat} (hz:∀i,z.getD i 0=0) (k p:Nat):a1N e z k p=0:=by
 have h:=b7I (e:=e) (w:=z) (z:=z) (y:=z) (a:=0) (b:=0) (fun i _=>by rw [hz i];grind) k p;rw [h];grind
structure PtB (s:j2) (z:List Rat):Prop where
 v:∀v ∈ z,rl v<=40000
 S:∀w ∈ s.rows,∀k,rl (n8 (w.terms.take k) z)<=50000
 l:z.length<=1000000
def b11 (w:z7) (z:List Rat) (hl:w.terms.length<=1000000) (h1:∀t ∈ w.terms,rl t.2<=200) (h3:rl w.value<=200) (h2:∀v ∈ z,rl v<=40000) (hS:∀k,rl (n8 (w.terms.take k) z)<=50000) (hz:z.length<=1000000)
 (hr:j9 (-1) z.length w.terms=true):ec 237 [aw9 w,p5 (z.map fz)] [] (j8 (Y9 w z)) []:=by
 have va:=aH8 w.terms z hl h1 h2 (fun k=>by have:=hS k;omega) hz hr;have bv:=hS w.terms.length;rw [lbn (lbS _)] at bv;have c:=aE6 (n8 w.terms z) w.value om om;have k1:=aN1 (x:=n8 w.terms z) (y:=w.value);have k2:=b03 (x:=n8 w.terms z) (y:=w.value);have hro:=a44 (w:=w) (z:=z);rw [← k1,←k2] at hro;have e:j8 (Y9 w z)=j8 (decide ((a5d (n8 w.terms z) w.value<0->w.kind=1)∧(a5d (n8 w.terms z) w.value > 0->w.kind=0))):=by
  congr 1
  rw [aj3,hro,decide_eq_true_iff]
 rw [e];clear hro e k1 k2;generalize a5d (n8 w.terms z) w.value=U at c;refine ac Tryz.func237 ?_;conv=>whnf
 repeat' (first|refine zx ?_|refine bl0 [5] ?_|apply zD<;>intro<;>try omega)<;>conv=>whnf
 all_goals first|omega|(exfalso;simp_all;done)|(refine g9 ?_;simp;omega)
theorem bg0 (s:j2) (hb:aI2 s) (hr:n7 s=true) (Z:List Rat) (hp:PtB s Z):
 d6 Tryz.prog 158 [S9 s,p5 (Z.map fz)] [] (j8 (m9 s Z)) []:=by
 have m1:(s.rows.map w5).length=s.rows.length:=by simp
 have m2:((Z.map fz).map t5).length=Z.length:=by simp
 have l1:=hb.n0
 have l2:=hp.l
 have lr:=a8l s hb
 rw [hr] at lr
 have pt:=aT7 Z hp.l (fun v hv=>by have:=hp.v v hv;omega)
 by_cases hn:(Z.length:Int)≠s.n
 ·have e2:m9 s Z=false:=by unfold m9;rw [lbK hn];simp
  rw [e2]
  (refine ac Tryz.func158 ?_;(conv=>whnf);repeat ((first|refine b0x ?_|refine zy ?_);conv=>whnf))
  repeat' (first|refine zx ?_|refine qp lr ?_|refine qp pt ?_|refine zd ?_ ?_<;>intro h<;>try omega|fail)<;>conv=>whnf
  all_goals first
   |omega
   |exact g9 rfl
 have hn:(Z.length:Int)=s.n:=by omega
 have e2:m9 s Z=(Z.all (fun v=>decide (0<=v)) && s.rows.all (fun w=>Y9 w Z)):=by unfold m9;rw [hr,lbI hn];simp
 rw [e2]
 (refine ac Tryz.func158 ?_;(conv=>whnf);repeat ((first|refine b0x ?_|refine zy ?_);conv=>whnf))
 repeat' (first|refine zx ?_|refine qp lr ?_|refine qp pt ?_|refine zd ?_ ?_<;>intro h<;>try omega|fail)<;>conv=>whnf
 all_goals try omega
 refine i7 d9 (fun k=>([J,p5 (Z.map fz),S.c (C.t (T.ptr [ti s.n,J7 s.rows])),J,J,c9 .i64 k]++Jn 43,[])) Z.length (fun k=>(Z.take k).all (fun v=>decide (0<=v))=true) [] rfl
  ⟨rfl,rfl,trivial,⟨rfl,rfl,rfl,trivial⟩⟩ ?_
 intro k hk hI
 by_cases hlt:k<Z.length
 ·obtain ⟨x,hx⟩:∃x,Z[k]? =some x:=⟨_,lbf hlt⟩
  have bx:=hp.v x (lbm hx)
  have sg:=a6j x (by omega)
  have sn:=b9B (x:=x)
  conv=>whnf
  repeat' (first|refine zx ?_|refine qp sg ?_|refine f7 (a3X Z hx) ?_|refine zd ?_ ?_<;>intro h<;>try omega|fail)<;>conv=>whnf
  all_goals first
   |omega
   |(have h0:¬sgR x<0:=by omega
     exact ⟨hlt,by rw [y9 hx,hI];simpa using lb5.1 (fun h=>h0 (sn.2 h)),[],rfl,rfl,trivial,⟨rfl,rfl,rfl,trivial⟩⟩)
   |(have h0:sgR x<0:=by omega
     have hF:Z.all (fun v=>decide (0<=v))=false:=C5 hx (lbK (Rat.not_le.2 (sn.1 h0)))
     refine g9 ?_;rw [hF];rfl)
 ·have hA:Z.all (fun v=>decide (0<=v))=true:=by rw [← hI,lbn (by omega)]
  rw [hA,H9]
  conv=>whnf
  repeat' (first|refine zx ?_|refine zd ?_ ?_<;>intro h<;>try omega|fail)<;>conv=>whnf
  all_goals try omega
  clear hI hlt hk
  refine i7 d9 (fun k=>([J,p5 (Z.map fz),S.c (C.t (T.ptr [ti s.n,J7 s.rows])),J,J,J,c9 .i64 k]++Jn 42,[])) s.rows.length (fun k=>(s.rows.take k).all (fun w=>Y9 w Z)=true) [] rfl
   ⟨rfl,rfl,trivial,⟨rfl,rfl,rfl,trivial⟩⟩ ?_
  intro k hk hI
  by_cases hlt:k<s.rows.length
  ·obtain ⟨w,hw⟩:∃w,s.rows[k]? =some w:=⟨_,lbf hlt⟩
   obtain ⟨b1,b2,b3⟩:=hb.t w (lbm hw)
   have hrw:v6 s.n w=true:=by
    unfold n7 at hr
    simp only [lbO,lbw] at hr
    exact hr.2 w (lbm hw)
   have hrt:j9 (-1) Z.length w.terms=true:=by
    unfold v6 at hrw
    simp only [lbO] at hrw
    rw [hn];exact hrw.1.1
   have ho:=b11 w Z (by omega) b2 b3 hp.v (hp.S w (lbm hw)) hp.l hrt
   cases hro:Y9 w Z with
   |true=>
    rw [hro] at ho
    conv=>whnf
    repeat' (first|refine zx ?_|refine qp ho ?_|refine f7 hw ?_|refine zd ?_ ?_<;>intro h<;>try omega|fail)<;>conv=>whnf
    all_goals first
     |omega
     |exact ⟨hlt,by rw [y9 hw,hI,hro];rfl,[],rfl,rfl,trivial,⟨rfl,rfl,rfl,trivial⟩⟩
   |false=>
    rw [hro] at ho
    rw [C5 hw hro]
    conv=>whnf
    repeat' (first|refine zx ?_|refine qp ho ?_|refine f7 hw ?_|refine zd ?_ ?_<;>intro h<;>try omega|fail)<;>conv=>whnf
    all_goals first
     |omega
     |exact g9 rfl
  ·rw [lbn (by omega)] at hI
   rw [hI]
   conv=>whnf
   repeat' (first|refine zx ?_|refine zd ?_ ?_<;>intro h<;>try omega|fail)<;>conv=>whnf
   all_goals first
    |omega
    |exact g9 rfl
end Go.Proofs.YtikokmdpigploaaGreat
