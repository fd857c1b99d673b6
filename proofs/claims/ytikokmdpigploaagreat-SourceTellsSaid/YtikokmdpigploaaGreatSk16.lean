/- Part 16. -/
import Derived.ProofKit
import Derived.OpenShut
import Derived.Deep.Slices
import Derived.Deep.Fields
import Derived.Test.YtikokmdpigploaaGreatRows
import Derived.Deep.DeepMust
import Derived.BigQuiet
import Derived.Deep.Light
import Derived.Test.YtikokmdpigploaaGreatSk15
namespace Go.Proofs.YtikokmdpigploaaGreat
set_option linter.all false
set_option maxRecDepth 100000
set_option maxHeartbeats 8000000
open Go.RowKit
open St1 St2 St3 St4 St5 St6 St7 St8 StA StB StC
abbrev bv9 (m n j:Nat):Blk:={ mode:=.live,elem:=274,size:=12,rows:=[[C.own 1 0 m true,.own 2 0 m true,.own 3 0 n true,.t (ti (bz 1).sg),.t (x6 (bz 1).dl),.own 4 0 m true,.own (m+9) 0 (j+1) true,.own 6 0 m true,.own 7 0 m true,.own 8 0 m true,.t (ti (bz 1).sg),.t (x6 (bz 1).dl)]],box:=true }
abbrev bw4 (m n j:Nat) (fr:LB) (sc:LI) (V G:Nat->Int) (O:Nat->Nat) (A:Nat->Nat->Int):Hp:=
 bv9 m n j::zlB (zF m V)::hdB 9 m n::zlB (zF n G)::Q0 m O::a9R 3 1::x9 (frI fr)::x9 (S0 fr)::zlB sc::((mZ m n A).map zlB++[Q0 (j+1) fun j=>j])
def fF (m i:Nat):Nat:=if i=5 then m+9 else i
def b5c {m n j:Nat} {fr:LB} {sc:LI} {V G:Nat->Int} {O:Nat->Nat} {A:Nat->Nat->Int} {env env':Env} {H:Hp} (hH:H=bw4 m n j fr sc V G O A) (hE:X5 (fR (m+9) (fF m)) H env env'):
 Ent 0 (fR (m+9) (fF m)) env H env' (G1 m n (j+1) fr sc 1 V G O (fun j=>j) A []):=by
 subst hH;have fa:∀i,i≠5->fF m i=i:=fun i hi=>by unfold fF;rw [if_neg hi]
 have ff:∀i,i<m+9->(fR (m+9) (fF m))[i]? =some (some (fF m i)):=fun i hi=>t8 hi
 refine a8W (by simp [d8]) om (fun i hi=>om) (fun i j hi hj h=>by unfold fF at h;(repeat' split at h)<;>omega) ?_ hE;intro i k' hk;rcases i with _|_|_|_|_|_|_|_|_|i
 ·injection hk with hk;subst hk
  exact ⟨_,rfl,rfl,rfl,rfl,.inr ⟨⟨⟨by rw [ff _ om];rfl,rfl,rfl,fun h=>h⟩,⟨by rw [ff _ om];rfl,rfl,rfl,fun h=>h⟩,⟨by rw [ff _ om];rfl,rfl,rfl,fun h=>h⟩,rfl,rfl,⟨by rw [ff _ om];rfl,rfl,rfl,fun h=>h⟩,⟨by rw [ff _ om];rfl,rfl,rfl,fun h=>h⟩,⟨by rw [ff _ om];rfl,rfl,rfl,fun h=>h⟩,⟨by rw [ff _ om];rfl,rfl,rfl,fun h=>h⟩,⟨by rw [ff _ om];rfl,rfl,rfl,fun h=>h⟩,rz⟩,trivial⟩⟩
 ·injection hk with hk;subst hk;exact ⟨_,rfl,j0 (i5 _)⟩
 ·injection hk with hk;subst hk
  refine ⟨_,rfl,rfl,rfl,rfl,.inr (a0s rfl fun i x y hx hy=>?_)⟩;have hx:(hdR 9 m n)[i]? =some x:=hx;have hy:(hdR 9 m n)[i]? =some y:=hy;have hi:i<m:=by have:=(lbe.1 hx).1;rwa [y8] at this
  rw [a80 hi] at hx hy;injection hx with hx;injection hy with hy
  subst hx hy;exact ⟨⟨by rw [ff _ om,fa _ om],rfl,rfl,fun h=>h⟩,trivial⟩
 ·injection hk with hk;subst hk;exact ⟨_,rfl,j0 (i5 _)⟩
 ·injection hk with hk;subst hk;exact ⟨_,rfl,j0 (i5 _)⟩
 ·injection hk with hk;subst hk;exact ⟨_,aG1 (j:=0),j0 (i5 _)⟩
 ·injection hk with hk;subst hk;exact ⟨_,rfl,j0 (i5 _)⟩
 ·injection hk with hk;subst hk;exact ⟨_,rfl,j0 (i5 _)⟩
 ·injection hk with hk;subst hk;exact ⟨_,rfl,j0 (i5 _)⟩
 ·have hk:((mZ m n A).map zlB++[])[i]? =some k':=hk;have hi:i<m:=by have:=(lbe.1 hk).1;simpa [d8] using this
  rw [E3 (X9 hi)] at hk;injection hk with hk;subst hk
  rw [fa _ om];exact ⟨_,E3 (X9 hi),j0 (i5 _)⟩
structure bq9 (s:i8) (g:List (Int × Rat)) (n:Nat):Prop where
 sm:T8 s
 tg:j2 (-1) n g=true
 en:s.n=n
 w:z6 g
def b6b (s:i8) (g:List (Int × Rat)) (n:Nat) (h:bq9 s g n):
 d6 Tryz.prog 212 [D8 s,k7 g] [] (.c (.ptr 0 0 0)) (G1 (f8 (j5 s)).length n n (f8 (j5 s)) (scL s (f8 (j5 s))) 1 (V0 s g) (C0 g g.length) (fun i=>n+i) (fun j=>j) (A0 s g) []):=by
 have hs:=h.sm
 have htg:=h.tg
 have hen:=h.en
 have hgw:=h.w
 have hn9:=hs.n
 have hr1:=hs.l
 have hgl:=s9 htg
 have m1:(s.rows.map p4).length=s.rows.length:=zq
 have m2:(g.map o7).length=g.length:=zq
 have of1:=b3B 1 de de
 have bl1:bl 1<=1:=p7 de de
 have lrow:∀(i:Nat) (w:x4),s.rows[i]? =some w->j2 (-1) n w.terms=true∧w.terms.length<=1000∧z6 w.terms∧rl w.value<=100:=fun i w hw=>by
  have hI:=hs.i w (lbm hw)
  have hn:=Q9 hs.r
  have hrw:=(a1A hs.r hw).1
  rw [hn,hen] at hrw
  have hl:=s9 hrw
  obtain ⟨d1,d2⟩:=a3q hI.2
  have d3:=a0t w.value
  have b1:=p7 (x:=(w.value.den:Int)) om om
  have b2:=P7 (x:=w.value.num) om om
  exact ⟨hrw,om,hI.1,by show max _ _<=100;omega⟩
 have put0:∀(K i:Nat) (w:x4) (b:Bool) (Fr:List (Nat × Bool)),s.rows[i]? =some w->Fr.length=K->K<=10000->i<=100000->
  d6 Tryz.prog 276 [.c (.ptr 0 0 0),c9 .i64 s.n,c9 .i64 i,as7 w,c9 .i64 (sg1 b)] (G1 K n 0 Fr (scL s Fr) 1 (V0 s g) (fun _=>0) (fun i=>n+i) (fun j=>j) (A0 s g) []) (.tup []) (b3R K n Fr (i,b) (scL s Fr) w.value.den (sg1 b*w.value.num) (aQ w b w.terms.length) (V0 s g) (fun _=>0) (fun i=>n+i) (fun j=>j) (A0 s g)):=by
  intro K i w b Fr hw hF hK hi
  obtain ⟨q1,q2,q3,q4⟩:=lrow i w hw
  rw [hen]
  exact b8B n K i w b Fr hF (scL s Fr) (by rw [ae1,hF]) _ _ _ _ om hK hi q1 q2 q3 q4
 (refine ac Tryz.func212 ?_;(conv=>whnf);repeat ((first|refine b0x ?_|refine zy ?_);conv=>whnf))
 repeat' (first|refine zx ?_|refine qp of1 ?_|refine zy ?_|refine a1g om om om de ?_|refine zd ?_ ?_<;>intro h<;>try omega|fail)<;>conv=>whnf
 refine aj6 (fun i=>([J,k7 g,S.c (C.t (T.ptr (a0b s))),J,J,S.c (C.ptr 0 0 0),c9 .i64 i]++Jn 114,G1 (F7 (j5 s) i).length n 0 (F7 (j5 s) i) (scL s (F7 (j5 s) i)) 1 (V0 s g) (fun _=>0) (fun i=>n+i) (fun j=>j) (A0 s g) [])) s.rows.length (fun _=>True) (gR 9 pJ1) trivial ?_ ?_
 ·refine b0I rfl (fun i j x hi hj h1 h2=>by unfold pJ1 at h1 h2;(repeat' split at h1)<;>(repeat' split at h2)<;>first|(cases h1;done)|(cases h2;done)|(injection h1 with h1;injection h2 with h2;omega)) ?_ ?_
  ·intro i k' hk
   rcases i with _|_|_|_|_|_|_|_|_|i
   ·injection hk with hk;subst hk
    exact .inr ⟨1,_,rfl,rfl,rfl,rfl,rfl,.inr ⟨⟨⟨rfl,rfl,rfl⟩,⟨rfl,rfl,rfl⟩,⟨rfl,rfl,om,fun h=>h⟩,rfl,rfl,⟨rfl,rfl,rfl⟩,⟨rfl,rfl,rfl⟩,⟨rfl,rfl,rfl⟩,⟨rfl,rfl,rfl⟩,⟨rfl,rfl,rfl⟩,rfl,rfl,trivial⟩,trivial⟩⟩
   ·injection hk with hk;subst hk;exact .inl ⟨rfl,rfl,rfl⟩
   ·injection hk with hk;subst hk;exact .inl ⟨rfl,rfl,rfl⟩
   ·injection hk with hk;subst hk;exact .inr ⟨0,_,rfl,rfl,b2J om⟩
   ·injection hk with hk;subst hk;exact .inl ⟨rfl,rfl,rfl⟩
   ·injection hk with hk;subst hk;exact .inl ⟨rfl,rfl,rfl⟩
   ·injection hk with hk;subst hk;exact .inl ⟨rfl,rfl,rfl⟩
   ·injection hk with hk;subst hk;exact .inl ⟨rfl,rfl,rfl⟩
   ·injection hk with hk;subst hk;exact .inl ⟨rfl,rfl,rfl⟩
   ·simp [mZ,F7] at hk
  ·exact ⟨l9 rfl,l9 rfl,⟨rfl,rfl,rfl⟩,e7 rfl,trivial⟩
 intro i hi _
 refine u3 d7 ?_
 conv=>whnf
 repeat' (first|refine zx ?_|refine f9 (d8 _ _ _) ?_|refine f5 ?_|refine zd ?_ ?_<;>intro h<;>try omega|fail)<;>conv=>whnf
 ·have hlt:i<s.rows.length:=by omega
  obtain ⟨w,hw⟩:∃w,s.rows[i]? =some w:=⟨_,lbf hlt⟩
  have hw':=al2 hw
  obtain ⟨F0,hF0⟩:∃F0,F0=F7 (j5 s) i:=⟨_,rfl⟩
  obtain ⟨K,hK⟩:∃K,K=F0.length:=⟨_,rfl⟩
  obtain ⟨F1,hF1⟩:∃F1,F1=(F0++if w.kind≠0 then [(i,false)] else []):=⟨_,rfl⟩
  obtain ⟨K1,hK1⟩:∃K1,K1=F1.length:=⟨_,rfl⟩
  have hKb:K<=10000:=by have:=a0a (s:=j5 s) i;rw [← hF0] at this;omega
  have hK1b:K1<=10000:=by
   have:=a0a (s:=j5 s) i
   rw [← hF0] at this
   rw [hK1,hF1,lbq]
   split<;>simp<;>omega
  have eF:F7 (j5 s) (i+1)=F1++if w.kind≠1 then [(i,true)] else []:=by rw [a70 hw',hF1,hF0];rfl
  rw [← hF0,←hK]
  refine a86 (a7t ?_)
  refine u7 d7 ([J,k7 g,S.c (C.t (T.ptr (a0b s))),J,J,S.c (C.ptr 0 0 0),c9 .i64 i]++Jn 114) (G1 K1 n 0 F1 (scL s F1) 1 (V0 s g) (fun _=>0) (fun i=>n+i) (fun j=>j) (A0 s g) []) ?_ ?_
  ·by_cases hk:w.kind=0
   ·have e1:F1=F0:=by rw [hF1,if_neg (by simp [hk]),a0x]
    have e2:K1=K:=by rw [hK1,e1,hK]
    rw [e1,e2]
    conv=>whnf
    repeat' (first|refine zx ?_|refine i6 hw ?_|refine f9 (d8 _ _ _) ?_|refine f5 ?_|refine zd ?_ ?_<;>intro h<;>try omega|fail)<;>conv=>whnf
    all_goals first
     |omega
     |exact ⟨idR (K+9),p8 (T:=[]) (T':=[]) rfl rfl (H8 _) zq ⟨rfl,rfl,⟨g9 om,rfl,rfl⟩,rfl,trivial⟩⟩
   ·have e1:F1=F0++[(i,false)]:=by rw [hF1,if_pos hk]
    have e2:K1=K+1:=by rw [hK1,e1,lbq,←hK];rfl
    have hg:(f8 (j5 s)).getD K (0,false)=(i,false):=by
     refine a6q (i:=i+1) (by show i+1<=(s.rows.map P2).length;rw [lbr];omega) ?_
     rw [eF,e1,lbC,lbc om,hK];simp
    rw [e1,e2,aP1 hw]
    have pu:=put0 K i w false F0 hw hK.symm hKb om
    conv=>whnf
    repeat' (first|refine zx ?_|refine .inr ⟨_,_,pu,?_⟩|refine i6 hw ?_|refine f9 (d8 _ _ _) ?_|refine f5 ?_|refine zd ?_ ?_<;>intro h<;>try omega|fail)<;>conv=>whnf
    all_goals first
     |omega
     |exact ⟨_,aR1 (bb7 (g:=g) hg hw) (ba8 (g:=g) hg hw) ⟨rfl,rfl,⟨by rw [t8 om];rfl,rfl,rfl⟩,rfl,trivial⟩⟩
  ·by_cases hk:w.kind=1
   ·have e1:F7 (j5 s) (i+1)=F1:=by rw [eF,if_neg (by simp [hk]),a0x]
    refine p5 d7 _ ?_
    conv=>whnf
    repeat' (first|refine zx ?_|refine i6 hw ?_|refine f9 (d8 _ _ _) ?_|refine f5 ?_|refine zd ?_ ?_<;>intro h<;>try omega|fail)<;>conv=>whnf
    all_goals try omega
    refine p5 d7 _ ?_
    conv=>whnf
    repeat' (first|refine zx ?_|refine f9 (d8 _ _ _) ?_|refine f5 ?_|refine zd ?_ ?_<;>intro h<;>try omega|fail)<;>conv=>whnf
    refine ⟨hlt,trivial,idR (K1+9),?_⟩
    rw [e1,←hK1]
    exact p8 (T:=[]) (T':=[]) rfl rfl (H8 _) zq ⟨rfl,rfl,⟨g9 om,rfl,rfl⟩,e7 om,trivial⟩
   ·have e1:F7 (j5 s) (i+1)=F1++[(i,true)]:=by rw [eF,if_pos hk]
    have hg:(f8 (j5 s)).getD K1 (0,false)=(i,true):=by
     refine a6q (i:=i+1) (by show i+1<=(s.rows.map P2).length;rw [lbr];omega) ?_
     rw [e1,lbc om,hK1];simp
    have pu:=put0 K1 i w true F1 hw hK1.symm hK1b om
    refine p5 d7 _ ?_
    conv=>whnf
    repeat' (first|refine zx ?_|refine .inr ⟨_,_,pu,?_⟩|refine i6 hw ?_|refine f9 (d8 _ _ _) ?_|refine f5 ?_|refine zd ?_ ?_<;>intro h<;>try omega|fail)<;>conv=>whnf
    all_goals try omega
    refine b20 (env':=[J,k7 g,S.c (C.t (T.ptr (a0b s))),J,J,S.c (C.ptr 0 0 0),c9 .i64 i]++Jn 114) _ (aR1 (bb7 (g:=g) hg hw) (ba8 (g:=g) hg hw) ?_) ?_
    ·exact ⟨rfl,rfl,⟨by rw [t8 om];rfl,rfl,rfl⟩,rfl,trivial⟩
    refine p5 d7 _ ?_
    conv=>whnf
    repeat' (first|refine zx ?_|refine f9 (d8 _ _ _) ?_|refine f5 ?_|refine zd ?_ ?_<;>intro h<;>try omega|fail)<;>conv=>whnf
    refine ⟨hlt,trivial,idR (K1+1+9),?_⟩
    rw [e1,show (F1++[(i,true)]).length=K1+1 by simp [hK1],aP1 hw]
    exact p8 (T:=[]) (T':=[]) rfl rfl (H8 _) zq ⟨rfl,rfl,⟨g9 om,rfl,rfl⟩,e7 om,trivial⟩
 ·have hie:i=s.rows.length:=by omega
  subst hie
  have efr:F7 (j5 s) s.rows.length=f8 (j5 s):=by unfold f8;rw [show (j5 s).rows.length=s.rows.length from lbr ..]
  rw [efr]
  have hm2:=a0a (s:=j5 s) s.rows.length
  rw [efr] at hm2
  generalize f8 (j5 s)=fr at hm2
  obtain ⟨m,hm⟩:∃m,m=fr.length:=⟨_,rfl⟩
  rw [← hm] at hm2 ⊢
  refine j3 d7 (fun q=>([J,k7 g,S.c (C.t (T.ptr (a0b s))),J,J,S.c (C.ptr 0 0 0),J,c9 .i64 q]++Jn 113,G1 m n 0 fr (scL s fr) 1 (V0 s g) (fun _=>0) (fun i=>n+i) (fun j=>j) (A0 s g) [])) g.length (fun _=>True) (idR (m+9)) trivial ?_ ?_
  ·exact p8 (T:=[]) (T':=[]) rfl rfl (H8 _) zq ⟨rfl,rfl,⟨g9 om,rfl,rfl⟩,e7 rfl,trivial⟩
  intro q hq _
  by_cases hlt:q<g.length
  ·obtain ⟨t,ht⟩:∃t,g[q]? =some t:=⟨_,lbf hlt⟩
   obtain ⟨c,hc,hcb⟩:=hgw t (lbm ht)
   have ci:=ay0 1 de c om hcb
   rw [← hc] at ci
   conv=>whnf
   repeat' (first|refine zx ?_|refine qp ci ?_|refine i6 ht ?_|refine f9 (d8 _ _ _) ?_|refine f5 ?_|refine bl0 [0] ?_|refine zd ?_ ?_<;>intro h<;>try omega|fail)<;>conv=>whnf
   all_goals first
    |omega
    |exact ⟨hlt,trivial,idR (m+9),p8 (T:=[]) (T':=[]) rfl rfl (H8 _) zq ⟨rfl,rfl,⟨g9 om,rfl,rfl⟩,e7 om,trivial⟩⟩
  ·have hqe:q=g.length:=by omega
   subst hqe
   conv=>whnf
   repeat' (first|refine zx ?_|refine f9 (d8 _ _ _) ?_|refine f5 ?_|refine zd ?_ ?_<;>intro h<;>try omega|fail)<;>conv=>whnf
   all_goals try omega
   refine j3 d7 (fun q=>([J,k7 g,S.c (C.t (T.ptr (a0b s))),J,J,S.c (C.ptr 0 0 0),J,J,c9 .i64 q]++Jn 112,G1 m n 0 fr (scL s fr) 1 (V0 s g) (C0 g q) (fun i=>n+i) (fun j=>j) (A0 s g) [])) g.length (fun _=>True) (idR (m+9)) trivial ?_ ?_
   ·rw [b9u]
    exact p8 (T:=[]) (T':=[]) rfl rfl (H8 _) zq ⟨rfl,rfl,⟨g9 om,rfl,rfl⟩,e7 rfl,trivial⟩
   intro q hq _
   by_cases hlt:q<g.length
   ·obtain ⟨t,ht⟩:∃t,g[q]? =some t:=⟨_,lbf hlt⟩
    obtain ⟨c,hc,hcb⟩:=hgw t (lbm ht)
    obtain ⟨t0,t1,t2⟩:=v8 htg t (lbm ht)
    have ti:=aP6 1 c om hcb
    have lc:bl (1*c)<=300000:=by rw [a1l];omega
    have ng:=a57 (1*c) lc
    rw [← hc] at ti
    have eV:0+t.1.toNat=t.1.toNat:=om
    have gp:(zF n (C0 g q))[0+t.1.toNat]? =some (C0 g q t.1.toNat):=by rw [eV,P5 om]
    conv=>whnf
    repeat' (first|refine zx ?_|refine qp ti ?_|refine qp ng ?_|refine i6 ht ?_|refine a1w gp ?_|refine f9 (d8 _ _ _) ?_|refine f5 ?_|refine bl0 [0,1,2,3] ?_|refine zd ?_ ?_<;>intro h<;>try omega|fail)<;>conv=>whnf
    all_goals first
     |omega
     |exact ⟨hlt,trivial,idR (m+9),p8 (T:=[]) (T':=[]) (H6 rfl rfl rfl ((a0w eV om).trans (by rw [b93 ht hc])) rfl rfl rfl rfl rfl rfl) rfl (H8 _) zq ⟨rfl,rfl,⟨g9 om,rfl,rfl⟩,e7 om,trivial⟩⟩
   ·have hqe:q=g.length:=by omega
    subst hqe
    conv=>whnf
    repeat' (first|refine zx ?_|refine f9 (d8 _ _ _) ?_|refine f5 ?_|refine zd ?_ ?_<;>intro h<;>try omega|fail)<;>conv=>whnf
    all_goals try omega
    refine j3 d7 (fun q=>([J,J,S.c (C.t (T.ptr (a0b s))),J,J,S.c (C.ptr 0 0 0),J,J,J,c9 .i64 q]++Jn 111,G1 m n q fr (scL s fr) 1 (V0 s g) (C0 g g.length) (fun i=>n+i) (fun j=>j) (A0 s g) [])) n (fun _=>True) (idR (m+9)) trivial ?_ ?_
    ·exact p8 (T:=[]) (T':=[]) rfl rfl (H8 _) zq ⟨rfl,⟨g9 om,rfl,rfl⟩,e7 rfl,trivial⟩
    intro q hq _
    by_cases hlt:q<n
    ·conv=>whnf
     repeat' (first|refine zx ?_|refine w6 (by simp [toC,m6]) (by simp [toC,m6];omega) ?_|refine f9 (d8 _ _ _) ?_|refine f5 ?_|refine bl0 [0] ?_|refine zd ?_ ?_<;>intro h<;>try omega|fail)<;>conv=>whnf
     all_goals first
      |omega
      |(refine ⟨hlt,trivial,fR (m+9) (fF m),b5c (H6 rfl rfl rfl rfl rfl rfl rfl rfl rfl (congrArg (fun z=>(mZ m n (A0 s g)).map zlB++[z]) ?_)) ⟨rfl,⟨by rw [t8 om];rfl,rfl,rfl⟩,e7 om,trivial⟩⟩
        exact congrArg (fun z=>({ mode:=.live,elem:=3,size:=1,rows:=z,box:=false }:Blk)) (a3I (O:=fun j=>j) (x:=(q:Int)) rfl))
    ·have hqe:q=n:=by omega
     subst hqe
     conv=>whnf
     repeat' (first|refine zx ?_|refine f9 (d8 _ _ _) ?_|refine f5 ?_|refine zd ?_ ?_<;>intro h<;>try omega|fail)<;>conv=>whnf
     all_goals first
      |omega
      |exact a54 (T:=[]) rfl rfl (H8 _) ⟨g9 om,rfl,rfl⟩
def b5S {q z:Int} {x:Rat} (hq:0<q) (h:((z:Int):Rat)=((q:Int):Rat)*x):Rat.divInt z q=x:=by
 have hne:((q:Int):Rat)≠0:=by
  intro e;have:q=0:=by exact_mod_cast e
  omega
 rw [a7e,h,ao6,a8Z,a9g,b0V _ hne];grind
def ap3 {ρ:List (Option Nat)} {H:Hp} {n N:Nat} (e:N=n):a2q ρ H (D4 86 4 (List.replicate N [B8 (.int .i64 0),B8 (.slice none 0 0),B8 (.int .i64 0),B8 (.slice none 0 0)]) false) (flB (pZ 0 n)):=by
 subst e;refine ⟨rfl,rfl,rfl,.inr (a0s ?_ ?_)⟩
 ·simp [D4,toC,a98]
 ·intro i x y hx hy;simp only [D4,lbk] at hx;split at hx
  ·rename_i hi;injection hx with hx;subst hx;have hy:(toC ((pZ 0 N).map o4))[i]? =some y:=hy;rw [toC,lba,lba,a37 om,if_neg om] at hy;injection hy with hy;subst hy;exact rz
  ·cases hx
def b11 {k n i:Nat} (e:i=k) (h:k<n):y6 (flB (pZ k n)) ((flB (pZ k n)).rows.set i (frC (fz ((0:Int):Rat))))=flB (pZ (k+1) n):=by
 have:=J9 (row:=pZ k n) (y:=fz 0) e;rw [b0h h] at this;exact this
def b23 (n:Nat) (hn:n<=1000):ec 284 [eI n] [] (.c (.own 0 0 n true)) [flB (rF n fun _=>0)]:=by
 have i0:=ad8 0 de de;refine ac Tryz.func284 ?_;conv=>whnf
 repeat' (first|refine zx ?_|refine a1g om om om de ?_|apply zD<;>intro h<;>try omega)<;>conv=>whnf
 refine j3 d7 (fun k=>([eI n,J,J,S.c (C.own 0 0 n true),eI k]++Jn 12,[flB (pZ k n)])) n tT [some 0] trivial
  ⟨rfl,rfl,⟨ap3 om,trivial⟩,⟨e7 rfl,⟨rfl,rfl,om,fun h=>h⟩,e7 rfl,trivial⟩⟩ ?_
 intro k hk _;by_cases hlt:k<n
 ·have eM:0+(k:Int).toNat=k:=by omega
  have gp:(pZ k n)[0+(k:Int).toNat]? =some (if k<k then fz 0 else C6):=by rw [eM];exact a37 hlt
  conv=>whnf
  repeat' (first|refine zx ?_|refine s8 gp ?_|apply zD<;>intro h<;>try omega)<;>conv=>whnf
  all_goals first|omega|exact ⟨hlt,trivial,[some 0],rfl,rfl,⟨e8 (rows:=(pZ (k+1) n).map o4) rfl rfl rfl (congrArg Blk.rows (b11 eM hlt)) rfl,trivial⟩,⟨rfl,⟨rfl,rfl,rfl,fun h=>h⟩,e7 om,trivial⟩⟩
 ·have hke:k=n:=by omega
  subst hke;conv=>whnf
  repeat' (first|refine zx ?_|apply zD<;>intro h<;>try omega)<;>conv=>whnf
  all_goals first|omega|exact ⟨[some 0],rfl,rfl,⟨e8 (rows:=(rF k fun _=>0).map o4) rfl rfl rfl (by rw [← ai9]) rfl,trivial⟩,⟨rfl,rfl,rfl,fun h=>h⟩⟩
def an6 {n i j:Nat} {g:Nat->Rat} {y:Rat} (e:i=j) (h:j<n):y6 (flB (rF n g)) ((flB (rF n g)).rows.set i (frC (fz y)))=flB (rF n fun k=>if k=j then y else g k):=by
 subst e;have:=J9 (row:=rF n g) (y:=fz y) (rfl:i=i);rw [X6 h] at this;exact this
def G6 {ρ:List (Option Nat)} {H:Hp} {k:Blk} {l:List Fr} (h:k=flB l):a2q ρ H k (flB l):=by subst h;exact j0 (i5 _)
def b8l (m n:Nat) (fr:LB) (sc:LI) (Z:Zd) (D:Fd) (hr:aO1 m n Z D) (hP:R4 m n D) (hB:ZB m n 1000 Z) (hm:m<=100000) (hn:n<=1000):
 ec 215 [jT m n fr sc Z,eI n] [] (n6 ((zOf n (J1 m n D 1 (fun _=>0))).map fz)) []:=by
 have m1:(U8 m Z.O).length=m:=m6 _ _;have i0:=ad8 0 de de;have lD:=hB.d;rw [a28,←B6 (g:=ptK n D.O D.V (fun _=>0) m) fun j hj=>ai5 hP hj];refine ac Tryz.func215 ?_;conv=>whnf
 repeat' (first|refine zx ?_|refine a1g om om om de ?_|apply zD<;>intro h<;>try omega)<;>conv=>whnf
 refine j3 d7 (fun k=>([jT m n fr sc Z,eI n,J,J,J,S.c (C.own 0 0 n true),eI k]++Jn 52,[flB (pZ k n)])) n tT [some 0] trivial
  ⟨rfl,rfl,⟨ap3 om,trivial⟩,⟨rfl,e7 rfl,⟨rfl,rfl,om,fun h=>h⟩,e7 rfl,trivial⟩⟩ ?_
 intro k hk _;by_cases hlt:k<n
 ·have eM:0+(k:Int).toNat=k:=by omega
  have gp:(pZ k n)[0+(k:Int).toNat]? =some (if k<k then fz 0 else C6):=by rw [eM];exact a37 hlt
  conv=>whnf
  repeat' (first|refine zx ?_|refine s8 gp ?_|apply zD<;>intro h<;>try omega)<;>conv=>whnf
  all_goals first|omega|exact ⟨hlt,trivial,[some 0],rfl,rfl,⟨G6 (b11 eM hlt),trivial⟩,⟨rfl,rfl,⟨rfl,rfl,rfl,fun h=>h⟩,e7 om,trivial⟩⟩
 ·have hke:k=n:=by omega
  subst hke;conv=>whnf
  repeat' (first|refine zx ?_|apply zD<;>intro h<;>try omega)<;>conv=>whnf
  all_goals try omega
  refine j3 d7 (fun i=>([jT m k fr sc Z,eI k,J,J,J,S.c (C.own 0 0 k true),J,eI i]++Jn 51,[flB (rF k (ptK k D.O D.V (fun _=>0) i))])) m tT [some 0] trivial
   ⟨rfl,rfl,⟨G6 (by rw [ai9];rfl),trivial⟩,⟨rfl,rfl,⟨rfl,rfl,rfl,fun h=>h⟩,e7 rfl,trivial⟩⟩ ?_
  intro i hi _;by_cases hlt:i<m
  ·have eO:Z.O i=D.O i:=by rw [hr.o]
   by_cases ho:D.O i<k
   ·have rt:=aG7 (Z.V i) Z.D hr.d (by have:=hB.v i hlt;omega) om;rw [b5S hr.d (hr.v i hlt)] at rt;have eIq:0+((Z.O i:Nat):Int).toNat=D.O i:=by rw [eO];omega
    have gp:(rF k (ptK k D.O D.V (fun _=>0) i))[0+((Z.O i:Nat):Int).toNat]? =some (fz (ptK k D.O D.V (fun _=>0) i (D.O i))):=by rw [eIq,G4 ho]
    have e:rF k (fun j=>if j=D.O i then D.V i else ptK k D.O D.V (fun _=>0) i j)=rF k (ptK k D.O D.V (fun _=>0) (i+1)):=by
     rw [G8];exact B6 fun j hj=>by simp only [ho,true_and]
    conv=>whnf
    repeat' (first|refine zx ?_|refine o9 rfl hlt ?_|refine a04 rfl hlt ?_|refine s8 gp ?_|apply zD<;>intro h<;>try omega)<;>conv=>whnf
    all_goals first|omega|exact ⟨hlt,trivial,[some 0],rfl,rfl,⟨G6 ((an6 eIq ho).trans (by rw [e])),trivial⟩,⟨rfl,rfl,⟨rfl,rfl,rfl,fun h=>h⟩,e7 om,trivial⟩⟩
   ·have e:ptK k D.O D.V (fun _=>0) (i+1)=ptK k D.O D.V (fun _=>0) i:=by rw [G8];funext j;rw [if_neg (fun h=>ho h.1)]
    conv=>whnf
    repeat' (first|refine zx ?_|refine o9 rfl hlt ?_|apply zD<;>intro h<;>try omega)<;>conv=>whnf
    all_goals first|omega|exact ⟨hlt,trivial,[some 0],rfl,rfl,⟨G6 (by rw [e]),trivial⟩,⟨rfl,rfl,⟨rfl,rfl,rfl,fun h=>h⟩,e7 om,trivial⟩⟩
  ·have hie:i=m:=by omega
   subst hie;conv=>whnf
   repeat' (first|refine zx ?_|apply zD<;>intro h<;>try omega)<;>conv=>whnf
   all_goals first|omega|exact L7 rfl (fun h=>h) rfl rfl (by simp [L1])
def bv3 (m n:Nat) (fr:LB) (sc:LI) (Z:Zd) (D:Fd) (c:Nat) (hc:c<n) (hr:aO1 m n Z D) (hP:R4 m n D) (hB:ZB m n 1000 Z) (hm:m<=100000) (hn:n<=1000):
 ec 217 [jT m n fr sc Z,eI n,eI c] [] (n6 ((zOf n (J1 m n D 0 (fun q=>if q=c then 1 else 0))).map fz)) []:=by
 have m1:(U8 m Z.O).length=m:=m6 _ _;have i0:=ad8 0 de de;have i1:=ad8 1 de de;have lD:=hB.d;obtain ⟨x0,hx0⟩:∃x0:Nat->Rat,x0=fun j=>if D.F c<n∧j=D.F c then 1 else 0:=⟨_,rfl⟩
 rw [a28,←B6 (g:=ptK n D.O (fun i=>-(D.A i c)) x0 m) fun j hj=>by rw [hx0];exact a7S hP hc hj];have eF:Z.F c=D.F c:=by rw [hr.f]
 (refine M9 d7 Tryz.func217 rfl de ?_;refine u3 d7 ?_;(conv=>whnf);repeat ((first|refine b0x ?_|refine zy ?_);conv=>whnf))
 repeat' (first|refine zx ?_|apply zD<;>intro h<;>try omega)<;>conv=>whnf
 refine u7 d7 ([jT m n fr sc Z,eI n,eI c,J,J,J,J,S.c (C.own 0 0 n true)]++Jn 76) [flB (pZ 0 n)] ?_ ?_
 ·conv=>whnf
  repeat' (first|refine zx ?_|refine a1g om om om de ?_|apply zD<;>intro h<;>try omega)<;>conv=>whnf
  all_goals exact ⟨[some 0],rfl,rfl,⟨ap3 om,trivial⟩,⟨rfl,e7 rfl,e7 rfl,⟨rfl,rfl,om,fun h=>h⟩,trivial⟩⟩
 refine u7 d7 ([jT m n fr sc Z,eI n,eI c,J,J,J,J,S.c (C.own 0 0 n true)]++Jn 76) [flB (rF n fun _=>0)] ?_ ?_
 ·conv=>whnf
  repeat' (first|refine zx ?_|apply zD<;>intro h<;>try omega)<;>conv=>whnf
  refine j3 d7 (fun k=>([jT m n fr sc Z,eI n,eI c,J,J,J,J,S.c (C.own 0 0 n true),eI k]++Jn 75,[flB (pZ k n)])) n tT [some 0] trivial
   ⟨rfl,rfl,⟨G6 rfl,trivial⟩,⟨rfl,rfl,rfl,⟨rfl,rfl,rfl,fun h=>h⟩,e7 rfl,trivial⟩⟩ ?_
  intro k hk _;by_cases hlt:k<n
  ·have eM:0+(k:Int).toNat=k:=by omega
   have gp:(pZ k n)[0+(k:Int).toNat]? =some (if k<k then fz 0 else C6):=by rw [eM];exact a37 hlt
   conv=>whnf
   repeat' (first|refine zx ?_|refine s8 gp ?_|apply zD<;>intro h<;>try omega)<;>conv=>whnf
   all_goals first|omega|exact ⟨hlt,trivial,[some 0],rfl,rfl,⟨G6 (b11 eM hlt),trivial⟩,⟨rfl,rfl,rfl,⟨rfl,rfl,rfl,fun h=>h⟩,e7 om,trivial⟩⟩
  ·have hke:k=n:=by omega
   subst hke;conv=>whnf
   repeat' (first|refine zx ?_|apply zD<;>intro h<;>try omega)<;>conv=>whnf
   all_goals first|omega|exact ⟨[some 0],rfl,rfl,⟨G6 (by rw [ai9]),trivial⟩,⟨rfl,rfl,rfl,⟨rfl,rfl,rfl,fun h=>h⟩,trivial⟩⟩
 refine u7 d7 ([jT m n fr sc Z,eI n,eI c,J,J,J,J,S.c (C.own 0 0 n true)]++Jn 76) [flB (rF n x0)] ?_ ?_
 ·by_cases hf:D.F c<n
  ·have eC:0+((Z.F c:Nat):Int).toNat=D.F c:=by rw [eF];omega
   have gp:(rF n fun _=>(0:Rat))[0+((Z.F c:Nat):Int).toNat]? =some (fz 0):=by rw [eC,G4 hf]
   have e:rF n (fun j=>if j=D.F c then ((1:Int):Rat) else 0)=rF n x0:=by
    rw [hx0];exact B6 fun j hj=>by simp only [hf,true_and];rfl
   conv=>whnf
   repeat' (first|refine zx ?_|refine o9 rfl hc ?_|refine s8 gp ?_|apply zD<;>intro h<;>try omega)<;>conv=>whnf
   all_goals first|omega|exact ⟨[some 0],rfl,rfl,⟨G6 ((an6 eC hf).trans (by rw [e])),trivial⟩,⟨rfl,rfl,rfl,⟨rfl,rfl,rfl,fun h=>h⟩,trivial⟩⟩
  ·have e:x0=fun _=>0:=by rw [hx0];funext j;rw [if_neg (fun h=>hf h.1)]
   conv=>whnf
   repeat' (first|refine zx ?_|refine o9 rfl hc ?_|apply zD<;>intro h<;>try omega)<;>conv=>whnf
   all_goals first|omega|exact ⟨[some 0],rfl,rfl,⟨G6 (by rw [e]),trivial⟩,⟨rfl,rfl,rfl,⟨rfl,rfl,rfl,fun h=>h⟩,trivial⟩⟩
 refine p5 d7 _ ?_;conv=>whnf
 repeat' (first|refine zx ?_|apply zD<;>intro h<;>try omega)<;>conv=>whnf
 refine j3 d7 (fun i=>([jT m n fr sc Z,eI n,eI c,J,J,J,J,S.c (C.own 0 0 n true),J,eI i]++Jn 74,[flB (rF n (ptK n D.O (fun i=>-(D.A i c)) x0 i))])) m tT [some 0] trivial
  ⟨rfl,rfl,⟨G6 rfl,trivial⟩,⟨rfl,rfl,rfl,⟨rfl,rfl,rfl,fun h=>h⟩,e7 rfl,trivial⟩⟩ ?_
 intro i hi _;by_cases hlt:i<m
 ·have eO:Z.O i=D.O i:=by rw [hr.o]
  by_cases ho:D.O i<n
  ·have bA:=hB.a i hlt c hc;have ng:=a57 (Z.A i c) om;have rt:=aG7 (-(Z.A i c)) Z.D hr.d (by rw [U3];omega) om;rw [b5S hr.d (x:=-(D.A i c)) (by push_cast;rw [hr.a i hlt c hc];grind)] at rt;have eIq:0+((Z.O i:Nat):Int).toNat=D.O i:=by rw [eO];omega
   have gp:(rF n (ptK n D.O (fun i=>-(D.A i c)) x0 i))[0+((Z.O i:Nat):Int).toNat]? =some (fz (ptK n D.O (fun i=>-(D.A i c)) x0 i (D.O i))):=by rw [eIq,G4 ho]
   have e:rF n (fun j=>if j=D.O i then -(D.A i c) else ptK n D.O (fun i=>-(D.A i c)) x0 i j)=rF n (ptK n D.O (fun i=>-(D.A i c)) x0 (i+1)):=by
    rw [G8];exact B6 fun j hj=>by simp only [ho,true_and]
   conv=>whnf
   repeat' (first|refine zx ?_|refine o9 rfl hlt ?_|refine a0Y rfl hlt ?_|refine a04 rfl hc ?_|refine s8 gp ?_|apply zD<;>intro h<;>try omega)<;>conv=>whnf
   all_goals first|omega|exact ⟨hlt,trivial,[some 0],rfl,rfl,⟨G6 ((an6 eIq ho).trans (by rw [e])),trivial⟩,⟨rfl,rfl,rfl,⟨rfl,rfl,rfl,fun h=>h⟩,e7 om,trivial⟩⟩
  ·have e:ptK n D.O (fun i=>-(D.A i c)) x0 (i+1)=ptK n D.O (fun i=>-(D.A i c)) x0 i:=by rw [G8];funext j;rw [if_neg (fun h=>ho h.1)]
   conv=>whnf
   repeat' (first|refine zx ?_|refine o9 rfl hlt ?_|apply zD<;>intro h<;>try omega)<;>conv=>whnf
   all_goals first|omega|exact ⟨hlt,trivial,[some 0],rfl,rfl,⟨G6 (by rw [e]),trivial⟩,⟨rfl,rfl,rfl,⟨rfl,rfl,rfl,fun h=>h⟩,e7 om,trivial⟩⟩
 ·have hie:i=m:=by omega
  subst hie;conv=>whnf
  repeat' (first|refine zx ?_|apply zD<;>intro h<;>try omega)<;>conv=>whnf
  all_goals first|omega|exact L7 rfl (fun h=>h) rfl rfl (by simp [L1])
def ab9 (fr:LB) (sc:LI) (y:Nat->Rat) (i:Nat) (p q:Int):Nat->Rat:=fun k=>
 if k=(fr.getD i (0,false)).1 then (if (fr.getD i (0,false)).2 then y k+Rat.divInt (p*sc.getD i 0) q else y k - Rat.divInt (p*sc.getD i 0) q) else y k
def b5E {fr:LB} {sc:LI} {y:Nat->Rat} {i B:Nat} {p q:Int} (hq:0<q) (hy:∀k,rl (y k)<=B) (lp:bl p<=1000) (lq:bl q<=1002) (ls:∀i,bl (sc.getD i 0)<=10):∀k,rl (ab9 fr sc y i p q k)<=B+1020:=by
 intro k;have h1:=C8 p (sc.getD i 0);have h2:=ls i;have h3:=S7 (p:=p*sc.getD i 0) (q:=q) om;have h4:=hy k;have h5:=a0O (y k) (Rat.divInt (p*sc.getD i 0) q);have h6:=aI7 (y k) (Rat.divInt (p*sc.getD i 0) q);unfold ab9;split
 ·split<;>omega
 ·omega
def ag5 (m n R i row B:Nat) (b:Bool) (fr:LB) (sc:LI) (Z:Zd) (y:Nat->Rat) (p q:Int) (hsc:sc.length=m) (hi:i<m) (hf:fr[i]? =some (row,b)) (hrow:row<R) (hq:0<q) (hy:∀k,rl (y k)<=B) (hB:B<=40000) (lp:bl p<=1000) (lq:bl q<=1002) (ls:∀i,bl (sc.getD i 0)<=10) (hm:m<=100000):
 ec 285 [jT m n fr sc Z,.c (.own 0 0 R true),eI i,bgS (bz p),bgS (bz q)] [flB (rF R y)] (.tup []) [flB (rF R (ab9 fr sc y i p q))]:=by
 obtain ⟨d,hd⟩:∃d,sc[i]? =some d:=⟨_,lbf om⟩;have hdg:sc.getD i 0=d:=by rw [lbl,hd];rfl
 have hfg:fr.getD i (0,false)=(row,b):=by rw [lbl,hf];rfl
 have ld:=ls i;rw [hdg] at ld;have h1:=C8 p d;have h3:=S7 (p:=p*d) (q:=q) om;have mu:=af9 p d om om;have rt:=aG7 (p*d) q hq om om;have su:=bb5 (y row) (Rat.divInt (p*d) q) (by have:=hy row;omega) om;have ad:=aQ6 (y row) (Rat.divInt (p*d) q) (by have:=hy row;omega) om;have gs:(S0 fr)[i]? =some (sg1 b):=by unfold S0;rw [lba,hf];rfl
 have gi:(frI fr)[i]? =some (row:Int):=by unfold frI;rw [lba,hf];rfl
 have eR:0+(row:Int).toNat=row:=om;have gy:(rF R y)[0+(row:Int).toNat]? =some (fz (y row)):=by rw [eR,G4 hrow]
 have gd:((sc.map U6))[(i:Int).toNat]? =some (U6 d):=by rw [show (i:Int).toNat=i by omega,lba,hd];rfl
 have exd:∀{K:List T->Prop},K (U6 d)->∃row,0<=(i:Int)∧(sc.map U6)[(i:Int).toNat]? =some row∧K row:=fun k=>⟨_,om,gd,k⟩
 cases b with
 |false=>
  have e:(fun k=>if k=row then y row - Rat.divInt (p*d) q else y k)=ab9 fr sc y i p q:=by
   funext k;unfold ab9;rw [hfg,hdg];by_cases hk:k=row
   ·subst hk;rw [if_pos rfl,if_pos rfl];rfl
   ·rw [if_neg hk,if_neg hk]
  have gs:(S0 fr)[i]? =some 1:=gs;refine ac Tryz.func285 ?_;conv=>whnf
  repeat' (first|refine zx ?_|refine exd ?_|refine y7 rfl gs ?_|refine y7 rfl gi ?_|refine s8 gy ?_|refine bl0 [14] ?_|apply zD<;>intro<;>try omega)<;>conv=>whnf
  all_goals first
   |omega
   |exact ⟨[some 0],rfl,rfl,⟨G6 ((an6 eR hrow).trans (by rw [e])),trivial⟩,trivial⟩
 |true=>
  have e:(fun k=>if k=row then y row+Rat.divInt (p*d) q else y k)=ab9 fr sc y i p q:=by
   funext k;unfold ab9;rw [hfg,hdg];by_cases hk:k=row
   ·subst hk;rw [if_pos rfl,if_pos rfl];rfl
   ·rw [if_neg hk,if_neg hk]
  have gs:(S0 fr)[i]? =some (-1):=gs;refine ac Tryz.func285 ?_;conv=>whnf
  repeat' (first|refine zx ?_|refine exd ?_|refine y7 rfl gs ?_|refine y7 rfl gi ?_|refine s8 gy ?_|refine bl0 [14] ?_|apply zD<;>intro<;>try omega)<;>conv=>whnf
  all_goals first|omega|exact ⟨[some 0],rfl,rfl,⟨G6 ((an6 eR hrow).trans (by rw [e])),trivial⟩,trivial⟩
def prK (n:Nat) (fr:LB) (sc:LI) (F:Nat->Nat) (P:Nat->Int) (q:Int) (y0:Nat->Rat):Nat->Nat->Rat
 |0=>y0
 |k+1=>if n<=F k then ab9 fr sc (prK n fr sc F P q y0 k) (F k - n) (P k) q else prK n fr sc F P q y0 k
def b0z {n B0:Nat} {fr:LB} {sc:LI} {F:Nat->Nat} {P:Nat->Int} {q:Int} {y0:Nat->Rat} (hq:0<q) (h0:∀i,rl (y0 i)<=B0) (lq:bl q<=1002) (ls:∀i,bl (sc.getD i 0)<=10):∀k,(∀ j,j<k->bl (P j)<=1000)->∀i,rl (prK n fr sc F P q y0 k i)<=B0+k*1020
 |0,_,i=>by have:=h0 i;show rl (y0 i)<=_;omega
 |k+1,hP,i=>by
  have ih:=b0z (n:=n) (fr:=fr) (F:=F) (P:=P) hq h0 lq ls k fun j hj=>hP j om
  rw [prK];split
  ·have:=b5E (fr:=fr) (i:=F k - n) hq ih (hP k om) lq ls i;omega
  ·have:=ih i;omega
structure FrP (m R:Nat) (fr:LB) (sc:LI):Prop where
 lf:fr.length=m
 ls:sc.length=m
 r:∀f ∈ fr,f.1<R
 b:∀i,bl (sc.getD i 0)<=10
def b5u (m n R:Nat) (fr:LB) (sc:LI) (Z:Zd) (hF:FrP m R fr sc) (hB:ZB m n 1000 Z) (hd:0<Z.D) (hfb:∀j,j<n->Z.F j<n+m) (hm:m<=100000) (hn:n<=30) (hR:R<=1000):
 ec 216 [jT m n fr sc Z,eI n,eI R] [] (n6 (rF R (prK n fr sc Z.F (fun j=>-(Z.C j)) (Z.D*1) (fun _=>0) n))) []:=by
 have m1:(U8 n Z.F).length=n:=m6 _ _;have lD:=hB.d;have l1:bl 1<=1:=p7 de de;have lq:=C8 Z.D 1;have hq:0<Z.D*1:=om;have z0:∀H:Hp,H.length=0->X3 Tryz.prog 284 [eI R] H (.c (.own 0 0 R true)) [flB (rF R fun _=>0)]:=fun H hH=>by
  have:=a1F (H:=H) (b23 R hR) rfl rfl (i5 _);rwa [hH] at this
 have mq:=af9 Z.D 1 om om;have r0:∀i:Nat,rl ((fun _=>(0:Rat)) i)<=1:=fun i=>rl0
 refine ac Tryz.func216 ?_;conv=>whnf
 repeat' (first|refine zx ?_|refine .inl ⟨_,_,z0 _ rfl,?_⟩|apply zD<;>intro h<;>try omega)<;>conv=>whnf
 refine j3 d7 (fun k=>([jT m n fr sc Z,eI n,J,J,J,J,J,S.c (C.own 0 0 R true),eI k]++Jn 50,[flB (rF R (prK n fr sc Z.F (fun j=>-(Z.C j)) (Z.D*1) (fun _=>0) k))])) n tT [some 0] trivial
  ⟨rfl,rfl,⟨G6 rfl,trivial⟩,⟨rfl,rfl,⟨rfl,rfl,rfl,fun h=>h⟩,e7 rfl,trivial⟩⟩ ?_
 intro k hk _;by_cases hlt:k<n
 ·have hF1:=hfb k hlt;have lc:=hB.c k hlt;have ng:=a57 (Z.C k) om;have hy:=b0z (n:=n) (fr:=fr) (sc:=sc) (F:=Z.F) (P:=fun j=>-(Z.C j)) hq r0 om hF.b k (fun j hj=>by rw [U3];exact hB.c j om);by_cases hge:n<=Z.F k
  ·obtain ⟨f,hf⟩:∃f,fr[Z.F k - n]? =some f:=⟨_,lbf (by have:=hF.lf;omega)⟩;have hfr:=hF.r f (lbm hf);have ch:=ag5 m n R (Z.F k - n) f.1 (1+k*1020) f.2 fr sc Z (prK n fr sc Z.F (fun j=>-(Z.C j)) (Z.D*1) (fun _=>0) k) (-(Z.C k)) (Z.D*1) hF.ls om hf hfr hq hy om (by rw [U3];omega) om hF.b hm;rw [show (((Z.F k - n:Nat):Nat):Int)=(Z.F k:Int) - (n:Int) by omega] at ch;have e:prK n fr sc Z.F (fun j=>-(Z.C j)) (Z.D*1) (fun _=>0) (k+1)=ab9 fr sc (prK n fr sc Z.F (fun j=>-(Z.C j)) (Z.D*1) (fun _=>0) k) (Z.F k - n) (-(Z.C k)) (Z.D*1):=by rw [prK,if_pos hge]
   conv=>whnf
   repeat' (first|refine zx ?_|refine .inr ⟨_,_,ch,?_⟩|refine o9 rfl hlt ?_|refine a04 rfl hlt ?_|apply zD<;>intro h<;>try omega)<;>conv=>whnf
   all_goals first|omega|exact ⟨hlt,trivial,[some 0],rfl,rfl,⟨G6 (by rw [e]),trivial⟩,⟨rfl,rfl,⟨rfl,rfl,rfl,fun h=>h⟩,e7 om,trivial⟩⟩
  ·have e:prK n fr sc Z.F (fun j=>-(Z.C j)) (Z.D*1) (fun _=>0) (k+1)=prK n fr sc Z.F (fun j=>-(Z.C j)) (Z.D*1) (fun _=>0) k:=by rw [prK,if_neg hge]
   conv=>whnf
   repeat' (first|refine zx ?_|refine o9 rfl hlt ?_|apply zD<;>intro h<;>try omega)<;>conv=>whnf
   all_goals first|omega|exact ⟨hlt,trivial,[some 0],rfl,rfl,⟨G6 (by rw [e]),trivial⟩,⟨rfl,rfl,⟨rfl,rfl,rfl,fun h=>h⟩,e7 om,trivial⟩⟩
 ·have hke:k=n:=by omega
  subst hke;conv=>whnf
  repeat' (first|refine zx ?_|apply zD<;>intro h<;>try omega)<;>conv=>whnf
  all_goals first|omega|exact L7 rfl (fun h=>h) rfl rfl (by simp [L1])
def rfY (n:Nat) (fr:LB) (sc:LI) (Z:Zd) (r:Nat):Nat->Rat:=if n<=Z.O r then ab9 fr sc (fun _=>0) (Z.O r - n) Z.D Z.D else fun _=>0
def aK4 (m n R r:Nat) (fr:LB) (sc:LI) (Z:Zd) (hF:FrP m R fr sc) (hB:ZB m n 1000 Z) (hd:0<Z.D) (hr:r<m) (hfb:∀j,j<n->Z.F j<n+m) (hob:∀i,i<m->Z.O i<n+m) (hm:m<=100000) (hn:n<=30) (hR:R<=1000):
 ec 214 [jT m n fr sc Z,eI n,eI R,eI r] [] (n6 (rF R (prK n fr sc Z.F (Z.A r) Z.D (rfY n fr sc Z r) n))) []:=by
 have m1:(U8 n Z.F).length=n:=m6 _ _;have lD:=hB.d;have z0:∀H:Hp,H.length=0->X3 Tryz.prog 284 [eI R] H (.c (.own 0 0 R true)) [flB (rF R fun _=>0)]:=fun H hH=>by
  have:=a1F (H:=H) (b23 R hR) rfl rfl (i5 _);rwa [hH] at this
 have r0:∀i:Nat,rl ((fun _=>(0:Rat)) i)<=1:=fun i=>rl0
 have ho1:=hob r hr;have hy0:∀i,rl (rfY n fr sc Z r i)<=1+1020:=by
  intro i;unfold rfY;split
  ·exact b5E hd r0 om om hF.b i
  ·have:=rl0;show rl 0<=_;omega
 (refine M9 d7 Tryz.func214 rfl de ?_;refine u3 d7 ?_;(conv=>whnf);repeat ((first|refine b0x ?_|refine zy ?_);conv=>whnf))
 repeat' (first|refine zx ?_|apply zD<;>intro h<;>try omega)<;>conv=>whnf
 (refine u3 d7 ?_;conv=>whnf)
 repeat' (first|refine zx ?_|refine .inl ⟨_,_,z0 _ rfl,?_⟩|apply zD<;>intro h<;>try omega)<;>conv=>whnf
 refine u7 d7 ([jT m n fr sc Z,eI n,J,eI r,J,J,J,J,J,S.c (C.own 0 0 R true)]++Jn 77) [flB (rF R (rfY n fr sc Z r))] ?_ ?_
 ·by_cases hge:n<=Z.O r
  ·obtain ⟨f,hf⟩:∃f,fr[Z.O r - n]? =some f:=⟨_,lbf (by have:=hF.lf;omega)⟩;have hfr:=hF.r f (lbm hf);have ch:=ag5 m n R (Z.O r - n) f.1 1 f.2 fr sc Z (fun _=>0) Z.D Z.D hF.ls om hf hfr hd r0 om om om hF.b hm;rw [show (((Z.O r - n:Nat):Nat):Int)=(Z.O r:Int) - (n:Int) by omega] at ch;have e:rfY n fr sc Z r=ab9 fr sc (fun _=>0) (Z.O r - n) Z.D Z.D:=if_pos hge;conv=>whnf
   repeat' (first|refine zx ?_|refine .inr ⟨_,_,ch,?_⟩|refine o9 rfl hr ?_|apply zD<;>intro h<;>try omega)<;>conv=>whnf
   all_goals first|omega|exact ⟨[some 0],rfl,rfl,⟨G6 (by rw [e]),trivial⟩,⟨rfl,rfl,rfl,⟨rfl,rfl,rfl,fun h=>h⟩,trivial⟩⟩
  ·have e:rfY n fr sc Z r=fun _=>0:=if_neg hge
   conv=>whnf
   repeat' (first|refine zx ?_|refine o9 rfl hr ?_|apply zD<;>intro h<;>try omega)<;>conv=>whnf
   all_goals first|omega|exact ⟨[some 0],rfl,rfl,⟨G6 (by rw [e]),trivial⟩,⟨rfl,rfl,rfl,⟨rfl,rfl,rfl,fun h=>h⟩,trivial⟩⟩
 refine p5 d7 _ ?_;conv=>whnf
 repeat' (first|refine zx ?_|apply zD<;>intro h<;>try omega)<;>conv=>whnf
 refine j3 d7 (fun k=>([jT m n fr sc Z,eI n,J,eI r,J,J,J,J,J,S.c (C.own 0 0 R true),eI k]++Jn 76,[flB (rF R (prK n fr sc Z.F (Z.A r) Z.D (rfY n fr sc Z r) k))])) n tT [some 0] trivial
  ⟨rfl,rfl,⟨G6 rfl,trivial⟩,⟨rfl,rfl,rfl,⟨rfl,rfl,rfl,fun h=>h⟩,e7 rfl,trivial⟩⟩ ?_
 intro k hk _;by_cases hlt:k<n
 ·have hF1:=hfb k hlt;have la:=hB.a r hr k hlt;have hy:=b0z (n:=n) (fr:=fr) (sc:=sc) (F:=Z.F) (P:=Z.A r) hd hy0 om hF.b k (fun j hj=>hB.a r hr j om);by_cases hge:n<=Z.F k
  ·obtain ⟨f,hf⟩:∃f,fr[Z.F k - n]? =some f:=⟨_,lbf (by have:=hF.lf;omega)⟩;have hfr:=hF.r f (lbm hf);have ch:=ag5 m n R (Z.F k - n) f.1 (1+1020+k*1020) f.2 fr sc Z (prK n fr sc Z.F (Z.A r) Z.D (rfY n fr sc Z r) k) (Z.A r k) Z.D hF.ls om hf hfr hd hy om om om hF.b hm;rw [show (((Z.F k - n:Nat):Nat):Int)=(Z.F k:Int) - (n:Int) by omega] at ch;have e:prK n fr sc Z.F (Z.A r) Z.D (rfY n fr sc Z r) (k+1)=ab9 fr sc (prK n fr sc Z.F (Z.A r) Z.D (rfY n fr sc Z r) k) (Z.F k - n) (Z.A r k) Z.D:=by rw [prK,if_pos hge]
   conv=>whnf
   repeat' (first|refine zx ?_|refine .inr ⟨_,_,ch,?_⟩|refine o9 rfl hlt ?_|refine a0Y rfl hr ?_|refine a04 rfl hlt ?_|apply zD<;>intro h<;>try omega)<;>conv=>whnf
   all_goals first|omega|exact ⟨hlt,trivial,[some 0],rfl,rfl,⟨G6 (by rw [e]),trivial⟩,⟨rfl,rfl,rfl,⟨rfl,rfl,rfl,fun h=>h⟩,e7 om,trivial⟩⟩
  ·have e:prK n fr sc Z.F (Z.A r) Z.D (rfY n fr sc Z r) (k+1)=prK n fr sc Z.F (Z.A r) Z.D (rfY n fr sc Z r) k:=by rw [prK,if_neg hge]
   conv=>whnf
   repeat' (first|refine zx ?_|refine o9 rfl hlt ?_|apply zD<;>intro h<;>try omega)<;>conv=>whnf
   all_goals first|omega|exact ⟨hlt,trivial,[some 0],rfl,rfl,⟨G6 (by rw [e]),trivial⟩,⟨rfl,rfl,rfl,⟨rfl,rfl,rfl,fun h=>h⟩,e7 om,trivial⟩⟩
 ·have hke:k=n:=by omega
  subst hke;conv=>whnf
  repeat' (first|refine zx ?_|apply zD<;>intro h<;>try omega)<;>conv=>whnf
  all_goals first|omega|exact L7 rfl (fun h=>h) rfl rfl (by simp [L1])
abbrev bs0 (m n:Nat) (D:Int):Blk:={ mode:=.live,elem:=274,size:=12,rows:=[[C.own 2 0 m true,.own 3 0 m true,.own 4 0 n true,.t (ti (bz D).sg),.t (x6 (bz D).dl),.own 5 0 m true,.own 6 0 n true,.own 7 0 m true,.own 8 0 m true,.own 9 0 m true,.t (ti (bz 1).sg),.t (x6 (bz 1).dl)]],box:=true }
abbrev be7 (m n:Nat) (fr:LB) (sc:LI) (Z:Zd) (b:Blk):Hp:=
 b::bs0 m n Z.D::zlB (zF m Z.V)::hdB 10 m n::zlB (zF n Z.C)::Q0 m Z.O::Q0 n Z.F::x9 (frI fr)::x9 (S0 fr)::zlB sc::(mZ m n Z.A).map zlB
def bl7 {m n:Nat} {fr:LB} {sc:LI} {Z:Zd} {g:FuncId} {args:List S} (b:Blk) (ha:args.map (a53 [])=args) (hok:args.all (okS 0)=true) (h:ec g args [] (.c (.ptr 0 0 0)) (J3 m n fr sc Z [])):
 ec g args [b] (.c (.ptr 1 0 0)) (be7 m n fr sc Z b):=by
 have hlen:(J3 m n fr sc Z []).length=m+9:=V7;have hsub:(J3 m n fr sc Z []).length - ([]:Hp).length=m+9:=by rw [hlen];simp
 have g1:∀i,i<m+9->(a3D [] ([b]:Hp).length ((J3 m n fr sc Z []).length - ([]:Hp).length)).getD i 0=i+1:=fun i hi=>by
  rw [hsub];exact b30 hi
 refine Q8 [] h ha.symm hok rfl aN7 zq (fun k hk=>by rw [(a0E k hk).1];intro h;cases h) zq rfl ?_ (by rw [hsub];simp [d8];omega) ?_ ?_
 ·show S.c (.ptr 1 0 0)=S.c (.ptr _ 0 0);rw [g1 0 om]
 ·intro i k hk;have hi:i<m+9:=by rw [← hlen];exact (lbe.1 hk).1
  rw [g1 i hi];rcases i with _|_|_|_|_|_|_|_|_|i
  ·injection hk with hk;subst hk
   refine ⟨_,rfl,rfl,rfl,rfl,rfl,?_⟩;simp only [a7f,ap1,List.map_nil,a0T,X8];rw [g1 1 om,g1 2 om,g1 3 om,g1 4 om,g1 5 om,g1 6 om,g1 7 om,g1 8 om]
  ·injection hk with hk;subst hk;exact ⟨_,rfl,z4 rfl⟩
  ·injection hk with hk;subst hk
   refine ⟨_,rfl,rfl,rfl,rfl,rfl,?_⟩;unfold a7f;show hdR 10 _ _=(hdR 9 _ _).map _;unfold hdR;rw [a55];refine lbp fun j hj=>?_
   have hj:=lbA.1 hj;show _=a0T _ [C.own (j+9) 0 n true];simp only [a0T,X8];rw [g1 (j+9) om]
  ·injection hk with hk;subst hk;exact ⟨_,rfl,z4 rfl⟩
  ·injection hk with hk;subst hk;exact ⟨_,rfl,z4 rfl⟩
  ·injection hk with hk;subst hk;exact ⟨_,rfl,z4 rfl⟩
  ·injection hk with hk;subst hk;exact ⟨_,rfl,z4 rfl⟩
  ·injection hk with hk;subst hk;exact ⟨_,rfl,z4 rfl⟩
  ·injection hk with hk;subst hk;exact ⟨_,rfl,z4 rfl⟩
  ·have hk:((mZ m n Z.A).map zlB++[])[i]? =some k:=hk;rw [a0x] at hk;refine ⟨k,hk,?_⟩;obtain ⟨l,_,rfl⟩:=lbw.1 (lbm hk);exact z4 rfl
 ·intro j hj _;have:j=0:=by simpa using hj
  subst this;rfl
def fSJ (m:Nat):Nat->Nat:=fun i=>if i<m+9 then i+1 else 0
def a3G {m n:Nat} {fr:LB} {sc:LI} {Z:Zd} {b:Blk} {env env':Env} {H:Hp} (hb:I5 b.rows) (hH:H=be7 m n fr sc Z b) (hE:X5 (fR (m+10) (fSJ m)) H env env'):
 Ent 0 (fR (m+10) (fSJ m)) env H env' (J3 m n fr sc Z [b]):=by
 subst hH;have fa:∀i,i<m+9->fSJ m i=i+1:=fun i hi=>by unfold fSJ;rw [if_pos hi]
 have ff:∀i,i<m+9->(fR (m+10) (fSJ m))[i]? =some (some (i+1)):=fun i hi=>by rw [t8 om,fa i hi]
 refine a8W (by simp [d8]) om (fun i hi=>om) (fun i j hi hj h=>by unfold fSJ at h;(repeat' split at h)<;>omega) ?_ hE;intro i k' hk;rcases i with _|_|_|_|_|_|_|_|_|i
 ·injection hk with hk;subst hk
  rw [fa 0 om];exact ⟨_,rfl,rfl,rfl,rfl,.inr ⟨⟨⟨ff _ om,rfl,rfl,fun h=>h⟩,⟨ff _ om,rfl,rfl,fun h=>h⟩,⟨ff _ om,rfl,rfl,fun h=>h⟩,rfl,rfl,⟨ff _ om,rfl,rfl,fun h=>h⟩,⟨ff _ om,rfl,rfl,fun h=>h⟩,⟨ff _ om,rfl,rfl,fun h=>h⟩,⟨ff _ om,rfl,rfl,fun h=>h⟩,⟨ff _ om,rfl,rfl,fun h=>h⟩,rz⟩,trivial⟩⟩
 ·injection hk with hk;subst hk;rw [fa 1 om];exact ⟨_,rfl,j0 (i5 _)⟩
 ·injection hk with hk;subst hk
  rw [fa 2 om];refine ⟨_,rfl,rfl,rfl,rfl,.inr (a0s (by show (hdR 10 m n).length=(hdR 9 m n).length;simp [y8]) fun i x y hx hy=>?_)⟩;have hx:(hdR 10 m n)[i]? =some x:=hx;have hy:(hdR 9 m n)[i]? =some y:=hy;have hi:i<m:=by have:=(lbe.1 hx).1;rwa [y8] at this
  rw [a80 hi] at hx hy;injection hx with hx;injection hy with hy
  subst hx hy;exact ⟨⟨ff _ om,rfl,rfl,fun h=>h⟩,trivial⟩
 ·injection hk with hk;subst hk;rw [fa 3 om];exact ⟨_,rfl,j0 (i5 _)⟩
 ·injection hk with hk;subst hk;rw [fa 4 om];exact ⟨_,rfl,j0 (i5 _)⟩
 ·injection hk with hk;subst hk;rw [fa 5 om];exact ⟨_,rfl,j0 (i5 _)⟩
 ·injection hk with hk;subst hk;rw [fa 6 om];exact ⟨_,rfl,j0 (i5 _)⟩
 ·injection hk with hk;subst hk;rw [fa 7 om];exact ⟨_,rfl,j0 (i5 _)⟩
 ·injection hk with hk;subst hk;rw [fa 8 om];exact ⟨_,rfl,j0 (i5 _)⟩
 ·have hk:((mZ m n Z.A).map zlB++[b])[i]? =some k':=hk;by_cases hi:i<m
  ·rw [E3 (X9 hi)] at hk;injection hk with hk;subst hk
   rw [fa _ om];refine ⟨zlB (zF n (Z.A i)),?_,j0 (i5 _)⟩;show ((mZ m n Z.A).map zlB)[i]? =_;rw [lba,X9 hi];rfl
  ·obtain ⟨t,rfl⟩:∃t,i=m+t:=⟨i - m,om⟩;rw [aG1] at hk;rcases t with _|t
   ·injection hk with hk;subst hk
    have:fSJ m (m+0+9)=0:=by unfold fSJ;rw [if_neg om]
    rw [this];exact ⟨_,rfl,j0 hb⟩
   ·simp at hk
def a9w {m n:Nat} {fr:LB} {sc:LI} {Z:Zd} {env env':Env} (b:Blk) (hb:I5 b.rows) (hE:a6M [some (m+9)] (J3 m n fr sc Z [b]) env env'):b61 0 [some (m+9)] env (J3 m n fr sc Z [b]) env' [b]:=by
 refine ⟨rfl,?_,a2N rfl fun i k' hk=>?_,hE⟩
 ·simp only [U1,a4X];cases b.mode<;>rfl
 ·rcases i with _|i
  ·injection hk with hk;subst hk
   exact ⟨m+9,_,rfl,aG1 (j:=0),j0 hb⟩
  ·simp at hk
structure LJ (s:i8) (g:List (Int × Rat)):Prop where
 sm:T8 s
 w:z6 g
 tg:j2 (-1) ((s.n.toNat:Nat):Int) g=true
def a7o {s:i8} (h:T8 s):LJ s []:=⟨h,(fun t ht=>by cases ht),rfl⟩
def be6 {s:i8} {g:List (Int × Rat)} (h:LJ s g):bq9 s g s.n.toNat:=⟨h.sm,h.tg,(Q9 h.sm.r).symm,h.w⟩
abbrev Mj (s:i8):Nat:=(f8 (j5 s)).length
def aP4 {s:i8} (h:T8 s):Mj s<=2000:=by
 have:=a0a (s:=j5 s) (j5 s).rows.length;have e:(j5 s).rows.length=s.rows.length:=lbr ..;have:=h.l;show (F7 (j5 s) (j5 s).rows.length).length<=2000;omega
noncomputable abbrev Zj (s:i8) (g:List (Int × Rat)) (D:Fd):Zd:=W9 (Mj s) (j5 s).n.toNat (j4 (j5 s) g) D
noncomputable abbrev aq8 (s:i8) (g:List (Int × Rat)) (D:Fd) (T:Hp):Hp:=J3 (Mj s) s.n.toNat (f8 (j5 s)) (scL s (f8 (j5 s))) (Zj s g D) T
def b7r {s:i8} {g:List (Int × Rat)} (h:LJ s g):bo0 (Mj s) s.n.toNat (j4 (j5 s) g) (fun j=>-(y5 g j)):=by
 have hn:=Q9 h.sm.r;have:=h.sm.n;refine ⟨by have:=aP4 h.sm;omega,om,ae9,T4,fun D hD=>?_⟩;obtain ⟨h1,h2⟩:=aQ9 h.sm h.w hD;exact ⟨h1,fun i hi=>lbR (h2.v i hi) de,fun i hi j hj=>lbR (h2.a i hi j hj) de,fun j hj=>lbR (h2.c j hj) de,lbR h2.d de⟩
def b9y {s:i8} {g:List (Int × Rat)} (h:LJ s g):d6 Tryz.prog 212 [D8 s,k7 g] [] (.c (.ptr 0 0 0)) (aq8 s g (j4 (j5 s) g) []):=by
 have op:=b6b s g s.n.toNat (be6 h)
 have hD:=b0e h.sm h.w
 have e:G1 (Mj s) s.n.toNat s.n.toNat (f8 (j5 s)) (scL s (f8 (j5 s))) 1 (V0 s g) (C0 g g.length) (fun i=>s.n.toNat+i) (fun j=>j) (A0 s g) []=aq8 s g (j4 (j5 s) g) []:=by
  have hD':b1k (Mj s) (j5 s).n.toNat (j4 (j5 s) g) (j4 (j5 s) g)=1:=hD
  have e1:∀x:Rat,((((b1k (Mj s) (j5 s).n.toNat (j4 (j5 s) g) (j4 (j5 s) g):Int):Rat))*x).num=x.num:=fun x=>by
   rw [hD'];congr 1;show (1:Rat)*x=x;grind
  refine a6l (Z:=⟨V0 s g,A0 s g,C0 g g.length,1,fun i=>s.n.toNat+i,fun j=>j⟩) ⟨fun i _=>(e1 _).symm,fun i _ j _=>(e1 _).symm,fun j _=>(e1 _).symm,hD.symm,rfl,rfl⟩
 rw [e] at op
 exact op
def a1D {s:i8} {g:List (Int × Rat)} (h:LJ s g) (T:Hp):ec 213 [.c (.ptr 0 0 0)] (aq8 s g (j4 (j5 s) g) T) (.tup [eI (a5Z (F5 (j5 s) g)).1,eI (a5Z (F5 (j5 s) g)).2]) (aq8 s g (o6 (j5 s) g) T):=
 aA4 T (b1H _ _ _ _ _ _ (b7r h) rfl (ae1 ..)) (by simp [okS,okC,a0j]) rfl rfl
def aL8 {s:i8} {g:List (Int × Rat)} (h:LJ s g):aO1 (Mj s) s.n.toNat (Zj s g (o6 (j5 s) g)) (o6 (j5 s) g)∧ZB (Mj s) s.n.toNat 1000 (Zj s g (o6 (j5 s) g))∧R4 (Mj s) s.n.toNat (o6 (j5 s) g):=by
 obtain ⟨h1,h2⟩:=(b7r h).d _ (a2w T4).1;exact ⟨(a6t h1).2,h2,I0.p⟩
def b4Q {s:i8} (h:T8 s):FrP (Mj s) s.rows.length (f8 (j5 s)) (scL s (f8 (j5 s))):=by
 refine ⟨rfl,ae1 ..,fun f hf=>?_,fun i=>?_⟩
 ·obtain ⟨w,hw,_⟩:=S9.1 hf;have:=(lbe.1 hw).1;have e:(j5 s).rows.length=s.rows.length:=lbr ..;omega
 ·have l0:bl 0<=1:=p7 de de;have l1:bl 1<=1:=p7 de de;have key:∀f:Nat × Bool,bl (b6d s f)<=10:=fun f=>by
   unfold b6d;cases hw:s.rows[f.1]? with
   |none=>show bl 1<=10;omega
   |some w=>
    have:=(a3q (h.i w (lbm hw)).2).1;have:=a0t w.value;have:=p7 (x:=(w.value.den:Int)) om om;show bl (w.value.den:Int)<=10;omega
  unfold scL;rw [lbl,lba];cases (f8 (j5 s))[i]? with
  |none=>show bl 0<=10;omega
  |some f=>exact key f
def af4 {s:i8} (h:T8 s):T9 s:=by
 refine ⟨by have:=h.l;omega,fun w hw=>?_⟩;obtain ⟨k,hk,hkw⟩:=a1k hw;have hwk:s.rows[k]? =some w:=by rw [lbf hk,hkw]
 have hn:=Q9 h.r;have hrw:=(a1A h.r hwk).1;rw [hn] at hrw;have hl:=s9 hrw;have:=h.n;have hI:=h.i w hw;obtain ⟨d1,d2⟩:=a3q hI.2;have d3:=a0t w.value;have b1:=p7 (x:=(w.value.den:Int)) om om;have b2:=P7 (x:=w.value.num) om om;exact ⟨om,fun t ht=>lbR (E5 hI.1 t ht) de,by show max _ _<=200;omega⟩
abbrev b4F (o:bt6):S:=.agg (C.t (ti o.kind)::frC o.value++[C.t (O8 (o.X.map fz)),C.t (O8 (o.Y.map fz)),C.t (O8 (o.R.map fz))])
def a9v {s:i8} {g:List (Int × Rat)} {D:Fd} {T:Hp} {p:Nat->Prop} (hp:∀i,i<Mj s+9->p i):VY (aq8 s g D T) p (.ptr 0 0 0) (.ptr (b9J (Mj s) s.n.toNat (f8 (j5 s)) (scL s (f8 (j5 s))) (Zj s g D))):=b4A rfl (ae1 ..) hp
noncomputable abbrev dJ (s:i8) (g:List (Int × Rat)):S:=jT (Mj s) s.n.toNat (f8 (j5 s)) (scL s (f8 (j5 s))) (Zj s g (o6 (j5 s) g))
def aZ0 {s:i8} {g:List (Int × Rat)} (h:LJ s g):ec 215 [dJ s g,eI s.n] [] (n6 ((m8 (j5 s) g).map fz)) []:=by
 obtain ⟨h1,h2,h3⟩:=aL8 h;have hn:=Q9 h.sm.r;have:=h.sm.n;have:=aP4 h.sm;have pt:=b8l (Mj s) s.n.toNat (f8 (j5 s)) (scL s (f8 (j5 s))) _ _ h1 h3 h2 om om;rw [hn] at pt;exact pt
def bh8 {s:i8} {g:List (Int × Rat)} (h:LJ s g) {c:Nat} (hc:c<s.n.toNat):ec 217 [dJ s g,eI s.n,eI c] [] (n6 ((a4h (j5 s) g c).map fz)) []:=by
 obtain ⟨h1,h2,h3⟩:=aL8 h;have hn:=Q9 h.sm.r;have:=h.sm.n;have:=aP4 h.sm;have pt:=bv3 (Mj s) s.n.toNat (f8 (j5 s)) (scL s (f8 (j5 s))) _ _ c hc h1 h3 h2 om om;rw [hn] at pt;exact pt
def b3E {s:i8} {g:List (Int × Rat)} (h:LJ s g):∃Y:List Rat,ec 216 [dJ s g,eI s.n,eI s.rows.length] [] (n6 (Y.map fz)) []:=by
 obtain ⟨h1,h2,h3⟩:=aL8 h;have hn:=Q9 h.sm.r;have:=h.sm.n;have:=h.sm.l;have:=aP4 h.sm;have pt:=b5u (Mj s) s.n.toNat s.rows.length _ _ _ (b4Q h.sm) h2 h1.d (fun j hj=>by rw [h1.f];exact h3.fb j hj) om om om;rw [hn,←a28] at pt;exact ⟨_,pt⟩
def a6K {s:i8} {g:List (Int × Rat)} (h:LJ s g) {r:Nat} (hr:r<Mj s):∃Y:List Rat,ec 214 [dJ s g,eI s.n,eI s.rows.length,eI r] [] (n6 (Y.map fz)) []:=by
 obtain ⟨h1,h2,h3⟩:=aL8 h;have hn:=Q9 h.sm.r;have:=h.sm.n;have:=h.sm.l;have:=aP4 h.sm;have pt:=aK4 (Mj s) s.n.toNat s.rows.length r _ _ _ (b4Q h.sm) h2 h1.d hr (fun j hj=>by rw [h1.f];exact h3.fb j hj) (fun i hi=>by rw [h1.o];exact h3.ob i hi) om om om;rw [hn,←a28] at pt;exact ⟨_,pt⟩
def a3x {s:i8} {g:List (Int × Rat)} (h:LJ s g) (b:Blk):ec 212 [D8 s,k7 g] [b] (.c (.ptr 1 0 0)) (be7 (Mj s) s.n.toNat (f8 (j5 s)) (scL s (f8 (j5 s))) (Zj s g (j4 (j5 s) g)) b):=
 bl7 b (by simp [a53,a0T,X8]) (by simp [okS,okC,okL]) (b9y h)
def ag9 {P:Program} {g:FuncId} {x:S} {H H':Hp} {r:S} (h:d6 P g [x,k7 []] H r H'):d6 P g [x,.c (.t (.sl 0 .nil []))] H r H':=by
 refine a3Q h rfl fun w ι M j a b v hx hy hr=>?_
 rcases j with _|_|j
 ·injection hx with hx;injection hy with hy;subst hx hy;exact hr
 ·injection hx with hx;injection hy with hy;subst hx hy
  cases hr with
  |c hr=>cases hr with
   |t hr=>exact .c (.t (hr.weak rfl))
 ·simp at hx
def az8 (m:Nat):fSJ m (m+9)=0:=by unfold fSJ;rw [if_neg om]
def ay2 (m:Nat):fSJ m 0=1:=by unfold fSJ;rw [if_pos om]
def b83 (s:i8) (g:List (Int × Rat)) (h:LJ s g) (hout:F5 (j5 s) g=.best):∃Y:List Rat,
 ec 140 [D8 s,k7 g] [] (.tup [b4F ⟨0,fz (m7 g (m8 (j5 s) g)),m8 (j5 s) g,Y,[]⟩,eI 0]) []:=by
 have lr:=a1y s (af4 h.sm);rw [h.sm.r] at lr;have hn:=Q9 h.sm.r;have hn9:=h.sm.n;have hgl:=s9 h.tg;have hg200:∀t ∈ g,rl t.2<=200:=fun t ht=>lbR (E5 h.w t ht) de
 have rt:=K5 g s.n om hg200;rw [← hn,lbG om,h.tg,hn] at rt;have m1:(s.rows.map p4).length=s.rows.length:=zq;have op:=a3x h (bO z8);have se:=a1D h [bO z8];rw [hout] at se;obtain ⟨Y,pr⟩:=b3E h;rw [show s.rows.length=(s.rows.map p4).length from m1.symm] at pr;refine ⟨Y,?_⟩;have pt:=aZ0 h;have pl:(m8 (j5 s) g).length=s.n.toNat:=K2;have pb:=a5Q h.sm h.w;have va:=ac4 g (m8 (j5 s) g) om hg200 (fun v hv=>lbR (pb v hv) de) (fun k=>by
  have:=a1U (E5 h.w) pb k;have:g.length*(25+4)<=9*29:=lbS om (lbQ _);omega) om (by rw [pl];exact h.tg)
 (refine M9 d7 Tryz.func140 rfl de ?_;refine u3 d7 ?_;(conv=>whnf);repeat ((first|refine b0x ?_|refine zy ?_);conv=>whnf))
 repeat' (first|refine zz ?_|refine b0x ?_|apply zD<;>intro h<;>try omega|refine zy ?_|fail)<;>conv=>whnf
 (refine u3 d7 ?_;conv=>whnf)
 repeat' (first|refine zx ?_|apply zD<;>intro h<;>try omega)<;>conv=>whnf
 all_goals try (exfalso;simp_all;done)
 refine u7 d7 ([J,k7 g,S.c (C.t (T.ptr (a0b s))),J,S.c (C.ptr (Mj s+9) 0 0),eI 0,sP 0 0 0]++Jn 86) (aq8 s g (j4 (j5 s) g) [bO z8]) ?_ ?_
 ·conv=>whnf
  repeat' (first|refine zx ?_|refine .inr ⟨_,_,op,?_⟩|refine C1 ?_|apply zD<;>intro h<;>try omega)<;>conv=>whnf
  exact ⟨_,a3G a3n rfl ⟨l9 rfl,l9 rfl,⟨by rw [t8 om,az8],rz⟩,rfl,⟨by rw [t8 om,ay2],rz⟩,trivial⟩⟩
 refine Y3 d7 ([J,k7 g,S.c (C.t (T.ptr (a0b s))),J,sP 0 0 0,eI 0,dJ s g,eI (-1),eI (-1)]++Jn 84) [bO z8] ?_ ?_
 ·conv=>whnf
  repeat' (first|refine zx ?_|refine .inr ⟨_,_,se,?_⟩|refine f5 ?_|refine bl0 [4] ?_|apply zD<;>intro h<;>try omega)<;>conv=>whnf
  exact ⟨_,a9w (bO z8) a3n ⟨.inl (l9 rfl),.inl (l9 rfl),.inl rz,.inl rfl,.inr (a9v fun i hi=>T6 hi),.inl rfl,.inl rfl,trivial⟩⟩
 (refine u3 d7 ?_;conv=>whnf)
 repeat' (first|refine zx ?_|apply zD<;>intro h<;>try omega)<;>conv=>whnf
 all_goals try omega
 refine p5 d7 _ ?_;conv=>whnf
 repeat' (first|refine zx ?_|refine bl0 [4] ?_|refine bl0 [5] ?_|apply zD<;>intro h<;>try omega)<;>conv=>whnf
 all_goals first|omega|exact m9 rz
def bg6 (s:i8) (g:List (Int × Rat)) (r:Nat) (h:LJ s g) (hout:F5 (j5 s) g=.row r):∃Y:List Rat,
 ec 140 [D8 s,k7 g] [] (.tup [b4F ⟨1,C6,[],Y,[]⟩,eI 0]) []:=by
 have lr:=a1y s (af4 h.sm);rw [h.sm.r] at lr;have hn:=Q9 h.sm.r;have hn9:=h.sm.n;have hgl:=s9 h.tg;have hg200:∀t ∈ g,rl t.2<=200:=fun t ht=>lbR (E5 h.w t ht) de
 have rt:=K5 g s.n om hg200;rw [← hn,lbG om,h.tg,hn] at rt;have m1:(s.rows.map p4).length=s.rows.length:=zq;have op:=a3x h (bO z8);have se:=a1D h [bO z8];rw [hout] at se;obtain ⟨Y,pr⟩:=a6K h (r:=r) (a8y hout).1;rw [show s.rows.length=(s.rows.map p4).length from m1.symm] at pr;refine ⟨Y,?_⟩
 (refine M9 d7 Tryz.func140 rfl de ?_;refine u3 d7 ?_;(conv=>whnf);repeat ((first|refine b0x ?_|refine zy ?_);conv=>whnf))
 repeat' (first|refine zz ?_|refine b0x ?_|apply zD<;>intro h<;>try omega|refine zy ?_|fail)<;>conv=>whnf
 (refine u3 d7 ?_;conv=>whnf)
 repeat' (first|refine zx ?_|apply zD<;>intro h<;>try omega)<;>conv=>whnf
 all_goals try (exfalso;simp_all;done)
 refine u7 d7 ([J,k7 g,S.c (C.t (T.ptr (a0b s))),J,S.c (C.ptr (Mj s+9) 0 0),eI 0,sP 0 0 0]++Jn 86) (aq8 s g (j4 (j5 s) g) [bO z8]) ?_ ?_
 ·conv=>whnf
  repeat' (first|refine zx ?_|refine .inr ⟨_,_,op,?_⟩|refine C1 ?_|apply zD<;>intro h<;>try omega)<;>conv=>whnf
  exact ⟨_,a3G a3n rfl ⟨l9 rfl,l9 rfl,⟨by rw [t8 om,az8],rz⟩,rfl,⟨by rw [t8 om,ay2],rz⟩,trivial⟩⟩
 refine Y3 d7 ([J,k7 g,S.c (C.t (T.ptr (a0b s))),J,sP 0 0 0,eI 0,dJ s g,eI r,eI (-1)]++Jn 84) [bO z8] ?_ ?_
 ·conv=>whnf
  repeat' (first|refine zx ?_|refine .inr ⟨_,_,se,?_⟩|refine f5 ?_|refine bl0 [4] ?_|apply zD<;>intro h<;>try omega)<;>conv=>whnf
  exact ⟨_,a9w (bO z8) a3n ⟨.inl (l9 rfl),.inl (l9 rfl),.inl rz,.inl rfl,.inr (a9v fun i hi=>T6 hi),.inl rfl,.inl rfl,trivial⟩⟩
 refine p5 d7 _ ?_;conv=>whnf
 repeat' (first|refine zx ?_|apply zD<;>intro h<;>try omega)<;>conv=>whnf
 all_goals first|omega|exact m9 rz
def b8q (s:i8) (g:List (Int × Rat)) (c:Nat) (h:LJ s g) (hout:F5 (j5 s) g=.col c) (hout0:F5 (j5 s) []=.best):
 ec 140 [D8 s,k7 g] [] (.tup [b4F ⟨2,C6,m8 (j5 s) [],[],a4h (j5 s) g c⟩,eI 0]) []:=by
 have lr:=a1y s (af4 h.sm);rw [h.sm.r] at lr;have hn:=Q9 h.sm.r;have hn9:=h.sm.n;have hgl:=s9 h.tg;have hg200:∀t ∈ g,rl t.2<=200:=fun t ht=>lbR (E5 h.w t ht) de
 have rt:=K5 g s.n om hg200;rw [← hn,lbG om,h.tg,hn] at rt;have m1:(s.rows.map p4).length=s.rows.length:=zq;have op:=a3x h (bO z8);have se:=a1D h [bO z8];rw [hout] at se;have op0:=ag9 (a3x (a7o h.sm) (bO z8));have se0:=a1D (a7o h.sm) [bO z8];rw [hout0] at se0;have hc:c<s.n.toNat:=(a3L hout).1;have pt:=aZ0 (a7o h.sm);have ra:=bh8 h hc
 (refine M9 d7 Tryz.func140 rfl de ?_;refine u3 d7 ?_;(conv=>whnf);repeat ((first|refine b0x ?_|refine zy ?_);conv=>whnf))
 repeat' (first|refine zz ?_|refine b0x ?_|apply zD<;>intro h<;>try omega|refine zy ?_|fail)<;>conv=>whnf
 (refine u3 d7 ?_;conv=>whnf)
 repeat' (first|refine zx ?_|apply zD<;>intro h<;>try omega)<;>conv=>whnf
 all_goals try (exfalso;simp_all;done)
 refine u7 d7 ([J,k7 g,S.c (C.t (T.ptr (a0b s))),J,S.c (C.ptr (Mj s+9) 0 0),eI 0,sP 0 0 0]++Jn 86) (aq8 s g (j4 (j5 s) g) [bO z8]) ?_ ?_
 ·conv=>whnf
  repeat' (first|refine zx ?_|refine .inr ⟨_,_,op,?_⟩|refine C1 ?_|apply zD<;>intro h<;>try omega)<;>conv=>whnf
  exact ⟨_,a3G a3n rfl ⟨l9 rfl,l9 rfl,⟨by rw [t8 om,az8],rz⟩,rfl,⟨by rw [t8 om,ay2],rz⟩,trivial⟩⟩
 refine Y3 d7 ([J,k7 g,S.c (C.t (T.ptr (a0b s))),J,sP 0 0 0,eI 0,dJ s g,eI (-1),eI c]++Jn 84) [bO z8] ?_ ?_
 ·conv=>whnf
  repeat' (first|refine zx ?_|refine .inr ⟨_,_,se,?_⟩|refine f5 ?_|refine bl0 [4] ?_|apply zD<;>intro h<;>try omega)<;>conv=>whnf
  exact ⟨_,a9w (bO z8) a3n ⟨.inl (l9 rfl),.inl (l9 rfl),.inl rz,.inl rfl,.inr (a9v fun i hi=>T6 hi),.inl rfl,.inl rfl,trivial⟩⟩
 (refine u3 d7 ?_;conv=>whnf)
 repeat' (first|refine zx ?_|apply zD<;>intro h<;>try omega)<;>conv=>whnf
 all_goals try omega
 (refine u3 d7 ?_;conv=>whnf)
 repeat' (first|refine zx ?_|apply zD<;>intro h<;>try omega)<;>conv=>whnf
 all_goals try omega
 refine u7 d7 ([J,k7 g,S.c (C.t (T.ptr (a0b s))),J,S.c (C.ptr (Mj s+9) 0 0),eI 0,dJ s g,J,eI c,J,J,J,sP 0 0 0]++Jn 80) (aq8 s [] (j4 (j5 s) []) [bO z8]) ?_ ?_
 ·conv=>whnf
  repeat' (first|refine zx ?_|refine .inr ⟨_,_,op0,?_⟩|refine C1 ?_|apply zD<;>intro h<;>try omega)<;>conv=>whnf
  exact ⟨_,a3G a3n rfl ⟨l9 rfl,l9 rfl,⟨by rw [t8 om,az8],rz⟩,rfl,l9 rfl,rfl,⟨by rw [t8 om,ay2],rz⟩,trivial⟩⟩
 refine Y3 d7 ([J,k7 g,S.c (C.t (T.ptr (a0b s))),J,sP 0 0 0,eI 0,dJ s g,eI (-1),eI c,J,J,J,dJ s []]++Jn 80) [bO z8] ?_ ?_
 ·conv=>whnf
  repeat' (first|refine zx ?_|refine .inr ⟨_,_,se0,?_⟩|refine f5 ?_|refine bl0 [4] ?_|apply zD<;>intro h<;>try omega)<;>conv=>whnf
  exact ⟨_,a9w (bO z8) a3n ⟨.inl (l9 rfl),.inl (l9 rfl),.inl rz,.inl rfl,.inl (l9 rfl),.inl rfl,.inl rfl,.inr (a9v fun i hi=>T6 hi),trivial⟩⟩
 refine p5 d7 _ ?_;conv=>whnf
 repeat' (first|refine zx ?_|apply zD<;>intro h<;>try omega)<;>conv=>whnf
 all_goals first|omega|exact m9 rz
def b9E (s:i8) (g:List (Int × Rat)) (c r:Nat) (h:LJ s g) (hout:F5 (j5 s) g=.col c) (hout0:F5 (j5 s) []=.row r):∃Y:List Rat,
 ec 140 [D8 s,k7 g] [] (.tup [b4F ⟨1,C6,[],Y,[]⟩,eI 0]) []:=by
 have lr:=a1y s (af4 h.sm);rw [h.sm.r] at lr;have hn:=Q9 h.sm.r;have hn9:=h.sm.n;have hgl:=s9 h.tg;have hg200:∀t ∈ g,rl t.2<=200:=fun t ht=>lbR (E5 h.w t ht) de
 have rt:=K5 g s.n om hg200;rw [← hn,lbG om,h.tg,hn] at rt;have m1:(s.rows.map p4).length=s.rows.length:=zq;have op:=a3x h (bO z8);have se:=a1D h [bO z8];rw [hout] at se;have op0:=ag9 (a3x (a7o h.sm) (bO z8));have se0:=a1D (a7o h.sm) [bO z8];rw [hout0] at se0;obtain ⟨Y,pr⟩:=a6K (a7o h.sm) (r:=r) (a8y hout0).1;rw [show s.rows.length=(s.rows.map p4).length from m1.symm] at pr;refine ⟨Y,?_⟩
 (refine M9 d7 Tryz.func140 rfl de ?_;refine u3 d7 ?_;(conv=>whnf);repeat ((first|refine b0x ?_|refine zy ?_);conv=>whnf))
 repeat' (first|refine zz ?_|refine b0x ?_|apply zD<;>intro h<;>try omega|refine zy ?_|fail)<;>conv=>whnf
 (refine u3 d7 ?_;conv=>whnf)
 repeat' (first|refine zx ?_|apply zD<;>intro h<;>try omega)<;>conv=>whnf
 all_goals try (exfalso;simp_all;done)
 refine u7 d7 ([J,k7 g,S.c (C.t (T.ptr (a0b s))),J,S.c (C.ptr (Mj s+9) 0 0),eI 0,sP 0 0 0]++Jn 86) (aq8 s g (j4 (j5 s) g) [bO z8]) ?_ ?_
 ·conv=>whnf
  repeat' (first|refine zx ?_|refine .inr ⟨_,_,op,?_⟩|refine C1 ?_|apply zD<;>intro h<;>try omega)<;>conv=>whnf
  exact ⟨_,a3G a3n rfl ⟨l9 rfl,l9 rfl,⟨by rw [t8 om,az8],rz⟩,rfl,⟨by rw [t8 om,ay2],rz⟩,trivial⟩⟩
 refine Y3 d7 ([J,k7 g,S.c (C.t (T.ptr (a0b s))),J,sP 0 0 0,eI 0,dJ s g,eI (-1),eI c]++Jn 84) [bO z8] ?_ ?_
 ·conv=>whnf
  repeat' (first|refine zx ?_|refine .inr ⟨_,_,se,?_⟩|refine f5 ?_|refine bl0 [4] ?_|apply zD<;>intro h<;>try omega)<;>conv=>whnf
  exact ⟨_,a9w (bO z8) a3n ⟨.inl (l9 rfl),.inl (l9 rfl),.inl rz,.inl rfl,.inr (a9v fun i hi=>T6 hi),.inl rfl,.inl rfl,trivial⟩⟩
 (refine u3 d7 ?_;conv=>whnf)
 repeat' (first|refine zx ?_|apply zD<;>intro h<;>try omega)<;>conv=>whnf
 all_goals try omega
 (refine u3 d7 ?_;conv=>whnf)
 repeat' (first|refine zx ?_|apply zD<;>intro h<;>try omega)<;>conv=>whnf
 all_goals try omega
 refine u7 d7 ([J,k7 g,S.c (C.t (T.ptr (a0b s))),J,S.c (C.ptr (Mj s+9) 0 0),eI 0,dJ s g,J,eI c,J,J,J,sP 0 0 0]++Jn 80) (aq8 s [] (j4 (j5 s) []) [bO z8]) ?_ ?_
 ·conv=>whnf
  repeat' (first|refine zx ?_|refine .inr ⟨_,_,op0,?_⟩|refine C1 ?_|apply zD<;>intro h<;>try omega)<;>conv=>whnf
  exact ⟨_,a3G a3n rfl ⟨l9 rfl,l9 rfl,⟨by rw [t8 om,az8],rz⟩,rfl,l9 rfl,rfl,⟨by rw [t8 om,ay2],rz⟩,trivial⟩⟩
 refine Y3 d7 ([J,k7 g,S.c (C.t (T.ptr (a0b s))),J,sP 0 0 0,eI 0,dJ s g,eI r,eI c,J,J,J,dJ s []]++Jn 80) [bO z8] ?_ ?_
 ·conv=>whnf
  repeat' (first|refine zx ?_|refine .inr ⟨_,_,se0,?_⟩|refine f5 ?_|refine bl0 [4] ?_|apply zD<;>intro h<;>try omega)<;>conv=>whnf
  exact ⟨_,a9w (bO z8) a3n ⟨.inl (l9 rfl),.inl (l9 rfl),.inl rz,.inl rfl,.inl (l9 rfl),.inl rfl,.inl rfl,.inr (a9v fun i hi=>T6 hi),trivial⟩⟩
 refine p5 d7 _ ?_;conv=>whnf
 repeat' (first|refine zx ?_|apply zD<;>intro h<;>try omega)<;>conv=>whnf
 all_goals first|omega|exact m9 rz
def aw9 (s:i8) (g:List (Int × Rat)) (h:LJ s g):∃o,b8S s g o∧ec 140 [D8 s,k7 g] [] (.tup [b4F o,eI 0]) []:=by
 rcases a3C (j5 s) g with hb|⟨r,hr⟩|⟨c,hc⟩
 ·obtain ⟨Y,hY⟩:=b83 s g h hb;exact ⟨_,b60 h.sm h.w h.tg hb Y,hY⟩
 ·obtain ⟨Y,hY⟩:=bg6 s g r h hr;exact ⟨_,b2g g hr Y,hY⟩
 ·rcases a3C (j5 s) [] with hb|⟨r,hr⟩|⟨c',hc'⟩
  ·exact ⟨_,b9z h.sm h.w h.tg hc hb,b8q s g c h hc hb⟩
  ·obtain ⟨Y,hY⟩:=b9E s g c r h hc hr;exact ⟨_,b2g [] hr Y,hY⟩
  ·exact absurd hc' (b8s (by rw [a5q];exact h.sm.r))
def a4b (s:i8) (h:T8 s):∃b:Bool,(b=true↔∃z,j8 s z=true)∧ec 69 [D8 s] [] (i9 b) []:=by
 obtain ⟨o,ho,hc⟩:=aw9 s [] (a7o h);have hc:=ag9 hc;refine ⟨decide (o.kind=0),?_,?_⟩
 ·rw [lbH];constructor
  ·intro e;exact ⟨_,(ho.found e).1⟩
  ·rintro ⟨z,hz⟩;rcases ho.k with e|e|e
   ·exact e
   ·rw [ho.none e z] at hz;cases hz
   ·have:=(ho.free e).2.2;rw [ah7] at this;exact absurd this zk
 ·refine ac Tryz.func69 ?_;conv=>whnf
  repeat' (first|refine zx ?_|refine bl0 [5] ?_|apply zD<;>intro h<;>try omega)<;>conv=>whnf
  all_goals first|omega|(refine d9 ?_;simp_all)

def a11 (e:Ev):Nat->List Nat
 |0=>[]
 |k+1=>match e.moves[k]? with
  |some m=>if K4 e m.src=0 then a11 e k++[k] else a11 e k
  |none=>a11 e k
def a4x (e:Ev):List Nat:=a11 e e.moves.length
def b0L (e:Ev) (i:Nat):Prop:=∃m,e.moves[i]? =some m∧K4 e m.src=0
def a5T {e:Ev} {i:Nat}:∀{k:Nat},i ∈ a11 e k↔i<k∧b0L e i
 |0=>by simp [a11]
 |k+1=>by
  have ih:=a5T (e:=e) (i:=i) (k:=k);unfold a11;cases hm:e.moves[k]? with
  |none=>
   simp only;rw [ih];constructor
   ·rintro ⟨h1,h2⟩;exact ⟨om,h2⟩
   ·rintro ⟨h1,h2⟩;refine ⟨?_,h2⟩;obtain ⟨m,h3,_⟩:=h2;by_cases h:i=k
    ·subst h;rw [hm] at h3;cases h3
    ·omega
  |some m=>
   simp only;by_cases hk:K4 e m.src=0
   ·rw [if_pos hk,lby,ih,aF8];constructor
    ·rintro (⟨h1,h2⟩|h)
     ·exact ⟨om,h2⟩
     ·subst h;exact ⟨om,m,hm,hk⟩
    ·rintro ⟨h1,h2⟩;by_cases h:i=k
     ·exact .inr h
     ·exact .inl ⟨om,h2⟩
   ·rw [if_neg hk,ih];constructor
    ·rintro ⟨h1,h2⟩;exact ⟨om,h2⟩
    ·rintro ⟨h1,h2⟩;refine ⟨?_,h2⟩;obtain ⟨m',h3,h4⟩:=h2;by_cases h:i=k
     ·subst h;rw [hm] at h3;injection h3 with h3;subst h3;exact absurd h4 hk
     ·omega
def aj0 {e:Ev} {i:Nat}:i ∈ a4x e↔b0L e i:=by
 unfold a4x;rw [a5T];constructor
 ·exact fun h=>h.2
 ·intro h;have h':=h;obtain ⟨m,h1,_⟩:=h';exact ⟨(lbe.1 h1).1,h⟩
def a9C {e:Ev}:∀k,(a11 e k).length<=k
 |0=>by simp [a11]
 |k+1=>by
  have ih:=a9C (e:=e) k;unfold a11;split
  ·split
   ·simp;omega
   ·omega
  ·omega
def a3O (l:List Nat) (i:Nat):List x4:=(l.filter fun j=>decide (j≠i)).map fun j=>A9 j 2 ((0:Int):Rat)
def b0j (t:n7) (kind:Int) (i:Nat):i8:=⟨t.ev.moves.length,(j1 (a12 t) kind).rows++a3O (a4x t.ev) i⟩
def aZ3 (l:List Nat) (i:Nat):(a3O l i).length<=l.length:=by unfold a3O;rw [lbr];exact lbt _ _
structure bq6 (t:n7) (kind:Int) (i:Nat) (z:List Rat):Prop where
 p:bp9 (a12 t) kind z
 o:∀j,b0L t.ev j->j≠i->z.getD j 0=0
def aY8 {t:n7} {kind:Int} {i:Nat} (hm:t.ev.moves.length<=14) (hc:t.cleans.length<=50):j6 (b0j t kind i)=true:=by
 have h:=a67 (t:=a12 t) (kind:=kind) hm (by simp [a12]) hc;unfold j6 at h ⊢;simp only [lbM,lbH] at h ⊢;obtain ⟨⟨⟨h1,h2⟩,h3⟩,h4⟩:=h;have hl:=W3 (t:=a12 t) (kind:=kind) t.ev.moves.length;have hl2:t.ev.moves.length*(2+(a12 t).finds.length+(a12 t).cleans.length)<=14*52:=lbS hm (by show 2+0+t.cleans.length<=52;omega);have hl3:=aZ3 (a4x t.ev) i;have hl4:=a9C (e:=t.ev) t.ev.moves.length;refine ⟨⟨⟨h1,h2⟩,?_⟩,?_⟩
 ·show ((s7 (a12 t) kind t.ev.moves.length++a3O (a4x t.ev) i).length)<=6000;rw [lbq];have:(a4x t.ev).length<=t.ev.moves.length:=hl4;omega
 ·show ((j1 (a12 t) kind).rows++a3O (a4x t.ev) i).all (u4 (t.ev.moves.length:Nat))=true;rw [a0H];have h5:(j1 (a12 t) kind).rows.all (u4 (t.ev.moves.length:Nat))=true:=h4;rw [h5,C2,lbv];intro w hw;obtain ⟨j,hj,rfl⟩:=lbw.1 hw;have hj:=(a5T.1 (lbx.1 hj).1).1;unfold u4 A9;simp only [lbM,lbH];exact ⟨⟨a7g om om a7u,de⟩,de⟩
theorem alone_holds {t:n7} {kind:Int} {i:Nat} {z:List Rat} (ht:p6 t=0) (k0:0<=kind) (k1:kind<8) (hm:t.ev.moves.length<=14):j8 (b0j t kind i) z=true↔bq6 t kind i z:=by
 have hc:=(G3 ht).2.2.1;have hb:=sys_holds (t:=a12 t) (kind:=kind) (z:=z) (b3V ht) k0 k1 hm;have hr1:=aY8 (t:=t) (kind:=kind) (i:=i) hm hc;have hr2:=a67 (t:=a12 t) (kind:=kind) hm (by simp [a12]) hc;have e:j8 (b0j t kind i) z=(j8 (j1 (a12 t) kind) z && (a3O (a4x t.ev) i).all fun w=>S2 w z):=by
  unfold j8;rw [hr1,hr2];show (true && decide ((z.length:Int)=(t.ev.moves.length:Nat)) && _ && ((j1 (a12 t) kind).rows++a3O (a4x t.ev) i).all _)=_;rw [a0H];simp only [C2,Bool.and_assoc]
  rfl
 rw [e,lbM,hb];constructor
 ·rintro ⟨h1,h2⟩;refine ⟨h1,fun j hj hji=>?_⟩;exact a62.1 (lbv.1 h2 (A9 j 2 ((0:Int):Rat)) (lbw.2 ⟨j,lbx.2 ⟨aj0.2 hj,lbG hji⟩,rfl⟩))
 ·rintro ⟨h1,h2⟩;refine ⟨h1,lbv.2 fun w hw=>?_⟩;obtain ⟨j,hj,rfl⟩:=lbw.1 hw;have hj:=lbx.1 hj;exact a62.2 (h2 j (aj0.1 hj.1) (lbK hj.2))
section
open Go.RowKit
section
variable {t:n7} {kind:Int} {n:Nat}
def b0f (h:ExP t kind n) {i:Nat}:a2J t kind i=2↔∀z,j8 (j1 t kind) z=true->0<m7 (v4 t (i:Int)) z:=by
 constructor
 ·intro h2 z hz;rcases a21 (h.vd (i:Int)) (i:Int) with ⟨_,h3⟩|⟨h3,_⟩|⟨h3,_⟩
  ·exact h3 z hz
  ·unfold a2J at h2;omega
  ·unfold a2J at h2;omega
 ·intro hA;exact b2E h i hA
end
end
def aw2 {t:n7} {kind:Int} (ht:p6 t=0) (hm:t.ev.moves.length<=8):T8 (j1 t kind):=by
 have p:=B5 (kind:=kind) ht hm (g:=[]) rfl (fun t ht=>by cases ht);obtain ⟨q1,q2,q3,q4,q5⟩:=G3 ht;refine ⟨p.o.r,bp3 ht,by show ((t.ev.moves.length:Nat):Int)<=9;omega,?_⟩;have h1:=W3 (t:=t) (kind:=kind) t.ev.moves.length;have h2:t.ev.moves.length*(2+t.finds.length+t.cleans.length)<=8*72:=lbS hm om;show (s7 t kind t.ev.moves.length).length<=_;omega
def aW7 {s:i8} {g:List (Int × Rat)} (h:T8 s) (hl:s.rows.length<=998) (hg:j2 (-1) s.n g=true) (hw:z6 g):T8 (x8 s g):=by
 refine ⟨a1d h.r om hg,fun w hw'=>?_,h.n,by show (s.rows++[_]).length<=999;simp;omega⟩;rcases lby.1 hw' with h1|h1
 ·exact h.i w h1
 ·simp at h1;subst h1;exact ⟨hw,a7r⟩
def az5 {s:i8} {g:List (Int × Rat)} {z:List Rat} (hr:j6 s=true) (hl:s.rows.length<6000) (hg:j2 (-1) s.n g=true):j8 (x8 s g) z=true↔j8 s z=true∧m7 g z=0:=by
 constructor
 ·intro h;obtain ⟨h1,h2,h3,h4⟩:=T5.1 h;refine ⟨T5.2 ⟨hr,h2,h3,fun w hw=>h4 w (lby.2 (.inl hw))⟩,?_⟩;have h5:=h4 ⟨g,2,((0:Int):Rat)⟩ (lby.2 (.inr zq));have a:=h5.1 (show (2:Int)≠1 by decide);have b:=h5.2 (show (2:Int)≠0 by decide);have a:(0:Rat)<=m7 g z:=a;have b:m7 g z<=(0:Rat):=b;grind
 ·rintro ⟨h1,h2⟩;exact never_holds hr hl hg h1 h2
def a9r (g:List (Int × Rat)) (z:List Rat):m7 (w8 g) z=-(m7 g z):=by
 have key:∀k,k<=g.length->m7 ((w8 g).take k) z=-(m7 (g.take k) z):=by
  intro k;induction k with
  |zero=>intro _;show ((0:Int):Rat)=-((0:Int):Rat);decide
  |succ k ih=>
   intro hk;obtain ⟨t,ht⟩:∃t,g[k]? =some t:=⟨_,lbf om⟩;rw [show (w8 g).take (k+1)=_ from a2P g _ ht,a43 ht,I6,I6];show m7 ((w8 g).take k) z+_=_;rw [ih om];have e1:((-1:Int):Rat)=-1:=rfl;simp only [e1];grind
 have:=key g.length (lbQ _);rw [lbn (by rw [a0e];exact lbQ _),X7] at this;exact this
noncomputable def stP (s:i8) (g:List (Int × Rat)):Int:=open Classical in if ∀z,j8 s z=true->0<m7 g z then 2 else if ∀z,j8 s z=true->m7 g z=0 then 0 else 1
def b5d (s:i8) (g:List (Int × Rat)) (h:T8 s) (hl:s.rows.length<=998) (hg:j2 (-1) s.n g=true) (hw:z6 g) (hp:∀t ∈ g,0<=t.2) (hz:∃z,j8 s z=true):
 ec 76 [D8 s,k7 g] [] (eI (stP s g)) []:=by
 have hn:=Q9 h.r;have hn9:=h.n;have hgl:=s9 hg;have hpos:∀z,j8 s z=true->0<=m7 g z:=fun z hz=>aj8 (aB7 hz) g hp
 obtain ⟨b,hb,pc⟩:=a4b (x8 s g) (aW7 h hl hg hw);have ne:=ak8 s g om;have op:=a5U g om (fun t ht=>lbR (E5 hw t ht) de);obtain ⟨o,ho,lc⟩:=aw9 s (w8 g) ⟨h,a1H hw,by rw [hn];exact a3w hg⟩;have hB:b=true↔∃z,j8 s z=true∧m7 g z=0:=by
  rw [hb];constructor
  ·rintro ⟨z,hz⟩;exact ⟨z,(az5 h.r om hg).1 hz⟩
  ·rintro ⟨z,hz⟩;exact ⟨z,(az5 h.r om hg).2 hz⟩
 have hAll:(∀ z,j8 s z=true->0<m7 g z)↔b=false:=by
  rw [← lbP,hB];constructor
  ·rintro h1 ⟨z,h2,h3⟩;have:=h1 z h2;rw [h3] at this;exact absurd this de
  ·intro h1 z hz;have:=hpos z hz;have:m7 g z≠0:=fun e=>h1 ⟨z,hz,e⟩
   grind
 cases b with
 |false=>
  have e:stP s g=2:=by unfold stP;rw [if_pos (hAll.2 rfl)]
  rw [e];refine ac Tryz.func76 ?_;conv=>whnf
  repeat' (first|refine zx ?_|apply zD<;>intro h<;>try omega)<;>conv=>whnf
  all_goals first
   |(exfalso;simp_all;done)
   |exact n8 rfl
 |true=>
  have hna:¬∀z,j8 s z=true->0<m7 g z:=fun e=>by have:=hAll.1 e;cases this
  by_cases hk:o.kind=0
  ·obtain ⟨f1,f2,f3⟩:=ho.found hk;have hx:=hpos _ f1;have lb:rl (m7 (w8 g) o.X)<=60000:=by
    have:=a1U (E5 (a1H hw)) ho.bx (w8 g).length;rw [X7] at this;have h2:(w8 g).length*(100+4)<=9*104:=lbS (by rw [a0e];omega) (lbQ _);omega
   have sg:=a4z (m7 (w8 g) o.X) lb;rw [← f2] at sg;have hzero:m7 (w8 g) o.X=0↔∀z,j8 s z=true->m7 g z=0:=by
    constructor
    ·intro e z hz;have:=f3 z hz;rw [e,a9r] at this;have:=hpos z hz;grind
    ·intro e;rw [a9r,e _ f1];decide
   have hs0:sgR (m7 (w8 g) o.X)=0↔m7 (w8 g) o.X=0:=by
    unfold sgR;split
    ·constructor
     ·intro h;cases h
     ·intro h;grind
    ·split
     ·constructor
      ·intro h;cases h
      ·intro h;grind
     ·constructor
      ·intro _;grind
      ·intro _;rfl
   by_cases he:m7 (w8 g) o.X=0
   ·have e:stP s g=0:=by unfold stP;rw [if_neg hna,if_pos (hzero.1 he)]
    rw [hs0.2 he] at sg;rw [e];refine ac Tryz.func76 ?_;conv=>whnf
    repeat' (first|refine zx ?_|refine bl0 [5] ?_|refine bl0 [6] ?_|apply zD<;>intro h<;>try omega)<;>conv=>whnf
    all_goals first|omega|(exfalso;simp_all;done)|exact n8 rfl
   ·have e:stP s g=1:=by unfold stP;rw [if_neg hna,if_neg (fun h=>he (hzero.2 h))]
    have hs1:sgR (m7 (w8 g) o.X)≠0:=fun h=>he (hs0.1 h)
    rw [e];refine ac Tryz.func76 ?_;conv=>whnf
    repeat' (first|refine zx ?_|refine bl0 [5] ?_|refine bl0 [6] ?_|apply zD<;>intro h<;>try omega)<;>conv=>whnf
    all_goals first|omega|(exfalso;simp_all;done)|exact n8 rfl
  ·have e:stP s g=1:=by
    unfold stP;rw [if_neg hna,if_neg];intro hall;rcases ho.k with k|k|k
    ·exact hk k
    ·obtain ⟨z,hz⟩:=hz;rw [ho.none k z] at hz;cases hz
    ·obtain ⟨f1,f2,f3⟩:=ho.free k;have h1:=az6 f1 f2;have h2:=hall _ h1;have h3:=hall _ f1;have hxl:o.X.length=s.n.toNat:=by have:=(W4 f1).2;omega
     rw [a9d hxl f2.len (by rw [hn];exact hg),h3] at h2;rw [a9r] at f3;grind
   rw [e];refine ac Tryz.func76 ?_;conv=>whnf
   repeat' (first|refine zx ?_|refine bl0 [5] ?_|refine bl0 [6] ?_|apply zD<;>intro h<;>try omega)<;>conv=>whnf
   all_goals first|omega|(exfalso;simp_all;done)|exact n8 rfl
def b47 {t:n7} {kind:Int} {n:Nat} (h:ExP t kind n) (i:Nat):stP (j1 t kind) (v4 t (i:Int))=a2J t kind i:=by
 unfold stP;by_cases h1:∀z,j8 (j1 t kind) z=true->0<m7 (v4 t (i:Int)) z
 ·rw [if_pos h1];exact ((b0f h).2 h1).symm
 ·rw [if_neg h1];by_cases h2:∀z,j8 (j1 t kind) z=true->m7 (v4 t (i:Int)) z=0
  ·rw [if_pos h2];exact (b6v h i h2).symm
  ·rw [if_neg h2];rcases a21 (h.vd (i:Int)) (i:Int) with ⟨_,h3⟩|⟨_,h3⟩|⟨h3,_⟩
   ·exact absurd h3 h1
   ·exact absurd h3 h2
   ·exact h3.symm
noncomputable def stL (t:n7) (kind:Int) (k:Nat):LI:=(List.range k).map fun i=>a2J t kind i
def ad7 (t:n7) (kind:Int) (k:Nat):(stL t kind k).length=k:=by simp [stL]
def b6h (t:n7) (kind:Int) (k:Nat):stL t kind (k+1)=stL t kind k++[a2J t kind k]:=by simp [stL,a5R]
def b8h {t:n7} {kind:Int} {k i:Nat} (h:i<k):(stL t kind k)[i]? =some (a2J t kind i):=by simp [stL,h]
def au2 (t:n7) (kind:Int) (hs:t.Sized) (h:a16 t kind≠0):ec 29 [trS t,eI kind] [] (.tup [k9 [],eI 1]) []:=by
 have sy:=a1M t kind hs;refine ac Tryz.func29 ?_;conv=>whnf
 repeat' (first|refine zx ?_|refine bl0 [5] ?_|apply zD<;>intro h<;>try omega)<;>conv=>whnf
 all_goals first|omega|exact m9 rz
def aa6 (t:n7) (kind:Int) (hs:t.Sized) (ht:p6 t=0) (k0:0<=kind) (k1:kind<8) (hm:t.ev.moves.length<=8) (hz:∀z,j8 (j1 t kind) z=false):ec 29 [trS t,eI kind] [] (.tup [k9 [],eI 15]) []:=by
 have sy:=a1M t kind hs;have hc:¬(p6 t≠0∨kind<0∨8<=kind):=om;have e1:a16 t kind=0:=if_neg hc;have e2:a5N t kind=j1 t kind:=if_neg hc;rw [e1,e2] at sy;obtain ⟨b,hb,pc⟩:=a4b (j1 t kind) (aw2 ht hm);have hbf:b=false:=by
  cases b with
  |false=>rfl
  |true=>obtain ⟨z,h⟩:=hb.1 rfl;rw [hz z] at h;cases h
 subst hbf;refine ac Tryz.func29 ?_;conv=>whnf
 repeat' (first|refine zx ?_|refine bl0 [5] ?_|apply zD<;>intro h<;>try omega)<;>conv=>whnf
 all_goals first|omega|exact m9 rz
def aE3 (t:n7) (kind:Int) (n:Nat) (hx:ExP t kind n) (hn:n<=100):ec 29 [trS t,eI kind] [] (.tup [k9 (stL t kind n),eI 0]) []:=by
 have hs:=hx.s;have hhs:=hx.h;have hsm:=aw2 (kind:=kind) hx.e hx.m;have sy:=a1M t kind hx.s;have k0:=hx.k0;have k1:=hx.k1;have ht:=hx.e;have hc:¬(p6 t≠0∨kind<0∨8<=kind):=om;have e1:a16 t kind=0:=if_neg hc;have e2:a5N t kind=j1 t kind:=if_neg hc;rw [e1,e2] at sy;have hrows:(j1 t kind).rows.length<=998:=by
  have h1:=W3 (t:=t) (kind:=kind) t.ev.moves.length;obtain ⟨q1,q2,q3,q4,q5⟩:=G3 hx.e;have h2:t.ev.moves.length*(2+t.finds.length+t.cleans.length)<=8*72:=lbS hx.m om;show (s7 t kind t.ev.moves.length).length<=_;omega
 have hex:∃z,j8 (j1 t kind) z=true:=⟨_,(hx.vd 0).has⟩;obtain ⟨b,hb,pc⟩:=a4b (j1 t kind) hsm;have hbt:b=true:=hb.2 hex;subst hbt
 (refine ac Tryz.func29 ?_;(conv=>whnf);repeat ((first|refine b0x ?_|refine zy ?_);conv=>whnf))
 repeat' (first|refine zx ?_|refine bl0 [5] ?_|apply zD<;>intro h<;>try omega)<;>conv=>whnf
 all_goals try omega
 refine j3 d7 (fun k=>([J,J,S.c (C.t (T.ptr (trT t))),J,J,J,sP 0 0 0,J,S.c (C.own 1 0 k true),eI k]++Jn 27,[b6w (j1 t kind),x9 (stL t kind k)])) n tT [some 0,none] trivial
  ⟨rfl,rfl,⟨j0 (af2 _),rz⟩,⟨l9 rfl,rz,rz,e7 rfl,trivial⟩⟩ ?_
 intro k hk _;by_cases hlt:k<n
 ·have go:=ac8 t hs k (by have:=a0V (t:=t) (h:=k);have:=hx.m;omega);have eg:a0C t k=v4 t k:=if_pos ⟨hx.e,om,om⟩;rw [eg] at go;have st:=b5d (j1 t kind) (v4 t k) hsm hrows (H7 t k) (N8 t k) (a8G t k) hex;rw [b47 hx k] at st;have lA:k<=(x9 (stL t kind k)).rows.length:=by show k<=(toC _).length;simp [toC,ad7]
  conv=>whnf
  repeat' (first|refine zx ?_|refine w6 lA zu ?_|apply zD<;>intro h<;>try omega)<;>conv=>whnf
  all_goals first
   |omega
   |(refine ⟨hlt,trivial,[some 0,some 2],rfl,rfl,⟨j0 (af2 _),e8 (rows:=(stL t kind (k+1)).map k6) rfl rfl rfl ?_ rfl,trivial⟩,⟨rfl,rz,⟨rfl,rfl,rfl,fun h=>h⟩,e7 om,trivial⟩⟩
     rw [b6h];exact Y0 (f:=k6) (x:=a2J t kind k) (ad7 t kind k).symm)
 ·have hke:k=n:=by omega
  subst hke;conv=>whnf
  repeat' (first|refine zx ?_|apply zD<;>intro h<;>try omega)<;>conv=>whnf
  all_goals first|omega|exact m9 ⟨(show VC _ (fun id=>L9 [] id=true) (C.own 1 0 k true) _ from u5 (k:=x9 (stL t kind k)) rfl rfl (fun h=>h) rfl rfl (by simp [ad7])),rz⟩
def b9T {x:Rat} (h:rl x<=200):(fz x).p.dl.length<=1000000∧(fz x).q.dl.length<=1000000:=by
 have h4:=E0 x;have h5:=D5 x;exact ⟨show bl x.num<=1000000 by omega,show bl x.den<=1000000 by omega⟩
def b72 (l:List (Int × Rat)) (hl:l.length<=100) (hd:∀t ∈ l,rl t.2<=200):ec 30 [.c (.t (a5G l)),.c (.t (a5G l))] [] (i9 true) []:=by
 have m1:(l.map o7).length=l.length:=zq;refine ac Tryz.func30 ?_;conv=>whnf
 repeat' (first|refine zx ?_|apply zD<;>intro<;>try omega)<;>conv=>whnf
 all_goals try omega
 refine j3 d7 (fun k=>([S.c (C.t (a5G l)),S.c (C.t (a5G l)),J,J,J,eI k]++Jn 36,[])) l.length tT [] trivial
  rz ?_
 intro k hk _;by_cases hlt:k<l.length
 ·obtain ⟨t,ht⟩:∃t,l[k]? =some t:=⟨_,lbf hlt⟩;have q:=b9T (hd t (lbm ht));have r:=b8u (fz t.2) q.1 q.2;conv=>whnf
  repeat' (first|refine zx ?_|refine i6 ht ?_|apply zD<;>intro<;>try omega)<;>conv=>whnf
  all_goals first|omega|exact ⟨hlt,trivial,[],rz⟩
 ·conv=>whnf
  repeat' (first|refine zx ?_|apply zD<;>intro<;>try omega)<;>conv=>whnf
  all_goals first|omega|exact d9 rfl
def b3r (t:n7) (hm:t.ev.moves.length<=100) (hh:Int):(a0C t hh).length<=100∧∀u ∈ a0C t hh,rl u.2<=200:=by
 unfold a0C;split
 ·have hgr:=s9 (H7 t hh);exact ⟨om,fun u hu=>by have:=E5 (N8 t hh) u hu;omega⟩
 ·exact ⟨zq,fun u hu=>by cases hu⟩
theorem a8C (t:n7) (kind hh:Int) (v:a5v) (hs:t.Sized) (hm:t.ev.moves.length<=100) (V:List a29) (B:List Int) (e:Int) (c:Bool) (hl:V.length=B.length) (h100:V.length<=100)
 (hV:∀(i:Nat) (x:a29) (b:Int),V[i]? =some x->B[i]? =some b->x.hh=i∧x.state=b)
 (sm:d6 Tryz.prog 26 [trS t,c9 .i64 8] [] (i9 true) []) (sv:d6 Tryz.prog 27 [a3h v] [] (i9 true) [])
 (ve:d6 Tryz.prog 28 [trS t,c9 .i64 kind] [] (.tup [aS9 V,c9 .i64 e]) [])
 (st:d6 Tryz.prog 29 [trS t,c9 .i64 kind] [] (.tup [k9 B,c9 .i64 e]) [])
 (c1:d6 Tryz.prog 33 [trS t,c9 .i64 kind,a3h v] [] (i9 c) [])
 (c2:d6 Tryz.prog 34 [trS t,c9 .i64 kind,a3h v] [] (i9 c) []):
 d6 Tryz.prog 6 [trS t,c9 .i64 kind,c9 .i64 hh,a3h v] [] (i9 true) []:=by
 have sa:=aW3
 have gf:=b3r t hm hh
 have ll:(E7 t.ev hh (-1) 0 100000).length<=100000:=by have:=a0V (t:=t) (h:=hh);omega
 have g1:=a8d t hs hh ll
 have g2:=ac8 t hs hh ll
 have g3:=b72 (a0C t hh) gf.1 gf.2
 generalize a0C t hh=g at g1 g2 g3
 have m1:(V.map a29.row).length=V.length:=by simp
 have m2:(B.map k6).length=V.length:=by simp [hl]
 cases c<;>
 ·(refine ac Tryz.func6 ?_;(conv=>whnf);repeat ((first|refine b0x ?_|refine zy ?_);conv=>whnf))
  repeat' (first|refine zx ?_|refine qp sa ?_|refine qp sm ?_|refine qp sv ?_|refine qp ve ?_|refine qp st ?_|refine qp g1 ?_|refine qp g2 ?_|refine qp g3 ?_|refine qp 5 ?_|refine bl0 [5] ?_|refine zd ?_ ?_<;>intro h<;>try omega|fail)<;>conv=>whnf
  all_goals try omega
  refine j3 d7 (fun k=>([J,c9 .i64 kind,J,J,S.c (C.t (T.ptr (trT t))),J,J,S.c (C.t (T.ptr v.row)),J,i9 true,aS9 V,J,k9 B,J,c9 .i64 k]++Jn 79,[])) V.length (fun _=>True) [] trivial
   ⟨rfl,rfl,trivial,⟨rfl,rfl,rfl,rfl,rfl,rfl,rfl,trivial⟩⟩ ?_
  intro k hk _
  by_cases hlt:k<V.length
  ·obtain ⟨x,hx⟩:∃x,V[k]? =some x:=⟨_,lbf hlt⟩
   obtain ⟨b,hb⟩:∃b,B[k]? =some b:=⟨_,lbf (by omega)⟩
   have hxb:=hV k x b hx hb
   conv=>whnf
   repeat' (first|refine zx ?_|refine i6 hx ?_|refine i6 hb ?_|refine zd ?_ ?_<;>intro h<;>try omega|fail)<;>conv=>whnf
   all_goals first
    |omega
    |(exfalso;contradiction)
    |exact ⟨hlt,trivial,[],rfl,rfl,trivial,⟨rfl,rfl,rfl,rfl,rfl,rfl,rfl,trivial⟩⟩
  ·conv=>whnf
   repeat' (first|refine zx ?_|refine qp c1 ?_|refine qp c2 ?_|refine zd ?_ ?_<;>intro h<;>try omega|fail)<;>conv=>whnf
   all_goals first
    |omega
    |(exfalso;contradiction)
    |exact d9 rfl
def as8 (t:n7) (kind hh:Int) (v:a5v):ec 6 [trS t,eI kind,eI hh,a3h v] [] (i9 true) []:=by
 have sa:=aW3;have sm:=b6y t 8;have sv:=b4g v;cases hsm:a8w t 8 with
 |false=>
  rw [hsm] at sm;refine ac Tryz.func6 ?_;conv=>whnf
  repeat' (first|refine zx ?_|apply zD<;>intro h<;>try omega)<;>conv=>whnf
  all_goals first
   |omega
   |(exfalso;contradiction)
   |exact d9 rfl
 |true=>
 rw [hsm] at sm;cases hsv:aL9 v with
 |false=>
  rw [hsv] at sv;refine ac Tryz.func6 ?_;conv=>whnf
  repeat' (first|refine zx ?_|apply zD<;>intro h<;>try omega)<;>conv=>whnf
  all_goals first
   |omega
   |(exfalso;contradiction)
   |exact d9 rfl
 |true=>
 rw [hsv] at sv;unfold aL9 at hsv;rw [lbM,lbM] at hsv;obtain ⟨⟨v1,v2⟩,v3⟩:=hsv;obtain ⟨s1,s2,s3⟩:=au1 de hsm;by_cases he:a16 t kind≠0
 ·exact a8C t kind hh v s1 om [] [] 1 false rfl zq (fun i x b h=>by cases h) sm sv (a5l t kind s1 he) (au2 t kind s1 he) (a9I t kind s1 v (.inl he)) (a7I t kind s1 v (.inl he))
 have he:a16 t kind=0:=om;have hk:p6 t=0∧0<=kind∧kind<8:=by
  unfold a16 at he;by_cases h:p6 t≠0∨kind<0∨8<=kind
  ·rw [if_pos h] at he;cases he
  ·omega
 obtain ⟨k1,k2,k3⟩:=hk;have p:=B5 (kind:=kind) k1 om (g:=[]) rfl (fun t ht=>by cases ht);obtain ⟨c,c1,c2⟩:∃c:Bool,ec 33 [trS t,eI kind,a3h v] [] (i9 c) []∧ec 34 [trS t,eI kind,a3h v] [] (i9 c) []:=by
  by_cases hh:0<=v.hh∧v.hh<t.ev.hhs
  ·exact ⟨_,b4s t kind s1 k1 k2 k3 v hh.1 hh.2 om (by have:=p.r;omega) p.sb p.o.r (aa3 k1 om (H7 t _) (N8 t _) v1 v2 v3),b4j t kind s1 k1 k2 k3 v hh.1 hh.2 om (by have:=p.r;omega) p.sb p.o.r (aa3 k1 om (H7 t _) (N8 t _) v1 v2 v3)⟩
  ·exact ⟨false,a9I t kind s1 v (.inr om),a7I t kind s1 v (.inr om)⟩
 rcases b8J (kind:=kind) s1 k1 om s3 with he2|⟨r,_,_,hr⟩|⟨n,hE,hn4⟩
 ·exact absurd he he2
 ·exact a8C t kind hh v s1 om [] [] 15 c rfl zq (fun i x b h=>by cases h) sm sv (a3f t kind s1 k1 k2 k3 om r hr) (aa6 t kind s1 k1 k2 k3 om (a7Z hr)) c1 c2
 have ve:=a6J t kind s1 hE.e hE.k0 hE.k1 hE.m n hE.h om hE.z;have st:=aE3 t kind n hE om;refine a8C t kind hh v s1 om (a0l t kind n) (stL t kind n) 0 c (by rw [a0S,ad7]) (by rw [a0S];omega) (fun i x b hx hb=>?_) sm sv ve st c1 c2;have hi:i<n:=by obtain ⟨i1,_⟩:=lbe.1 hx;rw [a0S] at i1;exact i1
 have hv:(a0l t kind n)[i]? =some (H9 (j1 t kind) (v4 t (i:Int)) (i:Int)):=by unfold a0l;simp [hi]
 rw [hx] at hv;rw [b8h hi] at hb;injection hv with hv;subst hv
 injection hb with hb;subst hb
 exact ⟨b2G _,rfl⟩
section
open Go.RowKit Go.ChangeShapes Go.WideShapes Go.Deep
section
variable {H:Type} {enc:TypeId × Value->H} {P:Program}
def at9 (hl:laidOutB P=true) {W W':World} {sp:Nat->Bool}:∀{ts:List TypeId} {vs:List Value} {ds:List (DataW H)} {ps:List MemPlace},(∀ t ∈ ts,P.readableRec t=true∧t<P.types.size)->
 DataW.TrodAll enc P W 0 (fun _=>true) true ts vs ds ps->(∀ p ∈ ps,W.sameAt W' p)->(∀ p ∈ ps,sp p.block=true)->DataW.TrodAll enc P W' 0 sp true ts vs ds ps:=by
 intro ts;induction ts with
 |nil=>
  intro vs ds ps _ h _ _;obtain ⟨rfl,rfl,rfl⟩:=trodAll_nil h;exact trodAll_mk0
 |cons t ts ih=>
  intro vs ds ps hr h hsame hs;obtain ⟨v,vs',d,ds',p,q,rfl,rfl,rfl,h1,h2⟩:=trodAll_cons h;obtain ⟨ht,hlt⟩:=hr t zq;exact trodAll_cons_mk (WideElems.Trod_stays hl ht hlt h1 (fun x hx=>hsame x (by simp [hx])) (fun x hx=>hs x (by simp [hx]))) (ih (fun t ht=>hr t (by simp [ht])) h2 (fun x hx=>hsame x (by simp [hx])) (fun x hx=>hs x (by simp [hx])))
def b6D {f:Func} {s:ChangeSpec} {fresh handsOn:Bool} {W W':World} {args:Array Value} {ds gs:List (DataW H)} {before:List MemPlace} {tb:TypeId}
 (hW:DataW.Whole enc P f.params.toList s.vars false W args.toList ds gs before) (hl:laidOutB P=true) (hr:∀t ∈ f.params.toList,P.readableRec t=true∧t<P.types.size) (hv:s.vars=[])
 (hfn:s.fn H (ds++gs)={ results:=[.lit (.bool true)],args:=ds }) (hres:f.resultTypes=#[tb]) (hbool:P.underlying tb=some .bool) (hb:Below W.heap.size W W'):
 s.post enc P f false fresh handsOn false W args (.bool true) W':=by
 have hW':=hW;obtain ⟨p,q,hA,hV,rfl,hfz,hnd⟩:=hW;rw [hv] at hV;obtain ⟨rfl,rfl⟩:=trodVars_none hV;have hlt:∀x ∈ p,x.block<W.heap.size:=fun x hx=>by have:=hW'.lt x (by simpa using hx);simpa using this
 refine ⟨ds,[],p++[],[],p,[],hW',?_,?_,?_,hb.frame _,fun h=>by cases h⟩
 ·rw [hfn,hres];exact trodAll_mk1 (shut_bool hbool true)
 ·rw [hfn];exact at9 hl hr hA (fun x hx=>hb.same (hlt x hx)) (fun x hx=>by simpa using hlt x hx)
 ·rw [hv,hfn];exact rfl
variable {w:World} {base:Nat} {spare:Nat->Bool} {held:Bool}
end
end
section
open Go.RowKit Go.ChangeShapes Go.WideShapes Go.Deep
section
variable {H:Type} {enc:TypeId × Value->H} {w:World} {base:Nat} {spare:Nat->Bool} {held:Bool}
end
def b97:ownKnob Tryz.prog.godebug=none:=by kernel_rfl
def b4R:laidOutB Tryz.prog=true:=by kernel_rfl
end
def b4T {w:World} {n:Int}:RS w (fun _=>none) (fun _=>False) (eI n) (.int .i64 n):=RS.int
inductive au3 (w:World):List S->List Value->Prop
 |nil:au3 w [] []
 |cons {s:S} {v:Value} {ss:List S} {vs:List Value} (h:RS w (fun _=>none) (fun _=>False) s v) (hs:au3 w ss vs):au3 w (s::ss) (v::vs)
def au3.get {w:World} {ss:List S} {vs:List Value} (h:au3 w ss vs):vs.length=ss.length∧∀(j:Nat) (s:S),ss[j]? =some s->RS w (fun _=>none) (fun _=>False) s (vs.getD j undef):=by
 induction h with
 |nil=>exact ⟨rfl,zq⟩
 |cons h hs ih=>
  refine ⟨by simp [ih.1],fun j s hj=>?_⟩;cases j with
  |zero=>simp at hj;subst hj;exact h
  |succ j=>simpa using ih.2 j s (by simpa using hj)
def aI9 {P:Program} {g:FuncId} {ss:List S} {b:Bool} (h:d6 P g ss [] (i9 b) []) {w:World} {vs:List Value} (ha:au3 w ss vs):
 Calls P g vs.toArray w fun e w'=>e=.returned (.bool b)∧Below w.heap.size w w':=by
 obtain ⟨h1,h2⟩:=ha.get;refine Calls.mono (h.2 w (fun _=>none) (fun _=>False) vs h1 h2 ⟨zq,zq,zq,zq,zq⟩ (fun _ h=>h.elim) (fun _ _=>rfl)) ?_;rintro e w' ⟨v,rfl,ι',M',q1,q2,q3,q4,q5⟩;rw [q1.inv_atm];exact ⟨rfl,q5.os,q5.tape,q5.output,q5.size,fun k hk=>q5.keep k hk zA⟩
open Go.RowKit Go.ChangeShapes Go.WideShapes Go.ChangeAt
def b4l {P:Program} {f:FuncId} {fn:Func} {s:ChangeSpec} {c:OpenClaim}
 (h1:c.wf (OpenSpec.ofChange s)=true) (h2:laidOutB P=true) (h3:mapsRowed P=true) (h4:fn.params.all (P.readableRec ·)=true) (h5:namedTie P c.named s.vars=true)
 (h6:(c.stops == [])=true) (h7:(P.stops == [])=true) (h8:(c.knobs == [])=true) (h9:(P.stopKnobs == [])=true)
 (h10:(c.inPlace == P.inPlace f)=true) (h11:(c.unfollowed == P.unfollowed f)=true) (h12:(c.recurses == P.recurses f)=true) (h13:(c.named == P.varsNamed f)=true)
 (h14:(c.maps == (fn.params.toList++s.plain.varTypes P).any (P.mapsRec ·))=true) (h15:(c.ifaces == (fn.params.toList++s.plain.varTypes P).any (P.ifacesRec ·))=true) (h16:(c.mapsOut == P.mapsAmong fn.resultTypes.toList)=true)
 (h17:(c.loops == (fn.params.toList++s.plain.varTypes P).any (P.loopsFrom ·))=true) (h18:(c.wideKeys == (fn.params.toList++s.plain.varTypes P++fn.resultTypes.toList).any (P.wideKeysFrom ·))=true)
 (h19:s.vars.all (P.varReadable ·)=true) (h20:fn.resultTypes.all (fun t=>P.readableRec t && decide (t<P.types.size))=true) (h21:(c.ifacesOut == fn.resultTypes.toList.any (P.ifacesRec ·))=true) (h22:(c.loopsOut == fn.resultTypes.toList.any (P.loopsFrom ·))=true)
 (h23:(c.plainKeys == P.plainKeys)=true) (h24:c.shortTexts.isNone=true) (h25:P.stopsHeard=true) (h26:P.mayEnter=true) (h27:(c.lifted == P.liftsFinal)=true) (h28:(P.make == some c.make)=true)
 (h29:c.domain.isEmpty=true) (h29b:(c.kinds == [])=true) (h30:(c.pinned == c.pinnedBy)=true)
 (h31:(c.veiled == (fn.params.toList++s.plain.varTypes P++fn.resultTypes.toList).any (P.veiledRec ·))=true) (h32:c.veiledFits P fn.params.toList (fn.params.toList++s.plain.varTypes P++fn.resultTypes.toList)=true):
 joinedFacts P f fn s c=true:=by
 unfold joinedFacts;rw [h1,h2,h3,h4,h5,h6,h7,h8,h9,h10,h11,h12,h13,h14,h15,h16,h17,h18,h19,h20,h21,h22,h23,h24,h25,h26,h27,h28,if_pos h29,h29b,h30,h31,h32]
 rfl
def b9C:laidOutB Tryz.pinned.checked.prog=true:=by kernel_rfl
def b7D:mapsRowed Tryz.pinned.checked.prog=true:=by kernel_rfl
def b9G:Tryz.pinned.checked.prog.plainKeys=true:=by kernel_rfl
def b5X:Tryz.pinned.checked.prog.stopsHeard=true:=by kernel_rfl
def b6i:Tryz.pinned.checked.prog.mayEnter=true:=by kernel_rfl
def b8D:(Rows.explainFewestRow.lifted == Tryz.pinned.checked.prog.liftsFinal)=true:=by kernel_rfl
def b8j:(Tryz.pinned.checked.prog.make == some Rows.explainFewestRow.make)=true:=by kernel_rfl
end Go.Proofs.YtikokmdpigploaaGreat
