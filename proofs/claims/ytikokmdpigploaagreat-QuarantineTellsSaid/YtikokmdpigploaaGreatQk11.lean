/- Part 11. -/
import Derived.Test.YtikokmdpigploaaGreatQk10
namespace Go.Proofs.YtikokmdpigploaaGreat
set_option linter.all false
set_option maxRecDepth 100000
set_option maxHeartbeats 8000000
open Go.RowKit
open St1 St2 St3 St4 St5 St6 St7 St8 StA StB StC
def kn1 (e:Ev) (k i:Nat):List T:=
 let h:=if i<k then hiF (a5v e i) else M4
 [ti h.p.sg,w7 h.p.dl,ti h.q.sg,w7 h.q.dl,tb (decide (i<k) && (a5v e i).isSome),.sl 0 .nil [],ti 0]
abbrev knB (rows:List (List T)):Blk:={ mode:=.live,elem:=147,size:=7,rows:=toC rows,box:=false }
def aV6 {e:Ev} {k i:Nat} (h:i≠k):kn1 e (k+1) i=kn1 e k i:=by
 unfold kn1;by_cases h1:i<k
 ·simp only [if_pos h1,if_pos (show i<k+1 by omega),h1,show i<k+1 by omega]
 ·simp only [if_neg h1,if_neg (show ¬i<k+1 by omega),h1,show ¬i<k+1 by omega]
def b3u {e:Ev} {k n:Nat} (h:k<n):(toC ((List.range n).map (kn1 e k))).set k ((kn1 e (k+1) k).map C.t)=toC ((List.range n).map (kn1 e (k+1))):=by
 apply a05;intro i;unfold toC;rw [lbg,lba,lba,lba];by_cases hi:k=i
 ·subst hi;rw [if_pos rfl];simp [h]
 ·rw [if_neg hi,lba];cases hr:(List.range n)[i]? with
  |none=>rfl
  |some j=>
   have:j=i:=by
    obtain ⟨h1,h2⟩:=lbe.1 hr;simp at h2;omega
   subst this;show some ((kn1 e k j).map C.t)=some ((kn1 e (k+1) j).map C.t);rw [aV6 (fun h=>hi h.symm)]
def aU4 {e:Ev} {k:Nat} (h:a5v e k=none):kn1 e (k+1) k=kn1 e k k:=by
 unfold kn1;simp only [if_pos (show k<k+1 by omega),if_neg (show ¬k<k by omega),h];simp [hiF]
def aQ9 {e:Ev} {k n:Nat} (h:a5v e k=none):(List.range n).map (kn1 e (k+1))=(List.range n).map (kn1 e k):=lbp fun i _=>by
 by_cases hi:i=k
 ·subst hi;exact aU4 h
 ·exact aV6 hi
def b6V {e:Ev} {n:Nat} {ρ:List (Option Nat)} {H:Hp}:a4o ρ H (List.replicate n [C.t (ti 0),C.t (.sl 0 .nil []),C.t (ti 0),C.t (.sl 0 .nil []),C.t (tb false),C.t (.sl 0 .nil []),C.t (ti 0)]) (toC ((List.range n).map (kn1 e 0))):=by
 refine a83 zt fun i x y hx hy=>?_
 have hi:i<n:=by have:=(lbe.1 hx).1;simpa using this
 rw [lbk,if_pos hi] at hx;injection hx with hx;subst hx;unfold toC at hy;rw [lba,lba,lbh hi] at hy;injection hy with hy;subst hy;show a4E _ _ _ ((kn1 e 0 i).map C.t);unfold kn1;simp only [if_neg (show ¬i<0 by omega)];exact rz
def knA (e:Ev) (i:Nat):List T:=[ti (hiF (a5v e i)).p.sg,w7 (hiF (a5v e i)).p.dl,ti (hiF (a5v e i)).q.sg,w7 (hiF (a5v e i)).q.dl,tb (a5v e i).isSome]
def I6 (t:j6) (kind:Int) (k i:Nat):LI:=t8 (t.finds.take k) kind i
def a8a (l:List P5) (f:P5) (kind:Int) (i:Nat):t8 (l++[f]) kind i=if f.kind=kind∧f.mv=(i:Int) then t8 l kind i++[f.grams] else t8 l kind i:=by
 rw [a7Z];split<;>simp
def Z9 {α:Type} {l:List α} {k:Nat} {x:α} (h:l[k]? =some x):l.take (k+1)=l.take k++[x]:=by rw [lbH,h];rfl
def kn3 (t:j6) (kind:Int) (k i:Nat):List T:=knA t.ev i++w7 (t8 t.finds kind i)::[ti (B2 (t.cleans.take k) kind i)]
def bw2 (t:j6) (kind:Int) (k i:Nat):B2 (t.cleans.take k) kind i<=t.cleans.length:=lbT (lbt _ _) zo
def ba2 {t:j6} {kind:Int} {n:Nat}:(List.range n).map (kn3 t kind t.cleans.length)=(List.range n).map (a6A t kind):=lbp fun i _=>by
 unfold kn3;rw [lbn (lbS _)];rfl
def b6u {t:j6} {kind:Int} {n k:Nat} {c:Y8} (h:t.cleans[k]? =some c) (hk:c.kind≠kind):(List.range n).map (kn3 t kind (k+1))=(List.range n).map (kn3 t kind k):=lbp fun i _=>by
 unfold kn3;rw [Z9 h,a1u,if_neg (fun h=>hk h.1)];rfl
def bh5 {t:j6} {kind:Int} {n k m:Nat} {c:Y8} (hm:m<n) (h:t.cleans[k]? =some c) (hk:c.kind=kind) (hmv:c.mv=m):
 (toC ((List.range n).map (kn3 t kind k))).set m ((knA t.ev m++w7 (t8 t.finds kind m)::[ti ((B2 (t.cleans.take k) kind m:Int)+1)]).map C.t)=toC ((List.range n).map (kn3 t kind (k+1))):=by
 have key:∀i,i<n->i≠m->kn3 t kind (k+1) i=kn3 t kind k i:=fun i _ hi=>by
  unfold kn3;rw [Z9 h,a1u,if_neg (fun h=>hi om)];rfl
 have own:kn3 t kind (k+1) m=knA t.ev m++w7 (t8 t.finds kind m)::[ti ((B2 (t.cleans.take k) kind m:Int)+1)]:=by
  unfold kn3;rw [Z9 h,a1u,if_pos ⟨hk,hmv⟩];rfl
 rw [← own];unfold toC;rw [← a1R]
 congr 1
 apply a05;intro i;simp only [lbg,lba,lbr,lbv];by_cases hi:m=i
 ·subst hi;simp [hm]
 ·rw [if_neg hi];by_cases hin:i<n
  ·rw [lbh hin];show some _=some _;rw [key i hin (fun h=>hi h.symm)]
  ·rw [lbd zo];rfl
def b8G {l:LI} {x:Int}:List.take l.length (toC (l.map j0))++toC [[ti x]]=toC ((l++[x]).map j0):=by
 rw [lbn zt];simp [toC,j0]
def ba5 (t:j6) (kind:Int) (hs:t.Sized) (h0:F3 t.ev=0) (hf:∀f ∈ t.finds,0<=f.mv∧f.mv<t.ev.moves.length) (hc:∀c ∈ t.cleans,0<=c.mv∧c.mv<t.ev.moves.length):
 ec 115 [trS t,eI kind] [] (.c (.t (aK1 t kind))) []:=by
 obtain ⟨b1,b2,b3,b4⟩:=a0N h0;have l1:=hs.f;have l2:=hs.c;have m0:(t.ev.moves.map A8.row).length=t.ev.moves.length:=zq;have m1:(t.finds.map P5.row).length=t.finds.length:=zq;have m2:(t.cleans.map Y8.row).length=t.cleans.length:=zq;have s3:=hs.ev.s3;have s4:=hs.ev.s4
 (refine ac Tryz.func115 ?_;(conv=>whnf);repeat ((first|refine b0x ?_|refine zy ?_);conv=>whnf))
 repeat' (first|refine zx ?_|refine a0x om om om de ?_|apply zD<;>intro h<;>try omega)<;>conv=>whnf
 refine i7 d9 (fun k=>([J,eI kind,S.c (C.t (T.ptr (trT t))),J,J,sP 0 0 0,S.c (C.own 1 0 t.ev.moves.length true)]++Jn 13++[S.c (C.t (a2M t.ev.moves)),eI t.ev.moves.length,eI k]++Jn 80,[evB t.ev,knB ((List.range t.ev.moves.length).map (kn1 t.ev k))])) t.ev.moves.length tT [some 0,some 1] trivial ?_ ?_
 ·refine ⟨rfl,rfl,⟨⟨rfl,rfl,rfl,.inl ⟨rfl,y6 _⟩⟩,⟨rfl,rfl,rfl,.inr ?_⟩,trivial⟩,⟨rfl,rfl,rz,⟨rfl,rfl,?_,fun h=>h⟩,rfl,d7 zq,rz⟩⟩
  ·have e9:((((t.ev.moves.map A8.row).length:Nat):Int)).toNat=t.ev.moves.length:=by omega
   rw [← e9];exact b6V
  ·omega
 intro k hk _;by_cases hlt:k<t.ev.moves.length
 ·obtain ⟨x,hx⟩:∃x,t.ev.moves[k]? =some x:=⟨_,lbf hlt⟩;have iv:=b2r t.ev.certs t.ev.recalls om om x.scale x.reading x.day;have eK:0+(k:Int).toNat=k:=om;have hk0:(List.range t.ev.moves.length)[0+(k:Int).toNat]? =some k:=by rw [eK,lbh hlt]
  have gs:∀c,((knB ((List.range t.ev.moves.length).map (kn1 t.ev k))).rows.set (0+(k:Int).toNat) c)[0+(k:Int).toNat]? =some c:=fun c=>by
   rw [List.getElem?_set_self];show _<(toC _).length;simp [toC];omega
  by_cases hsc:x.scale=-1
  ·have hn:a5v t.ev k=none:=by rw [aK9 hx];unfold M5;rw [if_pos hsc]
   have e1:=aQ9 (n:=t.ev.moves.length) hn;conv=>whnf
   repeat' (first|refine zx ?_|refine f7 hx ?_|apply zD<;>intro h<;>try omega)<;>conv=>whnf
   all_goals try omega
   refine ⟨hlt,trivial,[some 0,some 1],rfl,rfl,⟨⟨rfl,rfl,rfl,.inl ⟨rfl,y6 _⟩⟩,d8 rfl rfl rfl ?_ rfl,trivial⟩,⟨rfl,rfl,rz,⟨rfl,rfl,rfl,fun h=>h⟩,rz⟩⟩;rw [e1]
  ·have hiv:a5v t.ev k=L9 t.ev.certs t.ev.recalls x.scale x.reading x.day:=by rw [aK9 hx];unfold M5;rw [if_neg hsc]
   rw [← hiv] at iv;cases hi:a5v t.ev k with
   |none=>
    rw [hi] at iv;have er:(kn1 t.ev (k+1) k).map C.t=frC M4++[C.t (tb false),C.t (.sl 0 .nil []),C.t (ti 0)]:=by rw [aU4 hi];simp [kn1]
    conv=>whnf
    repeat' (first|refine zx ?_|refine f7 hx ?_|refine p8 hk0 ?_|refine ⟨_,gs _,?_⟩|refine bl0 [2,3,18] ?_|apply zD<;>intro h<;>try omega)<;>conv=>whnf
    all_goals try omega
    refine ⟨hlt,trivial,[some 0,some 1],rfl,rfl,⟨⟨rfl,rfl,rfl,.inl ⟨rfl,y6 _⟩⟩,d8 rfl rfl rfl ?_ rfl,trivial⟩,⟨rfl,rfl,rz,⟨rfl,rfl,rfl,fun h=>h⟩,rz⟩⟩;have e2:=b3u (e:=t.ev) hlt;rw [er] at e2;rw [← e2];show ((toC _).set (0+(k:Int).toNat) _).set (0+(k:Int).toNat) _=_;rw [List.set_set,eK]
    rfl
   |some p=>
    obtain ⟨lo,hi'⟩:=p;rw [hi] at iv;have er:(kn1 t.ev (k+1) k).map C.t=frC (fz hi')++[C.t (tb true),C.t (.sl 0 .nil []),C.t (ti 0)]:=by simp [kn1,hi,hiF]
    conv=>whnf
    repeat' (first|refine zx ?_|refine f7 hx ?_|refine p8 hk0 ?_|refine ⟨_,gs _,?_⟩|refine bl0 [2,3,18] ?_|apply zD<;>intro h<;>try omega)<;>conv=>whnf
    all_goals try omega
    refine ⟨hlt,trivial,[some 0,some 1],rfl,rfl,⟨⟨rfl,rfl,rfl,.inl ⟨rfl,y6 _⟩⟩,d8 rfl rfl rfl ?_ rfl,trivial⟩,⟨rfl,rfl,rz,⟨rfl,rfl,rfl,fun h=>h⟩,rz⟩⟩;have e2:=b3u (e:=t.ev) hlt;rw [er] at e2;rw [← e2];show ((toC _).set (0+(k:Int).toNat) _).set (0+(k:Int).toNat) _=_;rw [List.set_set,eK]
    rfl
 ·conv=>whnf
  repeat' (first|refine zx ?_|apply zD<;>intro h<;>try omega)<;>conv=>whnf
  all_goals try omega
  have e0:I6 t kind 0=fun _=>[]:=by funext i;simp [I6,t8]
  refine i7 d9 (fun k=>([J,eI kind,S.c (C.t (T.ptr (trT t))),J,J,J,S.c (C.own 0 0 t.ev.moves.length true)]++Jn 48++[S.c (C.t (aq9 t.finds)),eI t.finds.length,eI k]++Jn 45,a0F 147 7 t.ev.moves.length (knA t.ev) (I6 t kind k) (fun _=>[ti 0]))) t.finds.length tT (b2j 1 t.ev.moves.length) trivial ?_ ?_
  ·have hke:k=t.ev.moves.length:=by omega
   subst hke;refine (?_:Ent 0 (b2j 1 t.ev.moves.length) _ _ _ (a0F 147 7 t.ev.moves.length (knA t.ev) (I6 t kind 0) (fun _=>[ti 0])));rw [e0];refine ba8 (k0:=knB ((List.range t.ev.moves.length).map (kn1 t.ev t.ev.moves.length))) (s:=0) rfl rz ?_ ?_
   ·show toC _=_;unfold toC;rw [a4P];refine lbp fun i hi=>?_
    have:=lbC.1 hi;simp [kn1,knA,this]
   ·exact ⟨rfl,rfl,⟨rfl,rfl,rfl,fun h=>h⟩,k8 rfl,d7 zq,rz⟩
  intro j hj _;by_cases hjt:j<t.finds.length
  ·obtain ⟨f,hfj⟩:∃f,t.finds[j]? =some f:=⟨_,lbf hjt⟩;obtain ⟨f1,f2⟩:=hf f (lbm hfj);obtain ⟨m,hm⟩:∃m:Nat,f.mv=m:=⟨f.mv.toNat,om⟩;have hmn:m<t.ev.moves.length:=om;have eM:0+f.mv.toNat=m:=om;have rL:(List.range t.ev.moves.length).length=t.ev.moves.length:=zq;have rG:(List.range t.ev.moves.length)[m]? =some m:=lbh hmn;have gR:(a3U t.ev.moves.length (knA t.ev) (I6 t kind j) (fun _=>[ti 0]))[0+f.mv.toNat]? =some (b0v (knA t.ev) (I6 t kind j) (fun _=>[ti 0]) (m+1) m):=by rw [eM];exact a45 hmn
   have gl:(I6 t kind j m).length<=t.finds.length:=by
    unfold I6 t8;rw [lbr];exact lbT (lbt _ _) zo
   have hbox:∀(fB:Nat->Blk) (dead nb fb:Blk),(((((List.range t.ev.moves.length).map fB++[fb]).set m dead)++[nb])[t.ev.moves.length]?)=some fb:=fun fB dead nb fb=>by
    rw [lbb zq,lbg,if_neg om,lbc zq];simp
   have hnew:∀(fB:Nat->Blk) (dead nb fb:Blk),(((((List.range t.ev.moves.length).map fB++[fb]).set m dead)++[nb])[t.ev.moves.length+1]?)=some nb:=fun fB dead nb fb=>by
    rw [lbc zq];simp
   have hold:∀(fB:Nat->Blk) (dead nb fb:Blk) (p:Nat),p<t.ev.moves.length->p≠m->(((((List.range t.ev.moves.length).map fB++[fb]).set m dead)++[nb])[p]?)=some (fB p):=fun fB dead nb fb p hp hpm=>by
    rw [lbb zo,lbg,if_neg om,lbb (by simpa using hp),lba,lbh hp];rfl
   by_cases hkd:f.kind=kind
   ·conv=>whnf
    repeat' (first|refine zx ?_|refine f7 hfj ?_|refine g8 rL ?_|refine a6g rL ?_|refine G2 ?_|refine a4u ?_|refine ⟨_,gR,?_⟩|refine ag3 (hbox _ _ _ _) ?_|refine G6 rG ?_|refine aX1 rG ?_|refine o5 rL ?_|refine i5 rL ?_|refine x7 rL ?_|refine i9 rL ?_|refine aN7 ?_|refine o6 zt zu ?_|refine bl0 [0,1,2] ?_|apply zD<;>intro h<;>try omega)<;>conv=>whnf
    all_goals try omega
    refine ⟨hjt,trivial,ae3 t.ev.moves.length m (t.ev.moves.length+2),?_⟩;refine (?_:Ent 0 (ae3 t.ev.moves.length m (t.ev.moves.length+2)) _ _ _ (a0F 147 7 t.ev.moves.length (knA t.ev) (I6 t kind (j+1)) (fun _=>[ti 0])));have eg:I6 t kind (j+1)=a5M (I6 t kind j) m (I6 t kind j m++[f.grams]):=by
     funext i;unfold I6 a5M;rw [Z9 hfj,a8a];by_cases hi:i=m
     ·subst hi;rw [if_pos ⟨hkd,hm⟩,if_pos rfl]
     ·rw [if_neg (fun h=>hi om),if_neg hi]
    rw [eg];refine b6N hmn om rfl rz ?_ ?_ ?_ ?_
    ·show (a3U _ _ _ _).set (0+f.mv.toNat) _=_;rw [eM,lbq]
     rfl
    ·intro p hp hpm;exact hold _ _ _ _ p hp hpm
    ·refine (hnew _ _ _ _).trans ?_;show some (Blk.mk .live _ 1 (List.take _ (toC ((I6 t kind j m).map j0))++toC [[ti f.grams]]) false false)=_;rw [b8G]
    ·exact ⟨rfl,rfl,⟨by rw [a0A om];rfl,rfl,rfl,fun h=>h⟩,rz⟩
   ·conv=>whnf
    repeat' (first|refine zx ?_|refine f7 hfj ?_|refine g8 rL ?_|refine a6g rL ?_|refine G2 ?_|refine a4u ?_|refine o5 rL ?_|refine i5 rL ?_|refine x7 rL ?_|refine i9 rL ?_|apply zD<;>intro h<;>try omega)<;>conv=>whnf
    all_goals try omega
    refine ⟨hjt,trivial,idR (t.ev.moves.length+1),?_⟩;refine (?_:Ent 0 (idR (t.ev.moves.length+1)) _ (a0F 147 7 t.ev.moves.length (knA t.ev) (I6 t kind j) (fun _=>[ti 0])++_) _ (a0F 147 7 t.ev.moves.length (knA t.ev) (I6 t kind (j+1)) (fun _=>[ti 0])));have eg:I6 t kind (j+1)=I6 t kind j:=by
     funext i;unfold I6;rw [Z9 hfj,a8a,if_neg (fun h=>hkd h.1)]
    rw [eg];exact b4L ⟨rfl,rfl,⟨i6 om,rfl,rfl,fun h=>h⟩,rz⟩
  ·have hje:j=t.finds.length:=by omega
   subst hje;have rL:(List.range t.ev.moves.length).length=t.ev.moves.length:=zq;conv=>whnf
   repeat' (first|refine zx ?_|refine G2 ?_|refine a4u ?_|refine a6g rL ?_|apply zD<;>intro h<;>try omega)<;>conv=>whnf
   all_goals try omega
   have eg:I6 t kind t.finds.length=t8 t.finds kind:=by funext i;unfold I6;rw [lbn (lbS _)]
   rw [eg];refine i7 d9 (fun k=>([J,eI kind,J,J,J,J,S.c (C.own 0 0 t.ev.moves.length true)]++Jn 75++[S.c (C.t (a3j t.cleans)),eI t.cleans.length,eI k]++Jn 18,[knB ((List.range t.ev.moves.length).map (kn3 t kind k))])) t.cleans.length tT [some 0] trivial ?_ ?_
   ·exact b7M (g:=t8 t.finds kind) ⟨rfl,⟨rfl,rfl,rfl,fun h=>h⟩,k8 rfl,d7 zq,rz⟩
   intro q hq _;by_cases hqt:q<t.cleans.length
   ·obtain ⟨c,hcq⟩:∃c,t.cleans[q]? =some c:=⟨_,lbf hqt⟩;obtain ⟨g1,g2⟩:=hc c (lbm hcq);obtain ⟨m,hm⟩:∃m:Nat,c.mv=m:=⟨c.mv.toNat,om⟩;have hmn:m<t.ev.moves.length:=om;have eM:0+c.mv.toNat=m:=om;have hk0:(List.range t.ev.moves.length)[0+c.mv.toNat]? =some m:=by rw [eM];exact lbh hmn
    have cb:=bw2 t kind q m;by_cases hkd:c.kind=kind
    ·conv=>whnf
     repeat' (first|refine zx ?_|refine f7 hcq ?_|refine p8 hk0 ?_|apply zD<;>intro h<;>try omega)<;>conv=>whnf
     all_goals try omega
     refine ⟨hqt,trivial,[some 0],rfl,rfl,⟨d8 rfl rfl rfl ?_ rfl,trivial⟩,⟨rfl,⟨rfl,rfl,rfl,fun h=>h⟩,rz⟩⟩;show (toC _).set (0+c.mv.toNat) _=_;rw [eM,←bh5 hmn hcq hkd hm]
     rfl
    ·have e3:=b6u (t:=t) (kind:=kind) (n:=t.ev.moves.length) hcq hkd;conv=>whnf
     repeat' (first|refine zx ?_|refine f7 hcq ?_|refine p8 hk0 ?_|apply zD<;>intro h<;>try omega)<;>conv=>whnf
     all_goals try omega
     refine ⟨hqt,trivial,[some 0],rfl,rfl,⟨d8 rfl rfl rfl ?_ rfl,trivial⟩,⟨rfl,⟨rfl,rfl,rfl,fun h=>h⟩,rz⟩⟩;rw [e3]
   ·have hqe:q=t.cleans.length:=by omega
    subst hqe;conv=>whnf
    repeat' (first|refine zx ?_|apply zD<;>intro h<;>try omega)<;>conv=>whnf
    all_goals try omega
    rw [ba2];exact I4 (k:=knB ((List.range t.ev.moves.length).map (a6A t kind))) rfl zi rfl rfl zq
abbrev H4 (l:List (Int × Rat)):Blk:={ mode:=.live,elem:=109,size:=5,rows:=toC (l.map k6),box:=false }
abbrev Z0 (l:List z7):Blk:={ mode:=.live,elem:=133,size:=6,rows:=toC (l.map w5),box:=false }
abbrev a8K (n:Int) (id len:Nat):Blk:={ mode:=.live,elem:=70,size:=2,rows:=[[.t (ti n),.own id 0 len true]],box:=true }
abbrev bj4 (id len:Nat) (kind:Int):Blk:={ mode:=.live,elem:=133,size:=6,rows:=[.own id 0 len true::.t (ti kind)::frC (fz zR)],box:=true }
abbrev b9e (x:A8):Blk:={ mode:=.live,elem:=149,size:=6,rows:=[x.row.map .t],box:=true }
def a4T (x:A8):J9 [x.row.map C.t]:=by simp [J9,A8.row,C.isT]
abbrev bl5:Blk:={ mode:=.live,elem:=133,size:=6,rows:=[.t (Z5 [])::.t (ti 0)::frC M4],box:=true }
abbrev b3S (el:TypeId) (size:Nat):Blk:=⟨.dead,el,size,[],false,false⟩
def a2h {l:List z7} {w:z7} {n:Nat} (h:n=l.length):List.take n (toC (l.map w5))++toC [w5 w]=toC ((l++[w]).map w5):=by
 rw [lbn (by simp [toC,h])];simp [toC]
def bn1 (n:Int) (rows:List z7) (hr:rows.length<=1000000) (mv:Nat) (kind:Int) (v:Rat):
 ec 132 [eI mv,eI kind,frS (fz v),.c (.ptr 0 0 0)] [a8K n 1 rows.length,Z0 rows] (.tup []) [a8K n 2 (rows.length+1),b3S 133 6,Z0 (rows++[y5 mv kind v])]:=by
 have i1:=W9 1 de de
 (refine ac Tryz.func132 ?_;(conv=>whnf);repeat ((first|refine b0x ?_|refine zy ?_);conv=>whnf))
 repeat' (first|refine zz ?_|refine qp i1 ?_|refine a4d.weak ?_|refine o6 zt zu ?_|apply zD<;>intro h<;>try omega|refine zy ?_|fail)<;>conv=>whnf
 refine ⟨⟨[some 0,some 1,some 2],rfl,rfl,⟨⟨rfl,rfl,rfl,.inr ⟨⟨rfl,⟨rfl,rfl,rfl,fun h=>h⟩,trivial⟩,trivial⟩⟩,⟨rfl,rfl,rfl,.inl ⟨rfl,by simp [J9]⟩⟩,d8 rfl rfl rfl ?_ rfl,trivial⟩,trivial⟩⟩;show List.take rows.length (toC (rows.map w5))++toC [w5 (y5 mv kind v)]=_;exact a2h rfl
def bu3 {H:Hp} {id:Nat} {n:Int} {rows:List z7} (hs:H[2]? =some (a8K n id rows.length)) (hid:H[id]? =some (Z0 rows)) (hne:id≠2) (hr:rows.length<=1000000) (mv:Nat) (kind:Int) (v:Rat):
 ec 132 [eI mv,eI kind,frS (fz v),.c (.ptr 2 0 0)] H (.tup []) (((H.set 2 (a8K n H.length (rows.length+1))).set id (b3S 133 6))++[Z0 (rows++[y5 mv kind v])]):=by
 have h2:2<H.length:=(lbe.1 hs).1;have hi:id<H.length:=(lbe.1 hid).1;have ex:a4Z [2,id] H.length 1=[2,id,H.length]:=by simp [a4Z]
 refine W4 [2,id] (bn1 n rows hr mv kind v) rfl rfl rfl zo ?_ ?_ zq rfl rfl zq ?_ ?_
 ·intro i k hk
  match i,hk with
  |0,hk=>
   injection hk with hk;subst hk;exact ⟨rfl,rfl,by simp [okL,okC],_,hs,⟨rfl,rfl,rfl,rfl,by simp [a7H,a1m,Z4]⟩⟩
  |1,hk=>
   injection hk with hk;subst hk;exact ⟨rfl,rfl,a57 _,_,hid,B3 rfl⟩
 ·intro k hk;simp at hk;rcases hk with rfl|rfl|rfl<;>(intro h;cases h)
 ·intro i k hk;show ∃k',_[(a4Z [2,id] H.length 1).getD i 0]? =some k'∧aK7 (a4Z [2,id] H.length 1) k k';rw [ex]
  match i,hk with
  |0,hk=>
   injection hk with hk;subst hk;refine ⟨a8K n H.length (rows.length+1),?_,⟨rfl,rfl,rfl,rfl,by simp [a7H,a1m,Z4]⟩⟩;show (_++_)[2]? =_;rw [lbb zo,lbg,if_neg om,lbg,if_pos rfl,if_pos h2]
  |1,hk=>
   injection hk with hk;subst hk;refine ⟨b3S 133 6,?_,rz⟩;show (_++_)[id]? =_;rw [lbb zo,lbg,if_pos rfl,if_pos zo]
  |2,hk=>
   injection hk with hk;subst hk;refine ⟨Z0 (rows++[y5 mv kind v]),?_,B3 rfl⟩;show (_++_)[H.length]? =_;rw [lbc zq];simp
 ·intro j hj hjn;simp at hjn;rw [lbb zo,lbg,if_neg om,lbg,if_neg om]
def a2m {l:List (Int × Rat)} {w:Int × Rat} {n:Nat} (h:n=l.length):List.take n (toC (l.map k6))++toC [k6 w]=toC ((l++[w]).map k6):=by
 rw [lbn (by simp [toC,h])];simp [toC]
def X9 {e:Ev} {p:Int} {k:Nat} {y:A8} (h:e.moves[k]? =some y):k9 e p (k+1)=if y.dst=p then k9 e p k++[((k:Int),((1:Int):Rat))] else if y.src=p then k9 e p k++[((k:Int),((-1:Int):Rat))] else k9 e p k:=by rw [k9,h]
def a1I {e:Ev} {p:Int}:∀k,(k9 e p k).length<=k
 |0=>by simp [k9]
 |k+1=>by
  have ih:=a1I (e:=e) (p:=p) k;unfold k9;cases e.moves[k]? with
  |none=>simp only;omega
  |some y=>
   simp only;split
   ·simp;omega
   ·split
    ·simp;omega
    ·omega
def b9p (e:Ev) (h0:F3 e=0) {i:Nat} {x:A8} (hx:e.moves[i]? =some x):ec 133 [evS e,eI i] [] (aw9 (x8 e i x)) []:=by
 obtain ⟨b1,b2,b3,b4⟩:=a0N h0;have hi:i<e.moves.length:=(lbe.1 hx).1;have m0:(e.moves.map A8.row).length=e.moves.length:=zq;have i0:=W9 0 de de;have i1:=W9 1 de de;have im:=W9 (-1) de de;have tk:(e.moves.map A8.row).take i=(e.moves.take i).map A8.row:=(aA6 ..).symm;have tl:(e.moves.take i).length=i:=zo;have mt:((e.moves.take i).map A8.row).length=i:=zo;cases hal:x.all
 case' false=>have hK:(x8 e i x).kind=0:=by unfold x8;rw [hal];rfl
 case' true=>have hK:(x8 e i x).kind=2:=by unfold x8;rw [hal];rfl
 all_goals
  (refine ac Tryz.func133 ?_;(conv=>whnf);repeat ((first|refine b0x ?_|refine zy ?_);conv=>whnf))
  repeat' (first|refine zx ?_|refine f7 hx ?_|refine a63 om om om ?_|apply zD<;>intro h<;>try omega)<;>conv=>whnf
  all_goals first|omega|(exfalso;simp_all;done)|skip
  refine i7 d9 (fun k=>([J,eI i,J,J,sP 0 0 0,sP 1 0 0,sP 2 0 0]++Jn 15++[S.c (C.t (a2M (e.moves.take i))),eI i,eI k]++Jn 40,[bl5,b9e x,bj4 3 (k9 e x.src k).length (x8 e i x).kind,H4 (k9 e x.src k)])) i tT [some 0,some 1,some 2,none] trivial ?_ ?_
  ·rw [hK];refine ⟨rfl,rfl,⟨⟨rfl,rfl,rfl,.inr rz⟩,⟨rfl,rfl,rfl,.inl ⟨rfl,a4T x⟩⟩,⟨rfl,rfl,rfl,.inr rz⟩,rz⟩,⟨rfl,rz,rz,rz,k8 ?_,d7 ?_,rz⟩⟩
   ·show T.sl 6 _ (((e.moves.map A8.row).take ((i:Int)).toNat).drop 0)=_;rw [lbZ,tk];rfl
   ·show ((((e.moves.map A8.row).take ((i:Int)).toNat).drop 0).length:Int)=i;rw [lbZ,tk,a8y,mt]
  intro k hk _;have kl:=a1I (e:=e) (p:=x.src) k;by_cases hlt:k<i
  ·obtain ⟨y,hy⟩:∃y,e.moves[k]? =some y:=⟨_,lbf om⟩;have hyt:(e.moves.take i)[k]? =some y:=by rw [lbi,if_pos hlt];exact hy
   by_cases c1:y.dst=x.src
   ·have et:k9 e x.src (k+1)=k9 e x.src k++[((k:Int),((1:Int):Rat))]:=by rw [X9 hy,if_pos c1]
    conv=>whnf
    repeat' (first|refine zx ?_|refine f7 hyt ?_|refine o6 zt zu ?_|apply zD<;>intro h<;>try omega)<;>conv=>whnf
    all_goals try omega
    refine ⟨hlt,trivial,[some 0,some 1,some 2,some 5],rfl,rfl,⟨⟨rfl,rfl,rfl,.inr rz⟩,⟨rfl,rfl,rfl,.inl ⟨rfl,a4T x⟩⟩,⟨rfl,rfl,rfl,.inr ⟨⟨⟨rfl,rfl,?_,fun h=>h⟩,rz⟩,trivial⟩⟩,d8 rfl rfl rfl ?_ rfl,trivial⟩,rz⟩
    ·rw [et,lbq];rfl
    ·rw [et];show List.take (k9 e x.src k).length (toC ((k9 e x.src k).map k6))++toC [k6 ((k:Int),((1:Int):Rat))]=_;exact a2m rfl
   ·by_cases c2:y.src=x.src
    ·have et:k9 e x.src (k+1)=k9 e x.src k++[((k:Int),((-1:Int):Rat))]:=by rw [X9 hy,if_neg c1,if_pos c2]
     conv=>whnf
     repeat' (first|refine zx ?_|refine f7 hyt ?_|refine o6 zt zu ?_|apply zD<;>intro h<;>try omega)<;>conv=>whnf
     all_goals try omega
     refine ⟨hlt,trivial,[some 0,some 1,some 2,some 5],rfl,rfl,⟨⟨rfl,rfl,rfl,.inr rz⟩,⟨rfl,rfl,rfl,.inl ⟨rfl,a4T x⟩⟩,⟨rfl,rfl,rfl,.inr ⟨⟨⟨rfl,rfl,?_,fun h=>h⟩,rz⟩,trivial⟩⟩,d8 rfl rfl rfl ?_ rfl,trivial⟩,rz⟩
     ·rw [et,lbq];rfl
     ·rw [et];show List.take (k9 e x.src k).length (toC ((k9 e x.src k).map k6))++toC [k6 ((k:Int),((-1:Int):Rat))]=_;exact a2m rfl
    ·have et:k9 e x.src (k+1)=k9 e x.src k:=by rw [X9 hy,if_neg c1,if_neg c2]
     conv=>whnf
     repeat' (first|refine zx ?_|refine f7 hyt ?_|apply zD<;>intro h<;>try omega)<;>conv=>whnf
     all_goals try omega
     refine ⟨hlt,trivial,[some 0,some 1,some 2,some 3],rfl,rfl,⟨⟨rfl,rfl,rfl,.inr rz⟩,⟨rfl,rfl,rfl,.inl ⟨rfl,a4T x⟩⟩,⟨rfl,rfl,rfl,.inr ⟨⟨⟨rfl,rfl,?_,fun h=>h⟩,rz⟩,trivial⟩⟩,d8 rfl rfl rfl ?_ rfl,trivial⟩,rz⟩
     ·rw [et]
     ·rw [et]
  ·have hke:k=i:=by omega
   subst hke;conv=>whnf
   repeat' (first|refine zx ?_|refine o6 zt zu ?_|apply zD<;>intro h<;>try omega)<;>conv=>whnf
   all_goals try omega
   refine n9 ⟨show VC _ (fun id=>G8 [] id=true) _ _ from s6 rfl rfl zi rfl (rows:=(k9 e x.src k++[((k:Int),((-1:Int):Rat))]).map k6) ?_ ?_,rz⟩
   ·show List.take (k9 e x.src k).length (toC ((k9 e x.src k).map k6))++toC [k6 ((k:Int),((-1:Int):Rat))]=_;exact a2m rfl
   ·rw [lbr,lbq];rfl
def ad0 {e:Ev}:∀{l:List Y8},P8 e l=0->∀c ∈ l,0<=c.mv∧c.mv<e.moves.length
 |[],_,c,hc=>by cases hc
 |g::r,h,c,hc=>by
  unfold P8 at h;by_cases h1:a25 e g.mv g.kind≠0
  ·rw [if_pos h1] at h;exact absurd h h1
  rw [if_neg h1] at h;rcases lbB.1 hc with rfl|hc
  ·unfold a25 at h1;by_cases h3:c.mv<0∨(e.moves.length:Int)<=c.mv
   ·rw [if_pos h3] at h1;exact absurd de h1
   omega
  ·exact ad0 h c hc
def hiR (o:Option (Rat × Rat)):Rat:=match o with
 |some (_,hi)=>hi
 |none=>0
def aU3 {e:Ev} {x:A8} (h:(M5 e x).isSome=true):hiF (M5 e x)=fz (hiR (M5 e x))∧rl (hiR (M5 e x))<=200:=by
 cases hiv:M5 e x with
 |none=>rw [hiv] at h;cases h
 |some p=>
  obtain ⟨lo,hi⟩:=p;refine ⟨rfl,?_⟩;show rl hi<=200;unfold M5 at hiv;by_cases hs:x.scale=-1
  ·rw [if_pos hs] at hiv;cases hiv
  ·rw [if_neg hs] at hiv;have:=(aV8 hiv).2;omega
def ai5 {H:Hp} {id len:Nat} {n:Int} {rows:List z7} {rs:List (List C)} {f:Fr} {v:Rat} (hf:f=fz v) (hs:H[2]? =some (a8K n id len)) (hid:H[id]? =some { mode:=.live,elem:=133,size:=6,rows:=rs,box:=false })
 (hlen:len=rows.length) (hrs:rs=toC (rows.map w5)) (hne:id≠2) (hr:rows.length<=1000000) (mv:Nat) (kind:Int):
 ec 132 [eI mv,eI kind,frS f,.c (.ptr 2 0 0)] H (.tup []) (((H.set 2 (a8K n H.length (rows.length+1))).set id (b3S 133 6))++[Z0 (rows++[y5 mv kind v])]):=by
 subst hf;subst hlen;subst hrs;exact bu3 hs hid hne hr mv kind v
def an2 {t:j6} {kind:Int} {k:Nat} (hk:k<=200) (hf:t.finds.length<=20) (hc:t.cleans.length<=50):(t9 t kind k).length<=14400:=by
 have h1:=X3 (t:=t) (kind:=kind) k;have h2:=lbU hk (show 2+t.finds.length+t.cleans.length<=72 by omega);omega
abbrev bo8 (t:j6) (kind:Int) (i:Nat):Blk:={ mode:=.live,elem:=147,size:=7,rows:=[(a6A t kind i).map .t],box:=true }
def r1A {S C:List z7} {s:z7} {p:Prop} [Decidable p] (h:C=[]) (hp:decide p=false):(S++if p then [] else [s])++C=S++[s]:=by rw [h,if_neg (lbN hp)];simp
def r1B {S C:List z7} {s:z7} {p:Prop} [Decidable p] (h:C=[]) (hp:decide p=true):(S++if p then [] else [s])++C=S:=by rw [h,if_pos (lbM hp)];simp
def r1C {S C:List z7} {s c:z7} {p:Prop} [Decidable p] (h:C=[c]) (hp:decide p=false):(S++if p then [] else [s])++C=(S++[s])++[c]:=by rw [h,if_neg (lbN hp)]
def r1D {S C:List z7} {s c:z7} {p:Prop} [Decidable p] (h:C=[c]) (hp:decide p=true):(S++if p then [] else [s])++C=S++[c]:=by rw [h,if_pos (lbM hp)];simp
def a9l {ρ:List (Option Nat)} {H:Hp}:∀rows:List (List T),a4o ρ H (rows.map (·.map C.t)) (rows.map (·.map C.t))
 |[]=>trivial
 |r::rs=>⟨Q5 r,a9l rs⟩
abbrev b8l:FuncId:=132
abbrev a8n:Blk:={ mode:=.live,elem:=70,size:=2,rows:=[[.t (ti 0),.t (J7 [])]],box:=true }
def a3T {P:Program} {f:FuncId} {args:List S} {H H1 H':Hp} {r s:S} (h:d6 P f args H r H1) (hf:Fin H.length r H1 s H'):d6 P f args H s H':=by
 refine ⟨h.1,fun w ι M vals hl hr hH hM hF=>?_⟩;refine Calls.mono (h.2 w ι M vals hl hr hH hM hF) ?_;rintro e w' ⟨v,rfl,ι',M',h4,hH',hM',hF',hst⟩;obtain ⟨ρ,f1,f2,f3,f4⟩:=hf;obtain ⟨g1,g2,g3⟩:=a4S.all f1 f2 f3 rfl hM hH' hst;exact ⟨v,rfl,T6 ρ ι',_,f4.rs hH' h4,g1,fun b hb=>hM' b hb.1,g2,g3⟩
def b4E (t:j6) (kind:Int) (hs:t.Sized) (h1:¬(y7 t≠0∨kind<0∨8<=kind)):ec 64 [trS t,eI kind] [] (.tup [.agg [.t (ti t.ev.moves.length),.own 0 0 (U8 t kind).rows.length true],eI 0]) [Z0 (U8 t kind).rows]:=by
 have ck:=aV2 t hs;have m2:(t.ev.moves.map A8.row).length=t.ev.moves.length:=zq;obtain ⟨k1,k2,k3⟩:y7 t=0∧0<=kind∧kind<8:=om;rw [k1] at ck;obtain ⟨q1,q2,q3,q4,q5⟩:=v3 k1;obtain ⟨b1,b2,b3,b4⟩:=a0N q1;have kn:=ba5 t kind hs q1 (fun f hf=>by have:=I0 q4 f hf;omega) (fun c hc=>ad0 q5 c hc)
 (refine ac Tryz.func64 ?_;(conv=>whnf);repeat ((first|refine b0x ?_|refine zy ?_);conv=>whnf))
 repeat' (first|refine zx ?_|apply zD<;>intro h<;>try omega)<;>conv=>whnf
 all_goals try omega
 refine i7 d9 (fun k=>([J,J,J,J,sP 0 0 0,J,sP 1 0 0,sP 2 0 0,S.c (C.fn (Fn.func b8l) [C.ptr 2 0 0])]++Jn 25++[S.c (C.t (aK1 t kind)),eI t.ev.moves.length,eI k]++Jn 47,[a8n,evB t.ev,a8K t.ev.moves.length 3 (t9 t kind k).length,Z0 (t9 t kind k)])) t.ev.moves.length tT [some 0,some 1,some 2,none] trivial ?_ ?_
 ·refine ⟨rfl,rfl,⟨⟨rfl,rfl,rfl,.inr rz⟩,⟨rfl,rfl,rfl,.inl ⟨rfl,y6 _⟩⟩,⟨rfl,rfl,rfl,.inr ⟨⟨?_,rz⟩,trivial⟩⟩,rz⟩,⟨rz,rz,rz,rz,rfl,d7 zq,rz⟩⟩;exact ah3 (by rw [m2])
 intro k hk _;by_cases hlt:k<t.ev.moves.length
 ·obtain ⟨x,hx⟩:∃x,t.ev.moves[k]? =some x:=⟨_,lbf hlt⟩;have bn:=bF1 t.ev q1 hx;have st:=b9p t.ev q1 hx;have gk:(List.range t.ev.moves.length)[k]? =some k:=lbh hlt;have iv:a5v t.ev k=M5 t.ev x:=aK9 hx;have rl0:=an2 (t:=t) (kind:=kind) (k:=k) om q2 q3;have gl:(t8 t.finds kind k).length<=20:=by unfold t8;rw [lbr];exact lbT (lbt _ _) q2
  have cl:B2 t.cleans kind k<=50:=lbT (lbt _ _) q3;have i0:=W9 0 de de;obtain ⟨R1,hR1⟩:∃R1:List z7,R1=t9 t kind k++(if w9 t.ev x.src=0 then [] else [x8 t.ev k x])++a0P (M5 t.ev x) k:=⟨_,rfl⟩;have l5:(t9 t kind k).length+1=(t9 t kind k++[x8 t.ev k x]).length:=zq;have r5:List.take (t9 t kind k).length (toC ((t9 t kind k).map w5))++toC [w5 (x8 t.ev k x)]=toC ((t9 t kind k++[x8 t.ev k x]).map w5):=a2h rfl;have b5:(t9 t kind k++[x8 t.ev k x]).length<=1000000:=zo;have b3:(t9 t kind k).length<=1000000:=om;obtain ⟨G,hG⟩:∃G:Nat->List z7,∀j,G j=R1++((t8 t.finds kind k).take j).map (fun g:Int=>y5 k 0 (g:Rat)):=⟨_,fun _=>rfl⟩;obtain ⟨K,hK⟩:∃K:Nat->List z7,∀j,K j=(R1++(t8 t.finds kind k).map (fun g:Int=>y5 k 0 (g:Rat)))++List.replicate j (y5 k 2 ((0:Int):Rat)):=⟨_,fun _=>rfl⟩;have hG0:G 0=R1:=by rw [hG];simp
  have hK0:K 0=R1++(t8 t.finds kind k).map (fun g:Int=>y5 k 0 (g:Rat)):=by rw [hK];simp
  have hKe:t9 t kind (k+1)=K (B2 t.cleans kind k):=by
   rw [hK,hR1];show (match t.ev.moves[k]? with|none=>t9 t kind k|some x=>t9 t kind k++R8 t kind k x)=_;rw [hx];unfold R8;simp [lbE]
  have hKs:toC ((K (B2 t.cleans kind k)).map w5)=toC ((t9 t kind (k+1)).map w5)∧(K (B2 t.cleans kind k)).length=(t9 t kind (k+1)).length:=by rw [hKe];exact rz
  have hgr:∀g ∈ t8 t.finds kind k,1<=g∧g<=1099511627776:=fun g hg=>by
   unfold t8 at hg;obtain ⟨f,hf,rfl⟩:=lby.1 hg;have:=I0 q4 f (lbz.1 hf).1;omega
  have hcr:a0P (M5 t.ev x) k=if (M5 t.ev x).isSome then [y5 k 1 (hiR (M5 t.ev x))] else []:=by cases M5 t.ev x<;>rfl
  cases hc:(M5 t.ev x).isSome<;>cases hb:decide (w9 t.ev x.src=0)<;>rw [hb] at bn<;>rw [hc] at hcr<;>
  ·have hci:=hc;rw [← iv] at hci;first|(have eR:R1=(t9 t kind k++[x8 t.ev k x]):=hR1.trans (r1A hcr hb);let ρ:List (Option Nat):=[some 0,some 1,some 2,some 5,some 4])|(have eR:R1=t9 t kind k:=hR1.trans (r1B hcr hb);let ρ:List (Option Nat):=[some 0,some 1,some 2,some 3,some 4])|(have eR:R1=(t9 t kind k++[x8 t.ev k x])++[y5 k 1 (hiR (M5 t.ev x))]:=hR1.trans (r1C hcr hb);let ρ:List (Option Nat):=[some 0,some 1,some 2,some 6,some 4])|(have eR:R1=t9 t kind k++[y5 k 1 (hiR (M5 t.ev x))]:=hR1.trans (r1D hcr hb);let ρ:List (Option Nat):=[some 0,some 1,some 2,some 5,some 4])
   have hRl:R1.length<=14500:=by rw [eR];(try simp);omega
   try (have hfv:hiF (a5v t.ev k)=fz (hiR (M5 t.ev x)):=(by rw [iv];exact (aU3 hc).1))
   conv=>whnf
   repeat' (first|refine zx ?_|refine f7 gk ?_|refine o6 zt zu ?_|refine .inr ⟨_,_,ai5 (id:=5) hfv rfl rfl l5 r5 de b5 _ _,?_⟩|refine .inr ⟨_,_,ai5 (id:=3) hfv rfl rfl rfl rfl de b3 _ _,?_⟩|apply zD<;>intro h<;>try omega)<;>conv=>whnf
   all_goals try omega
   all_goals try (rw [hci] at h;exact absurd h de)
   refine i7 d9 (fun j=>([J,J,J,J,sP 0 0 0,J,sP 1 0 0,sP 2 0 0,S.c (C.fn (Fn.func b8l) [C.ptr 2 0 0]),eI k,sP 4 0 0]++Jn 23++[S.c (C.t (aK1 t kind)),eI t.ev.moves.length,eI k]++Jn 24++[S.c (C.t (w7 (t8 t.finds kind k))),eI (t8 t.finds kind k).length,eI j]++Jn 20,[a8n,evB t.ev,a8K t.ev.moves.length 3 (G j).length,Z0 (G j),bo8 t kind k])) (t8 t.finds kind k).length tT ρ trivial ⟨rfl,rfl,⟨⟨rfl,rfl,rfl,.inr rz⟩,⟨rfl,rfl,rfl,.inl ⟨rfl,y6 _⟩⟩,⟨rfl,rfl,rfl,.inr ⟨⟨rfl,⟨rfl,rfl,?_,fun h=>h⟩,trivial⟩,trivial⟩⟩,d8 rfl rfl rfl ?_ rfl,⟨rfl,rfl,rfl,.inr (a9l [a6A t kind k])⟩,trivial⟩,⟨rz,rz,rz,rz,rfl,rz,rfl,rfl,rfl,rfl,d7 zq,rz⟩⟩ ?_
   ·simp [hG0,eR,toC]
   ·rw [hG0,eR];first|done|exact r5|rfl
   intro j hj _;have hGl:(G j).length<=1000000:=by rw [hG];simp [lbq];omega
   by_cases hjt:j<(t8 t.finds kind k).length
   ·obtain ⟨g,hg⟩:∃g,(t8 t.finds kind k)[j]? =some g:=⟨_,lbf hjt⟩;have gb:=hgr g (lbm hg);have ig:=W9 g om om;have eG:G (j+1)=G j++[y5 k 0 (g:Rat)]:=by rw [hG,hG,lbH,hg];simp
    conv=>whnf
    repeat' (first|refine zx ?_|refine f7 hg ?_|refine .inr ⟨_,_,ai5 (id:=3) rfl rfl rfl rfl rfl de hGl _ _,?_⟩|apply zD<;>intro h<;>try omega)<;>conv=>whnf
    all_goals try omega
    refine ⟨hjt,trivial,[some 0,some 1,some 2,some 5,some 4],rfl,rfl,⟨⟨rfl,rfl,rfl,.inr rz⟩,⟨rfl,rfl,rfl,.inl ⟨rfl,y6 _⟩⟩,⟨rfl,rfl,rfl,.inr ⟨⟨rfl,⟨rfl,rfl,?_,fun h=>h⟩,trivial⟩,trivial⟩⟩,d8 rfl rfl rfl ?_ rfl,⟨rfl,rfl,rfl,.inr (a9l [a6A t kind k])⟩,trivial⟩,rz⟩
    ·rw [eG];simp
    ·rw [eG]
   have hje:j=(t8 t.finds kind k).length:=om;subst hje;have hGe:G (t8 t.finds kind k).length=R1++(t8 t.finds kind k).map (fun g:Int=>y5 k 0 (g:Rat)):=by rw [hG,lbn (lbS _)]
   conv=>whnf
   repeat' (first|refine zx ?_|apply zD<;>intro h<;>try omega)<;>conv=>whnf
   all_goals try omega
   refine i7 d9 (fun j=>([J,J,J,J,sP 0 0 0,J,sP 1 0 0,sP 2 0 0,S.c (C.fn (Fn.func b8l) [C.ptr 2 0 0]),eI k]++Jn 24++[S.c (C.t (aK1 t kind)),eI t.ev.moves.length,eI k]++Jn 37++[eI (B2 t.cleans kind k),eI j]++Jn 8,[a8n,evB t.ev,a8K t.ev.moves.length 3 (K j).length,Z0 (K j)])) (B2 t.cleans kind k) tT [some 0,some 1,some 2,some 3] trivial ⟨rfl,rfl,⟨⟨rfl,rfl,rfl,.inr rz⟩,⟨rfl,rfl,rfl,.inl ⟨rfl,y6 _⟩⟩,⟨rfl,rfl,rfl,.inr ⟨⟨rfl,⟨rfl,rfl,?_,fun h=>h⟩,trivial⟩,trivial⟩⟩,d8 rfl rfl rfl ?_ rfl,trivial⟩,rz⟩ ?_
   ·rw [hK0,hGe]
   ·rw [hK0,hGe]
   clear hj hjt;intro j hj _;have hKl:(K j).length<=1000000:=by rw [hK];simp [lbq];omega
   by_cases hjt:j<B2 t.cleans kind k
   ·have eK:K (j+1)=K j++[y5 k 2 ((0:Int):Rat)]:=by rw [hK,hK,List.replicate_succ'];simp
    conv=>whnf
    repeat' (first|refine zx ?_|refine .inr ⟨_,_,ai5 (id:=3) rfl rfl rfl rfl rfl de hKl _ _,?_⟩|apply zD<;>intro h<;>try omega)<;>conv=>whnf
    all_goals try omega
    refine ⟨hjt,trivial,[some 0,some 1,some 2,some 4],rfl,rfl,⟨⟨rfl,rfl,rfl,.inr rz⟩,⟨rfl,rfl,rfl,.inl ⟨rfl,y6 _⟩⟩,⟨rfl,rfl,rfl,.inr ⟨⟨rfl,⟨rfl,rfl,?_,fun h=>h⟩,trivial⟩,trivial⟩⟩,d8 rfl rfl rfl ?_ rfl,trivial⟩,rz⟩
    ·rw [eK];simp
    ·rw [eK]
   have hje:j=B2 t.cleans kind k:=om;subst hje;conv=>whnf
   repeat' (first|refine zx ?_|apply zD<;>intro h<;>try omega)<;>conv=>whnf
   all_goals try omega
   exact ⟨hlt,trivial,[some 0,some 1,some 2,some 3],rfl,rfl,⟨⟨rfl,rfl,rfl,.inr rz⟩,⟨rfl,rfl,rfl,.inl ⟨rfl,y6 _⟩⟩,⟨rfl,rfl,rfl,.inr ⟨⟨rfl,⟨rfl,rfl,hKs.2,fun h=>h⟩,trivial⟩,trivial⟩⟩,d8 rfl rfl rfl hKs.1 rfl,trivial⟩,rz⟩
 ·have hke:k=t.ev.moves.length:=by omega
  subst hke;conv=>whnf
  repeat' (first|refine zx ?_|apply zD<;>intro h<;>try omega)<;>conv=>whnf
  all_goals try omega
  exact ⟨[some 3],rfl,rfl,⟨d8 (rows:=(t9 t kind t.ev.moves.length).map w5) rfl rfl rfl rfl rfl,trivial⟩,⟨⟨rfl,⟨rfl,rfl,rfl,fun h=>h⟩,trivial⟩,rz⟩⟩
def u6 {α:Type} {f:α->List T} {l:List α} {x:α} {n:Nat} (h:n=l.length):List.take n (toC (l.map f))++toC [f x]=toC ((l++[x]).map f):=by
 rw [lbn (by simp [toC,h])];simp [toC]
def a0H (l:List (Int × Rat)) (f:Rat):List (Int × Rat):=l.map fun t=>(t.1,t.2*f)
def a3p (l:List (Int × Rat)) (f:Rat) {k:Nat} {t:Int × Rat} (h:l[k]? =some t):(a0H l f).take (k+1)=(a0H l f).take k++[(t.1,t.2*f)]:=by
 rw [lbH]
 congr 1
 unfold a0H;rw [lba,h];rfl
def a2y (l:List (Int × Rat)) (f:Rat):(a0H l f).length=l.length:=by simp [a0H]
def bc2 (l:List (Int × Rat)) (f:Rat) (hf:f≠0) (hr:j9 (-1) 1500 l=true) (hb:∀t ∈ l,rl t.2<=200) (hfb:rl f<=200):
 ec 156 [m8 l,frS (fz f)] [] (m8 (a0H l f)) []:=by
 have hl:=v8 hr;have m1:(l.map k6).length=l.length:=zq;have rt:=S5 l 1500 om hb;rw [lbI om,hr] at rt;have sg:=ah0 f om;have sz:=a6f (x:=f);have hs0:sgR f≠0:=fun h=>hf (sz.1 h)
 (refine ac Tryz.func156 ?_;(conv=>whnf);repeat ((first|refine b0x ?_|refine zy ?_);conv=>whnf))
 repeat' (first|refine zx ?_|apply zD<;>intro h<;>try omega)<;>conv=>whnf
 all_goals try omega
 all_goals try (exfalso;simp_all;done)
 refine i7 d9 (fun k=>([J,J,J,S.c (C.t (T.ptr (t5 (fz f)))),J,S.c (C.own 0 0 k true)]++Jn 12++[m8 l,eI l.length,eI k]++Jn 19,[H4 ((a0H l f).take k)])) l.length tT [none] trivial
  ⟨rfl,rfl,rz,⟨k8 rfl,rz,k8 rfl,d7 om,d7 rfl,trivial⟩⟩ ?_
 intro k hk _;by_cases hlt:k<l.length
 ·obtain ⟨t,ht⟩:∃t,l[k]? =some t:=⟨_,lbf hlt⟩;have bt:=hb t (lbm ht);have mu:=as8 t.2 f om om;have lk:((a0H l f).take k).length=k:=by rw [lbs,a2y];omega
  have lA:k<=(H4 ((a0H l f).take k)).rows.length:=by show k<=(toC _).length;simp [toC,a2y];omega
  conv=>whnf
  repeat' (first|refine zx ?_|refine f7 ht ?_|refine o6 lA zu ?_|refine bl0 [6] ?_|apply zD<;>intro h<;>try omega)<;>conv=>whnf
  all_goals first
   |omega
   |(refine ⟨hlt,trivial,[some 3],rfl,rfl,⟨d8 (rows:=((a0H l f).take (k+1)).map k6) rfl rfl rfl ?_ rfl,trivial⟩,⟨rfl,⟨rfl,rfl,rfl,fun h=>h⟩,rfl,rfl,d7 om,trivial⟩⟩
     rw [a3p l f ht];exact u6 (f:=k6) (x:=(t.1,t.2*f)) lk.symm)
 ·have hke:k=l.length:=by omega
  subst hke;conv=>whnf
  repeat' (first|refine zx ?_|apply zD<;>intro h<;>try omega)<;>conv=>whnf
  all_goals first|omega|exact I4 rfl (fun h=>h) rfl (by rw [lbn (by rw [a2y];exact lbS _)]) (by simp [a2y])
def a0w {n n':Int} (h:n<=n'):∀{last:Int} {l:List (Int × Rat)},j9 last n l=true->j9 last n' l=true
 |_,[],_=>rfl
 |last,a::r,hr=>by
  unfold j9 at hr ⊢;simp only [lbO,lbJ] at hr ⊢;exact ⟨⟨⟨hr.1.1.1,om⟩,hr.1.2⟩,a0w h hr.2⟩
def C4 (l:List (Int × Rat)):List (Int × Rat):=a0H l ((-1:Int):Rat)
def bI5 (l:LI):List (Int × Rat):=l.map fun i=>(i,((1:Int):Rat))
def aa7 (l:List Fr) (h0:0<l.length) (h1:l.length<=100000):ec 224 [p5 l] [] (.c (.own 0 0 l.length true)) [flB l]:=by
 have m1:(l.map t5).length=l.length:=zq;have hl:0<(l.map t5).length:=om;refine ac Tryz.func224 ?_;conv=>whnf
 repeat' (first|refine zx ?_|refine ⟨hl,?_⟩|refine zz ?_|refine a8D rfl (by simp only [toC,lbr,a5n];omega) ?_|refine o6 (J0 _) (by simp only [toC,lbr];omega) ?_|apply zD<;>intro h<;>try omega)<;>conv=>whnf
 all_goals first|omega|exact ⟨[some 0],rfl,rfl,⟨d8 (rows:=l.map t5) rfl rfl rfl rfl rfl,trivial⟩,⟨rfl,rfl,by simp [toC],fun h=>h⟩⟩
def smF (a b:Nat->Rat) (k:Nat):Nat->Rat:=fun j=>if j<k then a j+b j else a j
def a7O {P:Program} {g:FuncId} {args:List S} {H:Hp} {b:Blk} {cs:List C} {s2:S} {j lo len:Nat} {app:Bool} (h:d6 P g args [] (.tup [.agg cs,s2]) [b]) (ha:args.all S.isT=true) (hm:b.mode=.live) (hb:J9 b.rows)
 (hf:aE5 (.tup [.agg cs,s2])=true) (hj:cs[j]? =some (.own 0 lo len app)):a02 P g args H (a73 [H.length] (.tup [.agg cs,s2])) [b]:=by
 refine ⟨h.1,fun w ι M vals hl hv hH hM hf0=>?_⟩;have:=h.2 w (fun _=>none) M vals hl (fun j s hj=>(hv j s hj).tree (lbw.1 ha s (lbm hj)))
  ⟨zq,zq,zq,zq,zq⟩ hM (fun _ _=>rfl)
 refine Calls.mono this ?_;rintro e w' ⟨v,rfl,ι',M',h1,h2,h3,h4,h5⟩;have hnl:∀x,¬a4v (fun _=>none) ([]:Hp) x:=by rintro x ⟨id,k,_,_,hk,_⟩;simp at hk
 obtain ⟨l,hl0⟩:∃l,ι' 0=some l:=by
  cases h1 with
  |tup vs hl hr=>
   have h0:=hr 0 _ rfl;generalize vs.getD 0 undef=v0 at h0;cases h0 with
   |agg us hl hr=>
    have h9:=hr j _ hj;generalize us.getD j undef=v9 at h9;cases h9 with
    |own hi=>exact ⟨_,hi⟩
    |nil hi=>exact ⟨_,hi⟩
 have hnew:C2 ι H.length [b].length (fun _=>l) H.length=some l:=by unfold C2;simp
 have hMM:∀x,a6h M [b].length (fun _=>l) x->M' x:=by
  intro x hx;rcases hx with hx|⟨k,hk,cap,size,he⟩
  ·rcases h5.mold x hx with h|h
   ·exact h
   ·exact absurd h (hnl x)
  ·have he:l=.blk x cap size:=he;subst he;exact h2.liv 0 b rfl hm x cap size hl0
 refine ⟨v,rfl,fun _=>l,?_,⟨h5.os,h5.tape,h5.output,h5.size,fun x hx=>h5.keep x hx (hnl x)⟩,?_,?_,?_⟩
 ·refine RS.keep (w:=w') (ι:=C2 ι H.length [b].length (fun _=>l)) (M:=M') (fun _ _ _=>rfl) (fun x hx=>.inl (hMM x hx)) (fun _ _ h=>h) (RS.ren (σ:=[H.length]) (fun id l' hi=>?_) hf h1);rcases id with _|id
  ·rw [hl0] at hi;injection hi with hi;subst hi;exact hnew
  ·rw [h4 (id+1) zq] at hi;cases hi
 ·intro k blk hk;cases k with
  |succ k=>simp at hk
  |zero=>
   simp at hk;subst hk;refine ⟨hm,?_⟩;have hbr:=h2.blk 0 b rfl (by rw [hm];intro h;cases h) l hl0;cases l with
   |nil=>exact hbr
   |blk x cap size=>
    obtain ⟨r1,r2,r3,r4,r5,cur,r6,r7,r8⟩:=hbr;refine ⟨r1,r2,r3,r4,r5,cur,r6,r7,fun i j c hc=>?_⟩;obtain ⟨u,u1,u2⟩:=r8 i j c hc;exact ⟨u,u1,av4 hMM hb hc u2⟩
 ·intro k x cap size hk he;have he:l=.blk x cap size:=he;subst he;refine ⟨?_,h3 x (h2.liv 0 b rfl hm x cap size hl0)⟩;rcases h5.live x ⟨0,b,cap,size,rfl,hm,hl0⟩ with h|h
  ·exact absurd h (hnl x)
  ·exact h
 ·intro k k' x cap size cap' size' hk hk' _ _;simp at hk hk';omega
structure br3 where
 hh:Int
 state:Int
 w:List Rat
 wo:List Rat
 pr:List Rat
def br3.row (v:br3):List T:=[ti v.hh,ti v.state,z4 (v.w.map fz),z4 (v.wo.map fz),z4 (v.pr.map fz)]
def a9q {x:Rat}:sgR x > 0↔0<x:=by unfold sgR;split<;>(try split)<;>simp_all<;>grind
def b7s {x:Rat}:sgR x<0↔x<0:=by unfold sgR;split<;>(try split)<;>simp_all
def b8Q {s:j2} {g:List (Int × Rat)} {n B:Nat} (h:M8 s g n B):∀v ∈ u9 s g,rl v<=17000:=by
 intro v hv;have hb:=av2 h;have hn:=h.nn;have hB:=h.bb;obtain ⟨j,hj,rfl⟩:=a3h hv;have hp:X8 (i8 s).length s.n.toNat (y8 s g):=O3.p;rw [hn] at hj hp ⊢;rw [← a9p hp hj];have key:∀k,k<=(i8 s).length->rl (ptK n (y8 s g).O (y8 s g).V (fun _=>0) k j)<=17000:=by
  intro k;induction k with
  |zero=>intro _;have:=rl0;show rl 0<=_;omega
  |succ k ih=>
   intro hk;rw [G0];simp only;split
   ·have:=hb.v k om;omega
   ·exact ih om
 exact key _ (lbS _)
def bu8 {s:j2} {g:List (Int × Rat)} {n B:Nat} (h:M8 s g n B) (hout:X7 s g=.best) (hS:∀k,rl (n8 (g.take k) (u9 s g))<=50000) (H:Hp):
 a02 Tryz.prog 141 [S9 s,m8 g] H (.tup [.agg (C.t (ti 0)::frC (fz (n8 g (u9 s g)))++[.t (z4 ((u9 s g).map fz)),.own H.length 0 s.rows.length true,.t (.sl 0 .nil [])]),eI 0]) [flB (rF s.rows.length (V4 s (y8 s g)))]:=
 a7O (j:=6) (lo:=0) (len:=s.rows.length) (app:=true) (aL3 s g n B h hout (fun k=>by have:=hS k;omega) (fun v hv=>by have:=b8Q h v hv;omega)) rfl rfl (e7 _) rfl rfl
def ba9 {s:j2} {g:List (Int × Rat)} {n B B0 c:Nat} (h:M8 s g n B) (h0:M8 s [] n B0) (hout:X7 s g=.col c) (hout0:X7 s []=.best) (H:Hp):
 a02 Tryz.prog 141 [S9 s,m8 g] H (.tup [.agg (C.t (ti 2)::bD6++[.t (z4 ((u9 s []).map fz)),.t (.sl 0 .nil []),.t (z4 ((a1W s g c).map fz))]),eI 0]) []:=
 D7 (aL0 s g n B B0 c h h0 hout hout0) rfl rfl
structure bE3 where
 mv:Int
 mat:Int
def bE3.row (p:bE3):List T:=[ti p.mv,ti p.mat]
theorem ay4 (b:Bg) (hl:b.dl.length<=1000000):d6 Tryz.prog 143 [bgS b,bgS b] [] (j8 true) []:=by
 have l2:(b.dl.map j0).length=b.dl.length:=by simp
 (refine ac Tryz.func143 ?_;(conv=>whnf);repeat ((first|refine b0x ?_|refine zy ?_);conv=>whnf))
 repeat' (first|refine zx ?_|refine zd ?_ ?_<;>intro h<;>try omega|fail)<;>conv=>whnf
 all_goals try omega
 refine i7 d9 (fun k=>([J,J,S.c (C.t (T.ptr [ti b.sg,w7 b.dl])),S.c (C.t (T.ptr [ti b.sg,w7 b.dl])),J,c9 .i64 k]++Jn 32,[])) b.dl.length (fun _=>True) [] trivial
  ⟨rfl,rfl,trivial,⟨rfl,rfl,rfl,trivial⟩⟩ ?_
 intro k hk _
 by_cases hlt:k<b.dl.length
 ·conv=>whnf
  repeat' (first|refine zx ?_|refine f7 (w6 (by omega)) ?_|refine zd ?_ ?_<;>intro h<;>try omega|fail)<;>conv=>whnf
  all_goals first
   |omega
   |exact ⟨hlt,trivial,[],rfl,rfl,trivial,⟨rfl,rfl,rfl,trivial⟩⟩
 ·conv=>whnf
  repeat' (first|refine zx ?_|refine zd ?_ ?_<;>intro h<;>try omega|fail)<;>conv=>whnf
  all_goals first
   |omega
   |exact g9 rfl
def b3s (f:Fr) (lp:f.p.dl.length<=1000000) (lq:f.q.dl.length<=1000000):ec 77 [frS f,frS f] [] (j8 true) []:=by
 have s1:=ay4 f.p lp;have s2:=ay4 f.q lq;refine ac Tryz.func77 ?_;conv=>whnf
 repeat' (first|refine zx ?_|apply zD<;>intro<;>try omega)<;>conv=>whnf
 all_goals first|(exfalso;simp_all;done)|exact g9 rfl
abbrev ir (n:Int):Rat:=((n:Int):Rat)
def bI3 {n:Int} (h:-1000<=n∧n<=1000):rl (ir n)<=1:=by rw [a18];have:=o7 (x:=n) om om;omega
instance:DecidableEq z7:=fun a b=>decidable_of_iff (a.terms=b.terms∧a.kind=b.kind∧a.value=b.value) ⟨fun ⟨h1,h2,h3⟩=>by cases a;cases b;simp_all,fun h=>by subst h;exact ⟨rfl,rfl,rfl⟩⟩
instance:DecidableEq j2:=fun a b=>decidable_of_iff (a.n=b.n∧a.rows=b.rows) ⟨fun ⟨h1,h2⟩=>by cases a;cases b;simp_all,fun h=>by subst h;exact ⟨rfl,rfl⟩⟩
def bz4 {x:Int} (h0:-1000000000000000000<=x) (h1:x<=1000000000000000000):bl x<=3:=N2 (by simp only [pw];omega)
def z5 (l:List (Int × Rat)):Prop:=∀t ∈ l,∃c:Int,t.2=((c:Int):Rat)∧bl c<=1
def a0n {i:Int} {c:Int} (h0:-1048575<=c) (h1:c<=1048575):z5 [(i,((c:Int):Rat))]:=by
 intro t ht;simp at ht;subst ht;exact ⟨c,rfl,o7 h0 h1⟩
def a96 {a b:List (Int × Rat)} (ha:z5 a) (hb:z5 b):z5 (a++b):=by
 intro t ht;rcases lbA.1 ht with h|h
 ·exact ha t h
 ·exact hb t h
def a7d {e:Ev} {p:Int}:∀k,z5 (k9 e p k)
 |0=>by intro t ht;cases ht
 |k+1=>by
  have ih:=a7d (e:=e) (p:=p) k;unfold k9;split
  ·exact ih
  ·split
   ·exact a96 ih (a0n de de)
   ·split
    ·exact a96 ih (a0n de de)
    ·exact ih
def a2u {l:List (Int × Rat)} {z:List Rat} {B:Nat} (h1:∀t ∈ l,rl t.2<=1) (h2:∀v ∈ z,rl v<=B):∀k,rl (n8 (l.take k) z)<=l.length*(B+4)+1:=by
 have key:∀k,k<=l.length->rl (n8 (l.take k) z)<=k*(B+4)+1:=by
  intro k;induction k with
  |zero=>intro _;rw [a9d];have:=rl0;show rl 0<=_;omega
  |succ k ih=>
   intro hk;have ih:=ih om;rw [b8i (show k<l.length by omega),R5];have a1:=h1 l[k] (lbF _);have a2:rl (z.getD l[k].1.toNat 0)<=B+1:=by
    by_cases hz:l[k].1.toNat<z.length
    ·have:=h2 _ (lbm (getD_some hz));omega
    ·rw [lbl,lbd om];have:=rl0;show rl 0<=_;omega
   have a3:=a52 l[k].2 (z.getD l[k].1.toNat 0);have a4:=a3A (n8 (l.take k) z) (l[k].2*z.getD l[k].1.toNat 0);rw [lbW];omega
 intro k;by_cases hk:k<=l.length
 ·have h3:=key k hk;have h4:=lbV (B+4) hk;omega
 ·have h3:=key l.length (lbS _);rw [lbn (lbS _)] at h3;rw [lbn om];exact h3
def D5 {l:List (Int × Rat)} (h:z5 l):∀t ∈ l,rl t.2<=1:=by
 intro t ht;obtain ⟨c,hc,hb⟩:=h t ht;rw [hc,a18];have h1:bl 1<=1:=o7 de de;omega
def b4t {s:j2} {g:List (Int × Rat)} {n B:Nat} (h:M8 s g n B):∀v ∈ u9 s g,rl v<=B:=by
 intro v hv;have hb:=av2 h;have hn:=h.nn;have h1:=h.b1;obtain ⟨j,hj,rfl⟩:=a3h hv;have hp:X8 (i8 s).length s.n.toNat (y8 s g):=O3.p;rw [hn] at hj hp ⊢;rw [← a9p hp hj];have key:∀k,k<=(i8 s).length->rl (ptK n (y8 s g).O (y8 s g).V (fun _=>0) k j)<=B:=by
  intro k;induction k with
  |zero=>intro _;have:=rl0;show rl 0<=_;omega
  |succ k ih=>
   intro hk;rw [G0];simp only;split
   ·exact hb.v k om
   ·exact ih om
 exact key _ (lbS _)
def a0u {l:List (Int × Rat)} (h:z5 l):z5 (C4 l):=by
 intro t ht;obtain ⟨u,hu,rfl⟩:=lby.1 ht;obtain ⟨c,hc,hb⟩:=h u hu;refine ⟨-c,?_,by rw [ah7];exact hb⟩;show u.2*((-1:Int):Rat)=((-c:Int):Rat);rw [hc];have e:((-c:Int):Rat)=-((c:Int):Rat):=by push_cast;rfl
 have e1:((-1:Int):Rat)=-1:=rfl;rw [e,e1];grind
def Y1 {n:Int}:∀{l:List (Int × Rat)} {last:Int},j9 last n l=true->j9 last n (C4 l)=true
 |[],_,_=>rfl
 |a::r,last,h=>by
  unfold j9 at h;show j9 last n ((a.1,a.2*((-1:Int):Rat))::C4 r)=true;unfold j9;simp only [lbO,lbJ] at h ⊢;refine ⟨⟨⟨h.1.1.1,h.1.1.2⟩,fun e=>h.1.2 ?_⟩,Y1 h.2⟩;have e1:((-1:Int):Rat)=-1:=rfl;rw [e1] at e;grind
def a27 (l:List (Int × Rat)):(C4 l).length=l.length:=a2y _ _
def aO3 {s:j2} {g:List (Int × Rat)} (hr:n7 s=true) (hz:X7 s []=.best):X7 s g=.best∨∃c,X7 s g=.col c:=by
 rcases a6P s g with h|⟨r,h⟩|h
 ·exact .inl h
 ·have h1:=(a1A hr rfl hz).1;rw [aM2 h] at h1;cases h1
 ·exact .inr h
def ae0 (v:Rat):Prop:=∃z:Int,((1000:Nat):Rat)*v=((z:Int):Rat)∧z.natAbs<=2305843009213693952
def b5q (w:z7):Prop:=z5 w.terms∧ae0 w.value
def b5d {x:Int} (h0:-1000000000000000<=x) (h1:x<=1000000000000000):ae0 ((x:Int):Rat):=⟨1000*x,by push_cast;rfl,om⟩
def a7T:ae0 0:=⟨0,by show _=(0:Rat);grind,de⟩
def b4v {x:Rat} (h:ae0 x):ae0 (-x):=by
 obtain ⟨z,h1,h2⟩:=h;exact ⟨-z,by push_cast;rw [← h1];grind,by rw [a1T];exact h2⟩
def b7r {cs:List M9} {rs:List F6} {scale reading day:Int} {lo hi:Rat} (h:L9 cs rs scale reading day=some (lo,hi)):ae0 hi:=by
 unfold L9 at h;split at h
 ·cases h
 ·rename_i i hi;obtain ⟨hb,c,hc,_,hcv⟩:=O0 hi;have e:a1V cs i=c:=by unfold a1V;rw [hc];rfl
  rw [e] at h;split at h
  ·cases h
  ·split at h
   ·rename_i hr;injection h with h;injection h with h1 h2;rw [← h2];unfold L8 R6 at hcv;rw [a09] at hr;simp only [lbO,lbJ,a09] at hcv;obtain ⟨⟨⟨⟨⟨⟨⟨h1,h2⟩,h3⟩,_⟩,h4⟩,h5⟩,h6⟩,h7⟩:=hcv;have e1:0<=c.permille*reading:=lb1 om om;have e2:c.permille*reading<=1000*1099511627776:=a7I om om om om;have e3:0<=c.drift*(day - c.since):=lb1 om om;have e4:c.drift*(day - c.since)<=10000000*100000:=a7I om om om om;refine ⟨1000*reading+(c.permille*reading+1000*(c.grams+c.drift*(day - c.since))),?_,om⟩;unfold a3H;have e5:((1000:Nat):Rat)*Rat.divInt (c.permille*reading) 1000=((c.permille*reading:Int):Rat):=by
     rw [a5D];have:((1000:Nat):Rat)=((1000:Int):Rat):=rfl;rw [this];rw [a6b,←a67,ak6 (((1000:Int):Rat)),a67,b1M _ de];grind
    have e6:((1000:Nat):Rat)*((reading:Rat)+(Rat.divInt (c.permille*reading) 1000+((c.grams+c.drift*(day - c.since):Int):Rat)))=((1000:Nat):Rat)*(reading:Rat)+(((1000:Nat):Rat)*Rat.divInt (c.permille*reading) 1000+((1000:Nat):Rat)*((c.grams+c.drift*(day - c.since):Int):Rat)):=zg;rw [e6,e5];push_cast;rfl
   ·cases h
def bz1 {t:j6} {kind:Int} (ht:y7 t=0):∀w ∈ (U8 t kind).rows,b5q w:=by
 classical
 obtain ⟨q1,q2,q3,q4,q5⟩:=v3 ht;have key:(t9 t kind t.ev.moves.length).all (fun w=>decide (b5q w))=true:=(a1K _ (lbS _)).2 fun i x hi hx=>by
  rw [lbw];intro w hw;refine lbI ?_;unfold R8 at hw;rw [lbA,lbA,lbA] at hw;rcases hw with ((hw|hw)|hw)|hw
  ·split at hw
   ·cases hw
   ·simp at hw;subst hw;exact ⟨a96 (a7d _) (a0n de de),a7T⟩
  ·unfold a0P at hw;split at hw
   ·cases hw
   ·rename_i lo hi' hiv;simp at hw;subst hw;refine ⟨a0n de de,?_⟩;unfold M5 at hiv;split at hiv
    ·cases hiv
    ·exact b7r hiv
  ·obtain ⟨g,hg,rfl⟩:=lby.1 hw;unfold t8 at hg;obtain ⟨f,hf',rfl⟩:=lby.1 hg;have:=I0 q4 f (lbz.1 hf').1;exact ⟨a0n de de,b5d om om⟩
  ·rw [an5] at hw;rw [hw.2];exact ⟨a0n de de,a7T⟩
 intro w hw;exact lbM (lbw.1 key w hw)
def a4W {c:Int} (h:bl c<=1):c.natAbs<=1048575:=by
 have h1:=Q4 c.natAbs;have h2:(dg c.natAbs).length<=1:=h;have h3:pw (dg c.natAbs).length<=pw 1:=by
  have:(dg c.natAbs).length=0∨(dg c.natAbs).length=1:=om;rcases this with h|h<;>rw [h]
  ·decide
  ·exact ab0 _
 have h4:pw 1=1048576:=de;omega
def aR7 {b:Bool} {x:Rat} {c:Int} (h:x=((c:Int):Rat)):∃c':Int,S0 b x=((c':Int):Rat)∧c'.natAbs=c.natAbs:=by
 cases b with
 |false=>exact ⟨c,h,rfl⟩
 |true=>exact ⟨-c,by show -x=_;rw [h];push_cast;rfl,a1T c⟩
def a8O {s:j2} {g:List (Int × Rat)}:W0 (i8 s).length s.n.toNat (j5 s g):=⟨fun _ _=>rfl,fun _ _=>rfl⟩
def b4P {s:j2} {g:List (Int × Rat)} (hI:∀w ∈ s.rows,b5q w) (hg:z5 g):ax9 (i8 s).length s.n.toNat 1000 2305843009213693952 1048575 1048575 (j5 s g) (fun j=>-(A7 g j)) where
 k:=de
 v:=fun i hi=>by
  obtain ⟨f,hf⟩:∃f,(i8 s)[i]? =some f:=⟨_,lbf hi⟩;obtain ⟨x,hx,_⟩:=Q1.1 (lbm hf);have h2:=(hI x (lbm hx)).2;have hfd:(i8 s).getD i (0,false)=f:=by rw [lbl,hf];rfl
  have eV:(j5 s g).V i=S0 f.2 x.value:=by show a3k s ((i8 s).getD i (0,false))=_;rw [hfd];unfold a3k;rw [hx]
  rw [eV];cases f.2 with
  |false=>exact h2
  |true=>exact b4v h2
 a:=fun i j hi hj=>by
  obtain ⟨f,hf⟩:∃f,(i8 s)[i]? =some f:=⟨_,lbf hi⟩;obtain ⟨x,hx,_⟩:=Q1.1 (lbm hf);have h1:=(hI x (lbm hx)).1;have hfd:(i8 s).getD i (0,false)=f:=by rw [lbl,hf];rfl
  have eA:(j5 s g).A i j=S0 f.2 (A7 x.terms j):=by show a23 s ((i8 s).getD i (0,false)) j=_;rw [hfd];unfold a23;rw [hx]
  rw [eA];obtain ⟨c,hc,hb⟩:=a1D h1 x.terms.length j;obtain ⟨c',hc',hb'⟩:=aR7 (b:=f.2) (x:=A7 x.terms j) hc;exact ⟨c',hc',by rw [hb'];exact a4W hb⟩
 g:=fun j hj=>by
  obtain ⟨c,hc,hb⟩:=a1D hg g.length j;exact ⟨-c,by rw [show A7 g j=((c:Int):Rat) from hc];push_cast;rfl,by rw [a1T];exact a4W hb⟩
 a1:=de
 ag:=de
def b4X:∀n,n<10->((a4t (n+1) fun c=>if c=0 then 2305843009213693952 else 1048575:Nat):Int)<pw 15∧((a4t n fun _=>1048575:Nat):Int)<pw 15∧((1000*a4t n fun _=>1048575:Nat):Int)<pw 15:=by decide +kernel
structure I8 (s:j2):Prop where
 r:n7 s=true
 i:∀w ∈ s.rows,b5q w
 n:s.n<=9
 l:s.rows.length<=999
def b67 {s:j2} {g:List (Int × Rat)} (h:I8 s) (hg:z5 g):∀D,N0 (i8 s).length s.n.toNat (j5 s g) D->BdD (i8 s).length s.n.toNat 15 D:=by
 intro D hD;have hn:=L3 h.r;have:=h.n;obtain ⟨p1,p2,p3⟩:=b4X s.n.toNat om;obtain ⟨b1,b2,b3⟩:=av0 a8O (b4P h.i hg) U0 hD p1 p2 p3 p2;exact ⟨b1,fun i hi j hj=>b2 i j hi hj,b3⟩
def scT (d:Int) (l:List (Int × Rat)):List (Int × Rat):=l.map fun t=>(t.1,((d:Int):Rat)*t.2)
def P4 (w:z7):z7:=⟨scT (w.value.den:Int) w.terms,w.kind,((w.value.num:Int):Rat)⟩
def j1 (s:j2):j2:=⟨s.n,s.rows.map P4⟩
def az4 {d:Int} (hd:0<d):∀{last n:Int} {l:List (Int × Rat)},j9 last n (scT d l)=j9 last n l
 |_,_,[]=>rfl
 |last,n,a::r=>by
  have hq:((d:Int):Rat)≠0:=by intro h;have:d=0:=by exact_mod_cast h
                              omega
  show (decide (last<a.1) && decide (a.1<n) && decide (((d:Int):Rat)*a.2≠0) && j9 a.1 n (scT d r))=(decide (last<a.1) && decide (a.1<n) && decide (a.2≠0) && j9 a.1 n r);rw [az4 hd]
  congr 2
  by_cases h:a.2=0
  ·rw [h];have:((d:Int):Rat)*0=0:=by grind
   simp [this]
  ·have:((d:Int):Rat)*a.2≠0:=fun e=>by rcases as0.1 e with e|e<;>contradiction
   simp [h,this]
def a0Z (x:Rat):(0:Int)<(x.den:Int):=by have:=x.den_pos;omega
def b0b (n:Int) (w:z7):v6 n (P4 w)=v6 n w:=by
 unfold v6;show (j9 (-1) n (scT _ w.terms) && _ && _)=_;rw [az4 (a0Z _)];rfl
def a5T (s:j2):n7 (j1 s)=n7 s:=by
 unfold n7 j1;simp only [lbr,List.all_map];have e:(v6 s.n ∘ P4)=v6 s.n:=by funext w;exact b0b s.n w
 rw [e]
def b3M {d:Int} (z:List Rat) (l:List (Int × Rat)):n8 (scT d l) z=((d:Int):Rat)*n8 l z:=by
 have key:∀k,k<=l.length->n8 ((scT d l).take k) z=((d:Int):Rat)*n8 (l.take k) z:=by
  intro k;induction k with
  |zero=>intro _;show ((0:Int):Rat)=_*((0:Int):Rat);have:((0:Int):Rat)=0:=rfl
         rw [this];grind
  |succ k ih=>
   intro hk;obtain ⟨t,ht⟩:∃t,l[k]? =some t:=⟨_,lbf om⟩;have ht2:(scT d l)[k]? =some (t.1,((d:Int):Rat)*t.2):=by unfold scT;rw [lba,ht];rfl
   rw [a7u ht,a7u ht2,R5,R5,ih om];grind
 have h:=key l.length (lbS _);rw [a7V,lbn (by simp [scT])] at h;exact h
def b5X {w:z7} {z:List Rat}:((P4 w).kind≠1->(P4 w).value<=n8 (P4 w).terms z)∧((P4 w).kind≠0->n8 (P4 w).terms z<=(P4 w).value)↔(w.kind≠1->w.value<=n8 w.terms z)∧(w.kind≠0->n8 w.terms z<=w.value):=by
 have hd:(0:Rat)<(((w.value.den:Int):Int):Rat):=by exact_mod_cast a0Z w.value
 have e1:(P4 w).value=(((w.value.den:Int):Int):Rat)*w.value:=(b3k w.value).symm;have e2:n8 (P4 w).terms z=(((w.value.den:Int):Int):Rat)*n8 w.terms z:=b3M z w.terms;have k:(P4 w).kind=w.kind:=rfl;rw [k,e1,e2];have m1:∀x y:Rat,(((w.value.den:Int):Int):Rat)*x<=(((w.value.den:Int):Int):Rat)*y↔x<=y:=fun x y=>by
  constructor
  ·intro h;apply a2R;intro hn;have:0<x - y:=zg;have:=lb3 hd this;grind
  ·intro h;exact Rat.mul_le_mul_of_nonneg_left h zg
 rw [m1,m1]
theorem sc_holds (s:j2) (z:List Rat):m9 (j1 s) z=true↔m9 s z=true:=by
 rw [Y3,Y3,a5T];have e:(∀ w ∈ (j1 s).rows,(w.kind≠1->w.value<=n8 w.terms z)∧(w.kind≠0->n8 w.terms z<=w.value))↔∀w ∈ s.rows,(w.kind≠1->w.value<=n8 w.terms z)∧(w.kind≠0->n8 w.terms z<=w.value):=by
  constructor
  ·intro h w hw;exact b5X.1 (h (P4 w) (List.mem_map_of_mem hw))
  ·intro h w hw;obtain ⟨w0,hw0,rfl⟩:=lby.1 hw;exact b5X.2 (h w0 hw0)
 rw [e];rfl
def ao7 {s:j2} {i:Nat} {w:z7} (h:s.rows[i]? =some w):(j1 s).rows[i]? =some (P4 w):=by
 show (s.rows.map P4)[i]? =_;rw [lba,h];rfl
def b8I {s:j2} {w:z7} (h:w ∈ (j1 s).rows):∃w0 ∈ s.rows,w=P4 w0:=by
 obtain ⟨w0,h1,rfl⟩:=lby.1 h;exact ⟨w0,h1,rfl⟩
def a3R {v:Rat} (h:ae0 v):(v.den:Int)<=1000∧v.num.natAbs<=2305843009213693952:=by
 obtain ⟨z,h1,h2⟩:=h;have hd:=a0Z v;have hm:=b3k v;have e:1000*v.num=z*(v.den:Int):=by
  have:(((1000*v.num:Int):Int):Rat)=((z*(v.den:Int):Int):Rat):=by
   push_cast;rw [← h1];have hm2:((v.num:Int):Rat)=(((v.den:Int):Int):Rat)*v:=hm.symm;rw [hm2];have:((1000:Nat):Rat)=1000:=rfl;rw [this];push_cast;grind
  exact_mod_cast this
 have hdv:(v.den:Int) ∣ 1000*v.num:=⟨z,by rw [e,a78]⟩;have hcop:Int.gcd (v.den:Int) v.num=1:=by
  have:=v.reduced;rw [Int.gcd_comm];exact this
 have hd1000:(v.den:Int) ∣ 1000:=by
  have h1:v.den ∣ 1000*v.num.natAbs:=by
   have:=Int.natAbs_dvd_natAbs.2 hdv;rwa [a2F] at this
  have h2:Nat.Coprime v.den v.num.natAbs:=by
   have:=v.reduced;exact this.symm
  have h3:v.den ∣ 1000:=h2.dvd_of_dvd_mul_right h1;exact Int.natCast_dvd_natCast.2 h3
 have hle:=Int.le_of_dvd de hd1000;refine ⟨hle,?_⟩;have e2:1000*v.num.natAbs=z.natAbs*v.den:=by
  have:=congrArg Int.natAbs e;rw [a2F,a2F] at this;exact this
 have:z.natAbs*v.den<=2305843009213693952*1000:=lbU h2 om;omega
def b8A {s:j2} {g:List (Int × Rat)} (hI:∀w ∈ s.rows,b5q w) (hg:z5 g):ax9 (i8 (j1 s)).length (j1 s).n.toNat 1 2305843009213693952 1048575000 1048575000 (j5 (j1 s) g) (fun j=>-(A7 g j)) where
 k:=de
 v:=fun i hi=>by
  obtain ⟨f,hf⟩:∃f,(i8 (j1 s))[i]? =some f:=⟨_,lbf hi⟩;obtain ⟨x,hx,_⟩:=Q1.1 (lbm hf);obtain ⟨x0,hx0,rfl⟩:=b8I (lbm hx);have h2:=(a3R (hI x0 hx0).2).2;have hfd:(i8 (j1 s)).getD i (0,false)=f:=by rw [lbl,hf];rfl
  have eV:(j5 (j1 s) g).V i=S0 f.2 (P4 x0).value:=by show a3k (j1 s) ((i8 (j1 s)).getD i (0,false))=_;rw [hfd];unfold a3k;rw [hx]
  rw [eV];obtain ⟨c',hc',hb'⟩:=aR7 (b:=f.2) (x:=(P4 x0).value) (c:=x0.value.num) rfl;exact ⟨c',by rw [hc'];show (1:Rat)*_=_;grind,by rw [hb'];exact h2⟩
 a:=fun i j hi hj=>by
  obtain ⟨f,hf⟩:∃f,(i8 (j1 s))[i]? =some f:=⟨_,lbf hi⟩;obtain ⟨x,hx,_⟩:=Q1.1 (lbm hf);obtain ⟨x0,hx0,rfl⟩:=b8I (lbm hx);have h1:=(hI x0 hx0).1;have h2:=(a3R (hI x0 hx0).2).1;have h3:=a0Z x0.value;have hfd:(i8 (j1 s)).getD i (0,false)=f:=by rw [lbl,hf];rfl
  have eA:(j5 (j1 s) g).A i j=S0 f.2 (A7 (P4 x0).terms j):=by show a23 (j1 s) ((i8 (j1 s)).getD i (0,false)) j=_;rw [hfd];unfold a23;simp only [hx]
  rw [eA];have key:∀k,∃c:Int,L0 (scT (x0.value.den:Int) x0.terms) k j=((c:Int):Rat)∧c.natAbs<=1048575000:=by
   intro k;induction k with
   |zero=>exact ⟨0,rfl,de⟩
   |succ k ih=>
    cases hk:x0.terms[k]? with
    |none=>rw [L0,show (scT (x0.value.den:Int) x0.terms)[k]? =none by unfold scT;rw [lba,hk];rfl];exact ih
    |some t=>
     rw [I1 (t:=(t.1,(((x0.value.den:Int):Int):Rat)*t.2)) (by unfold scT;rw [lba,hk];rfl)];simp only;split
     ·obtain ⟨c,hc,hb⟩:=h1 t (lbm hk);refine ⟨(x0.value.den:Int)*c,by rw [hc];push_cast;rfl,?_⟩;rw [a2F];have:=a4W hb
      calc (x0.value.den:Int).natAbs*c.natAbs<=1000*1048575:=lbU om this
       _=1048575000:=rfl
     ·exact ih
  obtain ⟨c,hc,hb⟩:=key (P4 x0).terms.length;obtain ⟨c',hc',hb'⟩:=aR7 (b:=f.2) (x:=A7 (P4 x0).terms j) hc;exact ⟨c',hc',by rw [hb'];exact hb⟩
 g:=fun j hj=>by
  obtain ⟨c,hc,hb⟩:=a1D hg g.length j;exact ⟨-c,by rw [show A7 g j=((c:Int):Rat) from hc];push_cast;rfl,by rw [a1T];have:=a4W hb;omega⟩
 a1:=de
 ag:=de
structure ZB (m n b:Nat) (Z:Zd):Prop where
 v:∀i,i<m->bl (Z.V i)<=b
 a:∀i,i<m->∀j,j<n->bl (Z.A i j)<=b
 c:∀j,j<n->bl (Z.C j)<=b
 d:bl Z.D<=b
def bp2 {m n BV BA BG b:Nat} {D0 D:Fd} {g0:Nat->Rat} (h0:W0 m n D0) (h:ax9 m n 1 BV BA BG D0 g0) (hv:a4J m n D0 g0 D0) (hD:N0 m n D0 D)
 (b1:((a4t (n+1) fun c=>if c=0 then BV else BA:Nat):Int)<pw b) (b2:((a4t n fun _=>BG:Nat):Int)<pw b) (b4:((a4t n fun _=>BA:Nat):Int)<pw b):
 (∃ q,a8z m n D0 D q)∧ZB m n b (Y2 m n D0 D):=by
 have hex:=bw4 h0 h hv hD;refine ⟨hex,?_⟩;obtain ⟨hd,hr⟩:=a6V hex;obtain ⟨k,hk⟩:=hD;have hi:=a0t hv hk;obtain ⟨d,hdd,hdb⟩:=aJ9 h (D:=D) hi.p.fb;have hq:(Y2 m n D0 D).D=d∨(Y2 m n D0 D).D=-d:=by
  rcases hd.det with e|e
  ·left;rw [e] at hdd;exact_mod_cast hdd
  ·right
   rw [e] at hdd;have:(((-(Y2 m n D0 D).D:Int):Int):Rat)=((d:Int):Rat):=by push_cast;exact hdd
   have:-(Y2 m n D0 D).D=d:=by exact_mod_cast this
   omega
 have ent:∀(z p:Int) (x:Rat),((z:Int):Rat)=(((Y2 m n D0 D).D:Int):Rat)*x->((p:Int):Rat)=x*((d:Int):Rat)->z.natAbs=p.natAbs:=by
  intro z p x hz hp;rcases hq with e|e
  ·have:((z:Int):Rat)=((p:Int):Rat):=by rw [hz,hp,e];grind
   have:z=p:=by exact_mod_cast this
   rw [this]
  ·have:((z:Int):Rat)=(((-p:Int):Int):Rat):=by push_cast;rw [hz,hp,e];push_cast;grind
   have:z=-p:=by exact_mod_cast this
   rw [this,a1T]
 refine ⟨fun i him=>?_,fun i him j hj=>?_,fun j hj=>?_,?_⟩
 ·obtain ⟨p,hp,hpb⟩:=al0 h (D:=D) hi.p.fb (hi.p.ob i him);rw [b6O h0 hi.i him,hdd] at hp;have e:=ent _ p _ (hr.v i him) (by rw [← hp,show ((1:Nat):Rat)=1 from rfl];grind);exact a2q (by rw [e];exact hpb) b1
 ·obtain ⟨p,hp,hpb⟩:=a3S h (D:=D) hi.p.fb (lbS _) (u:=uV n D0 (D.O i)) (fun l hl=>a9D h (hi.p.ob i him) hl) j;rw [b2Z h0 hi.i him hj,hdd] at hp;have e:=ent _ (-p) _ (hr.a i him j hj) (by push_cast;rw [← hp];grind);exact a2q (by rw [e,a1T];exact hpb) b4
 ·obtain ⟨z,hz⟩:=hi.g;obtain ⟨p,hp,hpb⟩:=a3S h (D:=D) hi.p.fb h.ag (u:=uG g0) (fun l hl=>h.g l hl) j;rw [b6o h0 hi.i hz hj,hdd] at hp;have e:=ent _ p _ (hr.c j hj) hp.symm;exact a2q (by rw [e];exact hpb) b2
 ·have:(Y2 m n D0 D).D.natAbs=d.natAbs:=by rcases hq with e|e<;>rw [e];rw [a1T]
  exact a2q (by rw [this];exact hdb) b4
def ay8:∀n,n<10->((a4t (n+1) fun c=>if c=0 then 2305843009213693952 else 1048575000:Nat):Int)<pw 25∧((a4t n fun _=>1048575000:Nat):Int)<pw 25:=by decide +kernel
def aV0 {s:j2} {g:List (Int × Rat)} (h:I8 s) (hg:z5 g) {D:Fd} (hD:N0 (i8 (j1 s)).length (j1 s).n.toNat (j5 (j1 s) g) D):
 (∃ q,a8z (i8 (j1 s)).length (j1 s).n.toNat (j5 (j1 s) g) D q)∧ZB (i8 (j1 s)).length (j1 s).n.toNat 25 (Y2 (i8 (j1 s)).length (j1 s).n.toNat (j5 (j1 s) g) D):=by
 have hn:=L3 h.r;have:=h.n;obtain ⟨p1,p2⟩:=ay8 (j1 s).n.toNat (by show s.n.toNat<10;omega);exact bp2 a8O (b8A h.i hg) U0 hD p1 p2 p2
def b16 {s:j2} {g:List (Int × Rat)} (h:I8 s) (hg:z5 g):(Y2 (i8 (j1 s)).length (j1 s).n.toNat (j5 (j1 s) g) (j5 (j1 s) g)).D=1:=by
 obtain ⟨⟨q,hq⟩,_⟩:=aV0 h hg (g:=g) a7A;have hd:=(a6V ⟨q,hq⟩).1;have h1:=aB5 (n:=(j1 s).n.toNat) (a8O (s:=j1 s) (g:=g));rcases hd.det with e|e
 ·rw [h1] at e;have e2:((1:Int):Rat)=(((Y2 (i8 (j1 s)).length (j1 s).n.toNat (j5 (j1 s) g) (j5 (j1 s) g)).D:Int):Rat):=e;exact (by exact_mod_cast e2:(1:Int)=_).symm
 ·rw [h1] at e;have hp:=hd.pos;have e2:((1:Int):Rat)=(((-(Y2 (i8 (j1 s)).length (j1 s).n.toNat (j5 (j1 s) g) (j5 (j1 s) g)).D:Int):Int):Rat):=by push_cast;exact e
  have:(1:Int)=-(Y2 (i8 (j1 s)).length (j1 s).n.toNat (j5 (j1 s) g) (j5 (j1 s) g)).D:=by exact_mod_cast e2
  omega
section
open Go.RowKit
def V5 (z:Int):List T:=[ti (bz z).sg,w7 (bz z).dl]
def zF (n:Nat) (g:Nat->Int):LI:=(List.range n).map g
def mZ (m n:Nat) (A:Nat->Nat->Int):List LI:=(List.range m).map fun i=>zF n (A i)
def D3 (n:Nat) (g:Nat->Int):(zF n g).length=n:=by simp [zF]
def e8 (m n:Nat) (A:Nat->Nat->Int):(mZ m n A).length=m:=by simp [mZ]
def Q2 {n:Nat} {g:Nat->Int} {j:Nat} (h:j<n):(zF n g)[j]? =some (g j):=by simp [zF,h]
def Z6 {m n:Nat} {A:Nat->Nat->Int} {i:Nat} (h:i<m):(mZ m n A)[i]? =some (zF n (A i)):=by simp [mZ,h]
def bq7 {n:Nat} {g:Nat->Int} {s:Nat} {v:Int} (h:s<n):(zF n g).set s v=zF n (fun j=>if j=s then v else g j):=by
 apply a05;intro j;by_cases hj:j<n
 ·rw [Q2 hj,lbg,D3];by_cases hjm:s=j
  ·subst hjm;simp [h]
  ·rw [if_neg hjm,Q2 hj,if_neg om]
 ·rw [lbd (by simp [D3];omega),lbd (by simp [D3];omega)]
def a2U {n:Nat} {g h:Nat->Int} (e:∀j,j<n->g j=h j):zF n g=zF n h:=lbp fun j hj=>e j (lbC.1 hj)
def a8s {m n:Nat} {A B:Nat->Nat->Int} (e:∀i,i<m->∀j,j<n->A i j=B i j):mZ m n A=mZ m n B:=lbp fun i hi=>a2U (e i (lbC.1 hi))
def b1s {m n:Nat} {A:Nat->Nat->Int} {r:Nat} {g:Nat->Int} (h:r<m):(mZ m n A).set r (zF n g)=mZ m n (fun i=>if i=r then g else A i):=by
 apply a05;intro j;by_cases hj:j<m
 ·rw [Z6 hj,lbg,e8];by_cases hjm:r=j
  ·subst hjm;simp [h]
  ·rw [if_neg hjm,Z6 hj,if_neg om]
 ·rw [lbd (by simp [e8];omega),lbd (by simp [e8];omega)]
def b3J {m n r:Nat} {A B:Nat->Nat->Int} {g:Nat->Int} (h:r<m) (e:(fun i=>if i=r then g else A i)=B):(mZ m n A).set r (zF n g)=mZ m n B:=by rw [b1s h,e]
abbrev zlB (l:LI):Blk:={ mode:=.live,elem:=84,size:=2,rows:=toC (l.map V5),box:=false }
def b9w {row:LI} {i n:Nat} {y:Int} (h:n=i):t4 (zlB row) ((toC (row.map V5)).set n (bgC (bz y)))=zlB (row.set i y):=by
 subst h;unfold t4;simp [toC,a1R,V5]
def hdR (b m n:Nat):List (List C):=(List.range m).map fun i=>[C.own (i+b) 0 n true]
def z9 (b m n:Nat):(hdR b m n).length=m:=by simp [hdR]
def a8j {b m n i:Nat} (h:i<m):(hdR b m n)[i]? =some [C.own (i+b) 0 n true]:=by simp [hdR,h]
abbrev hdB (b m n:Nat):Blk:={ mode:=.live,elem:=271,size:=1,rows:=hdR b m n,box:=false }
def frI (l:LB):LI:=l.map fun f=>(f.1:Int)
def sg1 (b:Bool):Int:=if b then -1 else 1
def T3 (l:LB):LI:=l.map fun f=>sg1 f.2
abbrev bt1 (m n q:Nat) (D:Int):Blk:={ mode:=.live,elem:=274,size:=12,rows:=[[C.own 1 0 m true,.own 2 0 m true,.own 3 0 n true,.t (ti (bz D).sg),.t (w7 (bz D).dl),.own 4 0 m true,.own 5 0 q true,.own 6 0 m true,.own 7 0 m true,.own 8 0 m true,.t (ti (bz 1).sg),.t (w7 (bz 1).dl)]],box:=true }
abbrev G7 (m n q:Nat) (fr:LB) (sc:LI) (D:Int) (V G:Nat->Int) (O F:Nat->Nat) (A:Nat->Nat->Int) (T:Hp):Hp:=
 bt1 m n q D::zlB (zF m V)::hdB 9 m n::zlB (zF n G)::R3 m O::R3 q F::o8 (frI fr)::o8 (T3 fr)::zlB sc::((mZ m n A).map zlB++T)
abbrev K2 (m n:Nat) (fr:LB) (sc:LI) (Z:Zd) (T:Hp):Hp:=G7 m n n fr sc Z.D Z.V Z.C Z.O Z.F Z.A T
def I9 {b0 b1 b2 b3 b4 b5 b6 b7 b8 c0 c1 c2 c3 c4 c5 c6 c7 c8:Blk} {L L':Hp} (h0:b0=c0) (h1:b1=c1) (h2:b2=c2) (h3:b3=c3) (h4:b4=c4) (h5:b5=c5) (h6:b6=c6) (h7:b7=c7) (h8:b8=c8) (h9:L=L'):
 b0::b1::b2::b3::b4::b5::b6::b7::b8::L=c0::c1::c2::c3::c4::c5::c6::c7::c8::L':=by
 subst h0 h1 h2 h3 h4 h5 h6 h7 h8 h9;rfl
section
variable {m n q N:Nat} {fr:List (Nat × Bool)} {sc:List Int} {D:Int} {V G:Nat->Int} {O F:Nat->Nat} {A:Nat->Nat->Int} {T T':Hp}
def a43:G7 m n q fr sc D V G O F A (T++T')=G7 m n q fr sc D V G O F A T++T':=by
 show _::_::_::_::_::_::_::_::_::(_++(T++T'))=_::_::_::_::_::_::_::_::_::((_++T)++T');rw [lbE]
def W5:(G7 m n q fr sc D V G O F A T).length=m+9+T.length:=by simp [e8];omega
def bm7 {b:Nat} (h:m+b<=N):okB N (hdB b m n):=by
 intro r hr c hc;obtain ⟨i,hi,rfl⟩:=lby.1 hr;have:=lbC.1 hi;simp at hc;subst hc;show i+b<N;omega
def b9N (h:9<=N):okB N (bt1 m n q D):=by
 intro r hr c hc;simp at hr;subst hr;simp at hc;rcases hc with rfl|rfl|rfl|rfl|rfl|rfl|rfl|rfl|rfl|rfl|rfl|rfl<;>first|trivial|(simp only;omega)
def a4H (h:m+9<=N) (hT:∀k ∈ T,okB N k):∀k ∈ G7 m n q fr sc D V G O F A T,okB N k:=by
 intro k hk;simp only [lbB,lbA] at hk;rcases hk with rfl|rfl|rfl|rfl|rfl|rfl|rfl|rfl|rfl|hk|hk
 ·exact b9N om
 ·exact t7 rfl
 ·exact bm7 h
 ·exact t7 rfl
 ·exact t7 rfl
 ·exact t7 rfl
 ·exact t7 rfl
 ·exact t7 rfl
 ·exact t7 rfl
 ·obtain ⟨l,_,rfl⟩:=lby.1 hk;exact t7 rfl
 ·exact hT k hk
theorem a19:∀k ∈ G7 m n q fr sc D V G O F A [],k.mode=.live∧k.app=false:=by
 intro k hk
 simp only [lbB,Y7] at hk
 rcases hk with rfl|rfl|rfl|rfl|rfl|rfl|rfl|rfl|rfl|hk
 all_goals first|exact ⟨rfl,rfl⟩|skip
 obtain ⟨l,_,rfl⟩:=lby.1 hk
 exact ⟨rfl,rfl⟩
def p4 {n0:Nat} {H:Hp} {env env':Env} (hH:H=G7 m n q fr sc D V G O F A (T++T')) (hN:m+9+T.length=N) (h0:n0<=N) (hT:∀k ∈ T,okB N k) (hE:Z1 (idR N) H env env'):Ent n0 (idR N) env H env' (G7 m n q fr sc D V G O F A T):=by
 refine a6E (by rw [W5];exact hN) h0 (a4H om hT) (fun i hi=>?_) hE;rw [hH,a43,lbb (by rw [W5];omega)]
def a5B {n0:Nat} {H:Hp} {r s:S} (hH:H=G7 m n q fr sc D V G O F A T) (hN:m+9=N) (h0:n0<=N) (hE:a9K (idR N) H r s):Fin n0 r H s (G7 m n q fr sc D V G O F A []):=by
 refine a6Z (by rw [W5];exact hN) h0 (a4H om zq) (fun i hi=>?_) hE;have e:G7 m n q fr sc D V G O F A T=G7 m n q fr sc D V G O F A []++T:=a43 (T:=[]) (T':=T);rw [hH,e,lbb (by rw [W5];simp;omega)]
end
def a6M {m n:Nat} {fr:LB} {sc:LI} {Z Z':Zd} {T:Hp} (h:b86 m n Z Z'):K2 m n fr sc Z T=K2 m n fr sc Z' T:=by
 refine I9 (by rw [h.d]) (by rw [a2U h.v]) rfl (by rw [a2U h.c]) (by rw [h.o]) (by rw [h.f]) rfl rfl rfl (by rw [a8s h.a])
def aE4 {g:FuncId} {args:List S} {r:S} {m n:Nat} {fr:LB} {sc:LI} {Z Z':Zd} (T:Hp) (h:ec g args (K2 m n fr sc Z []) r (K2 m n fr sc Z' [])) (hok:args.all (okS (m+9))=true) (hr:aE5 r=true) (hr':r.isT=true):
 ec g args (K2 m n fr sc Z T) r (K2 m n fr sc Z' T):=by
 have e:∀Z:Zd,K2 m n fr sc Z T=K2 m n fr sc Z []++T:=fun Z=>a43 (T:=[]) (T':=T)
 rw [e,e];exact a3i (n:=m+9) T h W5 W5 hok (fun k hk=>⟨(a19 k hk).1,(a19 k hk).2,a4H (lbS _) zq k hk⟩) (fun k hk=>⟨(by rw [(a19 k hk).1];intro h;cases h),a4H (lbS _) zq k hk⟩) hr hr'
def a26 {l:LI} {i:Nat} {x:Int} {K:List C->Prop} (h:l[i]? =some x) (k:K (bgC (bz x))):∃row,(toC (l.map V5))[i]? =some row∧K row:=
 ⟨_,by simp [toC,h,V5],k⟩
def bk4 {n i r:Nat} {g:Nat->Int} {K:List C->Prop} (e:i=r) (h:r<n) (k:K (bgC (bz (g r)))):∃row,(toC ((zF n g).map V5))[i]? =some row∧K row:=by
 subst e;exact a26 (Q2 h) k
def ae4 {b m n i r:Nat} {K:List C->Prop} (e:i=r) (h:r<m) (k:K [C.own (r+b) 0 n true]):∃row,(hdR b m n)[i]? =some row∧K row:=by
 subst e;exact ⟨_,a8j h,k⟩
def au6 (m n:Nat) (A:Nat->Nat->Int):List (List T):=(mZ m n A).map fun l=>[T.sl 2 .any (l.map V5)]
def aB3 (m n:Nat) (A:Nat->Nat->Int):(au6 m n A).length=m:=by simp [au6,e8]
def aD2 {m n:Nat} {A:Nat->Nat->Int} {i:Nat} (h:i<m):(au6 m n A)[i]? =some [T.sl 2 .any ((zF n (A i)).map V5)]:=by simp [au6,Z6 h]
def bh4 (m n:Nat) (fr:LB) (sc:LI) (Z:Zd):List T:=
 [.sl 2 .any ((zF m Z.V).map V5),.sl 1 .any (au6 m n Z.A),.sl 2 .any ((zF n Z.C).map V5),ti (bz Z.D).sg,w7 (bz Z.D).dl,.sl 1 .any (X6 m Z.O),.sl 1 .any (X6 n Z.F),w7 (frI fr),w7 (T3 fr),.sl 2 .any (sc.map V5),ti (bz 1).sg,w7 (bz 1).dl]
abbrev jT (m n:Nat) (fr:LB) (sc:LI) (Z:Zd):S:=.c (.t (.ptr (bh4 m n fr sc Z)))
def bC9 {m n:Nat} {fr:LB} {sc:LI} {Z:Zd} {X:Hp} {p:Nat->Prop} (hp:∀i,i<m+9->p i):VY (K2 m n fr sc Z X) p (.own 2 0 m true) (.sl 1 .any (au6 m n Z.A)):=by
 refine b21 (k:=hdB 9 m n) (hp 2 om) rfl (fun h=>h) rfl (aB3 m n Z.A) ?_ ?_
 ·intro r hr;obtain ⟨i,_,rfl⟩:=lby.1 hr
  rfl
 ·intro i r hi;have him:i<m:=by have:=(lbe.1 hi).1;rwa [aB3] at this
  rw [aD2 him] at hi;injection hi with hi;subst hi;refine ⟨_,a8j him,?_⟩;have hv:VY (K2 m n fr sc Z X) p (C.own (i+9) 0 n true) (T.sl 2 .any ((zF n (Z.A i)).map V5)):=
   .vc (s6 (k:=zlB (zF n (Z.A i))) (hp (i+9) om) (E9 (Z6 him)) (fun h=>h) rfl rfl (by simp [D3]))
  exact ⟨hv,trivial⟩
def b5E {m n:Nat} {fr:LB} {sc:LI} {Z:Zd} {X:Hp} {p:Nat->Prop} (hf:fr.length=m) (hs:sc.length=m) (hp:∀i,i<m+9->p i):VY (K2 m n fr sc Z X) p (.ptr 0 0 0) (.ptr (bh4 m n fr sc Z)):=by
 refine aa3 (k:=bt1 m n n Z.D) (hp 0 om) rfl (fun h=>h) rfl ⟨?_,bC9 hp,?_,av8,av8,?_,?_,?_,?_,?_,av8,av8,trivial⟩
 ·exact .vc (s6 (k:=zlB (zF m Z.V)) (hp 1 om) rfl (fun h=>h) rfl rfl (by simp [D3]))
 ·exact .vc (s6 (k:=zlB (zF n Z.C)) (hp 3 om) rfl (fun h=>h) rfl rfl (by simp [D3]))
 ·exact .vc (s6 (k:=R3 m Z.O) (hp 4 om) rfl (fun h=>h) rfl rfl (by simp [l9]))
 ·exact .vc (s6 (k:=R3 n Z.F) (hp 5 om) rfl (fun h=>h) rfl rfl (by simp [l9]))
 ·exact .vc (s6 (k:=o8 (frI fr)) (hp 6 om) rfl (fun h=>h) rfl rfl (by simp [frI,hf]))
 ·exact .vc (s6 (k:=o8 (T3 fr)) (hp 7 om) rfl (fun h=>h) rfl rfl (by simp [T3,hf]))
 ·exact .vc (s6 (k:=zlB sc) (hp 8 om) rfl (fun h=>h) rfl rfl (by simp [hs]))
def a28 {m n:Nat} {A:Nat->Nat->Int} {x:Int} {i:Nat} {K:List T->Prop} (e:x=i) (h:i<m) (k:K [T.sl 2 .any ((zF n (A i)).map V5)]):∃row,0<=x∧(au6 m n A)[x.toNat]? =some row∧K row:=by
 subst e;exact ⟨_,om,by rw [show (i:Int).toNat=i by omega,aD2 h],k⟩
def a0q {n:Nat} {g:Nat->Int} {x:Int} {j:Nat} {K:List T->Prop} (e:x=j) (h:j<n) (k:K (V5 (g j))):∃row,0<=x∧((zF n g).map V5)[x.toNat]? =some row∧K row:=by
 subst e;exact ⟨_,om,by rw [show (j:Int).toNat=j by omega,lba,Q2 h];rfl,k⟩
def aJ2 (z:Int):(bz z).sg<0↔z<0:=by
 show z.sign<0↔_;rcases a36 z 0 with h|h|h
 ·rw [a1Y h];omega
 ·subst h;simp
 ·rw [O8 h];omega
def b35 (z:Int):(bz z).sg > 0↔0<z:=by
 show z.sign > 0↔_;rcases a36 z 0 with h|h|h
 ·rw [a1Y h];omega
 ·subst h;simp
 ·rw [O8 h];omega
end
section
open Go.RowKit
def tv (V:Nat->Int) (k:Nat):Nat->Int:=fun i=>if i<k then -(V i) else V i
def ag7 (V:Nat->Int):tv V 0=V:=by funext i;unfold tv;rw [if_neg om]
def b5L (V:Nat->Int) (k:Nat):tv V k k=V k:=by unfold tv;rw [if_neg om]
def aQ4 (V:Nat->Int) (k:Nat):(fun i=>if i=k then -(V k) else tv V k i)=tv V (k+1):=by
 funext i;by_cases h:i=k
 ·subst h;rw [if_pos rfl];unfold tv;rw [if_pos om]
 ·rw [if_neg h];unfold tv;have:(i<k)↔(i<k+1):=om;simp only [this]
def b1b {V:Nat->Int} {m i:Nat} (h:i<m):tv V m i=-(V i):=by unfold tv;rw [if_pos h]
def ta (n:Nat) (A:Nat->Nat->Int) (i j:Nat):Nat->Nat->Int:=fun k=>if k<i then tv (A k) n else if k=i then tv (A k) j else A k
def b9m (n:Nat) (A:Nat->Nat->Int):ta n A 0 0=A:=by
 funext k;unfold ta;rw [if_neg om];split
 ·exact ag7 _
 ·rfl
def bk7 (n:Nat) (A:Nat->Nat->Int) (i j:Nat):ta n A i j i=tv (A i) j:=by unfold ta;rw [if_neg om,if_pos rfl]
def bf9 (n:Nat) (A:Nat->Nat->Int) (i j:Nat):(fun k=>if k=i then tv (A i) (j+1) else ta n A i j k)=ta n A i (j+1):=by
 funext k;by_cases h:k=i
 ·subst h;rw [if_pos rfl,bk7]
 ·rw [if_neg h];unfold ta;rw [if_neg h,if_neg h]
def bn7 (n:Nat) (A:Nat->Nat->Int) (i:Nat):ta n A i n=ta n A (i+1) 0:=by
 funext k;unfold ta;by_cases h:k<i
 ·rw [if_pos h,if_pos om]
 ·rw [if_neg h];by_cases h2:k=i
  ·rw [if_pos h2,if_pos om]
  ·rw [if_neg h2,if_neg om];split
   ·exact (ag7 _).symm
   ·rfl
def bw9 {n m:Nat} {A:Nat->Nat->Int} {i j:Nat} (h:i<m) (hj:j<n):ta n A m 0 i j=-(A i j):=by unfold ta;rw [if_pos h];exact b1b hj
section
variable (Z:Zd) (r s:Nat)
def exr (i j:Nat):Nat->Int:=fun l=>if l<j∧l≠s then Z.nx (Z.A i l) (Z.A r s) (Z.A i s) (Z.A r l) else Z.A i l
def AE (i:Nat):Nat->Nat->Int:=fun k=>if k<i∧k≠r then Z.exA r s k else Z.A k
def VE (i:Nat):Nat->Int:=fun k=>if k<i∧k≠r then Z.exV r s k else Z.V k
def AI (i j:Nat):Nat->Nat->Int:=fun k=>if k=i then exr Z r s i j else AE Z r s i k
def CE (j:Nat):Nat->Int:=fun l=>if l<j∧l≠s then Z.nx (Z.C l) (Z.A r s) (Z.C s) (Z.A r l) else Z.C l
end
section
variable {Z:Zd} {r s i j m n:Nat}
def be4:AE Z r s 0=Z.A:=by funext k;unfold AE;rw [if_neg om]
def bg5:VE Z r s 0=Z.V:=by funext k;unfold VE;rw [if_neg om]
def bi5:CE Z r s 0=Z.C:=by funext k;unfold CE;rw [if_neg om]
def bl8:AE Z r s i i=Z.A i:=by unfold AE;rw [if_neg om]
def be3:AE Z r s i r=Z.A r:=by unfold AE;rw [if_neg om]
def bz7:VE Z r s i i=Z.V i:=by unfold VE;rw [if_neg om]
def bH9:VE Z r s i r=Z.V r:=by unfold VE;rw [if_neg om]
def b9Q:AI Z r s i 0=AE Z r s i:=by
 funext k;unfold AI;by_cases h:k=i
 ·subst h;rw [if_pos rfl,bl8];funext l;unfold exr;rw [if_neg om]
 ·rw [if_neg h]
def bF7 (h:i≠r):AI Z r s i j r=Z.A r:=by unfold AI;rw [if_neg (fun e=>h e.symm),be3]
def b2R:AI Z r s i j i=exr Z r s i j:=by unfold AI;rw [if_pos rfl]
def b7t (hj:j≠s):(fun l=>if l=j then Z.nx (Z.A i j) (Z.A r s) (Z.A i s) (Z.A r j) else exr Z r s i j l)=exr Z r s i (j+1):=by
 funext l;by_cases h:l=j
 ·subst h;rw [if_pos rfl];unfold exr;rw [if_pos ⟨om,hj⟩]
 ·rw [if_neg h];unfold exr;have:(l<j∧l≠s)↔(l<j+1∧l≠s):=om;simp only [this]
def bg6:(fun k=>if k=i then exr Z r s i (j+1) else AI Z r s i j k)=AI Z r s i (j+1):=by
 funext k;by_cases h:k=i
 ·subst h;rw [if_pos rfl];unfold AI;rw [if_pos rfl]
 ·rw [if_neg h];unfold AI;rw [if_neg h,if_neg h]
def b7m:exr Z r s i s=exr Z r s i (s+1):=by
 funext l;unfold exr;have:(l<s∧l≠s)↔(l<s+1∧l≠s):=om;simp only [this]
def bc1:AI Z r s i s=AI Z r s i (s+1):=by
 funext k;unfold AI;split
 ·exact b7m
 ·rfl
def bs3 (hi:i≠r) {k l:Nat} (hl:l<n):(if k=i then (if l=s then -(Z.A i s) else AI Z r s i n i l) else AI Z r s i n k l)=AE Z r s (i+1) k l:=by
 by_cases h:k=i
 ·subst h;have e:AE Z r s (k+1) k l=Z.exA r s k l:=by unfold AE;rw [if_pos ⟨om,hi⟩]
  have e2:Z.exA r s k l=if l=s then -(Z.A k s) else Z.nx (Z.A k l) (Z.A r s) (Z.A k s) (Z.A r l):=by unfold Zd.exA;rw [if_neg hi]
  rw [if_pos rfl,e,e2];by_cases h2:l=s
  ·rw [if_pos h2,if_pos h2]
  ·rw [if_neg h2,if_neg h2,b2R];unfold exr;rw [if_pos ⟨hl,h2⟩]
 ·rw [if_neg h];unfold AI AE;rw [if_neg h];have:(k<i∧k≠r)↔(k<i+1∧k≠r):=om;simp only [this]
def bj1:AE Z r s r=AE Z r s (r+1):=by
 funext k;unfold AE;have:(k<r∧k≠r)↔(k<r+1∧k≠r):=om;simp only [this]
def bd3:VE Z r s r=VE Z r s (r+1):=by
 funext k;unfold VE;have:(k<r∧k≠r)↔(k<r+1∧k≠r):=om;simp only [this]
def bd7 (hi:i≠r):(fun k=>if k=i then Z.nx (Z.V i) (Z.A r s) (Z.A i s) (Z.V r) else VE Z r s i k)=VE Z r s (i+1):=by
 funext k;by_cases h:k=i
 ·subst h;rw [if_pos rfl];unfold VE Zd.exV;rw [if_pos ⟨om,hi⟩,if_neg hi]
 ·rw [if_neg h];unfold VE;have:(k<i∧k≠r)↔(k<i+1∧k≠r):=om;simp only [this]
def bt9 (h:i<m):VE Z r s m i=Z.exV r s i:=by
 unfold VE;by_cases hr:i=r
 ·rw [if_neg om];unfold Zd.exV;rw [if_pos hr,hr]
 ·rw [if_pos ⟨h,hr⟩]
def bv8 (hi:i<m):(if i=r then (if j=s then Z.D else AE Z r s m r j) else AE Z r s m i j)=Z.exA r s i j:=by
 by_cases hr:i=r
 ·rw [if_pos hr,be3];unfold Zd.exA;rw [if_pos hr]
 ·rw [if_neg hr];unfold AE;rw [if_pos ⟨hi,hr⟩]
def bE8:CE Z r s j j=Z.C j:=by unfold CE;rw [if_neg om]
def bF6:CE Z r s j s=Z.C s:=by unfold CE;rw [if_neg om]
def bf5 (hj:j≠s):(fun l=>if l=j then Z.nx (Z.C j) (Z.A r s) (Z.C s) (Z.A r j) else CE Z r s j l)=CE Z r s (j+1):=by
 funext l;by_cases h:l=j
 ·subst h;rw [if_pos rfl];unfold CE;rw [if_pos ⟨om,hj⟩]
 ·rw [if_neg h];unfold CE;have:(l<j∧l≠s)↔(l<j+1∧l≠s):=om;simp only [this]
def bb0:CE Z r s s=CE Z r s (s+1):=by
 funext l;unfold CE;have:(l<s∧l≠s)↔(l<s+1∧l≠s):=om;simp only [this]
def bu5 (hj:j<n):(if j=s then -(Z.C s) else CE Z r s n j)=Z.exC r s j:=by
 unfold CE Zd.exC;by_cases h:j=s
 ·rw [if_pos h,if_pos h]
 ·rw [if_neg h,if_neg h,if_pos ⟨hj,h⟩]
end
end
def aj6 (x y:Int) (lx:bl x<=200000) (ly:bl y<=200000):ec 288 [bgS (bz x),bgS (bz y)] [] (bgS (bz (x*y))) []:=by
 have m:=a6k x y lx ly;refine ac Tryz.func288 ?_;conv=>whnf
 repeat' (first|refine zx ?_|apply zD<;>intro<;>try omega)<;>conv=>whnf
 all_goals exact n9 rz
def bj2 (x y:Int) (lx:bl x<=200000) (ly:bl y<=200000):ec 335 [bgS (bz x),bgS (bz y)] [] (bgS (bz (x - y))) []:=by
 have m:=bk2 x y lx ly;refine ac Tryz.func335 ?_;conv=>whnf
 repeat' (first|refine zx ?_|apply zD<;>intro<;>try omega)<;>conv=>whnf
 all_goals exact n9 rz
def bE6 (x y:Int) (lx:bl x<=200000) (ly:bl y<=200000):ec 334 [bgS (bz x),bgS (bz y)] [] (bgS (bz (x+y))) []:=by
 have m:=b7F x y lx ly;refine ac Tryz.func334 ?_;conv=>whnf
 repeat' (first|refine zx ?_|apply zD<;>intro<;>try omega)<;>conv=>whnf
 all_goals exact n9 rz
def a8o (n:Int) (p0:-9223372036854775808<=n) (p1:n<=9223372036854775807):ec 286 [eI n] [] (frS (fz (n:Rat))) []:=by
 have o:=bs2 n 1 de p0 p1 de;have e:Rat.divInt n 1=(n:Rat):=by rw [a5D];simp;grind
 rw [e] at o;refine ac Tryz.func286 ?_;conv=>whnf
 repeat' (first|refine zx ?_|apply zD<;>intro<;>try omega)<;>conv=>whnf
 all_goals exact n9 rz
def ag8 (p q:Int) (hq:0<q) (lp:bl p<=200000) (lq:bl q<=200000):ec 287 [bgS (bz p),bgS (bz q)] [] (frS (fz (Rat.divInt p q))) []:=by
 have o:=aY5 p q hq lp lq;refine ac Tryz.func287 ?_;conv=>whnf
 repeat' (first|refine zx ?_|apply zD<;>intro<;>try omega)<;>conv=>whnf
 all_goals exact n9 rz
abbrev bgX (z:Int):Blk:={ mode:=.live,elem:=84,size:=2,rows:=[bgC (bz z)],box:=true }
def b8Y (z:Int):J9 (bgX z).rows:=e7 [[ti (bz z).sg,w7 (bz z).dl]]
def a1z {ρ:List (Option Nat)} {H:Hp}:a30 ρ H a5R a5R:=⟨rfl,rfl,rfl,.inl ⟨rfl,S6⟩⟩
def b5o (a b:Int) (hb:0<b) (hab:b<=a) (la:bl a<=100000):∃q:Int,0<q∧q*b<=a∧ec 333 [bgS (bz a),bgS (bz b)] [] (bgS (bz q)) []:=by
 obtain ⟨A,rfl⟩:∃A:Nat,a=A:=⟨a.toNat,om⟩;obtain ⟨B,rfl⟩:∃B:Nat,b=B:=⟨b.toNat,om⟩;have hb:0<B:=om;have hab:B<=A:=om;have la:(dg A).length<=100000:=la;have hlab:=p7 hab;obtain ⟨m,hm⟩:∃m,m=min 2 (dg B).length:=⟨_,rfl⟩;obtain ⟨low,hlow⟩:∃low,low=(dg B).length - m:=⟨_,rfl⟩;obtain ⟨n,hn⟩:∃n,n=if (dg A).length - min 3 (dg A).length<low then (dg A).length - low else min 3 (dg A).length:=⟨_,rfl⟩
 obtain ⟨X,hX⟩:∃X,X=a4C (dg A) n:=⟨_,rfl⟩;obtain ⟨Y,hY⟩:∃Y,Y=a4C (dg B) m:=⟨_,rfl⟩;obtain ⟨d,hd⟩:∃d,d=if 0<low then Y+1 else Y:=⟨_,rfl⟩
 obtain ⟨Q,hQ⟩:∃Q,Q=max 1 (X / d):=⟨_,rfl⟩;obtain ⟨g1,g2,g3,g4,g5,g6,g7⟩:=b8p hb hab hm hlow hn hX hY hd hQ;have hBl:0<(dg B).length:=by
  have:dg B≠[]:=fun h=>by have:=L1.1 h;omega
  exact a7h.2 this
 refine ⟨pw ((dg A).length - n - low)*Q,a9r (K6 _) g5,g7,?_⟩;have hY2:=a2C (l:=dg B) (U5 B).1 (k:=m) om om;have hX2:=a2C (l:=dg A) (U5 A).1 (k:=n) g1 g2;rw [← hY] at hY2;rw [← hX] at hX2;have t1:=b3Q (dg B) m om (U5 B).1 om om;have t2:=b3Q (dg A) n om (U5 A).1 g1 g2;rw [← hY] at t1;rw [← hX] at t2;have o:=b4A Q om om;have m1:((dg A).map j0).length=(dg A).length:=zq;have m2:((dg B).map j0).length=(dg B).length:=zq;have hdiv:X.tdiv d=X / d:=a4K om;have hq0:0<=X / d:=au1 om om;have hqA:X / d<=X:=Int.ediv_le_self _ om;rw [b7T g5];generalize hz:(dg A).length - n - low=z at *;obtain ⟨n0,hn0⟩:∃n0,n0=min 3 (dg A).length:=⟨_,rfl⟩;rw [← hn0] at hn;have hAd:(bz (A:Int)).dl=dg A:=rfl;have hBd:(bz (B:Int)).dl=dg B:=rfl
 (refine U1 d9 Tryz.func333 rfl de ?_;refine y4 d9 ?_;(conv=>whnf);repeat ((first|refine b0x ?_|refine zy ?_);conv=>whnf))
 repeat' (first|refine zz ?_|refine b0x ?_|apply zD<;>intro h<;>try omega|refine zy ?_|fail)<;>conv=>whnf
 refine x9 d9 ([J,J,S.c (C.t (T.ptr [ti (bz (A:Int)).sg,w7 (dg A)])),S.c (C.t (T.ptr [ti (bz (B:Int)).sg,w7 (dg B)])),sP 0 0 0,eI n0]++Jn 59) [a5R] ?_ ?_
 ·conv=>whnf
  repeat' (first|refine zx ?_|apply zD<;>intro h<;>try omega)<;>conv=>whnf
  exact ⟨[some 0],rfl,rfl,⟨a1z,trivial⟩,⟨rfl,rfl,rz,d7 (by simp only [cond,lbr,hAd];split<;>omega),trivial⟩⟩
 refine x9 d9 ([J,J,S.c (C.t (T.ptr [ti (bz (A:Int)).sg,w7 (dg A)])),S.c (C.t (T.ptr [ti (bz (B:Int)).sg,w7 (dg B)])),sP 0 0 0,eI n0,eI m]++Jn 58) [a5R] ?_ ?_
 ·conv=>whnf
  repeat' (first|refine zx ?_|apply zD<;>intro h<;>try omega)<;>conv=>whnf
  exact ⟨[some 0],rfl,rfl,⟨a1z,trivial⟩,⟨rfl,rfl,rz,rfl,d7 (by simp only [cond,lbr];split<;>omega),trivial⟩⟩
 refine x9 d9 ([J,J,S.c (C.t (T.ptr [ti (bz (A:Int)).sg,w7 (dg A)])),S.c (C.t (T.ptr [ti (bz (B:Int)).sg,w7 (dg B)])),sP 0 0 0,eI n0,eI m,eI low]++Jn 57) [a5R] ?_ ?_
 ·conv=>whnf
  repeat' (first|refine zx ?_|apply zD<;>intro h<;>try omega)<;>conv=>whnf
  exact ⟨[some 0],rfl,rfl,⟨a1z,trivial⟩,⟨rfl,rfl,rz,rfl,rfl,d7 om,trivial⟩⟩
 refine x9 d9 ([J,J,S.c (C.t (T.ptr [ti (bz (A:Int)).sg,w7 (dg A)])),S.c (C.t (T.ptr [ti (bz (B:Int)).sg,w7 (dg B)])),sP 0 0 0,eI n,eI m,eI low]++Jn 57) [a5R] ?_ ?_
 ·conv=>whnf
  repeat' (first|refine zx ?_|apply zD<;>intro h<;>try omega)<;>conv=>whnf
  all_goals (refine ⟨[some 0],rfl,rfl,⟨a1z,trivial⟩,⟨rfl,rfl,rz,d7 ?_,rz⟩⟩;rw [hn];split<;>omega)
 refine x9 d9 ([J,J,S.c (C.t (T.ptr [ti (bz (A:Int)).sg,w7 (dg A)])),S.c (C.t (T.ptr [ti (bz (B:Int)).sg,w7 (dg B)])),sP 0 0 0,eI n,J,eI low,eI Y]++Jn 56) [a5R] ?_ ?_
 ·conv=>whnf
  repeat' (first|refine zx ?_|apply zD<;>intro h<;>try omega)<;>conv=>whnf
  all_goals exact ⟨[some 0],rfl,rfl,⟨a1z,trivial⟩,rz⟩
 refine x9 d9 ([J,J,S.c (C.t (T.ptr [ti (bz (A:Int)).sg,w7 (dg A)])),S.c (C.t (T.ptr [ti (bz (B:Int)).sg,w7 (dg B)])),sP 0 0 0,eI n,J,eI low,eI d]++Jn 56) [a5R] ?_ ?_
 ·conv=>whnf
  repeat' (first|refine zx ?_|apply zD<;>intro h<;>try omega)<;>conv=>whnf
  all_goals (refine ⟨[some 0],rfl,rfl,⟨a1z,trivial⟩,⟨rfl,rfl,rz,rfl,rfl,d7 ?_,trivial⟩⟩;rw [hd];split<;>omega)
 have hmax:∀y:Int,y=X / d->(bif true then if (1:Int) > y then 1 else y else if 1<y then 1 else y)=Q:=by
  intro y hy;rw [hy,hQ];simp only [cond];split<;>omega
 have hmax2:∀y:Int,y=X / d->(bif true then if y > 1 then y else 1 else if y<1 then y else 1)=Q:=by
  intro y hy;rw [hy,hQ];simp only [cond];split<;>omega
 refine x9 d9 ([J,J,S.c (C.t (T.ptr [ti (bz (A:Int)).sg,w7 (dg A)])),J,sP 0 0 0,eI n,J,eI low,J,sP 1 0 0]++Jn 55) [a5R,bgX Q] ?_ ?_
 ·conv=>whnf
  repeat' (first|refine zx ?_|refine qp ((hmax2 _ rfl) ▸ o) ?_|refine ⟨om,_,E5 hdiv om om,?_⟩|refine ak3 om ?_|apply zD<;>intro h<;>try omega)<;>conv=>whnf
  all_goals first|omega|exact ⟨[some 0,some 1],rfl,rfl,⟨a1z,⟨rfl,rfl,rfl,.inl ⟨by rw [hmax2 _ rfl];rfl,by rw [hmax2 _ rfl];exact e7 [[ti (bz Q).sg,w7 (bz Q).dl]]⟩⟩,trivial⟩,rz⟩
 have eA:((dg A).map j0).length - (n:Int) - (low:Int)=(z:Nat):=om;have lQ:(bz Q).dl.length<=4:=S2 (x:=Q) om om;refine x9 d9 ([J,J,J,J,sP 0 0 0,J,J,J,J,sP 1 0 0,S.c (C.own 2 0 z true)]++Jn 54) [a5R,bgX Q,o8 (List.replicate z 0)] ?_ ?_
 ·conv=>whnf
  repeat' (first|refine zx ?_|refine a0x om om om de ?_|apply zD<;>intro h<;>try omega)<;>conv=>whnf
  all_goals first|omega|exact ⟨[some 0,some 1,some 2],rfl,rfl,⟨a1z,⟨rfl,rfl,rfl,.inl ⟨rfl,b8Y _⟩⟩,d8 (rows:=(List.replicate z 0).map j0) rfl rfl rfl (by show List.replicate _ _=_;rw [eA];simp [toC,j0,B6]) rfl,trivial⟩,⟨rz,rz,⟨rfl,rfl,om,fun h=>h⟩,trivial⟩⟩
 refine p6 d9 _ ?_;conv=>whnf
 repeat' (first|refine zx ?_|refine o6 zt zu ?_|apply zD<;>intro h<;>try omega)<;>conv=>whnf
 all_goals try omega
 refine n9 ⟨rfl,(show VC _ (fun id=>G8 [] id=true) (C.own 3 0 _ true) (w7 (List.replicate z 0++dg Q.natAbs)) from s6 (k:={ mode:=.live,elem:=3,size:=1,rows:=List.take z (toC ((List.replicate z 0).map j0))++toC ((dg Q.natAbs).map j0),box:=false }) rfl rfl (fun h=>h) rfl ?_ ?_),trivial⟩
 ·show List.take z (toC ((List.replicate z 0).map j0))++toC ((dg Q.natAbs).map j0)=toC ((List.replicate z 0++dg Q.natAbs).map j0);rw [lbn zt];simp [toC]
 ·simp [toC];rfl
end Go.Proofs.YtikokmdpigploaaGreat
