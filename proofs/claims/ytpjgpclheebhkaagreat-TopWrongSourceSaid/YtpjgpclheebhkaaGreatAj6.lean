/- Part 6. -/
import Derived.Lib.SlKeysI
import Derived.LoopN
import Derived.Test.YtpjgpclheebhkaaGreatAj5
namespace Go.Proofs.YtpjgpclheebhkaaGreat
set_option linter.unusedVariables false
set_option linter.unusedSimpArgs false
set_option maxRecDepth 100000
open Go.RowKit
open St1 St2 St3 St4 St5 St6 St7 St8 StA StB
def kn1 (e:Ev) (k i:Nat):List T:=
 let h:=if i<k then hiF (X3 e i) else J3
 [ti h.p.sg,I3 h.p.dl,ti h.q.sg,I3 h.q.dl,tb (decide (i<k) && (X3 e i).isSome),.sl 0 .nil [],ti 0]
abbrev knB (rows:List (List T)):Blk:={ mode:=.live,elem:=111,size:=7,rows:=toC rows,box:=false }
theorem aM8 {e:Ev} {k i:Nat} (h:i≠k):kn1 e (k+1) i=kn1 e k i:=by
 unfold kn1
 by_cases h1:i<k
 ·simp only [if_pos h1,if_pos (show i<k+1 by omega),h1,show i<k+1 by omega]
 ·simp only [if_neg h1,if_neg (show ¬i<k+1 by omega),h1,show ¬i<k+1 by omega]
theorem b23 {e:Ev} {k n:Nat} (h:k<n):(toC ((List.range n).map (kn1 e k))).set k ((kn1 e (k+1) k).map C.t)=toC ((List.range n).map (kn1 e (k+1))):=by
 apply I6
 intro i
 unfold toC
 rw [lbg,lba,lba,lba]
 by_cases hi:k=i
 ·subst hi
  rw [if_pos rfl]
  simp [h]
 ·rw [if_neg hi,lba]
  cases hr:(List.range n)[i]? with
  |none=>rfl
  |some j=>
   have:j=i:=by
    obtain ⟨h1,h2⟩:=lbe.1 hr
    simp at h2;omega
   subst this
   show some ((kn1 e k j).map C.t)=some ((kn1 e (k+1) j).map C.t)
   rw [aM8 (fun h=>hi h.symm)]
theorem aL4 {e:Ev} {k:Nat} (h:X3 e k=none):kn1 e (k+1) k=kn1 e k k:=by
 unfold kn1
 simp only [if_pos (show k<k+1 by omega),if_neg (show ¬k<k by omega),h]
 simp [hiF]
theorem aI2 {e:Ev} {k n:Nat} (h:X3 e k=none):(List.range n).map (kn1 e (k+1))=(List.range n).map (kn1 e k):=lbp fun i _=>by
 by_cases hi:i=k
 ·subst hi;exact aL4 h
 ·exact aM8 hi
theorem b5G {e:Ev} {n:Nat} {ρ:List (Option Nat)} {H:Hp}:a3N ρ H (List.replicate n [C.t (ti 0),C.t (.sl 0 .nil []),C.t (ti 0),C.t (.sl 0 .nil []),C.t (tb false),C.t (.sl 0 .nil []),C.t (ti 0)]) (toC ((List.range n).map (kn1 e 0))):=by
 refine a4I (by simp [toC]) fun i x y hx hy=>?_
 have hi:i<n:=by have:=(lbe.1 hx).1;simpa using this
 rw [lbk,if_pos hi] at hx
 injection hx with hx
 subst hx
 unfold toC at hy
 rw [lba,lba,lbh hi] at hy
 injection hy with hy
 subst hy
 show a1U _ _ _ ((kn1 e 0 i).map C.t)
 unfold kn1
 simp only [if_neg (show ¬i<0 by omega)]
 exact ⟨rfl,rfl,rfl,rfl,rfl,rfl,rfl,trivial⟩
def knA (e:Ev) (i:Nat):List T:=[ti (hiF (X3 e i)).p.sg,I3 (hiF (X3 e i)).p.dl,ti (hiF (X3 e i)).q.sg,I3 (hiF (X3 e i)).q.dl,tb (X3 e i).isSome]
def C7 (t:j9) (kind:Int) (k i:Nat):List Int:=g9 (t.finds.take k) kind i
theorem a6z (l:List a4D) (f:a4D) (kind:Int) (i:Nat):g9 (l++[f]) kind i=if f.kind=kind∧f.mv=(i:Int) then g9 l kind i++[f.grams] else g9 l kind i:=by
 rw [ay0];split<;>simp
theorem R6 {α:Type} {l:List α} {k:Nat} {x:α} (h:l[k]? =some x):l.take (k+1)=l.take k++[x]:=by rw [lbH,h];rfl
def kn3 (t:j9) (kind:Int) (k i:Nat):List T:=knA t.ev i++I3 (g9 t.finds kind i)::[ti (j7 (t.cleans.take k) kind i)]
theorem be9 (t:j9) (kind:Int) (k i:Nat):j7 (t.cleans.take k) kind i<=t.cleans.length:=lbT (lbt _ _) (by simp;omega)
theorem b8g {t:j9} {kind:Int} {n:Nat}:(List.range n).map (kn3 t kind t.cleans.length)=(List.range n).map (Q4 t kind):=lbp fun i _=>by
 unfold kn3;rw [lbn (lbS _)];rfl
theorem b5a {t:j9} {kind:Int} {n k:Nat} {c:a02} (h:t.cleans[k]? =some c) (hk:c.kind≠kind):(List.range n).map (kn3 t kind (k+1))=(List.range n).map (kn3 t kind k):=lbp fun i _=>by
 unfold kn3
 rw [R6 h,a21,if_neg (fun h=>hk h.1)];rfl
theorem b93 {t:j9} {kind:Int} {n k m:Nat} {c:a02} (hm:m<n) (h:t.cleans[k]? =some c) (hk:c.kind=kind) (hmv:c.mv=m):
 (toC ((List.range n).map (kn3 t kind k))).set m ((knA t.ev m++I3 (g9 t.finds kind m)::[ti ((j7 (t.cleans.take k) kind m:Int)+1)]).map C.t)=toC ((List.range n).map (kn3 t kind (k+1))):=by
 have key:∀i,i<n->i≠m->kn3 t kind (k+1) i=kn3 t kind k i:=fun i _ hi=>by
  unfold kn3
  rw [R6 h,a21,if_neg (fun h=>hi (by omega))];rfl
 have own:kn3 t kind (k+1) m=knA t.ev m++I3 (g9 t.finds kind m)::[ti ((j7 (t.cleans.take k) kind m:Int)+1)]:=by
  unfold kn3
  rw [R6 h,a21,if_pos ⟨hk,hmv⟩];rfl
 rw [← own]
 unfold toC
 rw [← a2Y]
 congr 1
 apply I6
 intro i
 simp only [lbg,lba,lbr,lbv]
 by_cases hi:m=i
 ·subst hi;simp [hm]
 ·rw [if_neg hi]
  by_cases hin:i<n
  ·rw [lbh hin]
   show some _=some _
   rw [key i hin (fun h=>hi h.symm)]
  ·rw [lbd (by simp;omega)];rfl
theorem b77 {l:List Int} {x:Int}:List.take l.length (toC (l.map i5))++toC [[ti x]]=toC ((l++[x]).map i5):=by
 rw [lbn (by simp [toC])]
 simp [toC,i5]
set_option maxHeartbeats 4000000 in
theorem b29 (t:j9) (kind:Int) (hs:t.Sized) (h0:J4 t.ev=0) (hf:∀f ∈ t.finds,0<=f.mv∧f.mv<t.ev.moves.length) (hc:∀c ∈ t.cleans,0<=c.mv∧c.mv<t.ev.moves.length):
 a8 Tryz.prog 36 [trS t,a7 .i64 kind] [] (.c (.t (a0P t kind))) []:=by
 obtain ⟨b1,b2,b3,b4⟩:=a0s h0
 have l1:=hs.f
 have l2:=hs.c
 have m0:(t.ev.moves.map t7.row).length=t.ev.moves.length:=by simp
 have m1:(t.finds.map a4D.row).length=t.finds.length:=by simp
 have m2:(t.cleans.map a02.row).length=t.cleans.length:=by simp
 have s3:=hs.ev.s3
 have s4:=hs.ev.s4
 (refine ac Tryz.func36 ?_;(conv=>whnf);repeat ((first|refine b0x ?_|refine zy ?_);conv=>whnf))
 repeat' (first|refine zx ?_|refine a5q (by omega) (by omega) (by omega) (by decide) ?_|refine zd ?_ ?_<;>intro h<;>try omega|fail)<;>conv=>whnf
 refine i3 c9 (fun k=>([J,a7 .i64 kind,S.c (C.t (T.ptr (trT t))),J,J,S.c (C.ptr 0 0 0),S.c (C.own 1 0 t.ev.moves.length true)]++Jn 13++[S.c (C.t (a2Z t.ev.moves)),a7 .i64 t.ev.moves.length,a7 .i64 k]++Jn 80,[evB t.ev,knB ((List.range t.ev.moves.length).map (kn1 t.ev k))])) t.ev.moves.length (fun _=>True) [some 0,some 1] trivial ?_ ?_
 ·refine ⟨rfl,rfl,⟨⟨rfl,rfl,rfl,.inl ⟨rfl,j6 _⟩⟩,⟨rfl,rfl,rfl,.inr ?_⟩,trivial⟩,⟨rfl,rfl,⟨rfl,rfl,rfl⟩,⟨rfl,rfl,?_,fun h=>h⟩,rfl,c7 (by simp),rfl,trivial⟩⟩
  ·have e9:((((t.ev.moves.map t7.row).length:Nat):Int)).toNat=t.ev.moves.length:=by omega
   rw [← e9]
   exact b5G
  ·omega
 intro k hk _
 by_cases hlt:k<t.ev.moves.length
 ·obtain ⟨x,hx⟩:∃x,t.ev.moves[k]? =some x:=⟨_,lbf hlt⟩
  have iv:=b0U t.ev.certs t.ev.recalls (by omega) (by omega) x.scale x.reading x.day
  have eK:0+(k:Int).toNat=k:=by omega
  have hk0:(List.range t.ev.moves.length)[0+(k:Int).toNat]? =some k:=by rw [eK,lbh hlt]
  have gs:∀c,((knB ((List.range t.ev.moves.length).map (kn1 t.ev k))).rows.set (0+(k:Int).toNat) c)[0+(k:Int).toNat]? =some c:=fun c=>by
   rw [List.getElem?_set_self]
   show _<(toC _).length
   simp [toC];omega
  by_cases hsc:x.scale=-1
  ·have hn:X3 t.ev k=none:=by rw [a6G hx];unfold K9;rw [if_pos hsc]
   have e1:=aI2 (n:=t.ev.moves.length) hn
   conv=>whnf
   repeat' (first|refine zx ?_|refine d6 hx ?_|refine zd ?_ ?_<;>intro h<;>try omega|fail)<;>conv=>whnf
   all_goals try omega
   refine ⟨hlt,trivial,[some 0,some 1],rfl,rfl,⟨⟨rfl,rfl,rfl,.inl ⟨rfl,j6 _⟩⟩,b8 rfl rfl rfl ?_ rfl,trivial⟩,⟨rfl,rfl,⟨rfl,rfl,rfl⟩,⟨rfl,rfl,rfl,fun h=>h⟩,rfl,rfl,rfl,trivial⟩⟩
   rw [e1]
  ·have hiv:X3 t.ev k=S5 t.ev.certs t.ev.recalls x.scale x.reading x.day:=by rw [a6G hx];unfold K9;rw [if_neg hsc]
   rw [← hiv] at iv
   cases hi:X3 t.ev k with
   |none=>
    rw [hi] at iv
    have er:(kn1 t.ev (k+1) k).map C.t=frC J3++[C.t (tb false),C.t (.sl 0 .nil []),C.t (ti 0)]:=by rw [aL4 hi];simp [kn1]
    conv=>whnf
    repeat' (first|refine zx ?_|refine qp iv ?_|refine qp (2,3,18) ?_|refine d6 hx ?_|refine k7 hk0 ?_|refine ⟨_,gs _,?_⟩|refine bl0 [2,3,18] ?_|refine zd ?_ ?_<;>intro h<;>try omega|fail)<;>conv=>whnf
    all_goals try omega
    refine ⟨hlt,trivial,[some 0,some 1],rfl,rfl,⟨⟨rfl,rfl,rfl,.inl ⟨rfl,j6 _⟩⟩,b8 rfl rfl rfl ?_ rfl,trivial⟩,⟨rfl,rfl,⟨rfl,rfl,rfl⟩,⟨rfl,rfl,rfl,fun h=>h⟩,rfl,rfl,rfl,trivial⟩⟩
    have e2:=b23 (e:=t.ev) hlt
    rw [er] at e2
    rw [← e2]
    show ((toC _).set (0+(k:Int).toNat) _).set (0+(k:Int).toNat) _=_
    rw [List.set_set,eK]
    rfl
   |some p=>
    obtain ⟨lo,hi'⟩:=p
    rw [hi] at iv
    have er:(kn1 t.ev (k+1) k).map C.t=frC (fz hi')++[C.t (tb true),C.t (.sl 0 .nil []),C.t (ti 0)]:=by simp [kn1,hi,hiF]
    conv=>whnf
    repeat' (first|refine zx ?_|refine qp iv ?_|refine qp (2,3,18) ?_|refine d6 hx ?_|refine k7 hk0 ?_|refine ⟨_,gs _,?_⟩|refine bl0 [2,3,18] ?_|refine zd ?_ ?_<;>intro h<;>try omega|fail)<;>conv=>whnf
    all_goals try omega
    refine ⟨hlt,trivial,[some 0,some 1],rfl,rfl,⟨⟨rfl,rfl,rfl,.inl ⟨rfl,j6 _⟩⟩,b8 rfl rfl rfl ?_ rfl,trivial⟩,⟨rfl,rfl,⟨rfl,rfl,rfl⟩,⟨rfl,rfl,rfl,fun h=>h⟩,rfl,rfl,rfl,trivial⟩⟩
    have e2:=b23 (e:=t.ev) hlt
    rw [er] at e2
    rw [← e2]
    show ((toC _).set (0+(k:Int).toNat) _).set (0+(k:Int).toNat) _=_
    rw [List.set_set,eK]
    rfl
 ·conv=>whnf
  repeat' (first|refine zx ?_|refine zd ?_ ?_<;>intro h<;>try omega|fail)<;>conv=>whnf
  all_goals try omega
  have e0:C7 t kind 0=fun _=>[]:=by funext i;simp [C7,g9]
  refine i3 c9 (fun k=>([J,a7 .i64 kind,S.c (C.t (T.ptr (trT t))),J,J,J,S.c (C.own 0 0 t.ev.moves.length true)]++Jn 48++[S.c (C.t (ag4 t.finds)),a7 .i64 t.finds.length,a7 .i64 k]++Jn 45,U9 111 7 t.ev.moves.length (knA t.ev) (C7 t kind k) (fun _=>[ti 0]))) t.finds.length (fun _=>True) (b0L 1 t.ev.moves.length) trivial ?_ ?_
  ·have hke:k=t.ev.moves.length:=by omega
   subst hke
   refine (?_:Ent 0 (b0L 1 t.ev.moves.length) _ _ _ (U9 111 7 t.ev.moves.length (knA t.ev) (C7 t kind 0) (fun _=>[ti 0])))
   rw [e0]
   refine b8p (k0:=knB ((List.range t.ev.moves.length).map (kn1 t.ev t.ev.moves.length))) (s:=0) rfl ⟨rfl,rfl,rfl,rfl⟩ ?_ ?_
   ·show toC _=_
    unfold toC
    rw [a4b]
    refine lbp fun i hi=>?_
    have:=lbC.1 hi
    simp [kn1,knA,this]
   ·exact ⟨rfl,rfl,⟨rfl,rfl,rfl,fun h=>h⟩,i8 rfl,c7 (by simp),rfl,trivial⟩
  intro j hj _
  by_cases hjt:j<t.finds.length
  ·obtain ⟨f,hfj⟩:∃f,t.finds[j]? =some f:=⟨_,lbf hjt⟩
   obtain ⟨f1,f2⟩:=hf f (lbm hfj)
   obtain ⟨m,hm⟩:∃m:Nat,f.mv=m:=⟨f.mv.toNat,by omega⟩
   have hmn:m<t.ev.moves.length:=by omega
   have eM:0+f.mv.toNat=m:=by omega
   have rL:(List.range t.ev.moves.length).length=t.ev.moves.length:=by simp
   have rG:(List.range t.ev.moves.length)[m]? =some m:=lbh hmn
   have gR:(a2s t.ev.moves.length (knA t.ev) (C7 t kind j) (fun _=>[ti 0]))[0+f.mv.toNat]? =some (aT4 (knA t.ev) (C7 t kind j) (fun _=>[ti 0]) (m+1) m):=by rw [eM];exact a2D hmn
   have gl:(C7 t kind j m).length<=t.finds.length:=by
    unfold C7 g9
    rw [lbr]
    exact lbT (lbt _ _) (by simp;omega)
   have hbox:∀(fB:Nat->Blk) (dead nb fb:Blk),(((((List.range t.ev.moves.length).map fB++[fb]).set m dead)++[nb])[t.ev.moves.length]?)=some fb:=fun fB dead nb fb=>by
    rw [lbb (by simp),lbg,if_neg (by omega),lbc (by simp)]
    simp
   have hnew:∀(fB:Nat->Blk) (dead nb fb:Blk),(((((List.range t.ev.moves.length).map fB++[fb]).set m dead)++[nb])[t.ev.moves.length+1]?)=some nb:=fun fB dead nb fb=>by
    rw [lbc (by simp)]
    simp
   have hold:∀(fB:Nat->Blk) (dead nb fb:Blk) (p:Nat),p<t.ev.moves.length->p≠m->(((((List.range t.ev.moves.length).map fB++[fb]).set m dead)++[nb])[p]?)=some (fB p):=fun fB dead nb fb p hp hpm=>by
    rw [lbb (by simp;omega),lbg,if_neg (by omega),lbb (by simpa using hp),lba,lbh hp];rfl
   by_cases hkd:f.kind=kind
   ·conv=>whnf
    repeat' (first|refine zx ?_|refine qp toC ?_|refine qp toC ?_|refine qp (0,1,2) ?_|refine d6 hfj ?_|refine j5 rL ?_|refine a4u rL ?_|refine D3 ?_|refine a2O ?_|refine ⟨_,gR,?_⟩|refine a9p (hbox _ _ _ _) ?_|refine U1 rG ?_|refine aO0 rG ?_|refine B5 rL ?_|refine f9 rL ?_|refine a7F rL ?_|refine g6 rL ?_|refine aE2 ?_|refine D7 (by simp [toC]) (by simp [toC];omega) ?_|refine bl0 [0,1,2] ?_|refine zd ?_ ?_<;>intro h<;>try omega|fail)<;>conv=>whnf
    all_goals try omega
    refine ⟨hjt,trivial,a8X t.ev.moves.length m (t.ev.moves.length+2),?_⟩
    refine (?_:Ent 0 (a8X t.ev.moves.length m (t.ev.moves.length+2)) _ _ _ (U9 111 7 t.ev.moves.length (knA t.ev) (C7 t kind (j+1)) (fun _=>[ti 0])))
    have eg:C7 t kind (j+1)=a3W (C7 t kind j) m (C7 t kind j m++[f.grams]):=by
     funext i
     unfold C7 a3W
     rw [R6 hfj,a6z]
     by_cases hi:i=m
     ·subst hi;rw [if_pos ⟨hkd,hm⟩,if_pos rfl]
     ·rw [if_neg (fun h=>hi (by omega)),if_neg hi]
    rw [eg]
    refine b5z hmn (by omega) rfl ⟨rfl,rfl,rfl,rfl⟩ ?_ ?_ ?_ ?_
    ·show (a2s _ _ _ _).set (0+f.mv.toNat) _=_
     rw [eM,lbq]
     rfl
    ·intro p hp hpm
     exact hold _ _ _ _ p hp hpm
    ·refine (hnew _ _ _ _).trans ?_
     show some (Blk.mk .live _ 1 (List.take _ (toC ((C7 t kind j m).map i5))++toC [[ti f.grams]]) false false false)=_
     rw [b77]
    ·exact ⟨rfl,rfl,⟨by rw [U7 (by omega)];rfl,rfl,rfl,fun h=>h⟩,rfl,rfl,rfl,trivial⟩
   ·conv=>whnf
    repeat' (first|refine zx ?_|refine d6 hfj ?_|refine j5 rL ?_|refine a4u rL ?_|refine D3 ?_|refine a2O ?_|refine B5 rL ?_|refine f9 rL ?_|refine a7F rL ?_|refine g6 rL ?_|refine zd ?_ ?_<;>intro h<;>try omega|fail)<;>conv=>whnf
    all_goals try omega
    refine ⟨hjt,trivial,idR (t.ev.moves.length+1),?_⟩
    refine (?_:Ent 0 (idR (t.ev.moves.length+1)) _ (U9 111 7 t.ev.moves.length (knA t.ev) (C7 t kind j) (fun _=>[ti 0])++_) _ (U9 111 7 t.ev.moves.length (knA t.ev) (C7 t kind (j+1)) (fun _=>[ti 0])))
    have eg:C7 t kind (j+1)=C7 t kind j:=by
     funext i
     unfold C7
     rw [R6 hfj,a6z,if_neg (fun h=>hkd h.1)]
    rw [eg]
    exact b3l ⟨rfl,rfl,⟨k6 (by omega),rfl,rfl,fun h=>h⟩,rfl,rfl,rfl,trivial⟩
  ·have hje:j=t.finds.length:=by omega
   subst hje
   have rL:(List.range t.ev.moves.length).length=t.ev.moves.length:=by simp
   conv=>whnf
   repeat' (first|refine zx ?_|refine D3 ?_|refine a2O ?_|refine a4u rL ?_|refine zd ?_ ?_<;>intro h<;>try omega|fail)<;>conv=>whnf
   all_goals try omega
   have eg:C7 t kind t.finds.length=g9 t.finds kind:=by funext i;unfold C7;rw [lbn (lbS _)]
   rw [eg]
   refine i3 c9 (fun k=>([J,a7 .i64 kind,J,J,J,J,S.c (C.own 0 0 t.ev.moves.length true)]++Jn 75++[S.c (C.t (a77 t.cleans)),a7 .i64 t.cleans.length,a7 .i64 k]++Jn 18,[knB ((List.range t.ev.moves.length).map (kn3 t kind k))])) t.cleans.length (fun _=>True) [some 0] trivial ?_ ?_
   ·exact b6d (g:=g9 t.finds kind) ⟨rfl,⟨rfl,rfl,rfl,fun h=>h⟩,i8 rfl,c7 (by simp),rfl,trivial⟩
   intro q hq _
   by_cases hqt:q<t.cleans.length
   ·obtain ⟨c,hcq⟩:∃c,t.cleans[q]? =some c:=⟨_,lbf hqt⟩
    obtain ⟨g1,g2⟩:=hc c (lbm hcq)
    obtain ⟨m,hm⟩:∃m:Nat,c.mv=m:=⟨c.mv.toNat,by omega⟩
    have hmn:m<t.ev.moves.length:=by omega
    have eM:0+c.mv.toNat=m:=by omega
    have hk0:(List.range t.ev.moves.length)[0+c.mv.toNat]? =some m:=by rw [eM];exact lbh hmn
    have cb:=be9 t kind q m
    by_cases hkd:c.kind=kind
    ·conv=>whnf
     repeat' (first|refine zx ?_|refine d6 hcq ?_|refine k7 hk0 ?_|refine zd ?_ ?_<;>intro h<;>try omega|fail)<;>conv=>whnf
     all_goals try omega
     refine ⟨hqt,trivial,[some 0],rfl,rfl,⟨b8 rfl rfl rfl ?_ rfl,trivial⟩,⟨rfl,⟨rfl,rfl,rfl,fun h=>h⟩,rfl,rfl,rfl,trivial⟩⟩
     show (toC _).set (0+c.mv.toNat) _=_
     rw [eM,←b93 hmn hcq hkd hm]
     rfl
    ·have e3:=b5a (t:=t) (kind:=kind) (n:=t.ev.moves.length) hcq hkd
     conv=>whnf
     repeat' (first|refine zx ?_|refine d6 hcq ?_|refine k7 hk0 ?_|refine zd ?_ ?_<;>intro h<;>try omega|fail)<;>conv=>whnf
     all_goals try omega
     refine ⟨hqt,trivial,[some 0],rfl,rfl,⟨b8 rfl rfl rfl ?_ rfl,trivial⟩,⟨rfl,⟨rfl,rfl,rfl,fun h=>h⟩,rfl,rfl,rfl,trivial⟩⟩
     rw [e3]
   ·have hqe:q=t.cleans.length:=by omega
    subst hqe
    conv=>whnf
    repeat' (first|refine zx ?_|refine zd ?_ ?_<;>intro h<;>try omega|fail)<;>conv=>whnf
    all_goals try omega
    rw [b8g]
    exact V5 (k:=knB ((List.range t.ev.moves.length).map (Q4 t kind))) rfl (by intro h;cases h) rfl rfl (by simp)
abbrev a1X (l:List (Int × Rat)):Blk:={ mode:=.live,elem:=154,size:=5,rows:=toC (l.map u6),box:=false }
abbrev X8 (l:List B8):Blk:={ mode:=.live,elem:=94,size:=6,rows:=toC (l.map u0),box:=false }
abbrev a5e (n:Int) (id len:Nat):Blk:={ mode:=.live,elem:=86,size:=2,rows:=[[.t (ti n),.own id 0 len true]],box:=true }
abbrev bg5 (id len:Nat) (kind:Int):Blk:={ mode:=.live,elem:=94,size:=6,rows:=[.own id 0 len true::.t (ti kind)::frC (fz zR)],box:=true }
abbrev b7s (x:t7):Blk:={ mode:=.live,elem:=113,size:=6,rows:=[x.row.map .t],box:=true }
theorem a31 (x:t7):H4 [x.row.map C.t]:=by simp [H4,t7.row,C.isT]
abbrev bk1:Blk:={ mode:=.live,elem:=94,size:=6,rows:=[.t (aE4 [])::.t (ti 0)::frC J3],box:=true }
abbrev b2y (el:TypeId) (size:Nat):Blk:=⟨.dead,el,size,[],false,false,false⟩
theorem at0 {l:List B8} {w:B8} {n:Nat} (h:n=l.length):List.take n (toC (l.map u0))++toC [u0 w]=toC ((l++[w]).map u0):=by
 rw [lbn (by simp [toC,h])]
 simp [toC]
set_option maxHeartbeats 4000000 in
theorem b9G (n:Int) (rows:List B8) (hr:rows.length<=1000000) (mv:Nat) (kind:Int) (v:Rat):
 a8 Tryz.prog 64 [a7 .i64 mv,a7 .i64 kind,frS (fz v),.c (.ptr 0 0 0)] [a5e n 1 rows.length,X8 rows] (.tup []) [a5e n 2 (rows.length+1),b2y 94 6,X8 (rows++[u4 mv kind v])]:=by
 have i1:=B3 1 (by decide) (by decide)
 (refine ac Tryz.func64 ?_;(conv=>whnf);repeat ((first|refine b0x ?_|refine zy ?_);conv=>whnf))
 repeat' (first|refine zz ?_|refine qp i1 ?_|refine qp toC ?_|refine qp toC ?_|refine a9j.weak ?_|refine D7 (by simp [toC]) (by simp [toC];omega) ?_|refine zd ?_ ?_<;>intro h<;>try omega|refine zy ?_|fail)<;>conv=>whnf
 refine ⟨⟨[some 0,some 1,some 2],rfl,rfl,⟨⟨rfl,rfl,rfl,.inr ⟨⟨rfl,⟨rfl,rfl,rfl,fun h=>h⟩,trivial⟩,trivial⟩⟩,⟨rfl,rfl,rfl,.inl ⟨rfl,by simp [H4]⟩⟩,b8 rfl rfl rfl ?_ rfl,trivial⟩,trivial⟩⟩
 show List.take rows.length (toC (rows.map u0))++toC [u0 (u4 mv kind v)]=_
 exact at0 rfl
theorem bd5 {H:Hp} {id:Nat} {n:Int} {rows:List B8} (hs:H[2]? =some (a5e n id rows.length)) (hid:H[id]? =some (X8 rows)) (hne:id≠2) (hr:rows.length<=1000000) (mv:Nat) (kind:Int) (v:Rat):
 a8 Tryz.prog 64 [a7 .i64 mv,a7 .i64 kind,frS (fz v),.c (.ptr 2 0 0)] H (.tup []) (((H.set 2 (a5e n H.length (rows.length+1))).set id (b2y 94 6))++[X8 (rows++[u4 mv kind v])]):=by
 have h2:2<H.length:=(lbe.1 hs).1
 have hi:id<H.length:=(lbe.1 hid).1
 have ex:a38 [2,id] H.length 1=[2,id,H.length]:=by simp [a38]
 refine O0 [2,id] (b9G n rows hr mv kind v) rfl rfl rfl (by simp;omega) ?_ ?_ (by simp) rfl rfl (by simp) ?_ ?_
 ·intro i k hk
  match i,hk with
  |0,hk=>
   injection hk with hk
   subst hk
   exact ⟨rfl,rfl,by simp [okL,okC],_,hs,⟨rfl,rfl,rfl,rfl,by simp [a5Y,a0i,Q5]⟩⟩
  |1,hk=>
   injection hk with hk
   subst hk
   exact ⟨rfl,rfl,a3d _,_,hid,C4 rfl⟩
 ·intro k hk
  simp at hk
  rcases hk with rfl|rfl|rfl<;>(intro h;cases h)
 ·intro i k hk
  show ∃k',_[(a38 [2,id] H.length 1).getD i 0]? =some k'∧aA6 (a38 [2,id] H.length 1) k k'
  rw [ex]
  match i,hk with
  |0,hk=>
   injection hk with hk
   subst hk
   refine ⟨a5e n H.length (rows.length+1),?_,⟨rfl,rfl,rfl,rfl,by simp [a5Y,a0i,Q5]⟩⟩
   show (_++_)[2]? =_
   rw [lbb (by simp;omega),lbg,if_neg (by omega),lbg,if_pos rfl,if_pos h2]
  |1,hk=>
   injection hk with hk
   subst hk
   refine ⟨b2y 94 6,?_,⟨rfl,rfl,rfl,rfl,rfl⟩⟩
   show (_++_)[id]? =_
   rw [lbb (by simp;omega),lbg,if_pos rfl,if_pos (by simp;omega)]
  |2,hk=>
   injection hk with hk
   subst hk
   refine ⟨X8 (rows++[u4 mv kind v]),?_,C4 rfl⟩
   show (_++_)[H.length]? =_
   rw [lbc (by simp)]
   simp
 ·intro j hj hjn
  simp at hjn
  rw [lbb (by simp;omega),lbg,if_neg (by omega),lbg,if_neg (by omega)]
theorem a8t {l:List (Int × Rat)} {w:Int × Rat} {n:Nat} (h:n=l.length):List.take n (toC (l.map u6))++toC [u6 w]=toC ((l++[w]).map u6):=by
 rw [lbn (by simp [toC,h])]
 simp [toC]
theorem a2N {e:Ev} {p:Int} {k:Nat} {y:t7} (h:e.moves[k]? =some y):k9 e p (k+1)=if y.dst=p then k9 e p k++[((k:Int),((1:Int):Rat))] else if y.src=p then k9 e p k++[((k:Int),((-1:Int):Rat))] else k9 e p k:=by rw [k9,h]
theorem a4i {e:Ev} {p:Int}:∀k,(k9 e p k).length<=k
 |0=>by simp [k9]
 |k+1=>by
  have ih:=a4i (e:=e) (p:=p) k
  unfold k9
  cases e.moves[k]? with
  |none=>simp only;omega
  |some y=>
   simp only
   split
   ·simp;omega
   ·split
    ·simp;omega
    ·omega
set_option maxHeartbeats 4000000 in
theorem b7F (e:Ev) (h0:J4 e=0) {i:Nat} {x:t7} (hx:e.moves[i]? =some x):a8 Tryz.prog 65 [evS e,a7 .i64 i] [] (ba5 (w9 e i x)) []:=by
 obtain ⟨b1,b2,b3,b4⟩:=a0s h0
 have hi:i<e.moves.length:=(lbe.1 hx).1
 have m0:(e.moves.map t7.row).length=e.moves.length:=by simp
 have i0:=B3 0 (by decide) (by decide)
 have i1:=B3 1 (by decide) (by decide)
 have im:=B3 (-1) (by decide) (by decide)
 have tk:(e.moves.map t7.row).take i=(e.moves.take i).map t7.row:=(List.map_take ..).symm
 have tl:(e.moves.take i).length=i:=by simp;omega
 have mt:((e.moves.take i).map t7.row).length=i:=by simp;omega
 cases hal:x.all
 case' false=>have hK:(w9 e i x).kind=0:=by unfold w9;rw [hal];rfl
 case' true=>have hK:(w9 e i x).kind=2:=by unfold w9;rw [hal];rfl
 all_goals
  (refine ac Tryz.func65 ?_;(conv=>whnf);repeat ((first|refine b0x ?_|refine zy ?_);conv=>whnf))
  repeat' (first|refine zx ?_|refine qp i0 ?_|refine d6 hx ?_|refine a1A (by omega) (by omega) (by omega) ?_|refine zd ?_ ?_<;>intro h<;>try omega|fail)<;>conv=>whnf
  all_goals first
   |omega
   |(exfalso;simp_all;done)
   |skip
  refine i3 c9 (fun k=>([J,a7 .i64 i,J,J,S.c (C.ptr 0 0 0),S.c (C.ptr 1 0 0),S.c (C.ptr 2 0 0)]++Jn 15++[S.c (C.t (a2Z (e.moves.take i))),a7 .i64 i,a7 .i64 k]++Jn 40,[bk1,b7s x,bg5 3 (k9 e x.src k).length (w9 e i x).kind,a1X (k9 e x.src k)])) i (fun _=>True) [some 0,some 1,some 2,none] trivial ?_ ?_
  ·rw [hK]
   refine ⟨rfl,rfl,⟨⟨rfl,rfl,rfl,.inr ⟨⟨rfl,rfl,rfl,rfl,rfl,rfl,trivial⟩,trivial⟩⟩,⟨rfl,rfl,rfl,.inl ⟨rfl,a31 x⟩⟩,⟨rfl,rfl,rfl,.inr ⟨⟨⟨rfl,rfl,rfl⟩,rfl,rfl,rfl,rfl,rfl,trivial⟩,trivial⟩⟩,⟨rfl,rfl⟩,trivial⟩,⟨rfl,⟨rfl,rfl,rfl⟩,⟨rfl,rfl,rfl⟩,⟨rfl,rfl,rfl⟩,i8 ?_,c7 ?_,rfl,trivial⟩⟩
   ·show T.sl 6 _ (((e.moves.map t7.row).take ((i:Int)).toNat).drop 0)=_
    rw [lbY,tk];rfl
   ·show ((((e.moves.map t7.row).take ((i:Int)).toNat).drop 0).length:Int)=i
    rw [lbY,tk,ai9,mt]
  intro k hk _
  have kl:=a4i (e:=e) (p:=x.src) k
  by_cases hlt:k<i
  ·obtain ⟨y,hy⟩:∃y,e.moves[k]? =some y:=⟨_,lbf (by omega)⟩
   have hyt:(e.moves.take i)[k]? =some y:=by rw [lbi,if_pos hlt];exact hy
   by_cases c1:y.dst=x.src
   ·have et:k9 e x.src (k+1)=k9 e x.src k++[((k:Int),((1:Int):Rat))]:=by rw [a2N hy,if_pos c1]
    conv=>whnf
    repeat' (first|refine zx ?_|refine qp i1 ?_|refine qp toC ?_|refine qp toC ?_|refine d6 hyt ?_|refine D7 (by simp [toC]) (by simp [toC];omega) ?_|refine zd ?_ ?_<;>intro h<;>try omega|fail)<;>conv=>whnf
    all_goals try omega
    refine ⟨hlt,trivial,[some 0,some 1,some 2,some 5],rfl,rfl,⟨⟨rfl,rfl,rfl,.inr ⟨⟨rfl,rfl,rfl,rfl,rfl,rfl,trivial⟩,trivial⟩⟩,⟨rfl,rfl,rfl,.inl ⟨rfl,a31 x⟩⟩,⟨rfl,rfl,rfl,.inr ⟨⟨⟨rfl,rfl,?_,fun h=>h⟩,rfl,rfl,rfl,rfl,rfl,trivial⟩,trivial⟩⟩,b8 rfl rfl rfl ?_ rfl,trivial⟩,⟨rfl,⟨rfl,rfl,rfl⟩,⟨rfl,rfl,rfl⟩,⟨rfl,rfl,rfl⟩,rfl,rfl,rfl,trivial⟩⟩
    ·rw [et,lbq];rfl
    ·rw [et]
     show List.take (k9 e x.src k).length (toC ((k9 e x.src k).map u6))++toC [u6 ((k:Int),((1:Int):Rat))]=_
     exact a8t rfl
   ·by_cases c2:y.src=x.src
    ·have et:k9 e x.src (k+1)=k9 e x.src k++[((k:Int),((-1:Int):Rat))]:=by rw [a2N hy,if_neg c1,if_pos c2]
     conv=>whnf
     repeat' (first|refine zx ?_|refine qp im ?_|refine qp toC ?_|refine qp toC ?_|refine d6 hyt ?_|refine D7 (by simp [toC]) (by simp [toC];omega) ?_|refine zd ?_ ?_<;>intro h<;>try omega|fail)<;>conv=>whnf
     all_goals try omega
     refine ⟨hlt,trivial,[some 0,some 1,some 2,some 5],rfl,rfl,⟨⟨rfl,rfl,rfl,.inr ⟨⟨rfl,rfl,rfl,rfl,rfl,rfl,trivial⟩,trivial⟩⟩,⟨rfl,rfl,rfl,.inl ⟨rfl,a31 x⟩⟩,⟨rfl,rfl,rfl,.inr ⟨⟨⟨rfl,rfl,?_,fun h=>h⟩,rfl,rfl,rfl,rfl,rfl,trivial⟩,trivial⟩⟩,b8 rfl rfl rfl ?_ rfl,trivial⟩,⟨rfl,⟨rfl,rfl,rfl⟩,⟨rfl,rfl,rfl⟩,⟨rfl,rfl,rfl⟩,rfl,rfl,rfl,trivial⟩⟩
     ·rw [et,lbq];rfl
     ·rw [et]
      show List.take (k9 e x.src k).length (toC ((k9 e x.src k).map u6))++toC [u6 ((k:Int),((-1:Int):Rat))]=_
      exact a8t rfl
    ·have et:k9 e x.src (k+1)=k9 e x.src k:=by rw [a2N hy,if_neg c1,if_neg c2]
     conv=>whnf
     repeat' (first|refine zx ?_|refine d6 hyt ?_|refine zd ?_ ?_<;>intro h<;>try omega|fail)<;>conv=>whnf
     all_goals try omega
     refine ⟨hlt,trivial,[some 0,some 1,some 2,some 3],rfl,rfl,⟨⟨rfl,rfl,rfl,.inr ⟨⟨rfl,rfl,rfl,rfl,rfl,rfl,trivial⟩,trivial⟩⟩,⟨rfl,rfl,rfl,.inl ⟨rfl,a31 x⟩⟩,⟨rfl,rfl,rfl,.inr ⟨⟨⟨rfl,rfl,?_,fun h=>h⟩,rfl,rfl,rfl,rfl,rfl,trivial⟩,trivial⟩⟩,b8 rfl rfl rfl ?_ rfl,trivial⟩,⟨rfl,⟨rfl,rfl,rfl⟩,⟨rfl,rfl,rfl⟩,⟨rfl,rfl,rfl⟩,rfl,rfl,rfl,trivial⟩⟩
     ·rw [et]
     ·rw [et]
  ·have hke:k=i:=by omega
   subst hke
   conv=>whnf
   repeat' (first|refine zx ?_|refine qp im ?_|refine qp toC ?_|refine qp toC ?_|refine D7 (by simp [toC]) (by simp [toC];omega) ?_|refine zd ?_ ?_<;>intro h<;>try omega|fail)<;>conv=>whnf
   all_goals try omega
   refine l9 ⟨show VC _ (fun id=>N2 [] id=true) _ _ from y0 rfl rfl (by intro h;cases h) rfl (rows:=(k9 e x.src k++[((k:Int),((-1:Int):Rat))]).map u6) ?_ ?_,rfl,rfl,rfl,rfl,rfl,trivial⟩
   ·show List.take (k9 e x.src k).length (toC ((k9 e x.src k).map u6))++toC [u6 ((k:Int),((-1:Int):Rat))]=_
    exact a8t rfl
   ·rw [lbr,lbq];rfl
theorem a49 {e:Ev}:∀{l:List a02},Z9 e l=0->∀c ∈ l,0<=c.mv∧c.mv<e.moves.length
 |[],_,c,hc=>by cases hc
 |g::r,h,c,hc=>by
  unfold Z9 at h
  by_cases h1:a3t e g.mv g.kind≠0
  ·rw [if_pos h1] at h;exact absurd h h1
  rw [if_neg h1] at h
  rcases lbB.1 hc with rfl|hc
  ·unfold a3t at h1
   by_cases h3:c.mv<0∨(e.moves.length:Int)<=c.mv
   ·rw [if_pos h3] at h1;exact absurd (by decide) h1
   omega
  ·exact a49 h c hc
theorem b2Q {e:Ev} {Z:List Rat} (hZ:∀v ∈ Z,rl v<=200) (hm:e.moves.length<=200) {k:Nat} (hk:k<=200) (p:Nat):rl (D6 e Z k p)<=50000:=by
 have hB:∀l ∈ col Z,∀x ∈ l,rl x<=200:=fun l hl x hx=>by
  obtain ⟨v,hv,rfl⟩:=lby.1 hl
  simp at hx
  subst hx
  exact hZ x hv
 have:=b5g (e:=e) hB (by decide) k p 0
 have h2:=lbU (200+1) hk
 unfold D6
 omega
def hiR (o:Option (Rat × Rat)):Rat:=match o with
 |some (_,hi)=>hi
 |none=>0
theorem b4E {o:Option (Rat × Rat)} {lo hi:Rat} (h:o=some (lo,hi)):hi=hiR o:=by rw [h];rfl
theorem a6r {e:Ev} {x:t7} (h:(K9 e x).isSome=true):hiF (K9 e x)=fz (hiR (K9 e x))∧rl (hiR (K9 e x))<=200:=by
 cases hiv:K9 e x with
 |none=>rw [hiv] at h;cases h
 |some p=>
  obtain ⟨lo,hi⟩:=p
  refine ⟨rfl,?_⟩
  show rl hi<=200
  unfold K9 at hiv
  by_cases hs:x.scale=-1
  ·rw [if_pos hs] at hiv;cases hiv
  ·rw [if_neg hs] at hiv
   have:=(aN0 hiv).2
   omega
theorem b5L {t:j9} {kind:Int} {i:Nat} {x:t7} (hx:t.ev.moves[i]? =some x) (ht:T6 t.ev t.finds=0) (hl:t.finds.length<=1000000) (z:Rat) (hz:rl z<=200):
 a8 Tryz.prog 39 [.agg ((Q4 t kind i).map .t),frS (fz z)] [] (a7 .i64 (Z7 t kind i x z)) []:=by
 have h:=b3G (hiF (X3 t.ev i)) (X3 t.ev i).isSome (hiR (X3 t.ev i)) (g9 t.finds kind i) (j7 t.cleans kind i) z
  (by rw [a6G hx];exact a6r) hz (fun g hg=>by
    unfold g9 at hg
    obtain ⟨f,hf,rfl⟩:=lby.1 hg
    have:=U0 ht f (lbz.1 hf).1
    omega) (by unfold g9;rw [lbr];exact lbT (lbt _ _) hl)
 rw [b5u hx (fun lo hi' h=>(b4E h))] at h
 exact h
theorem aL6 {l:List Fr} {i:Nat} {y:Fr}:(toC (l.map j0)).set i (frC y)=toC ((l.set i y).map j0):=by simp [toC,a2Y,j0]
theorem b0w {n:Nat} {ρ:List (Option Nat)} {H:Hp}:a3N ρ H (List.replicate n [C.t (ti 0),C.t (.sl 0 .nil []),C.t (ti 0),C.t (.sl 0 .nil [])]) (toC ((a1m 0 n).map j0)):=by
 rw [b1m]
 refine a4I (by simp [toC]) fun i x y hx hy=>?_
 have hi:i<n:=by have:=(lbe.1 hx).1;simpa using this
 rw [lbk,if_pos hi] at hx
 injection hx with hx
 subst hx
 unfold toC at hy
 rw [lba,lba,lbk,if_pos hi] at hy
 injection hy with hy
 subst hy
 exact ⟨rfl,rfl,rfl,rfl,trivial⟩
theorem b3h {e:Ev} {Z:List Rat} {j k s d:Nat} {x:t7} {v:Rat} (hx:e.moves[j]? =some x) (hv:Z.getD j 0=v) (hs:x.src=s) (hd:x.dst=d) (hsk:s<k) (hdk:d<k) (hsd:s≠d):
 ((a5S k (D6 e Z j)).set s (fz (D6 e Z j s - v))).set d (fz (D6 e Z j d+v))=a5S k (D6 e Z (j+1)):=by
 rw [aQ9 hsk,aQ9 hdk]
 congr 1
 funext p
 rw [ap4 hx,hv]
 have c1:(x.src=(p:Int))↔p=s:=by omega
 have c2:(x.dst=(p:Int))↔p=d:=by omega
 simp only [c1,c2]
 by_cases h1:p=d
 ·subst h1
  rw [if_pos rfl,if_neg (fun h=>hsd h.symm),if_pos rfl]
 ·rw [if_neg h1]
  by_cases h2:p=s
  ·subst h2;rw [if_pos rfl,if_pos rfl]
  ·rw [if_neg h2,if_neg h2,if_neg h1]
theorem b3L {x y:Rat}:X4 x y=0↔x=y:=by
 have h1:=b2k (x:=x) (y:=y)
 have h2:=a6X (x:=x) (y:=y)
 constructor
 ·intro h
  have q1:x<=y:=h1.1 (by omega)
  have q2:¬x<y:=fun h'=>by have:=h2.2 h';omega
  grind
 ·intro h
  have q1:X4 x y<=0:=h1.2 (by grind)
  have q2:¬X4 x y<0:=fun h'=>by have:=h2.1 h';grind
  omega
set_option maxHeartbeats 4000000 in
theorem b6x (t:j9) (kind:Int) (z:List Fr) (hs:t.Sized) (hl:z.length<=1000000) (hd:∀f ∈ z,f.p.dl.length<=200∧f.q.dl.length<=200):
 a8 Tryz.prog 9 [trS t,a7 .i64 kind,k8 z] [] (a7 .i64 (P9 t kind z)) []:=by
 have ck:=a6E t hs
 have m1:(z.map j0).length=z.length:=by simp
 have m2:(t.ev.moves.map t7.row).length=t.ev.moves.length:=by simp
 have m3:(t.ev.places.map Place.row).length=t.ev.places.length:=by simp
 by_cases h1:q9 t≠0∨kind<0∨8<=kind
 ·have e1:P9 t kind z=1:=by unfold P9;rw [if_pos h1]
  rw [e1]
  (refine ac Tryz.func9 ?_;(conv=>whnf);repeat ((first|refine b0x ?_|refine zy ?_);conv=>whnf))
  repeat' (first|refine zx ?_|refine qp ck ?_|refine zd ?_ ?_<;>intro h<;>try omega|fail)<;>conv=>whnf
  all_goals first
   |omega
   |exact n6 rfl
 obtain ⟨k1,k2,k3⟩:q9 t=0∧0<=kind∧kind<8:=by omega
 rw [k1] at ck
 by_cases h2:z.length≠t.ev.moves.length
 ·have e1:P9 t kind z=2:=by unfold P9;rw [if_neg h1,if_pos h2]
  rw [e1]
  (refine ac Tryz.func9 ?_;(conv=>whnf);repeat ((first|refine b0x ?_|refine zy ?_);conv=>whnf))
  repeat' (first|refine zx ?_|refine qp ck ?_|refine zd ?_ ?_<;>intro h<;>try omega|fail)<;>conv=>whnf
  all_goals first
   |omega
   |exact n6 rfl
 have h2:z.length=t.ev.moves.length:=by omega
 have e1:P9 t kind z=if z.all o6 then S9 t kind (z.map fv) 0 t.ev.moves else 2:=by unfold P9;rw [if_neg h1,if_neg (by omega)]
 rw [e1]
 clear e1 h1
 obtain ⟨q1,q2,q3,q4,q5⟩:=O9 k1
 obtain ⟨b1,b2,b3,b4⟩:=a0s q1
 have kn:=b29 t kind hs q1 (fun f hf=>by have:=U0 q4 f hf;omega) (fun c hc=>a49 q5 c hc)
 have i0:=B3 0 (by decide) (by decide)
 (refine ac Tryz.func9 ?_;(conv=>whnf);repeat ((first|refine b0x ?_|refine zy ?_);conv=>whnf))
 repeat' (first|refine zx ?_|refine qp ck ?_|refine zd ?_ ?_<;>intro h<;>try omega|fail)<;>conv=>whnf
 all_goals try omega
 refine i3 c9 (fun k=>([J,a7 .i64 kind,k8 z,S.c (C.t (T.ptr (trT t))),J,J,J,S.c (C.ptr 0 0 0)]++Jn 28++[k8 z,a7 .i64 z.length,a7 .i64 k]++Jn 112,[evB t.ev])) z.length (fun k=>(z.take k).all o6=true) [some 0] rfl
  ⟨rfl,rfl,⟨⟨rfl,rfl,rfl,.inl ⟨rfl,j6 _⟩⟩,trivial⟩,⟨rfl,rfl,rfl,⟨rfl,rfl,rfl⟩,rfl,c7 (by simp),rfl,trivial⟩⟩ ?_
 intro k hk hI
 by_cases hlt:k<z.length
 ·obtain ⟨f,hf⟩:∃f,z[k]? =some f:=⟨_,lbf hlt⟩
  obtain ⟨d1,d2⟩:=hd f (lbm hf)
  have r:=a4k f (by omega) (by omega)
  cases hr:o6 f with
  |true=>
   rw [hr] at r
   conv=>whnf
   repeat' (first|refine zx ?_|refine qp r ?_|refine d6 hf ?_|refine zd ?_ ?_<;>intro h<;>try omega|fail)<;>conv=>whnf
   all_goals first
    |omega
    |exact ⟨hlt,by rw [x8 hf,hI,hr];rfl,[some 0],rfl,rfl,⟨⟨rfl,rfl,rfl,.inl ⟨rfl,j6 _⟩⟩,trivial⟩,⟨rfl,rfl,rfl,⟨rfl,rfl,rfl⟩,rfl,rfl,rfl,trivial⟩⟩
  |false=>
   rw [hr] at r
   rw [C2 hf hr]
   conv=>whnf
   repeat' (first|refine zx ?_|refine qp r ?_|refine d6 hf ?_|refine zd ?_ ?_<;>intro h<;>try omega|fail)<;>conv=>whnf
   all_goals first
    |omega
    |exact n6 rfl
 have hz:z.all o6=true:=by rw [← hI,lbn (by omega)]
 rw [if_pos hz]
 obtain ⟨Z,rfl⟩:=L5 hz
 rw [O7]
 have hZ:∀v ∈ Z,rl v<=200:=fun v hv=>by
  have:=hd (fz v) (lby.2 ⟨v,hv,rfl⟩)
  exact Nat.max_le.2 this
 have zl:Z.length=t.ev.moves.length:=by simpa using h2
 generalize hN:t.ev.places.length=N at *
 conv=>whnf
 repeat' (first|refine zx ?_|refine a5q (by omega) (by omega) (by omega) (by decide) ?_|refine zd ?_ ?_<;>intro h<;>try omega|fail)<;>conv=>whnf
 all_goals try omega
 clear hI hlt hk
 refine i3 c9 (fun k=>([J,a7 .i64 kind,k8 (Z.map fz),S.c (C.t (T.ptr (trT t))),J,J,J,S.c (C.ptr 0 0 0),J,J,S.c (C.own 1 0 N true)]++Jn 40++[a7 .i64 N,a7 .i64 k]++Jn 98,[evB t.ev,b84 (a1m k N)])) N (fun _=>True) [some 0,some 1] trivial ?_ ?_
 ·refine ⟨rfl,rfl,⟨⟨rfl,rfl,rfl,.inl ⟨rfl,j6 _⟩⟩,⟨rfl,rfl,rfl,.inr ?_⟩,trivial⟩,⟨rfl,rfl,rfl,⟨rfl,rfl,rfl⟩,⟨rfl,rfl,?_,fun h=>h⟩,c7 (by omega),rfl,trivial⟩⟩
  ·have e9:((((t.ev.places.map Place.row).length:Nat):Int)).toNat=N:=by omega
   show a3N _ _ (List.replicate ((((t.ev.places.map Place.row).length:Nat):Int)).toNat _) _
   rw [e9]
   exact b0w
  ·omega
 intro k hk _
 by_cases hlt:k<N
 ·have eM:0+(k:Int).toNat=k:=by omega
  obtain ⟨pf,hpf⟩:∃pf,(a1m k N)[k]? =some pf:=⟨_,a4H hlt⟩
  have gp:(a1m k N)[0+(k:Int).toNat]? =some pf:=by rw [eM];exact hpf
  conv=>whnf
  repeat' (first|refine zx ?_|refine qp i0 ?_|refine k7 gp ?_|refine zd ?_ ?_<;>intro h<;>try omega|fail)<;>conv=>whnf
  all_goals try omega
  refine ⟨hlt,trivial,[some 0,some 1],rfl,rfl,⟨⟨rfl,rfl,rfl,.inl ⟨rfl,j6 _⟩⟩,b8 rfl rfl rfl ?_ rfl,trivial⟩,⟨rfl,rfl,rfl,⟨rfl,rfl,rfl⟩,⟨rfl,rfl,rfl,fun h=>h⟩,rfl,rfl,trivial⟩⟩
  have e:=b54 (row:=a1m k N) (y:=fz zR) eM
  rw [b3c hlt] at e
  exact congrArg Blk.rows e
 have hke:k=N:=by omega
 subst hke
 conv=>whnf
 repeat' (first|refine zx ?_|refine qp kn ?_|refine zd ?_ ?_<;>intro h<;>try omega|fail)<;>conv=>whnf
 all_goals try omega
 clear hlt hk
 refine i3 c9 (fun j=>([J,J,k8 (Z.map fz),J,J,J,J,S.c (C.ptr 0 0 0),J,J,S.c (C.own 1 0 k true)]++Jn 51++[S.c (C.t (a0P t kind)),a7 .i64 t.ev.moves.length,a7 .i64 j]++Jn 86,[evB t.ev,b84 (a5S k (D6 t.ev Z j))])) t.ev.moves.length (fun j=>S9 t kind Z j (t.ev.moves.drop j)=S9 t kind Z 0 t.ev.moves) [some 0,some 1] rfl ?_ ?_
 ·refine ⟨rfl,rfl,⟨⟨rfl,rfl,rfl,.inl ⟨rfl,j6 _⟩⟩,b8 rfl rfl rfl ?_ rfl,trivial⟩,⟨rfl,⟨rfl,rfl,rfl⟩,⟨rfl,rfl,rfl,fun h=>h⟩,rfl,c7 (by simp),rfl,trivial⟩⟩
  rw [b2V]
  rfl
 intro j hj hI
 by_cases hlt:j<t.ev.moves.length
 ·obtain ⟨x,hx⟩:∃x,t.ev.moves[j]? =some x:=⟨_,lbf hlt⟩
  have hmo:=Y3 q1 (lbm hx)
  have ms:=a2I hmo
  have md:=b0K hmo
  have hne:x.src≠x.dst:=by unfold T7 at hmo;simp only [lbO,lbJ] at hmo;exact hmo.1.1.1.1.1.2
  obtain ⟨s,hsn⟩:∃s:Nat,x.src=s:=⟨x.src.toNat,by omega⟩
  obtain ⟨d,hdn⟩:∃d:Nat,x.dst=d:=⟨x.dst.toNat,by omega⟩
  have hsk:s<k:=by omega
  have hdk:d<k:=by omega
  have hsd:s≠d:=by omega
  obtain ⟨v,hv⟩:∃v,Z[j]? =some v:=⟨_,lbf (by omega)⟩
  have hvd:Z.getD j 0=v:=by rw [lbl,hv];rfl
  have bv:=hZ v (lbm hv)
  have bs:=b2Q (e:=t.ev) hZ b4 (k:=j) (by omega) s
  have bd:=b2Q (e:=t.ev) hZ b4 (k:=j) (by omega) d
  have cm:=J2 v (D6 t.ev Z j s) (by omega) (by omega)
  have sg:=D9 v (by omega)
  have sb:=b0T (D6 t.ev Z j s) v (by omega) (by omega)
  have ad:=a3j (D6 t.ev Z j d) v (by omega) (by omega)
  have bn:=b9v t.ev q1 hx
  have al:=b5L (kind:=kind) hx q4 hs.f v bv
  have gk:(List.range t.ev.moves.length)[j]? =some j:=lbh hlt
  have zk:=a2x Z hv
  have eS:0+x.src.toNat=s:=by omega
  have eD:0+x.dst.toNat=d:=by omega
  have xs:(a5S k (D6 t.ev Z j))[0+x.src.toNat]? =some (fz (D6 t.ev Z j s)):=by rw [eS];exact a7o hsk
  have xd:(a5S k (D6 t.ev Z j))[0+x.dst.toNat]? =some (fz (D6 t.ev Z j d)):=by rw [eD];exact a7o hdk
  have cg:=a04 (x:=v) (y:=D6 t.ev Z j s)
  have cz:=b3L (x:=v) (y:=D6 t.ev Z j s)
  have sn:=b1Q (x:=v)
  rw [a3K hx] at hI
  have hI:(if tAt t kind Z j x≠0 then tAt t kind Z j x else S9 t kind Z (j+1) (t.ev.moves.drop (j+1)))=S9 t kind Z 0 t.ev.moves:=hI
  have hta:tAt t kind Z j x=X9 t kind j x v (D6 t.ev Z j s):=by unfold tAt;rw [hvd,show x.src.toNat=s by omega]
  rw [hta] at hI
  have fin3:∀(c:Int) (H1:Hp),X9 t kind j x v (D6 t.ev Z j s)=c->c≠0->Fin 0 (a7 .i64 c) H1 (a7 .i64 (S9 t kind Z 0 t.ev.moves)) []:=fun c H1 h hc=>n6 (by rw [← hI,h,if_pos hc])
  generalize X4 v (D6 t.ev Z j s)=U at cm cg cz
  generalize sgR v=W at sg sn
  have hse:0+x.src.toNat≠0+x.dst.toNat:=by omega
  have e0:as1 t.ev x v (D6 t.ev Z j s)=if v<0 then 3 else if A7 t.ev x.src≠0∧D6 t.ev Z j s<v then 4 else if x.all=true∧v≠D6 t.ev Z j s then 7 else 0:=rfl
  by_cases c1:v<0
  ·have e3:X9 t kind j x v (D6 t.ev Z j s)=3:=by unfold X9;rw [e0,if_pos c1];rfl
   have w1:W<0:=sn.2 c1
   conv=>whnf
   repeat' (first|refine zx ?_|refine qp cm ?_|refine qp sg ?_|refine qp bn ?_|refine qp al ?_|refine qp sb ?_|refine qp ad ?_|refine qp 15 ?_|refine d6 hx ?_|refine d6 gk ?_|refine d6 zk ?_|refine k7 xs ?_|refine a2B hse xd ?_|refine bl0 [15] ?_|refine zd ?_ ?_<;>intro h<;>try omega|fail)<;>conv=>whnf
   all_goals first
    |omega
    |exact fin3 3 _ e3 (by decide)
  have w1:¬W<0:=fun h=>c1 (sn.1 h)
  rw [if_neg c1] at e0
  by_cases c2:A7 t.ev x.src≠0∧D6 t.ev Z j s<v
  ·have e3:X9 t kind j x v (D6 t.ev Z j s)=4:=by unfold X9;rw [e0,if_pos c2];rfl
   have w2:U > 0:=cg.2 c2.2
   rw [lbK c2.1] at bn
   conv=>whnf
   repeat' (first|refine zx ?_|refine qp cm ?_|refine qp sg ?_|refine qp bn ?_|refine qp al ?_|refine qp sb ?_|refine qp ad ?_|refine qp 15 ?_|refine d6 hx ?_|refine d6 gk ?_|refine d6 zk ?_|refine k7 xs ?_|refine a2B hse xd ?_|refine bl0 [15] ?_|refine zd ?_ ?_<;>intro h<;>try omega|fail)<;>conv=>whnf
   all_goals first
    |omega
    |exact fin3 4 _ e3 (by decide)
  rw [if_neg c2] at e0
  have w2:A7 t.ev x.src=0∨¬U > 0:=by
   by_cases h:A7 t.ev x.src=0
   ·exact .inl h
   ·exact .inr fun h'=>c2 ⟨h,cg.1 h'⟩
  by_cases c3:x.all=true∧v≠D6 t.ev Z j s
  ·have e3:X9 t kind j x v (D6 t.ev Z j s)=7:=by unfold X9;rw [e0,if_pos c3];rfl
   have w3:U≠0:=fun h=>c3.2 (cz.1 h)
   have w4:=c3.1
   by_cases hb:A7 t.ev x.src=0
   ·rw [lbI hb] at bn
    conv=>whnf
    repeat' (first|refine zx ?_|refine qp cm ?_|refine qp sg ?_|refine qp bn ?_|refine qp al ?_|refine qp sb ?_|refine qp ad ?_|refine qp 15 ?_|refine d6 hx ?_|refine d6 gk ?_|refine d6 zk ?_|refine k7 xs ?_|refine a2B hse xd ?_|refine bl0 [15] ?_|refine zd ?_ ?_<;>intro h<;>try omega|fail)<;>conv=>whnf
    all_goals first
     |omega
     |exact fin3 7 _ e3 (by decide)
     |(exfalso;simp_all;done)
   ·rw [lbK hb] at bn
    conv=>whnf
    repeat' (first|refine zx ?_|refine qp cm ?_|refine qp sg ?_|refine qp bn ?_|refine qp al ?_|refine qp sb ?_|refine qp ad ?_|refine qp 15 ?_|refine d6 hx ?_|refine d6 gk ?_|refine d6 zk ?_|refine k7 xs ?_|refine a2B hse xd ?_|refine bl0 [15] ?_|refine zd ?_ ?_<;>intro h<;>try omega|fail)<;>conv=>whnf
    all_goals first
     |omega
     |exact fin3 7 _ e3 (by decide)
     |(exfalso;simp_all;done)
  rw [if_neg c3] at e0
  have w3:x.all=false∨U=0:=by
   cases h:x.all with
   |false=>exact .inl rfl
   |true=>
    refine .inr (cz.2 ?_)
    by_cases h':v=D6 t.ev Z j s
    ·exact h'
    ·exact absurd ⟨h,h'⟩ c3
  have e3:X9 t kind j x v (D6 t.ev Z j s)=Z7 t kind j x v:=by unfold X9;rw [e0,if_neg (by simp)]
  have er:=b3h hx hvd hsn hdn hsk hdk hsd
  have bnx:a8 Tryz.prog 38 [evS t.ev,a7 .i64 j] [] (d9 (decide (A7 t.ev x.src=0))) []:=bn
  by_cases ha:Z7 t kind j x v≠0
  ·have fa:=fun H1=>fin3 _ H1 e3 ha
   generalize Z7 t kind j x v=Q at al ha fa
   rcases w3 with w3|w3
   all_goals
    by_cases hb:A7 t.ev x.src=0
    case' pos=>rw [lbI hb] at bn
    case' neg=>rw [lbK hb] at bn
    all_goals
     conv=>whnf
     repeat' (first|refine zx ?_|refine qp cm ?_|refine qp sg ?_|refine qp bn ?_|refine qp al ?_|refine qp sb ?_|refine qp ad ?_|refine qp 15 ?_|refine d6 hx ?_|refine d6 gk ?_|refine d6 zk ?_|refine k7 xs ?_|refine a2B hse xd ?_|refine bl0 [15] ?_|refine zd ?_ ?_<;>intro h<;>try omega|fail)<;>conv=>whnf
     all_goals first
      |omega
      |exact fa _
      |(exfalso;simp_all;done)
  ·have ha:Z7 t kind j x v=0:=by omega
   rw [e3,ha,if_neg (by simp)] at hI
   rw [ha] at al
   have nxt:((toC ((a5S k (D6 t.ev Z j)).map j0)).set (0+x.src.toNat) (frC (fz (D6 t.ev Z j s - v)))).set (0+x.dst.toNat) (frC (fz (D6 t.ev Z j d+v)))=toC ((a5S k (D6 t.ev Z (j+1))).map j0):=by
    rw [aL6,aL6,eS,eD,er]
   rcases w3 with w3|w3
   all_goals
    by_cases hb:A7 t.ev x.src=0
    case' pos=>rw [lbI hb] at bn
    case' neg=>rw [lbK hb] at bn
    all_goals
     conv=>whnf
     repeat' (first|refine zx ?_|refine qp cm ?_|refine qp sg ?_|refine qp bn ?_|refine qp al ?_|refine qp sb ?_|refine qp ad ?_|refine qp 15 ?_|refine d6 hx ?_|refine d6 gk ?_|refine d6 zk ?_|refine k7 xs ?_|refine a2B hse xd ?_|refine bl0 [15] ?_|refine zd ?_ ?_<;>intro h<;>try omega|fail)<;>conv=>whnf
     all_goals first
      |omega
      |exact ⟨hlt,hI,[some 0,some 1],rfl,rfl,⟨⟨rfl,rfl,rfl,.inl ⟨rfl,j6 _⟩⟩,b8 rfl rfl rfl nxt rfl,trivial⟩,⟨rfl,⟨rfl,rfl,rfl⟩,⟨rfl,rfl,rfl,fun h=>h⟩,rfl,rfl,rfl,trivial⟩⟩
      |(exfalso;simp_all;done)
 ·rw [lbo (by omega)] at hI
  have hI:0=S9 t kind Z 0 t.ev.moves:=hI
  conv=>whnf
  repeat' (first|refine zx ?_|refine zd ?_ ?_<;>intro h<;>try omega|fail)<;>conv=>whnf
  all_goals first
   |omega
   |exact n6 hI
theorem Z8 {H:Hp} {id len:Nat} {n:Int} {rows:List B8} {rs:List (List C)} {f:Fr} {v:Rat} (hf:f=fz v) (hs:H[2]? =some (a5e n id len)) (hid:H[id]? =some { mode:=.live,elem:=94,size:=6,rows:=rs,box:=false })
 (hlen:len=rows.length) (hrs:rs=toC (rows.map u0)) (hne:id≠2) (hr:rows.length<=1000000) (mv:Nat) (kind:Int):
 a8 Tryz.prog 64 [a7 .i64 mv,a7 .i64 kind,frS f,.c (.ptr 2 0 0)] H (.tup []) (((H.set 2 (a5e n H.length (rows.length+1))).set id (b2y 94 6))++[X8 (rows++[u4 mv kind v])]):=by
 subst hf;subst hlen;subst hrs;exact bd5 hs hid hne hr mv kind v
theorem ac1 {t:j9} {kind:Int} {k:Nat} (hk:k<=200) (hf:t.finds.length<=20) (hc:t.cleans.length<=50):(o9 t kind k).length<=14400:=by
 have h1:=a1G (t:=t) (kind:=kind) k
 have h2:=Nat.mul_le_mul hk (show 2+t.finds.length+t.cleans.length<=72 by omega)
 omega
abbrev aA3 (t:j9) (kind:Int) (i:Nat):Blk:={ mode:=.live,elem:=111,size:=7,rows:=[(Q4 t kind i).map .t],box:=true }
theorem Q2 {ρ:List (Option Nat)} {H:Hp}:∀rows:List (List T),a3N ρ H (rows.map (·.map C.t)) (rows.map (·.map C.t))
 |[]=>trivial
 |r::rs=>⟨M4 r,Q2 rs⟩
def a2P (t:j9) (kind:Int):Int:=if q9 t≠0∨kind<0∨8<=kind then 1 else 0
def aF6 (t:j9) (kind:Int):d7:=if q9 t≠0∨kind<0∨8<=kind then ⟨0,[]⟩ else g4 t kind
abbrev a7g:FuncId:=64
abbrev a6R:Blk:={ mode:=.live,elem:=86,size:=2,rows:=[[.t (ti 0),.t (K0 [])]],box:=true }
theorem b3s {P:Program} {f:FuncId} {args:List S} {H H1 H':Hp} {r s:S} (h:a8 P f args H r H1) (hf:Fin H.length r H1 s H'):a8 P f args H s H':=by
 refine ⟨h.1,fun w ι M vals hl hr hH hM hF=>?_⟩
 refine Calls.mono (h.2 w ι M vals hl hr hH hM hF) ?_
 rintro e w' ⟨v,rfl,ι',M',h4,hH',hM',hF',hst⟩
 obtain ⟨ρ,f1,f2,f3,f4⟩:=hf
 obtain ⟨g1,g2,g3⟩:=a30.all f1 f2 f3 rfl hM hH' hst
 exact ⟨v,rfl,K8 ρ ι',_,f4.rs hH' h4,g1,fun b hb=>hM' b hb.1,g2,g3⟩
set_option maxHeartbeats 4000000 in
theorem b3i (t:j9) (kind:Int) (hs:t.Sized) (h1:¬(q9 t≠0∨kind<0∨8<=kind)):a8 Tryz.prog 19 [trS t,a7 .i64 kind] [] (.tup [.agg [.t (ti t.ev.moves.length),.own 0 0 (g4 t kind).rows.length true],a7 .i64 0]) [X8 (g4 t kind).rows]:=by
 have ck:=a6E t hs
 have m2:(t.ev.moves.map t7.row).length=t.ev.moves.length:=by simp
 obtain ⟨k1,k2,k3⟩:q9 t=0∧0<=kind∧kind<8:=by omega
 rw [k1] at ck
 obtain ⟨q1,q2,q3,q4,q5⟩:=O9 k1
 obtain ⟨b1,b2,b3,b4⟩:=a0s q1
 have kn:=b29 t kind hs q1 (fun f hf=>by have:=U0 q4 f hf;omega) (fun c hc=>a49 q5 c hc)
 (refine ac Tryz.func19 ?_;(conv=>whnf);repeat ((first|refine b0x ?_|refine zy ?_);conv=>whnf))
 repeat' (first|refine zx ?_|refine qp ck ?_|refine qp kn ?_|refine zd ?_ ?_<;>intro h<;>try omega|fail)<;>conv=>whnf
 all_goals try omega
 refine i3 c9 (fun k=>([J,J,J,J,S.c (C.ptr 0 0 0),J,S.c (C.ptr 1 0 0),S.c (C.ptr 2 0 0),S.c (C.fn (Fn.func a7g) [C.ptr 2 0 0])]++Jn 25++[S.c (C.t (a0P t kind)),a7 .i64 t.ev.moves.length,a7 .i64 k]++Jn 47,[a6R,evB t.ev,a5e t.ev.moves.length 3 (o9 t kind k).length,X8 (o9 t kind k)])) t.ev.moves.length (fun _=>True) [some 0,some 1,some 2,none] trivial ?_ ?_
 ·refine ⟨rfl,rfl,⟨⟨rfl,rfl,rfl,.inr ⟨⟨rfl,rfl,trivial⟩,trivial⟩⟩,⟨rfl,rfl,rfl,.inl ⟨rfl,j6 _⟩⟩,⟨rfl,rfl,rfl,.inr ⟨⟨?_,⟨rfl,rfl,rfl⟩,trivial⟩,trivial⟩⟩,⟨rfl,rfl⟩,trivial⟩,⟨⟨rfl,rfl,rfl⟩,⟨rfl,rfl,rfl⟩,⟨rfl,rfl,rfl⟩,⟨rfl,⟨rfl,rfl,rfl⟩,trivial⟩,rfl,c7 (by simp),rfl,trivial⟩⟩
  exact aD8 (by rw [m2])
 intro k hk _
 by_cases hlt:k<t.ev.moves.length
 ·obtain ⟨x,hx⟩:∃x,t.ev.moves[k]? =some x:=⟨_,lbf hlt⟩
  have bn:=b9v t.ev q1 hx
  have st:=b7F t.ev q1 hx
  have gk:(List.range t.ev.moves.length)[k]? =some k:=lbh hlt
  have iv:X3 t.ev k=K9 t.ev x:=a6G hx
  have rl0:=ac1 (t:=t) (kind:=kind) (k:=k) (by omega) q2 q3
  have gl:(g9 t.finds kind k).length<=20:=by unfold g9;rw [lbr];exact lbT (lbt _ _) q2
  have cl:j7 t.cleans kind k<=50:=lbT (lbt _ _) q3
  have i0:=B3 0 (by decide) (by decide)
  obtain ⟨R1,hR1⟩:∃R1:List B8,R1=o9 t kind k++(if A7 t.ev x.src=0 then [] else [w9 t.ev k x])++N0 (K9 t.ev x) k:=⟨_,rfl⟩
  have l5:(o9 t kind k).length+1=(o9 t kind k++[w9 t.ev k x]).length:=by simp
  have r5:List.take (o9 t kind k).length (toC ((o9 t kind k).map u0))++toC [u0 (w9 t.ev k x)]=toC ((o9 t kind k++[w9 t.ev k x]).map u0):=at0 rfl
  have b5:(o9 t kind k++[w9 t.ev k x]).length<=1000000:=by simp;omega
  have b3:(o9 t kind k).length<=1000000:=by omega
  obtain ⟨G,hG⟩:∃G:Nat->List B8,∀j,G j=R1++((g9 t.finds kind k).take j).map (fun g:Int=>u4 k 0 (g:Rat)):=⟨_,fun _=>rfl⟩
  obtain ⟨K,hK⟩:∃K:Nat->List B8,∀j,K j=(R1++(g9 t.finds kind k).map (fun g:Int=>u4 k 0 (g:Rat)))++List.replicate j (u4 k 2 ((0:Int):Rat)):=⟨_,fun _=>rfl⟩
  have hG0:G 0=R1:=by rw [hG];simp
  have hK0:K 0=R1++(g9 t.finds kind k).map (fun g:Int=>u4 k 0 (g:Rat)):=by rw [hK];simp
  have hKe:o9 t kind (k+1)=K (j7 t.cleans kind k):=by
   rw [hK,hR1]
   show (match t.ev.moves[k]? with|none=>o9 t kind k|some x=>o9 t kind k++K2 t kind k x)=_
   rw [hx]
   unfold K2
   simp [lbE]
  have hKs:toC ((K (j7 t.cleans kind k)).map u0)=toC ((o9 t kind (k+1)).map u0)∧(K (j7 t.cleans kind k)).length=(o9 t kind (k+1)).length:=by rw [hKe];exact ⟨rfl,rfl⟩
  have hgr:∀g ∈ g9 t.finds kind k,1<=g∧g<=1099511627776:=fun g hg=>by
   unfold g9 at hg
   obtain ⟨f,hf,rfl⟩:=lby.1 hg
   have:=U0 q4 f (lbz.1 hf).1
   omega
  have hcr:N0 (K9 t.ev x) k=if (K9 t.ev x).isSome then [u4 k 1 (hiR (K9 t.ev x))] else []:=by cases K9 t.ev x<;>rfl
  cases hc:(K9 t.ev x).isSome<;>cases hb:decide (A7 t.ev x.src=0)<;>rw [hb] at bn
  ·have hci:(X3 t.ev k).isSome=false:=by rw [iv];exact hc
   rw [hc] at hcr
   have hcr:N0 (K9 t.ev x) k=[]:=hcr
   have eR:R1=o9 t kind k++[w9 t.ev k x]:=by rw [hR1,hcr];simp only [lbL,lbJ] at hb;simp [hb,lbE]
   have hRl:R1.length<=14500:=by rw [eR];(try simp);omega
   conv=>whnf
   repeat' (first|refine zx ?_|refine qp bn ?_|refine qp st ?_|refine qp toC ?_|refine qp toC ?_|refine d6 gk ?_|refine D7 (by simp [toC]) (by simp [toC];omega) ?_|refine zd ?_ ?_<;>intro h<;>try omega|fail)<;>conv=>whnf
   all_goals try omega
   all_goals try (rw [hci] at h;exact absurd h (by decide))
   refine i3 c9 (fun j=>([J,J,J,J,S.c (C.ptr 0 0 0),J,S.c (C.ptr 1 0 0),S.c (C.ptr 2 0 0),S.c (C.fn (Fn.func a7g) [C.ptr 2 0 0]),a7 .i64 k,S.c (C.ptr 4 0 0)]++Jn 23++[S.c (C.t (a0P t kind)),a7 .i64 t.ev.moves.length,a7 .i64 k]++Jn 24++[S.c (C.t (I3 (g9 t.finds kind k))),a7 .i64 (g9 t.finds kind k).length,a7 .i64 j]++Jn 20,[a6R,evB t.ev,a5e t.ev.moves.length 3 (G j).length,X8 (G j),aA3 t kind k])) (g9 t.finds kind k).length (fun _=>True) [some 0,some 1,some 2,some 5,some 4] trivial ⟨rfl,rfl,⟨⟨rfl,rfl,rfl,.inr ⟨⟨rfl,rfl,trivial⟩,trivial⟩⟩,⟨rfl,rfl,rfl,.inl ⟨rfl,j6 _⟩⟩,⟨rfl,rfl,rfl,.inr ⟨⟨rfl,⟨rfl,rfl,?_,fun h=>h⟩,trivial⟩,trivial⟩⟩,b8 rfl rfl rfl ?_ rfl,⟨rfl,rfl,rfl,.inr (Q2 [Q4 t kind k])⟩,trivial⟩,⟨⟨rfl,rfl,rfl⟩,⟨rfl,rfl,rfl⟩,⟨rfl,rfl,rfl⟩,⟨rfl,⟨rfl,rfl,rfl⟩,trivial⟩,rfl,⟨rfl,rfl,rfl⟩,rfl,rfl,rfl,rfl,c7 (by simp),rfl,trivial⟩⟩ ?_
   ·simp [hG0,eR,toC]
   ·rw [hG0,eR];exact r5
   intro j hj _
   have hGl:(G j).length<=1000000:=by rw [hG];simp [lbq];omega
   by_cases hjt:j<(g9 t.finds kind k).length
   ·obtain ⟨g,hg⟩:∃g,(g9 t.finds kind k)[j]? =some g:=⟨_,lbf hjt⟩
    have gb:=hgr g (lbm hg)
    have ig:=B3 g (by omega) (by omega)
    have eG:G (j+1)=G j++[u4 k 0 (g:Rat)]:=by rw [hG,hG,lbH,hg];simp
    conv=>whnf
    repeat' (first|refine zx ?_|refine qp ig ?_|refine d6 hg ?_|refine .inr ⟨_,_,Z8 (id:=3) rfl rfl rfl rfl rfl (by decide) hGl _ _,?_⟩|refine zd ?_ ?_<;>intro h<;>try omega|fail)<;>conv=>whnf
    all_goals try omega
    refine ⟨hjt,trivial,[some 0,some 1,some 2,some 5,some 4],rfl,rfl,⟨⟨rfl,rfl,rfl,.inr ⟨⟨rfl,rfl,trivial⟩,trivial⟩⟩,⟨rfl,rfl,rfl,.inl ⟨rfl,j6 _⟩⟩,⟨rfl,rfl,rfl,.inr ⟨⟨rfl,⟨rfl,rfl,?_,fun h=>h⟩,trivial⟩,trivial⟩⟩,b8 rfl rfl rfl ?_ rfl,⟨rfl,rfl,rfl,.inr (Q2 [Q4 t kind k])⟩,trivial⟩,⟨⟨rfl,rfl,rfl⟩,⟨rfl,rfl,rfl⟩,⟨rfl,rfl,rfl⟩,⟨rfl,⟨rfl,rfl,rfl⟩,trivial⟩,rfl,⟨rfl,rfl,rfl⟩,rfl,rfl,rfl,rfl,rfl,rfl,trivial⟩⟩
    ·rw [eG];simp
    ·rw [eG]
   have hje:j=(g9 t.finds kind k).length:=by omega
   subst hje
   have hGe:G (g9 t.finds kind k).length=R1++(g9 t.finds kind k).map (fun g:Int=>u4 k 0 (g:Rat)):=by rw [hG,lbn (lbS _)]
   conv=>whnf
   repeat' (first|refine zx ?_|refine zd ?_ ?_<;>intro h<;>try omega|fail)<;>conv=>whnf
   all_goals try omega
   refine i3 c9 (fun j=>([J,J,J,J,S.c (C.ptr 0 0 0),J,S.c (C.ptr 1 0 0),S.c (C.ptr 2 0 0),S.c (C.fn (Fn.func a7g) [C.ptr 2 0 0]),a7 .i64 k]++Jn 24++[S.c (C.t (a0P t kind)),a7 .i64 t.ev.moves.length,a7 .i64 k]++Jn 37++[a7 .i64 (j7 t.cleans kind k),a7 .i64 j]++Jn 8,[a6R,evB t.ev,a5e t.ev.moves.length 3 (K j).length,X8 (K j)])) (j7 t.cleans kind k) (fun _=>True) [some 0,some 1,some 2,some 3] trivial ⟨rfl,rfl,⟨⟨rfl,rfl,rfl,.inr ⟨⟨rfl,rfl,trivial⟩,trivial⟩⟩,⟨rfl,rfl,rfl,.inl ⟨rfl,j6 _⟩⟩,⟨rfl,rfl,rfl,.inr ⟨⟨rfl,⟨rfl,rfl,?_,fun h=>h⟩,trivial⟩,trivial⟩⟩,b8 rfl rfl rfl ?_ rfl,trivial⟩,⟨⟨rfl,rfl,rfl⟩,⟨rfl,rfl,rfl⟩,⟨rfl,rfl,rfl⟩,⟨rfl,⟨rfl,rfl,rfl⟩,trivial⟩,rfl,rfl,rfl,rfl,rfl,rfl,trivial⟩⟩ ?_
   ·rw [hK0,hGe]
   ·rw [hK0,hGe]
   clear hj hjt
   intro j hj _
   have hKl:(K j).length<=1000000:=by rw [hK];simp [lbq];omega
   by_cases hjt:j<j7 t.cleans kind k
   ·have eK:K (j+1)=K j++[u4 k 2 ((0:Int):Rat)]:=by rw [hK,hK,ak5];simp
    conv=>whnf
    repeat' (first|refine zx ?_|refine qp i0 ?_|refine .inr ⟨_,_,Z8 (id:=3) rfl rfl rfl rfl rfl (by decide) hKl _ _,?_⟩|refine zd ?_ ?_<;>intro h<;>try omega|fail)<;>conv=>whnf
    all_goals try omega
    refine ⟨hjt,trivial,[some 0,some 1,some 2,some 4],rfl,rfl,⟨⟨rfl,rfl,rfl,.inr ⟨⟨rfl,rfl,trivial⟩,trivial⟩⟩,⟨rfl,rfl,rfl,.inl ⟨rfl,j6 _⟩⟩,⟨rfl,rfl,rfl,.inr ⟨⟨rfl,⟨rfl,rfl,?_,fun h=>h⟩,trivial⟩,trivial⟩⟩,b8 rfl rfl rfl ?_ rfl,trivial⟩,⟨⟨rfl,rfl,rfl⟩,⟨rfl,rfl,rfl⟩,⟨rfl,rfl,rfl⟩,⟨rfl,⟨rfl,rfl,rfl⟩,trivial⟩,rfl,rfl,rfl,rfl,rfl,rfl,trivial⟩⟩
    ·rw [eK];simp
    ·rw [eK]
   have hje:j=j7 t.cleans kind k:=by omega
   subst hje
   conv=>whnf
   repeat' (first|refine zx ?_|refine zd ?_ ?_<;>intro h<;>try omega|fail)<;>conv=>whnf
   all_goals try omega
   exact ⟨hlt,trivial,[some 0,some 1,some 2,some 3],rfl,rfl,⟨⟨rfl,rfl,rfl,.inr ⟨⟨rfl,rfl,trivial⟩,trivial⟩⟩,⟨rfl,rfl,rfl,.inl ⟨rfl,j6 _⟩⟩,⟨rfl,rfl,rfl,.inr ⟨⟨rfl,⟨rfl,rfl,hKs.2,fun h=>h⟩,trivial⟩,trivial⟩⟩,b8 rfl rfl rfl hKs.1 rfl,trivial⟩,⟨⟨rfl,rfl,rfl⟩,⟨rfl,rfl,rfl⟩,⟨rfl,rfl,rfl⟩,⟨rfl,⟨rfl,rfl,rfl⟩,trivial⟩,rfl,rfl,rfl,trivial⟩⟩
  ·have hci:(X3 t.ev k).isSome=false:=by rw [iv];exact hc
   rw [hc] at hcr
   have hcr:N0 (K9 t.ev x) k=[]:=hcr
   have eR:R1=o9 t kind k:=by rw [hR1,hcr];simp only [lbL,lbJ] at hb;simp [hb,lbE]
   have hRl:R1.length<=14500:=by rw [eR];(try simp);omega
   conv=>whnf
   repeat' (first|refine zx ?_|refine qp bn ?_|refine qp st ?_|refine qp toC ?_|refine qp toC ?_|refine d6 gk ?_|refine D7 (by simp [toC]) (by simp [toC];omega) ?_|refine zd ?_ ?_<;>intro h<;>try omega|fail)<;>conv=>whnf
   all_goals try omega
   all_goals try (rw [hci] at h;exact absurd h (by decide))
   refine i3 c9 (fun j=>([J,J,J,J,S.c (C.ptr 0 0 0),J,S.c (C.ptr 1 0 0),S.c (C.ptr 2 0 0),S.c (C.fn (Fn.func a7g) [C.ptr 2 0 0]),a7 .i64 k,S.c (C.ptr 4 0 0)]++Jn 23++[S.c (C.t (a0P t kind)),a7 .i64 t.ev.moves.length,a7 .i64 k]++Jn 24++[S.c (C.t (I3 (g9 t.finds kind k))),a7 .i64 (g9 t.finds kind k).length,a7 .i64 j]++Jn 20,[a6R,evB t.ev,a5e t.ev.moves.length 3 (G j).length,X8 (G j),aA3 t kind k])) (g9 t.finds kind k).length (fun _=>True) [some 0,some 1,some 2,some 3,some 4] trivial ⟨rfl,rfl,⟨⟨rfl,rfl,rfl,.inr ⟨⟨rfl,rfl,trivial⟩,trivial⟩⟩,⟨rfl,rfl,rfl,.inl ⟨rfl,j6 _⟩⟩,⟨rfl,rfl,rfl,.inr ⟨⟨rfl,⟨rfl,rfl,?_,fun h=>h⟩,trivial⟩,trivial⟩⟩,b8 rfl rfl rfl ?_ rfl,⟨rfl,rfl,rfl,.inr (Q2 [Q4 t kind k])⟩,trivial⟩,⟨⟨rfl,rfl,rfl⟩,⟨rfl,rfl,rfl⟩,⟨rfl,rfl,rfl⟩,⟨rfl,⟨rfl,rfl,rfl⟩,trivial⟩,rfl,⟨rfl,rfl,rfl⟩,rfl,rfl,rfl,rfl,c7 (by simp),rfl,trivial⟩⟩ ?_
   ·simp [hG0,eR,toC]
   ·rw [hG0,eR]<;>rfl
   intro j hj _
   have hGl:(G j).length<=1000000:=by rw [hG];simp [lbq];omega
   by_cases hjt:j<(g9 t.finds kind k).length
   ·obtain ⟨g,hg⟩:∃g,(g9 t.finds kind k)[j]? =some g:=⟨_,lbf hjt⟩
    have gb:=hgr g (lbm hg)
    have ig:=B3 g (by omega) (by omega)
    have eG:G (j+1)=G j++[u4 k 0 (g:Rat)]:=by rw [hG,hG,lbH,hg];simp
    conv=>whnf
    repeat' (first|refine zx ?_|refine qp ig ?_|refine d6 hg ?_|refine .inr ⟨_,_,Z8 (id:=3) rfl rfl rfl rfl rfl (by decide) hGl _ _,?_⟩|refine zd ?_ ?_<;>intro h<;>try omega|fail)<;>conv=>whnf
    all_goals try omega
    refine ⟨hjt,trivial,[some 0,some 1,some 2,some 5,some 4],rfl,rfl,⟨⟨rfl,rfl,rfl,.inr ⟨⟨rfl,rfl,trivial⟩,trivial⟩⟩,⟨rfl,rfl,rfl,.inl ⟨rfl,j6 _⟩⟩,⟨rfl,rfl,rfl,.inr ⟨⟨rfl,⟨rfl,rfl,?_,fun h=>h⟩,trivial⟩,trivial⟩⟩,b8 rfl rfl rfl ?_ rfl,⟨rfl,rfl,rfl,.inr (Q2 [Q4 t kind k])⟩,trivial⟩,⟨⟨rfl,rfl,rfl⟩,⟨rfl,rfl,rfl⟩,⟨rfl,rfl,rfl⟩,⟨rfl,⟨rfl,rfl,rfl⟩,trivial⟩,rfl,⟨rfl,rfl,rfl⟩,rfl,rfl,rfl,rfl,rfl,rfl,trivial⟩⟩
    ·rw [eG];simp
    ·rw [eG]
   have hje:j=(g9 t.finds kind k).length:=by omega
   subst hje
   have hGe:G (g9 t.finds kind k).length=R1++(g9 t.finds kind k).map (fun g:Int=>u4 k 0 (g:Rat)):=by rw [hG,lbn (lbS _)]
   conv=>whnf
   repeat' (first|refine zx ?_|refine zd ?_ ?_<;>intro h<;>try omega|fail)<;>conv=>whnf
   all_goals try omega
   refine i3 c9 (fun j=>([J,J,J,J,S.c (C.ptr 0 0 0),J,S.c (C.ptr 1 0 0),S.c (C.ptr 2 0 0),S.c (C.fn (Fn.func a7g) [C.ptr 2 0 0]),a7 .i64 k]++Jn 24++[S.c (C.t (a0P t kind)),a7 .i64 t.ev.moves.length,a7 .i64 k]++Jn 37++[a7 .i64 (j7 t.cleans kind k),a7 .i64 j]++Jn 8,[a6R,evB t.ev,a5e t.ev.moves.length 3 (K j).length,X8 (K j)])) (j7 t.cleans kind k) (fun _=>True) [some 0,some 1,some 2,some 3] trivial ⟨rfl,rfl,⟨⟨rfl,rfl,rfl,.inr ⟨⟨rfl,rfl,trivial⟩,trivial⟩⟩,⟨rfl,rfl,rfl,.inl ⟨rfl,j6 _⟩⟩,⟨rfl,rfl,rfl,.inr ⟨⟨rfl,⟨rfl,rfl,?_,fun h=>h⟩,trivial⟩,trivial⟩⟩,b8 rfl rfl rfl ?_ rfl,trivial⟩,⟨⟨rfl,rfl,rfl⟩,⟨rfl,rfl,rfl⟩,⟨rfl,rfl,rfl⟩,⟨rfl,⟨rfl,rfl,rfl⟩,trivial⟩,rfl,rfl,rfl,rfl,rfl,rfl,trivial⟩⟩ ?_
   ·rw [hK0,hGe]
   ·rw [hK0,hGe]
   clear hj hjt
   intro j hj _
   have hKl:(K j).length<=1000000:=by rw [hK];simp [lbq];omega
   by_cases hjt:j<j7 t.cleans kind k
   ·have eK:K (j+1)=K j++[u4 k 2 ((0:Int):Rat)]:=by rw [hK,hK,ak5];simp
    conv=>whnf
    repeat' (first|refine zx ?_|refine qp i0 ?_|refine .inr ⟨_,_,Z8 (id:=3) rfl rfl rfl rfl rfl (by decide) hKl _ _,?_⟩|refine zd ?_ ?_<;>intro h<;>try omega|fail)<;>conv=>whnf
    all_goals try omega
    refine ⟨hjt,trivial,[some 0,some 1,some 2,some 4],rfl,rfl,⟨⟨rfl,rfl,rfl,.inr ⟨⟨rfl,rfl,trivial⟩,trivial⟩⟩,⟨rfl,rfl,rfl,.inl ⟨rfl,j6 _⟩⟩,⟨rfl,rfl,rfl,.inr ⟨⟨rfl,⟨rfl,rfl,?_,fun h=>h⟩,trivial⟩,trivial⟩⟩,b8 rfl rfl rfl ?_ rfl,trivial⟩,⟨⟨rfl,rfl,rfl⟩,⟨rfl,rfl,rfl⟩,⟨rfl,rfl,rfl⟩,⟨rfl,⟨rfl,rfl,rfl⟩,trivial⟩,rfl,rfl,rfl,rfl,rfl,rfl,trivial⟩⟩
    ·rw [eK];simp
    ·rw [eK]
   have hje:j=j7 t.cleans kind k:=by omega
   subst hje
   conv=>whnf
   repeat' (first|refine zx ?_|refine zd ?_ ?_<;>intro h<;>try omega|fail)<;>conv=>whnf
   all_goals try omega
   exact ⟨hlt,trivial,[some 0,some 1,some 2,some 3],rfl,rfl,⟨⟨rfl,rfl,rfl,.inr ⟨⟨rfl,rfl,trivial⟩,trivial⟩⟩,⟨rfl,rfl,rfl,.inl ⟨rfl,j6 _⟩⟩,⟨rfl,rfl,rfl,.inr ⟨⟨rfl,⟨rfl,rfl,hKs.2,fun h=>h⟩,trivial⟩,trivial⟩⟩,b8 rfl rfl rfl hKs.1 rfl,trivial⟩,⟨⟨rfl,rfl,rfl⟩,⟨rfl,rfl,rfl⟩,⟨rfl,rfl,rfl⟩,⟨rfl,⟨rfl,rfl,rfl⟩,trivial⟩,rfl,rfl,rfl,trivial⟩⟩
  ·have hci:(X3 t.ev k).isSome=true:=by rw [iv];exact hc
   rw [hc] at hcr
   have hcr:N0 (K9 t.ev x) k=[u4 k 1 (hiR (K9 t.ev x))]:=hcr
   have eR:R1=(o9 t kind k++[w9 t.ev k x])++[u4 k 1 (hiR (K9 t.ev x))]:=by rw [hR1,hcr];simp only [lbL,lbJ] at hb;simp [hb,lbE]
   have hRl:R1.length<=14500:=by rw [eR];(try simp);omega
   have hfv:hiF (X3 t.ev k)=fz (hiR (K9 t.ev x)):=by rw [iv];exact (a6r hc).1
   conv=>whnf
   repeat' (first|refine zx ?_|refine qp bn ?_|refine qp st ?_|refine qp toC ?_|refine qp toC ?_|refine d6 gk ?_|refine D7 (by simp [toC]) (by simp [toC];omega) ?_|refine .inr ⟨_,_,Z8 (id:=5) hfv rfl rfl l5 r5 (by decide) b5 _ _,?_⟩|refine zd ?_ ?_<;>intro h<;>try omega|fail)<;>conv=>whnf
   all_goals try omega
   all_goals try (rw [hci] at h;exact absurd h (by decide))
   refine i3 c9 (fun j=>([J,J,J,J,S.c (C.ptr 0 0 0),J,S.c (C.ptr 1 0 0),S.c (C.ptr 2 0 0),S.c (C.fn (Fn.func a7g) [C.ptr 2 0 0]),a7 .i64 k,S.c (C.ptr 4 0 0)]++Jn 23++[S.c (C.t (a0P t kind)),a7 .i64 t.ev.moves.length,a7 .i64 k]++Jn 24++[S.c (C.t (I3 (g9 t.finds kind k))),a7 .i64 (g9 t.finds kind k).length,a7 .i64 j]++Jn 20,[a6R,evB t.ev,a5e t.ev.moves.length 3 (G j).length,X8 (G j),aA3 t kind k])) (g9 t.finds kind k).length (fun _=>True) [some 0,some 1,some 2,some 6,some 4] trivial ⟨rfl,rfl,⟨⟨rfl,rfl,rfl,.inr ⟨⟨rfl,rfl,trivial⟩,trivial⟩⟩,⟨rfl,rfl,rfl,.inl ⟨rfl,j6 _⟩⟩,⟨rfl,rfl,rfl,.inr ⟨⟨rfl,⟨rfl,rfl,?_,fun h=>h⟩,trivial⟩,trivial⟩⟩,b8 rfl rfl rfl ?_ rfl,⟨rfl,rfl,rfl,.inr (Q2 [Q4 t kind k])⟩,trivial⟩,⟨⟨rfl,rfl,rfl⟩,⟨rfl,rfl,rfl⟩,⟨rfl,rfl,rfl⟩,⟨rfl,⟨rfl,rfl,rfl⟩,trivial⟩,rfl,⟨rfl,rfl,rfl⟩,rfl,rfl,rfl,rfl,c7 (by simp),rfl,trivial⟩⟩ ?_
   ·simp [hG0,eR,toC]
   ·rw [hG0,eR]<;>rfl
   intro j hj _
   have hGl:(G j).length<=1000000:=by rw [hG];simp [lbq];omega
   by_cases hjt:j<(g9 t.finds kind k).length
   ·obtain ⟨g,hg⟩:∃g,(g9 t.finds kind k)[j]? =some g:=⟨_,lbf hjt⟩
    have gb:=hgr g (lbm hg)
    have ig:=B3 g (by omega) (by omega)
    have eG:G (j+1)=G j++[u4 k 0 (g:Rat)]:=by rw [hG,hG,lbH,hg];simp
    conv=>whnf
    repeat' (first|refine zx ?_|refine qp ig ?_|refine d6 hg ?_|refine .inr ⟨_,_,Z8 (id:=3) rfl rfl rfl rfl rfl (by decide) hGl _ _,?_⟩|refine zd ?_ ?_<;>intro h<;>try omega|fail)<;>conv=>whnf
    all_goals try omega
    refine ⟨hjt,trivial,[some 0,some 1,some 2,some 5,some 4],rfl,rfl,⟨⟨rfl,rfl,rfl,.inr ⟨⟨rfl,rfl,trivial⟩,trivial⟩⟩,⟨rfl,rfl,rfl,.inl ⟨rfl,j6 _⟩⟩,⟨rfl,rfl,rfl,.inr ⟨⟨rfl,⟨rfl,rfl,?_,fun h=>h⟩,trivial⟩,trivial⟩⟩,b8 rfl rfl rfl ?_ rfl,⟨rfl,rfl,rfl,.inr (Q2 [Q4 t kind k])⟩,trivial⟩,⟨⟨rfl,rfl,rfl⟩,⟨rfl,rfl,rfl⟩,⟨rfl,rfl,rfl⟩,⟨rfl,⟨rfl,rfl,rfl⟩,trivial⟩,rfl,⟨rfl,rfl,rfl⟩,rfl,rfl,rfl,rfl,rfl,rfl,trivial⟩⟩
    ·rw [eG];simp
    ·rw [eG]
   have hje:j=(g9 t.finds kind k).length:=by omega
   subst hje
   have hGe:G (g9 t.finds kind k).length=R1++(g9 t.finds kind k).map (fun g:Int=>u4 k 0 (g:Rat)):=by rw [hG,lbn (lbS _)]
   conv=>whnf
   repeat' (first|refine zx ?_|refine zd ?_ ?_<;>intro h<;>try omega|fail)<;>conv=>whnf
   all_goals try omega
   refine i3 c9 (fun j=>([J,J,J,J,S.c (C.ptr 0 0 0),J,S.c (C.ptr 1 0 0),S.c (C.ptr 2 0 0),S.c (C.fn (Fn.func a7g) [C.ptr 2 0 0]),a7 .i64 k]++Jn 24++[S.c (C.t (a0P t kind)),a7 .i64 t.ev.moves.length,a7 .i64 k]++Jn 37++[a7 .i64 (j7 t.cleans kind k),a7 .i64 j]++Jn 8,[a6R,evB t.ev,a5e t.ev.moves.length 3 (K j).length,X8 (K j)])) (j7 t.cleans kind k) (fun _=>True) [some 0,some 1,some 2,some 3] trivial ⟨rfl,rfl,⟨⟨rfl,rfl,rfl,.inr ⟨⟨rfl,rfl,trivial⟩,trivial⟩⟩,⟨rfl,rfl,rfl,.inl ⟨rfl,j6 _⟩⟩,⟨rfl,rfl,rfl,.inr ⟨⟨rfl,⟨rfl,rfl,?_,fun h=>h⟩,trivial⟩,trivial⟩⟩,b8 rfl rfl rfl ?_ rfl,trivial⟩,⟨⟨rfl,rfl,rfl⟩,⟨rfl,rfl,rfl⟩,⟨rfl,rfl,rfl⟩,⟨rfl,⟨rfl,rfl,rfl⟩,trivial⟩,rfl,rfl,rfl,rfl,rfl,rfl,trivial⟩⟩ ?_
   ·rw [hK0,hGe]
   ·rw [hK0,hGe]
   clear hj hjt
   intro j hj _
   have hKl:(K j).length<=1000000:=by rw [hK];simp [lbq];omega
   by_cases hjt:j<j7 t.cleans kind k
   ·have eK:K (j+1)=K j++[u4 k 2 ((0:Int):Rat)]:=by rw [hK,hK,ak5];simp
    conv=>whnf
    repeat' (first|refine zx ?_|refine qp i0 ?_|refine .inr ⟨_,_,Z8 (id:=3) rfl rfl rfl rfl rfl (by decide) hKl _ _,?_⟩|refine zd ?_ ?_<;>intro h<;>try omega|fail)<;>conv=>whnf
    all_goals try omega
    refine ⟨hjt,trivial,[some 0,some 1,some 2,some 4],rfl,rfl,⟨⟨rfl,rfl,rfl,.inr ⟨⟨rfl,rfl,trivial⟩,trivial⟩⟩,⟨rfl,rfl,rfl,.inl ⟨rfl,j6 _⟩⟩,⟨rfl,rfl,rfl,.inr ⟨⟨rfl,⟨rfl,rfl,?_,fun h=>h⟩,trivial⟩,trivial⟩⟩,b8 rfl rfl rfl ?_ rfl,trivial⟩,⟨⟨rfl,rfl,rfl⟩,⟨rfl,rfl,rfl⟩,⟨rfl,rfl,rfl⟩,⟨rfl,⟨rfl,rfl,rfl⟩,trivial⟩,rfl,rfl,rfl,rfl,rfl,rfl,trivial⟩⟩
    ·rw [eK];simp
    ·rw [eK]
   have hje:j=j7 t.cleans kind k:=by omega
   subst hje
   conv=>whnf
   repeat' (first|refine zx ?_|refine zd ?_ ?_<;>intro h<;>try omega|fail)<;>conv=>whnf
   all_goals try omega
   exact ⟨hlt,trivial,[some 0,some 1,some 2,some 3],rfl,rfl,⟨⟨rfl,rfl,rfl,.inr ⟨⟨rfl,rfl,trivial⟩,trivial⟩⟩,⟨rfl,rfl,rfl,.inl ⟨rfl,j6 _⟩⟩,⟨rfl,rfl,rfl,.inr ⟨⟨rfl,⟨rfl,rfl,hKs.2,fun h=>h⟩,trivial⟩,trivial⟩⟩,b8 rfl rfl rfl hKs.1 rfl,trivial⟩,⟨⟨rfl,rfl,rfl⟩,⟨rfl,rfl,rfl⟩,⟨rfl,rfl,rfl⟩,⟨rfl,⟨rfl,rfl,rfl⟩,trivial⟩,rfl,rfl,rfl,trivial⟩⟩
  ·have hci:(X3 t.ev k).isSome=true:=by rw [iv];exact hc
   rw [hc] at hcr
   have hcr:N0 (K9 t.ev x) k=[u4 k 1 (hiR (K9 t.ev x))]:=hcr
   have eR:R1=o9 t kind k++[u4 k 1 (hiR (K9 t.ev x))]:=by rw [hR1,hcr];simp only [lbL,lbJ] at hb;simp [hb,lbE]
   have hRl:R1.length<=14500:=by rw [eR];(try simp);omega
   have hfv:hiF (X3 t.ev k)=fz (hiR (K9 t.ev x)):=by rw [iv];exact (a6r hc).1
   conv=>whnf
   repeat' (first|refine zx ?_|refine qp bn ?_|refine qp st ?_|refine qp toC ?_|refine qp toC ?_|refine d6 gk ?_|refine D7 (by simp [toC]) (by simp [toC];omega) ?_|refine .inr ⟨_,_,Z8 (id:=3) hfv rfl rfl rfl rfl (by decide) b3 _ _,?_⟩|refine zd ?_ ?_<;>intro h<;>try omega|fail)<;>conv=>whnf
   all_goals try omega
   all_goals try (rw [hci] at h;exact absurd h (by decide))
   refine i3 c9 (fun j=>([J,J,J,J,S.c (C.ptr 0 0 0),J,S.c (C.ptr 1 0 0),S.c (C.ptr 2 0 0),S.c (C.fn (Fn.func a7g) [C.ptr 2 0 0]),a7 .i64 k,S.c (C.ptr 4 0 0)]++Jn 23++[S.c (C.t (a0P t kind)),a7 .i64 t.ev.moves.length,a7 .i64 k]++Jn 24++[S.c (C.t (I3 (g9 t.finds kind k))),a7 .i64 (g9 t.finds kind k).length,a7 .i64 j]++Jn 20,[a6R,evB t.ev,a5e t.ev.moves.length 3 (G j).length,X8 (G j),aA3 t kind k])) (g9 t.finds kind k).length (fun _=>True) [some 0,some 1,some 2,some 5,some 4] trivial ⟨rfl,rfl,⟨⟨rfl,rfl,rfl,.inr ⟨⟨rfl,rfl,trivial⟩,trivial⟩⟩,⟨rfl,rfl,rfl,.inl ⟨rfl,j6 _⟩⟩,⟨rfl,rfl,rfl,.inr ⟨⟨rfl,⟨rfl,rfl,?_,fun h=>h⟩,trivial⟩,trivial⟩⟩,b8 rfl rfl rfl ?_ rfl,⟨rfl,rfl,rfl,.inr (Q2 [Q4 t kind k])⟩,trivial⟩,⟨⟨rfl,rfl,rfl⟩,⟨rfl,rfl,rfl⟩,⟨rfl,rfl,rfl⟩,⟨rfl,⟨rfl,rfl,rfl⟩,trivial⟩,rfl,⟨rfl,rfl,rfl⟩,rfl,rfl,rfl,rfl,c7 (by simp),rfl,trivial⟩⟩ ?_
   ·simp [hG0,eR,toC]
   ·rw [hG0,eR]<;>rfl
   intro j hj _
   have hGl:(G j).length<=1000000:=by rw [hG];simp [lbq];omega
   by_cases hjt:j<(g9 t.finds kind k).length
   ·obtain ⟨g,hg⟩:∃g,(g9 t.finds kind k)[j]? =some g:=⟨_,lbf hjt⟩
    have gb:=hgr g (lbm hg)
    have ig:=B3 g (by omega) (by omega)
    have eG:G (j+1)=G j++[u4 k 0 (g:Rat)]:=by rw [hG,hG,lbH,hg];simp
    conv=>whnf
    repeat' (first|refine zx ?_|refine qp ig ?_|refine d6 hg ?_|refine .inr ⟨_,_,Z8 (id:=3) rfl rfl rfl rfl rfl (by decide) hGl _ _,?_⟩|refine zd ?_ ?_<;>intro h<;>try omega|fail)<;>conv=>whnf
    all_goals try omega
    refine ⟨hjt,trivial,[some 0,some 1,some 2,some 5,some 4],rfl,rfl,⟨⟨rfl,rfl,rfl,.inr ⟨⟨rfl,rfl,trivial⟩,trivial⟩⟩,⟨rfl,rfl,rfl,.inl ⟨rfl,j6 _⟩⟩,⟨rfl,rfl,rfl,.inr ⟨⟨rfl,⟨rfl,rfl,?_,fun h=>h⟩,trivial⟩,trivial⟩⟩,b8 rfl rfl rfl ?_ rfl,⟨rfl,rfl,rfl,.inr (Q2 [Q4 t kind k])⟩,trivial⟩,⟨⟨rfl,rfl,rfl⟩,⟨rfl,rfl,rfl⟩,⟨rfl,rfl,rfl⟩,⟨rfl,⟨rfl,rfl,rfl⟩,trivial⟩,rfl,⟨rfl,rfl,rfl⟩,rfl,rfl,rfl,rfl,rfl,rfl,trivial⟩⟩
    ·rw [eG];simp
    ·rw [eG]
   have hje:j=(g9 t.finds kind k).length:=by omega
   subst hje
   have hGe:G (g9 t.finds kind k).length=R1++(g9 t.finds kind k).map (fun g:Int=>u4 k 0 (g:Rat)):=by rw [hG,lbn (lbS _)]
   conv=>whnf
   repeat' (first|refine zx ?_|refine zd ?_ ?_<;>intro h<;>try omega|fail)<;>conv=>whnf
   all_goals try omega
   refine i3 c9 (fun j=>([J,J,J,J,S.c (C.ptr 0 0 0),J,S.c (C.ptr 1 0 0),S.c (C.ptr 2 0 0),S.c (C.fn (Fn.func a7g) [C.ptr 2 0 0]),a7 .i64 k]++Jn 24++[S.c (C.t (a0P t kind)),a7 .i64 t.ev.moves.length,a7 .i64 k]++Jn 37++[a7 .i64 (j7 t.cleans kind k),a7 .i64 j]++Jn 8,[a6R,evB t.ev,a5e t.ev.moves.length 3 (K j).length,X8 (K j)])) (j7 t.cleans kind k) (fun _=>True) [some 0,some 1,some 2,some 3] trivial ⟨rfl,rfl,⟨⟨rfl,rfl,rfl,.inr ⟨⟨rfl,rfl,trivial⟩,trivial⟩⟩,⟨rfl,rfl,rfl,.inl ⟨rfl,j6 _⟩⟩,⟨rfl,rfl,rfl,.inr ⟨⟨rfl,⟨rfl,rfl,?_,fun h=>h⟩,trivial⟩,trivial⟩⟩,b8 rfl rfl rfl ?_ rfl,trivial⟩,⟨⟨rfl,rfl,rfl⟩,⟨rfl,rfl,rfl⟩,⟨rfl,rfl,rfl⟩,⟨rfl,⟨rfl,rfl,rfl⟩,trivial⟩,rfl,rfl,rfl,rfl,rfl,rfl,trivial⟩⟩ ?_
   ·rw [hK0,hGe]
   ·rw [hK0,hGe]
   clear hj hjt
   intro j hj _
   have hKl:(K j).length<=1000000:=by rw [hK];simp [lbq];omega
   by_cases hjt:j<j7 t.cleans kind k
   ·have eK:K (j+1)=K j++[u4 k 2 ((0:Int):Rat)]:=by rw [hK,hK,ak5];simp
    conv=>whnf
    repeat' (first|refine zx ?_|refine qp i0 ?_|refine .inr ⟨_,_,Z8 (id:=3) rfl rfl rfl rfl rfl (by decide) hKl _ _,?_⟩|refine zd ?_ ?_<;>intro h<;>try omega|fail)<;>conv=>whnf
    all_goals try omega
    refine ⟨hjt,trivial,[some 0,some 1,some 2,some 4],rfl,rfl,⟨⟨rfl,rfl,rfl,.inr ⟨⟨rfl,rfl,trivial⟩,trivial⟩⟩,⟨rfl,rfl,rfl,.inl ⟨rfl,j6 _⟩⟩,⟨rfl,rfl,rfl,.inr ⟨⟨rfl,⟨rfl,rfl,?_,fun h=>h⟩,trivial⟩,trivial⟩⟩,b8 rfl rfl rfl ?_ rfl,trivial⟩,⟨⟨rfl,rfl,rfl⟩,⟨rfl,rfl,rfl⟩,⟨rfl,rfl,rfl⟩,⟨rfl,⟨rfl,rfl,rfl⟩,trivial⟩,rfl,rfl,rfl,rfl,rfl,rfl,trivial⟩⟩
    ·rw [eK];simp
    ·rw [eK]
   have hje:j=j7 t.cleans kind k:=by omega
   subst hje
   conv=>whnf
   repeat' (first|refine zx ?_|refine zd ?_ ?_<;>intro h<;>try omega|fail)<;>conv=>whnf
   all_goals try omega
   exact ⟨hlt,trivial,[some 0,some 1,some 2,some 3],rfl,rfl,⟨⟨rfl,rfl,rfl,.inr ⟨⟨rfl,rfl,trivial⟩,trivial⟩⟩,⟨rfl,rfl,rfl,.inl ⟨rfl,j6 _⟩⟩,⟨rfl,rfl,rfl,.inr ⟨⟨rfl,⟨rfl,rfl,hKs.2,fun h=>h⟩,trivial⟩,trivial⟩⟩,b8 rfl rfl rfl hKs.1 rfl,trivial⟩,⟨⟨rfl,rfl,rfl⟩,⟨rfl,rfl,rfl⟩,⟨rfl,rfl,rfl⟩,⟨rfl,⟨rfl,rfl,rfl⟩,trivial⟩,rfl,rfl,rfl,trivial⟩⟩
 ·have hke:k=t.ev.moves.length:=by omega
  subst hke
  conv=>whnf
  repeat' (first|refine zx ?_|refine zd ?_ ?_<;>intro h<;>try omega|fail)<;>conv=>whnf
  all_goals try omega
  exact ⟨[some 3],rfl,rfl,⟨b8 (rows:=(o9 t kind t.ev.moves.length).map u0) rfl rfl rfl rfl rfl,trivial⟩,⟨⟨rfl,⟨rfl,rfl,rfl,fun h=>h⟩,trivial⟩,rfl,trivial⟩⟩
set_option maxHeartbeats 4000000 in
theorem a0V (t:j9) (kind:Int) (hs:t.Sized):a8 Tryz.prog 19 [trS t,a7 .i64 kind] [] (.tup [K3 (aF6 t kind),a7 .i64 (a2P t kind)]) []:=by
 have ck:=a6E t hs
 have m2:(t.ev.moves.map t7.row).length=t.ev.moves.length:=by simp
 by_cases h1:q9 t≠0∨kind<0∨8<=kind
 ·have e1:a2P t kind=1:=by unfold a2P;rw [if_pos h1]
  have e2:aF6 t kind=⟨0,[]⟩:=by unfold aF6;rw [if_pos h1]
  rw [e1,e2]
  (refine ac Tryz.func19 ?_;(conv=>whnf);repeat ((first|refine b0x ?_|refine zy ?_);conv=>whnf))
  repeat' (first|refine zx ?_|refine qp ck ?_|refine zd ?_ ?_<;>intro h<;>try omega|fail)<;>conv=>whnf
  all_goals first
   |omega
   |exact l9 ⟨⟨rfl,rfl,trivial⟩,rfl,trivial⟩
 have e1:a2P t kind=0:=by unfold a2P;rw [if_neg h1]
 have e2:aF6 t kind=g4 t kind:=by unfold aF6;rw [if_neg h1]
 rw [e1,e2]
 exact b3s (b3i t kind hs h1) (l9 ⟨⟨rfl,show VC _ (fun id=>N2 [] id=true) _ _ from y0 rfl rfl (by intro h;cases h) rfl rfl (by rw [lbr]),trivial⟩,rfl,trivial⟩)
theorem aJ6 {P:Program} {g:FuncId} {x:S} {H H':Hp} {r:S} (h:a8 P g [x,j4 []] H r H'):a8 P g [x,.c (.t (.sl 0 .nil []))] H r H':=by
 refine a5v h rfl fun w ι M j a b v hx hy hr=>?_
 rcases j with _|_|j
 ·injection hx with hx;injection hy with hy;subst hx hy;exact hr
 ·injection hx with hx;injection hy with hy;subst hx hy
  cases hr with
  |c hr=>cases hr with
   |t hr=>exact .c (.t (hr.weak rfl))
 ·simp at hx
theorem aL7 (z:List Rat):i9 [] z=0:=rfl
theorem b7t {s:d7} (hr:g7 s=true):J5 s []=.best∨∃r,J5 s []=.row r:=by
 rcases a88 s [] with h|h|⟨c,h⟩
 ·exact .inl h
 ·exact .inr h
 ·have:=(aC0 hr rfl h).2
  rw [aL7] at this
  exact absurd this (by decide)
set_option maxHeartbeats 2000000 in
theorem a9S (s:d7) (n B:Nat) (h:A0 s [] n B) (hout:J5 s []=.best) (hpt:∀v ∈ i4 s [],rl v<=40000):
 a8 Tryz.prog 43 [K3 s] [] (.tup [k8 ((i4 s []).map fz),.c (.t (.sl 0 .nil [])),d9 true]) []:=by
 have le:=aJ6 (a2U s [] n B h hout (fun k=>by rw [List.take_nil,aL7];have:=rl0;omega) hpt)
 (refine ac Tryz.func43 ?_;(conv=>whnf);repeat ((first|refine b0x ?_|refine zy ?_);conv=>whnf))
 repeat' (first|refine zx ?_|refine qp 4 ?_|refine qp (4,6) ?_|refine .inr ⟨_,_,le,?_⟩|refine bl0 [4] ?_|refine bl0 [4,6] ?_|refine zd ?_ ?_<;>intro h<;>try omega|fail)<;>conv=>whnf
 all_goals first
  |omega
  |exact l9 ⟨rfl,rfl,rfl,trivial⟩
set_option maxHeartbeats 2000000 in
theorem an9 (s:d7) (n B r:Nat) (h:A0 s [] n B) (hout:J5 s []=.row r):
 a8 Tryz.prog 43 [K3 s] [] (.tup [.c (.t (.sl 0 .nil [])),k8 (rF s.rows.length (a8J s (j8 s []) r)),d9 false]) []:=by
 have le:=aJ6 (aM9 s [] n B r h hout)
 (refine ac Tryz.func43 ?_;(conv=>whnf);repeat ((first|refine b0x ?_|refine zy ?_);conv=>whnf))
 repeat' (first|refine zx ?_|refine qp 4 ?_|refine qp (4,6) ?_|refine .inr ⟨_,_,le,?_⟩|refine bl0 [4] ?_|refine bl0 [4,6] ?_|refine zd ?_ ?_<;>intro h<;>try omega|fail)<;>conv=>whnf
 all_goals first
  |omega
  |exact l9 ⟨rfl,(show VC _ (fun id=>N2 [] id=true) (C.own 0 0 s.rows.length true) _ from y0 (k:=flB (rF s.rows.length (a8J s (j8 s []) r))) rfl rfl (fun h=>h) rfl rfl (by simp [L4])),rfl,trivial⟩
theorem a01 {α:Type} {f:α->List T} {l:List α} {x:α} {n:Nat} (h:n=l.length):List.take n (toC (l.map f))++toC [f x]=toC ((l++[x]).map f):=by
 rw [lbn (by simp [toC,h])]
 simp [toC]
def a0e (l:List (Int × Rat)) (f:Rat):List (Int × Rat):=l.map fun t=>(t.1,t.2*f)
theorem a90 (l:List (Int × Rat)) (f:Rat) {k:Nat} {t:Int × Rat} (h:l[k]? =some t):(a0e l f).take (k+1)=(a0e l f).take k++[(t.1,t.2*f)]:=by
 rw [lbH]
 congr 1
 unfold a0e
 rw [lba,h];rfl
theorem a0O (l:List (Int × Rat)) (f:Rat):(a0e l f).length=l.length:=by simp [a0e]
set_option maxHeartbeats 2000000 in
theorem b2h (l:List (Int × Rat)) (f:Rat) (hf:f≠0) (hr:d8 (-1) 1500 l=true) (hb:∀t ∈ l,rl t.2<=200) (hfb:rl f<=200):
 a8 Tryz.prog 75 [j4 l,frS (fz f)] [] (j4 (a0e l f)) []:=by
 have hl:=s6 hr
 have m1:(l.map u6).length=l.length:=by simp
 have rt:=I0 l 1500 (by omega) hb
 rw [lbI (by omega),hr] at rt
 have sg:=D9 f (by omega)
 have sz:=a16 (x:=f)
 have hs0:sgR f≠0:=fun h=>hf (sz.1 h)
 (refine ac Tryz.func75 ?_;(conv=>whnf);repeat ((first|refine b0x ?_|refine zy ?_);conv=>whnf))
 repeat' (first|refine zx ?_|refine qp rt ?_|refine qp sg ?_|refine zd ?_ ?_<;>intro h<;>try omega|fail)<;>conv=>whnf
 all_goals try omega
 all_goals try (exfalso;simp_all;done)
 refine i3 c9 (fun k=>([J,J,J,S.c (C.t (T.ptr (j0 (fz f)))),J,S.c (C.own 0 0 k true)]++Jn 12++[j4 l,a7 .i64 l.length,a7 .i64 k]++Jn 19,[a1X ((a0e l f).take k)])) l.length (fun _=>True) [none] trivial
  ⟨rfl,rfl,⟨⟨rfl,rfl⟩,trivial⟩,⟨i8 rfl,⟨rfl,rfl,rfl⟩,i8 rfl,c7 (by omega),c7 rfl,trivial⟩⟩ ?_
 intro k hk _
 by_cases hlt:k<l.length
 ·obtain ⟨t,ht⟩:∃t,l[k]? =some t:=⟨_,lbf hlt⟩
  have bt:=hb t (lbm ht)
  have mu:=aF7 t.2 f (by omega) (by omega)
  have lk:((a0e l f).take k).length=k:=by rw [lbs,a0O];omega
  have lA:k<=(a1X ((a0e l f).take k)).rows.length:=by show k<=(toC _).length;simp [toC,a0O];omega
  conv=>whnf
  repeat' (first|refine zx ?_|refine qp mu ?_|refine qp toC ?_|refine qp 6 ?_|refine d6 ht ?_|refine D7 lA (by simp [toC];omega) ?_|refine bl0 [6] ?_|refine zd ?_ ?_<;>intro h<;>try omega|fail)<;>conv=>whnf
  all_goals first
   |omega
   |(refine ⟨hlt,trivial,[some 3],rfl,rfl,⟨b8 (rows:=((a0e l f).take (k+1)).map u6) rfl rfl rfl ?_ rfl,trivial⟩,⟨rfl,⟨rfl,rfl,rfl,fun h=>h⟩,rfl,rfl,c7 (by omega),trivial⟩⟩
     rw [a90 l f ht]
     exact a01 (f:=u6) (x:=(t.1,t.2*f)) lk.symm)
 ·have hke:k=l.length:=by omega
  subst hke
  conv=>whnf
  repeat' (first|refine zx ?_|refine zd ?_ ?_<;>intro h<;>try omega|fail)<;>conv=>whnf
  all_goals first
   |omega
   |exact V5 rfl (fun h=>h) rfl (by rw [lbn (by rw [a0O];exact lbS _)]) (by simp [a0O])
theorem a1C {n n':Int} (h:n<=n'):∀{last:Int} {l:List (Int × Rat)},d8 last n l=true->d8 last n' l=true
 |_,[],_=>rfl
 |last,a::r,hr=>by
  unfold d8 at hr ⊢
  simp only [lbO,lbJ] at hr ⊢
  exact ⟨⟨⟨hr.1.1.1,by omega⟩,hr.1.2⟩,a1C h hr.2⟩
def p6 (l:List (Int × Rat)):List (Int × Rat):=a0e l ((-1:Int):Rat)
theorem a2V (l:List (Int × Rat)) (hr:d8 (-1) 1500 l=true) (hb:∀t ∈ l,rl t.2<=200):a8 Tryz.prog 31 [j4 l] [] (j4 (p6 l)) []:=by
 have i1:=B3 (-1) (by decide) (by decide)
 have tm:=b2h l ((-1:Int):Rat) (by decide) hr hb (by have:=n8 (x:=-1) (by decide) (by decide);have:=n8 (x:=1) (by decide) (by decide);show max (bl (-1)) (bl 1)<=200;omega)
 (refine ac Tryz.func31 ?_;(conv=>whnf);repeat ((first|refine b0x ?_|refine zy ?_);conv=>whnf))
 repeat' (first|refine zx ?_|refine qp i1 ?_|refine qp tm ?_|refine zd ?_ ?_<;>intro h<;>try omega|fail)<;>conv=>whnf
 exact l9 (H1:=[]) (i8 (ρ:=[]) (H:=[]) rfl)
def a3A (l:List Int):List (Int × Rat):=l.map fun i=>(i,((1:Int):Rat))
def v8 (t:j9) (h:Int):List (Int × Rat):=a3A (E6 t.ev h (-1) 0 100000)
def aS4 (t:j9) (h:Int):List (Int × Rat):=if q9 t=0∧0<=h∧h<t.ev.hhs then v8 t h else []
theorem b5S {H1:Hp}:Fin 0 (.c (.t (.sl 0 .nil []))) H1 (j4 []) []:=l9 (show a9d [] H1 (.c (.t (.sl 0 .nil []))) (j4 []) from rfl)
theorem b3Y {l:List Int} {k:Nat} {x:Int} (h:l[k]? =some x):a3A (l.take (k+1))=a3A (l.take k)++[(x,((1:Int):Rat))]:=by
 rw [lbH,h];unfold a3A;simp
set_option maxHeartbeats 2000000 in
theorem b2q (t:j9) (hs:t.Sized) (hh:Int) (hl:(E6 t.ev hh (-1) 0 100000).length<=100000):a8 Tryz.prog 27 [trS t,a7 .i64 hh] [] (j4 (aS4 t hh)) []:=by
 have ck:=a6E t hs
 have li:=ay1 t.ev hs.ev hh (-1) 0 100000
 have i1:=B3 1 (by decide) (by decide)
 by_cases hc:q9 t=0∧0<=hh∧hh<t.ev.hhs
 ·have e:aS4 t hh=v8 t hh:=if_pos hc
  rw [e]
  obtain ⟨c1,c2,c3⟩:=hc
  have m1:((E6 t.ev hh (-1) 0 100000).map i5).length=(E6 t.ev hh (-1) 0 100000).length:=by simp
  (refine ac Tryz.func27 ?_;(conv=>whnf);repeat ((first|refine b0x ?_|refine zy ?_);conv=>whnf))
  repeat' (first|refine zx ?_|refine qp ck ?_|refine qp li ?_|refine zd ?_ ?_<;>intro h<;>try omega|fail)<;>conv=>whnf
  all_goals try omega
  refine i3 c9 (fun k=>([J,J,J,J,J,S.c (C.own 0 0 k true)]++Jn 19++[j1 (E6 t.ev hh (-1) 0 100000),a7 .i64 (E6 t.ev hh (-1) 0 100000).length,a7 .i64 k]++Jn 11,[a1X (a3A ((E6 t.ev hh (-1) 0 100000).take k))])) (E6 t.ev hh (-1) 0 100000).length (fun _=>True) [none] trivial
   ⟨rfl,rfl,⟨⟨rfl,rfl⟩,trivial⟩,⟨⟨rfl,rfl,rfl⟩,i8 rfl,c7 (by omega),c7 rfl,trivial⟩⟩ ?_
  intro k hk _
  by_cases hlt:k<(E6 t.ev hh (-1) 0 100000).length
  ·obtain ⟨x,hx⟩:∃x,(E6 t.ev hh (-1) 0 100000)[k]? =some x:=⟨_,lbf hlt⟩
   have lk:(a3A ((E6 t.ev hh (-1) 0 100000).take k)).length=k:=by unfold a3A;rw [lbr,lbs];omega
   have lA:k<=(a1X (a3A ((E6 t.ev hh (-1) 0 100000).take k))).rows.length:=by show k<=(toC _).length;rw [toC,lbr,lbr,lk];exact lbS _
   conv=>whnf
   repeat' (first|refine zx ?_|refine qp i1 ?_|refine qp toC ?_|refine d6 hx ?_|refine D7 lA (by simp [toC];omega) ?_|refine zd ?_ ?_<;>intro h<;>try omega|fail)<;>conv=>whnf
   all_goals first
    |omega
    |(refine ⟨hlt,trivial,[some 1],rfl,rfl,⟨b8 (rows:=(a3A ((E6 t.ev hh (-1) 0 100000).take (k+1))).map u6) rfl rfl rfl ?_ rfl,trivial⟩,⟨⟨rfl,rfl,rfl,fun h=>h⟩,rfl,rfl,c7 (by omega),trivial⟩⟩
      rw [b3Y hx]
      exact a01 (f:=u6) (x:=(x,((1:Int):Rat))) lk.symm)
  ·have hke:k=(E6 t.ev hh (-1) 0 100000).length:=by omega
   subst hke
   conv=>whnf
   repeat' (first|refine zx ?_|refine zd ?_ ?_<;>intro h<;>try omega|fail)<;>conv=>whnf
   all_goals first
    |omega
    |exact V5 rfl (fun h=>h) rfl (by rw [lbn (lbS _)];rfl) (by simp [v8,a3A])
 ·have e:aS4 t hh=[]:=if_neg hc
  rw [e]
  (refine ac Tryz.func27 ?_;(conv=>whnf);repeat ((first|refine b0x ?_|refine zy ?_);conv=>whnf))
  repeat' (first|refine zx ?_|refine qp ck ?_|refine qp li ?_|refine zd ?_ ?_<;>intro h<;>try omega|fail)<;>conv=>whnf
  all_goals first
   |omega
   |exact b5S
theorem b44 (l:List Fr) (h0:0<l.length) (h1:l.length<=100000):a8 Tryz.prog 142 [k8 l] [] (.c (.own 0 0 l.length true)) [flB l]:=by
 have m1:(l.map j0).length=l.length:=by simp
 have hl:0<(l.map j0).length:=by omega
 (refine ac Tryz.func142 ?_;(conv=>whnf);repeat (refine zy ?_;conv=>whnf))
 repeat' (first|refine zx ?_|refine qp (toC,lbr,a5n) ?_|refine qp (toC,lbr) ?_|refine ⟨hl,?_⟩|refine zz ?_|refine a35 rfl (by simp only [toC,lbr,a5n];omega) ?_|refine D7 (D5 _) (by simp only [toC,lbr];omega) ?_|refine zd ?_ ?_<;>intro h<;>try omega|fail)<;>conv=>whnf
 all_goals first
  |omega
  |exact ⟨[some 0],rfl,rfl,⟨b8 (rows:=l.map j0) rfl rfl rfl rfl rfl,trivial⟩,⟨rfl,rfl,by simp [toC],fun h=>h⟩⟩
def smF (a b:Nat->Rat) (k:Nat):Nat->Rat:=fun j=>if j<k then a j+b j else a j
set_option maxHeartbeats 2000000 in
theorem b9S (n:Nat) (a b:Nat->Rat) (h0:0<n) (hn:n<=1000) (ha:∀j,j<n->rl (a j)<=60000) (hb:∀j,j<n->rl (b j)<=60000):
 a8 Tryz.prog 92 [k8 (rF n a),k8 (rF n b)] [] (k8 (rF n fun j=>a j+b j)) []:=by
 have m1:((rF n b).map j0).length=n:=by simp [L4]
 have cl:=b44 (rF n a) (by rw [L4];exact h0) (by rw [L4];omega)
 rw [L4] at cl
 have e9:rF n (fun j=>a j+b j)=rF n (smF a b n):=A9 fun j hj=>by unfold smF;rw [if_pos hj]
 rw [e9]
 (refine ac Tryz.func92 ?_;(conv=>whnf);repeat (refine zy ?_;conv=>whnf))
 repeat' (first|refine zx ?_|refine .inr ⟨_,_,cl,?_⟩|refine zd ?_ ?_<;>intro h<;>try omega|fail)<;>conv=>whnf
 refine i3 c9 (fun k=>([J,J,J,J,J,S.c (C.own 0 0 n true),J,J,J,J,k8 (rF n b),a7 .i64 n,a7 .i64 k]++Jn 18,[flB (rF n (smF a b k))])) n (fun _=>True) [some 0] trivial
  ⟨rfl,rfl,⟨b8 (rows:=(rF n a).map j0) rfl rfl rfl rfl (by rw [A9 (g:=smF a b 0) (h:=a) fun j hj=>by unfold smF;rw [if_neg (by omega)]]),trivial⟩,⟨⟨rfl,rfl,rfl,fun h=>h⟩,i8 rfl,c7 (by omega),c7 rfl,trivial⟩⟩ ?_
 intro k hk _
 by_cases hlt:k<n
 ·have eK:0+(k:Int).toNat=k:=by omega
  have ad:=a3j (a k) (b k) (ha k hlt) (hb k hlt)
  have gp:(rF n (smF a b k))[0+(k:Int).toNat]? =some (fz (a k)):=by rw [eK,E7 hlt];unfold smF;rw [if_neg (by omega)]
  have e:p5 (flB (rF n (smF a b k))) ((flB (rF n (smF a b k))).rows.set (0+(k:Int).toNat) (frC (fz (a k+b k))))=flB (rF n (smF a b (k+1))):=by
   rw [H7 eK,T8 hlt]
   refine congrArg flB (A9 fun j hj=>?_)
   unfold smF
   by_cases h:j=k
   ·subst h;rw [if_pos rfl,if_pos (by omega)]
   ·rw [if_neg h]
    have:(j<k)↔(j<k+1):=by omega
    simp only [this]
  conv=>whnf
  repeat' (first|refine zx ?_|refine qp ad ?_|refine qp 10 ?_|refine a3c rfl hlt ?_|refine k7 gp ?_|refine bl0 [10] ?_|refine zd ?_ ?_<;>intro h<;>try omega|fail)<;>conv=>whnf
  all_goals first
   |omega
   |exact ⟨hlt,trivial,[some 0],rfl,rfl,⟨⟨rfl,rfl,rfl,.inl ⟨congrArg Blk.rows e,(congrArg Blk.rows e) ▸ f5 _⟩⟩,trivial⟩,⟨⟨rfl,rfl,rfl,fun h=>h⟩,rfl,rfl,c7 (by omega),trivial⟩⟩
 ·have hke:k=n:=by omega
  subst hke
  conv=>whnf
  repeat' (first|refine zx ?_|refine zd ?_ ?_<;>intro h<;>try omega|fail)<;>conv=>whnf
  all_goals first
   |omega
   |exact V5 rfl (fun h=>h) rfl rfl (by simp [L4])
theorem b0u {P:Program} {g:FuncId} {args:List S} {H:Hp} {b:Blk} {r r':S} {rows:List (List T)} (h:a8 P g args [] r [b]) (ha:args=args.map (a3B [])) (hok:args.all (okS 0)=true) (hm:b.mode=.live) (hb:b.rows=toC rows) (hr:av5 r=true)
 (hr':r'=a3B [H.length] r):a8 P g args H r' (H++[b]):=by
 have ex:a38 [] H.length (([b]:Hp).length - ([]:Hp).length)=[H.length]:=rfl
 refine O0 [] h ha hok rfl List.nodup_nil (by simp) (fun k hk=>?_) (by simp) hr (by rw [ex];exact hr') (by simp) ?_ ?_
 ·simp at hk;subst hk;rw [hm];intro h;cases h
 ·intro i k hk
  rw [ex]
  rcases i with _|i
  ·injection hk with hk;subst hk
   refine ⟨b,?_,C4 hb⟩
   show (H++[b])[H.length]? =_
   rw [lbc (lbS _)];simp
  ·simp at hk
 ·intro j hj _
  rw [lbb hj]
theorem b0R {P:Program} {g:FuncId} {args:List S} {H:Hp} {b:Blk} {cs:List C} {s2:S} {j lo len:Nat} {app:Bool} (h:a8 P g args [] (.tup [.agg cs,s2]) [b]) (ha:args.all S.isT=true) (hm:b.mode=.live) (hb:H4 b.rows)
 (hf:av5 (.tup [.agg cs,s2])=true) (hj:cs[j]? =some (.own 0 lo len app)):N1 P g args H (a3B [H.length] (.tup [.agg cs,s2])) [b]:=by
 refine ⟨h.1,fun w ι M vals hl hv hH hM hf0=>?_⟩
 have:=h.2 w (fun _=>none) M vals hl (fun j s hj=>(hv j s hj).tree (lbw.1 ha s (lbm hj)))
  ⟨by simp,by simp,by simp,by simp,by simp⟩ hM (fun _ _=>rfl)
 refine Calls.mono this ?_
 rintro e w' ⟨v,rfl,ι',M',h1,h2,h3,h4,h5⟩
 have hnl:∀x,¬a2i (fun _=>none) ([]:Hp) x:=by rintro x ⟨id,k,_,_,hk,_⟩;simp at hk
 obtain ⟨l,hl0⟩:∃l,ι' 0=some l:=by
  cases h1 with
  |tup vs hl hr=>
   have h0:=hr 0 _ rfl
   generalize vs.getD 0 undef=v0 at h0
   cases h0 with
   |agg us hl hr=>
    have h9:=hr j _ hj
    generalize us.getD j undef=v9 at h9
    cases h9 with
    |own hi=>exact ⟨_,hi⟩
    |nil hi=>exact ⟨_,hi⟩
 have hnew:s8 ι H.length [b].length (fun _=>l) H.length=some l:=by unfold s8;simp
 have hMM:∀x,a3r M [b].length (fun _=>l) x->M' x:=by
  intro x hx
  rcases hx with hx|⟨k,hk,cap,size,he⟩
  ·rcases h5.mold x hx with h|h
   ·exact h
   ·exact absurd h (hnl x)
  ·have he:l=.blk x cap size:=he
   subst he
   exact h2.liv 0 b rfl hm x cap size hl0
 refine ⟨v,rfl,fun _=>l,?_,⟨h5.os,h5.tape,h5.output,h5.size,fun x hx=>h5.keep x hx (hnl x)⟩,?_,?_,?_⟩
 ·refine RS.keep (w:=w') (ι:=s8 ι H.length [b].length (fun _=>l)) (M:=M') (fun _ _ _=>rfl) (fun x hx=>.inl (hMM x hx)) (fun _ _ h=>h) (RS.ren (σ:=[H.length]) (fun id l' hi=>?_) hf h1)
  rcases id with _|id
  ·rw [hl0] at hi;injection hi with hi;subst hi;exact hnew
  ·rw [h4 (id+1) (by simp)] at hi;cases hi
 ·intro k blk hk
  cases k with
  |succ k=>simp at hk
  |zero=>
   simp at hk
   subst hk
   refine ⟨hm,?_⟩
   have hbr:=h2.blk 0 b rfl (by rw [hm];intro h;cases h) l hl0
   cases l with
   |nil=>exact hbr
   |blk x cap size=>
    obtain ⟨r1,r2,r3,r4,r5,cur,r6,r7,r8⟩:=hbr
    refine ⟨r1,r2,r3,r4,r5,cur,r6,r7,fun i j c hc=>?_⟩
    obtain ⟨u,u1,u2⟩:=r8 i j c hc
    exact ⟨u,u1,al0 hMM hb hc u2⟩
 ·intro k x cap size hk he
  have he:l=.blk x cap size:=he
  subst he
  refine ⟨?_,h3 x (h2.liv 0 b rfl hm x cap size hl0)⟩
  rcases h5.live x ⟨0,b,cap,size,rfl,hm,hl0⟩ with h|h
  ·exact absurd h (hnl x)
  ·exact h
 ·intro k k' x cap size cap' size' hk hk' _ _
  simp at hk hk'
  omega
structure a0t where
 hh:Int
 state:Int
 w:List Rat
 wo:List Rat
 pr:List Rat
def a0t.row (v:a0t):List T:=[ti v.hh,ti v.state,M8 (v.w.map fz),M8 (v.wo.map fz),M8 (v.pr.map fz)]
abbrev b3O (v:a0t):S:=.agg (v.row.map C.t)
theorem a2S {x:Rat}:sgR x > 0↔0<x:=by unfold sgR;split<;>(try split)<;>simp_all<;>grind
theorem b0I {x:Rat}:sgR x<0↔x<0:=by unfold sgR;split<;>(try split)<;>simp_all
structure b3a (s:d7) (g:List (Int × Rat)) (n B B1 B0:Nat):Prop where
 p:A0 s g n B
 q:A0 s (p6 g) n B1
 z:A0 s [] n B0
 g5:d8 (-1) 1500 g=true
 v:∀k,rl (i9 (g.take k) (i4 s g))<=50000
 u:∀k,rl (i9 ((p6 g).take k) (i4 s (p6 g)))<=50000
theorem a7r {s:d7} {g:List (Int × Rat)} {n B:Nat} (h:A0 s g n B):∀v ∈ i4 s g,rl v<=17000:=by
 intro v hv
 have hb:=a8q h
 have hn:=h.nn
 have hB:=h.bb
 obtain ⟨j,hj,rfl⟩:=a70 hv
 have hp:Q1 (c6 s).length s.n.toNat (j8 s g):=I5.p
 rw [hn] at hj hp ⊢
 rw [← aZ7 hp hj]
 have key:∀k,k<=(c6 s).length->rl (ptK n (j8 s g).O (j8 s g).V (fun _=>0) k j)<=17000:=by
  intro k
  induction k with
  |zero=>intro _;have:=rl0;show rl 0<=_;omega
  |succ k ih=>
   intro hk
   rw [L7]
   simp only
   split
   ·have:=hb.v k (by omega);omega
   ·exact ih (by omega)
 exact key _ (lbS _)
noncomputable def b6w (s:d7) (g:List (Int × Rat)) (hh:Int):a0t:=⟨hh,2,i4 s g,[],zOf s.rows.length (y4 s (j8 s g))++[((-1:Int):Rat)]⟩
theorem a9u {s:d7} {g:List (Int × Rat)} {n B:Nat} (h:A0 s g n B) (hout:J5 s g=.best) (hS:∀k,rl (i9 (g.take k) (i4 s g))<=50000) (H:Hp):
 a8 Tryz.prog 91 [K3 s,j4 g] H (.tup [.agg (C.t (ti 0)::frC (fz (i9 g (i4 s g)))++[.t (M8 ((i4 s g).map fz)),.own H.length 0 s.rows.length true,.t (.sl 0 .nil [])]),a7 .i64 0]) (H++[flB (rF s.rows.length (y4 s (j8 s g)))]):=
 b0u (a2U s g n B h hout (fun k=>by have:=hS k;omega) (fun v hv=>by have:=a7r h v hv;omega)) rfl rfl rfl rfl rfl rfl
theorem b0G {R:Nat} {y:Nat->Rat} {x:Rat}:(toC ((rF R y).map j0)).take R++toC [j0 (fz x)]=toC (((zOf R y++[x]).map fz).map j0):=by
 have e:(zOf R y++[x]).map fz=rF R y++[fz x]:=by rw [lbD,a5R];rfl
 rw [a01 (f:=j0) (l:=rF R y) (x:=fz x) (L4 R y).symm,e]
theorem b6F {s:d7} {g:List (Int × Rat)} {n B:Nat} (h:A0 s g n B) (hout:J5 s g=.best) (hS:∀k,rl (i9 (g.take k) (i4 s g))<=50000) (H:Hp):
 N1 Tryz.prog 91 [K3 s,j4 g] H (.tup [.agg (C.t (ti 0)::frC (fz (i9 g (i4 s g)))++[.t (M8 ((i4 s g).map fz)),.own H.length 0 s.rows.length true,.t (.sl 0 .nil [])]),a7 .i64 0]) [flB (rF s.rows.length (y4 s (j8 s g)))]:=
 b0R (j:=6) (lo:=0) (len:=s.rows.length) (app:=true) (a2U s g n B h hout (fun k=>by have:=hS k;omega) (fun v hv=>by have:=a7r h v hv;omega)) rfl rfl (f5 _) rfl rfl
set_option maxHeartbeats 2000000 in
theorem aa7 (s:d7) (g:List (Int × Rat)) (n B B1 B0:Nat) (h:b3a s g n B B1 B0) (hh:Int) (hout:J5 s g=.best) (hv:0<i9 g (i4 s g)):
 a8 Tryz.prog 44 [K3 s,j4 g,a7 .i64 hh] [] (b3O (b6w s g hh)) []:=by
 have le:=a9u h.p hout h.v
 have vb:=h.v g.length
 rw [Y8] at vb
 have sg:=D9 (i9 g (i4 s g)) (by omega)
 have sp:=a2S.2 hv
 have i1:=B3 (-1) (by decide) (by decide)
 have hR:=h.p.r
 (refine ac Tryz.func44 ?_;(conv=>whnf);repeat ((first|refine b0x ?_|refine zy ?_);conv=>whnf))
 repeat' (first|refine a4j [0,1,2,3,4,5,7,6,8,9,10,11,12] (by decide +kernel) (by decide +kernel) ?_|refine zz ?_|refine zz ?_|refine zz ?_|refine zz ?_|refine zz ?_|refine zz ?_|refine qp sg ?_|refine qp i1 ?_|refine qp 5 ?_|refine qp (toC,L4) ?_|refine qp toC ?_|refine qp (0,1,2,3,4,5,7,6,8,9,10,11,12) ?_|refine qp (0,1,6) ?_|refine qp (0,1) ?_|refine .inr ⟨_,_,le _,?_⟩|refine bl0 [5] ?_|refine D7 (by simp [toC,L4]) (by simp [toC];omega) ?_|refine bl0 [0,1,6] ?_|refine bl0 [0,1] ?_|refine zd ?_ ?_<;>intro h<;>try omega|refine zy ?_|fail)<;>conv=>whnf
 all_goals first
  |omega
  |exact l9 ⟨rfl,rfl,rfl,rfl,(show VC _ (fun id=>N2 [] id=true) (C.own 4 0 (s.rows.length+1) true) _ from y0 (k:={ mode:=.live,elem:=83,size:=4,rows:=(toC ((rF s.rows.length (y4 s (j8 s g))).map j0)).take s.rows.length++toC [j0 (fz ((-1:Int):Rat))],box:=false }) rfl rfl (fun h=>h) rfl b0G (by simp [zOf])),trivial⟩
noncomputable def a6c (s:d7) (g:List (Int × Rat)) (c:Nat) (hh:Int):a0t:=⟨hh,1,zOf s.n.toNat fun j=>F2 (c6 s).length s.n.toNat (j8 s []) 1 (fun _=>0) j+F2 (c6 s).length s.n.toNat (j8 s (p6 g)) 0 (fun q=>if q=c then 1 else 0) j,i4 s g,[]⟩
noncomputable def b9t (s:d7) (g:List (Int × Rat)) (hh:Int):a0t:=⟨hh,1,i4 s (p6 g),i4 s g,[]⟩
noncomputable def a9r (s:d7) (g:List (Int × Rat)) (hh:Int):a0t:=⟨hh,0,[],i4 s g,zOf s.rows.length (y4 s (j8 s (p6 g)))⟩
theorem b8q {s:d7} {g:List (Int × Rat)} {n B B0 c:Nat} (h:A0 s g n B) (h0:A0 s [] n B0) (hout:J5 s g=.col c) (hout0:J5 s []=.best) (H:Hp):
 N1 Tryz.prog 91 [K3 s,j4 g] H (.tup [.agg (C.t (ti 2)::bd4++[.t (M8 ((i4 s []).map fz)),.t (.sl 0 .nil []),.t (M8 ((a6S s g c).map fz))]),a7 .i64 0]) []:=
 F9 (aB3 s g n B B0 c h h0 hout hout0) rfl rfl
theorem b9X {s:d7} {g:List (Int × Rat)} {n B c:Nat} (h:A0 s g n B) (hc:c<n) {j:Nat} (hj:j<n):rl (F2 (c6 s).length n (j8 s g) 0 (fun q=>if q=c then 1 else 0) j)<=17000:=by
 have hb:=a8q h
 have hB:=h.bb
 have hp:Q1 (c6 s).length n (j8 s g):=by have hn:=h.nn;subst hn;exact I5.p
 rw [← aA8 hp hc hj]
 have key:∀k,k<=(c6 s).length->rl (ptK n (j8 s g).O (fun i=>-((j8 s g).A i c)) (fun j=>if (j8 s g).F c<n∧j=(j8 s g).F c then 1 else 0) k j)<=17000:=by
  intro k
  induction k with
  |zero=>
   intro _
   have:=rl0;have:=rl1
   show rl (if _ then (1:Rat) else 0)<=_
   split<;>omega
  |succ k ih=>
   intro hk
   rw [L7]
   simp only
   split
   ·rw [M9];have:=hb.a k (by omega) c hc;omega
   ·exact ih (by omega)
 exact key _ (lbS _)
set_option maxHeartbeats 4000000 in
theorem an6 (s:d7) (g:List (Int × Rat)) (n B B1 B0 c:Nat) (h:b3a s g n B B1 B0) (hh:Int) (hout:J5 s g=.best) (hv:¬0<i9 g (i4 s g)) (hq:J5 s (p6 g)=.col c) (hz:J5 s []=.best):
 a8 Tryz.prog 44 [K3 s,j4 g,a7 .i64 hh] [] (b3O (a6c s g c hh)) []:=by
 have le:=a9u h.p hout h.v
 have vb:=h.v g.length
 rw [Y8] at vb
 have sg:=D9 (i9 g (i4 s g)) (by omega)
 have sp:¬sgR (i9 g (i4 s g)) > 0:=fun e=>hv (a2S.1 e)
 have hR:=h.p.r
 have op:=a2V g h.g5 h.p.gb
 have l2:=b8q h.q h.z hq hz
 have hn:=h.p.nn
 have hcn:c<n:=by have:=(a7q hq).1;omega
 have e1:(i4 s []).map fz=rF n (F2 (c6 s).length n (j8 s []) 1 (fun _=>0)):=by unfold i4;rw [a5R,hn]
 have e2:(a6S s (p6 g) c).map fz=rF n (F2 (c6 s).length n (j8 s (p6 g)) 0 (fun q=>if q=c then 1 else 0)):=by unfold a6S;rw [a5R,hn]
 have sm:=b9S n (F2 (c6 s).length n (j8 s []) 1 (fun _=>0)) (F2 (c6 s).length n (j8 s (p6 g)) 0 (fun q=>if q=c then 1 else 0)) (by omega) h.p.o.n1
  (fun j hj=>by
    have:rl (F2 (c6 s).length n (j8 s []) 1 (fun _=>0) j)<=17000:=a7r h.z _ (by unfold i4;rw [hn];exact lby.2 ⟨j,lbC.2 hj,rfl⟩)
    omega)
  (fun j hj=>by have:=b9X h.q hcn hj;omega)
 rw [← e1,←e2] at sm
 have e3:rF n (fun j=>F2 (c6 s).length n (j8 s []) 1 (fun _=>0) j+F2 (c6 s).length n (j8 s (p6 g)) 0 (fun q=>if q=c then 1 else 0) j)=(a6c s g c hh).w.map fz:=by
  unfold a6c;simp only;rw [a5R,hn]
 rw [e3] at sm
 (refine ac Tryz.func44 ?_;(conv=>whnf);repeat ((first|refine b0x ?_|refine zy ?_);conv=>whnf))
 repeat' (first|refine zx ?_|refine qp sg ?_|refine qp op ?_|refine qp sm ?_|refine qp 5 ?_|refine qp 6 ?_|refine qp 0 ?_|refine .inr ⟨_,_,le _,?_⟩|refine .inl ⟨_,_,l2 _,?_⟩|refine bl0 [5] ?_|refine bl0 [6] ?_|refine bl0 [0] ?_|refine zd ?_ ?_<;>intro h<;>try omega|fail)<;>conv=>whnf
 all_goals first
  |omega
  |exact l9 ⟨rfl,rfl,rfl,rfl,rfl,trivial⟩
set_option maxHeartbeats 4000000 in
theorem aI1 (s:d7) (g:List (Int × Rat)) (n B B1 B0:Nat) (h:b3a s g n B B1 B0) (hh:Int) (hout:J5 s g=.best) (hv:¬0<i9 g (i4 s g)) (hq:J5 s (p6 g)=.best) (hv2:i9 (p6 g) (i4 s (p6 g))<0):
 a8 Tryz.prog 44 [K3 s,j4 g,a7 .i64 hh] [] (b3O (b9t s g hh)) []:=by
 have le:=a9u h.p hout h.v
 have vb:=h.v g.length
 rw [Y8] at vb
 have ub:=h.u (p6 g).length
 rw [Y8] at ub
 have sg:=D9 (i9 g (i4 s g)) (by omega)
 have sp:¬sgR (i9 g (i4 s g)) > 0:=fun e=>hv (a2S.1 e)
 have sg2:=D9 (i9 (p6 g) (i4 s (p6 g))) (by omega)
 have sp2:=b0I.2 hv2
 have hR:=h.p.r
 have op:=a2V g h.g5 h.p.gb
 have l2:=b6F h.q hq h.u
 (refine ac Tryz.func44 ?_;(conv=>whnf);repeat ((first|refine b0x ?_|refine zy ?_);conv=>whnf))
 repeat' (first|refine zx ?_|refine qp sg ?_|refine qp op ?_|refine qp sg2 ?_|refine qp 5 ?_|refine qp 6 ?_|refine qp 0 ?_|refine qp (0,1) ?_|refine .inr ⟨_,_,le _,?_⟩|refine .inl ⟨_,_,l2 _,?_⟩|refine bl0 [5] ?_|refine bl0 [6] ?_|refine bl0 [0] ?_|refine bl0 [0,1] ?_|refine zd ?_ ?_<;>intro h<;>try omega|fail)<;>conv=>whnf
 all_goals first
  |omega
  |exact l9 ⟨rfl,rfl,rfl,rfl,rfl,trivial⟩
set_option maxHeartbeats 4000000 in
theorem al7 (s:d7) (g:List (Int × Rat)) (n B B1 B0:Nat) (h:b3a s g n B B1 B0) (hh:Int) (hout:J5 s g=.best) (hv:¬0<i9 g (i4 s g)) (hq:J5 s (p6 g)=.best) (hv2:¬i9 (p6 g) (i4 s (p6 g))<0):
 a8 Tryz.prog 44 [K3 s,j4 g,a7 .i64 hh] [] (b3O (a9r s g hh)) []:=by
 have le:=a9u h.p hout h.v
 have vb:=h.v g.length
 rw [Y8] at vb
 have ub:=h.u (p6 g).length
 rw [Y8] at ub
 have sg:=D9 (i9 g (i4 s g)) (by omega)
 have sp:¬sgR (i9 g (i4 s g)) > 0:=fun e=>hv (a2S.1 e)
 have sg2:=D9 (i9 (p6 g) (i4 s (p6 g))) (by omega)
 have sp2:¬sgR (i9 (p6 g) (i4 s (p6 g)))<0:=fun e=>hv2 (b0I.1 e)
 have hR:=h.p.r
 have op:=a2V g h.g5 h.p.gb
 have l2:=b6F h.q hq h.u
 (refine ac Tryz.func44 ?_;(conv=>whnf);repeat ((first|refine b0x ?_|refine zy ?_);conv=>whnf))
 repeat' (first|refine zx ?_|refine qp sg ?_|refine qp op ?_|refine qp sg2 ?_|refine qp 5 ?_|refine qp 6 ?_|refine qp 0 ?_|refine qp (0,1) ?_|refine .inr ⟨_,_,le _,?_⟩|refine .inl ⟨_,_,l2 _,?_⟩|refine bl0 [5] ?_|refine bl0 [6] ?_|refine bl0 [0] ?_|refine bl0 [0,1] ?_|refine zd ?_ ?_<;>intro h<;>try omega|fail)<;>conv=>whnf
 all_goals first
  |omega
  |exact l9 ⟨rfl,rfl,rfl,rfl,(show VC _ (fun id=>N2 [] id=true) (C.own 4 0 s.rows.length true) _ from y0 (k:=flB (rF s.rows.length (y4 s (j8 s (p6 g))))) rfl rfl (fun h=>h) rfl (by show toC ((rF s.rows.length (y4 s (j8 s (p6 g)))).map j0)=toC (((zOf s.rows.length (y4 s (j8 s (p6 g)))).map fz).map j0);rw [a5R]) (by simp [zOf,a9r])),trivial⟩
abbrev ir (n:Int):Rat:=((n:Int):Rat)
theorem b65 {n:Int} (h:-1000<=n∧n<=1000):rl (ir n)<=1:=by rw [V4];have:=n8 (x:=n) (by omega) (by omega);omega
instance:DecidableEq B8:=fun a b=>decidable_of_iff (a.terms=b.terms∧a.kind=b.kind∧a.value=b.value) ⟨fun ⟨h1,h2,h3⟩=>by cases a;cases b;simp_all,fun h=>by subst h;exact ⟨rfl,rfl,rfl⟩⟩
instance:DecidableEq d7:=fun a b=>decidable_of_iff (a.n=b.n∧a.rows=b.rows) ⟨fun ⟨h1,h2⟩=>by cases a;cases b;simp_all,fun h=>by subst h;exact ⟨rfl,rfl⟩⟩
theorem aX7:rl ((1:Int):Rat)<=200∧rl ((-1:Int):Rat)<=200∧rl ((0:Int):Rat)<=200:=by
 refine ⟨?_,?_,?_⟩
 ·have:=b65 (n:=1) (by decide);unfold ir at this;omega
 ·have:=b65 (n:=-1) (by decide);unfold ir at this;omega
 ·have:=b65 (n:=0) (by decide);unfold ir at this;omega
def aq1 (w:B8):Bool:=decide (w.terms.length<=100) && w.terms.all (fun t=>decide (rl t.2<=200)) && decide (rl w.value<=200)
theorem af1 {e:Ev} {p:Int}:∀k,(k9 e p k).all (fun t=>decide (rl t.2<=200))=true
 |0=>rfl
 |k+1=>by
  have ih:=af1 (e:=e) (p:=p) k
  unfold k9
  obtain ⟨p1,p2,p3⟩:=aX7
  split
  ·exact ih
  ·split
   ·rw [a10,ih];simpa using p1
   ·split
    ·rw [a10,ih];simpa using p2
    ·exact ih
theorem b1i {i:Nat} {kind:Int} {v:Rat} (h:rl v<=200):aq1 (u4 i kind v)=true:=by
 obtain ⟨p1,p2,p3⟩:=aX7
 unfold aq1 u4
 simp [h];simpa using p1
theorem b7M {t:j9} {kind:Int} {i:Nat} {x:t7} (hx:t.ev.moves[i]? =some x) (hf:T6 t.ev t.finds=0) (hm:t.ev.moves.length<=14):(K2 t kind i x).all aq1=true:=by
 obtain ⟨p1,p2,p3⟩:=aX7
 have hi:i<t.ev.moves.length:=(lbe.1 hx).1
 unfold K2
 rw [a10,a10,a10]
 simp only [lbO]
 refine ⟨⟨⟨?_,?_⟩,?_⟩,?_⟩
 ·split
  ·rfl
  ·simp only [a9Q,List.all_nil,a2F]
   unfold aq1 w9
   simp only [lbO,lbJ]
   have hl:=a4i (e:=t.ev) (p:=x.src) i
   refine ⟨⟨?_,?_⟩,p3⟩
   ·rw [lbq];simp;omega
   ·rw [a10,af1];simpa using p2
 ·unfold N0
  split
  ·rfl
  ·rename_i lo hi' hiv
   have h:=a6r (e:=t.ev) (x:=x) (by rw [hiv];rfl)
   have e:hiR (K9 t.ev x)=hi':=by rw [hiv];rfl
   rw [e] at h
   simpa using b1i h.2
 ·rw [List.all_map,lbw]
  intro g hg
  unfold g9 at hg
  obtain ⟨f,hf',rfl⟩:=lby.1 hg
  have:=U0 hf f (lbz.1 hf').1
  have hb:=a0f (x:=f.grams) (by omega) (by omega)
  exact b1i (by rw [V4];omega)
 ·rw [lbw]
  intro w hw
  rw [a8Z] at hw
  rw [hw.2]
  exact b1i p3
theorem bk2 {t:j9} {kind:Int} (ht:q9 t=0) (hm:t.ev.moves.length<=14):a0K (g4 t kind):=by
 obtain ⟨q1,q2,q3,q4,q5⟩:=O9 ht
 have hall:(o9 t kind t.ev.moves.length).all aq1=true:=(U5 _ (lbS _)).2 fun i x hi hx=>b7M hx q4 hm
 refine ⟨?_,fun w hw=>?_⟩
 ·have:=ac1 (t:=t) (kind:=kind) (k:=t.ev.moves.length) (by omega) q2 q3
  show (o9 t kind t.ev.moves.length).length<=_
  omega
 ·have:=lbw.1 hall w hw
  unfold aq1 at this
  simp only [lbO,lbJ,lbw] at this
  exact ⟨this.1.1,this.1.2,this.2⟩
theorem a3S {x:Int} (h0:-1000000000000000000<=x) (h1:x<=1000000000000000000):bl x<=3:=M5 (by simp only [pw];omega)
theorem b7S {c:L9} {reading day:Int} (h:Z1 c day=true) (hr:btw reading 0 1099511627776=true):rl (a7p c reading day)<=7:=by
 unfold Z1 a0E at h
 rw [a2X] at hr
 simp only [lbO,lbJ,a2X] at h
 obtain ⟨⟨⟨⟨⟨⟨⟨h1,h2⟩,h3⟩,_⟩,h4⟩,h5⟩,h6⟩,h7⟩:=h
 have e1:0<=c.permille*reading:=lb0 (by omega) (by omega)
 have e2:c.permille*reading<=1000*1099511627776:=a6i (by omega) (by omega) (by omega) (by omega)
 have e3:0<=c.drift*(day - c.since):=lb0 (by omega) (by omega)
 have e4:c.drift*(day - c.since)<=10000000*100000:=a6i (by omega) (by omega) (by omega) (by omega)
 have b1:=a3S (x:=c.permille*reading) (by omega) (by omega)
 have b2:=a3S (x:=1000) (by decide) (by decide)
 have b3:=a3S (x:=c.grams+c.drift*(day - c.since)) (by omega) (by omega)
 have l1:=a0y (p:=c.permille*reading) (q:=1000) (by decide)
 have l2:=Y6 (Rat.divInt (c.permille*reading) 1000) ((c.grams+c.drift*(day - c.since):Int):Rat)
 have l3:rl ((c.grams+c.drift*(day - c.since):Int):Rat)<=3:=by
  rw [V4];omega
 unfold a7p
 omega
theorem b70 {cs:List L9} {rs:List F0} {scale reading day:Int} {lo hi:Rat} (h:S5 cs rs scale reading day=some (lo,hi)):rl hi<=11:=by
 unfold S5 at h
 split at h
 ·cases h
 ·rename_i i hi
  obtain ⟨hb,c,hc,_,hcv⟩:=U6 hi
  have e:a48 cs i=c:=by unfold a48;rw [hc];rfl
  rw [e] at h
  split at h
  ·cases h
  ·split at h
   ·rename_i hr
    injection h with h
    injection h with h1 h2
    have l1:=b7S hcv hr
    rw [a2X] at hr
    have l2:rl (reading:Rat)<=3:=by rw [V4];have:=a3S (x:=reading) (by omega) (by omega);omega
    have l3:=Y6 (reading:Rat) (a7p c reading day)
    rw [← h2];omega
   ·cases h
def E3 (l:List (Int × Rat)):Prop:=∀t ∈ l,∃c:Int,t.2=((c:Int):Rat)∧bl c<=1
theorem a0z {i:Int} {c:Int} (h0:-1048575<=c) (h1:c<=1048575):E3 [(i,((c:Int):Rat))]:=by
 intro t ht
 simp at ht
 subst ht
 exact ⟨c,rfl,n8 h0 h1⟩
theorem a7B {a b:List (Int × Rat)} (ha:E3 a) (hb:E3 b):E3 (a++b):=by
 intro t ht
 rcases lbA.1 ht with h|h
 ·exact ha t h
 ·exact hb t h
theorem a5o {e:Ev} {p:Int}:∀k,E3 (k9 e p k)
 |0=>by intro t ht;cases ht
 |k+1=>by
  have ih:=a5o (e:=e) (p:=p) k
  unfold k9
  split
  ·exact ih
  ·split
   ·exact a7B ih (a0z (by decide) (by decide))
   ·split
    ·exact a7B ih (a0z (by decide) (by decide))
    ·exact ih
theorem b5j {t:j9} {kind:Int} (ht:q9 t=0):∀w ∈ (g4 t kind).rows,a3O 11 w:=by
 classical
 obtain ⟨q1,q2,q3,q4,q5⟩:=O9 ht
 have z1:rl ((0:Int):Rat)<=11:=by have:=rl0;show rl 0<=_;omega
 have key:(o9 t kind t.ev.moves.length).all (fun w=>decide (a3O 11 w))=true:=(U5 _ (lbS _)).2 fun i x hi hx=>by
  rw [lbw]
  intro w hw
  refine lbI ?_
  unfold K2 at hw
  rw [lbA,lbA,lbA] at hw
  rcases hw with ((hw|hw)|hw)|hw
  ·split at hw
   ·cases hw
   ·simp at hw;subst hw
    exact ⟨a7B (a5o _) (a0z (by decide) (by decide)),z1⟩
  ·unfold N0 at hw
   split at hw
   ·cases hw
   ·rename_i lo hi' hiv
    simp at hw;subst hw
    refine ⟨a0z (by decide) (by decide),?_⟩
    unfold K9 at hiv
    split at hiv
    ·cases hiv
    ·exact b70 hiv
  ·obtain ⟨g,hg,rfl⟩:=lby.1 hw
   unfold g9 at hg
   obtain ⟨f,hf',rfl⟩:=lby.1 hg
   have:=U0 q4 f (lbz.1 hf').1
   refine ⟨a0z (by decide) (by decide),?_⟩
   show rl ((f.grams:Int):Rat)<=11
   rw [V4]
   have:=a3S (x:=f.grams) (by omega) (by omega)
   have h1:bl 1<=1:=n8 (by decide) (by decide)
   omega
  ·rw [a8Z] at hw
   rw [hw.2]
   exact ⟨a0z (by decide) (by decide),z1⟩
 intro w hw
 exact lbM (lbw.1 key w hw)
theorem bi6 {s:d7} {g:List (Int × Rat)} {B0:Nat} (hI:∀w ∈ s.rows,a3O B0 w) (hg:E3 g):∀D,W4 (c6 s).length s.n.toNat (f7 s g) D->BdD (c6 s).length s.n.toNat (2 ^ s.n.toNat*(B0+4)) D:=by
 rintro D ⟨k,hk⟩
 have inv:=a4S a2v hk
 have h0:=b3z (g:=g) hI
 refine ⟨fun i hi=>b8N h0 (by omega) inv.p inv.i hi,fun i hi j hj=>b1V h0 (by omega) inv.p inv.i hi hj,fun j hj=>?_⟩
 obtain ⟨z,hz⟩:=inv.g
 have hc:∀j,∃c:Int,w7 g j=((c:Int):Rat)∧bl c<=1:=fun j=>a0U hg g.length j
 refine b1O h0 (by omega) inv.p inv.i hz (q:=1) (b:=fun l=>-(Classical.choose (hc l))) (by decide) (by have:=n8 (x:=1) (by decide) (by decide);omega) (fun l hl=>?_) (fun l hl=>?_) hj
 ·have:=(a0W (hc l)).2
  show bl (-(Classical.choose (hc l)))<=_
  rw [a33];omega
 ·have hs:=(a0W (hc l)).1
  show ((1:Int):Rat)*-(w7 g l)=((-(Classical.choose (hc l)):Int):Rat)
  generalize Classical.choose (hc l)=x at hs ⊢
  rw [hs]
  have e:((-x:Int):Rat)=-((x:Int):Rat):=by push_cast;rfl
  rw [e]
  have h1:((1:Int):Rat)=1:=rfl
  rw [h1];grind
theorem a3I {l:List (Int × Rat)} {z:List Rat} {B:Nat} (h1:∀t ∈ l,rl t.2<=1) (h2:∀v ∈ z,rl v<=B):∀k,rl (i9 (l.take k) z)<=l.length*(B+4)+1:=by
 have key:∀k,k<=l.length->rl (i9 (l.take k) z)<=k*(B+4)+1:=by
  intro k
  induction k with
  |zero=>intro _;rw [as2];have:=rl0;show rl 0<=_;omega
  |succ k ih=>
   intro hk
   have ih:=ih (by omega)
   rw [aG5 (show k<l.length by omega),Q6]
   have a1:=h1 l[k] (lbF _)
   have a2:rl (z.getD l[k].1.toNat 0)<=B+1:=by
    by_cases hz:l[k].1.toNat<z.length
    ·have:=h2 _ (lbm (getD_some hz));omega
    ·rw [lbl,lbd (by omega)]
     have:=rl0
     show rl 0<=_
     omega
   have a3:=a4x l[k].2 (z.getD l[k].1.toNat 0)
   have a4:=Y6 (i9 (l.take k) z) (l[k].2*z.getD l[k].1.toNat 0)
   rw [lbV]
   omega
 intro k
 by_cases hk:k<=l.length
 ·have h3:=key k hk
  have h4:=lbU (B+4) hk
  omega
 ·have h3:=key l.length (lbS _)
  rw [lbn (lbS _)] at h3
  rw [lbn (by omega)];exact h3
theorem S3 {l:List (Int × Rat)} (h:E3 l):∀t ∈ l,rl t.2<=1:=by
 intro t ht
 obtain ⟨c,hc,hb⟩:=h t ht
 rw [hc,V4]
 have h1:bl 1<=1:=n8 (by decide) (by decide)
 omega
theorem b0Y:∀n,n<=8->(n+3)*(2 ^ n*15+2)<=50000∧n*(2 ^ n*15+4)+1<=50000∧1<=2 ^ n*15:=by
 intro n hn
 have:∀n,n<9->(n+3)*(2 ^ n*15+2)<=50000∧n*(2 ^ n*15+4)+1<=50000∧1<=2 ^ n*15:=by decide
 exact this n (by omega)
theorem y6 {t:j9} {kind:Int} (ht:q9 t=0) (hm:t.ev.moves.length<=8) {g:List (Int × Rat)} (hg:d8 (-1) (t.ev.moves.length:Nat) g=true) (hw:E3 g):
 A0 (g4 t kind) g t.ev.moves.length (2 ^ t.ev.moves.length*15):=by
 obtain ⟨q1,q2,q3,q4,q5⟩:=O9 ht
 have hB:=bk2 (kind:=kind) ht (by omega)
 have hl:(g4 t kind).rows.length<=576:=by
  have h1:=a1G (t:=t) (kind:=kind) t.ev.moves.length
  have h2:t.ev.moves.length*(2+t.finds.length+t.cleans.length)<=8*72:=Nat.mul_le_mul hm (by omega)
  show (o9 t kind t.ev.moves.length).length<=_
  omega
 have hwr:=S3 hw
 refine ⟨⟨aq4 (by omega) q2 q3,hg,rfl,by omega,fun w hw=>?_,fun t ht=>by have:=hwr t ht;omega,by omega⟩,hB,fun t ht=>by have:=hwr t ht;omega,?_,(b0Y _ hm).2.2,(b0Y _ hm).1,by omega⟩
 ·obtain ⟨a1,a2,a3⟩:=hB.t w hw
  exact ⟨by omega,fun t ht=>by have:=a2 t ht;omega⟩
 ·exact bi6 (B0:=11) (b5j ht) hw
theorem a2f {s:d7} {g:List (Int × Rat)} {n B:Nat} (h:A0 s g n B):∀v ∈ i4 s g,rl v<=B:=by
 intro v hv
 have hb:=a8q h
 have hn:=h.nn
 have h1:=h.b1
 obtain ⟨j,hj,rfl⟩:=a70 hv
 have hp:Q1 (c6 s).length s.n.toNat (j8 s g):=I5.p
 rw [hn] at hj hp ⊢
 rw [← aZ7 hp hj]
 have key:∀k,k<=(c6 s).length->rl (ptK n (j8 s g).O (j8 s g).V (fun _=>0) k j)<=B:=by
  intro k
  induction k with
  |zero=>intro _;have:=rl0;show rl 0<=_;omega
  |succ k ih=>
   intro hk
   rw [L7]
   simp only
   split
   ·exact hb.v k (by omega)
   ·exact ih (by omega)
 exact key _ (lbS _)
theorem a4T {l:List (Int × Rat)} (h:E3 l):E3 (p6 l):=by
 intro t ht
 obtain ⟨u,hu,rfl⟩:=lby.1 ht
 obtain ⟨c,hc,hb⟩:=h u hu
 refine ⟨-c,?_,by rw [a33];exact hb⟩
 show u.2*((-1:Int):Rat)=((-c:Int):Rat)
 rw [hc]
 have e:((-c:Int):Rat)=-((c:Int):Rat):=by push_cast;rfl
 have e1:((-1:Int):Rat)=-1:=rfl
 rw [e,e1];grind
theorem a4Y {n:Int}:∀{l:List (Int × Rat)} {last:Int},d8 last n l=true->d8 last n (p6 l)=true
 |[],_,_=>rfl
 |a::r,last,h=>by
  unfold d8 at h
  show d8 last n ((a.1,a.2*((-1:Int):Rat))::p6 r)=true
  unfold d8
  simp only [lbO,lbJ] at h ⊢
  refine ⟨⟨⟨h.1.1.1,h.1.1.2⟩,fun e=>h.1.2 ?_⟩,a4Y h.2⟩
  have e1:((-1:Int):Rat)=-1:=rfl
  rw [e1] at e
  grind
theorem a9m (l:List (Int × Rat)):(p6 l).length=l.length:=a0O _ _
theorem b0r {t:j9} {kind:Int} (ht:q9 t=0) (hm:t.ev.moves.length<=8) {g:List (Int × Rat)} (hg:d8 (-1) (t.ev.moves.length:Nat) g=true) (hw:E3 g):
 b3a (g4 t kind) g t.ev.moves.length (2 ^ t.ev.moves.length*15) (2 ^ t.ev.moves.length*15) (2 ^ t.ev.moves.length*15):=by
 have p:=y6 (kind:=kind) ht hm hg hw
 have q:=y6 (kind:=kind) ht hm (a4Y hg) (a4T hw)
 have z:=y6 (kind:=kind) ht hm (g:=[]) rfl (fun t ht=>by cases ht)
 have hl:g.length<=t.ev.moves.length:=by
  have:=s6 hg
  omega
 have hp:=(b0Y _ hm).2.1
 have hmul:=lbU (2 ^ t.ev.moves.length*15+4) hl
 refine ⟨p,q,z,a1C (by omega) hg,fun k=>?_,fun k=>?_⟩
 ·have:=a3I (S3 hw) (a2f p) k
  omega
 ·have:=a3I (S3 (a4T hw)) (a2f q) k
  rw [a9m] at this
  omega
noncomputable def E5 (s:d7) (g:List (Int × Rat)) (hh:Int):a0t:=
 open Classical in
 if 0<i9 g (i4 s g) then b6w s g hh else match J5 s (p6 g) with
 |.col c=>a6c s g c hh
 |_=>if i9 (p6 g) (i4 s (p6 g))<0 then b9t s g hh else a9r s g hh
theorem aN5 {z:List Rat} (hz:∀v ∈ z,0<=v):∀l:List (Int × Rat),(∀ t ∈ l,0<=t.2)->0<=i9 l z:=by
 intro l hl
 have key:∀k,k<=l.length->0<=i9 (l.take k) z:=by
  intro k
  induction k with
  |zero=>intro _;rw [as2];exact lb2
  |succ k ih=>
   intro hk
   have ih:=ih (by omega)
   rw [aG5 (show k<l.length by omega),Q6]
   have h1:=hl l[k] (lbF _)
   have h2:0<=z.getD l[k].1.toNat 0:=by
    by_cases hlt:l[k].1.toNat<z.length
    ·exact hz _ (lbm (getD_some hlt))
    ·rw [lbl,lbd (by omega)];exact lb2
   have h3:=lb1 h1 h2
   grind
 have:=key l.length (lbS _)
 rwa [Y8] at this
theorem a85 {s:d7} {g:List (Int × Rat)} (hr:g7 s=true) (hg:d8 (-1) ((s.n.toNat:Nat):Int) g=true) (hp:∀t ∈ g,0<=t.2) (hz:J5 s []=.best):J5 s g=.best:=by
 rcases a88 s g with h|⟨r,h⟩|⟨c,h⟩
 ·exact h
 ·have h1:=(a2m hr rfl hz).1
  rw [aC6 h] at h1;cases h1
 ·obtain ⟨h1,h2⟩:=aC0 hr hg h
  have:=aN5 h1.pos g hp
  exact absurd h2 (by grind)
theorem not_row {s:d7} {g:List (Int × Rat)} (hr:g7 s=true) (hz:J5 s []=.best):J5 s g=.best∨∃c,J5 s g=.col c:=by
 rcases a88 s g with h|⟨r,h⟩|h
 ·exact .inl h
 ·have h1:=(a2m hr rfl hz).1
  rw [aC6 h] at h1;cases h1
 ·exact .inr h
theorem b43 (s:d7) (g:List (Int × Rat)) (n B B1 B0:Nat) (h:b3a s g n B B1 B0) (hh:Int) (hp:∀t ∈ g,0<=t.2) (hz:J5 s []=.best):
 a8 Tryz.prog 44 [K3 s,j4 g,a7 .i64 hh] [] (b3O (E5 s g hh)) []:=by
 have hn:=h.p.nn
 have hg:d8 (-1) ((s.n.toNat:Nat):Int) g=true:=by rw [hn];exact h.p.o.tg
 have hb:=a85 h.p.o.r hg hp hz
 unfold E5
 by_cases h1:0<i9 g (i4 s g)
 ·rw [if_pos h1];exact aa7 s g n B B1 B0 h hh hb h1
 ·rw [if_neg h1]
  rcases not_row (g:=p6 g) h.p.o.r hz with h2|⟨c,h2⟩
  ·rw [h2];simp only
   by_cases h3:i9 (p6 g) (i4 s (p6 g))<0
   ·rw [if_pos h3];exact aI1 s g n B B1 B0 h hh hb h1 h2 h3
   ·rw [if_neg h3];exact al7 s g n B B1 B0 h hh hb h1 h2 h3
  ·rw [h2];exact an6 s g n B B1 B0 c h hh hb h1 h2 hz
theorem a8B {n:Int}:∀{l:List Int} {last:Int},(∀ (i:Nat) (x:Int),l[i]? =some x->last<x∧x<n)->(∀ (i:Nat) (x y:Int),l[i]? =some x->l[i+1]? =some y->x<y)->d8 last n (a3A l)=true
 |[],_,_,_=>rfl
 |a::r,last,h1,h2=>by
  show d8 last n ((a,((1:Int):Rat))::a3A r)=true
  unfold d8
  simp only [lbO,lbJ]
  have h3:=h1 0 a rfl
  refine ⟨⟨h3,by decide⟩,a8B (fun i x hx=>?_) (fun i x y hx hy=>h2 (i+1) x y (by simpa using hx) (by simpa using hy))⟩
  have h4:=h1 (i+1) x (by simpa using hx)
  refine ⟨?_,h4.2⟩
  have key:∀(i:Nat) (x:Int),r[i]? =some x->a<x:=by
   intro i
   induction i with
   |zero=>intro x hx;exact h2 0 a x rfl (by simpa using hx)
   |succ i ih=>
    intro x hx
    obtain ⟨y,hy⟩:∃y,r[i]? =some y:=⟨_,lbf (by have:=(lbe.1 hx).1;omega)⟩
    have:=ih y hy
    have:=h2 (i+1) y x (by simpa using hy) (by simpa using hx)
    omega
  exact key i x hx
theorem K6 (t:j9) (h:Int):d8 (-1) (t.ev.moves.length:Nat) (v8 t h)=true:=by
 obtain ⟨a1,a2⟩:=a7S t.ev h (-1) 0 100000
 exact a8B (fun i x hx=>by have:=a1 i x hx;omega) a2
theorem a0b (t:j9) (h:Int):E3 (v8 t h):=by
 intro u hu
 obtain ⟨i,_,rfl⟩:=lby.1 hu
 exact ⟨1,rfl,n8 (by decide) (by decide)⟩
theorem ap2 (t:j9) (h:Int):∀u ∈ v8 t h,0<=u.2:=by
 intro u hu
 obtain ⟨i,_,rfl⟩:=lby.1 hu
 show (0:Rat)<=((1:Int):Rat)
 decide
theorem ak1 {t:j9} {h:Int}:(E6 t.ev h (-1) 0 100000).length<=t.ev.moves.length:=by
 have:=s6 (K6 t h)
 have e:(v8 t h).length=(E6 t.ev h (-1) 0 100000).length:=by simp [v8,a3A]
 omega
noncomputable def F6 (t:j9) (kind:Int) (k:Nat):List a0t:=(List.range k).map fun i:Nat=>E5 (g4 t kind) (v8 t (i:Int)) (i:Int)
theorem a36 (t:j9) (kind:Int) (k:Nat):(F6 t kind k).length=k:=by simp [F6]
theorem aO2 (t:j9) (kind:Int) (k:Nat):F6 t kind (k+1)=F6 t kind k++[E5 (g4 t kind) (v8 t k) k]:=by simp [F6,a5M]
abbrev bk0 (l:List a0t):T:=.sl 5 .any (l.map a0t.row)
abbrev ad0 (l:List a0t):S:=.c (.t (bk0 l))
abbrev be5 (l:List a0t):Blk:={ mode:=.live,elem:=35,size:=5,rows:=toC (l.map a0t.row),box:=false }
abbrev b9r (s:d7):Blk:={ mode:=.live,elem:=86,size:=2,rows:=[[.t (ti s.n),.t (K0 s.rows)]],box:=true }
theorem b2K (s:d7):H4 (b9r s).rows:=f5 [[ti s.n,K0 s.rows]]
set_option maxHeartbeats 2000000 in
theorem aa9 (t:j9) (kind:Int) (hs:t.Sized) (h:a2P t kind≠0):a8 Tryz.prog 11 [trS t,a7 .i64 kind] [] (.tup [ad0 [],a7 .i64 1]) []:=by
 have sy:=a0V t kind hs
 (refine ac Tryz.func11 ?_;(conv=>whnf);repeat ((first|refine b0x ?_|refine zy ?_);conv=>whnf))
 repeat' (first|refine zx ?_|refine qp sy ?_|refine qp 5 ?_|refine bl0 [5] ?_|refine zd ?_ ?_<;>intro h<;>try omega|fail)<;>conv=>whnf
 all_goals first
  |omega
  |exact l9 ⟨rfl,rfl,trivial⟩
set_option maxHeartbeats 2000000 in
theorem a7C (t:j9) (kind:Int) (hs:t.Sized) (ht:q9 t=0) (k0:0<=kind) (k1:kind<8) (hm:t.ev.moves.length<=8) (r:Nat) (hz:J5 (g4 t kind) []=.row r):
 a8 Tryz.prog 11 [trS t,a7 .i64 kind] [] (.tup [ad0 [],a7 .i64 15]) []:=by
 have sy:=a0V t kind hs
 have hc:¬(q9 t≠0∨kind<0∨8<=kind):=by omega
 have e1:a2P t kind=0:=if_neg hc
 have e2:aF6 t kind=g4 t kind:=if_neg hc
 rw [e1,e2] at sy
 have so:=an9 (g4 t kind) _ _ r (y6 (kind:=kind) ht hm (g:=[]) rfl (fun t ht=>by cases ht)) hz
 (refine ac Tryz.func11 ?_;(conv=>whnf);repeat ((first|refine b0x ?_|refine zy ?_);conv=>whnf))
 repeat' (first|refine zx ?_|refine qp sy ?_|refine qp so ?_|refine qp 5 ?_|refine bl0 [5] ?_|refine zd ?_ ?_<;>intro h<;>try omega|fail)<;>conv=>whnf
 all_goals first
  |omega
  |exact l9 ⟨rfl,rfl,trivial⟩
set_option maxHeartbeats 4000000 in
theorem am7 (t:j9) (kind:Int) (hs:t.Sized) (ht:q9 t=0) (k0:0<=kind) (k1:kind<8) (hm:t.ev.moves.length<=8) (hh:Nat) (hhs:t.ev.hhs=hh) (h100:hh<=1000) (hz:J5 (g4 t kind) []=.best):
 a8 Tryz.prog 11 [trS t,a7 .i64 kind] [] (.tup [ad0 (F6 t kind hh),a7 .i64 0]) []:=by
 have sy:=a0V t kind hs
 have hc:¬(q9 t≠0∨kind<0∨8<=kind):=by omega
 have e1:a2P t kind=0:=if_neg hc
 have e2:aF6 t kind=g4 t kind:=if_neg hc
 rw [e1,e2] at sy
 have lz:=y6 (kind:=kind) ht hm (g:=[]) rfl (fun t ht=>by cases ht)
 have so:=a9S (g4 t kind) _ _ lz hz (fun v hv=>by have:=a7r lz v hv;omega)
 (refine ac Tryz.func11 ?_;(conv=>whnf);repeat ((first|refine b0x ?_|refine zy ?_);conv=>whnf))
 repeat' (first|refine zx ?_|refine qp sy ?_|refine qp so ?_|refine qp 5 ?_|refine bl0 [5] ?_|refine zd ?_ ?_<;>intro h<;>try omega|fail)<;>conv=>whnf
 all_goals try omega
 refine i3 c9 (fun k=>([J,J,S.c (C.t (T.ptr (trT t))),J,J,J,S.c (C.ptr 0 0 0),J,J,J,J,S.c (C.own 1 0 k true)]++Jn 19++[a7 .i64 hh,a7 .i64 k]++Jn 13,[b9r (g4 t kind),be5 (F6 t kind k)])) hh (fun _=>True) [some 0,none] trivial
  ⟨rfl,rfl,⟨g8 (b2K _),⟨rfl,rfl⟩,trivial⟩,⟨i8 rfl,⟨rfl,rfl,rfl⟩,⟨rfl,rfl,rfl⟩,c7 hhs,c7 rfl,trivial⟩⟩ ?_
 intro k hk _
 by_cases hlt:k<hh
 ·have go:=b2q t hs k (by have:=ak1 (t:=t) (h:=k);omega)
  have eg:aS4 t k=v8 t k:=if_pos ⟨ht,by omega,by omega⟩
  rw [eg] at go
  have ve:=b43 (g4 t kind) (v8 t k) _ _ _ _ (b0r (kind:=kind) ht hm (K6 t k) (a0b t k)) k (ap2 t k) hz
  have lA:k<=(be5 (F6 t kind k)).rows.length:=by show k<=(toC _).length;simp [toC,a36]
  conv=>whnf
  repeat' (first|refine zx ?_|refine qp go ?_|refine qp ve ?_|refine qp toC ?_|refine D7 lA (by simp [toC];omega) ?_|refine zd ?_ ?_<;>intro h<;>try omega|fail)<;>conv=>whnf
  all_goals first
   |omega
   |(refine ⟨hlt,trivial,[some 0,some 2],rfl,rfl,⟨g8 (b2K _),b8 (rows:=(F6 t kind (k+1)).map a0t.row) rfl rfl rfl ?_ rfl,trivial⟩,⟨rfl,⟨rfl,rfl,rfl⟩,⟨rfl,rfl,rfl,fun h=>h⟩,rfl,c7 (by omega),trivial⟩⟩
     rw [aO2]
     exact a01 (f:=a0t.row) (x:=E5 (g4 t kind) (v8 t k) k) (a36 t kind k).symm)
 ·have hke:k=hh:=by omega
  subst hke
  conv=>whnf
  repeat' (first|refine zx ?_|refine zd ?_ ?_<;>intro h<;>try omega|fail)<;>conv=>whnf
  all_goals first
   |omega
   |exact l9 ⟨(show VC _ (fun id=>N2 [] id=true) (C.own 1 0 k true) _ from y0 (k:=be5 (F6 t kind k)) rfl rfl (fun h=>h) rfl rfl (by simp [a36])),rfl,trivial⟩
structure PtB (s:d7) (z:List Rat):Prop where
 v:∀v ∈ z,rl v<=40000
 S:∀w ∈ s.rows,∀k,rl (i9 (w.terms.take k) z)<=50000
 l:z.length<=1000000
theorem aM1 (s:d7) (hb:a0K s) (hr:g7 s=true) (Z:List Rat) (hp:PtB s Z):
 a8 Tryz.prog 69 [K3 s,k8 (Z.map fz)] [] (d9 (j2 s Z)) []:=by
 have m1:(s.rows.map u0).length=s.rows.length:=by simp
 have m2:((Z.map fz).map j0).length=Z.length:=by simp
 have l1:=hb.n0
 have l2:=hp.l
 have lr:=a2p s hb
 rw [hr] at lr
 have pt:=a9x (Z.map fz) (by simpa using hp.l) (fun f hf=>by
  obtain ⟨x,hx,rfl⟩:=lby.1 hf
  have:=hp.v x hx
  have a:=O2 x
  have b:=P1 x
  exact ⟨by show bl x.num<=_;omega,by show bl x.den<=_;omega⟩)
 rw [a0D] at pt
 by_cases hn:(Z.length:Int)≠s.n
 ·have e2:j2 s Z=false:=by unfold j2;rw [lbK hn];simp
  rw [e2]
  (refine ac Tryz.func69 ?_;(conv=>whnf);repeat ((first|refine b0x ?_|refine zy ?_);conv=>whnf))
  repeat' (first|refine zx ?_|refine qp lr ?_|refine qp pt ?_|refine zd ?_ ?_<;>intro h<;>try omega|fail)<;>conv=>whnf
  all_goals first
   |omega
   |exact b9 rfl
 have hn:(Z.length:Int)=s.n:=by omega
 have e2:j2 s Z=(Z.all (fun v=>decide (0<=v)) && s.rows.all (fun w=>V7 w Z)):=by unfold j2;rw [hr,lbI hn];simp
 rw [e2]
 (refine ac Tryz.func69 ?_;(conv=>whnf);repeat ((first|refine b0x ?_|refine zy ?_);conv=>whnf))
 repeat' (first|refine zx ?_|refine qp lr ?_|refine qp pt ?_|refine zd ?_ ?_<;>intro h<;>try omega|fail)<;>conv=>whnf
 all_goals try omega
 refine i3 c9 (fun k=>([J,k8 (Z.map fz),S.c (C.t (T.ptr [ti s.n,K0 s.rows]))]++Jn 22++[k8 (Z.map fz),a7 .i64 Z.length,a7 .i64 k]++Jn 38,[])) Z.length (fun k=>(Z.take k).all (fun v=>decide (0<=v))=true) [] rfl
  ⟨rfl,rfl,trivial,⟨rfl,rfl,rfl,c7 (by simp),rfl,trivial⟩⟩ ?_
 intro k hk hI
 by_cases hlt:k<Z.length
 ·obtain ⟨x,hx⟩:∃x,Z[k]? =some x:=⟨_,lbf hlt⟩
  have bx:=hp.v x (lbm hx)
  have sg:=D9 x (by omega)
  have sn:=b1Q (x:=x)
  conv=>whnf
  repeat' (first|refine zx ?_|refine qp sg ?_|refine d6 (a2x Z hx) ?_|refine zd ?_ ?_<;>intro h<;>try omega|fail)<;>conv=>whnf
  all_goals first
   |omega
   |(have h0:¬sgR x<0:=by omega
     exact ⟨hlt,by rw [x8 hx,hI];simpa using lb3.1 (fun h=>h0 (sn.2 h)),[],rfl,rfl,trivial,⟨rfl,rfl,rfl,rfl,rfl,trivial⟩⟩)
   |(have h0:sgR x<0:=by omega
     have hF:Z.all (fun v=>decide (0<=v))=false:=C2 hx (lbK (a5w.2 (sn.1 h0)))
     refine b9 ?_;rw [hF];rfl)
 ·have hA:Z.all (fun v=>decide (0<=v))=true:=by rw [← hI,lbn (by omega)]
  rw [hA,F7]
  conv=>whnf
  repeat' (first|refine zx ?_|refine zd ?_ ?_<;>intro h<;>try omega|fail)<;>conv=>whnf
  all_goals try omega
  clear hI hlt hk
  refine i3 c9 (fun k=>([J,k8 (Z.map fz)]++Jn 34++[S.c (C.t (K0 s.rows)),a7 .i64 s.rows.length,a7 .i64 k]++Jn 27,[])) s.rows.length (fun k=>(s.rows.take k).all (fun w=>V7 w Z)=true) [] rfl
   ⟨rfl,rfl,trivial,⟨rfl,rfl,c7 (by simp),rfl,trivial⟩⟩ ?_
  intro k hk hI
  by_cases hlt:k<s.rows.length
  ·obtain ⟨w,hw⟩:∃w,s.rows[k]? =some w:=⟨_,lbf hlt⟩
   obtain ⟨b1,b2,b3⟩:=hb.t w (lbm hw)
   have hrw:y9 s.n w=true:=by
    unfold g7 at hr
    simp only [lbO,lbw] at hr
    exact hr.2 w (lbm hw)
   have hrt:d8 (-1) Z.length w.terms=true:=by
    unfold y9 at hrw
    simp only [lbO] at hrw
    rw [hn];exact hrw.1.1
   have hS:=hp.S w (lbm hw)
   have va:=aS6 w.terms Z (by omega) (fun t ht=>by have:=b2 t ht;omega) hp.v (fun k=>by have:=hS k;omega) (by omega) hrt
   have bv:=hS w.terms.length
   rw [lbn (lbS _)] at bv
   have c:=J2 (i9 w.terms Z) w.value (by omega) (by omega)
   have k1:=a6X (x:=i9 w.terms Z) (y:=w.value)
   have k2:=a04 (x:=i9 w.terms Z) (y:=w.value)
   have hro:=a2C (w:=w) (z:=Z)
   rw [← k1,←k2] at hro
   generalize X4 (i9 w.terms Z) w.value=U at c hro
   by_cases hok:(U<0->w.kind=1)∧(U > 0->w.kind=0)
   ·have hT:=hro.2 hok
    obtain ⟨q1,q2⟩:=hok
    conv=>whnf
    repeat' (first|refine zx ?_|refine qp va ?_|refine qp c ?_|refine d6 hw ?_|refine zd ?_ ?_<;>intro h<;>try omega|fail)<;>conv=>whnf
    all_goals first
     |omega
     |exact ⟨hlt,by rw [x8 hw,hI,hT];rfl,[],rfl,rfl,trivial,⟨rfl,rfl,rfl,rfl,trivial⟩⟩
   ·have hF:V7 w Z=false:=by rw [← lbR];exact fun h=>hok (hro.1 h)
    rw [C2 hw hF]
    have hor:(U<0∧w.kind≠1)∨(U > 0∧w.kind≠0):=by omega
    clear hro hok
    conv=>whnf
    repeat' (first|refine zx ?_|refine qp va ?_|refine qp c ?_|refine d6 hw ?_|refine zd ?_ ?_<;>intro h<;>try omega|fail)<;>conv=>whnf
    all_goals first
     |omega
     |exact b9 rfl
  ·rw [lbn (by omega)] at hI
   rw [hI]
   conv=>whnf
   repeat' (first|refine zx ?_|refine zd ?_ ?_<;>intro h<;>try omega|fail)<;>conv=>whnf
   all_goals first
    |omega
    |exact b9 rfl
def yN (Y:List Rat) (i:Nat):Rat:=Y.getD i 0
theorem b6h {Y:List Rat} {k:Nat} {x:Rat} (h:Y[k]? =some x):yN Y k=x:=by unfold yN;rw [lbl,h];rfl
def sgB (s:d7) (Y:List Rat) (i:Nat):Bool:=!((decide ((m6 s i).kind=0) && decide (yN Y i<0)) || (decide ((m6 s i).kind=1) && decide (0<yN Y i)))
def a1K (s:d7) (Y:List Rat):Bool:=decide (Y.length=s.rows.length) && (List.range s.rows.length).all (sgB s Y)
theorem b35 {n k:Nat} (h:k<n):(List.range n)[k]? =some k:=by simp [h]
theorem ac9 {f:Nat->Bool} {k:Nat}:(List.range (k+1)).all f=((List.range k).all f && f k):=by rw [a5M,a10];simp
theorem aA0 {f:Nat->Bool} {n k:Nat} (h:k<n) (hf:f k=false):(List.range n).all f=false:=C2 (b35 h) hf
theorem b7N {n:Int} {l:List (Int × Rat)} (hr:d8 (-1) n l=true) {i:Nat} {t:Int × Rat} (ht:l[i]? =some t):∀k,i<k->k<=l.length->J0 l k t.1.toNat=t.2:=by
 intro k hi hk
 induction k with
 |zero=>omega
 |succ k ih=>
  obtain ⟨u,hu⟩:∃u,l[k]? =some u:=⟨_,lbf (by omega)⟩
  rw [G6 hu]
  simp only
  by_cases h:i=k
  ·subst h
   rw [ht] at hu;injection hu with hu;subst hu
   rw [if_pos rfl]
  ·have:=a1h hr i k t u (by omega) ht hu
   have:=o8 hr t (lbm ht)
   rw [if_neg (by omega)]
   exact ih (by omega) (by omega)
theorem b8f {n:Int} {l:List (Int × Rat)} (hr:d8 (-1) n l=true) {i:Nat} {t:Int × Rat} (ht:l[i]? =some t):w7 l t.1.toNat=t.2:=
 b7N hr ht _ (lbe.1 ht).1 (lbS _)
def a0j (s:d7) (y:Nat->Rat) (k:Nat):List (Int × Rat):=((List.range k).filter fun v=>decide (L2 s y v≠0)).map fun v:Nat=>((v:Int),L2 s y v)
theorem as3 (s:d7) (y:Nat->Rat) (k:Nat):a0j s y (k+1)=if L2 s y k=0 then a0j s y k else a0j s y k++[((k:Int),L2 s y k)]:=by
 unfold a0j
 rw [a5M,lb7,lbD]
 by_cases h:L2 s y k=0
 ·rw [if_pos h];simp [h]
 ·rw [if_neg h];simp [h]
theorem b4n (s:d7) (y:Nat->Rat) (k:Nat):(a0j s y k).length<=k:=by
 unfold a0j
 rw [lbr]
 exact lbT (lbt _ _) (by simp)
def S1 (s:d7) (y:Nat->Rat) (l k:Nat):Rat:=f8 (fun i=>y i*w7 (m6 s i).terms l) k
def a19 (s:d7) (y:Nat->Rat) (k:Nat):Rat:=f8 (fun i=>y i*(m6 s i).value) k
structure a9f (s:d7) (Y:List Rat):Prop where
 y:∀v ∈ Y,rl v<=40000
 n:∀l k,rl (S1 s (yN Y) l k)<=50000
 v:∀k,rl (a19 s (yN Y) k)<=50000
 l:Y.length=s.rows.length
 m:s.rows.length<=1000000
theorem ao6 {n:Int}:∀{l:List (Int × Rat)} {last:Int},l.Pairwise (fun a b=>a.1<b.1)->(∀ t ∈ l,last<t.1∧t.1<n∧t.2≠0)->d8 last n l=true
 |[],_,_,_=>rfl
 |a::r,last,h1,h2=>by
  unfold d8
  simp only [lbO,lbJ]
  obtain ⟨p1,p2⟩:=List.pairwise_cons.1 h1
  have:=h2 a (R3 ..)
  exact ⟨⟨⟨this.1,this.2.1⟩,this.2.2⟩,ao6 p2 fun t ht=>⟨p1 t ht,(h2 t (T9 _ ht)).2⟩⟩
theorem a6V {s:d7} {y:Nat->Rat} {k:Nat} {t:Int × Rat}:t ∈ a0j s y k↔∃v:Nat,v<k∧L2 s y v≠0∧t=((v:Int),L2 s y v):=by
 unfold a0j
 rw [lby]
 constructor
 ·rintro ⟨v,hv,rfl⟩
  rw [lbz,lbC] at hv
  exact ⟨v,hv.1,by simpa using hv.2,rfl⟩
 ·rintro ⟨v,h1,h2,rfl⟩
  exact ⟨v,by rw [lbz,lbC];exact ⟨h1,by simpa using h2⟩,rfl⟩
theorem a5D (s:d7) (y:Nat->Rat) (k:Nat):d8 (-1) (k:Int) (a0j s y k)=true:=by
 refine ao6 ?_ fun t ht=>?_
 ·unfold a0j
  rw [List.pairwise_map]
  exact ((List.pairwise_lt_range (n:=k)).filter _).imp fun {a b} h=>by show (a:Int)<b;omega
 ·obtain ⟨v,h1,h2,rfl⟩:=a6V.1 ht
  exact ⟨by simp only;omega,by simp only;omega,h2⟩
theorem aT2 {s:d7} {y:Nat->Rat} {k v:Nat} (hv:v<k):w7 (a0j s y k) v=L2 s y v:=by
 by_cases h:L2 s y v=0
 ·rw [h]
  refine Z0 _ fun i t _ ht=>?_
  obtain ⟨u,h1,h2,rfl⟩:=a6V.1 (lbm ht)
  intro e
  have e:u=v:=by simpa using e
  exact h2 (e ▸ h)
 ·obtain ⟨i,hi,he⟩:=a0Y (a6V.2 ⟨v,hv,h,rfl⟩)
  have:=b8f (a5D s y k) (i:=i) (t:=((v:Int),L2 s y v)) (by rw [lbf hi,he])
  simpa using this
def a2q (s:d7) (g:List (Int × Rat)) (Y:List Rat):Bool:=a1K s Y && d8 (-1) s.n g && (List.range s.n.toNat).all fun v=>decide (L2 s (yN Y) v<=w7 g v)
def aA5 (s:d7) (g:List (Int × Rat)) (Y:List Rat):S:=if a2q s g Y=true then .tup [frS (fz (a0k s (yN Y))),d9 true] else .tup [frS J3,d9 false]
theorem aL3 {P:Program} {g:FuncId} {x y:S} {H H':Hp} {r:S} (h:a8 P g [x,j4 [],y] H r H'):a8 P g [x,.c (.t (.sl 0 .nil [])),y] H r H':=by
 refine a5v h rfl fun w ι M j a b v hx hy hr=>?_
 rcases j with _|_|_|j
 ·injection hx with hx;injection hy with hy;subst hx hy;exact hr
 ·injection hx with hx;injection hy with hy;subst hx hy
  cases hr with
  |c hr=>cases hr with
   |t hr=>exact .c (.t (hr.weak rfl))
 ·injection hx with hx;injection hy with hy;subst hx hy;exact hr
 ·simp at hx
def ad9 (s:d7) (Y:List Rat):Bool:=a2q s [] Y && decide (0<a0k s (yN Y))
def n9 (s:d7) (g:List (Int × Rat)):d7:=⟨s.n,s.rows++[⟨g,2,((0:Int):Rat)⟩]⟩
def a3v (s:d7) (g:List (Int × Rat)) (x:List Rat) (is:Bool):Bool:=j2 s x && (decide (0<i9 g x) == is)
theorem b6K {g:List (Int × Rat)} {B:Nat} (h:∀t ∈ g,rl t.2<=B):∀t ∈ p6 g,rl t.2<=B:=by
 intro t ht
 obtain ⟨u,hu,rfl⟩:=lby.1 ht
 have e:u.2*((-1:Int):Rat)=-u.2:=by
  have e1:((-1:Int):Rat)=-1:=rfl
  rw [e1];grind
 show rl (u.2*((-1:Int):Rat))<=B
 rw [e,M9]
 exact h u hu
def b00 (s:d7) (g:List (Int × Rat)) (v:a0t):Bool:=
 if v.state=2 then decide (v.wo.length=0) && a3v s g v.w true && ad9 (n9 s g) v.pr
 else if v.state=0 then decide (v.w.length=0) && a3v s g v.wo false && (a2q s (p6 g) v.pr && decide (a0k s (yN v.pr)=0))
 else if v.state=1 then decide (v.pr.length=0) && a3v s g v.w true && a3v s g v.wo false
 else false
structure bg9 (s:d7) (g:List (Int × Rat)) (v:a0t):Prop where
 w:PtB s v.w
 wo:PtB s v.wo
 wg:∀k,rl (i9 (g.take k) v.w)<=50000
 og:∀k,rl (i9 (g.take k) v.wo)<=50000
 y:∀x ∈ v.pr,rl x<=40000
 yl:v.pr.length<=1000000
 m1:v.pr.length=(n9 s g).rows.length->a9f (n9 s g) v.pr
 m0:v.pr.length=s.rows.length->a9f s v.pr
theorem a05 {s:d7} {g:List (Int × Rat)} (hr:g7 s=true) (hl:s.rows.length<6000) (hg:d8 (-1) s.n g=true):g7 (n9 s g)=true:=by
 unfold g7 at hr ⊢
 simp only [lbO,lbJ] at hr ⊢
 refine ⟨⟨hr.1.1,by simp [n9];omega⟩,?_⟩
 show (s.rows++[_]).all (y9 s.n)=true
 rw [a10,hr.2]
 simp [y9,hg]
theorem b2o {s:d7} {g:List (Int × Rat)} (hb:a0K s) (hl:s.rows.length<6000) (hg:g.length<=100) (hgb:∀t ∈ g,rl t.2<=200):a0K (n9 s g):=by
 refine ⟨by simp [n9];omega,fun w hw=>?_⟩
 rcases lbA.1 hw with h|h
 ·exact hb.t w h
 ·simp at h
  subst h
  exact ⟨hg,hgb,by have:=rl0;show rl 0<=_;omega⟩
theorem V6 {s:d7} {g:List (Int × Rat)} (z:List Rat):∀l:List (Int × Rat),i9 (p6 l) z=-(i9 l z):=by
 intro l
 have key:∀k,k<=l.length->i9 ((p6 l).take k) z=-(i9 (l.take k) z):=by
  intro k
  induction k with
  |zero=>intro _;rw [as2,as2];show (0:Rat)=-0;grind
  |succ k ih=>
   intro hk
   have ih:=ih (by omega)
   have ht:l[k]? =some l[k]:=lbf (by omega)
   rw [show (p6 l).take (k+1)=_ from a90 l _ ht,Q6,aG5 (show k<l.length by omega),Q6,show (a0e l ((-1:Int):Rat)).take k=(p6 l).take k from rfl,ih]
   have e1:((-1:Int):Rat)=-1:=rfl
   rw [e1];simp only;grind
 have:=key l.length (lbS _)
 rwa [lbn (by rw [a9m];exact lbS _),lbn (lbS _)] at this
structure VdP (s:d7) (g:List (Int × Rat)):Prop where
 r:g7 s=true
 p:∀t ∈ g,0<=t.2
 z:J5 s []=.best
 g:d8 (-1) ((s.n.toNat:Nat):Int) g=true
theorem VdP.og {s:d7} {g:List (Int × Rat)} (h:VdP s g):d8 (-1) ((s.n.toNat:Nat):Int) (p6 g)=true:=a4Y h.g
theorem VdP.pos {s:d7} {g:List (Int × Rat)} (h:VdP s g) {z:List Rat} (hz:j2 s z=true):0<=i9 g z:=aN5 (ax0 hz) g h.p
theorem VdP.least {s:d7} {g:List (Int × Rat)} (h:VdP s g):j2 s (i4 s g)=true∧∀z,j2 s z=true->i9 g (i4 s g)<=i9 g z:=a2m h.r h.g (a85 h.r h.g h.p h.z)
theorem VdP.has {s:d7} {g:List (Int × Rat)} (h:VdP s g):j2 s (i4 s [])=true:=(a2m h.r rfl h.z).1
theorem b8V {s:d7} {g:List (Int × Rat)} (c:Nat):(zOf s.n.toNat fun j=>F2 (c6 s).length s.n.toNat (j8 s []) 1 (fun _=>0) j+F2 (c6 s).length s.n.toNat (j8 s g) 0 (fun q=>if q=c then 1 else 0) j)=a97 (i4 s []) (a6S s g c):=by
 refine I6 fun j=>?_
 unfold a97 i4 a6S zOf
 simp only [List.getElem?_zipWith,lba]
 by_cases hj:j<s.n.toNat
 ·simp [hj]
 ·simp [hj]
theorem VdP.ray {s:d7} {g:List (Int × Rat)} (h:VdP s g) {c:Nat} (hc:J5 s (p6 g)=.col c):j2 s (a97 (i4 s []) (a6S s (p6 g) c))=true∧0<i9 g (a97 (i4 s []) (a6S s (p6 g) c)):=by
 obtain ⟨h1,h2⟩:=aC0 h.r h.og hc
 refine ⟨b3T h.has h1,?_⟩
 have h3:=P7 h.has
 have hn:=a0S h.r
 rw [au2 (n:=s.n.toNat) (by omega) h1.len h.g]
 rw [V6 (s:=s) (g:=g)] at h2
 have:=h.pos h.has
 grind
theorem aJ5 {s:d7} {Y:List Rat} (h:aO9 s (yN Y)) (hl:Y.length=s.rows.length):a1K s Y=true:=by
 unfold a1K
 rw [lbI hl,F7,lbw]
 intro i hi
 rw [lbC] at hi
 have hx:s.rows[i]? =some s.rows[i]:=lbf hi
 obtain ⟨h1,h2⟩:=h i _ hx
 unfold sgB
 rw [O3 hx]
 simp only [a2T,a5l,lbQ,lbL]
 refine ⟨?_,?_⟩
 ·by_cases h:s.rows[i].kind=0
  ·exact .inr (lb3.2 (h1 h))
  ·exact .inl h
 ·by_cases h:s.rows[i].kind=1
  ·exact .inr (lb3.2 (h2 h))
  ·exact .inl h
theorem b8J {s:d7} {g:List (Int × Rat)} {Y:List Rat} {y:Nat->Rat} {v:Rat} (hr:g7 s=true) (hg:d8 (-1) ((s.n.toNat:Nat):Int) g=true) (h:b76 s (w7 g) y v) (hl:Y.length=s.rows.length) (hY:∀i,i<s.rows.length->yN Y i=y i):a2q s g Y=true∧a0k s (yN Y)=v:=by
 have hn:=a0S hr
 have e1:∀l,L2 s (yN Y) l=L2 s y l:=fun l=>e8 fun i hi=>by rw [hY i hi]
 have e2:a0k s (yN Y)=a0k s y:=e8 fun i hi=>by rw [hY i hi]
 refine ⟨?_,by rw [e2,h.val]⟩
 unfold a2q
 rw [aJ5 (fun i w hw=>by rw [hY i (lbe.1 hw).1];exact h.sign i w hw) hl,←hn,hg,F7,F7,lbw]
 intro l hl
 rw [lbC] at hl
 have hl:l<s.n.toNat:=by omega
 rw [e1]
 exact lbI (h.mix l hl)
theorem b0s {n:Nat} {y:Nat->Rat} {i:Nat} (h:i<n):yN (zOf n y) i=y i:=a6F h
theorem a5b {n:Nat} {y:Nat->Rat} {x:Rat} {i:Nat}:yN (zOf n y++[x]) i=if i<n then y i else if i=n then x else 0:=by
 unfold yN
 rw [lbl]
 by_cases h:i<n
 ·rw [if_pos h,lbb (by rw [G2];exact h)]
  simp [zOf,h]
 ·rw [if_neg h,lbc (by rw [G2];omega),G2]
  by_cases h2:i=n
  ·subst h2;simp
  ·rw [if_neg h2,lbd (by simp;omega)];rfl
theorem a1M {s:d7} {g:List (Int × Rat)} {i:Nat}:m6 (n9 s g) i=if i<s.rows.length then m6 s i else if i=s.rows.length then ⟨g,2,((0:Int):Rat)⟩ else ⟨[],2,0⟩:=by
 unfold m6
 rw [lbl,lbl]
 show ((s.rows++[_])[i]?).getD _=_
 by_cases h:i<s.rows.length
 ·rw [if_pos h,lbb h]
 ·rw [if_neg h,lbc (by omega)]
  by_cases h2:i=s.rows.length
  ·subst h2;simp
  ·rw [if_neg h2,lbd (by simp;omega)];rfl
theorem as8 {s:d7} {g:List (Int × Rat)} {y:Nat->Rat} (f:B8->Rat):f8 (fun i=>yN (zOf s.rows.length y++[((-1:Int):Rat)]) i*f (m6 (n9 s g) i)) (n9 s g).rows.length=f8 (fun i=>y i*f (m6 s i)) s.rows.length+-(f ⟨g,2,((0:Int):Rat)⟩):=by
 have hl:(n9 s g).rows.length=s.rows.length+1:=by simp [n9]
 rw [hl]
 show f8 _ s.rows.length+yN (zOf s.rows.length y++[((-1:Int):Rat)]) s.rows.length*f (m6 (n9 s g) s.rows.length)=_
 rw [e8 (g:=fun i=>y i*f (m6 s i)) fun i hi=>by rw [a5b,if_pos hi,a1M,if_pos hi]]
 rw [a5b,if_neg (by omega),if_pos rfl,a1M,if_neg (by omega),if_pos rfl]
 have e1:((-1:Int):Rat)=-1:=rfl
 rw [e1];grind
theorem b4i {s:d7} {g:List (Int × Rat)} {y:Nat->Rat} {v:Rat} (hr:g7 s=true) (h:b76 s (w7 g) y v) (hv:0<v):ad9 (n9 s g) (zOf s.rows.length y++[((-1:Int):Rat)])=true:=by
 have hl:(n9 s g).rows.length=s.rows.length+1:=by simp [n9]
 unfold ad9 a2q
 have m0:a0k (n9 s g) (yN (zOf s.rows.length y++[((-1:Int):Rat)]))=v:=by
  unfold a0k
  rw [as8 (f:=B8.value),←h.val]
  show a0k s y+-((0:Int):Rat)=_
  have e1:((0:Int):Rat)=0:=rfl
  rw [e1];grind
 rw [m0,lbI hv,a2F,lbO,lbO]
 refine ⟨⟨aJ5 (fun i w hw=>?_) (by rw [hl];simp [G2]),rfl⟩,?_⟩
 ·rw [a5b]
  have hi:=(lbe.1 hw).1
  rw [hl] at hi
  by_cases h2:i<s.rows.length
  ·rw [if_pos h2]
   have:(n9 s g).rows[i]? =s.rows[i]?:=lbb h2
   rw [this] at hw
   exact h.sign i w hw
  ·have hi:i=s.rows.length:=by omega
   subst hi
   have:(n9 s g).rows[s.rows.length]? =some ⟨g,2,((0:Int):Rat)⟩:=by show (s.rows++[_])[s.rows.length]? =_;simp
   rw [this] at hw
   injection hw with hw
   subst hw
   exact ⟨fun (h:(2:Int)=0)=>by omega,fun (h:(2:Int)=1)=>by omega⟩
 ·rw [lbw]
  intro l hl
  rw [lbC] at hl
  refine lbI ?_
  unfold L2
  rw [as8 (f:=fun w=>w7 w.terms l)]
  have:=h.mix l hl
  have e0:w7 ([]:List (Int × Rat)) l=0:=rfl
  show L2 s y l+-(w7 g l)<=_
  rw [e0]
  grind
theorem a9l {s:d7} {g:List (Int × Rat)} {x:List Rat} {is:Bool} (h:j2 s x=true) (h2:0<i9 g x↔is=true):a3v s g x is=true:=by
 unfold a3v
 rw [h,F7,beq_iff_eq,ae4,decide_eq_true_iff]
 exact h2
theorem b0c {s:d7} {g:List (Int × Rat)} (h:VdP s g) (hh:Int):b00 s g (E5 s g hh)=true:=by
 obtain ⟨h1,h2⟩:=h.least
 have hgl:d8 (-1) ((s.n.toNat:Nat):Int) (p6 g)=true:=h.og
 unfold E5
 by_cases hp:0<i9 g (i4 s g)
 ·rw [if_pos hp]
  show (decide (([]:List Rat).length=0) && a3v s g (i4 s g) true && ad9 _ _)=true
  rw [show (b6w s g hh).pr=zOf s.rows.length (y4 s (j8 s g))++[((-1:Int):Rat)] from rfl,a9l h1 (by simp [hp]),b4i h.r (aW2 h.r h.g (a85 h.r h.g h.p h.z)) hp]
  rfl
 ·rw [if_neg hp]
  have so:a3v s g (i4 s g) false=true:=a9l h1 (by simp [hp])
  rcases not_row (g:=p6 g) h.r h.z with ho|⟨c,ho⟩
  ·rw [ho]
   simp only
   obtain ⟨p1,p2⟩:=a2m h.r h.og ho
   by_cases hn:i9 (p6 g) (i4 s (p6 g))<0
   ·rw [if_pos hn]
    rw [V6 (s:=s) (g:=g)] at hn
    show (decide (([]:List Rat).length=0) && a3v s g (i4 s (p6 g)) true && a3v s g (i4 s g) false)=true
    rw [so,a9l p1 (by have:0<i9 g (i4 s (p6 g)):=by grind
                      simp [this])]
    rfl
   ·rw [if_neg hn]
    obtain ⟨b1,b2⟩:=b8J (Y:=zOf s.rows.length (y4 s (j8 s (p6 g)))) h.r h.og (aW2 h.r h.og ho) G2 (fun i hi=>b0s hi)
    have hz:i9 (p6 g) (i4 s (p6 g))=0:=by
     rw [V6 (s:=s) (g:=g)] at hn ⊢
     have:=h.pos p1
     grind
    show (decide (([]:List Rat).length=0) && a3v s g (i4 s g) false && (a2q s (p6 g) _ && decide (a0k s _=0)))=true
    rw [show (a9r s g hh).pr=zOf s.rows.length (y4 s (j8 s (p6 g))) from rfl,so,b1,b2,hz]
    rfl
  ·rw [ho]
   simp only
   obtain ⟨r1,r2⟩:=h.ray ho
   show (decide (([]:List Rat).length=0) && a3v s g (a6c s g c hh).w true && a3v s g (i4 s g) false)=true
   rw [show (a6c s g c hh).w=a97 (i4 s []) (a6S s (p6 g) c) from b8V c,so,a9l r1 (by simp [r2])]
   rfl
theorem a5G {s:d7} {g:List (Int × Rat)} (h:VdP s g) (hh:Int):
 ((E5 s g hh).state=2∧(∀ z,j2 s z=true->0<i9 g z))∨((E5 s g hh).state=0∧(∀ z,j2 s z=true->i9 g z=0))∨((E5 s g hh).state=1∧(∃ z,j2 s z=true∧0<i9 g z)∧∃z,j2 s z=true∧i9 g z=0):=by
 obtain ⟨h1,h2⟩:=h.least
 unfold E5
 by_cases hp:0<i9 g (i4 s g)
 ·rw [if_pos hp]
  exact .inl ⟨rfl,fun z hz=>by have:=h2 z hz;grind⟩
 ·rw [if_neg hp]
  have hz0:i9 g (i4 s g)=0:=by have:=h.pos h1;grind
  rcases not_row (g:=p6 g) h.r h.z with ho|⟨c,ho⟩
  ·rw [ho]
   simp only
   obtain ⟨p1,p2⟩:=a2m h.r h.og ho
   by_cases hn:i9 (p6 g) (i4 s (p6 g))<0
   ·rw [if_pos hn]
    rw [V6 (s:=s) (g:=g)] at hn
    exact .inr (.inr ⟨rfl,⟨_,p1,by grind⟩,⟨_,h1,hz0⟩⟩)
   ·rw [if_neg hn]
    refine .inr (.inl ⟨rfl,fun z hz=>?_⟩)
    have:=p2 z hz
    rw [V6 (s:=s) (g:=g),V6 (s:=s) (g:=g)] at this
    rw [V6 (s:=s) (g:=g)] at hn
    have:=h.pos p1
    have:=h.pos hz
    grind
  ·rw [ho]
   simp only
   obtain ⟨r1,r2⟩:=h.ray ho
   exact .inr (.inr ⟨rfl,⟨_,r1,r2⟩,⟨_,h1,hz0⟩⟩)
theorem a73 {s:d7} {g:List (Int × Rat)} (hh:Int):(E5 s g hh).hh=hh:=by
 unfold E5
 split
 ·rfl
 ·split
  ·rfl
  ·split<;>rfl
def a8L (D:Fd):Fd:={ D with V:=fun _=>0 }
theorem a2j {m n:Nat} {D:Fd} {y:Nat->Rat} {c:Rat}:Ids m n (a8L D) y c↔Ids m n D y 0:=by
 constructor
 ·intro h i hi
  have h1:y (D.O i)=c*0 - f8 (fun j=>D.A i j*y (D.F j)) n:=h i hi
  show y (D.O i)=0*D.V i - f8 (fun j=>D.A i j*y (D.F j)) n
  rw [h1];grind
 ·intro h i hi
  have h1:y (D.O i)=0*D.V i - f8 (fun j=>D.A i j*y (D.F j)) n:=h i hi
  show y (D.O i)=c*0 - f8 (fun j=>D.A i j*y (D.F j)) n
  rw [h1];grind
theorem ae9 {m n:Nat} {D:Fd} (h:Q1 m n D):Q1 m n (a8L D):=⟨h.oi,h.fi,h.of,h.all,h.ob,h.fb⟩
theorem a8E {s:d7} {g:List (Int × Rat)} {B:Nat} (hI:∀w ∈ s.rows,a3O B w):a5t (c6 s).length s.n.toNat 1 (a8L (f7 s g)) where
 o:=fun i _=>rfl
 f:=fun j _=>rfl
 w:=fun i hi=>by
  obtain ⟨f,hf⟩:∃f,(c6 s)[i]? =some f:=⟨_,lbf hi⟩
  obtain ⟨x,hx,_⟩:=Y0.1 (lbm hf)
  obtain ⟨h1,h2⟩:=hI x (lbm hx)
  have hfd:(c6 s).getD i (0,false)=f:=by rw [lbl,hf];rfl
  have eA:∀j,(f7 s g).A i j=O6 f.2 (w7 x.terms j):=fun j=>by show a1o s ((c6 s).getD i (0,false)) j=_;rw [hfd];unfold a1o;rw [hx]
  have hc:∀j,∃c:Int,(f7 s g).A i j=((c:Int):Rat)∧bl c<=1:=fun j=>by
   obtain ⟨c,hc,hb⟩:=a0U h1 x.terms.length j
   obtain ⟨c',hc',hb'⟩:=b2O (b:=f.2) (x:=w7 x.terms j) hc
   exact ⟨c',by rw [eA,hc'],by omega⟩
  refine ⟨1,0,fun j=>Classical.choose (hc j),by decide,n8 (by decide) (by decide),n8 (by decide) (by decide),fun j hj=>(a0W (hc j)).2,?_,fun j hj=>?_⟩
  ·have e0:((0:Int):Rat)=0:=rfl
   have e1:((1:Int):Rat)=1:=rfl
   show ((1:Int):Rat)*0=((0:Int):Rat)
   rw [e0,e1];grind
  ·show ((1:Int):Rat)*(f7 s g).A i j=((Classical.choose (hc j):Int):Rat)
   have hs:=(a0W (hc j)).1
   generalize Classical.choose (hc j)=x at hs
   rw [hs]
   have h1:((1:Int):Rat)=1:=rfl
   rw [h1];grind
theorem b7E {s:d7} {g:List (Int × Rat)} {B:Nat} (hI:∀w ∈ s.rows,a3O B w) {i j:Nat} (hi:i<(c6 s).length) (hj:j<s.n.toNat):rl ((j8 s g).A i j)<=2 ^ s.n.toNat*3:=by
 have inv:=I5 (s:=s) (g:=g)
 exact b1V (D:=a8L (j8 s g)) (a8E (g:=g) hI) (by decide) (ae9 inv.p) (fun y c=>by rw [a2j,a2j];exact inv.i y 0) hi hj
theorem b21 {s:d7} {g:List (Int × Rat)} {B:Nat} (hI:∀w ∈ s.rows,a3O B w) (hg:E3 g) {j:Nat} (hj:j<s.n.toNat):rl ((j8 s g).G j)<=2 ^ s.n.toNat*3:=by
 have inv:=I5 (s:=s) (g:=g)
 obtain ⟨z,hz⟩:=inv.g
 have hc:∀j,∃c:Int,w7 g j=((c:Int):Rat)∧bl c<=1:=fun j=>a0U hg g.length j
 have hz0:Y2 s.n.toNat (a8L (j8 s g)) (fun j=>-(w7 g j)) (c6 s).length 0:=fun y c hy=>by
  have:=hz y 0 (a2j.1 hy)
  rw [this]
  show 0*z+_=c*0+_
  have e:f8 (fun j=>(a8L (j8 s g)).G j*y ((a8L (j8 s g)).F j)) s.n.toNat=f8 (fun j=>(j8 s g).G j*y ((j8 s g).F j)) s.n.toNat:=rfl
  rw [e];grind
 refine b1O (D:=a8L (j8 s g)) (a8E (g:=g) hI) (by decide) (ae9 inv.p) (fun y c=>by rw [a2j,a2j];exact inv.i y 0) hz0 (q:=1) (b:=fun l=>-(Classical.choose (hc l))) (by decide) (n8 (by decide) (by decide)) (fun l hl=>?_) (fun l hl=>?_) hj
 ·have:=(a0W (hc l)).2
  show bl (-(Classical.choose (hc l)))<=_
  rw [a33];omega
 ·have hs:=(a0W (hc l)).1
  show ((1:Int):Rat)*-(w7 g l)=((-(Classical.choose (hc l)):Int):Rat)
  generalize Classical.choose (hc l)=x at hs ⊢
  rw [hs]
  have e:((-x:Int):Rat)=-((x:Int):Rat):=by push_cast;rfl
  rw [e]
  have h1:((1:Int):Rat)=1:=rfl
  rw [h1];grind
theorem aX8 {f:Nat->Rat} {C:Nat}:∀n:Nat,(∀ j,j<n->rl (f j)<=C)->rl (f8 f n)<=n*(C+1)+1
 |0,_=>by have:=rl0;show rl 0<=_;omega
 |n+1,h=>by
  have ih:=aX8 n fun j hj=>h j (by omega)
  have h1:=h n (by omega)
  have h2:=Y6 (f8 f n) (f n)
  have e:(n+1)*(C+1)=n*(C+1)+(C+1):=by rw [N4,Nat.one_mul]
  show rl (f8 f n+f n)<=_
  omega
theorem b7U {s:d7} {g:List (Int × Rat)} {B c:Nat} (hI:∀w ∈ s.rows,a3O B w) (hc:c<s.n.toNat) {j:Nat} (hj:j<s.n.toNat):rl (F2 (c6 s).length s.n.toNat (j8 s g) 0 (fun q=>if q=c then 1 else 0) j)<=2 ^ s.n.toNat*3:=by
 have hp:Q1 (c6 s).length s.n.toNat (j8 s g):=I5.p
 have h2:1<=2 ^ s.n.toNat:=Nat.one_le_two_pow
 rw [← aA8 hp hc hj]
 have key:∀k,k<=(c6 s).length->rl (ptK s.n.toNat (j8 s g).O (fun i=>-((j8 s g).A i c)) (fun j=>if (j8 s g).F c<s.n.toNat∧j=(j8 s g).F c then 1 else 0) k j)<=2 ^ s.n.toNat*3:=by
  intro k
  induction k with
  |zero=>
   intro _
   have:=rl0;have:=rl1
   show rl (if _ then (1:Rat) else 0)<=_
   split<;>omega
  |succ k ih=>
   intro hk
   rw [L7]
   simp only
   split
   ·rw [M9];exact b7E hI (by omega) hc
   ·exact ih (by omega)
 exact key _ (lbS _)
theorem b4m {k a:Nat} (v:Rat) (c:Nat->Rat):f8 (fun i=>(if a=i then v else 0)*c i) k=if a<k then v*c a else 0:=by
 by_cases h:a<k
 ·rw [if_pos h,a3D h]
 ·rw [if_neg h]
  exact s7 fun i hi=>by rw [if_neg (by omega)];grind
theorem b4p {s:d7} {w k:Nat} (p:Rat) (c:Nat->Rat) {P C:Nat} (hp:rl p<=P) (hc:∀i,rl (c i)<=C):rl (f8 (fun i=>chg s w p i*c i) k)<=P+C+1:=by
 by_cases h:s.n.toNat<=w
 ·rw [e8 (g:=fun i=>(if (z7 s (w - s.n.toNat)).1=i then -(O6 (z7 s (w - s.n.toNat)).2 p) else 0)*c i) fun i hi=>by
   unfold chg
   by_cases h2:(z7 s (w - s.n.toNat)).1=i
   ·rw [if_pos ⟨h,h2⟩,if_pos h2]
   ·rw [if_neg (fun e=>h2 e.2),if_neg h2]]
  rw [b4m]
  split
  ·have h1:=a4x (-(O6 (z7 s (w - s.n.toNat)).2 p)) (c (z7 s (w - s.n.toNat)).1)
   have h2:=hc (z7 s (w - s.n.toNat)).1
   have h3:rl (-(O6 (z7 s (w - s.n.toNat)).2 p))<=P:=by
    rw [M9]
    cases (z7 s (w - s.n.toNat)).2 with
    |false=>exact hp
    |true=>show rl (-p)<=P;rw [M9];exact hp
   omega
  ·have:=rl0;omega
 ·rw [s7 fun i hi=>by unfold chg;rw [if_neg (fun e=>h e.1)];grind]
  have:=rl0;omega
theorem ab3 {s:d7} {g:List (Int × Rat)} {B C:Nat} (hI:∀w ∈ s.rows,a3O B w) (hg:E3 g) (c:Nat->Rat) (hc:∀i,rl (c i)<=C) (k:Nat):
 rl (f8 (fun i=>y4 s (j8 s g) i*c i) k)<=s.n.toNat*(2 ^ s.n.toNat*3+C+2)+1:=by
 have e:f8 (fun i=>y4 s (j8 s g) i*c i) k=f8 (fun j=>f8 (fun i=>chg s ((j8 s g).F j) (-((j8 s g).G j)) i*c i) k) s.n.toNat:=a6y (s:=s)
 rw [e]
 exact aX8 _ fun j hj=>b4p _ c (by rw [M9];exact b21 hI hg hj) hc
theorem b5q {s:d7} {g:List (Int × Rat)} {B:Nat} (hI:∀w ∈ s.rows,a3O B w) (hg:E3 g) (i:Nat):rl (y4 s (j8 s g) i)<=s.n.toNat*(2 ^ s.n.toNat*3+1)+1:=by
 refine aX8 _ fun j hj=>?_
 have h:=b21 (g:=g) hI hg hj
 unfold chg
 split
 ·rw [M9]
  cases (z7 s ((j8 s g).F j - s.n.toNat)).2 with
  |false=>show rl (-((j8 s g).G j))<=_;rw [M9];exact h
  |true=>show rl (- -((j8 s g).G j))<=_;rw [M9,M9];exact h
 ·have:=rl0
  have h2:1<=2 ^ s.n.toNat:=Nat.one_le_two_pow
  omega
theorem aK8 {l:List (Int × Rat)} (h:E3 l) (v:Nat):rl (w7 l v)<=1:=by
 obtain ⟨c,hc,hb⟩:=a0U h l.length v
 have e:w7 l v=((c:Int):Rat):=hc
 rw [e,V4]
 have:=n8 (x:=1) (by decide) (by decide)
 omega
theorem b2c {s:d7} {B:Nat} (hI:∀w ∈ s.rows,a3O B w) (hB:1<=B) (i:Nat):E3 (m6 s i).terms∧rl (m6 s i).value<=B:=by
 by_cases h:i<s.rows.length
 ·have hx:s.rows[i]? =some s.rows[i]:=lbf h
  rw [O3 hx]
  exact hI _ (lbF _)
 ·have e:m6 s i=⟨[],2,0⟩:=by unfold m6;rw [lbl,lbd (by omega)];rfl
  rw [e]
  exact ⟨fun (t:Int × Rat) (ht:t ∈ [])=>by simp at ht,by have:=rl0;show rl 0<=B;omega⟩
theorem b56 {s:d7} {g:List (Int × Rat)} (c:Nat->Rat) (k:Nat):f8 (fun i=>yN (zOf s.rows.length (y4 s (j8 s g))) i*c i) k=f8 (fun i=>y4 s (j8 s g) i*(if i<s.rows.length then c i else 0)) k:=e8 fun i hi=>by
 by_cases h:i<s.rows.length
 ·rw [b0s h,if_pos h]
 ·have:yN (zOf s.rows.length (y4 s (j8 s g))) i=0:=by unfold yN;rw [lbl,lbd (by rw [G2];omega)];rfl
  rw [this,if_neg h];grind
theorem ah2:∀n,n<9->n*(2 ^ n*3+11+2)+1<=40000∧n*(2 ^ n*3+1)+1<=40000∧n*(2 ^ n*3+1+2)+1<=40000:=by decide
theorem b5K {s:d7} {g:List (Int × Rat)} (hI:∀w ∈ s.rows,a3O 11 w) (hg:E3 g) (hn:s.n.toNat<=8) (l k:Nat):rl (S1 s (yN (zOf s.rows.length (y4 s (j8 s g)))) l k)<=40000:=by
 obtain ⟨p1,p2,p3⟩:=ah2 s.n.toNat (by omega)
 unfold S1
 rw [b56]
 have:=ab3 hI hg (C:=1) (fun i=>if i<s.rows.length then w7 (m6 s i).terms l else 0) (fun i=>by
  split
  ·exact aK8 (b2c hI (by decide) i).1 l
  ·exact rl0) k
 omega
theorem b6N {s:d7} {g:List (Int × Rat)} (hI:∀w ∈ s.rows,a3O 11 w) (hg:E3 g) (hn:s.n.toNat<=8) (k:Nat):rl (a19 s (yN (zOf s.rows.length (y4 s (j8 s g)))) k)<=40000:=by
 obtain ⟨p1,p2,p3⟩:=ah2 s.n.toNat (by omega)
 unfold a19
 rw [b56]
 have:=ab3 hI hg (C:=11) (fun i=>if i<s.rows.length then (m6 s i).value else 0) (fun i=>by
  split
  ·exact (b2c hI (by decide) i).2
  ·have:=rl0;omega) k
 omega
theorem b4W {s:d7} {g:List (Int × Rat)} (hI:∀w ∈ s.rows,a3O 11 w) (hg:E3 g) (hn:s.n.toNat<=8):∀v ∈ zOf s.rows.length (y4 s (j8 s g)),rl v<=40000:=by
 intro v hv
 obtain ⟨p1,p2,p3⟩:=ah2 s.n.toNat (by omega)
 obtain ⟨j,hj,rfl⟩:=a70 hv
 have:=b5q hI hg j
 omega
theorem b3Z {s:d7} {g:List (Int × Rat)} (hI:∀w ∈ s.rows,a3O 11 w) (hg:E3 g) (hn:s.n.toNat<=8) (hm:s.rows.length<=1000000):a9f s (zOf s.rows.length (y4 s (j8 s g))):=
 ⟨b4W hI hg hn,fun l k=>lbT (b5K hI hg hn l k) (by decide),fun k=>lbT (b6N hI hg hn k) (by decide),G2,hm⟩
theorem b5X:rl ((-1:Int):Rat)<=1:=by rw [V4];exact n8 (x:=-1) (by decide) (by decide)
theorem b0Q {s:d7} {g:List (Int × Rat)} (hI:∀w ∈ s.rows,a3O 11 w) (hg:E3 g) (hn:s.n.toNat<=8) (hm:s.rows.length<=100000):a9f (n9 s g) (zOf s.rows.length (y4 s (j8 s g))++[((-1:Int):Rat)]):=by
 have hl:(n9 s g).rows.length=s.rows.length+1:=by simp [n9]
 have step:∀(f:B8->Rat) (C:Nat),(∀ k,rl (f8 (fun i=>yN (zOf s.rows.length (y4 s (j8 s g))) i*f (m6 s i)) k)<=C)->rl (f ⟨g,2,((0:Int):Rat)⟩)<=1->∀k,rl (f8 (fun i=>yN (zOf s.rows.length (y4 s (j8 s g))++[((-1:Int):Rat)]) i*f (m6 (n9 s g) i)) k)<=C+3:=by
  intro f C hC h1 k
  have lo:∀k,k<=s.rows.length->f8 (fun i=>yN (zOf s.rows.length (y4 s (j8 s g))++[((-1:Int):Rat)]) i*f (m6 (n9 s g) i)) k=f8 (fun i=>yN (zOf s.rows.length (y4 s (j8 s g))) i*f (m6 s i)) k:=fun k hk=>e8 fun i hi=>by
   rw [a5b,if_pos (by omega),a1M,if_pos (by omega),b0s (by omega)]
  induction k with
  |zero=>rw [lo 0 (by omega)];have:=hC 0;omega
  |succ k ih=>
   by_cases hk:k<s.rows.length
   ·rw [lo (k+1) (by omega)];have:=hC (k+1);omega
   ·by_cases he:k=s.rows.length
    ·subst he
     show rl (f8 _ s.rows.length+yN (zOf s.rows.length (y4 s (j8 s g))++[((-1:Int):Rat)]) s.rows.length*f (m6 (n9 s g) s.rows.length))<=_
     rw [lo _ (lbS _),a5b,if_neg (by omega),if_pos rfl,a1M,if_neg (by omega),if_pos rfl]
     have a1:=hC s.rows.length
     have a2:=a4x ((-1:Int):Rat) (f ⟨g,2,((0:Int):Rat)⟩)
     have a3:=b5X
     have a4:=Y6 (f8 (fun i=>yN (zOf s.rows.length (y4 s (j8 s g))) i*f (m6 s i)) s.rows.length) (((-1:Int):Rat)*f ⟨g,2,((0:Int):Rat)⟩)
     omega
    ·have e:yN (zOf s.rows.length (y4 s (j8 s g))++[((-1:Int):Rat)]) k=0:=by rw [a5b,if_neg hk,if_neg he]
     show rl (f8 _ k+yN (zOf s.rows.length (y4 s (j8 s g))++[((-1:Int):Rat)]) k*f (m6 (n9 s g) k))<=_
     rw [e]
     have e2:∀x y:Rat,x+0*y=x:=fun x y=>by grind
     rw [e2]
     exact ih
 refine ⟨fun v hv=>?_,fun l k=>?_,fun k=>?_,by rw [hl];simp [G2],by omega⟩
 ·rcases lbA.1 hv with h1|h1
  ·exact b4W hI hg hn v h1
  ·have h1:v=((-1:Int):Rat):=az5.1 h1
   subst h1;have:=b5X;omega
 ·exact lbT (step (fun w=>w7 w.terms l) 40000 (fun k=>b5K hI hg hn l k) (aK8 hg l) k) (by decide)
 ·exact lbT (step B8.value 40000 (fun k=>b6N hI hg hn k) rl0 k) (by decide)
theorem aC9 {s:d7} {x:List Rat} {B:Nat} (hr:g7 s=true) (hI:∀w ∈ s.rows,a3O 11 w) (hB:B<=40000) (hn:s.n.toNat*(B+4)+1<=50000) (hl:x.length<=1000000) (hx:∀v ∈ x,rl v<=B):PtB s x:=by
 refine ⟨fun v hv=>lbT (hx v hv) hB,fun w hw k=>?_,hl⟩
 obtain ⟨i,hi,rfl⟩:=a0Y hw
 have hrt:=(a1J hr (lbf hi)).1
 have h1:=a3I (S3 (hI _ hw).1) hx k
 have h2:=s6 hrt
 have h3:s.rows[i].terms.length<=s.n.toNat:=by omega
 have h4:=lbU (B+4) h3
 omega
theorem aU5 {n B:Nat} {g:List (Int × Rat)} {x:List Rat} (hg:d8 (-1) ((n:Nat):Int) g=true) (hw:E3 g) (hn:n*(B+4)+1<=50000) (hx:∀v ∈ x,rl v<=B) (k:Nat):rl (i9 (g.take k) x)<=50000:=by
 have h1:=a3I (S3 hw) hx k
 have h2:=s6 hg
 have h3:g.length<=n:=by omega
 have h4:=lbU (B+4) h3
 omega
theorem b8I:∀n,n<9->n*(2 ^ n*15+4)+1<=50000∧n*(2 ^ n*15+2 ^ n*3+1+4)+1<=50000∧2 ^ n*15+2 ^ n*3+1<=40000:=by decide
set_option maxHeartbeats 1000000 in
theorem bb0 {t:j9} {kind:Int} (ht:q9 t=0) (hm:t.ev.moves.length<=8) {g:List (Int × Rat)} (hg:d8 (-1) (t.ev.moves.length:Nat) g=true) (hw:E3 g) (hz:J5 (g4 t kind) []=.best) (hh:Int):bg9 (g4 t kind) g (E5 (g4 t kind) g hh):=by
 have p:=y6 (kind:=kind) ht hm hg hw
 have q:=y6 (kind:=kind) ht hm (a4Y hg) (a4T hw)
 have z:=y6 (kind:=kind) ht hm (g:=[]) rfl (fun t ht=>by cases ht)
 obtain ⟨b1,b2,b3⟩:=b8I t.ev.moves.length (by omega)
 have hI:=b5j (kind:=kind) ht
 have hn:(g4 t kind).n.toNat=t.ev.moves.length:=rfl
 have hr:=p.o.r
 have hR:=p.r
 have pb:=a2f p
 have qb:=a2f q
 have zb:=a2f z
 have e0:PtB (g4 t kind) []:=⟨fun v hv=>(by cases hv),fun w hw k=>(by
  have h:=a3I (B:=1) (z:=[]) (S3 (hI w hw).1) (fun v hv=>by cases hv) k
  obtain ⟨i,hi,rfl⟩:=a0Y hw
  have h2:=s6 (a1J hr (lbf hi)).1
  have h3:(g4 t kind).rows[i].terms.length<=8:=by omega
  have h4:=lbU (1+4) h3
  omega),by decide⟩
 have g0:∀k,rl (i9 (g.take k) [])<=50000:=fun k=>aU5 (B:=1) hg hw (by omega) (fun v hv=>by cases hv) k
 have ptp:PtB (g4 t kind) (i4 (g4 t kind) g):=aC9 hr hI (B:=2 ^ t.ev.moves.length*15) (by omega) b1 (by unfold i4;rw [G2];omega) pb
 have ptq:PtB (g4 t kind) (i4 (g4 t kind) (p6 g)):=aC9 hr hI (B:=2 ^ t.ev.moves.length*15) (by omega) b1 (by unfold i4;rw [G2];omega) qb
 have gp:=aU5 hg hw b1 pb
 have gq:=aU5 hg hw b1 qb
 have m0:a9f (g4 t kind) (zOf (g4 t kind).rows.length (y4 (g4 t kind) (j8 (g4 t kind) (p6 g)))):=b3Z hI (a4T hw) (by omega) (by omega)
 have m1:=b0Q hI hw (by omega) (show (g4 t kind).rows.length<=100000 by omega)
 have hl:(n9 (g4 t kind) g).rows.length=(g4 t kind).rows.length+1:=by simp [n9]
 have nilm:∀s':d7,s'.rows.length<=1000000->([]:List Rat).length=s'.rows.length->a9f s' []:=fun s' h1 h2=>⟨fun v hv=>(by cases hv),fun l k=>(by
  have h2:s'.rows.length=0:=by simpa using h2.symm
  have e:S1 s' (yN []) l k=0:=s7 fun i hi=>by show (0:Rat)*_=0;grind
  rw [e];have:=rl0;omega),fun k=>(by
  have e:a19 s' (yN []) k=0:=s7 fun i hi=>by show (0:Rat)*_=0;grind
  rw [e];have:=rl0;omega),h2,h1⟩
 unfold E5
 split
 ·exact ⟨ptp,e0,gp,g0,m1.y,by show (zOf _ _++_).length<=_;simp [G2];omega,fun _=>m1,fun h=>by
   have:(zOf (g4 t kind).rows.length (y4 (g4 t kind) (j8 (g4 t kind) g))++[((-1:Int):Rat)]).length=(g4 t kind).rows.length:=h
   simp [G2] at this⟩
 ·split
  ·rename_i c hc
   have hcn:c<(g4 t kind).n.toNat:=(a7q hc).1
   have rb:∀v ∈ (a6c (g4 t kind) g c hh).w,rl v<=2 ^ t.ev.moves.length*15+2 ^ t.ev.moves.length*3+1:=fun v hv=>by
    obtain ⟨j,hj,rfl⟩:=a70 hv
    have h1:rl (F2 (c6 (g4 t kind)).length (g4 t kind).n.toNat (j8 (g4 t kind) []) 1 (fun _=>0) j)<=2 ^ t.ev.moves.length*15:=zb _ (lby.2 ⟨j,lbC.2 hj,rfl⟩)
    have h2:rl (F2 (c6 (g4 t kind)).length (g4 t kind).n.toNat (j8 (g4 t kind) (p6 g)) 0 (fun q=>if q=c then 1 else 0) j)<=2 ^ t.ev.moves.length*3:=b7U hI hcn hj
    have h3:=Y6 (F2 (c6 (g4 t kind)).length (g4 t kind).n.toNat (j8 (g4 t kind) []) 1 (fun _=>0) j) (F2 (c6 (g4 t kind)).length (g4 t kind).n.toNat (j8 (g4 t kind) (p6 g)) 0 (fun q=>if q=c then 1 else 0) j)
    omega
   exact ⟨aC9 hr hI b3 b2 (by show (zOf _ _).length<=_;rw [G2];omega) rb,ptp,aU5 hg hw b2 rb,gp,fun v hv=>(by cases hv),(by show (0:Nat)<=1000000;decide),fun h=>nilm _ (by omega) h,fun h=>nilm _ (by omega) h⟩
  ·split
   ·exact ⟨ptq,ptp,gq,gp,fun v hv=>(by cases hv),(by show (0:Nat)<=1000000;decide),fun h=>nilm _ (by omega) h,fun h=>nilm _ (by omega) h⟩
   ·exact ⟨e0,ptp,g0,gp,m0.y,by show (zOf _ _).length<=_;rw [G2];omega,fun h=>by
     have h:(zOf (g4 t kind).rows.length (y4 (g4 t kind) (j8 (g4 t kind) (p6 g)))).length=(n9 (g4 t kind) g).rows.length:=h
     rw [G2,hl] at h
     omega,fun _=>m0⟩
structure ExP (t:j9) (kind:Int) (n:Nat):Prop where
 s:t.Sized
 e:q9 t=0
 k0:0<=kind
 k1:kind<8
 m:t.ev.moves.length<=8
 h:t.ev.hhs=(n:Nat)
 z:J5 (g4 t kind) []=.best
theorem ExP.vd {t:j9} {kind:Int} {n:Nat} (h:ExP t kind n) (hh:Int):VdP (g4 t kind) (v8 t hh):=by
 have p:=y6 (kind:=kind) h.e h.m (g:=[]) rfl (fun t ht=>by cases ht)
 exact ⟨p.o.r,ap2 t hh,h.z,K6 t hh⟩
def a9q (e:Ev) (m k:Int):Bool:=decide (e.mats<=k) && decide (e.hhs<=6) && decide (e.scs<=6) && decide (e.places.length<=12) && decide ((e.moves.length:Int)<=m) && decide (e.certs.length<=10) && decide (e.recalls.length<=4) && decide (e.purities.length<=6)
theorem b4x (e:Ev) (m k:Int):a8 Tryz.prog 5 [evS e,a7 .i64 m,a7 .i64 k] [] (d9 (a9q e m k)) []:=by
 have m1:(e.places.map Place.row).length=e.places.length:=by simp
 have m2:(e.moves.map t7.row).length=e.moves.length:=by simp
 have m3:(e.certs.map L9.row).length=e.certs.length:=by simp
 have m4:(e.recalls.map F0.row).length=e.recalls.length:=by simp
 have m5:(e.purities.map a1Z.row).length=e.purities.length:=by simp
 (refine ac Tryz.func5 ?_;(conv=>whnf);repeat ((first|refine b0x ?_|refine zy ?_);conv=>whnf))
 repeat' (first|refine zx ?_|refine zd ?_ ?_<;>intro h<;>try omega|fail)<;>conv=>whnf
 all_goals
  refine b9 ?_
  unfold a9q
  simp only [m1,m2,m3,m4,m5] at *
  first
   |(symm;simp only [lbO,lbJ];omega)
   |(symm;rw [← lbR];simp only [lbO,lbJ];omega)
def a0a (z:List Fr) (n:Nat) (d:Int):Bool:=(z.take (n+1)).all (aX3 d) && decide (z.length<=n)
theorem a37 (z:List Fr) (n:Nat) (d:Int) (hn:n<=1000):a8 Tryz.prog 6 [k8 z,a7 .i64 n,a7 .i64 d] [] (d9 (a0a z n d)) []:=by
 have m1:(z.map j0).length=z.length:=by simp
 (refine ac Tryz.func6 ?_;(conv=>whnf);repeat ((first|refine b0x ?_|refine zy ?_);conv=>whnf))
 repeat' (first|refine zx ?_|refine zd ?_ ?_<;>intro h<;>try omega|fail)<;>conv=>whnf
 refine i3 c9 (fun k=>([k8 z,a7 .i64 n,a7 .i64 d,J,J,J,J,a7 .i64 k]++Jn 22,[])) (n+1) (fun k=>k<=z.length∧(z.take k).all (aX3 d)=true) [] ⟨D5 _,rfl⟩
  ⟨rfl,rfl,trivial,⟨rfl,rfl,rfl,rfl,trivial⟩⟩ ?_
 rintro k hk ⟨hle,hI⟩
 by_cases hlt:k<z.length∧k<n+1
 ·obtain ⟨f,hf⟩:∃f,z[k]? =some f:=⟨_,lbf hlt.1⟩
  have hf2:(z.take (n+1))[k]? =some f:=by rw [lbi,if_pos hlt.2];exact hf
  have r:=b9C f d
  cases hff:aX3 d f with
  |true=>
   rw [hff] at r
   conv=>whnf
   repeat' (first|refine zx ?_|refine qp r ?_|refine d6 hf ?_|refine zd ?_ ?_<;>intro h<;>try omega|fail)<;>conv=>whnf
   all_goals first
    |omega
    |exact ⟨hlt.2,⟨by omega,by rw [x8 hf,hI,hff];rfl⟩,[],rfl,rfl,trivial,⟨rfl,rfl,rfl,rfl,trivial⟩⟩
  |false=>
   rw [hff] at r
   have e1:a0a z n d=false:=by unfold a0a;rw [C2 hf2 hff];rfl
   rw [e1]
   conv=>whnf
   repeat' (first|refine zx ?_|refine qp r ?_|refine d6 hf ?_|refine zd ?_ ?_<;>intro h<;>try omega|fail)<;>conv=>whnf
   all_goals first
    |omega
    |exact b9 rfl
 ·have hk2:z.length=k∨k=n+1:=by omega
  have hall:(z.take (n+1)).all (aX3 d)=true:=by
   rcases hk2 with h|h
   ·have e:z.take (n+1)=z.take k:=by rw [lbn (by omega),lbn (by omega)]
    rw [e];exact hI
   ·rw [← h];exact hI
  conv=>whnf
  repeat' (first|refine zx ?_|refine zd ?_ ?_<;>intro h<;>try omega|fail)<;>conv=>whnf
  all_goals first
   |omega
   |(refine b9 ?_;unfold a0a;rw [hall];simp;omega)
theorem a3Z {z:List Fr} {n:Nat} {d:Int} (h:a0a z n d=true):z.length<=n∧∀f ∈ z,(f.p.dl.length:Int)<=d∧(f.q.dl.length:Int)<=d:=by
 unfold a0a at h
 simp only [lbO,lbJ] at h
 obtain ⟨h1,h2⟩:=h
 rw [lbn (by omega),lbw] at h1
 refine ⟨h2,fun f hf=>?_⟩
 have:=h1 f hf
 unfold aX3 at this
 simp only [lbO,lbJ] at this
 exact this
structure am3 (z:List Fr):Prop where
 l:z.length<=1000000
 d:∀f ∈ z,f.p.dl.length<=200000∧f.q.dl.length<=200000
theorem aA7 {Z:List Rat} (hl:Z.length<=1000000) (h:∀v ∈ Z,rl v<=200000):am3 (Z.map fz):=⟨by simpa using hl,fun f hf=>by
 obtain ⟨x,hx,rfl⟩:=lby.1 hf
 have:=h x hx
 have a:=O2 x
 have b:=P1 x
 exact ⟨by show bl x.num<=_;omega,by show bl x.den<=_;omega⟩⟩
theorem b4J (s:d7) (hb:a0K s) (hr:g7 s=true) (y:List Fr) (hy:am3 y):
 a8 Tryz.prog 114 [K3 s,k8 y] [] (d9 (decide (y.length=s.rows.length) && y.all o6)) []:=by
 have m1:(s.rows.map u0).length=s.rows.length:=by simp
 have m2:(y.map j0).length=y.length:=by simp
 have l1:=hb.n0
 have l2:=hy.l
 have lr:=a2p s hb
 rw [hr] at lr
 by_cases hn:y.length≠s.rows.length
 ·rw [lbK hn,a8r]
  (refine ac Tryz.func114 ?_;(conv=>whnf);repeat ((first|refine b0x ?_|refine zy ?_);conv=>whnf))
  repeat' (first|refine zx ?_|refine qp lr ?_|refine zd ?_ ?_<;>intro h<;>try omega|fail)<;>conv=>whnf
  all_goals first
   |omega
   |exact b9 rfl
 have hn:y.length=s.rows.length:=by omega
 rw [lbI hn,F7]
 (refine ac Tryz.func114 ?_;(conv=>whnf);repeat ((first|refine b0x ?_|refine zy ?_);conv=>whnf))
 repeat' (first|refine zx ?_|refine qp lr ?_|refine zd ?_ ?_<;>intro h<;>try omega|fail)<;>conv=>whnf
 all_goals try omega
 refine i3 c9 (fun k=>(Jn 18++[k8 y,a7 .i64 y.length,a7 .i64 k]++Jn 7,[])) y.length (fun k=>(y.take k).all o6=true) [] rfl
  ⟨rfl,rfl,trivial,⟨rfl,c7 (by simp),rfl,trivial⟩⟩ ?_
 intro k hk hI
 by_cases hlt:k<y.length
 ·obtain ⟨x,hx⟩:∃x,y[k]? =some x:=⟨_,lbf hlt⟩
  obtain ⟨d1,d2⟩:=hy.d x (lbm hx)
  have rr:=a4k x d1 d2
  cases hq:o6 x with
  |true=>
   rw [hq] at rr
   conv=>whnf
   repeat' (first|refine zx ?_|refine qp rr ?_|refine d6 hx ?_|refine zd ?_ ?_<;>intro h<;>try omega|fail)<;>conv=>whnf
   all_goals first
    |omega
    |exact ⟨hlt,by rw [x8 hx,hI,hq];rfl,[],rfl,rfl,trivial,⟨rfl,rfl,rfl,trivial⟩⟩
  |false=>
   rw [hq] at rr
   rw [C2 hx hq]
   conv=>whnf
   repeat' (first|refine zx ?_|refine qp rr ?_|refine d6 hx ?_|refine zd ?_ ?_<;>intro h<;>try omega|fail)<;>conv=>whnf
   all_goals first
    |omega
    |exact b9 rfl
 ·rw [lbn (by omega)] at hI
  rw [hI]
  conv=>whnf
  repeat' (first|refine zx ?_|refine zd ?_ ?_<;>intro h<;>try omega|fail)<;>conv=>whnf
  all_goals first
   |omega
   |exact b9 rfl
theorem b1J (s:d7) (hb:a0K s) (hr:g7 s=true) (Y:List Rat) (hl:Y.length<=1000000) (hy:∀v ∈ Y,rl v<=200000):
 a8 Tryz.prog 114 [K3 s,k8 (Y.map fz)] [] (d9 (decide (Y.length=s.rows.length))) []:=by
 have h:=b4J s hb hr (Y.map fz) (aA7 hl hy)
 rw [a0D,a2F,lbr] at h
 exact h
theorem a8F (s:d7) (hb:a0K s) (hr:g7 s=true) (y:List Fr) (hy:am3 y) (h:(decide (y.length=s.rows.length) && y.all o6)=false):
 a8 Tryz.prog 71 [K3 s,k8 y] [] (d9 false) []:=by
 have mu:=b4J s hb hr y hy
 rw [h] at mu
 (refine ac Tryz.func71 ?_;(conv=>whnf);repeat ((first|refine b0x ?_|refine zy ?_);conv=>whnf))
 repeat' (first|refine zx ?_|refine qp mu ?_|refine zd ?_ ?_<;>intro h<;>try omega|fail)<;>conv=>whnf
 all_goals exact b9 rfl
theorem b3v (s:d7) (hb:a0K s) (hr:g7 s=true) (Y:List Rat) (hl:Y.length<=1000000) (hy:∀v ∈ Y,rl v<=50000):
 a8 Tryz.prog 71 [K3 s,k8 (Y.map fz)] [] (d9 (a1K s Y)) []:=by
 have m1:(s.rows.map u0).length=s.rows.length:=by simp
 have m2:((Y.map fz).map j0).length=Y.length:=by simp
 have l1:=hb.n0
 have mu:=b1J s hb hr Y hl (fun v hv=>by have:=hy v hv;omega)
 by_cases hn:Y.length≠s.rows.length
 ·have e2:a1K s Y=false:=by unfold a1K;rw [lbK hn];simp
  rw [e2]
  exact a8F s hb hr (Y.map fz) (aA7 hl (fun v hv=>by have:=hy v hv;omega)) (by rw [lbK (by simpa using hn)];rfl)
 have hn:Y.length=s.rows.length:=by omega
 have e2:a1K s Y=(List.range s.rows.length).all (sgB s Y):=by unfold a1K;rw [lbI hn];simp
 rw [e2]
 rw [lbI hn] at mu
 (refine ac Tryz.func71 ?_;(conv=>whnf);repeat ((first|refine b0x ?_|refine zy ?_);conv=>whnf))
 repeat' (first|refine zx ?_|refine qp mu ?_|refine zd ?_ ?_<;>intro h<;>try omega|fail)<;>conv=>whnf
 refine i3 c9 (fun k=>([J,J,S.c (C.t (T.ptr [ti s.n,K0 s.rows])),J,J,J,J,J,J,J,J,J,k8 (Y.map fz),a7 .i64 Y.length,a7 .i64 k]++Jn 21,[])) Y.length (fun k=>(List.range k).all (sgB s Y)=true) [] rfl
  ⟨rfl,rfl,trivial,⟨rfl,rfl,c7 (by simp),rfl,trivial⟩⟩ ?_
 intro k hk hI
 by_cases hlt:k<Y.length
 ·obtain ⟨x,hx⟩:∃x,Y[k]? =some x:=⟨_,lbf hlt⟩
  obtain ⟨w,hw⟩:∃w,s.rows[k]? =some w:=⟨_,lbf (by omega)⟩
  have bx:=hy x (lbm hx)
  have sg:=D9 x (by omega)
  have es:sgB s Y k=decide ((w.kind=0->¬sgR x<0)∧(w.kind=1->¬sgR x > 0)):=by
   unfold sgB
   rw [O3 hw,b6h hx,ae4,decide_eq_true_iff,a2S,b0I]
   simp
   grind
  generalize sgR x=U at sg es
  by_cases hok:(w.kind=0->¬U<0)∧(w.kind=1->¬U > 0)
  ·rw [lbI hok] at es
   obtain ⟨q1,q2⟩:=hok
   conv=>whnf
   repeat' (first|refine zx ?_|refine qp sg ?_|refine d6 (a2x Y hx) ?_|refine d6 hw ?_|refine zd ?_ ?_<;>intro h<;>try omega|fail)<;>conv=>whnf
   all_goals first
    |omega
    |exact ⟨hlt,by rw [ac9,hI,es];rfl,[],rfl,rfl,trivial,⟨rfl,rfl,rfl,rfl,trivial⟩⟩
  ·rw [lbK hok] at es
   rw [aA0 (n:=s.rows.length) (by omega) es]
   have hor:(w.kind=0∧U<0)∨(w.kind=1∧U > 0):=by omega
   clear hok
   conv=>whnf
   repeat' (first|refine zx ?_|refine qp sg ?_|refine d6 (a2x Y hx) ?_|refine d6 hw ?_|refine zd ?_ ?_<;>intro h<;>try omega|fail)<;>conv=>whnf
   all_goals first
    |omega
    |exact b9 rfl
 ·have hke:k=s.rows.length:=by omega
  subst hke
  rw [hI]
  conv=>whnf
  repeat' (first|refine zx ?_|refine zd ?_ ?_<;>intro h<;>try omega|fail)<;>conv=>whnf
  all_goals first
   |omega
   |exact b9 rfl
theorem b6q (a b c:Rat) (ha:rl a<=60000) (hb:rl b<=50000) (hc:rl c<=200):a8 Tryz.prog 115 [frS (fz a),frS (fz b),frS (fz c)] [] (frS (fz (a+b*c))) []:=by
 have l:=a4x b c
 have mu:=aF7 b c (by omega) (by omega)
 have ad:=a3j a (b*c) (by omega) (by omega)
 (refine ac Tryz.func115 ?_;(conv=>whnf);repeat ((first|refine b0x ?_|refine zy ?_);conv=>whnf))
 repeat' (first|refine zx ?_|refine qp mu ?_|refine qp ad ?_|refine qp 5 ?_|refine qp 4 ?_|refine bl0 [5] ?_|refine bl0 [4] ?_|refine zd ?_ ?_<;>intro h<;>try omega|fail)<;>conv=>whnf
 all_goals first
  |exact b9o rfl
def a9b (s:d7) (y:Nat->Rat) (i k:Nat):Nat->Rat:=fun v=>S1 s y v i+y i*J0 (m6 s i).terms k v
theorem b3y (s:d7) (y:Nat->Rat) (i:Nat):a9b s y i 0=fun v=>S1 s y v i:=by
 funext v;show _+_*(0:Rat)=_;grind
theorem b6o (s:d7) (y:Nat->Rat) (i:Nat):a9b s y i (m6 s i).terms.length=fun v=>S1 s y v (i+1):=rfl
theorem b3u {s:d7} {y:Nat->Rat} {i k:Nat} {n:Int} {t:Int × Rat} (hr:d8 (-1) n (m6 s i).terms=true) (ht:(m6 s i).terms[k]? =some t):
 a9b s y i k t.1.toNat=S1 s y t.1.toNat i∧(fun j=>if j=t.1.toNat then S1 s y t.1.toNat i+y i*t.2 else a9b s y i k j)=a9b s y i (k+1):=by
 have z:J0 (m6 s i).terms k t.1.toNat=0:=Z0 _ fun a u ha hu=>by
  have h1:=a1h hr a k u t ha hu ht
  have h2:=o8 hr u (lbm hu)
  have h3:=o8 hr t (lbm ht)
  omega
 refine ⟨by unfold a9b;rw [z];grind,?_⟩
 funext j
 unfold a9b
 rw [G6 ht]
 simp only
 by_cases h:j=t.1.toNat
 ·subst h;rw [if_pos rfl,if_pos rfl]
 ·rw [if_neg h,if_neg h]
set_option maxHeartbeats 8000000 in
theorem be6 (s:d7) (hb:a0K s) (hr:g7 s=true) (Y:List Rat) (hq:a9f s Y) (hn1:s.n<=1000):
 a8 Tryz.prog 73 [K3 s,k8 (Y.map fz)] [] (.tup [j4 (a0j s (yN Y) s.n.toNat),frS (fz (a0k s (yN Y)))]) []:=by
 have m1:(s.rows.map u0).length=s.rows.length:=by simp
 have m2:((Y.map fz).map j0).length=Y.length:=by simp
 have l1:=hb.n0
 have hn:=hq.l
 have hm:=hq.m
 have h0n:=(a0S hr)
 obtain ⟨n,hnn⟩:∃n:Nat,s.n.toNat=n:=⟨_,rfl⟩
 have en:s.n=n:=by omega
 have mu:=b1J s hb hr Y (by omega) (fun v hv=>by have:=hq.y v hv;omega)
 rw [lbI hn] at mu
 have i0:=B3 0 (by decide) (by decide)
 rw [hnn]
 rw [show K3 s=.agg [.t (ti (n:Int)),.t (K0 s.rows)] by rw [← en]] at mu ⊢
 (refine ac Tryz.func73 ?_;(conv=>whnf);repeat ((first|refine b0x ?_|refine zy ?_);conv=>whnf))
 repeat' (first|refine zx ?_|refine qp mu ?_|refine a5q (by omega) (by omega) (by omega) (by decide) ?_|refine zd ?_ ?_<;>intro h<;>try omega|fail)<;>conv=>whnf
 refine i3 c9 (fun k=>([J,k8 (Y.map fz),S.c (C.t (T.ptr [ti (n:Int),K0 s.rows])),J,J,S.c (C.ptr 0 0 0),S.c (C.own 1 0 n true)]++Jn 18++[a7 .i64 n,a7 .i64 k]++Jn 72,[frB J3,flB (pZ k n)])) n (fun _=>True) [some 0,some 1] trivial
  ⟨rfl,rfl,⟨⟨rfl,rfl,rfl,.inr ⟨⟨rfl,rfl,rfl,rfl,trivial⟩,trivial⟩⟩,⟨rfl,rfl,rfl,.inr (a7d ?_ ?_)⟩,trivial⟩,⟨rfl,rfl,⟨rfl,rfl,rfl⟩,⟨rfl,rfl,by omega,fun h=>h⟩,c7 (by omega),c7 rfl,trivial⟩⟩ ?_
 ·simp [I8,toC,ah5]
 ·intro i x y hx hy
  simp only [I8,lbk] at hx
  split at hx
  ·rename_i hi
   injection hx with hx
   subst hx
   have hy:(toC ((pZ 0 n).map j0))[i]? =some y:=hy
   rw [toC,lba,lba,a8a (by omega),if_neg (by omega)] at hy
   injection hy with hy
   subst hy
   exact ⟨rfl,rfl,rfl,rfl,trivial⟩
  ·cases hx
 intro k hk _
 by_cases hlt:k<n
 ·obtain ⟨pf,hpf⟩:∃pf,(pZ k n)[k]? =some pf:=⟨_,a8a hlt⟩
  have gp:(pZ k n)[0+(k:Int).toNat]? =some pf:=by rw [y3,show (k:Int).toNat=k by omega];exact hpf
  have eM:0+(k:Int).toNat=k:=by omega
  conv=>whnf
  repeat' (first|refine zx ?_|refine qp i0 ?_|refine k7 gp ?_|refine zd ?_ ?_<;>intro h<;>try omega|fail)<;>conv=>whnf
  all_goals first
   |omega
   |(refine ⟨hlt,trivial,[some 0,some 1],rfl,rfl,⟨⟨rfl,rfl,rfl,.inr ⟨⟨rfl,rfl,rfl,rfl,trivial⟩,trivial⟩⟩,b8 (rows:=(pZ (k+1) n).map j0) rfl rfl rfl ?_ rfl,trivial⟩,⟨rfl,rfl,⟨rfl,rfl,rfl⟩,⟨rfl,rfl,rfl,fun h=>h⟩,rfl,c7 (by omega),trivial⟩⟩
     have e:=H7 (row:=pZ k n) (y:=fz 0) eM
     rw [b4y hlt] at e
     exact congrArg Blk.rows e)
 have hke:k=n:=by omega
 subst hke
 conv=>whnf
 repeat' (first|refine zx ?_|refine qp i0 ?_|refine zd ?_ ?_<;>intro h<;>try omega|fail)<;>conv=>whnf
 all_goals try omega
 refine i3 c9 (fun i=>([J,J,S.c (C.t (T.ptr [ti (k:Int),K0 s.rows])),J,J,S.c (C.ptr 0 0 0),S.c (C.own 1 0 k true),J,S.c (C.ptr 2 0 0)]++Jn 26++[k8 (Y.map fz),a7 .i64 Y.length,a7 .i64 i]++Jn 61,[frB J3,flB (rF k fun v=>S1 s (yN Y) v i),frB (fz (a19 s (yN Y) i))])) Y.length (fun _=>True) [some 0,some 1,some 2] trivial
  ⟨rfl,rfl,⟨⟨rfl,rfl,rfl,.inr ⟨⟨rfl,rfl,rfl,rfl,trivial⟩,trivial⟩⟩,b8 (rows:=(rF k fun _=>0).map j0) rfl rfl rfl (by rw [← b5c]) rfl,⟨rfl,rfl,rfl,.inl ⟨rfl,A8 _⟩⟩,trivial⟩,⟨rfl,⟨rfl,rfl,rfl⟩,⟨rfl,rfl,rfl,fun h=>h⟩,⟨rfl,rfl,rfl⟩,rfl,c7 (by simp),rfl,trivial⟩⟩ ?_
 intro i hi _
 by_cases hil:i<Y.length
 ·obtain ⟨x,hx⟩:∃x,Y[i]? =some x:=⟨_,lbf hil⟩
  obtain ⟨w,hw⟩:∃w,s.rows[i]? =some w:=⟨_,lbf (by omega)⟩
  obtain ⟨b1,b2,b3⟩:=hb.t w (lbm hw)
  have hrt:=(a1J hr hw).1
  have bx:=hq.y x (lbm hx)
  have eyx:yN Y i=x:=b6h hx
  have erw:m6 s i=w:=O3 hw
  have mv:=hq.v i
  have sg:=D9 x (by omega)
  have sz:=a16 (x:=x)
  have pv:=b6q (a19 s (yN Y) i) x w.value (by omega) (by omega) b3
  have ev:a19 s (yN Y) i+x*w.value=a19 s (yN Y) (i+1):=by
   show _=a19 s (yN Y) i+yN Y i*(m6 s i).value
   rw [erw,eyx]
  rw [ev] at pv
  by_cases hx0:x=0
  ·have hs:=sz.2 hx0
   have e1:(fun v=>S1 s (yN Y) v (i+1))=fun v=>S1 s (yN Y) v i:=by
    funext v
    show S1 s (yN Y) v i+yN Y i*_=_
    rw [eyx,hx0];grind
   have e2:a19 s (yN Y) (i+1)=a19 s (yN Y) i:=by
    show a19 s (yN Y) i+yN Y i*_=_
    rw [eyx,hx0];grind
   rw [e1,e2]
   conv=>whnf
   repeat' (first|refine zx ?_|refine qp sg ?_|refine d6 (a2x Y hx) ?_|refine zd ?_ ?_<;>intro h<;>try omega|fail)<;>conv=>whnf
   all_goals first
    |omega
    |exact ⟨hil,trivial,[some 0,some 1,some 2],rfl,rfl,⟨⟨rfl,rfl,rfl,.inr ⟨⟨rfl,rfl,rfl,rfl,trivial⟩,trivial⟩⟩,g8 (f5 _),⟨rfl,rfl,rfl,.inl ⟨rfl,A8 _⟩⟩,trivial⟩,⟨rfl,⟨rfl,rfl,rfl⟩,⟨rfl,rfl,rfl,fun h=>h⟩,⟨rfl,rfl,rfl⟩,rfl,rfl,c7 (by omega),trivial⟩⟩
  ·have hs:sgR x≠0:=fun h=>hx0 (sz.1 h)
   have m4:(w.terms.map u6).length=w.terms.length:=by simp
   conv=>whnf
   repeat' (first|refine zx ?_|refine qp sg ?_|refine d6 (a2x Y hx) ?_|refine d6 hw ?_|refine zd ?_ ?_<;>intro h<;>try omega|fail)<;>conv=>whnf
   all_goals try omega
   refine i3 c9 (fun j=>([J,J,S.c (C.t (T.ptr [ti (k:Int),K0 s.rows])),J,J,S.c (C.ptr 0 0 0),S.c (C.own 1 0 k true),J,S.c (C.ptr 2 0 0),a7 .i64 i,S.c (C.ptr 3 0 0)]++Jn 24++[k8 (Y.map fz),a7 .i64 Y.length,a7 .i64 i]++Jn 12++[j4 w.terms,a7 .i64 w.terms.length,a7 .i64 j]++Jn 46,[frB J3,flB (rF k (a9b s (yN Y) i j)),frB (fz (a19 s (yN Y) i)),frB (fz x)])) w.terms.length (fun _=>True) [some 0,some 1,some 2,some 3] trivial
    ⟨rfl,rfl,⟨⟨rfl,rfl,rfl,.inr ⟨⟨rfl,rfl,rfl,rfl,trivial⟩,trivial⟩⟩,b8 (rows:=(rF k fun v=>S1 s (yN Y) v i).map j0) rfl rfl rfl rfl (by rw [b3y]),⟨rfl,rfl,rfl,.inl ⟨rfl,A8 _⟩⟩,⟨rfl,rfl,rfl,.inl ⟨rfl,A8 _⟩⟩,trivial⟩,⟨rfl,⟨rfl,rfl,rfl⟩,⟨rfl,rfl,rfl,fun h=>h⟩,⟨rfl,rfl,rfl⟩,rfl,⟨rfl,rfl,rfl⟩,rfl,rfl,rfl,rfl,c7 (by simp),rfl,trivial⟩⟩ ?_
   intro j hj _
   by_cases hjl:j<w.terms.length
   ·obtain ⟨t,ht⟩:∃t,w.terms[j]? =some t:=⟨_,lbf hjl⟩
    have tm:=o8 hrt t (lbm ht)
    have tb:=b2 t (lbm ht)
    obtain ⟨p1,p2⟩:=b3u (s:=s) (y:=yN Y) (i:=i) (k:=j) (n:=(s.n.toNat:Nat)) (t:=t) (by rw [erw];exact hrt) (by rw [erw];exact ht)
    have bm:=hq.n t.1.toNat i
    have ad:=b6q (S1 s (yN Y) t.1.toNat i) x t.2 (by omega) (by omega) tb
    have hv:t.1.toNat<k:=by omega
    have g1:(rF k (a9b s (yN Y) i j))[0+t.1.toNat]? =some (fz (S1 s (yN Y) t.1.toNat i)):=by rw [y3,E7 hv,p1]
    have eM:0+t.1.toNat=t.1.toNat:=by omega
    rw [eyx] at p2
    conv=>whnf
    repeat' (first|refine zx ?_|refine qp ad ?_|refine d6 ht ?_|refine k7 g1 ?_|refine zd ?_ ?_<;>intro h<;>try omega|fail)<;>conv=>whnf
    all_goals first
     |omega
     |(refine ⟨hjl,trivial,[some 0,some 1,some 2,some 3],rfl,rfl,⟨⟨rfl,rfl,rfl,.inr ⟨⟨rfl,rfl,rfl,rfl,trivial⟩,trivial⟩⟩,b8 (rows:=(rF k (a9b s (yN Y) i (j+1))).map j0) rfl rfl rfl ?_ rfl,⟨rfl,rfl,rfl,.inl ⟨rfl,A8 _⟩⟩,⟨rfl,rfl,rfl,.inl ⟨rfl,A8 _⟩⟩,trivial⟩,⟨rfl,⟨rfl,rfl,rfl⟩,⟨rfl,rfl,rfl,fun h=>h⟩,⟨rfl,rfl,rfl⟩,rfl,⟨rfl,rfl,rfl⟩,rfl,rfl,rfl,rfl,rfl,c7 (by omega),trivial⟩⟩
       have e:=H7 (row:=rF k (a9b s (yN Y) i j)) (y:=fz (S1 s (yN Y) t.1.toNat i+x*t.2)) eM
       rw [T8 hv,p2] at e
       exact congrArg Blk.rows e)
   ·have hje:j=w.terms.length:=by omega
    subst hje
    have e3:a9b s (yN Y) i w.terms.length=fun v=>S1 s (yN Y) v (i+1):=by rw [← erw];exact b6o s (yN Y) i
    rw [e3]
    conv=>whnf
    repeat' (first|refine zx ?_|refine qp pv ?_|refine d6 hw ?_|refine zd ?_ ?_<;>intro h<;>try omega|fail)<;>conv=>whnf
    all_goals first
     |omega
     |exact ⟨hil,trivial,[some 0,some 1,some 2],rfl,rfl,⟨⟨rfl,rfl,rfl,.inr ⟨⟨rfl,rfl,rfl,rfl,trivial⟩,trivial⟩⟩,g8 (f5 _),⟨rfl,rfl,rfl,.inl ⟨rfl,A8 _⟩⟩,trivial⟩,⟨rfl,⟨rfl,rfl,rfl⟩,⟨rfl,rfl,rfl,fun h=>h⟩,⟨rfl,rfl,rfl⟩,rfl,rfl,c7 (by omega),trivial⟩⟩
 have hie:i=s.rows.length:=by omega
 subst hie
 have e4:(fun v=>S1 s (yN Y) v s.rows.length)=L2 s (yN Y):=rfl
 have e5:a19 s (yN Y) s.rows.length=a0k s (yN Y):=rfl
 rw [e4,e5]
 conv=>whnf
 repeat' (first|refine zx ?_|refine zd ?_ ?_<;>intro h<;>try omega|fail)<;>conv=>whnf
 all_goals try omega
 refine i3 c9 (fun v=>([J,J,J,J,J,S.c (C.ptr 0 0 0),J,J,S.c (C.ptr 2 0 0),J,J,J,J,S.c (C.own 3 0 (a0j s (yN Y) v).length true)]++Jn 66++[S.c (C.own 1 0 k true),a7 .i64 k,a7 .i64 v]++Jn 16,[frB J3,flB (rF k (L2 s (yN Y))),frB (fz (a0k s (yN Y))),a1X (a0j s (yN Y) v)])) k (fun _=>True) [some 0,some 1,some 2,none] trivial
  ⟨rfl,rfl,⟨⟨rfl,rfl,rfl,.inr ⟨⟨rfl,rfl,rfl,rfl,trivial⟩,trivial⟩⟩,g8 (f5 _),⟨rfl,rfl,rfl,.inl ⟨rfl,A8 _⟩⟩,⟨rfl,rfl⟩,trivial⟩,⟨⟨rfl,rfl,rfl⟩,⟨rfl,rfl,rfl⟩,⟨rfl,rfl,rfl⟩,⟨rfl,rfl,rfl,fun h=>h⟩,rfl,c7 rfl,trivial⟩⟩ ?_
 intro v hv _
 have lv:=b4n s (yN Y) v
 by_cases hlt:v<k
 ·have bm:=hq.n v s.rows.length
  have em:S1 s (yN Y) v s.rows.length=L2 s (yN Y) v:=rfl
  rw [em] at bm
  have sg:=D9 (L2 s (yN Y) v) (by omega)
  have sz:=a16 (x:=L2 s (yN Y) v)
  have g1:(rF k (L2 s (yN Y)))[0+(v:Int).toNat]? =some (fz (L2 s (yN Y) v)):=by rw [y3,show (v:Int).toNat=v by omega,E7 hlt]
  have lA:(a0j s (yN Y) v).length<=(a1X (a0j s (yN Y) v)).rows.length:=by show _<=(toC _).length;simp [toC]
  by_cases hz:L2 s (yN Y) v=0
  ·have hs:=sz.2 hz
   have e2:a0j s (yN Y) (v+1)=a0j s (yN Y) v:=by rw [as3,if_pos hz]
   rw [e2]
   conv=>whnf
   repeat' (first|refine zx ?_|refine qp sg ?_|refine k7 g1 ?_|refine zd ?_ ?_<;>intro h<;>try omega|fail)<;>conv=>whnf
   all_goals first
    |omega
    |exact ⟨hlt,trivial,[some 0,some 1,some 2,some 3],rfl,rfl,⟨⟨rfl,rfl,rfl,.inr ⟨⟨rfl,rfl,rfl,rfl,trivial⟩,trivial⟩⟩,g8 (f5 _),⟨rfl,rfl,rfl,.inl ⟨rfl,A8 _⟩⟩,g8 (f5 _),trivial⟩,⟨⟨rfl,rfl,rfl⟩,⟨rfl,rfl,rfl⟩,⟨rfl,rfl,rfl,fun h=>h⟩,⟨rfl,rfl,rfl,fun h=>h⟩,rfl,c7 (by omega),trivial⟩⟩
  ·have hs:sgR (L2 s (yN Y) v)≠0:=fun h=>hz (sz.1 h)
   have e2:a0j s (yN Y) (v+1)=a0j s (yN Y) v++[((v:Int),L2 s (yN Y) v)]:=by rw [as3,if_neg hz]
   rw [e2]
   conv=>whnf
   repeat' (first|refine zx ?_|refine qp sg ?_|refine qp toC ?_|refine k7 g1 ?_|refine D7 lA (by simp [toC];omega) ?_|refine zd ?_ ?_<;>intro h<;>try omega|fail)<;>conv=>whnf
   all_goals first
    |omega
    |(refine ⟨hlt,trivial,[some 0,some 1,some 2,some 5],rfl,rfl,⟨⟨rfl,rfl,rfl,.inr ⟨⟨rfl,rfl,rfl,rfl,trivial⟩,trivial⟩⟩,g8 (f5 _),⟨rfl,rfl,rfl,.inl ⟨rfl,A8 _⟩⟩,b8 (rows:=(a0j s (yN Y) v++[((v:Int),L2 s (yN Y) v)]).map u6) rfl rfl rfl ?_ rfl,trivial⟩,⟨⟨rfl,rfl,rfl⟩,⟨rfl,rfl,rfl⟩,⟨rfl,rfl,?_,fun h=>h⟩,⟨rfl,rfl,rfl,fun h=>h⟩,rfl,c7 (by omega),trivial⟩⟩
      ·exact a01 (f:=u6) (x:=((v:Int),L2 s (yN Y) v)) rfl
      ·simp [toC])
 ·have hke:v=k:=by omega
  subst hke
  conv=>whnf
  repeat' (first|refine zx ?_|refine zd ?_ ?_<;>intro h<;>try omega|fail)<;>conv=>whnf
  all_goals first
   |omega
   |exact l9 ⟨(show VC _ (fun id=>N2 [] id=true) (C.own 3 0 _ true) _ from y0 (k:=a1X (a0j s (yN Y) v)) rfl rfl (fun h=>h) rfl rfl (by simp)),⟨rfl,rfl,rfl,rfl,trivial⟩,trivial⟩
theorem av8 {t:Int × Rat} {r:List (Int × Rat)} (h:∀u ∈ r,u.1.toNat≠t.1.toNat) (v:Nat):∀k,k<=r.length->J0 (t::r) (k+1) v=if v=t.1.toNat then t.2 else J0 r k v
 |0,_=>by
  rw [G6 (l:=t::r) (k:=0) (t:=t) rfl]
  simp only
  by_cases h1:v=t.1.toNat
  ·rw [if_pos h1,if_pos h1]
  ·rw [if_neg h1,if_neg h1]
   rfl
 |k+1,hk=>by
  have hx:r[k]? =some r[k]:=lbf (by omega)
  have hne:=h _ (lbm hx)
  rw [G6 (l:=t::r) (k:=k+1) (t:=r[k]) (by simp),G6 hx]
  have ih:=av8 h v k (by omega)
  simp only
  rw [ih]
  by_cases h1:v=t.1.toNat
  ·rw [if_pos h1,if_pos h1,if_neg (by omega)]
  ·rw [if_neg h1,if_neg h1]
theorem G5 {last n:Int} {t:Int × Rat} {r:List (Int × Rat)} (h0:-1<=last) (h:d8 last n (t::r)=true) (v:Nat):w7 (t::r) v=if v=t.1.toNat then t.2 else w7 r v:=by
 refine av8 (fun u hu=>?_) v r.length (lbS _)
 obtain ⟨j,hj,he⟩:=a0Y hu
 have h1:=a1h h 0 (j+1) t u (by omega) rfl (by simp [he,hj])
 have h2:=o8 h t (R3 ..)
 omega
theorem I9 {last n:Int} {t:Int × Rat} {r:List (Int × Rat)} (h:d8 last n (t::r)=true):d8 t.1 n r=true:=by
 unfold d8 at h
 simp only [lbO] at h
 exact h.2
theorem a2c {last n:Int} {l:List (Int × Rat)} (h0:-1<=last) (h:d8 last n l=true) {v:Nat} (hv:(v:Int)<=last):w7 l v=0:=by
 refine Z0 _ fun i t hi ht e=>?_
 have:=o8 h t (lbm ht)
 omega
def a9g (a b:List (Int × Rat)):Prop:=∀v,w7 a v<=w7 b v
theorem aV8 {last n:Int} {t:Int × Rat} {r b:List (Int × Rat)} (h0:-1<=last) (ha:d8 last n (t::r)=true) (hb:d8 t.1 n b=true):a9g (t::r) b↔t.2<=0∧a9g r b:=by
 have hm:=o8 ha t (R3 ..)
 have z1:=a2c (v:=t.1.toNat) (by omega) hb (by omega)
 have z2:=a2c (v:=t.1.toNat) (by omega) (I9 ha) (by omega)
 constructor
 ·intro h
  refine ⟨?_,fun v=>?_⟩
  ·have:=h t.1.toNat
   rw [G5 h0 ha,if_pos rfl,z1] at this
   exact this
  ·by_cases hv:v=t.1.toNat
   ·subst hv;rw [z1,z2];exact lb2
   ·have:=h v
    rwa [G5 h0 ha,if_neg hv] at this
 ·rintro ⟨h1,h2⟩ v
  rw [G5 h0 ha]
  by_cases hv:v=t.1.toNat
  ·rw [if_pos hv,hv,z1];exact h1
  ·rw [if_neg hv];exact h2 v
theorem as0 {last n:Int} {u:Int × Rat} {a q:List (Int × Rat)} (h0:-1<=last) (hb:d8 last n (u::q)=true) (ha:d8 u.1 n a=true):a9g a (u::q)↔0<=u.2∧a9g a q:=by
 have hm:=o8 hb u (R3 ..)
 have z1:=a2c (v:=u.1.toNat) (by omega) ha (by omega)
 have z2:=a2c (v:=u.1.toNat) (by omega) (I9 hb) (by omega)
 constructor
 ·intro h
  refine ⟨?_,fun v=>?_⟩
  ·have:=h u.1.toNat
   rw [G5 h0 hb,if_pos rfl,z1] at this
   exact this
  ·by_cases hv:v=u.1.toNat
   ·subst hv;rw [z1,z2];exact lb2
   ·have:=h v
    rwa [G5 h0 hb,if_neg hv] at this
 ·rintro ⟨h1,h2⟩ v
  rw [G5 h0 hb]
  by_cases hv:v=u.1.toNat
  ·rw [if_pos hv,hv,z1];exact h1
  ·rw [if_neg hv];exact h2 v
theorem b6I {last n:Int} {t u:Int × Rat} {r q:List (Int × Rat)} (h0:-1<=last) (ha:d8 last n (t::r)=true) (hb:d8 last n (u::q)=true) (he:t.1=u.1):a9g (t::r) (u::q)↔t.2<=u.2∧a9g r q:=by
 have hm:=o8 ha t (R3 ..)
 have z1:=a2c (v:=t.1.toNat) (by omega) (I9 ha) (by omega)
 have z2:=a2c (v:=t.1.toNat) (by omega) (I9 hb) (by omega)
 constructor
 ·intro h
  refine ⟨?_,fun v=>?_⟩
  ·have:=h t.1.toNat
   rwa [G5 h0 ha,G5 h0 hb,if_pos rfl,if_pos (by rw [he])] at this
  ·by_cases hv:v=t.1.toNat
   ·subst hv;rw [z1,z2];exact lb2
   ·have:=h v
    rwa [G5 h0 ha,G5 h0 hb,if_neg hv,if_neg (by rw [← he];exact hv)] at this
 ·rintro ⟨h1,h2⟩ v
  rw [G5 h0 ha,G5 h0 hb,←he]
  by_cases hv:v=t.1.toNat
  ·rw [if_pos hv,if_pos hv];exact h1
  ·rw [if_neg hv,if_neg hv];exact h2 v
open Classical in
noncomputable def an4 (a b:List (Int × Rat)):Bool:=decide (a9g a b)
theorem a4y {a b:List (Int × Rat)}:an4 a b=true↔a9g a b:=by unfold an4;simp
theorem a6C {a b a' b':List (Int × Rat)} {p:Prop} (h:a9g a b↔p∧a9g a' b') (hp:p):an4 a b=an4 a' b':=by
 rw [ae4,a4y,a4y,h];exact ⟨fun h=>h.2,fun h=>⟨hp,h⟩⟩
theorem a6K {a b a' b':List (Int × Rat)} {p:Prop} (h:a9g a b↔p∧a9g a' b') (hp:¬p):an4 a b=false:=by
 rw [← lbR,a4y,h];exact fun h=>hp h.1
theorem b4h (u:Int × Rat) (q:List (Int × Rat)):T.sl 5 (Q3 SK.any none none) (List.drop (Int.toNat 1) (List.take (((((u::q).map u6).length:Nat):Int)).toNat ((u::q).map u6)))=.sl 5 .any (q.map u6):=by
 rw [lbn (by omega)];rfl
set_option maxHeartbeats 8000000 in
theorem b8j (n:Int) (a b:List (Int × Rat)) (ha:d8 (-1) n a=true) (hb:d8 (-1) n b=true) (hn:n<=1500) (ba:∀t ∈ a,rl t.2<=60000) (bb:∀t ∈ b,rl t.2<=60000):
 a8 Tryz.prog 74 [j4 a,j4 b] [] (d9 (an4 a b)) []:=by
 have i0:=B3 0 (by decide) (by decide)
 have r0:=rl0
 (refine ac Tryz.func74 ?_;(conv=>whnf);repeat ((first|refine b0x ?_|refine zy ?_);conv=>whnf))
 repeat' (first|refine zx ?_|refine qp i0 ?_|refine zd ?_ ?_<;>intro h<;>try omega|fail)<;>conv=>whnf
 refine t8 c9 (σ:=Int × List (Int × Rat) × List (Int × Rat)) (fun x=>([j4 x.2.1,j4 x.2.2,J,J,J,S.c (C.ptr 0 0 0)]++Jn 71,[frB (fz ((0:Int):Rat))])) (fun x=>-1<=x.1∧d8 x.1 n x.2.1=true∧d8 x.1 n x.2.2=true∧(∀ t ∈ x.2.1,rl t.2<=60000)∧(∀ t ∈ x.2.2,rl t.2<=60000)∧an4 a b=an4 x.2.1 x.2.2) (fun x=>x.2.1.length+x.2.2.length) (-1,a,b) [some 0]
  ⟨Int.le_refl _,ha,hb,ba,bb,rfl⟩ ⟨rfl,rfl,⟨⟨rfl,rfl,rfl,.inl ⟨rfl,A8 _⟩⟩,trivial⟩,⟨rfl,rfl,⟨rfl,rfl,rfl⟩,trivial⟩⟩ ?_
 rintro ⟨last,a',b'⟩ ⟨h0,h1,h2,h3,h4,h5⟩
 simp only at h0 h1 h2 h3 h4 h5
 rw [h5]
 show a4d _ _ _ _ ([j4 a',j4 b',J,J,J,S.c (C.ptr 0 0 0)]++Jn 71) [frB (fz ((0:Int):Rat))] _
 have ma:(a'.map u6).length=a'.length:=by simp
 have mb:(b'.map u6).length=b'.length:=by simp
 have lena:=s6 h1
 have lenb:=s6 h2
 clear h5
 cases a' with
 |nil=>
  have na:([]:List (Int × Rat)).length=0:=rfl
  cases b' with
  |nil=>
   have e:an4 [] []=true:=a4y.2 fun v=>lb2
   rw [e]
   conv=>whnf
   repeat' (first|refine zx ?_|refine zd ?_ ?_<;>intro h<;>try omega|fail)<;>conv=>whnf
   all_goals first
    |omega
    |exact b9 rfl
  |cons u q=>
   have hm:=o8 h2 u (R3 ..)
   have nb:(u::q).length=q.length+1:=rfl
   have eq:=as0 (a:=[]) h0 h2 rfl
   have bu:=h4 u (R3 ..)
   have cm:=J2 ((0:Int):Rat) u.2 (by have e:rl ((0:Int):Rat)=rl 0:=rfl;omega) bu
   have k2:=a04 (x:=((0:Int):Rat)) (y:=u.2)
   generalize X4 ((0:Int):Rat) u.2=U at cm k2
   by_cases hU:U > 0
   ·rw [a6K eq (a5w.2 (k2.1 hU))]
    clear k2
    conv=>whnf
    repeat' (first|refine zx ?_|refine qp cm ?_|refine qp 0 ?_|refine qp 1 ?_|refine qp (4,5) ?_|refine a1A (by omega) (by omega) (by omega) ?_|refine G1 (k:=0) rfl (show (u::q)[0]? =some u from rfl) ?_|refine bl0 [1] ?_|refine bl0 [4,5] ?_|refine zd ?_ ?_<;>intro h<;>try omega|fail)<;>conv=>whnf
    all_goals first
     |omega
     |exact b9 rfl
   ·rw [a6C eq (lb3.1 fun h=>hU (k2.2 h))]
    clear k2
    conv=>whnf
    repeat' (first|refine zx ?_|refine qp cm ?_|refine qp 0 ?_|refine qp 1 ?_|refine qp (4,5) ?_|refine a1A (by omega) (by omega) (by omega) ?_|refine G1 (k:=0) rfl (show (u::q)[0]? =some u from rfl) ?_|refine bl0 [1] ?_|refine bl0 [4,5] ?_|refine zd ?_ ?_<;>intro h<;>try omega|fail)<;>conv=>whnf
    all_goals first
     |omega
     |exact ⟨[some 0],(u.1,[],q),⟨rfl,rfl,⟨⟨rfl,rfl,rfl,.inl ⟨rfl,A8 _⟩⟩,trivial⟩,⟨rfl,i8 (b4h u q),⟨rfl,rfl,rfl⟩,trivial⟩⟩,⟨by omega,rfl,I9 h2,h3,fun t ht=>h4 t (T9 _ ht),rfl⟩,by simp⟩
 |cons t r=>
  have hm:=o8 h1 t (R3 ..)
  have bt:=h3 t (R3 ..)
  have na:(t::r).length=r.length+1:=rfl
  cases b' with
  |nil=>
   have nb:([]:List (Int × Rat)).length=0:=rfl
   have eq:=aV8 (b:=[]) h0 h1 rfl
   have cm:=J2 t.2 ((0:Int):Rat) bt (by have e:rl ((0:Int):Rat)=rl 0:=rfl;omega)
   have k2:=a04 (x:=t.2) (y:=((0:Int):Rat))
   generalize X4 t.2 ((0:Int):Rat)=U at cm k2
   by_cases hU:U > 0
   ·rw [a6K eq (a5w.2 (k2.1 hU))]
    clear k2
    conv=>whnf
    repeat' (first|refine zx ?_|refine qp cm ?_|refine qp 0 ?_|refine qp 1 ?_|refine qp (4,5) ?_|refine a1A (by omega) (by omega) (by omega) ?_|refine G1 (k:=0) rfl (show (t::r)[0]? =some t from rfl) ?_|refine bl0 [1] ?_|refine bl0 [4,5] ?_|refine zd ?_ ?_<;>intro h<;>try omega|fail)<;>conv=>whnf
    all_goals first
     |omega
     |exact b9 rfl
   ·rw [a6C eq (lb3.1 fun h=>hU (k2.2 h))]
    clear k2
    conv=>whnf
    repeat' (first|refine zx ?_|refine qp cm ?_|refine qp 0 ?_|refine qp 1 ?_|refine qp (4,5) ?_|refine a1A (by omega) (by omega) (by omega) ?_|refine G1 (k:=0) rfl (show (t::r)[0]? =some t from rfl) ?_|refine bl0 [1] ?_|refine bl0 [4,5] ?_|refine zd ?_ ?_<;>intro h<;>try omega|fail)<;>conv=>whnf
    all_goals first
     |omega
     |exact ⟨[some 0],(t.1,r,[]),⟨rfl,rfl,⟨⟨rfl,rfl,rfl,.inl ⟨rfl,A8 _⟩⟩,trivial⟩,⟨i8 (b4h t r),rfl,⟨rfl,rfl,rfl⟩,trivial⟩⟩,⟨by omega,I9 h1,rfl,fun t ht=>h3 t (T9 _ ht),h4,rfl⟩,by simp⟩
  |cons u q=>
   have nb:(u::q).length=q.length+1:=rfl
   have hmu:=o8 h2 u (R3 ..)
   have bu:=h4 u (R3 ..)
   rcases a8u t.1 u.1 with hlt|he|hgt
   ·have hrb:d8 t.1 n (u::q)=true:=by
     have:=h2
     unfold d8 at this ⊢
     simp only [lbO,lbJ] at this ⊢
     exact ⟨⟨⟨by omega,this.1.1.2⟩,this.1.2⟩,this.2⟩
    have eq:=aV8 h0 h1 hrb
    have cm:=J2 t.2 ((0:Int):Rat) bt (by have e:rl ((0:Int):Rat)=rl 0:=rfl;omega)
    have k2:=a04 (x:=t.2) (y:=((0:Int):Rat))
    generalize X4 t.2 ((0:Int):Rat)=U at cm k2
    by_cases hU:U > 0
    ·rw [a6K eq (a5w.2 (k2.1 hU))]
     clear k2
     conv=>whnf
     repeat' (first|refine zx ?_|refine qp cm ?_|refine qp 0 ?_|refine qp 0 ?_|refine qp 1 ?_|refine qp (4,5) ?_|refine a1A (by omega) (by omega) (by omega) ?_|refine G1 (k:=0) rfl (show (u::q)[0]? =some u from rfl) ?_|refine G1 (k:=0) rfl (show (t::r)[0]? =some t from rfl) ?_|refine bl0 [1] ?_|refine bl0 [4,5] ?_|refine zd ?_ ?_<;>intro h<;>try omega|fail)<;>conv=>whnf
     all_goals first
      |omega
      |exact b9 rfl
    ·rw [a6C eq (lb3.1 fun h=>hU (k2.2 h))]
     clear k2
     conv=>whnf
     repeat' (first|refine zx ?_|refine qp cm ?_|refine qp 0 ?_|refine qp 0 ?_|refine qp 1 ?_|refine qp (4,5) ?_|refine a1A (by omega) (by omega) (by omega) ?_|refine G1 (k:=0) rfl (show (u::q)[0]? =some u from rfl) ?_|refine G1 (k:=0) rfl (show (t::r)[0]? =some t from rfl) ?_|refine bl0 [1] ?_|refine bl0 [4,5] ?_|refine zd ?_ ?_<;>intro h<;>try omega|fail)<;>conv=>whnf
     all_goals first
      |omega
      |exact ⟨[some 0],(t.1,r,u::q),⟨rfl,rfl,⟨⟨rfl,rfl,rfl,.inl ⟨rfl,A8 _⟩⟩,trivial⟩,⟨i8 (b4h t r),rfl,⟨rfl,rfl,rfl⟩,trivial⟩⟩,⟨by omega,I9 h1,hrb,fun t ht=>h3 t (T9 _ ht),h4,rfl⟩,by simp⟩
   ·have eq:=b6I h0 h1 h2 he
    have cm:=J2 t.2 u.2 bt bu
    have k2:=a04 (x:=t.2) (y:=u.2)
    generalize X4 t.2 u.2=U at cm k2
    by_cases hU:U > 0
    ·rw [a6K eq (a5w.2 (k2.1 hU))]
     clear k2
     conv=>whnf
     repeat' (first|refine zx ?_|refine qp cm ?_|refine qp 0 ?_|refine qp 0 ?_|refine qp 1 ?_|refine qp (4,5) ?_|refine a1A (by omega) (by omega) (by omega) ?_|refine G1 (k:=0) rfl (show (u::q)[0]? =some u from rfl) ?_|refine G1 (k:=0) rfl (show (t::r)[0]? =some t from rfl) ?_|refine bl0 [1] ?_|refine bl0 [4,5] ?_|refine zd ?_ ?_<;>intro h<;>try omega|fail)<;>conv=>whnf
     all_goals first
      |omega
      |exact b9 rfl
    ·rw [a6C eq (lb3.1 fun h=>hU (k2.2 h))]
     clear k2
     conv=>whnf
     repeat' (first|refine zx ?_|refine qp cm ?_|refine qp 0 ?_|refine qp 0 ?_|refine qp 1 ?_|refine qp (4,5) ?_|refine a1A (by omega) (by omega) (by omega) ?_|refine G1 (k:=0) rfl (show (u::q)[0]? =some u from rfl) ?_|refine G1 (k:=0) rfl (show (t::r)[0]? =some t from rfl) ?_|refine bl0 [1] ?_|refine bl0 [4,5] ?_|refine zd ?_ ?_<;>intro h<;>try omega|fail)<;>conv=>whnf
     all_goals first
      |omega
      |exact ⟨[some 0],(t.1,r,q),⟨rfl,rfl,⟨⟨rfl,rfl,rfl,.inl ⟨rfl,A8 _⟩⟩,trivial⟩,⟨i8 (b4h t r),i8 (b4h u q),⟨rfl,rfl,rfl⟩,trivial⟩⟩,⟨by omega,I9 h1,by rw [he];exact I9 h2,fun t ht=>h3 t (T9 _ ht),fun t ht=>h4 t (T9 _ ht),rfl⟩,by simp;omega⟩
   ·have hra:d8 u.1 n (t::r)=true:=by
     have:=h1
     unfold d8 at this ⊢
     simp only [lbO,lbJ] at this ⊢
     exact ⟨⟨⟨by omega,this.1.1.2⟩,this.1.2⟩,this.2⟩
    have eq:=as0 h0 h2 hra
    have cm:=J2 ((0:Int):Rat) u.2 (by have e:rl ((0:Int):Rat)=rl 0:=rfl;omega) bu
    have k2:=a04 (x:=((0:Int):Rat)) (y:=u.2)
    generalize X4 ((0:Int):Rat) u.2=U at cm k2
    by_cases hU:U > 0
    ·rw [a6K eq (a5w.2 (k2.1 hU))]
     clear k2
     conv=>whnf
     repeat' (first|refine zx ?_|refine qp cm ?_|refine qp 0 ?_|refine qp 0 ?_|refine qp 1 ?_|refine qp (4,5) ?_|refine a1A (by omega) (by omega) (by omega) ?_|refine G1 (k:=0) rfl (show (u::q)[0]? =some u from rfl) ?_|refine G1 (k:=0) rfl (show (t::r)[0]? =some t from rfl) ?_|refine bl0 [1] ?_|refine bl0 [4,5] ?_|refine zd ?_ ?_<;>intro h<;>try omega|fail)<;>conv=>whnf
     all_goals first
      |omega
      |exact b9 rfl
    ·rw [a6C eq (lb3.1 fun h=>hU (k2.2 h))]
     clear k2
     conv=>whnf
     repeat' (first|refine zx ?_|refine qp cm ?_|refine qp 0 ?_|refine qp 0 ?_|refine qp 1 ?_|refine qp (4,5) ?_|refine a1A (by omega) (by omega) (by omega) ?_|refine G1 (k:=0) rfl (show (u::q)[0]? =some u from rfl) ?_|refine G1 (k:=0) rfl (show (t::r)[0]? =some t from rfl) ?_|refine bl0 [1] ?_|refine bl0 [4,5] ?_|refine zd ?_ ?_<;>intro h<;>try omega|fail)<;>conv=>whnf
     all_goals first
      |omega
      |exact ⟨[some 0],(u.1,t::r,q),⟨rfl,rfl,⟨⟨rfl,rfl,rfl,.inl ⟨rfl,A8 _⟩⟩,trivial⟩,⟨rfl,i8 (b4h u q),⟨rfl,rfl,rfl⟩,trivial⟩⟩,⟨by omega,hra,I9 h2,h3,fun t ht=>h4 t (T9 _ ht),rfl⟩,by simp⟩
theorem b61 {s:d7} {g:List (Int × Rat)} {y:Nat->Rat} (hr:g7 s=true) (hg:d8 (-1) s.n g=true):an4 (a0j s y s.n.toNat) g=(List.range s.n.toNat).all fun v=>decide (L2 s y v<=w7 g v):=by
 have hn:=a0S hr
 have hm:=a5D s y s.n.toNat
 rw [ae4,a4y,lbw]
 constructor
 ·intro h v hv
  rw [lbC] at hv
  have:=h v
  rw [aT2 hv] at this
  exact lbI this
 ·intro h v
  by_cases hv:v<s.n.toNat
  ·rw [aT2 hv];exact lbM (h v (lbC.2 hv))
  ·rw [show w7 (a0j s y s.n.toNat) v=0 from Z0 _ fun i t _ ht=>by
    have:=o8 hm t (lbm ht);omega,show w7 g v=0 from Z0 _ fun i t _ ht=>by
    have:=o8 hg t (lbm ht);omega]
   exact lb2
theorem a8Y (s:d7) (hb:a0K s) (hr:g7 s=true) (g:List (Int × Rat)) (y:List Fr) (hy:am3 y) (h:(decide (y.length=s.rows.length) && y.all o6)=false):
 a8 Tryz.prog 30 [K3 s,j4 g,k8 y] [] (.tup [frS J3,d9 false]) []:=by
 have sn:=a8F s hb hr y hy h
 (refine ac Tryz.func30 ?_;(conv=>whnf);repeat ((first|refine b0x ?_|refine zy ?_);conv=>whnf))
 repeat' (first|refine zx ?_|refine qp sn ?_|refine zd ?_ ?_<;>intro h<;>try omega|fail)<;>conv=>whnf
 all_goals exact l9 ⟨⟨rfl,rfl,rfl,rfl,trivial⟩,rfl,trivial⟩
set_option maxHeartbeats 4000000 in
theorem aP3 (s:d7) (hb:a0K s) (hr:g7 s=true) (hn1:s.n<=1000) (g:List (Int × Rat)) (hg:g.length<=1000000) (hgb:∀t ∈ g,rl t.2<=200) (Y:List Rat) (hy:∀v ∈ Y,rl v<=40000) (hyl:Y.length<=1000000) (hq:Y.length=s.rows.length->a9f s Y):
 a8 Tryz.prog 30 [K3 s,j4 g,k8 (Y.map fz)] [] (aA5 s g Y) []:=by
 have h0n:=a0S hr
 have sn:=b3v s hb hr Y hyl (fun v hv=>by have:=hy v hv;omega)
 have rt:=I0 g s.n hg hgb
 rw [lbI (show 0<=s.n by omega),F7] at rt
 cases hs:a1K s Y with
 |false=>
  have e:aA5 s g Y=.tup [frS J3,d9 false]:=by unfold aA5 a2q;rw [hs];rfl
  rw [e]
  rw [hs] at sn
  (refine ac Tryz.func30 ?_;(conv=>whnf);repeat ((first|refine b0x ?_|refine zy ?_);conv=>whnf))
  repeat' (first|refine zx ?_|refine qp sn ?_|refine qp rt ?_|refine zd ?_ ?_<;>intro h<;>try omega|fail)<;>conv=>whnf
  all_goals first
   |(exfalso;simp_all;done)
   |exact l9 ⟨⟨rfl,rfl,rfl,rfl,trivial⟩,rfl,trivial⟩
 |true=>
 rw [hs] at sn
 cases ht:d8 (-1) s.n g with
 |false=>
  have e:aA5 s g Y=.tup [frS J3,d9 false]:=by unfold aA5 a2q;rw [hs,ht];rfl
  rw [e]
  rw [ht] at rt
  (refine ac Tryz.func30 ?_;(conv=>whnf);repeat ((first|refine b0x ?_|refine zy ?_);conv=>whnf))
  repeat' (first|refine zx ?_|refine qp sn ?_|refine qp rt ?_|refine zd ?_ ?_<;>intro h<;>try omega|fail)<;>conv=>whnf
  all_goals first
   |(exfalso;simp_all;done)
   |exact l9 ⟨⟨rfl,rfl,rfl,rfl,trivial⟩,rfl,trivial⟩
 |true=>
 rw [ht] at rt
 have hl:Y.length=s.rows.length:=by
  unfold a1K at hs
  simp only [lbO,lbJ] at hs
  exact hs.1
 have hq:=hq hl
 have mx:=be6 s hb hr Y hq hn1
 have mr:=a5D s (yN Y) s.n.toNat
 have be:=b8j s.n (a0j s (yN Y) s.n.toNat) g (by rw [← h0n];exact mr) ht (by omega) (fun t ht=>by
  obtain ⟨v,h1,h2,rfl⟩:=a6V.1 ht
  have h3:rl (L2 s (yN Y) v)<=50000:=hq.n v s.rows.length
  show rl (L2 s (yN Y) v)<=60000
  omega) (fun t ht=>by have:=hgb t ht;omega)
 rw [b61 hr ht] at be
 have eb:a2q s g Y=(List.range s.n.toNat).all fun v=>decide (L2 s (yN Y) v<=w7 g v):=by unfold a2q;rw [hs,ht];simp
 unfold aA5
 rw [eb]
 generalize (List.range s.n.toNat).all (fun v=>decide (L2 s (yN Y) v<=w7 g v))=B at be
 cases B with
 |true=>
  rw [if_pos rfl]
  (refine ac Tryz.func30 ?_;(conv=>whnf);repeat ((first|refine b0x ?_|refine zy ?_);conv=>whnf))
  repeat' (first|refine zx ?_|refine qp sn ?_|refine qp rt ?_|refine qp mx ?_|refine qp be ?_|refine qp 5 ?_|refine bl0 [5] ?_|refine zd ?_ ?_<;>intro h<;>try omega|fail)<;>conv=>whnf
  all_goals first
   |(exfalso;simp_all;done)
   |exact l9 ⟨⟨rfl,rfl,rfl,rfl,trivial⟩,rfl,trivial⟩
 |false=>
  rw [if_neg (by decide)]
  (refine ac Tryz.func30 ?_;(conv=>whnf);repeat ((first|refine b0x ?_|refine zy ?_);conv=>whnf))
  repeat' (first|refine zx ?_|refine qp sn ?_|refine qp rt ?_|refine qp mx ?_|refine qp be ?_|refine qp 5 ?_|refine bl0 [5] ?_|refine zd ?_ ?_<;>intro h<;>try omega|fail)<;>conv=>whnf
  all_goals first
   |(exfalso;simp_all;done)
   |exact l9 ⟨⟨rfl,rfl,rfl,rfl,trivial⟩,rfl,trivial⟩
theorem al9 (s:d7) (hb:a0K s) (hr:g7 s=true) (y:List Fr) (hy:am3 y) (h:(decide (y.length=s.rows.length) && y.all o6)=false):
 a8 Tryz.prog 25 [K3 s,k8 y] [] (d9 false) []:=by
 have lo:=aL3 (a8Y s hb hr [] y hy h)
 (refine ac Tryz.func25 ?_;(conv=>whnf);repeat ((first|refine b0x ?_|refine zy ?_);conv=>whnf))
 repeat' (first|refine zx ?_|refine qp lo ?_|refine qp 5 ?_|refine bl0 [5] ?_|refine zd ?_ ?_<;>intro h<;>try omega|fail)<;>conv=>whnf
 all_goals first
  |(exfalso;simp_all;done)
  |exact b9 rfl
theorem b17 (s:d7) (hb:a0K s) (hr:g7 s=true) (hn1:s.n<=1000) (Y:List Rat) (hy:∀v ∈ Y,rl v<=40000) (hyl:Y.length<=1000000) (hq:Y.length=s.rows.length->a9f s Y):
 a8 Tryz.prog 25 [K3 s,k8 (Y.map fz)] [] (d9 (ad9 s Y)) []:=by
 have lo:=aL3 (aP3 s hb hr hn1 [] (by simp) (fun t ht=>by cases ht) Y hy hyl hq)
 unfold aA5 at lo
 unfold ad9
 cases hB:a2q s [] Y with
 |false=>
  rw [hB,if_neg (by decide)] at lo
  (refine ac Tryz.func25 ?_;(conv=>whnf);repeat ((first|refine b0x ?_|refine zy ?_);conv=>whnf))
  repeat' (first|refine zx ?_|refine qp lo ?_|refine qp 5 ?_|refine bl0 [5] ?_|refine zd ?_ ?_<;>intro h<;>try omega|fail)<;>conv=>whnf
  all_goals first
   |(exfalso;simp_all;done)
   |exact b9 rfl
 |true=>
  rw [hB,if_pos rfl] at lo
  have hl:Y.length=s.rows.length:=by
   unfold a2q a1K at hB
   simp only [lbO,lbJ] at hB
   exact hB.1.1.1
  have b:=(hq hl).v s.rows.length
  have b:rl (a0k s (yN Y))<=50000:=b
  have sg:=D9 (a0k s (yN Y)) (by omega)
  have sp:=a2S (x:=a0k s (yN Y))
  have e:decide (0<a0k s (yN Y))=decide (sgR (a0k s (yN Y)) > 0):=by rw [decide_eq_decide];exact sp.symm
  rw [e]
  generalize sgR (a0k s (yN Y))=U at sg
  clear sp e
  (refine ac Tryz.func25 ?_;(conv=>whnf);repeat ((first|refine b0x ?_|refine zy ?_);conv=>whnf))
  repeat' (first|refine zx ?_|refine qp lo ?_|refine qp sg ?_|refine qp 5 ?_|refine bl0 [5] ?_|refine zd ?_ ?_<;>intro h<;>try omega|fail)<;>conv=>whnf
  all_goals first
   |(exfalso;simp_all;done)
   |(refine b9 ?_;rw [F7];first|exact (lbI (by omega)).symm|exact (lbK (by omega)).symm)
end Go.Proofs.YtpjgpclheebhkaaGreat
