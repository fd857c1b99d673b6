/- Part 6. -/
import Derived.Test.YtdbogogfeffjlaaGreatSsB5
namespace Go.Proofs.YtdbogogfeffjlaaGreat
set_option linter.unusedVariables false
set_option linter.unusedSimpArgs false
set_option maxRecDepth 100000
open St1 St2 St3 St4 St5 St6
section
open Go.RowKit
def kn1 (e:Ev) (k i:Nat):List T:=
 let h:=if i<k then hiF (a0K e i) else C2
 [ti h.p.sg,I8 h.p.dl,ti h.q.sg,I8 h.q.dl,tb (decide (i<k) && (a0K e i).isSome),.sl 0 .nil [],ti 0]
abbrev knB (rows:List (List T)):Blk:={ mode:=.live,elem:=119,size:=7,rows:=toC rows,box:=false }
theorem ap8 {e:Ev} {k i:Nat} (h:i≠k):kn1 e (k+1) i=kn1 e k i:=by
 unfold kn1
 by_cases h1:i<k
 ·simp only [if_pos h1,if_pos (show i<k+1 by omega),h1,show i<k+1 by omega]
 ·simp only [if_neg h1,if_neg (show ¬i<k+1 by omega),h1,show ¬i<k+1 by omega]
theorem aI4 {e:Ev} {k n:Nat} (h:k<n):(toC ((List.range n).map (kn1 e k))).set k ((kn1 e (k+1) k).map C.t)=toC ((List.range n).map (kn1 e (k+1))):=by
 apply List.ext_getElem?
 intro i
 unfold toC
 rw [List.getElem?_set,List.getElem?_map,List.getElem?_map,List.getElem?_map]
 by_cases hi:k=i
 ·subst hi
  rw [if_pos rfl]
  simp [h]
 ·rw [if_neg hi,List.getElem?_map]
  cases hr:(List.range n)[i]? with
  |none=>rfl
  |some j=>
   have:j=i:=by
    obtain ⟨h1,h2⟩:=lg1 hr
    simp at h2;omega
   subst this
   show some ((kn1 e k j).map C.t)=some ((kn1 e (k+1) j).map C.t)
   rw [ap8 (fun h=>hi h.symm)]
theorem at4 {e:Ev} {k:Nat} (h:a0K e k=none):kn1 e (k+1) k=kn1 e k k:=by
 unfold kn1
 simp only [if_pos (show k<k+1 by omega),if_neg (show ¬k<k by omega),h]
 simp [hiF]
theorem af2 {e:Ev} {k n:Nat} (h:a0K e k=none):(List.range n).map (kn1 e (k+1))=(List.range n).map (kn1 e k):=List.map_congr_left fun i _=>by
 by_cases hi:i=k
 ·subst hi;exact at4 h
 ·exact ap8 hi
theorem b0H {e:Ev} {n:Nat} {ρ:List (Option Nat)} {H:Hp}:a4H ρ H (List.replicate n [C.t (ti 0),C.t (.sl 0 .nil []),C.t (ti 0),C.t (.sl 0 .nil []),C.t (tb false),C.t (.sl 0 .nil []),C.t (ti 0)]) (toC ((List.range n).map (kn1 e 0))):=by
 refine a5x (by simp [toC]) fun i x y hx hy=>?_
 have hi:i<n:=by have:=(lg1 hx).1;simpa using this
 rw [List.getElem?_replicate,if_pos hi] at hx
 injection hx with hx
 subst hx
 unfold toC at hy
 rw [List.getElem?_map,List.getElem?_map,List.getElem?_range hi] at hy
 injection hy with hy
 subst hy
 show a2g _ _ _ ((kn1 e 0 i).map C.t)
 unfold kn1
 simp only [if_neg (show ¬i<0 by omega)]
 exact ⟨rfl,rfl,rfl,rfl,rfl,rfl,rfl,trivial⟩
def knA (e:Ev) (i:Nat):List T:=[ti (hiF (a0K e i)).p.sg,I8 (hiF (a0K e i)).p.dl,ti (hiF (a0K e i)).q.sg,I8 (hiF (a0K e i)).q.dl,tb (a0K e i).isSome]
def C3 (t:l9) (kind:Int) (k i:Nat):List Int:=i9 (t.finds.take k) kind i
theorem a5l (l:List T1) (f:T1) (kind:Int) (i:Nat):i9 (l++[f]) kind i=if f.kind=kind∧f.mv=(i:Int) then i9 l kind i++[f.grams] else i9 l kind i:=by
 rw [a5v];split<;>simp
theorem P5 {α:Type} {l:List α} {k:Nat} {x:α} (h:l[k]? =some x):l.take (k+1)=l.take k++[x]:=by rw [List.take_add_one,h];rfl
def kn3 (t:l9) (kind:Int) (k i:Nat):List T:=knA t.ev i++I8 (i9 t.finds kind i)::[ti (n8 (t.cleans.take k) kind i)]
theorem b3P (t:l9) (kind:Int) (k i:Nat):n8 (t.cleans.take k) kind i≤t.cleans.length:=Nat.le_trans (List.length_filter_le _ _) (by simp;omega)
theorem b2U {t:l9} {kind:Int} {n:Nat}:(List.range n).map (kn3 t kind t.cleans.length)=(List.range n).map (Q6 t kind):=List.map_congr_left fun i _=>by
 unfold kn3;rw [lg4 (Nat.le_refl _)];rfl
theorem aS8 {t:l9} {kind:Int} {n k:Nat} {c:K2} (h:t.cleans[k]? =some c) (hk:c.kind≠kind):(List.range n).map (kn3 t kind (k+1))=(List.range n).map (kn3 t kind k):=List.map_congr_left fun i _=>by
 unfold kn3
 rw [P5 h,X9,if_neg (fun h=>hk h.1)];rfl
theorem b1i {t:l9} {kind:Int} {n k m:Nat} {c:K2} (hm:m<n) (h:t.cleans[k]? =some c) (hk:c.kind=kind) (hmv:c.mv=m):
 (toC ((List.range n).map (kn3 t kind k))).set m ((knA t.ev m++I8 (i9 t.finds kind m)::[ti ((n8 (t.cleans.take k) kind m:Int)+1)]).map C.t)=toC ((List.range n).map (kn3 t kind (k+1))):=by
 have key:∀i,i<n→i≠m→kn3 t kind (k+1) i=kn3 t kind k i:=fun i _ hi=>by
  unfold kn3
  rw [P5 h,X9,if_neg (fun h=>hi (by omega))];rfl
 have own:kn3 t kind (k+1) m=knA t.ev m++I8 (i9 t.finds kind m)::[ti ((n8 (t.cleans.take k) kind m:Int)+1)]:=by
  unfold kn3
  rw [P5 h,X9,if_pos ⟨hk,hmv⟩];rfl
 rw [← own]
 unfold toC
 rw [← List.map_set]
 congr 1
 apply List.ext_getElem?
 intro i
 simp only [List.getElem?_set,List.getElem?_map,List.length_map,List.length_range]
 by_cases hi:m=i
 ·subst hi;simp [hm]
 ·rw [if_neg hi]
  by_cases hin:i<n
  ·rw [List.getElem?_range hin]
   show some _=some _
   rw [key i hin (fun h=>hi h.symm)]
  ·rw [List.getElem?_eq_none (by simp;omega)];rfl
theorem aV3 {l:List Int} {x:Int}:List.take l.length (toC (l.map g9))++toC [[ti x]]=toC ((l++[x]).map g9):=by
 rw [lg4 (by simp [toC])]
 simp [toC,g9]
set_option maxHeartbeats 4000000 in
theorem b24 (t:l9) (kind:Int) (hs:t.Sized) (h0:y3 t.ev=0) (hf:∀f ∈ t.finds,0≤f.mv∧f.mv<t.ev.moves.length) (hc:∀c ∈ t.cleans,0≤c.mv∧c.mv<t.ev.moves.length):
 b9 Tryz.prog 67 [trS t,a9 .i64 kind] [] (.c (.t (a1n t kind))) []:=by
 obtain ⟨b1,b2,b3,b4⟩:=T4 h0
 have l1:=hs.f
 have l2:=hs.c
 have m0:(t.ev.moves.map p7.row).length=t.ev.moves.length:=by simp
 have m1:(t.finds.map T1.row).length=t.finds.length:=by simp
 have m2:(t.cleans.map K2.row).length=t.cleans.length:=by simp
 have s3:=hs.ev.s3
 have s4:=hs.ev.s4
 (refine a8 a7 Tryz.func67 rfl (by decide) ?_;(conv=>whnf);repeat ((first|refine b0x ?_|refine zy ?_);conv=>whnf))
 repeat' first|(refine zd ?_ ?_<;>intro h<;>first|exact zc h|(exfalso;omega)|conv=>whnf)|((first|refine zz ?_|refine a3n (by omega) (by omega) (by omega) (by decide) ?_|refine zy ?_);conv=>whnf)
 refine f6 a7 (fun k=>([J,a9 .i64 kind,S.c (C.t (T.ptr (trT t))),J,J,S.c (C.ptr 0 0 0),S.c (C.own 1 0 t.ev.moves.length true),J,J,J,J,J,J,J,J,J,J,J,J,J,S.c (C.t (a20 t.ev.moves)),a9 .i64 t.ev.moves.length,a9 .i64 k,J,J,J,J,J,J,J,J,J,J,J,J,J,J,J,J,J,J,J,J,J,J,J,J,J,J,J,J,J,J,J,J,J,J,J,J,J,J,J,J,J,J,J,J,J,J,J,J,J,J,J,J,J,J,J,J,J,J,J,J,J,J,J,J,J,J,J,J,J,J,J,J,J,J,J,J,J,J,J,J],[evB t.ev,knB ((List.range t.ev.moves.length).map (kn1 t.ev k))])) t.ev.moves.length (fun _=>True) [some 0,some 1] trivial ?_ ?_
 ·refine ⟨rfl,rfl,⟨⟨rfl,rfl,rfl,.inl ⟨rfl,k8 _⟩⟩,⟨rfl,rfl,rfl,.inr ?_⟩,trivial⟩,⟨rfl,rfl,⟨rfl,rfl,rfl⟩,⟨rfl,rfl,?_,fun h=>h⟩,rfl,c9 (by simp),rfl,trivial⟩⟩
  ·have e9:((((t.ev.moves.map p7.row).length:Nat):Int)).toNat=t.ev.moves.length:=by omega
   rw [← e9]
   exact b0H
  ·omega
 intro k hk _
 by_cases hlt:k<t.ev.moves.length
 ·obtain ⟨x,hx⟩:∃x,t.ev.moves[k]? =some x:=⟨_,lg0 hlt⟩
  have iv:=aw3 t.ev.certs t.ev.recalls (by omega) (by omega) x.scale x.reading x.day
  have eK:0+(k:Int).toNat=k:=by omega
  have hk0:(List.range t.ev.moves.length)[0+(k:Int).toNat]? =some k:=by rw [eK,List.getElem?_range hlt]
  have gs:∀c,((knB ((List.range t.ev.moves.length).map (kn1 t.ev k))).rows.set (0+(k:Int).toNat) c)[0+(k:Int).toNat]? =some c:=fun c=>by
   rw [List.getElem?_set_self]
   show _<(toC _).length
   simp [toC];omega
  by_cases hsc:x.scale=-1
  ·have hn:a0K t.ev k=none:=by rw [ak2 hx];unfold D3;rw [if_pos hsc]
   have e1:=af2 (n:=t.ev.moves.length) hn
   conv=>whnf
   repeat' first|(refine zd ?_ ?_<;>intro h<;>first|exact zc h|(exfalso;omega)|conv=>whnf)|((first|refine zz ?_|refine d7 hx ?_|refine zy ?_);conv=>whnf)
   all_goals try (exfalso;omega)
   refine ⟨hlt,trivial,[some 0,some 1],rfl,rfl,⟨⟨rfl,rfl,rfl,.inl ⟨rfl,k8 _⟩⟩,b8 rfl rfl rfl ?_ rfl,trivial⟩,⟨rfl,rfl,⟨rfl,rfl,rfl⟩,⟨rfl,rfl,rfl,fun h=>h⟩,rfl,rfl,rfl,trivial⟩⟩
   rw [e1]
  ·have hiv:a0K t.ev k=K5 t.ev.certs t.ev.recalls x.scale x.reading x.day:=by rw [ak2 hx];unfold D3;rw [if_neg hsc]
   rw [← hiv] at iv
   cases hi:a0K t.ev k with
   |none=>
    rw [hi] at iv
    have er:(kn1 t.ev (k+1) k).map C.t=frC C2++[C.t (tb false),C.t (.sl 0 .nil []),C.t (ti 0)]:=by rw [at4 hi];simp [kn1]
    conv=>whnf
    repeat' first|(refine zd ?_ ?_<;>intro h<;>first|exact zc h|(exfalso;omega)|conv=>whnf)|((first|refine zz ?_|refine qp iv ?_|refine qp (2,3,18) ?_|refine d7 hx ?_|refine o6 hk0 ?_|refine ⟨_,gs _,?_⟩|refine bl0 [2,3,18] ?_|refine zy ?_);conv=>whnf)
    all_goals try (exfalso;omega)
    refine ⟨hlt,trivial,[some 0,some 1],rfl,rfl,⟨⟨rfl,rfl,rfl,.inl ⟨rfl,k8 _⟩⟩,b8 rfl rfl rfl ?_ rfl,trivial⟩,⟨rfl,rfl,⟨rfl,rfl,rfl⟩,⟨rfl,rfl,rfl,fun h=>h⟩,rfl,rfl,rfl,trivial⟩⟩
    have e2:=aI4 (e:=t.ev) hlt
    rw [er] at e2
    rw [← e2]
    show ((toC _).set (0+(k:Int).toNat) _).set (0+(k:Int).toNat) _=_
    rw [List.set_set,eK]
    rfl
   |some p=>
    obtain ⟨lo,hi'⟩:=p
    rw [hi] at iv
    have er:(kn1 t.ev (k+1) k).map C.t=frC (fz hi')++[C.t (tb true),C.t (.sl 0 .nil []),C.t (ti 0)]:=by simp [kn1,hi,hiF]
    conv=>whnf
    repeat' first|(refine zd ?_ ?_<;>intro h<;>first|exact zc h|(exfalso;omega)|conv=>whnf)|((first|refine zz ?_|refine qp iv ?_|refine qp (2,3,18) ?_|refine d7 hx ?_|refine o6 hk0 ?_|refine ⟨_,gs _,?_⟩|refine bl0 [2,3,18] ?_|refine zy ?_);conv=>whnf)
    all_goals try (exfalso;omega)
    refine ⟨hlt,trivial,[some 0,some 1],rfl,rfl,⟨⟨rfl,rfl,rfl,.inl ⟨rfl,k8 _⟩⟩,b8 rfl rfl rfl ?_ rfl,trivial⟩,⟨rfl,rfl,⟨rfl,rfl,rfl⟩,⟨rfl,rfl,rfl,fun h=>h⟩,rfl,rfl,rfl,trivial⟩⟩
    have e2:=aI4 (e:=t.ev) hlt
    rw [er] at e2
    rw [← e2]
    show ((toC _).set (0+(k:Int).toNat) _).set (0+(k:Int).toNat) _=_
    rw [List.set_set,eK]
    rfl
 ·conv=>whnf
  repeat' first|(refine zd ?_ ?_<;>intro h<;>first|exact zc h|(exfalso;omega)|conv=>whnf)|((first|refine zz ?_|refine zy ?_);conv=>whnf)
  all_goals try (exfalso;omega)
  have e0:C3 t kind 0=fun _=>[]:=by funext i;simp [C3,i9]
  refine f6 a7 (fun k=>([J,a9 .i64 kind,S.c (C.t (T.ptr (trT t))),J,J,J,S.c (C.own 0 0 t.ev.moves.length true),J,J,J,J,J,J,J,J,J,J,J,J,J,J,J,J,J,J,J,J,J,J,J,J,J,J,J,J,J,J,J,J,J,J,J,J,J,J,J,J,J,J,J,J,J,J,J,J,S.c (C.t (a8j t.finds)),a9 .i64 t.finds.length,a9 .i64 k,J,J,J,J,J,J,J,J,J,J,J,J,J,J,J,J,J,J,J,J,J,J,J,J,J,J,J,J,J,J,J,J,J,J,J,J,J,J,J,J,J,J,J,J,J],T5 119 7 t.ev.moves.length (knA t.ev) (C3 t kind k) (fun _=>[ti 0]))) t.finds.length (fun _=>True) (aB7 1 t.ev.moves.length) trivial ?_ ?_
  ·have hke:k=t.ev.moves.length:=by omega
   subst hke
   refine (?_:Ent 0 (aB7 1 t.ev.moves.length) _ _ _ (T5 119 7 t.ev.moves.length (knA t.ev) (C3 t kind 0) (fun _=>[ti 0])))
   rw [e0]
   refine b2J (k0:=knB ((List.range t.ev.moves.length).map (kn1 t.ev t.ev.moves.length))) (s:=0) rfl ⟨rfl,rfl,rfl,rfl⟩ ?_ ?_
   ·show toC _=_
    unfold toC
    rw [List.map_map]
    refine List.map_congr_left fun i hi=>?_
    have:=List.mem_range.1 hi
    simp [kn1,knA,this]
   ·exact ⟨rfl,rfl,⟨rfl,rfl,rfl,fun h=>h⟩,j0 rfl,c9 (by simp),rfl,trivial⟩
  intro j hj _
  by_cases hjt:j<t.finds.length
  ·obtain ⟨f,hfj⟩:∃f,t.finds[j]? =some f:=⟨_,lg0 hjt⟩
   obtain ⟨f1,f2⟩:=hf f (lg2 hfj)
   obtain ⟨m,hm⟩:∃m:Nat,f.mv=m:=⟨f.mv.toNat,by omega⟩
   have hmn:m<t.ev.moves.length:=by omega
   have eM:0+f.mv.toNat=m:=by omega
   have rL:(List.range t.ev.moves.length).length=t.ev.moves.length:=by simp
   have rG:(List.range t.ev.moves.length)[m]? =some m:=List.getElem?_range hmn
   have gR:(a1s t.ev.moves.length (knA t.ev) (C3 t kind j) (fun _=>[ti 0]))[0+f.mv.toNat]? =some (au1 (knA t.ev) (C3 t kind j) (fun _=>[ti 0]) (m+1) m):=by rw [eM];exact a1H hmn
   have gl:(C3 t kind j m).length≤t.finds.length:=by
    unfold C3 i9
    rw [List.length_map]
    exact Nat.le_trans (List.length_filter_le _ _) (by simp;omega)
   have hbox:∀(fB:Nat→Blk) (dead nb fb:Blk),(((((List.range t.ev.moves.length).map fB++[fb]).set m dead)++[nb])[t.ev.moves.length]?)=some fb:=fun fB dead nb fb=>by
    rw [List.getElem?_append_left (by simp),List.getElem?_set,if_neg (by omega),List.getElem?_append_right (by simp)]
    simp
   have hnew:∀(fB:Nat→Blk) (dead nb fb:Blk),(((((List.range t.ev.moves.length).map fB++[fb]).set m dead)++[nb])[t.ev.moves.length+1]?)=some nb:=fun fB dead nb fb=>by
    rw [List.getElem?_append_right (by simp)]
    simp
   have hold:∀(fB:Nat→Blk) (dead nb fb:Blk) (p:Nat),p<t.ev.moves.length→p≠m→(((((List.range t.ev.moves.length).map fB++[fb]).set m dead)++[nb])[p]?)=some (fB p):=fun fB dead nb fb p hp hpm=>by
    rw [List.getElem?_append_left (by simp;omega),List.getElem?_set,if_neg (by omega),List.getElem?_append_left (by simpa using hp),List.getElem?_map,List.getElem?_range hp];rfl
   by_cases hkd:f.kind=kind
   ·conv=>whnf
    repeat' first|(refine zd ?_ ?_<;>intro h<;>first|exact zc h|(exfalso;omega)|conv=>whnf)|((first|refine zz ?_|refine qp toC ?_|refine qp toC ?_|refine qp (0,1,2) ?_|refine d7 hfj ?_|refine k5 rL ?_|refine a3b rL ?_|refine C4 ?_|refine a2q ?_|refine ⟨_,gR,?_⟩|refine a7a (hbox _ _ _ _) ?_|refine S7 rG ?_|refine am9 rG ?_|refine A7 rL ?_|refine i5 rL ?_|refine a65 rL ?_|refine i6 rL ?_|refine ad8 ?_|refine t9 (by simp [toC]) (by simp [toC];omega) ?_|refine bl0 [0,1,2] ?_|refine zy ?_);conv=>whnf)
    all_goals try (exfalso;omega)
    refine ⟨hjt,trivial,a6O t.ev.moves.length m (t.ev.moves.length+2),?_⟩
    refine (?_:Ent 0 (a6O t.ev.moves.length m (t.ev.moves.length+2)) _ _ _ (T5 119 7 t.ev.moves.length (knA t.ev) (C3 t kind (j+1)) (fun _=>[ti 0])))
    have eg:C3 t kind (j+1)=a2U (C3 t kind j) m (C3 t kind j m++[f.grams]):=by
     funext i
     unfold C3 a2U
     rw [P5 hfj,a5l]
     by_cases hi:i=m
     ·subst hi;rw [if_pos ⟨hkd,hm⟩,if_pos rfl]
     ·rw [if_neg (fun h=>hi (by omega)),if_neg hi]
    rw [eg]
    refine b0G hmn (by omega) rfl ⟨rfl,rfl,rfl,rfl⟩ ?_ ?_ ?_ ?_
    ·show (a1s _ _ _ _).set (0+f.mv.toNat) _=_
     rw [eM,List.length_append]
     rfl
    ·intro p hp hpm
     exact hold _ _ _ _ p hp hpm
    ·refine (hnew _ _ _ _).trans ?_
     show some (Blk.mk .live _ 1 (List.take _ (toC ((C3 t kind j m).map g9))++toC [[ti f.grams]]) false false)=_
     rw [aV3]
    ·exact ⟨rfl,rfl,⟨by rw [S5 (by omega)];rfl,rfl,rfl,fun h=>h⟩,rfl,rfl,rfl,trivial⟩
   ·conv=>whnf
    repeat' first|(refine zd ?_ ?_<;>intro h<;>first|exact zc h|(exfalso;omega)|conv=>whnf)|((first|refine zz ?_|refine d7 hfj ?_|refine k5 rL ?_|refine a3b rL ?_|refine C4 ?_|refine a2q ?_|refine A7 rL ?_|refine i5 rL ?_|refine a65 rL ?_|refine i6 rL ?_|refine zy ?_);conv=>whnf)
    all_goals try (exfalso;omega)
    refine ⟨hjt,trivial,idR (t.ev.moves.length+1),?_⟩
    refine (?_:Ent 0 (idR (t.ev.moves.length+1)) _ (T5 119 7 t.ev.moves.length (knA t.ev) (C3 t kind j) (fun _=>[ti 0])++_) _ (T5 119 7 t.ev.moves.length (knA t.ev) (C3 t kind (j+1)) (fun _=>[ti 0])))
    have eg:C3 t kind (j+1)=C3 t kind j:=by
     funext i
     unfold C3
     rw [P5 hfj,a5l,if_neg (fun h=>hkd h.1)]
    rw [eg]
    exact aR6 ⟨rfl,rfl,⟨n6 (by omega),rfl,rfl,fun h=>h⟩,rfl,rfl,rfl,trivial⟩
  ·have hje:j=t.finds.length:=by omega
   subst hje
   have rL:(List.range t.ev.moves.length).length=t.ev.moves.length:=by simp
   conv=>whnf
   repeat' first|(refine zd ?_ ?_<;>intro h<;>first|exact zc h|(exfalso;omega)|conv=>whnf)|((first|refine zz ?_|refine C4 ?_|refine a2q ?_|refine a3b rL ?_|refine zy ?_);conv=>whnf)
   all_goals try (exfalso;omega)
   have eg:C3 t kind t.finds.length=i9 t.finds kind:=by funext i;unfold C3;rw [lg4 (Nat.le_refl _)]
   rw [eg]
   refine f6 a7 (fun k=>([J,a9 .i64 kind,J,J,J,J,S.c (C.own 0 0 t.ev.moves.length true),J,J,J,J,J,J,J,J,J,J,J,J,J,J,J,J,J,J,J,J,J,J,J,J,J,J,J,J,J,J,J,J,J,J,J,J,J,J,J,J,J,J,J,J,J,J,J,J,J,J,J,J,J,J,J,J,J,J,J,J,J,J,J,J,J,J,J,J,J,J,J,J,J,J,J,S.c (C.t (a5s t.cleans)),a9 .i64 t.cleans.length,a9 .i64 k,J,J,J,J,J,J,J,J,J,J,J,J,J,J,J,J,J,J],[knB ((List.range t.ev.moves.length).map (kn3 t kind k))])) t.cleans.length (fun _=>True) [some 0] trivial ?_ ?_
   ·exact aZ3 (g:=i9 t.finds kind) ⟨rfl,⟨rfl,rfl,rfl,fun h=>h⟩,j0 rfl,c9 (by simp),rfl,trivial⟩
   intro q hq _
   by_cases hqt:q<t.cleans.length
   ·obtain ⟨c,hcq⟩:∃c,t.cleans[q]? =some c:=⟨_,lg0 hqt⟩
    obtain ⟨g1,g2⟩:=hc c (lg2 hcq)
    obtain ⟨m,hm⟩:∃m:Nat,c.mv=m:=⟨c.mv.toNat,by omega⟩
    have hmn:m<t.ev.moves.length:=by omega
    have eM:0+c.mv.toNat=m:=by omega
    have hk0:(List.range t.ev.moves.length)[0+c.mv.toNat]? =some m:=by rw [eM];exact List.getElem?_range hmn
    have cb:=b3P t kind q m
    by_cases hkd:c.kind=kind
    ·conv=>whnf
     repeat' first|(refine zd ?_ ?_<;>intro h<;>first|exact zc h|(exfalso;omega)|conv=>whnf)|((first|refine zz ?_|refine d7 hcq ?_|refine o6 hk0 ?_|refine zy ?_);conv=>whnf)
     all_goals try (exfalso;omega)
     refine ⟨hqt,trivial,[some 0],rfl,rfl,⟨b8 rfl rfl rfl ?_ rfl,trivial⟩,⟨rfl,⟨rfl,rfl,rfl,fun h=>h⟩,rfl,rfl,rfl,trivial⟩⟩
     show (toC _).set (0+c.mv.toNat) _=_
     rw [eM,←b1i hmn hcq hkd hm]
     rfl
    ·have e3:=aS8 (t:=t) (kind:=kind) (n:=t.ev.moves.length) hcq hkd
     conv=>whnf
     repeat' first|(refine zd ?_ ?_<;>intro h<;>first|exact zc h|(exfalso;omega)|conv=>whnf)|((first|refine zz ?_|refine d7 hcq ?_|refine o6 hk0 ?_|refine zy ?_);conv=>whnf)
     all_goals try (exfalso;omega)
     refine ⟨hqt,trivial,[some 0],rfl,rfl,⟨b8 rfl rfl rfl ?_ rfl,trivial⟩,⟨rfl,⟨rfl,rfl,rfl,fun h=>h⟩,rfl,rfl,rfl,trivial⟩⟩
     rw [e3]
   ·have hqe:q=t.cleans.length:=by omega
    subst hqe
    conv=>whnf
    repeat' first|(refine zd ?_ ?_<;>intro h<;>first|exact zc h|(exfalso;omega)|conv=>whnf)|((first|refine zz ?_|refine zy ?_);conv=>whnf)
    all_goals try (exfalso;omega)
    rw [b2U]
    exact N4 (k:=knB ((List.range t.ev.moves.length).map (Q6 t kind))) rfl (by intro h;cases h) rfl rfl (by simp)
end
section
open Go.RowKit
abbrev J6 (l:List (Int × Rat)):Blk:={ mode:=.live,elem:=132,size:=5,rows:=toC (l.map k6),box:=false }
abbrev P4 (l:List x7):Blk:={ mode:=.live,elem:=143,size:=6,rows:=toC (l.map s7),box:=false }
abbrev a2D (n:Int) (id len:Nat):Blk:={ mode:=.live,elem:=70,size:=2,rows:=[[.t (ti n),.own id 0 len true]],box:=true }
abbrev b37 (id len:Nat) (kind:Int):Blk:={ mode:=.live,elem:=143,size:=6,rows:=[.own id 0 len true::.t (ti kind)::frC (fz zR)],box:=true }
abbrev b1Y (x:p7):Blk:={ mode:=.live,elem:=79,size:=6,rows:=[x.row.map .t],box:=true }
theorem a1R (x:p7):E8 [x.row.map C.t]:=by simp [E8,p7.row,C.isT]
abbrev b3k:Blk:={ mode:=.live,elem:=143,size:=6,rows:=[.t (aj9 [])::.t (ti 0)::frC C2],box:=true }
abbrev aF7 (el:TypeId) (size:Nat):Blk:=⟨.dead,el,size,[],false,false⟩
theorem a0f {l:List x7} {w:x7} {n:Nat} (h:n=l.length):List.take n (toC (l.map s7))++toC [s7 w]=toC ((l++[w]).map s7):=by
 rw [lg4 (by simp [toC,h])]
 simp [toC]
set_option maxHeartbeats 4000000 in
theorem b4k (n:Int) (rows:List x7) (hr:rows.length≤1000000) (mv:Nat) (kind:Int) (v:Rat):
 b9 Tryz.prog 128 [a9 .i64 mv,a9 .i64 kind,frS (fz v),.c (.ptr 0 0 0)] [a2D n 1 rows.length,P4 rows] (.tup []) [a2D n 2 (rows.length+1),aF7 143 6,P4 (rows++[p9 mv kind v])]:=by
 have i1:=E4 1 (by decide) (by decide)
 (refine a8 a7 Tryz.func128 rfl (by decide) ?_;(conv=>whnf);repeat ((first|refine b0x ?_|refine zy ?_);conv=>whnf))
 repeat' first|(refine zd ?_ ?_<;>intro h<;>first|exact zc h|(exfalso;omega)|conv=>whnf)|((first|refine zz ?_|refine qp i1 ?_|refine qp toC ?_|refine qp toC ?_|refine a3i.weak ?_|refine t9 (by simp [toC]) (by simp [toC];omega) ?_|refine zy ?_);conv=>whnf)
 refine ⟨⟨[some 0,some 1,some 2],rfl,rfl,⟨⟨rfl,rfl,rfl,.inr ⟨⟨rfl,⟨rfl,rfl,rfl,fun h=>h⟩,trivial⟩,trivial⟩⟩,⟨rfl,rfl,rfl,.inl ⟨rfl,by simp [E8]⟩⟩,b8 rfl rfl rfl ?_ rfl,trivial⟩,trivial⟩⟩
 show List.take rows.length (toC (rows.map s7))++toC [s7 (p9 mv kind v)]=_
 exact a0f rfl
theorem b3Z {H:Hp} {id:Nat} {n:Int} {rows:List x7} (hs:H[2]? =some (a2D n id rows.length)) (hid:H[id]? =some (P4 rows)) (hne:id≠2) (hr:rows.length≤1000000) (mv:Nat) (kind:Int) (v:Rat):
 b9 Tryz.prog 128 [a9 .i64 mv,a9 .i64 kind,frS (fz v),.c (.ptr 2 0 0)] H (.tup []) (((H.set 2 (a2D n H.length (rows.length+1))).set id (aF7 143 6))++[P4 (rows++[p9 mv kind v])]):=by
 have h2:2<H.length:=(lg1 hs).1
 have hi:id<H.length:=(lg1 hid).1
 have ex:a2d [2,id] H.length 1=[2,id,H.length]:=by simp [a2d]
 refine N9 [2,id] (b4k n rows hr mv kind v) rfl rfl rfl (by simp;omega) ?_ ?_ (by simp) rfl rfl (by simp) ?_ ?_
 ·intro i k hk
  match i,hk with
  |0,hk=>
   injection hk with hk
   subst hk
   exact ⟨rfl,rfl,by simp [okL,okC],_,hs,⟨rfl,rfl,rfl,rfl,by simp [a6q,a0y,T2]⟩⟩
  |1,hk=>
   injection hk with hk
   subst hk
   exact ⟨rfl,rfl,a27 _,_,hid,C0 rfl⟩
 ·intro k hk
  simp at hk
  rcases hk with rfl|rfl|rfl<;>(intro h;cases h)
 ·intro i k hk
  show ∃k',_[(a2d [2,id] H.length 1).getD i 0]? =some k'∧ag4 (a2d [2,id] H.length 1) k k'
  rw [ex]
  match i,hk with
  |0,hk=>
   injection hk with hk
   subst hk
   refine ⟨a2D n H.length (rows.length+1),?_,⟨rfl,rfl,rfl,rfl,by simp [a6q,a0y,T2]⟩⟩
   show (_++_)[2]? =_
   rw [List.getElem?_append_left (by simp;omega),List.getElem?_set,if_neg (by omega),List.getElem?_set,if_pos rfl,if_pos h2]
  |1,hk=>
   injection hk with hk
   subst hk
   refine ⟨aF7 143 6,?_,⟨rfl,rfl,rfl,rfl,rfl⟩⟩
   show (_++_)[id]? =_
   rw [List.getElem?_append_left (by simp;omega),List.getElem?_set,if_pos rfl,if_pos (by simp;omega)]
  |2,hk=>
   injection hk with hk
   subst hk
   refine ⟨P4 (rows++[p9 mv kind v]),?_,C0 rfl⟩
   show (_++_)[H.length]? =_
   rw [List.getElem?_append_right (by simp)]
   simp
 ·intro j hj hjn
  simp at hjn
  rw [List.getElem?_append_left (by simp;omega),List.getElem?_set,if_neg (by omega),List.getElem?_set,if_neg (by omega)]
theorem a0m {l:List (Int × Rat)} {w:Int × Rat} {n:Nat} (h:n=l.length):List.take n (toC (l.map k6))++toC [k6 w]=toC ((l++[w]).map k6):=by
 rw [lg4 (by simp [toC,h])]
 simp [toC]
theorem P3 {e:Ev} {p:Int} {k:Nat} {y:p7} (h:e.moves[k]? =some y):j4 e p (k+1)=if y.dst=p then j4 e p k++[((k:Int),((1:Int):Rat))] else if y.src=p then j4 e p k++[((k:Int),((-1:Int):Rat))] else j4 e p k:=by rw [j4,h]
theorem Y9 {e:Ev} {p:Int}:∀k,(j4 e p k).length≤k
 |0=>by simp [j4]
 |k+1=>by
  have ih:=Y9 (e:=e) (p:=p) k
  unfold j4
  cases e.moves[k]? with
  |none=>simp only;omega
  |some y=>
   simp only
   split
   ·simp;omega
   ·split
    ·simp;omega
    ·omega
set_option maxHeartbeats 4000000 in
theorem b2A (e:Ev) (h0:y3 e=0) {i:Nat} {x:p7} (hx:e.moves[i]? =some x):b9 Tryz.prog 129 [evS e,a9 .i64 i] [] (as2 (q9 e i x)) []:=by
 obtain ⟨b1,b2,b3,b4⟩:=T4 h0
 have hi:i<e.moves.length:=(lg1 hx).1
 have m0:(e.moves.map p7.row).length=e.moves.length:=by simp
 have i0:=E4 0 (by decide) (by decide)
 have i1:=E4 1 (by decide) (by decide)
 have im:=E4 (-1) (by decide) (by decide)
 have tk:(e.moves.map p7.row).take i=(e.moves.take i).map p7.row:=(List.map_take ..).symm
 have tl:(e.moves.take i).length=i:=by simp;omega
 have mt:((e.moves.take i).map p7.row).length=i:=by simp;omega
 cases hal:x.all
 case' false=>have hK:(q9 e i x).kind=0:=by unfold q9;rw [hal];rfl
 case' true=>have hK:(q9 e i x).kind=2:=by unfold q9;rw [hal];rfl
 all_goals
  (refine a8 a7 Tryz.func129 rfl (by decide) ?_;(conv=>whnf);repeat ((first|refine b0x ?_|refine zy ?_);conv=>whnf))
  repeat' first|(refine zd ?_ ?_<;>intro h<;>first|exact zc h|(exfalso;omega)|conv=>whnf)|((first|refine zz ?_|refine qp i0 ?_|refine d7 hx ?_|refine a0D (by omega) (by omega) (by omega) ?_|refine zy ?_);conv=>whnf)
  all_goals first
   |(exfalso;omega)
   |(exfalso;simp_all;done)
   |skip
  refine f6 a7 (fun k=>([J,a9 .i64 i,J,J,S.c (C.ptr 0 0 0),S.c (C.ptr 1 0 0),S.c (C.ptr 2 0 0),J,J,J,J,J,J,J,J,J,J,J,J,J,J,J,S.c (C.t (a20 (e.moves.take i))),a9 .i64 i,a9 .i64 k,J,J,J,J,J,J,J,J,J,J,J,J,J,J,J,J,J,J,J,J,J,J,J,J,J,J,J,J,J,J,J,J,J,J,J,J,J,J,J,J],[b3k,b1Y x,b37 3 (j4 e x.src k).length (q9 e i x).kind,J6 (j4 e x.src k)])) i (fun _=>True) [some 0,some 1,some 2,none] trivial ?_ ?_
  ·rw [hK]
   refine ⟨rfl,rfl,⟨⟨rfl,rfl,rfl,.inr ⟨⟨rfl,rfl,rfl,rfl,rfl,rfl,trivial⟩,trivial⟩⟩,⟨rfl,rfl,rfl,.inl ⟨rfl,a1R x⟩⟩,⟨rfl,rfl,rfl,.inr ⟨⟨⟨rfl,rfl,rfl⟩,rfl,rfl,rfl,rfl,rfl,trivial⟩,trivial⟩⟩,⟨rfl,rfl⟩,trivial⟩,⟨rfl,⟨rfl,rfl,rfl⟩,⟨rfl,rfl,rfl⟩,⟨rfl,rfl,rfl⟩,j0 ?_,c9 ?_,rfl,trivial⟩⟩
   ·show T.sl 6 _ (((e.moves.map p7.row).take ((i:Int)).toNat).drop 0)=_
    rw [Int.toNat_natCast,tk];rfl
   ·show ((((e.moves.map p7.row).take ((i:Int)).toNat).drop 0).length:Int)=i
    rw [Int.toNat_natCast,tk,List.drop_zero,mt]
  intro k hk _
  have kl:=Y9 (e:=e) (p:=x.src) k
  by_cases hlt:k<i
  ·obtain ⟨y,hy⟩:∃y,e.moves[k]? =some y:=⟨_,lg0 (by omega)⟩
   have hyt:(e.moves.take i)[k]? =some y:=by rw [List.getElem?_take,if_pos hlt];exact hy
   by_cases c1:y.dst=x.src
   ·have et:j4 e x.src (k+1)=j4 e x.src k++[((k:Int),((1:Int):Rat))]:=by rw [P3 hy,if_pos c1]
    conv=>whnf
    repeat' first|(refine zd ?_ ?_<;>intro h<;>first|exact zc h|(exfalso;omega)|conv=>whnf)|((first|refine zz ?_|refine qp i1 ?_|refine qp toC ?_|refine qp toC ?_|refine d7 hyt ?_|refine t9 (by simp [toC]) (by simp [toC];omega) ?_|refine zy ?_);conv=>whnf)
    all_goals try (exfalso;omega)
    refine ⟨hlt,trivial,[some 0,some 1,some 2,some 5],rfl,rfl,⟨⟨rfl,rfl,rfl,.inr ⟨⟨rfl,rfl,rfl,rfl,rfl,rfl,trivial⟩,trivial⟩⟩,⟨rfl,rfl,rfl,.inl ⟨rfl,a1R x⟩⟩,⟨rfl,rfl,rfl,.inr ⟨⟨⟨rfl,rfl,?_,fun h=>h⟩,rfl,rfl,rfl,rfl,rfl,trivial⟩,trivial⟩⟩,b8 rfl rfl rfl ?_ rfl,trivial⟩,⟨rfl,⟨rfl,rfl,rfl⟩,⟨rfl,rfl,rfl⟩,⟨rfl,rfl,rfl⟩,rfl,rfl,rfl,trivial⟩⟩
    ·rw [et,List.length_append];rfl
    ·rw [et]
     show List.take (j4 e x.src k).length (toC ((j4 e x.src k).map k6))++toC [k6 ((k:Int),((1:Int):Rat))]=_
     exact a0m rfl
   ·by_cases c2:y.src=x.src
    ·have et:j4 e x.src (k+1)=j4 e x.src k++[((k:Int),((-1:Int):Rat))]:=by rw [P3 hy,if_neg c1,if_pos c2]
     conv=>whnf
     repeat' first|(refine zd ?_ ?_<;>intro h<;>first|exact zc h|(exfalso;omega)|conv=>whnf)|((first|refine zz ?_|refine qp im ?_|refine qp toC ?_|refine qp toC ?_|refine d7 hyt ?_|refine t9 (by simp [toC]) (by simp [toC];omega) ?_|refine zy ?_);conv=>whnf)
     all_goals try (exfalso;omega)
     refine ⟨hlt,trivial,[some 0,some 1,some 2,some 5],rfl,rfl,⟨⟨rfl,rfl,rfl,.inr ⟨⟨rfl,rfl,rfl,rfl,rfl,rfl,trivial⟩,trivial⟩⟩,⟨rfl,rfl,rfl,.inl ⟨rfl,a1R x⟩⟩,⟨rfl,rfl,rfl,.inr ⟨⟨⟨rfl,rfl,?_,fun h=>h⟩,rfl,rfl,rfl,rfl,rfl,trivial⟩,trivial⟩⟩,b8 rfl rfl rfl ?_ rfl,trivial⟩,⟨rfl,⟨rfl,rfl,rfl⟩,⟨rfl,rfl,rfl⟩,⟨rfl,rfl,rfl⟩,rfl,rfl,rfl,trivial⟩⟩
     ·rw [et,List.length_append];rfl
     ·rw [et]
      show List.take (j4 e x.src k).length (toC ((j4 e x.src k).map k6))++toC [k6 ((k:Int),((-1:Int):Rat))]=_
      exact a0m rfl
    ·have et:j4 e x.src (k+1)=j4 e x.src k:=by rw [P3 hy,if_neg c1,if_neg c2]
     conv=>whnf
     repeat' first|(refine zd ?_ ?_<;>intro h<;>first|exact zc h|(exfalso;omega)|conv=>whnf)|((first|refine zz ?_|refine d7 hyt ?_|refine zy ?_);conv=>whnf)
     all_goals try (exfalso;omega)
     refine ⟨hlt,trivial,[some 0,some 1,some 2,some 3],rfl,rfl,⟨⟨rfl,rfl,rfl,.inr ⟨⟨rfl,rfl,rfl,rfl,rfl,rfl,trivial⟩,trivial⟩⟩,⟨rfl,rfl,rfl,.inl ⟨rfl,a1R x⟩⟩,⟨rfl,rfl,rfl,.inr ⟨⟨⟨rfl,rfl,?_,fun h=>h⟩,rfl,rfl,rfl,rfl,rfl,trivial⟩,trivial⟩⟩,b8 rfl rfl rfl ?_ rfl,trivial⟩,⟨rfl,⟨rfl,rfl,rfl⟩,⟨rfl,rfl,rfl⟩,⟨rfl,rfl,rfl⟩,rfl,rfl,rfl,trivial⟩⟩
     ·rw [et]
     ·rw [et]
  ·have hke:k=i:=by omega
   subst hke
   conv=>whnf
   repeat' first|(refine zd ?_ ?_<;>intro h<;>first|exact zc h|(exfalso;omega)|conv=>whnf)|((first|refine zz ?_|refine qp im ?_|refine qp toC ?_|refine qp toC ?_|refine t9 (by simp [toC]) (by simp [toC];omega) ?_|refine zy ?_);conv=>whnf)
   all_goals try (exfalso;omega)
   refine j5 ⟨show VC _ (fun id=>I9 [] id=true) _ _ from t8 rfl rfl (by intro h;cases h) rfl (rows:=(j4 e x.src k++[((k:Int),((-1:Int):Rat))]).map k6) ?_ ?_,rfl,rfl,rfl,rfl,rfl,trivial⟩
   ·show List.take (j4 e x.src k).length (toC ((j4 e x.src k).map k6))++toC [k6 ((k:Int),((-1:Int):Rat))]=_
    exact a0m rfl
   ·rw [List.length_map,List.length_append];rfl
end
section
open Go.RowKit
theorem a6V {e:Ev}:∀{l:List K2},L2 e l=0→∀c ∈ l,0≤c.mv∧c.mv<e.moves.length
 |[],_,c,hc=>by cases hc
 |g::r,h,c,hc=>by
  unfold L2 at h
  by_cases h1:a02 e g.mv g.kind≠0
  ·rw [if_pos h1] at h;exact absurd h h1
  rw [if_neg h1] at h
  rcases List.mem_cons.1 hc with rfl|hc
  ·unfold a02 at h1
   by_cases h3:c.mv<0∨(e.moves.length:Int)≤c.mv
   ·rw [if_pos h3] at h1;exact absurd (by decide) h1
   omega
  ·exact a6V h c hc
def hiR (o:Option (Rat × Rat)):Rat:=match o with
 |some (_,hi)=>hi
 |none=>0
theorem a4R {e:Ev} {x:p7} (h:(D3 e x).isSome=true):hiF (D3 e x)=fz (hiR (D3 e x))∧rl (hiR (D3 e x))≤200:=by
 cases hiv:D3 e x with
 |none=>rw [hiv] at h;cases h
 |some p=>
  obtain ⟨lo,hi⟩:=p
  refine ⟨rfl,?_⟩
  show rl hi≤200
  unfold D3 at hiv
  by_cases hs:x.scale=-1
  ·rw [if_pos hs] at hiv;cases hiv
  ·rw [if_neg hs] at hiv
   have:=(at6 hiv).2
   omega
end
section
open Go.RowKit
theorem X8 {H:Hp} {id len:Nat} {n:Int} {rows:List x7} {rs:List (List C)} {f:Fr} {v:Rat} (hf:f=fz v) (hs:H[2]? =some (a2D n id len)) (hid:H[id]? =some { mode:=.live,elem:=143,size:=6,rows:=rs,box:=false })
 (hlen:len=rows.length) (hrs:rs=toC (rows.map s7)) (hne:id≠2) (hr:rows.length≤1000000) (mv:Nat) (kind:Int):
 b9 Tryz.prog 128 [a9 .i64 mv,a9 .i64 kind,frS f,.c (.ptr 2 0 0)] H (.tup []) (((H.set 2 (a2D n H.length (rows.length+1))).set id (aF7 143 6))++[P4 (rows++[p9 mv kind v])]):=by
 subst hf;subst hlen;subst hrs;exact b3Z hs hid hne hr mv kind v
theorem a4y {t:l9} {kind:Int} {k:Nat} (hk:k≤200) (hf:t.finds.length≤20) (hc:t.cleans.length≤50):(o5 t kind k).length≤14400:=by
 have h1:=a13 (t:=t) (kind:=kind) k
 have h2:=Nat.mul_le_mul hk (show 2+t.finds.length+t.cleans.length≤72 by omega)
 omega
abbrev ag0 (t:l9) (kind:Int) (i:Nat):Blk:={ mode:=.live,elem:=119,size:=7,rows:=[(Q6 t kind i).map .t],box:=true }
theorem O9 {ρ:List (Option Nat)} {H:Hp}:∀rows:List (List T),a4H ρ H (rows.map (·.map C.t)) (rows.map (·.map C.t))
 |[]=>trivial
 |r::rs=>⟨M5 r,O9 rs⟩
def a19 (t:l9) (kind:Int):Int:=if p6 t≠0∨kind<0∨8≤kind then 1 else 0
def a5p (t:l9) (kind:Int):f5:=if p6 t≠0∨kind<0∨8≤kind then ⟨0,[]⟩ else e8 t kind
abbrev a5H:FuncId:=128
abbrev a1J:Blk:={ mode:=.live,elem:=70,size:=2,rows:=[[.t (ti 0),.t (B2 [])]],box:=true }
set_option maxHeartbeats 4000000 in
theorem a30 (t:l9) (kind:Int) (hs:t.Sized):b9 Tryz.prog 60 [trS t,a9 .i64 kind] [] (.tup [F0 (a5p t kind),a9 .i64 (a19 t kind)]) []:=by
 have ck:=av1 t hs
 have m2:(t.ev.moves.map p7.row).length=t.ev.moves.length:=by simp
 by_cases h1:p6 t≠0∨kind<0∨8≤kind
 ·have e1:a19 t kind=1:=by unfold a19;rw [if_pos h1]
  have e2:a5p t kind=⟨0,[]⟩:=by unfold a5p;rw [if_pos h1]
  rw [e1,e2]
  (refine a8 a7 Tryz.func60 rfl (by decide) ?_;(conv=>whnf);repeat ((first|refine b0x ?_|refine zy ?_);conv=>whnf))
  repeat' first|(refine zd ?_ ?_<;>intro h<;>first|exact zc h|(exfalso;omega)|conv=>whnf)|((first|refine zz ?_|refine qp ck ?_|refine zy ?_);conv=>whnf)
  all_goals first
   |(exfalso;omega)
   |exact j5 ⟨⟨rfl,rfl,trivial⟩,rfl,trivial⟩
 have e1:a19 t kind=0:=by unfold a19;rw [if_neg h1]
 have e2:a5p t kind=e8 t kind:=by unfold a5p;rw [if_neg h1]
 rw [e1,e2]
 obtain ⟨k1,k2,k3⟩:p6 t=0∧0≤kind∧kind<8:=by omega
 rw [k1] at ck
 clear h1 e1 e2
 obtain ⟨q1,q2,q3,q4,q5⟩:=N7 k1
 obtain ⟨b1,b2,b3,b4⟩:=T4 q1
 have kn:=b24 t kind hs q1 (fun f hf=>by have:=X3 q4 f hf;omega) (fun c hc=>a6V q5 c hc)
 (refine a8 a7 Tryz.func60 rfl (by decide) ?_;(conv=>whnf);repeat ((first|refine b0x ?_|refine zy ?_);conv=>whnf))
 repeat' first|(refine zd ?_ ?_<;>intro h<;>first|exact zc h|(exfalso;omega)|conv=>whnf)|((first|refine zz ?_|refine qp ck ?_|refine qp kn ?_|refine zy ?_);conv=>whnf)
 all_goals try (exfalso;omega)
 refine f6 a7 (fun k=>([J,J,J,J,S.c (C.ptr 0 0 0),J,S.c (C.ptr 1 0 0),S.c (C.ptr 2 0 0),S.c (C.fn (Fn.func a5H) [C.ptr 2 0 0]),J,J,J,J,J,J,J,J,J,J,J,J,J,J,J,J,J,J,J,J,J,J,J,J,J,S.c (C.t (a1n t kind)),a9 .i64 t.ev.moves.length,a9 .i64 k,J,J,J,J,J,J,J,J,J,J,J,J,J,J,J,J,J,J,J,J,J,J,J,J,J,J,J,J,J,J,J,J,J,J,J,J,J,J,J,J,J,J,J,J,J,J,J],[a1J,evB t.ev,a2D t.ev.moves.length 3 (o5 t kind k).length,P4 (o5 t kind k)])) t.ev.moves.length (fun _=>True) [some 0,some 1,some 2,none] trivial ?_ ?_
 ·refine ⟨rfl,rfl,⟨⟨rfl,rfl,rfl,.inr ⟨⟨rfl,rfl,trivial⟩,trivial⟩⟩,⟨rfl,rfl,rfl,.inl ⟨rfl,k8 _⟩⟩,⟨rfl,rfl,rfl,.inr ⟨⟨?_,⟨rfl,rfl,rfl⟩,trivial⟩,trivial⟩⟩,⟨rfl,rfl⟩,trivial⟩,⟨⟨rfl,rfl,rfl⟩,⟨rfl,rfl,rfl⟩,⟨rfl,rfl,rfl⟩,⟨rfl,⟨rfl,rfl,rfl⟩,trivial⟩,rfl,c9 (by simp),rfl,trivial⟩⟩
  exact a7d (by rw [m2])
 intro k hk _
 by_cases hlt:k<t.ev.moves.length
 ·obtain ⟨x,hx⟩:∃x,t.ev.moves[k]? =some x:=⟨_,lg0 hlt⟩
  have bn:=b8b t.ev q1 hx
  have st:=b2A t.ev q1 hx
  have gk:(List.range t.ev.moves.length)[k]? =some k:=List.getElem?_range hlt
  have iv:a0K t.ev k=D3 t.ev x:=ak2 hx
  have rl0:=a4y (t:=t) (kind:=kind) (k:=k) (by omega) q2 q3
  have gl:(i9 t.finds kind k).length≤20:=by unfold i9;rw [List.length_map];exact Nat.le_trans (List.length_filter_le _ _) q2
  have cl:n8 t.cleans kind k≤50:=Nat.le_trans (List.length_filter_le _ _) q3
  have i0:=E4 0 (by decide) (by decide)
  obtain ⟨R1,hR1⟩:∃R1:List x7,R1=o5 t kind k++(if F2 t.ev x.src=0 then [] else [q9 t.ev k x])++J1 (D3 t.ev x) k:=⟨_,rfl⟩
  have l5:(o5 t kind k).length+1=(o5 t kind k++[q9 t.ev k x]).length:=by simp
  have r5:List.take (o5 t kind k).length (toC ((o5 t kind k).map s7))++toC [s7 (q9 t.ev k x)]=toC ((o5 t kind k++[q9 t.ev k x]).map s7):=a0f rfl
  have b5:(o5 t kind k++[q9 t.ev k x]).length≤1000000:=by simp;omega
  have b3:(o5 t kind k).length≤1000000:=by omega
  obtain ⟨G,hG⟩:∃G:Nat→List x7,∀j,G j=R1++((i9 t.finds kind k).take j).map (fun g:Int=>p9 k 0 (g:Rat)):=⟨_,fun _=>rfl⟩
  obtain ⟨K,hK⟩:∃K:Nat→List x7,∀j,K j=(R1++(i9 t.finds kind k).map (fun g:Int=>p9 k 0 (g:Rat)))++List.replicate j (p9 k 2 ((0:Int):Rat)):=⟨_,fun _=>rfl⟩
  have hG0:G 0=R1:=by rw [hG];simp
  have hK0:K 0=R1++(i9 t.finds kind k).map (fun g:Int=>p9 k 0 (g:Rat)):=by rw [hK];simp
  have hKe:o5 t kind (k+1)=K (n8 t.cleans kind k):=by
   rw [hK,hR1]
   show (match t.ev.moves[k]? with|none=>o5 t kind k|some x=>o5 t kind k++F7 t kind k x)=_
   rw [hx]
   unfold F7
   simp [List.append_assoc]
  have hKs:toC ((K (n8 t.cleans kind k)).map s7)=toC ((o5 t kind (k+1)).map s7)∧(K (n8 t.cleans kind k)).length=(o5 t kind (k+1)).length:=by rw [hKe];exact ⟨rfl,rfl⟩
  have hgr:∀g ∈ i9 t.finds kind k,1≤g∧g≤1099511627776:=fun g hg=>by
   unfold i9 at hg
   obtain ⟨f,hf,rfl⟩:=List.mem_map.1 hg
   have:=X3 q4 f (List.mem_filter.1 hf).1
   omega
  have hcr:J1 (D3 t.ev x) k=if (D3 t.ev x).isSome then [p9 k 1 (hiR (D3 t.ev x))] else []:=by cases D3 t.ev x<;>rfl
  cases hc:(D3 t.ev x).isSome<;>cases hb:decide (F2 t.ev x.src=0)<;>rw [hb] at bn
  ·have hci:(a0K t.ev k).isSome=false:=by rw [iv];exact hc
   rw [hc] at hcr
   have hcr:J1 (D3 t.ev x) k=[]:=hcr
   have eR:R1=o5 t kind k++[q9 t.ev k x]:=by rw [hR1,hcr];simp only [decide_eq_false_iff_not,decide_eq_true_eq] at hb;simp [hb,List.append_assoc]
   have hRl:R1.length≤14500:=by rw [eR];(try simp);omega
   conv=>whnf
   repeat' first|(refine zd ?_ ?_<;>intro h<;>first|exact zc h|(exfalso;omega)|conv=>whnf)|((first|refine zz ?_|refine qp bn ?_|refine qp st ?_|refine qp toC ?_|refine qp toC ?_|refine d7 gk ?_|refine t9 (by simp [toC]) (by simp [toC];omega) ?_|refine zy ?_);conv=>whnf)
   all_goals try (exfalso;omega)
   all_goals try (rw [hci] at h;exact absurd h (by decide))
   refine f6 a7 (fun j=>([J,J,J,J,S.c (C.ptr 0 0 0),J,S.c (C.ptr 1 0 0),S.c (C.ptr 2 0 0),S.c (C.fn (Fn.func a5H) [C.ptr 2 0 0]),a9 .i64 k,S.c (C.ptr 4 0 0),J,J,J,J,J,J,J,J,J,J,J,J,J,J,J,J,J,J,J,J,J,J,J,S.c (C.t (a1n t kind)),a9 .i64 t.ev.moves.length,a9 .i64 k,J,J,J,J,J,J,J,J,J,J,J,J,J,J,J,J,J,J,J,J,J,J,J,J,S.c (C.t (I8 (i9 t.finds kind k))),a9 .i64 (i9 t.finds kind k).length,a9 .i64 j,J,J,J,J,J,J,J,J,J,J,J,J,J,J,J,J,J,J,J,J],[a1J,evB t.ev,a2D t.ev.moves.length 3 (G j).length,P4 (G j),ag0 t kind k])) (i9 t.finds kind k).length (fun _=>True) [some 0,some 1,some 2,some 5,some 4] trivial ⟨rfl,rfl,⟨⟨rfl,rfl,rfl,.inr ⟨⟨rfl,rfl,trivial⟩,trivial⟩⟩,⟨rfl,rfl,rfl,.inl ⟨rfl,k8 _⟩⟩,⟨rfl,rfl,rfl,.inr ⟨⟨rfl,⟨rfl,rfl,?_,fun h=>h⟩,trivial⟩,trivial⟩⟩,b8 rfl rfl rfl ?_ rfl,⟨rfl,rfl,rfl,.inr (O9 [Q6 t kind k])⟩,trivial⟩,⟨⟨rfl,rfl,rfl⟩,⟨rfl,rfl,rfl⟩,⟨rfl,rfl,rfl⟩,⟨rfl,⟨rfl,rfl,rfl⟩,trivial⟩,rfl,⟨rfl,rfl,rfl⟩,rfl,rfl,rfl,rfl,c9 (by simp),rfl,trivial⟩⟩ ?_
   ·simp [hG0,eR,toC]
   ·rw [hG0,eR];exact r5
   intro j hj _
   have hGl:(G j).length≤1000000:=by rw [hG];simp [List.length_append];omega
   by_cases hjt:j<(i9 t.finds kind k).length
   ·obtain ⟨g,hg⟩:∃g,(i9 t.finds kind k)[j]? =some g:=⟨_,lg0 hjt⟩
    have gb:=hgr g (lg2 hg)
    have ig:=E4 g (by omega) (by omega)
    have eG:G (j+1)=G j++[p9 k 0 (g:Rat)]:=by rw [hG,hG,List.take_add_one,hg];simp
    conv=>whnf
    repeat' first|(refine zd ?_ ?_<;>intro h<;>first|exact zc h|(exfalso;omega)|conv=>whnf)|((first|refine zz ?_|refine qp ig ?_|refine d7 hg ?_|refine .inr ⟨_,_,X8 (id:=3) rfl rfl rfl rfl rfl (by decide) hGl _ _,?_⟩|refine zy ?_);conv=>whnf)
    all_goals try (exfalso;omega)
    refine ⟨hjt,trivial,[some 0,some 1,some 2,some 5,some 4],rfl,rfl,⟨⟨rfl,rfl,rfl,.inr ⟨⟨rfl,rfl,trivial⟩,trivial⟩⟩,⟨rfl,rfl,rfl,.inl ⟨rfl,k8 _⟩⟩,⟨rfl,rfl,rfl,.inr ⟨⟨rfl,⟨rfl,rfl,?_,fun h=>h⟩,trivial⟩,trivial⟩⟩,b8 rfl rfl rfl ?_ rfl,⟨rfl,rfl,rfl,.inr (O9 [Q6 t kind k])⟩,trivial⟩,⟨⟨rfl,rfl,rfl⟩,⟨rfl,rfl,rfl⟩,⟨rfl,rfl,rfl⟩,⟨rfl,⟨rfl,rfl,rfl⟩,trivial⟩,rfl,⟨rfl,rfl,rfl⟩,rfl,rfl,rfl,rfl,rfl,rfl,trivial⟩⟩
    ·rw [eG];simp
    ·rw [eG]
   have hje:j=(i9 t.finds kind k).length:=by omega
   subst hje
   have hGe:G (i9 t.finds kind k).length=R1++(i9 t.finds kind k).map (fun g:Int=>p9 k 0 (g:Rat)):=by rw [hG,lg4 (Nat.le_refl _)]
   conv=>whnf
   repeat' first|(refine zd ?_ ?_<;>intro h<;>first|exact zc h|(exfalso;omega)|conv=>whnf)|((first|refine zz ?_|refine zy ?_);conv=>whnf)
   all_goals try (exfalso;omega)
   refine f6 a7 (fun j=>([J,J,J,J,S.c (C.ptr 0 0 0),J,S.c (C.ptr 1 0 0),S.c (C.ptr 2 0 0),S.c (C.fn (Fn.func a5H) [C.ptr 2 0 0]),a9 .i64 k,J,J,J,J,J,J,J,J,J,J,J,J,J,J,J,J,J,J,J,J,J,J,J,J,S.c (C.t (a1n t kind)),a9 .i64 t.ev.moves.length,a9 .i64 k,J,J,J,J,J,J,J,J,J,J,J,J,J,J,J,J,J,J,J,J,J,J,J,J,J,J,J,J,J,J,J,J,J,J,J,J,J,a9 .i64 (n8 t.cleans kind k),a9 .i64 j,J,J,J,J,J,J,J,J],[a1J,evB t.ev,a2D t.ev.moves.length 3 (K j).length,P4 (K j)])) (n8 t.cleans kind k) (fun _=>True) [some 0,some 1,some 2,some 3] trivial ⟨rfl,rfl,⟨⟨rfl,rfl,rfl,.inr ⟨⟨rfl,rfl,trivial⟩,trivial⟩⟩,⟨rfl,rfl,rfl,.inl ⟨rfl,k8 _⟩⟩,⟨rfl,rfl,rfl,.inr ⟨⟨rfl,⟨rfl,rfl,?_,fun h=>h⟩,trivial⟩,trivial⟩⟩,b8 rfl rfl rfl ?_ rfl,trivial⟩,⟨⟨rfl,rfl,rfl⟩,⟨rfl,rfl,rfl⟩,⟨rfl,rfl,rfl⟩,⟨rfl,⟨rfl,rfl,rfl⟩,trivial⟩,rfl,rfl,rfl,rfl,rfl,rfl,trivial⟩⟩ ?_
   ·rw [hK0,hGe]
   ·rw [hK0,hGe]
   clear hj hjt
   intro j hj _
   have hKl:(K j).length≤1000000:=by rw [hK];simp [List.length_append];omega
   by_cases hjt:j<n8 t.cleans kind k
   ·have eK:K (j+1)=K j++[p9 k 2 ((0:Int):Rat)]:=by rw [hK,hK,List.replicate_succ'];simp
    conv=>whnf
    repeat' first|(refine zd ?_ ?_<;>intro h<;>first|exact zc h|(exfalso;omega)|conv=>whnf)|((first|refine zz ?_|refine qp i0 ?_|refine .inr ⟨_,_,X8 (id:=3) rfl rfl rfl rfl rfl (by decide) hKl _ _,?_⟩|refine zy ?_);conv=>whnf)
    all_goals try (exfalso;omega)
    refine ⟨hjt,trivial,[some 0,some 1,some 2,some 4],rfl,rfl,⟨⟨rfl,rfl,rfl,.inr ⟨⟨rfl,rfl,trivial⟩,trivial⟩⟩,⟨rfl,rfl,rfl,.inl ⟨rfl,k8 _⟩⟩,⟨rfl,rfl,rfl,.inr ⟨⟨rfl,⟨rfl,rfl,?_,fun h=>h⟩,trivial⟩,trivial⟩⟩,b8 rfl rfl rfl ?_ rfl,trivial⟩,⟨⟨rfl,rfl,rfl⟩,⟨rfl,rfl,rfl⟩,⟨rfl,rfl,rfl⟩,⟨rfl,⟨rfl,rfl,rfl⟩,trivial⟩,rfl,rfl,rfl,rfl,rfl,rfl,trivial⟩⟩
    ·rw [eK];simp
    ·rw [eK]
   have hje:j=n8 t.cleans kind k:=by omega
   subst hje
   conv=>whnf
   repeat' first|(refine zd ?_ ?_<;>intro h<;>first|exact zc h|(exfalso;omega)|conv=>whnf)|((first|refine zz ?_|refine zy ?_);conv=>whnf)
   all_goals try (exfalso;omega)
   exact ⟨hlt,trivial,[some 0,some 1,some 2,some 3],rfl,rfl,⟨⟨rfl,rfl,rfl,.inr ⟨⟨rfl,rfl,trivial⟩,trivial⟩⟩,⟨rfl,rfl,rfl,.inl ⟨rfl,k8 _⟩⟩,⟨rfl,rfl,rfl,.inr ⟨⟨rfl,⟨rfl,rfl,hKs.2,fun h=>h⟩,trivial⟩,trivial⟩⟩,b8 rfl rfl rfl hKs.1 rfl,trivial⟩,⟨⟨rfl,rfl,rfl⟩,⟨rfl,rfl,rfl⟩,⟨rfl,rfl,rfl⟩,⟨rfl,⟨rfl,rfl,rfl⟩,trivial⟩,rfl,rfl,rfl,trivial⟩⟩
  ·have hci:(a0K t.ev k).isSome=false:=by rw [iv];exact hc
   rw [hc] at hcr
   have hcr:J1 (D3 t.ev x) k=[]:=hcr
   have eR:R1=o5 t kind k:=by rw [hR1,hcr];simp only [decide_eq_false_iff_not,decide_eq_true_eq] at hb;simp [hb,List.append_assoc]
   have hRl:R1.length≤14500:=by rw [eR];(try simp);omega
   conv=>whnf
   repeat' first|(refine zd ?_ ?_<;>intro h<;>first|exact zc h|(exfalso;omega)|conv=>whnf)|((first|refine zz ?_|refine qp bn ?_|refine qp st ?_|refine qp toC ?_|refine qp toC ?_|refine d7 gk ?_|refine t9 (by simp [toC]) (by simp [toC];omega) ?_|refine zy ?_);conv=>whnf)
   all_goals try (exfalso;omega)
   all_goals try (rw [hci] at h;exact absurd h (by decide))
   refine f6 a7 (fun j=>([J,J,J,J,S.c (C.ptr 0 0 0),J,S.c (C.ptr 1 0 0),S.c (C.ptr 2 0 0),S.c (C.fn (Fn.func a5H) [C.ptr 2 0 0]),a9 .i64 k,S.c (C.ptr 4 0 0),J,J,J,J,J,J,J,J,J,J,J,J,J,J,J,J,J,J,J,J,J,J,J,S.c (C.t (a1n t kind)),a9 .i64 t.ev.moves.length,a9 .i64 k,J,J,J,J,J,J,J,J,J,J,J,J,J,J,J,J,J,J,J,J,J,J,J,J,S.c (C.t (I8 (i9 t.finds kind k))),a9 .i64 (i9 t.finds kind k).length,a9 .i64 j,J,J,J,J,J,J,J,J,J,J,J,J,J,J,J,J,J,J,J,J],[a1J,evB t.ev,a2D t.ev.moves.length 3 (G j).length,P4 (G j),ag0 t kind k])) (i9 t.finds kind k).length (fun _=>True) [some 0,some 1,some 2,some 3,some 4] trivial ⟨rfl,rfl,⟨⟨rfl,rfl,rfl,.inr ⟨⟨rfl,rfl,trivial⟩,trivial⟩⟩,⟨rfl,rfl,rfl,.inl ⟨rfl,k8 _⟩⟩,⟨rfl,rfl,rfl,.inr ⟨⟨rfl,⟨rfl,rfl,?_,fun h=>h⟩,trivial⟩,trivial⟩⟩,b8 rfl rfl rfl ?_ rfl,⟨rfl,rfl,rfl,.inr (O9 [Q6 t kind k])⟩,trivial⟩,⟨⟨rfl,rfl,rfl⟩,⟨rfl,rfl,rfl⟩,⟨rfl,rfl,rfl⟩,⟨rfl,⟨rfl,rfl,rfl⟩,trivial⟩,rfl,⟨rfl,rfl,rfl⟩,rfl,rfl,rfl,rfl,c9 (by simp),rfl,trivial⟩⟩ ?_
   ·simp [hG0,eR,toC]
   ·rw [hG0,eR]<;>rfl
   intro j hj _
   have hGl:(G j).length≤1000000:=by rw [hG];simp [List.length_append];omega
   by_cases hjt:j<(i9 t.finds kind k).length
   ·obtain ⟨g,hg⟩:∃g,(i9 t.finds kind k)[j]? =some g:=⟨_,lg0 hjt⟩
    have gb:=hgr g (lg2 hg)
    have ig:=E4 g (by omega) (by omega)
    have eG:G (j+1)=G j++[p9 k 0 (g:Rat)]:=by rw [hG,hG,List.take_add_one,hg];simp
    conv=>whnf
    repeat' first|(refine zd ?_ ?_<;>intro h<;>first|exact zc h|(exfalso;omega)|conv=>whnf)|((first|refine zz ?_|refine qp ig ?_|refine d7 hg ?_|refine .inr ⟨_,_,X8 (id:=3) rfl rfl rfl rfl rfl (by decide) hGl _ _,?_⟩|refine zy ?_);conv=>whnf)
    all_goals try (exfalso;omega)
    refine ⟨hjt,trivial,[some 0,some 1,some 2,some 5,some 4],rfl,rfl,⟨⟨rfl,rfl,rfl,.inr ⟨⟨rfl,rfl,trivial⟩,trivial⟩⟩,⟨rfl,rfl,rfl,.inl ⟨rfl,k8 _⟩⟩,⟨rfl,rfl,rfl,.inr ⟨⟨rfl,⟨rfl,rfl,?_,fun h=>h⟩,trivial⟩,trivial⟩⟩,b8 rfl rfl rfl ?_ rfl,⟨rfl,rfl,rfl,.inr (O9 [Q6 t kind k])⟩,trivial⟩,⟨⟨rfl,rfl,rfl⟩,⟨rfl,rfl,rfl⟩,⟨rfl,rfl,rfl⟩,⟨rfl,⟨rfl,rfl,rfl⟩,trivial⟩,rfl,⟨rfl,rfl,rfl⟩,rfl,rfl,rfl,rfl,rfl,rfl,trivial⟩⟩
    ·rw [eG];simp
    ·rw [eG]
   have hje:j=(i9 t.finds kind k).length:=by omega
   subst hje
   have hGe:G (i9 t.finds kind k).length=R1++(i9 t.finds kind k).map (fun g:Int=>p9 k 0 (g:Rat)):=by rw [hG,lg4 (Nat.le_refl _)]
   conv=>whnf
   repeat' first|(refine zd ?_ ?_<;>intro h<;>first|exact zc h|(exfalso;omega)|conv=>whnf)|((first|refine zz ?_|refine zy ?_);conv=>whnf)
   all_goals try (exfalso;omega)
   refine f6 a7 (fun j=>([J,J,J,J,S.c (C.ptr 0 0 0),J,S.c (C.ptr 1 0 0),S.c (C.ptr 2 0 0),S.c (C.fn (Fn.func a5H) [C.ptr 2 0 0]),a9 .i64 k,J,J,J,J,J,J,J,J,J,J,J,J,J,J,J,J,J,J,J,J,J,J,J,J,S.c (C.t (a1n t kind)),a9 .i64 t.ev.moves.length,a9 .i64 k,J,J,J,J,J,J,J,J,J,J,J,J,J,J,J,J,J,J,J,J,J,J,J,J,J,J,J,J,J,J,J,J,J,J,J,J,J,a9 .i64 (n8 t.cleans kind k),a9 .i64 j,J,J,J,J,J,J,J,J],[a1J,evB t.ev,a2D t.ev.moves.length 3 (K j).length,P4 (K j)])) (n8 t.cleans kind k) (fun _=>True) [some 0,some 1,some 2,some 3] trivial ⟨rfl,rfl,⟨⟨rfl,rfl,rfl,.inr ⟨⟨rfl,rfl,trivial⟩,trivial⟩⟩,⟨rfl,rfl,rfl,.inl ⟨rfl,k8 _⟩⟩,⟨rfl,rfl,rfl,.inr ⟨⟨rfl,⟨rfl,rfl,?_,fun h=>h⟩,trivial⟩,trivial⟩⟩,b8 rfl rfl rfl ?_ rfl,trivial⟩,⟨⟨rfl,rfl,rfl⟩,⟨rfl,rfl,rfl⟩,⟨rfl,rfl,rfl⟩,⟨rfl,⟨rfl,rfl,rfl⟩,trivial⟩,rfl,rfl,rfl,rfl,rfl,rfl,trivial⟩⟩ ?_
   ·rw [hK0,hGe]
   ·rw [hK0,hGe]
   clear hj hjt
   intro j hj _
   have hKl:(K j).length≤1000000:=by rw [hK];simp [List.length_append];omega
   by_cases hjt:j<n8 t.cleans kind k
   ·have eK:K (j+1)=K j++[p9 k 2 ((0:Int):Rat)]:=by rw [hK,hK,List.replicate_succ'];simp
    conv=>whnf
    repeat' first|(refine zd ?_ ?_<;>intro h<;>first|exact zc h|(exfalso;omega)|conv=>whnf)|((first|refine zz ?_|refine qp i0 ?_|refine .inr ⟨_,_,X8 (id:=3) rfl rfl rfl rfl rfl (by decide) hKl _ _,?_⟩|refine zy ?_);conv=>whnf)
    all_goals try (exfalso;omega)
    refine ⟨hjt,trivial,[some 0,some 1,some 2,some 4],rfl,rfl,⟨⟨rfl,rfl,rfl,.inr ⟨⟨rfl,rfl,trivial⟩,trivial⟩⟩,⟨rfl,rfl,rfl,.inl ⟨rfl,k8 _⟩⟩,⟨rfl,rfl,rfl,.inr ⟨⟨rfl,⟨rfl,rfl,?_,fun h=>h⟩,trivial⟩,trivial⟩⟩,b8 rfl rfl rfl ?_ rfl,trivial⟩,⟨⟨rfl,rfl,rfl⟩,⟨rfl,rfl,rfl⟩,⟨rfl,rfl,rfl⟩,⟨rfl,⟨rfl,rfl,rfl⟩,trivial⟩,rfl,rfl,rfl,rfl,rfl,rfl,trivial⟩⟩
    ·rw [eK];simp
    ·rw [eK]
   have hje:j=n8 t.cleans kind k:=by omega
   subst hje
   conv=>whnf
   repeat' first|(refine zd ?_ ?_<;>intro h<;>first|exact zc h|(exfalso;omega)|conv=>whnf)|((first|refine zz ?_|refine zy ?_);conv=>whnf)
   all_goals try (exfalso;omega)
   exact ⟨hlt,trivial,[some 0,some 1,some 2,some 3],rfl,rfl,⟨⟨rfl,rfl,rfl,.inr ⟨⟨rfl,rfl,trivial⟩,trivial⟩⟩,⟨rfl,rfl,rfl,.inl ⟨rfl,k8 _⟩⟩,⟨rfl,rfl,rfl,.inr ⟨⟨rfl,⟨rfl,rfl,hKs.2,fun h=>h⟩,trivial⟩,trivial⟩⟩,b8 rfl rfl rfl hKs.1 rfl,trivial⟩,⟨⟨rfl,rfl,rfl⟩,⟨rfl,rfl,rfl⟩,⟨rfl,rfl,rfl⟩,⟨rfl,⟨rfl,rfl,rfl⟩,trivial⟩,rfl,rfl,rfl,trivial⟩⟩
  ·have hci:(a0K t.ev k).isSome=true:=by rw [iv];exact hc
   rw [hc] at hcr
   have hcr:J1 (D3 t.ev x) k=[p9 k 1 (hiR (D3 t.ev x))]:=hcr
   have eR:R1=(o5 t kind k++[q9 t.ev k x])++[p9 k 1 (hiR (D3 t.ev x))]:=by rw [hR1,hcr];simp only [decide_eq_false_iff_not,decide_eq_true_eq] at hb;simp [hb,List.append_assoc]
   have hRl:R1.length≤14500:=by rw [eR];(try simp);omega
   have hfv:hiF (a0K t.ev k)=fz (hiR (D3 t.ev x)):=by rw [iv];exact (a4R hc).1
   conv=>whnf
   repeat' first|(refine zd ?_ ?_<;>intro h<;>first|exact zc h|(exfalso;omega)|conv=>whnf)|((first|refine zz ?_|refine qp bn ?_|refine qp st ?_|refine qp toC ?_|refine qp toC ?_|refine d7 gk ?_|refine t9 (by simp [toC]) (by simp [toC];omega) ?_|refine .inr ⟨_,_,X8 (id:=5) hfv rfl rfl l5 r5 (by decide) b5 _ _,?_⟩|refine zy ?_);conv=>whnf)
   all_goals try (exfalso;omega)
   all_goals try (rw [hci] at h;exact absurd h (by decide))
   refine f6 a7 (fun j=>([J,J,J,J,S.c (C.ptr 0 0 0),J,S.c (C.ptr 1 0 0),S.c (C.ptr 2 0 0),S.c (C.fn (Fn.func a5H) [C.ptr 2 0 0]),a9 .i64 k,S.c (C.ptr 4 0 0),J,J,J,J,J,J,J,J,J,J,J,J,J,J,J,J,J,J,J,J,J,J,J,S.c (C.t (a1n t kind)),a9 .i64 t.ev.moves.length,a9 .i64 k,J,J,J,J,J,J,J,J,J,J,J,J,J,J,J,J,J,J,J,J,J,J,J,J,S.c (C.t (I8 (i9 t.finds kind k))),a9 .i64 (i9 t.finds kind k).length,a9 .i64 j,J,J,J,J,J,J,J,J,J,J,J,J,J,J,J,J,J,J,J,J],[a1J,evB t.ev,a2D t.ev.moves.length 3 (G j).length,P4 (G j),ag0 t kind k])) (i9 t.finds kind k).length (fun _=>True) [some 0,some 1,some 2,some 6,some 4] trivial ⟨rfl,rfl,⟨⟨rfl,rfl,rfl,.inr ⟨⟨rfl,rfl,trivial⟩,trivial⟩⟩,⟨rfl,rfl,rfl,.inl ⟨rfl,k8 _⟩⟩,⟨rfl,rfl,rfl,.inr ⟨⟨rfl,⟨rfl,rfl,?_,fun h=>h⟩,trivial⟩,trivial⟩⟩,b8 rfl rfl rfl ?_ rfl,⟨rfl,rfl,rfl,.inr (O9 [Q6 t kind k])⟩,trivial⟩,⟨⟨rfl,rfl,rfl⟩,⟨rfl,rfl,rfl⟩,⟨rfl,rfl,rfl⟩,⟨rfl,⟨rfl,rfl,rfl⟩,trivial⟩,rfl,⟨rfl,rfl,rfl⟩,rfl,rfl,rfl,rfl,c9 (by simp),rfl,trivial⟩⟩ ?_
   ·simp [hG0,eR,toC]
   ·rw [hG0,eR]<;>rfl
   intro j hj _
   have hGl:(G j).length≤1000000:=by rw [hG];simp [List.length_append];omega
   by_cases hjt:j<(i9 t.finds kind k).length
   ·obtain ⟨g,hg⟩:∃g,(i9 t.finds kind k)[j]? =some g:=⟨_,lg0 hjt⟩
    have gb:=hgr g (lg2 hg)
    have ig:=E4 g (by omega) (by omega)
    have eG:G (j+1)=G j++[p9 k 0 (g:Rat)]:=by rw [hG,hG,List.take_add_one,hg];simp
    conv=>whnf
    repeat' first|(refine zd ?_ ?_<;>intro h<;>first|exact zc h|(exfalso;omega)|conv=>whnf)|((first|refine zz ?_|refine qp ig ?_|refine d7 hg ?_|refine .inr ⟨_,_,X8 (id:=3) rfl rfl rfl rfl rfl (by decide) hGl _ _,?_⟩|refine zy ?_);conv=>whnf)
    all_goals try (exfalso;omega)
    refine ⟨hjt,trivial,[some 0,some 1,some 2,some 5,some 4],rfl,rfl,⟨⟨rfl,rfl,rfl,.inr ⟨⟨rfl,rfl,trivial⟩,trivial⟩⟩,⟨rfl,rfl,rfl,.inl ⟨rfl,k8 _⟩⟩,⟨rfl,rfl,rfl,.inr ⟨⟨rfl,⟨rfl,rfl,?_,fun h=>h⟩,trivial⟩,trivial⟩⟩,b8 rfl rfl rfl ?_ rfl,⟨rfl,rfl,rfl,.inr (O9 [Q6 t kind k])⟩,trivial⟩,⟨⟨rfl,rfl,rfl⟩,⟨rfl,rfl,rfl⟩,⟨rfl,rfl,rfl⟩,⟨rfl,⟨rfl,rfl,rfl⟩,trivial⟩,rfl,⟨rfl,rfl,rfl⟩,rfl,rfl,rfl,rfl,rfl,rfl,trivial⟩⟩
    ·rw [eG];simp
    ·rw [eG]
   have hje:j=(i9 t.finds kind k).length:=by omega
   subst hje
   have hGe:G (i9 t.finds kind k).length=R1++(i9 t.finds kind k).map (fun g:Int=>p9 k 0 (g:Rat)):=by rw [hG,lg4 (Nat.le_refl _)]
   conv=>whnf
   repeat' first|(refine zd ?_ ?_<;>intro h<;>first|exact zc h|(exfalso;omega)|conv=>whnf)|((first|refine zz ?_|refine zy ?_);conv=>whnf)
   all_goals try (exfalso;omega)
   refine f6 a7 (fun j=>([J,J,J,J,S.c (C.ptr 0 0 0),J,S.c (C.ptr 1 0 0),S.c (C.ptr 2 0 0),S.c (C.fn (Fn.func a5H) [C.ptr 2 0 0]),a9 .i64 k,J,J,J,J,J,J,J,J,J,J,J,J,J,J,J,J,J,J,J,J,J,J,J,J,S.c (C.t (a1n t kind)),a9 .i64 t.ev.moves.length,a9 .i64 k,J,J,J,J,J,J,J,J,J,J,J,J,J,J,J,J,J,J,J,J,J,J,J,J,J,J,J,J,J,J,J,J,J,J,J,J,J,a9 .i64 (n8 t.cleans kind k),a9 .i64 j,J,J,J,J,J,J,J,J],[a1J,evB t.ev,a2D t.ev.moves.length 3 (K j).length,P4 (K j)])) (n8 t.cleans kind k) (fun _=>True) [some 0,some 1,some 2,some 3] trivial ⟨rfl,rfl,⟨⟨rfl,rfl,rfl,.inr ⟨⟨rfl,rfl,trivial⟩,trivial⟩⟩,⟨rfl,rfl,rfl,.inl ⟨rfl,k8 _⟩⟩,⟨rfl,rfl,rfl,.inr ⟨⟨rfl,⟨rfl,rfl,?_,fun h=>h⟩,trivial⟩,trivial⟩⟩,b8 rfl rfl rfl ?_ rfl,trivial⟩,⟨⟨rfl,rfl,rfl⟩,⟨rfl,rfl,rfl⟩,⟨rfl,rfl,rfl⟩,⟨rfl,⟨rfl,rfl,rfl⟩,trivial⟩,rfl,rfl,rfl,rfl,rfl,rfl,trivial⟩⟩ ?_
   ·rw [hK0,hGe]
   ·rw [hK0,hGe]
   clear hj hjt
   intro j hj _
   have hKl:(K j).length≤1000000:=by rw [hK];simp [List.length_append];omega
   by_cases hjt:j<n8 t.cleans kind k
   ·have eK:K (j+1)=K j++[p9 k 2 ((0:Int):Rat)]:=by rw [hK,hK,List.replicate_succ'];simp
    conv=>whnf
    repeat' first|(refine zd ?_ ?_<;>intro h<;>first|exact zc h|(exfalso;omega)|conv=>whnf)|((first|refine zz ?_|refine qp i0 ?_|refine .inr ⟨_,_,X8 (id:=3) rfl rfl rfl rfl rfl (by decide) hKl _ _,?_⟩|refine zy ?_);conv=>whnf)
    all_goals try (exfalso;omega)
    refine ⟨hjt,trivial,[some 0,some 1,some 2,some 4],rfl,rfl,⟨⟨rfl,rfl,rfl,.inr ⟨⟨rfl,rfl,trivial⟩,trivial⟩⟩,⟨rfl,rfl,rfl,.inl ⟨rfl,k8 _⟩⟩,⟨rfl,rfl,rfl,.inr ⟨⟨rfl,⟨rfl,rfl,?_,fun h=>h⟩,trivial⟩,trivial⟩⟩,b8 rfl rfl rfl ?_ rfl,trivial⟩,⟨⟨rfl,rfl,rfl⟩,⟨rfl,rfl,rfl⟩,⟨rfl,rfl,rfl⟩,⟨rfl,⟨rfl,rfl,rfl⟩,trivial⟩,rfl,rfl,rfl,rfl,rfl,rfl,trivial⟩⟩
    ·rw [eK];simp
    ·rw [eK]
   have hje:j=n8 t.cleans kind k:=by omega
   subst hje
   conv=>whnf
   repeat' first|(refine zd ?_ ?_<;>intro h<;>first|exact zc h|(exfalso;omega)|conv=>whnf)|((first|refine zz ?_|refine zy ?_);conv=>whnf)
   all_goals try (exfalso;omega)
   exact ⟨hlt,trivial,[some 0,some 1,some 2,some 3],rfl,rfl,⟨⟨rfl,rfl,rfl,.inr ⟨⟨rfl,rfl,trivial⟩,trivial⟩⟩,⟨rfl,rfl,rfl,.inl ⟨rfl,k8 _⟩⟩,⟨rfl,rfl,rfl,.inr ⟨⟨rfl,⟨rfl,rfl,hKs.2,fun h=>h⟩,trivial⟩,trivial⟩⟩,b8 rfl rfl rfl hKs.1 rfl,trivial⟩,⟨⟨rfl,rfl,rfl⟩,⟨rfl,rfl,rfl⟩,⟨rfl,rfl,rfl⟩,⟨rfl,⟨rfl,rfl,rfl⟩,trivial⟩,rfl,rfl,rfl,trivial⟩⟩
  ·have hci:(a0K t.ev k).isSome=true:=by rw [iv];exact hc
   rw [hc] at hcr
   have hcr:J1 (D3 t.ev x) k=[p9 k 1 (hiR (D3 t.ev x))]:=hcr
   have eR:R1=o5 t kind k++[p9 k 1 (hiR (D3 t.ev x))]:=by rw [hR1,hcr];simp only [decide_eq_false_iff_not,decide_eq_true_eq] at hb;simp [hb,List.append_assoc]
   have hRl:R1.length≤14500:=by rw [eR];(try simp);omega
   have hfv:hiF (a0K t.ev k)=fz (hiR (D3 t.ev x)):=by rw [iv];exact (a4R hc).1
   conv=>whnf
   repeat' first|(refine zd ?_ ?_<;>intro h<;>first|exact zc h|(exfalso;omega)|conv=>whnf)|((first|refine zz ?_|refine qp bn ?_|refine qp st ?_|refine qp toC ?_|refine qp toC ?_|refine d7 gk ?_|refine t9 (by simp [toC]) (by simp [toC];omega) ?_|refine .inr ⟨_,_,X8 (id:=3) hfv rfl rfl rfl rfl (by decide) b3 _ _,?_⟩|refine zy ?_);conv=>whnf)
   all_goals try (exfalso;omega)
   all_goals try (rw [hci] at h;exact absurd h (by decide))
   refine f6 a7 (fun j=>([J,J,J,J,S.c (C.ptr 0 0 0),J,S.c (C.ptr 1 0 0),S.c (C.ptr 2 0 0),S.c (C.fn (Fn.func a5H) [C.ptr 2 0 0]),a9 .i64 k,S.c (C.ptr 4 0 0),J,J,J,J,J,J,J,J,J,J,J,J,J,J,J,J,J,J,J,J,J,J,J,S.c (C.t (a1n t kind)),a9 .i64 t.ev.moves.length,a9 .i64 k,J,J,J,J,J,J,J,J,J,J,J,J,J,J,J,J,J,J,J,J,J,J,J,J,S.c (C.t (I8 (i9 t.finds kind k))),a9 .i64 (i9 t.finds kind k).length,a9 .i64 j,J,J,J,J,J,J,J,J,J,J,J,J,J,J,J,J,J,J,J,J],[a1J,evB t.ev,a2D t.ev.moves.length 3 (G j).length,P4 (G j),ag0 t kind k])) (i9 t.finds kind k).length (fun _=>True) [some 0,some 1,some 2,some 5,some 4] trivial ⟨rfl,rfl,⟨⟨rfl,rfl,rfl,.inr ⟨⟨rfl,rfl,trivial⟩,trivial⟩⟩,⟨rfl,rfl,rfl,.inl ⟨rfl,k8 _⟩⟩,⟨rfl,rfl,rfl,.inr ⟨⟨rfl,⟨rfl,rfl,?_,fun h=>h⟩,trivial⟩,trivial⟩⟩,b8 rfl rfl rfl ?_ rfl,⟨rfl,rfl,rfl,.inr (O9 [Q6 t kind k])⟩,trivial⟩,⟨⟨rfl,rfl,rfl⟩,⟨rfl,rfl,rfl⟩,⟨rfl,rfl,rfl⟩,⟨rfl,⟨rfl,rfl,rfl⟩,trivial⟩,rfl,⟨rfl,rfl,rfl⟩,rfl,rfl,rfl,rfl,c9 (by simp),rfl,trivial⟩⟩ ?_
   ·simp [hG0,eR,toC]
   ·rw [hG0,eR]<;>rfl
   intro j hj _
   have hGl:(G j).length≤1000000:=by rw [hG];simp [List.length_append];omega
   by_cases hjt:j<(i9 t.finds kind k).length
   ·obtain ⟨g,hg⟩:∃g,(i9 t.finds kind k)[j]? =some g:=⟨_,lg0 hjt⟩
    have gb:=hgr g (lg2 hg)
    have ig:=E4 g (by omega) (by omega)
    have eG:G (j+1)=G j++[p9 k 0 (g:Rat)]:=by rw [hG,hG,List.take_add_one,hg];simp
    conv=>whnf
    repeat' first|(refine zd ?_ ?_<;>intro h<;>first|exact zc h|(exfalso;omega)|conv=>whnf)|((first|refine zz ?_|refine qp ig ?_|refine d7 hg ?_|refine .inr ⟨_,_,X8 (id:=3) rfl rfl rfl rfl rfl (by decide) hGl _ _,?_⟩|refine zy ?_);conv=>whnf)
    all_goals try (exfalso;omega)
    refine ⟨hjt,trivial,[some 0,some 1,some 2,some 5,some 4],rfl,rfl,⟨⟨rfl,rfl,rfl,.inr ⟨⟨rfl,rfl,trivial⟩,trivial⟩⟩,⟨rfl,rfl,rfl,.inl ⟨rfl,k8 _⟩⟩,⟨rfl,rfl,rfl,.inr ⟨⟨rfl,⟨rfl,rfl,?_,fun h=>h⟩,trivial⟩,trivial⟩⟩,b8 rfl rfl rfl ?_ rfl,⟨rfl,rfl,rfl,.inr (O9 [Q6 t kind k])⟩,trivial⟩,⟨⟨rfl,rfl,rfl⟩,⟨rfl,rfl,rfl⟩,⟨rfl,rfl,rfl⟩,⟨rfl,⟨rfl,rfl,rfl⟩,trivial⟩,rfl,⟨rfl,rfl,rfl⟩,rfl,rfl,rfl,rfl,rfl,rfl,trivial⟩⟩
    ·rw [eG];simp
    ·rw [eG]
   have hje:j=(i9 t.finds kind k).length:=by omega
   subst hje
   have hGe:G (i9 t.finds kind k).length=R1++(i9 t.finds kind k).map (fun g:Int=>p9 k 0 (g:Rat)):=by rw [hG,lg4 (Nat.le_refl _)]
   conv=>whnf
   repeat' first|(refine zd ?_ ?_<;>intro h<;>first|exact zc h|(exfalso;omega)|conv=>whnf)|((first|refine zz ?_|refine zy ?_);conv=>whnf)
   all_goals try (exfalso;omega)
   refine f6 a7 (fun j=>([J,J,J,J,S.c (C.ptr 0 0 0),J,S.c (C.ptr 1 0 0),S.c (C.ptr 2 0 0),S.c (C.fn (Fn.func a5H) [C.ptr 2 0 0]),a9 .i64 k,J,J,J,J,J,J,J,J,J,J,J,J,J,J,J,J,J,J,J,J,J,J,J,J,S.c (C.t (a1n t kind)),a9 .i64 t.ev.moves.length,a9 .i64 k,J,J,J,J,J,J,J,J,J,J,J,J,J,J,J,J,J,J,J,J,J,J,J,J,J,J,J,J,J,J,J,J,J,J,J,J,J,a9 .i64 (n8 t.cleans kind k),a9 .i64 j,J,J,J,J,J,J,J,J],[a1J,evB t.ev,a2D t.ev.moves.length 3 (K j).length,P4 (K j)])) (n8 t.cleans kind k) (fun _=>True) [some 0,some 1,some 2,some 3] trivial ⟨rfl,rfl,⟨⟨rfl,rfl,rfl,.inr ⟨⟨rfl,rfl,trivial⟩,trivial⟩⟩,⟨rfl,rfl,rfl,.inl ⟨rfl,k8 _⟩⟩,⟨rfl,rfl,rfl,.inr ⟨⟨rfl,⟨rfl,rfl,?_,fun h=>h⟩,trivial⟩,trivial⟩⟩,b8 rfl rfl rfl ?_ rfl,trivial⟩,⟨⟨rfl,rfl,rfl⟩,⟨rfl,rfl,rfl⟩,⟨rfl,rfl,rfl⟩,⟨rfl,⟨rfl,rfl,rfl⟩,trivial⟩,rfl,rfl,rfl,rfl,rfl,rfl,trivial⟩⟩ ?_
   ·rw [hK0,hGe]
   ·rw [hK0,hGe]
   clear hj hjt
   intro j hj _
   have hKl:(K j).length≤1000000:=by rw [hK];simp [List.length_append];omega
   by_cases hjt:j<n8 t.cleans kind k
   ·have eK:K (j+1)=K j++[p9 k 2 ((0:Int):Rat)]:=by rw [hK,hK,List.replicate_succ'];simp
    conv=>whnf
    repeat' first|(refine zd ?_ ?_<;>intro h<;>first|exact zc h|(exfalso;omega)|conv=>whnf)|((first|refine zz ?_|refine qp i0 ?_|refine .inr ⟨_,_,X8 (id:=3) rfl rfl rfl rfl rfl (by decide) hKl _ _,?_⟩|refine zy ?_);conv=>whnf)
    all_goals try (exfalso;omega)
    refine ⟨hjt,trivial,[some 0,some 1,some 2,some 4],rfl,rfl,⟨⟨rfl,rfl,rfl,.inr ⟨⟨rfl,rfl,trivial⟩,trivial⟩⟩,⟨rfl,rfl,rfl,.inl ⟨rfl,k8 _⟩⟩,⟨rfl,rfl,rfl,.inr ⟨⟨rfl,⟨rfl,rfl,?_,fun h=>h⟩,trivial⟩,trivial⟩⟩,b8 rfl rfl rfl ?_ rfl,trivial⟩,⟨⟨rfl,rfl,rfl⟩,⟨rfl,rfl,rfl⟩,⟨rfl,rfl,rfl⟩,⟨rfl,⟨rfl,rfl,rfl⟩,trivial⟩,rfl,rfl,rfl,rfl,rfl,rfl,trivial⟩⟩
    ·rw [eK];simp
    ·rw [eK]
   have hje:j=n8 t.cleans kind k:=by omega
   subst hje
   conv=>whnf
   repeat' first|(refine zd ?_ ?_<;>intro h<;>first|exact zc h|(exfalso;omega)|conv=>whnf)|((first|refine zz ?_|refine zy ?_);conv=>whnf)
   all_goals try (exfalso;omega)
   exact ⟨hlt,trivial,[some 0,some 1,some 2,some 3],rfl,rfl,⟨⟨rfl,rfl,rfl,.inr ⟨⟨rfl,rfl,trivial⟩,trivial⟩⟩,⟨rfl,rfl,rfl,.inl ⟨rfl,k8 _⟩⟩,⟨rfl,rfl,rfl,.inr ⟨⟨rfl,⟨rfl,rfl,hKs.2,fun h=>h⟩,trivial⟩,trivial⟩⟩,b8 rfl rfl rfl hKs.1 rfl,trivial⟩,⟨⟨rfl,rfl,rfl⟩,⟨rfl,rfl,rfl⟩,⟨rfl,rfl,rfl⟩,⟨rfl,⟨rfl,rfl,rfl⟩,trivial⟩,rfl,rfl,rfl,trivial⟩⟩
 ·have hke:k=t.ev.moves.length:=by omega
  subst hke
  conv=>whnf
  repeat' first|(refine zd ?_ ?_<;>intro h<;>first|exact zc h|(exfalso;omega)|conv=>whnf)|((first|refine zz ?_|refine zy ?_);conv=>whnf)
  all_goals try (exfalso;omega)
  refine j5 ⟨⟨rfl,show VC _ (fun id=>I9 [] id=true) _ _ from t8 rfl rfl (by intro h;cases h) rfl rfl (by rw [List.length_map];rfl),trivial⟩,rfl,trivial⟩
end
section
open Go.RowKit
theorem ar1 {P:Program} {g:FuncId} {x:S} {H H':Hp} {r:S} (h:b9 P g [x,j2 []] H r H'):b9 P g [x,.c (.t (.sl 0 .nil []))] H r H':=by
 refine a4d h rfl fun w ι M j a b v hx hy hr=>?_
 rcases j with _|_|j
 ·injection hx with hx;injection hy with hy;subst hx hy;exact hr
 ·injection hx with hx;injection hy with hy;subst hx hy
  cases hr with
  |c hr=>cases hr with
   |t hr=>exact .c (.t (hr.weak rfl))
 ·simp at hx
theorem ap5 (z:List Rat):j3 [] z=0:=rfl
theorem ah0 {s:f5} (hr:f9 s=true):G5 s []=.best∨∃r,G5 s []=.row r:=by
 rcases a6n s [] with h|h|⟨c,h⟩
 ·exact .inl h
 ·exact .inr h
 ·have:=(af7 hr rfl h).2
  rw [ap5] at this
  exact absurd this (by decide)
set_option maxHeartbeats 2000000 in
theorem a8w (s:f5) (n B:Nat) (h:z4 s [] n B) (hout:G5 s []=.best) (hpt:∀v ∈ j1 s [],rl v≤40000):
 b9 Tryz.prog 61 [F0 s] [] (.tup [k7 ((j1 s []).map fz),.c (.t (.sl 0 .nil [])),e6 true]) []:=by
 have le:=ar1 (a1W s [] n B h hout (fun k=>by rw [List.take_nil,ap5];have:=rl0;omega) hpt)
 (refine a8 a7 Tryz.func61 rfl (by decide) ?_;(conv=>whnf);repeat ((first|refine b0x ?_|refine zy ?_);conv=>whnf))
 repeat' first|(refine zd ?_ ?_<;>intro h<;>first|exact zc h|(exfalso;omega)|conv=>whnf)|((first|refine zz ?_|refine qp 4 ?_|refine qp (4,6) ?_|refine .inr ⟨_,_,le,?_⟩|refine bl0 [4] ?_|refine bl0 [4,6] ?_|refine zy ?_);conv=>whnf)
 all_goals first
  |(exfalso;omega)
  |exact j5 ⟨rfl,rfl,rfl,trivial⟩
set_option maxHeartbeats 2000000 in
theorem a8X (s:f5) (n B r:Nat) (h:z4 s [] n B) (hout:G5 s []=.row r):
 b9 Tryz.prog 61 [F0 s] [] (.tup [.c (.t (.sl 0 .nil [])),k7 (rF s.rows.length (a6I s (k9 s []) r)),e6 false]) []:=by
 have le:=ar1 (au9 s [] n B r h hout)
 (refine a8 a7 Tryz.func61 rfl (by decide) ?_;(conv=>whnf);repeat ((first|refine b0x ?_|refine zy ?_);conv=>whnf))
 repeat' first|(refine zd ?_ ?_<;>intro h<;>first|exact zc h|(exfalso;omega)|conv=>whnf)|((first|refine zz ?_|refine qp 4 ?_|refine qp (4,6) ?_|refine .inr ⟨_,_,le,?_⟩|refine bl0 [4] ?_|refine bl0 [4,6] ?_|refine zy ?_);conv=>whnf)
 all_goals first
  |(exfalso;omega)
  |exact j5 ⟨rfl,(show VC _ (fun id=>I9 [] id=true) (C.own 0 0 s.rows.length true) _ from t8 (k:=flB (rF s.rows.length (a6I s (k9 s []) r))) rfl rfl (fun h=>h) rfl rfl (by simp [L0])),rfl,trivial⟩
theorem U5 {α:Type} {f:α→List T} {l:List α} {x:α} {n:Nat} (h:n=l.length):List.take n (toC (l.map f))++toC [f x]=toC ((l++[x]).map f):=by
 rw [lg4 (by simp [toC,h])]
 simp [toC]
def Z7 (l:List (Int × Rat)) (f:Rat):List (Int × Rat):=l.map fun t=>(t.1,t.2*f)
theorem a3g (l:List (Int × Rat)) (f:Rat) {k:Nat} {t:Int × Rat} (h:l[k]? =some t):(Z7 l f).take (k+1)=(Z7 l f).take k++[(t.1,t.2*f)]:=by
 rw [List.take_add_one]
 congr 1
 unfold Z7
 rw [List.getElem?_map,h];rfl
theorem a0o (l:List (Int × Rat)) (f:Rat):(Z7 l f).length=l.length:=by simp [Z7]
set_option maxHeartbeats 2000000 in
theorem b1K (l:List (Int × Rat)) (f:Rat) (hf:f≠0) (hr:e7 (-1) 1500 l=true) (hb:∀t ∈ l,rl t.2≤200) (hfb:rl f≤200):
 b9 Tryz.prog 164 [j2 l,frS (fz f)] [] (j2 (Z7 l f)) []:=by
 have hl:=w6 hr
 have m1:(l.map k6).length=l.length:=by simp
 have rt:=I0 l 1500 (by omega) hb
 rw [decide_eq_true (by omega),hr] at rt
 have sg:=K9 f (by omega)
 have sz:=a0M (x:=f)
 have hs0:sgR f≠0:=fun h=>hf (sz.1 h)
 (refine a8 a7 Tryz.func164 rfl (by decide) ?_;(conv=>whnf);repeat ((first|refine b0x ?_|refine zy ?_);conv=>whnf))
 repeat' first|(refine zd ?_ ?_<;>intro h<;>first|exact zc h|(exfalso;omega)|conv=>whnf)|((first|refine zz ?_|refine qp rt ?_|refine qp sg ?_|refine zy ?_);conv=>whnf)
 all_goals try (exfalso;omega)
 all_goals try (exfalso;simp_all;done)
 refine f6 a7 (fun k=>([J,J,J,S.c (C.t (T.ptr (j7 (fz f)))),J,S.c (C.own 0 0 k true),J,J,J,J,J,J,J,J,J,J,J,J,j2 l,a9 .i64 l.length,a9 .i64 k,J,J,J,J,J,J,J,J,J,J,J,J,J,J,J,J,J,J,J],[J6 ((Z7 l f).take k)])) l.length (fun _=>True) [none] trivial
  ⟨rfl,rfl,⟨⟨rfl,rfl⟩,trivial⟩,⟨j0 rfl,⟨rfl,rfl,rfl⟩,j0 rfl,c9 (by omega),c9 rfl,trivial⟩⟩ ?_
 intro k hk _
 by_cases hlt:k<l.length
 ·obtain ⟨t,ht⟩:∃t,l[k]? =some t:=⟨_,lg0 hlt⟩
  have bt:=hb t (lg2 ht)
  have mu:=ai5 t.2 f (by omega) (by omega)
  have lk:((Z7 l f).take k).length=k:=by rw [List.length_take,a0o];omega
  have lA:k≤(J6 ((Z7 l f).take k)).rows.length:=by show k≤(toC _).length;simp [toC,a0o];omega
  conv=>whnf
  repeat' first|(refine zd ?_ ?_<;>intro h<;>first|exact zc h|(exfalso;omega)|conv=>whnf)|((first|refine zz ?_|refine qp mu ?_|refine qp toC ?_|refine qp 6 ?_|refine d7 ht ?_|refine t9 lA (by simp [toC];omega) ?_|refine bl0 [6] ?_|refine zy ?_);conv=>whnf)
  all_goals first
   |(exfalso;omega)
   |(refine ⟨hlt,trivial,[some 3],rfl,rfl,⟨b8 (rows:=((Z7 l f).take (k+1)).map k6) rfl rfl rfl ?_ rfl,trivial⟩,⟨rfl,⟨rfl,rfl,rfl,fun h=>h⟩,rfl,rfl,c9 (by omega),trivial⟩⟩
     rw [a3g l f ht]
     exact U5 (f:=k6) (x:=(t.1,t.2*f)) lk.symm)
 ·have hke:k=l.length:=by omega
  subst hke
  conv=>whnf
  repeat' first|(refine zd ?_ ?_<;>intro h<;>first|exact zc h|(exfalso;omega)|conv=>whnf)|((first|refine zz ?_|refine zy ?_);conv=>whnf)
  all_goals first
   |(exfalso;omega)
   |exact N4 rfl (fun h=>h) rfl (by rw [lg4 (by rw [a0o];exact Nat.le_refl _)]) (by simp [a0o])
theorem a2O {n n':Int} (h:n≤n'):∀{last:Int} {l:List (Int × Rat)},e7 last n l=true→e7 last n' l=true
 |_,[],_=>rfl
 |last,a::r,hr=>by
  unfold e7 at hr ⊢
  simp only [Bool.and_eq_true,decide_eq_true_eq] at hr ⊢
  exact ⟨⟨⟨hr.1.1.1,by omega⟩,hr.1.2⟩,a2O h hr.2⟩
def u7 (l:List (Int × Rat)):List (Int × Rat):=Z7 l ((-1:Int):Rat)
theorem a1Q (l:List (Int × Rat)) (hr:e7 (-1) 1500 l=true) (hb:∀t ∈ l,rl t.2≤200):b9 Tryz.prog 91 [j2 l] [] (j2 (u7 l)) []:=by
 have i1:=E4 (-1) (by decide) (by decide)
 have tm:=b1K l ((-1:Int):Rat) (by decide) hr hb (by have:=p8 (x:=-1) (by decide) (by decide);have:=p8 (x:=1) (by decide) (by decide);show max (bl (-1)) (bl 1)≤200;omega)
 (refine a8 a7 Tryz.func91 rfl (by decide) ?_;(conv=>whnf);repeat ((first|refine b0x ?_|refine zy ?_);conv=>whnf))
 repeat' first|(refine zd ?_ ?_<;>intro h<;>first|exact zc h|(exfalso;omega)|conv=>whnf)|((first|refine zz ?_|refine qp i1 ?_|refine qp tm ?_|refine zy ?_);conv=>whnf)
 exact j5 (H1:=[]) (j0 (ρ:=[]) (H:=[]) rfl)
end
section
open Go.RowKit
def a1e (l:List Int):List (Int × Rat):=l.map fun i=>(i,((1:Int):Rat))
def o9 (t:l9) (h:Int):List (Int × Rat):=a1e (A8 t.ev h (-1) 0 100000)
def a2J (t:l9) (h:Int):List (Int × Rat):=if p6 t=0∧0≤h∧h<t.ev.hhs then o9 t h else []
theorem al1 {H1:Hp}:Fin 0 (.c (.t (.sl 0 .nil []))) H1 (j2 []) []:=j5 (show a6Z [] H1 (.c (.t (.sl 0 .nil []))) (j2 []) from rfl)
theorem ab2 {l:List Int} {k:Nat} {x:Int} (h:l[k]? =some x):a1e (l.take (k+1))=a1e (l.take k)++[(x,((1:Int):Rat))]:=by
 rw [List.take_add_one,h];unfold a1e;simp
set_option maxHeartbeats 2000000 in
theorem a7n (t:l9) (hs:t.Sized) (hh:Int) (hl:(A8 t.ev hh (-1) 0 100000).length≤100000):b9 Tryz.prog 28 [trS t,a9 .i64 hh] [] (j2 (a2J t hh)) []:=by
 have ck:=av1 t hs
 have li:=b2k t.ev hs.ev hh (-1) 0 100000
 have i1:=E4 1 (by decide) (by decide)
 by_cases hc:p6 t=0∧0≤hh∧hh<t.ev.hhs
 ·have e:a2J t hh=o9 t hh:=if_pos hc
  rw [e]
  obtain ⟨c1,c2,c3⟩:=hc
  have m1:((A8 t.ev hh (-1) 0 100000).map g9).length=(A8 t.ev hh (-1) 0 100000).length:=by simp
  (refine a8 a7 Tryz.func28 rfl (by decide) ?_;(conv=>whnf);repeat ((first|refine b0x ?_|refine zy ?_);conv=>whnf))
  repeat' first|(refine zd ?_ ?_<;>intro h<;>first|exact zc h|(exfalso;omega)|conv=>whnf)|((first|refine zz ?_|refine qp ck ?_|refine qp li ?_|refine zy ?_);conv=>whnf)
  all_goals try (exfalso;omega)
  refine f6 a7 (fun k=>([J,J,J,J,J,S.c (C.own 0 0 k true),J,J,J,J,J,J,J,J,J,J,J,J,J,J,J,J,J,J,J,g6 (A8 t.ev hh (-1) 0 100000),a9 .i64 (A8 t.ev hh (-1) 0 100000).length,a9 .i64 k,J,J,J,J,J,J,J,J,J,J,J],[J6 (a1e ((A8 t.ev hh (-1) 0 100000).take k))])) (A8 t.ev hh (-1) 0 100000).length (fun _=>True) [none] trivial
   ⟨rfl,rfl,⟨⟨rfl,rfl⟩,trivial⟩,⟨⟨rfl,rfl,rfl⟩,j0 rfl,c9 (by omega),c9 rfl,trivial⟩⟩ ?_
  intro k hk _
  by_cases hlt:k<(A8 t.ev hh (-1) 0 100000).length
  ·obtain ⟨x,hx⟩:∃x,(A8 t.ev hh (-1) 0 100000)[k]? =some x:=⟨_,lg0 hlt⟩
   have lk:(a1e ((A8 t.ev hh (-1) 0 100000).take k)).length=k:=by unfold a1e;rw [List.length_map,List.length_take];omega
   have lA:k≤(J6 (a1e ((A8 t.ev hh (-1) 0 100000).take k))).rows.length:=by show k≤(toC _).length;rw [toC,List.length_map,List.length_map,lk];exact Nat.le_refl _
   conv=>whnf
   repeat' first|(refine zd ?_ ?_<;>intro h<;>first|exact zc h|(exfalso;omega)|conv=>whnf)|((first|refine zz ?_|refine qp i1 ?_|refine qp toC ?_|refine d7 hx ?_|refine t9 lA (by simp [toC];omega) ?_|refine zy ?_);conv=>whnf)
   all_goals first
    |(exfalso;omega)
    |(refine ⟨hlt,trivial,[some 1],rfl,rfl,⟨b8 (rows:=(a1e ((A8 t.ev hh (-1) 0 100000).take (k+1))).map k6) rfl rfl rfl ?_ rfl,trivial⟩,⟨⟨rfl,rfl,rfl,fun h=>h⟩,rfl,rfl,c9 (by omega),trivial⟩⟩
      rw [ab2 hx]
      exact U5 (f:=k6) (x:=(x,((1:Int):Rat))) lk.symm)
  ·have hke:k=(A8 t.ev hh (-1) 0 100000).length:=by omega
   subst hke
   conv=>whnf
   repeat' first|(refine zd ?_ ?_<;>intro h<;>first|exact zc h|(exfalso;omega)|conv=>whnf)|((first|refine zz ?_|refine zy ?_);conv=>whnf)
   all_goals first
    |(exfalso;omega)
    |exact N4 rfl (fun h=>h) rfl (by rw [lg4 (Nat.le_refl _)];rfl) (by simp [o9,a1e])
 ·have e:a2J t hh=[]:=if_neg hc
  rw [e]
  (refine a8 a7 Tryz.func28 rfl (by decide) ?_;(conv=>whnf);repeat ((first|refine b0x ?_|refine zy ?_);conv=>whnf))
  repeat' first|(refine zd ?_ ?_<;>intro h<;>first|exact zc h|(exfalso;omega)|conv=>whnf)|((first|refine zz ?_|refine qp ck ?_|refine qp li ?_|refine zy ?_);conv=>whnf)
  all_goals first
   |(exfalso;omega)
   |exact al1
theorem aQ3 (l:List Fr) (h0:0<l.length) (h1:l.length≤100000):b9 Tryz.prog 205 [k7 l] [] (.c (.own 0 0 l.length true)) [flB l]:=by
 have m1:(l.map j7).length=l.length:=by simp
 have hl:0<(l.map j7).length:=by omega
 (refine a8 a7 Tryz.func205 rfl (by decide) ?_;(conv=>whnf);repeat (refine zy ?_;conv=>whnf))
 repeat' first|(refine zd ?_ ?_<;>intro h<;>first|exact zc h|(exfalso;omega)|conv=>whnf)|((first|refine zz ?_|refine qp (toC,List.length_map,List.length_nil) ?_|refine qp (toC,List.length_map) ?_|refine ⟨hl,?_⟩|refine zz ?_|refine a0X rfl (by simp only [toC,List.length_map,List.length_nil];omega) ?_|refine t9 (Nat.zero_le _) (by simp only [toC,List.length_map];omega) ?_|refine zy ?_);conv=>whnf)
 all_goals first
  |(exfalso;omega)
  |exact ⟨[some 0],rfl,rfl,⟨b8 (rows:=l.map j7) rfl rfl rfl rfl rfl,trivial⟩,⟨rfl,rfl,by simp [toC],fun h=>h⟩⟩
def smF (a b:Nat→Rat) (k:Nat):Nat→Rat:=fun j=>if j<k then a j+b j else a j
set_option maxHeartbeats 2000000 in
theorem b4F (n:Nat) (a b:Nat→Rat) (h0:0<n) (hn:n≤1000) (ha:∀j,j<n→rl (a j)≤60000) (hb:∀j,j<n→rl (b j)≤60000):
 b9 Tryz.prog 131 [k7 (rF n a),k7 (rF n b)] [] (k7 (rF n fun j=>a j+b j)) []:=by
 have m1:((rF n b).map j7).length=n:=by simp [L0]
 have cl:=aQ3 (rF n a) (by rw [L0];exact h0) (by rw [L0];omega)
 rw [L0] at cl
 have e9:rF n (fun j=>a j+b j)=rF n (smF a b n):=z7 fun j hj=>by unfold smF;rw [if_pos hj]
 rw [e9]
 (refine a8 a7 Tryz.func131 rfl (by decide) ?_;(conv=>whnf);repeat (refine zy ?_;conv=>whnf))
 repeat' first|(refine zd ?_ ?_<;>intro h<;>first|exact zc h|(exfalso;omega)|conv=>whnf)|((first|refine zz ?_|refine .inr ⟨_,_,cl,?_⟩|refine zy ?_);conv=>whnf)
 refine f6 a7 (fun k=>([J,J,J,J,J,S.c (C.own 0 0 n true),J,J,J,J,k7 (rF n b),a9 .i64 n,a9 .i64 k,J,J,J,J,J,J,J,J,J,J,J,J,J,J,J,J,J,J],[flB (rF n (smF a b k))])) n (fun _=>True) [some 0] trivial
  ⟨rfl,rfl,⟨b8 (rows:=(rF n a).map j7) rfl rfl rfl rfl (by rw [z7 (g:=smF a b 0) (h:=a) fun j hj=>by unfold smF;rw [if_neg (by omega)]]),trivial⟩,⟨⟨rfl,rfl,rfl,fun h=>h⟩,j0 rfl,c9 (by omega),c9 rfl,trivial⟩⟩ ?_
 intro k hk _
 by_cases hlt:k<n
 ·have eK:0+(k:Int).toNat=k:=by omega
  have ad:=a2M (a k) (b k) (ha k hlt) (hb k hlt)
  have gp:(rF n (smF a b k))[0+(k:Int).toNat]? =some (fz (a k)):=by rw [eK,E3 hlt];unfold smF;rw [if_neg (by omega)]
  have e:z9 (flB (rF n (smF a b k))) ((flB (rF n (smF a b k))).rows.set (0+(k:Int).toNat) (frC (fz (a k+b k))))=flB (rF n (smF a b (k+1))):=by
   rw [H5 eK,R8 hlt]
   refine congrArg flB (z7 fun j hj=>?_)
   unfold smF
   by_cases h:j=k
   ·subst h;rw [if_pos rfl,if_pos (by omega)]
   ·rw [if_neg h]
    have:(j<k)↔(j<k+1):=by omega
    simp only [this]
  conv=>whnf
  repeat' first|(refine zd ?_ ?_<;>intro h<;>first|exact zc h|(exfalso;omega)|conv=>whnf)|((first|refine zz ?_|refine qp ad ?_|refine qp 10 ?_|refine a1U rfl hlt ?_|refine o6 gp ?_|refine bl0 [10] ?_|refine zy ?_);conv=>whnf)
  all_goals first
   |(exfalso;omega)
   |exact ⟨hlt,trivial,[some 0],rfl,rfl,⟨⟨rfl,rfl,rfl,.inl ⟨congrArg Blk.rows e,(congrArg Blk.rows e) ▸ g4 _⟩⟩,trivial⟩,⟨⟨rfl,rfl,rfl,fun h=>h⟩,rfl,rfl,c9 (by omega),trivial⟩⟩
 ·have hke:k=n:=by omega
  subst hke
  conv=>whnf
  repeat' first|(refine zd ?_ ?_<;>intro h<;>first|exact zc h|(exfalso;omega)|conv=>whnf)|((first|refine zz ?_|refine zy ?_);conv=>whnf)
  all_goals first
   |(exfalso;omega)
   |exact N4 rfl (fun h=>h) rfl rfl (by simp [L0])
end
section
open Go.RowKit
theorem aD4 {P:Program} {g:FuncId} {args:List S} {H:Hp} {b:Blk} {r r':S} {rows:List (List T)} (h:b9 P g args [] r [b]) (ha:args=args.map (a3X [])) (hok:args.all (okS 0)=true) (hm:b.mode=.live) (hb:b.rows=toC rows) (hr:a9A r=true)
 (hr':r'=a3X [H.length] r):b9 P g args H r' (H++[b]):=by
 have ex:a2d [] H.length (([b]:Hp).length - ([]:Hp).length)=[H.length]:=rfl
 refine N9 [] h ha hok rfl List.nodup_nil (by simp) (fun k hk=>?_) (by simp) hr (by rw [ex];exact hr') (by simp) ?_ ?_
 ·simp at hk;subst hk;rw [hm];intro h;cases h
 ·intro i k hk
  rw [ex]
  rcases i with _|i
  ·injection hk with hk;subst hk
   refine ⟨b,?_,C0 hb⟩
   show (H++[b])[H.length]? =_
   rw [List.getElem?_append_right (Nat.le_refl _)];simp
  ·simp at hk
 ·intro j hj _
  rw [List.getElem?_append_left hj]
theorem az9 {P:Program} {g:FuncId} {args:List S} {H:Hp} {b:Blk} {cs:List C} {s2:S} {j lo len:Nat} {app:Bool} (h:b9 P g args [] (.tup [.agg cs,s2]) [b]) (ha:args.all S.isT=true) (hm:b.mode=.live) (hb:E8 b.rows)
 (hf:a9A (.tup [.agg cs,s2])=true) (hj:cs[j]? =some (.own 0 lo len app)):S4 P g args H (a3X [H.length] (.tup [.agg cs,s2])) [b]:=by
 refine ⟨h.1,fun w ι M vals hl hv hH hM hf0=>?_⟩
 have:=h.2 w (fun _=>none) M vals hl (fun j s hj=>(hv j s hj).tree (List.all_eq_true.1 ha s (lg2 hj)))
  ⟨by simp,by simp,by simp,by simp,by simp⟩ hM (fun _ _=>rfl)
 refine Calls.mono this ?_
 rintro e w' ⟨v,rfl,ι',M',h1,h2,h3,h4,h5⟩
 have hnl:∀x,¬a2f (fun _=>none) ([]:Hp) x:=by rintro x ⟨id,k,_,_,hk,_⟩;simp at hk
 obtain ⟨l,hl0⟩:∃l,ι' 0=some l:=by
  cases h1 with
  |tup vs hl hr=>
   have h0:=hr 0 _ rfl
   generalize vs.getD 0 undef=v0 at h0
   cases h0 with
   |agg us hl hr=>
    have h9:=hr j _ hj
    generalize us.getD j undef=v9 at h9
    cases h9 with
    |own hi=>exact ⟨_,hi⟩
    |nil hi=>exact ⟨_,hi⟩
 have hnew:w9 ι H.length [b].length (fun _=>l) H.length=some l:=by unfold w9;simp
 have hMM:∀x,a31 M [b].length (fun _=>l) x→M' x:=by
  intro x hx
  rcases hx with hx|⟨k,hk,cap,size,he⟩
  ·rcases h5.mold x hx with h|h
   ·exact h
   ·exact absurd h (hnl x)
  ·have he:l=.blk x cap size:=he
   subst he
   exact h2.liv 0 b rfl hm x cap size hl0
 refine ⟨v,rfl,fun _=>l,?_,⟨h5.os,h5.tape,h5.output,h5.size,fun x hx=>h5.keep x hx (hnl x)⟩,?_,?_,?_⟩
 ·refine RS.keep (w:=w') (ι:=w9 ι H.length [b].length (fun _=>l)) (M:=M') (fun _ _ _=>rfl) (fun x hx=>.inl (hMM x hx)) (fun _ _ h=>h) (RS.ren (σ:=[H.length]) (fun id l' hi=>?_) hf h1)
  rcases id with _|id
  ·rw [hl0] at hi;injection hi with hi;subst hi;exact hnew
  ·rw [h4 (id+1) (by simp)] at hi;cases hi
 ·intro k blk hk
  cases k with
  |succ k=>simp at hk
  |zero=>
   simp at hk
   subst hk
   refine ⟨hm,?_⟩
   have hbr:=h2.blk 0 b rfl (by rw [hm];intro h;cases h) l hl0
   cases l with
   |nil=>exact hbr
   |blk x cap size=>
    obtain ⟨r1,r2,r3,r4,r5,cur,r6,r7,r8⟩:=hbr
    refine ⟨r1,r2,r3,r4,r5,cur,r6,r7,fun i j c hc=>?_⟩
    obtain ⟨u,u1,u2⟩:=r8 i j c hc
    exact ⟨u,u1,a8q hMM hb hc u2⟩
 ·intro k x cap size hk he
  have he:l=.blk x cap size:=he
  subst he
  refine ⟨?_,h3 x (h2.liv 0 b rfl hm x cap size hl0)⟩
  rcases h5.live x ⟨0,b,cap,size,rfl,hm,hl0⟩ with h|h
  ·exact absurd h (hnl x)
  ·exact h
 ·intro k k' x cap size cap' size' hk hk' _ _
  simp at hk hk'
  omega
structure Z9 where
 hh:Int
 state:Int
 w:List Rat
 wo:List Rat
 pr:List Rat
def Z9.row (v:Z9):List T:=[ti v.hh,ti v.state,M8 (v.w.map fz),M8 (v.wo.map fz),M8 (v.pr.map fz)]
abbrev av7 (v:Z9):S:=.agg (v.row.map C.t)
theorem a1d {x:Rat}:sgR x > 0↔0<x:=by unfold sgR;split<;>(try split)<;>simp_all<;>grind
theorem ae1 {x:Rat}:sgR x<0↔x<0:=by unfold sgR;split<;>(try split)<;>simp_all
structure aQ9 (s:f5) (g:List (Int × Rat)) (n B B1 B0:Nat):Prop where
 p:z4 s g n B
 q:z4 s (u7 g) n B1
 z:z4 s [] n B0
 g5:e7 (-1) 1500 g=true
 v:∀k,rl (j3 (g.take k) (j1 s g))≤50000
 u:∀k,rl (j3 ((u7 g).take k) (j1 s (u7 g)))≤50000
theorem a5w {s:f5} {g:List (Int × Rat)} {n B:Nat} (h:z4 s g n B):∀v ∈ j1 s g,rl v≤17000:=by
 intro v hv
 have hb:=a5K h
 have hn:=h.nn
 have hB:=h.bb
 obtain ⟨j,hj,rfl⟩:=a4P hv
 have hp:O8 (d6 s).length s.n.toNat (k9 s g):=G8.p
 rw [hn] at hj hp ⊢
 rw [← aA7 hp hj]
 have key:∀k,k≤(d6 s).length→rl (ptK n (k9 s g).O (k9 s g).V (fun _=>0) k j)≤17000:=by
  intro k
  induction k with
  |zero=>intro _;have:=rl0;show rl 0≤_;omega
  |succ k ih=>
   intro hk
   rw [L5]
   simp only
   split
   ·have:=hb.v k (by omega);omega
   ·exact ih (by omega)
 exact key _ (Nat.le_refl _)
noncomputable def aW9 (s:f5) (g:List (Int × Rat)) (hh:Int):Z9:=⟨hh,2,j1 s g,[],zOf s.rows.length (y4 s (k9 s g))++[((-1:Int):Rat)]⟩
theorem a7c {s:f5} {g:List (Int × Rat)} {n B:Nat} (h:z4 s g n B) (hout:G5 s g=.best) (hS:∀k,rl (j3 (g.take k) (j1 s g))≤50000) (H:Hp):
 b9 Tryz.prog 130 [F0 s,j2 g] H (.tup [.agg (C.t (ti 0)::frC (fz (j3 g (j1 s g)))++[.t (M8 ((j1 s g).map fz)),.own H.length 0 s.rows.length true,.t (.sl 0 .nil [])]),a9 .i64 0]) (H++[flB (rF s.rows.length (y4 s (k9 s g)))]):=
 aD4 (a1W s g n B h hout (fun k=>by have:=hS k;omega) (fun v hv=>by have:=a5w h v hv;omega)) rfl rfl rfl rfl rfl rfl
theorem az8 {R:Nat} {y:Nat→Rat} {x:Rat}:(toC ((rF R y).map j7)).take R++toC [j7 (fz x)]=toC (((zOf R y++[x]).map fz).map j7):=by
 have e:(zOf R y++[x]).map fz=rF R y++[fz x]:=by rw [List.map_append,a4k];rfl
 rw [U5 (f:=j7) (l:=rF R y) (x:=fz x) (L0 R y).symm,e]
theorem aX0 {s:f5} {g:List (Int × Rat)} {n B:Nat} (h:z4 s g n B) (hout:G5 s g=.best) (hS:∀k,rl (j3 (g.take k) (j1 s g))≤50000) (H:Hp):
 S4 Tryz.prog 130 [F0 s,j2 g] H (.tup [.agg (C.t (ti 0)::frC (fz (j3 g (j1 s g)))++[.t (M8 ((j1 s g).map fz)),.own H.length 0 s.rows.length true,.t (.sl 0 .nil [])]),a9 .i64 0]) [flB (rF s.rows.length (y4 s (k9 s g)))]:=
 az9 (j:=6) (lo:=0) (len:=s.rows.length) (app:=true) (a1W s g n B h hout (fun k=>by have:=hS k;omega) (fun v hv=>by have:=a5w h v hv;omega)) rfl rfl (g4 _) rfl rfl
set_option maxHeartbeats 2000000 in
theorem a8y (s:f5) (g:List (Int × Rat)) (n B B1 B0:Nat) (h:aQ9 s g n B B1 B0) (hh:Int) (hout:G5 s g=.best) (hv:0<j3 g (j1 s g)):
 b9 Tryz.prog 62 [F0 s,j2 g,a9 .i64 hh] [] (av7 (aW9 s g hh)) []:=by
 have le:=a7c h.p hout h.v
 have vb:=h.v g.length
 rw [List.take_length] at vb
 have sg:=K9 (j3 g (j1 s g)) (by omega)
 have sp:=a1d.2 hv
 have i1:=E4 (-1) (by decide) (by decide)
 have hR:=h.p.r
 (refine a8 a7 Tryz.func62 rfl (by decide) ?_;(conv=>whnf);repeat ((first|refine b0x ?_|refine zy ?_);conv=>whnf))
 repeat' first|(refine zd ?_ ?_<;>intro h<;>first|exact zc h|(exfalso;omega)|conv=>whnf)|((first|refine a8x [0,1,2,3,4,5,7,6,8,9,10,11,12] (by decide +kernel) (by decide +kernel) ?_|refine zz ?_|refine zz ?_|refine zz ?_|refine zz ?_|refine zz ?_|refine zz ?_|refine qp sg ?_|refine qp i1 ?_|refine qp 5 ?_|refine qp (toC,L0) ?_|refine qp toC ?_|refine qp (0,1,2,3,4,5,7,6,8,9,10,11,12) ?_|refine qp (0,1,6) ?_|refine qp (0,1) ?_|refine .inr ⟨_,_,le _,?_⟩|refine bl0 [5] ?_|refine t9 (by simp [toC,L0]) (by simp [toC];omega) ?_|refine bl0 [0,1,6] ?_|refine bl0 [0,1] ?_|refine zy ?_);conv=>whnf)
 all_goals first
  |(exfalso;omega)
  |exact j5 ⟨rfl,rfl,rfl,rfl,(show VC _ (fun id=>I9 [] id=true) (C.own 4 0 (s.rows.length+1) true) _ from t8 (k:={ mode:=.live,elem:=83,size:=4,rows:=(toC ((rF s.rows.length (y4 s (k9 s g))).map j7)).take s.rows.length++toC [j7 (fz ((-1:Int):Rat))],box:=false }) rfl rfl (fun h=>h) rfl az8 (by simp [zOf])),trivial⟩
noncomputable def a4E (s:f5) (g:List (Int × Rat)) (c:Nat) (hh:Int):Z9:=⟨hh,1,zOf s.n.toNat fun j=>D8 (d6 s).length s.n.toNat (k9 s []) 1 (fun _=>0) j+D8 (d6 s).length s.n.toNat (k9 s (u7 g)) 0 (fun q=>if q=c then 1 else 0) j,j1 s g,[]⟩
noncomputable def b3b (s:f5) (g:List (Int × Rat)) (hh:Int):Z9:=⟨hh,1,j1 s (u7 g),j1 s g,[]⟩
noncomputable def a7b (s:f5) (g:List (Int × Rat)) (hh:Int):Z9:=⟨hh,0,[],j1 s g,zOf s.rows.length (y4 s (k9 s (u7 g)))⟩
theorem b32 {s:f5} {g:List (Int × Rat)} {n B B0 c:Nat} (h:z4 s g n B) (h0:z4 s [] n B0) (hout:G5 s g=.col c) (hout0:G5 s []=.best) (H:Hp):
 S4 Tryz.prog 130 [F0 s,j2 g] H (.tup [.agg (C.t (ti 2)::b3T++[.t (M8 ((j1 s []).map fz)),.t (.sl 0 .nil []),.t (M8 ((a5z s g c).map fz))]),a9 .i64 0]) []:=
 F8 (aj2 s g n B B0 c h h0 hout hout0) rfl rfl
theorem b41 {s:f5} {g:List (Int × Rat)} {n B c:Nat} (h:z4 s g n B) (hc:c<n) {j:Nat} (hj:j<n):rl (D8 (d6 s).length n (k9 s g) 0 (fun q=>if q=c then 1 else 0) j)≤17000:=by
 have hb:=a5K h
 have hB:=h.bb
 have hp:O8 (d6 s).length n (k9 s g):=by have hn:=h.nn;subst hn;exact G8.p
 rw [← ah1 hp hc hj]
 have key:∀k,k≤(d6 s).length→rl (ptK n (k9 s g).O (fun i=>-((k9 s g).A i c)) (fun j=>if (k9 s g).F c<n∧j=(k9 s g).F c then 1 else 0) k j)≤17000:=by
  intro k
  induction k with
  |zero=>
   intro _
   have:=rl0;have:=rl1
   show rl (if _ then (1:Rat) else 0)≤_
   split<;>omega
  |succ k ih=>
   intro hk
   rw [L5]
   simp only
   split
   ·rw [M9];have:=hb.a k (by omega) c hc;omega
   ·exact ih (by omega)
 exact key _ (Nat.le_refl _)
set_option maxHeartbeats 4000000 in
theorem a98 (s:f5) (g:List (Int × Rat)) (n B B1 B0 c:Nat) (h:aQ9 s g n B B1 B0) (hh:Int) (hout:G5 s g=.best) (hv:¬0<j3 g (j1 s g)) (hq:G5 s (u7 g)=.col c) (hz:G5 s []=.best):
 b9 Tryz.prog 62 [F0 s,j2 g,a9 .i64 hh] [] (av7 (a4E s g c hh)) []:=by
 have le:=a7c h.p hout h.v
 have vb:=h.v g.length
 rw [List.take_length] at vb
 have sg:=K9 (j3 g (j1 s g)) (by omega)
 have sp:¬sgR (j3 g (j1 s g)) > 0:=fun e=>hv (a1d.1 e)
 have hR:=h.p.r
 have op:=a1Q g h.g5 h.p.gb
 have l2:=b32 h.q h.z hq hz
 have hn:=h.p.nn
 have hcn:c<n:=by have:=(a5B hq).1;omega
 have e1:(j1 s []).map fz=rF n (D8 (d6 s).length n (k9 s []) 1 (fun _=>0)):=by unfold j1;rw [a4k,hn]
 have e2:(a5z s (u7 g) c).map fz=rF n (D8 (d6 s).length n (k9 s (u7 g)) 0 (fun q=>if q=c then 1 else 0)):=by unfold a5z;rw [a4k,hn]
 have sm:=b4F n (D8 (d6 s).length n (k9 s []) 1 (fun _=>0)) (D8 (d6 s).length n (k9 s (u7 g)) 0 (fun q=>if q=c then 1 else 0)) (by omega) h.p.o.n1
  (fun j hj=>by
    have:rl (D8 (d6 s).length n (k9 s []) 1 (fun _=>0) j)≤17000:=a5w h.z _ (by unfold j1;rw [hn];exact List.mem_map.2 ⟨j,List.mem_range.2 hj,rfl⟩)
    omega)
  (fun j hj=>by have:=b41 h.q hcn hj;omega)
 rw [← e1,←e2] at sm
 have e3:rF n (fun j=>D8 (d6 s).length n (k9 s []) 1 (fun _=>0) j+D8 (d6 s).length n (k9 s (u7 g)) 0 (fun q=>if q=c then 1 else 0) j)=(a4E s g c hh).w.map fz:=by
  unfold a4E;simp only;rw [a4k,hn]
 rw [e3] at sm
 (refine a8 a7 Tryz.func62 rfl (by decide) ?_;(conv=>whnf);repeat ((first|refine b0x ?_|refine zy ?_);conv=>whnf))
 repeat' first|(refine zd ?_ ?_<;>intro h<;>first|exact zc h|(exfalso;omega)|conv=>whnf)|((first|refine zz ?_|refine qp sg ?_|refine qp op ?_|refine qp sm ?_|refine qp 5 ?_|refine qp 6 ?_|refine qp 0 ?_|refine .inr ⟨_,_,le _,?_⟩|refine .inl ⟨_,_,l2 _,?_⟩|refine bl0 [5] ?_|refine bl0 [6] ?_|refine bl0 [0] ?_|refine zy ?_);conv=>whnf)
 all_goals first
  |(exfalso;omega)
  |exact j5 ⟨rfl,rfl,rfl,rfl,rfl,trivial⟩
set_option maxHeartbeats 4000000 in
theorem ai7 (s:f5) (g:List (Int × Rat)) (n B B1 B0:Nat) (h:aQ9 s g n B B1 B0) (hh:Int) (hout:G5 s g=.best) (hv:¬0<j3 g (j1 s g)) (hq:G5 s (u7 g)=.best) (hv2:j3 (u7 g) (j1 s (u7 g))<0):
 b9 Tryz.prog 62 [F0 s,j2 g,a9 .i64 hh] [] (av7 (b3b s g hh)) []:=by
 have le:=a7c h.p hout h.v
 have vb:=h.v g.length
 rw [List.take_length] at vb
 have ub:=h.u (u7 g).length
 rw [List.take_length] at ub
 have sg:=K9 (j3 g (j1 s g)) (by omega)
 have sp:¬sgR (j3 g (j1 s g)) > 0:=fun e=>hv (a1d.1 e)
 have sg2:=K9 (j3 (u7 g) (j1 s (u7 g))) (by omega)
 have sp2:=ae1.2 hv2
 have hR:=h.p.r
 have op:=a1Q g h.g5 h.p.gb
 have l2:=aX0 h.q hq h.u
 (refine a8 a7 Tryz.func62 rfl (by decide) ?_;(conv=>whnf);repeat ((first|refine b0x ?_|refine zy ?_);conv=>whnf))
 repeat' first|(refine zd ?_ ?_<;>intro h<;>first|exact zc h|(exfalso;omega)|conv=>whnf)|((first|refine zz ?_|refine qp sg ?_|refine qp op ?_|refine qp sg2 ?_|refine qp 5 ?_|refine qp 6 ?_|refine qp 0 ?_|refine qp (0,1) ?_|refine .inr ⟨_,_,le _,?_⟩|refine .inl ⟨_,_,l2 _,?_⟩|refine bl0 [5] ?_|refine bl0 [6] ?_|refine bl0 [0] ?_|refine bl0 [0,1] ?_|refine zy ?_);conv=>whnf)
 all_goals first
  |(exfalso;omega)
  |exact j5 ⟨rfl,rfl,rfl,rfl,rfl,trivial⟩
set_option maxHeartbeats 4000000 in
theorem a92 (s:f5) (g:List (Int × Rat)) (n B B1 B0:Nat) (h:aQ9 s g n B B1 B0) (hh:Int) (hout:G5 s g=.best) (hv:¬0<j3 g (j1 s g)) (hq:G5 s (u7 g)=.best) (hv2:¬j3 (u7 g) (j1 s (u7 g))<0):
 b9 Tryz.prog 62 [F0 s,j2 g,a9 .i64 hh] [] (av7 (a7b s g hh)) []:=by
 have le:=a7c h.p hout h.v
 have vb:=h.v g.length
 rw [List.take_length] at vb
 have ub:=h.u (u7 g).length
 rw [List.take_length] at ub
 have sg:=K9 (j3 g (j1 s g)) (by omega)
 have sp:¬sgR (j3 g (j1 s g)) > 0:=fun e=>hv (a1d.1 e)
 have sg2:=K9 (j3 (u7 g) (j1 s (u7 g))) (by omega)
 have sp2:¬sgR (j3 (u7 g) (j1 s (u7 g)))<0:=fun e=>hv2 (ae1.1 e)
 have hR:=h.p.r
 have op:=a1Q g h.g5 h.p.gb
 have l2:=aX0 h.q hq h.u
 (refine a8 a7 Tryz.func62 rfl (by decide) ?_;(conv=>whnf);repeat ((first|refine b0x ?_|refine zy ?_);conv=>whnf))
 repeat' first|(refine zd ?_ ?_<;>intro h<;>first|exact zc h|(exfalso;omega)|conv=>whnf)|((first|refine zz ?_|refine qp sg ?_|refine qp op ?_|refine qp sg2 ?_|refine qp 5 ?_|refine qp 6 ?_|refine qp 0 ?_|refine qp (0,1) ?_|refine .inr ⟨_,_,le _,?_⟩|refine .inl ⟨_,_,l2 _,?_⟩|refine bl0 [5] ?_|refine bl0 [6] ?_|refine bl0 [0] ?_|refine bl0 [0,1] ?_|refine zy ?_);conv=>whnf)
 all_goals first
  |(exfalso;omega)
  |exact j5 ⟨rfl,rfl,rfl,rfl,(show VC _ (fun id=>I9 [] id=true) (C.own 4 0 s.rows.length true) _ from t8 (k:=flB (rF s.rows.length (y4 s (k9 s (u7 g))))) rfl rfl (fun h=>h) rfl (by show toC ((rF s.rows.length (y4 s (k9 s (u7 g)))).map j7)=toC (((zOf s.rows.length (y4 s (k9 s (u7 g)))).map fz).map j7);rw [a4k]) (by simp [zOf,a7b])),trivial⟩
end
section
open Go.RowKit
structure b6b where
 mv:Int
 mat:Int
def b6b.row (p:b6b):List T:=[ti p.mv,ti p.mat]
end
section
open Go.RowKit
theorem a4v (l:List Int) (hl:l.length≤1000000):b9 Tryz.prog 246 [g6 l] [] (g6 (D6 l)) []:=by
 have l2:(l.map g9).length=l.length:=by simp
 (refine a8 a7 Tryz.func246 rfl (by decide) ?_;(conv=>whnf);repeat (refine zy ?_;conv=>whnf))
 repeat' first|(refine zd ?_ ?_<;>intro h<;>first|exact zc h|(exfalso;omega)|conv=>whnf)|((first|refine zz ?_|refine zy ?_);conv=>whnf)
 refine m9 a7 (σ:=Nat) (fun n=>([g6 l,J,J,a9 .i64 n,J,J,J,J,J,J,J,J,J,J,J,J,J,J,J,J,J,J,J],[])) (fun n=>n≤l.length∧∀j x,n≤j→l[j]? =some x→x=0) (fun n=>n) l.length []
  ⟨Nat.le_refl _,fun j x hj hx=>by rw [List.getElem?_eq_none hj] at hx;cases hx⟩ ⟨rfl,rfl,trivial,⟨j0 rfl,c9 (by simp),trivial⟩⟩ ?_
 rintro n ⟨hn,hz⟩
 have hn:n≤l.length:=hn
 conv=>whnf
 repeat' first|(refine zd ?_ ?_<;>intro h<;>first|exact zc h|(exfalso;omega)|conv=>whnf)|((first|refine zz ?_|refine qp toC ?_|refine qp toC ?_|refine a3i.own ?_|refine B5 (by omega) (a0B (by omega) hn) ?_|refine a0D (by omega) (by omega) (by omega) ?_|refine t9 (by simp [toC]) (by simp [toC];omega) ?_|refine zy ?_);conv=>whnf)
 ·have h0:dat l (n - 1)=0:=by assumption
  have h1:0<n:=by omega
  refine ⟨[],n - 1,⟨rfl,rfl,trivial,⟨rfl,c9 (by omega),trivial⟩⟩,⟨by omega,fun j x hj hxj=>?_⟩,by show n - 1<n;omega⟩
  by_cases hj2:j=n - 1
  ·subst hj2;rw [s6 (by omega)] at hxj;injection hxj with hx;rw [← hx];exact h0
  ·exact hz j x (by omega) hxj
 all_goals
  have e:l.take n=D6 l:=a1X hz (fun x h0 hx=>by
   first
    |(exfalso;omega)
    |(rw [s6 (by omega)] at hx;injection hx with hx;rw [← hx];assumption)) hn
  rw [← e]
  refine N4 rfl (by intro h;cases h) rfl ?_ ?_
  ·simp [toC,C5,List.map_take]
  ·simp [toC]
theorem b3B (s:Int) (l:List Int) (hl:l.length≤1000000):b9 Tryz.prog 183 [a9 .i64 s,g6 l] [] (bgS (sgn s l)) []:=by
 (refine a8 a7 Tryz.func183 rfl (by decide) ?_;(conv=>whnf);repeat (refine zy ?_;conv=>whnf))
 repeat' first|(refine zd ?_ ?_<;>intro h<;>first|exact zc h|(exfalso;omega)|conv=>whnf)|((first|refine zz ?_|refine qp (a4v l hl) ?_|refine zy ?_);conv=>whnf)
 ·have h0:(D6 l).length=0:=by simp at *;assumption
  unfold sgn
  rw [if_pos h0]
  exact j5 ⟨rfl,rfl,trivial⟩
 ·have h0:¬(D6 l).length=0:=by simp at *;assumption
  unfold sgn
  rw [if_neg h0]
  exact j5 ⟨rfl,rfl,trivial⟩
theorem G0 (s:Int) (k:Nat) (h:s=1∨s=-1∨k=0) (lk:(dg k).length≤700000):
 b9 Tryz.prog 183 [a9 .i64 s,g6 (dg k)] [] (bgS (bz (s*k))) []:=by
 have e:=b3B s (dg k) (by omega)
 rw [ay3 (p4 k) (by rw [m6];omega),m6] at e
 exact e
theorem a3I (l:List Int) (i:Nat) (hl:l.length≤1000000):b9 Tryz.prog 247 [g6 l,a9 .i64 i] [] (a9 .i64 (dat l i)) []:=by
 have l2:(l.map g9).length=l.length:=by simp
 (refine a8 a7 Tryz.func247 rfl (by decide) ?_;(conv=>whnf);repeat (refine zy ?_;conv=>whnf))
 repeat' first|(refine zd ?_ ?_<;>intro h<;>first|exact zc h|(exfalso;omega)|conv=>whnf)|((first|refine zz ?_|refine d7 (s6 (by omega)) ?_|refine zy ?_);conv=>whnf)
 all_goals first
  |exact j8 rfl
  |exact j8 (L9 (by omega)).symm
end
section
theorem a3R (l:List Int) (i:Nat):val (l.drop i)=dat l i+1048576*val (l.drop (i+1)):=by
 by_cases h:i<l.length
 ·exact a4Z h
 ·rw [List.drop_of_length_le (by omega),List.drop_of_length_le (by omega),L9 (by omega)];rfl
theorem a8I (l:List Int) (i:Nat):val l=val (l.take i)+pw i*val (l.drop i):=by
 by_cases h:i≤l.length
 ·exact a3O l i h
 ·rw [List.drop_of_length_le (by omega),lg4 (by omega)];simp [val]
theorem a4W {l:List Int} (h:Okd l) (i:Nat):0≤val (l.take i)∧val (l.take i)<pw i:=by
 refine ⟨s8 (h.take i),?_⟩
 have h1:=R6 (h.take i)
 have h2:=a08 (i:=(l.take i).length) (j:=i) (by simp;omega)
 omega
theorem aq9 {a b:List Int} (ha:Okd a) (hb:Okd b) {i:Nat} (h:val (a.drop (i+1))=val (b.drop (i+1))) (hd:dat a i<dat b i):val a<val b:=by
 rw [a8I a i,a8I b i,a3R a i,a3R b i,h]
 have h1:=a4W ha i
 have h2:=a4W hb i
 have hp:=N0 i
 have h3:=Int.mul_le_mul_of_nonneg_left (a:=dat a i+1048576*val (b.drop (i+1))+1) (b:=dat b i+1048576*val (b.drop (i+1))) (c:=pw i) (by omega) (by omega)
 rw [Int.mul_add _ _ (1:Int)] at h3
 omega
theorem a3Y (l:List Int):val (l.drop 0)=val l:=by rw [List.drop_zero]
structure a96 (a b:List Int) (i:Nat) (out:List Int) (c:Int):Prop where
 len:out.length=i
 ok:Okd out
 le:i≤a.length
 c0:0≤c
 c1:c≤1
 eq:val out - pw i*c=val (a.take i) - val (b.take i)
theorem a96.init (a b:List Int):a96 a b 0 [] 0:=⟨rfl,.nil,Nat.zero_le _,by decide,by decide,by simp [val]⟩
theorem a96.step {a b out:List Int} {i:Nat} {c n c':Int} (h:a96 a b i out c) (ha:Okd a) (hb:Okd b) (hi:i<a.length) (hn:n=dat a i - dat b i - c+1048576*c') (h0:0≤n∧n<1048576) (hc:0≤c'∧c'≤1):
 a96 a b (i+1) (out++[n]) c':=by
 refine ⟨by simp [h.len],h.ok.append (Okd.cons h0 .nil),hi,hc.1,hc.2,?_⟩
 rw [I6,h.len,o8,o8,C8]
 have:=h.eq
 simp only [val]
 rw [hn]
 grind
theorem a96.fin {a b out:List Int} {c:Int} (h:a96 a b a.length out c) (ha:Okd a) (hb:Okd b) (hl:b.length≤a.length) (hv:val b≤val a):D6 out=dg (val a - val b).toNat:=by
 have h1:=h.eq
 rw [lg4 (Nat.le_refl _),lg4 hl] at h1
 have h2:=R6 h.ok
 rw [h.len] at h2
 have hc:c=0:=by
  have:=h.c0
  have:=h.c1
  rcases Int.lt_or_le 0 c with h3|h3
  ·have:c=1:=by omega
   subst this
   omega
  ·omega
 subst hc
 rw [G9 h.ok]
 congr 2
 simp at h1
 exact h1
structure b2I (a b:List Int) (i k:Nat) (out:List Int) (c:Int):Prop where
 out:(a86 a b i k out c∧k≤b.length)∨(k=b.length+1∧c=0∧a2B a b (i+1) out)
theorem b26 {l:List Int} {i:Nat}:l.set i (dat l i)=l:=by
 by_cases h:i<l.length
 ·apply List.ext_getElem?
  intro j
  by_cases hj:i=j
  ·subst hj;rw [List.getElem?_set_self h];unfold dat;rw [lg3,lg0 h];rfl
  ·rw [List.getElem?_set_ne hj]
 ·rw [List.set_eq_of_length_le (by omega)]
theorem b2I.exit {a b out:List Int} {i k:Nat} {c:Int} (h:b2I a b i k out c) (ha:Okd a) (hb:Okd b) (hi:i<a.length) (hk:b.length≤k) (hc:c≤0):a2B a b (i+1) out:=by
 rcases h.out with ⟨h1,h2⟩|⟨h1,h2,h3⟩
 ·have hk:k=b.length:=by omega
  subst hk
  have hc:c=0:=by have:=h1.c0;omega
  subst hc
  have:=h1.done ha hb hi
  rw [Int.add_zero,b26] at this
  exact this
 ·exact h3
theorem aT9 {r d:Nat} {x:Int} (hx:0≤x∧x<1048576):D6 (x::dg r)=dg (r*1048576+x.toNat):=by
 rw [G9 (Okd.cons hx (p4 r))]
 congr 1
 simp only [val,m6]
 omega
end
section
open Go.RowKit
theorem b0L (a b:List Int) (ha:Okd a) (hb:Okd b) (la:a.length≤1000000) (lb:b.length≤1000000):b9 Tryz.prog 186 [g6 a,g6 b] [] (e6 (decide (val a<val b))) []:=by
 have l1:(a.map g9).length=a.length:=by simp
 have l2:(b.map g9).length=b.length:=by simp
 (refine a8 a7 Tryz.func186 rfl (by decide) ?_;(conv=>whnf);repeat (refine zy ?_;conv=>whnf))
 repeat' first|(refine zd ?_ ?_<;>intro h<;>first|exact zc h|(exfalso;omega)|conv=>whnf)|((first|refine zz ?_|refine qp cond ?_|refine ⟨_,y9 (y:=((max a.length b.length:Nat):Int) - 1) (by simp only [cond];split<;>omega) (by omega) (by omega),?_⟩|refine zy ?_);conv=>whnf)
 refine m9 a7 (σ:=Nat) (fun k=>([g6 a,g6 b,J,J,J,a9 .i64 ((k:Int) - 1),J,J,J,J,J,J,J,J,J,J,J,J,J,J,J,J,J,J,J,J,J,J,J,J],[])) (fun k=>k≤1000000∧val (a.drop k)=val (b.drop k)) (fun k=>k) (max a.length b.length) []
  ⟨by omega,by rw [List.drop_of_length_le (by omega),List.drop_of_length_le (by omega)]⟩ ⟨rfl,rfl,trivial,⟨j0 rfl,j0 rfl,rfl,trivial⟩⟩ ?_
 rintro k ⟨hk,hd⟩
 have hk:k≤1000000:=hk
 have hd:val (a.drop k)=val (b.drop k):=hd
 by_cases h0:0<k
 ·obtain ⟨i,rfl⟩:∃i,k=i+1:=⟨k - 1,by omega⟩
  have d1:=a3I a i la
  have d2:=a3I b i lb
  have ei:(((i+1:Nat):Int) - 1)=i:=by omega
  rw [ei]
  conv=>whnf
  repeat' first|(refine zd ?_ ?_<;>intro h<;>first|exact zc h|(exfalso;omega)|conv=>whnf)|((first|refine zz ?_|refine qp d1 ?_|refine qp d2 ?_|refine zy ?_);conv=>whnf)
  ·have h:=aq9 ha hb hd (by assumption)
   exact c6 (by simp [h])
  ·have h:=aq9 hb ha hd.symm (by omega)
   exact c6 (by simp;omega)
  ·have he:dat a i=dat b i:=by omega
   refine ⟨[],i,⟨rfl,rfl,trivial,⟨rfl,rfl,rfl,trivial⟩⟩,⟨by omega,?_⟩,by show i<i+1;omega⟩
   rw [a3R a i,a3R b i,he,hd]
 ·obtain rfl:k=0:=by omega
  rw [a3Y,a3Y] at hd
  conv=>whnf
  repeat' first|(refine zd ?_ ?_<;>intro h<;>first|exact zc h|(exfalso;omega)|conv=>whnf)|((first|refine zz ?_|refine zy ?_);conv=>whnf)
  all_goals first
   |(exfalso;omega)
   |exact c6 (by simp;omega)
theorem aM0 (a b:List Int) (ha:Okd a) (hb:Okd b) (la:a.length≤400000) (lb:b.length≤a.length) (hv:val b≤val a):
 b9 Tryz.prog 187 [g6 a,g6 b] [] (g6 (dg (val a - val b).toNat)) []:=by
 have l1:(a.map g9).length=a.length:=by simp
 have l2:(b.map g9).length=b.length:=by simp
 (refine a8 a7 Tryz.func187 rfl (by decide) ?_;(conv=>whnf);repeat (refine zy ?_;conv=>whnf))
 repeat' first|(refine zd ?_ ?_<;>intro h<;>first|exact zc h|(exfalso;omega)|conv=>whnf)|((first|refine zz ?_|refine zy ?_);conv=>whnf)
 refine m9 a7 (σ:=Nat × List Int × Int) (fun|(k,out,c)=>([g6 a,g6 b,J,J,J,X2 0 out,a9 .i64 c,a9 .i64 k,J,J,J,J,J,J,J,J,J,J,J,J,J,J,J,J,J,J,J,J,J,J,J,J,J,J,J],[x8 out])) (fun x=>a96 a b x.1 x.2.1 x.2.2) (fun x=>a.length - x.1) (0,[],0) [none]
  (a96.init a b) ⟨rfl,rfl,⟨⟨rfl,rfl⟩,trivial⟩,⟨j0 rfl,j0 rfl,⟨rfl,rfl,rfl⟩,rfl,rfl,trivial⟩⟩ ?_
 rintro ⟨k,out,c⟩ hI
 have hI:a96 a b k out c:=hI
 have hlen:=hI.len
 have hle:=hI.le
 have hc0:=hI.c0
 have hc1:=hI.c1
 have hda:=ha.dat k
 have hdb:=hb.dat k
 have d2:=a3I b k (by omega)
 conv=>whnf
 repeat' first|(refine zd ?_ ?_<;>intro h<;>first|exact zc h|(exfalso;omega)|conv=>whnf)|((first|refine zz ?_|refine qp d2 ?_|refine qp toC ?_|refine qp toC ?_|refine d7 (s6 (by omega)) ?_|refine t9 (by simp [toC]) (by simp [toC];omega) ?_|refine zy ?_);conv=>whnf)
 ·have hst:=hI.step ha hb (n:=dat a k - dat b k - c+1048576) (c':=1) (by omega) (by omega) (by omega) (by omega)
  refine ⟨[some 1],(k+1,out++[dat a k - dat b k - c+1048576],1),⟨rfl,rfl,⟨b8 rfl rfl rfl a0T rfl,trivial⟩,⟨rfl,rfl,j9 rfl (by simp [toC]),rfl,c9 (by omega),trivial⟩⟩,hst,?_⟩
  show a.length - (k+1)<a.length - k
  omega
 ·have hst:=hI.step ha hb (n:=dat a k - dat b k - c) (c':=0) (by omega) (by omega) (by omega) (by omega)
  refine ⟨[some 1],(k+1,out++[dat a k - dat b k - c],0),⟨rfl,rfl,⟨b8 rfl rfl rfl a0T rfl,trivial⟩,⟨rfl,rfl,j9 rfl (by simp [toC]),rfl,c9 (by omega),trivial⟩⟩,hst,?_⟩
  show a.length - (k+1)<a.length - k
  omega
 ·have hk:k=a.length:=by omega
  subst hk
  have hf:=hI.fin ha hb lb hv
  have t:=a4v out (by omega)
  rw [hf] at t
  refine .inr ⟨_,_,t4 [0] t ⟨a09 (t8 (by simp) rfl (by intro h;cases h) rfl rfl (by simp)),trivial⟩ rfl,?_⟩
  conv=>whnf
  exact a8T rfl
end
section
open Go.RowKit
theorem b38 {a:Int} (h:0≤a):a.tmod 1048576=a % 1048576:=Int.tmod_eq_emod_of_nonneg h
set_option maxHeartbeats 1000000 in
theorem aJ9 (a b:List Int) (ha:Okd a) (hb:Okd b) (la:a.length≤400000) (lb:b.length≤400000):
 b9 Tryz.prog 184 [g6 a,g6 b] [] (g6 (dg (val a*val b).toNat)) []:=by
 have l1:(a.map g9).length=a.length:=by simp
 have l2:(b.map g9).length=b.length:=by simp
 (refine a8 a7 Tryz.func184 rfl (by decide) ?_;(conv=>whnf);repeat (refine zy ?_;conv=>whnf))
 repeat' first|(refine zd ?_ ?_<;>intro h<;>first|exact zc h|(exfalso;omega)|conv=>whnf)|((first|refine zz ?_|refine a3n (by omega) (by omega) (by omega) (by decide) ?_|refine zy ?_);conv=>whnf)
 refine m9 a7 (σ:=Nat × List Int) (fun|(i,out)=>([g6 a,g6 b,J,J,J,X2 0 out,a9 .i64 i,J,J,J,J,J,J,J,J,J,J,J,J,J,J,J,J,J,J,J,J,J,J,J,J,J,J,J,J,J,J,J,J,J,J,J,J,J,J,J,J,J,J,J,J,J,J,J,J,J,J,J,J,J],[x8 out])) (fun x=>a2B a b x.1 x.2) (fun x=>a.length - x.1) (0,List.replicate (a.length+b.length) 0) [some 0]
  (a2B.init a b) ⟨rfl,rfl,⟨b8 rfl rfl rfl ?_ rfl,trivial⟩,⟨j0 rfl,j0 rfl,j9 rfl (by simp;omega),rfl,trivial⟩⟩ ?_
 ·show List.replicate _ _=_
  rw [show ((((a.map g9).length:Nat):Int)+((b.map g9).length:Nat)).toNat=a.length+b.length by omega]
  simp [toC,g9,E0]
 rintro ⟨i,out⟩ hI
 have hI:a2B a b i out:=hI
 have hlen:=hI.len
 have hle:=hI.le
 conv=>whnf
 repeat' first|(refine zd ?_ ?_<;>intro h<;>first|exact zc h|(exfalso;omega)|conv=>whnf)|((first|refine zz ?_|refine zy ?_);conv=>whnf)
 ·have hi:i<a.length:=by omega
  refine m9 a7 (σ:=Nat × List Int × Int) (fun|(k,out,c)=>([g6 a,g6 b,J,J,J,X2 0 out,a9 .i64 i,a9 .i64 c,a9 .i64 k,J,J,J,J,J,J,J,J,J,J,J,J,J,J,J,J,J,J,J,J,J,J,J,J,J,J,J,J,J,J,J,J,J,J,J,J,J,J,J,J,J,J,J,J,J,J,J,J,J,J,J],[x8 out])) (fun x=>b2I a b i x.1 x.2.1 x.2.2) (fun x=>b.length+1 - x.1) (0,out,0) [some 0]
   ⟨.inl ⟨hI.start,Nat.zero_le _⟩⟩ ⟨rfl,rfl,⟨b8 rfl rfl rfl rfl rfl,trivial⟩,⟨j0 rfl,j0 rfl,j9 rfl rfl,rfl,rfl,rfl,trivial⟩⟩ ?_
  rintro ⟨k,out,c⟩ hT
  have hT:b2I a b i k out c:=hT
  have hdb:=hb.dat k
  have hda:=ha.dat i
  have hm:=a2s (ha.dat i) (hb.dat k)
  have d2:=a3I b k (by omega)
  have e1:((i:Int)+k).toNat=i+k:=by omega
  rcases hT.out with ⟨hK,hkb⟩|⟨hk1,hc,hM⟩
  ·have hlen:=hK.len
   have hc0:=hK.c0
   have hc1:=hK.c1
   have hdo:=hK.ok.dat (i+k)
   have hz:k=b.length→dat out (i+k)=0∧dat b k=0:=fun h=>⟨hK.zero _ (by omega),L9 (by omega)⟩
   have hzm:k=b.length→dat a i*dat b k=0:=fun h=>by rw [(hz h).2,Int.mul_zero]
   conv=>whnf
   repeat' first|(refine zd ?_ ?_<;>intro h<;>first|exact zc h|(exfalso;omega)|conv=>whnf)|((first|refine zz ?_|refine qp d2 ?_|refine d7 (s6 (by omega)) ?_|refine X7 (by omega) (by show _<((out.length:Nat):Int);omega) ?_|refine o6 (J3 e1 (by omega)) ?_|refine ⟨by decide,_,aU1 (by omega) (by omega) (by decide),?_⟩|refine aa3 (by decide) ?_|refine zy ?_);conv=>whnf)
   all_goals have hn:0≤dat out (i+k)+dat a i*dat b k+c:=by omega
   ·have hst:=hK.step ha hb hi (by omega)
    refine ⟨[some 0],(k+1,out.set (i+k) ((dat out (i+k)+dat a i*dat b k+c) % 1048576),(dat out (i+k)+dat a i*dat b k+c) / 1048576),⟨rfl,rfl,⟨b8 rfl rfl rfl ?_ rfl,trivial⟩,⟨rfl,rfl,j9 rfl (by simp),rfl,rfl,rfl,trivial⟩⟩,⟨.inl ⟨hst,by omega⟩⟩,?_⟩
    ·rw [← b38 hn];exact H8 (by omega)
    ·show b.length+1 - (k+1)<b.length+1 - k;omega
   ·have hkb2:k=b.length:=by omega
    obtain ⟨z1,z2⟩:=hz hkb2
    have z3:=hzm hkb2
    have en:dat out (i+k)+dat a i*dat b k+c=c:=by omega
    have hdone:=hK
    rw [hkb2] at hdone
    have hdone:=hdone.done ha hb hi
    rw [← hkb2] at hdone
    refine ⟨[some 0],(k+1,out.set (i+k) ((dat out (i+k)+dat a i*dat b k+c) % 1048576),(dat out (i+k)+dat a i*dat b k+c) / 1048576),⟨rfl,rfl,⟨b8 rfl rfl rfl ?_ rfl,trivial⟩,⟨rfl,rfl,j9 rfl (by simp),rfl,rfl,rfl,trivial⟩⟩,⟨.inr ⟨by show k+1=b.length+1;omega,by show (dat out (i+k)+dat a i*dat b k+c) / 1048576=0;omega,?_⟩⟩,?_⟩
    ·rw [← b38 hn];exact H8 (by omega)
    ·have e2:(dat out (i+k)+dat a i*dat b k+c) % 1048576=dat out (i+k)+c:=by omega
     rw [e2];exact hdone
    ·show b.length+1 - (k+1)<b.length+1 - k;omega
   ·have hx:=hT.exit ha hb hi (by omega) (by omega)
    exact ⟨[some 0],(i+1,out),⟨rfl,rfl,⟨b8 rfl rfl rfl rfl rfl,trivial⟩,⟨rfl,rfl,j9 rfl rfl,c9 (by omega),trivial⟩⟩,hx,by show a.length - (i+1)<a.length - i;omega⟩
  ·have hlen:=hM.len
   have hx:=hT.exit ha hb hi (by omega) (by omega)
   conv=>whnf
   repeat' first|(refine zd ?_ ?_<;>intro h<;>first|exact zc h|(exfalso;omega)|conv=>whnf)|((first|refine zz ?_|refine zy ?_);conv=>whnf)
   all_goals first
    |(exfalso;omega)
    |exact ⟨[some 0],(i+1,out),⟨rfl,rfl,⟨b8 rfl rfl rfl rfl rfl,trivial⟩,⟨rfl,rfl,j9 rfl rfl,c9 (by omega),trivial⟩⟩,hx,by show a.length - (i+1)<a.length - i;omega⟩
 ·have hi:i=a.length:=by omega
  subst hi
  have hf:=hI.fin
  have t:=a4v out (by omega)
  rw [hf] at t
  refine .inr ⟨_,_,t4 [0] t ⟨a09 (t8 (by simp) rfl (by intro h;cases h) rfl rfl (by simp)),trivial⟩ rfl,?_⟩
  conv=>whnf
  exact a8T rfl
theorem ap3 (m n:Nat) (lm:(dg m).length≤300000) (ln:(dg n).length≤300000):
 b9 Tryz.prog 184 [g6 (dg m),g6 (dg n)] [] (g6 (dg (m*n))) []:=by
 have h:=aJ9 (dg m) (dg n) (p4 m) (p4 n) (by omega) (by omega)
 rw [m6,m6,show ((m:Int)*n).toNat=m*n by rw [← Int.natCast_mul];rfl] at h
 exact h
end
section
open Go.RowKit
set_option maxHeartbeats 1000000 in
theorem b01 (m n:Nat) (hn:0<n) (lm:(dg m).length≤200000) (ln:(dg n).length≤200000):
 b9 Tryz.prog 244 [g6 (dg m),g6 (dg n)] [] (aA8 m n) []:=by
 have l1:((dg m).map g9).length=(dg m).length:=by simp
 have l2:((dg n).map g9).length=(dg n).length:=by simp
 (refine a8 a7 Tryz.func244 rfl (by decide) ?_;(conv=>whnf);repeat (refine zy ?_;conv=>whnf))
 repeat' first|(refine zd ?_ ?_<;>intro h<;>first|exact zc h|(exfalso;omega)|conv=>whnf)|((first|refine zz ?_|refine a3n (by omega) (by omega) (by omega) (by decide) ?_|refine zy ?_);conv=>whnf)
 refine m9 a7 (σ:=Nat × List Int × Nat) (fun|(j,q,r)=>([g6 (dg m),g6 (dg n),J,J,J,J,X2 0 q,g6 (dg r),a9 .i64 ((j:Int) - 1),J,J,J,J,J,J,J,J,J,J,J,J,J,J,J,J,J,J,J,J,J,J,J,J,J,J,J,J,J,J,J,J,J,J,J,J,J,J,J,J,J,J,J,J,J,J,J,J,J,J,J],[x8 q])) (fun x=>X5 (dg m) n x.1 x.2.1 x.2.2) (fun x=>x.1) ((dg m).length,List.replicate (dg m).length 0,0) [some 0]
  (X5.init _ (by omega)) ⟨rfl,rfl,⟨b8 rfl rfl rfl ?_ rfl,trivial⟩,⟨j0 rfl,j0 rfl,j9 rfl (by simp),rfl,c9 (by omega),trivial⟩⟩ ?_
 ·show List.replicate _ _=_
  simp [toC,g9,E0]
 rintro ⟨j,q,r⟩ hI
 have hI:X5 (dg m) n j q r:=hI
 have hlen:=hI.len
 have hle:=hI.le
 have hr1:=hI.r1
 by_cases hj:0<j
 ·obtain ⟨i,rfl⟩:∃i,j=i+1:=⟨j - 1,by omega⟩
  have ei:(((i+1:Nat):Int) - 1)=i:=by omega
  have hda:=(p4 m).dat i
  obtain ⟨y,hy⟩:=Int.eq_ofNat_of_zero_le hda.1
  have lr:=n7 (show r≤n by omega)
  have lm2:i<(dg m).length:=by omega
  generalize hR:r*1048576+y=R
  have hRn:R<n*1048576:=by
   have:=Nat.mul_le_mul_right 1048576 (show r+1≤n by omega)
   rw [Nat.add_mul] at this
   omega
  have lR:(dg R).length≤(dg n).length+1:=J8 (by
   have h1:=L7 n
   rw [C8]
   have h2:=Int.mul_le_mul_of_nonneg_right (a:=(n:Int)+1) (b:=pw (dg n).length) (c:=1048576) (by omega) (by decide)
   omega)
  have tr:=a4v (dat (dg m) i::dg r) (by simp;omega)
  rw [aT9 (d:=n) hda,hy,Int.toNat_natCast,hR] at tr
  conv=>whnf
  repeat' first|(refine zd ?_ ?_<;>intro h<;>first|exact zc h|(exfalso;omega)|conv=>whnf)|((first|refine zz ?_|refine qp (toC,C5) ?_|refine qp toC ?_|refine qp 2 ?_|refine qp (toC,C5,g9,hy) ?_|refine qp (toC,Nat.add_comm) ?_|refine a3i.own ?_|refine x3 ei (s6 (by omega)) ?_|refine t9 (by simp [toC,C5]) (by simp [toC];omega) ?_|refine .inr ⟨_,_,t4 [2] tr ⟨a09 (t8 (by simp) rfl (by intro h;cases h) rfl (by simp [toC,C5,g9,hy]) (by simp [toC,Nat.add_comm])),trivial⟩ rfl,?_⟩|refine zy ?_);conv=>whnf)
  refine m9 a7 (σ:=Nat × Nat) (fun|(lo,hi)=>([g6 (dg m),g6 (dg n),J,J,J,J,X2 0 q,g6 (dg R),a9 .i64 i,a9 .i64 lo,a9 .i64 hi,J,J,J,J,J,J,J,J,J,J,J,J,J,J,J,J,J,J,J,J,J,J,J,J,J,J,J,J,J,J,J,J,J,J,J,J,J,J,J,J,J,J,J,J,J,J,J,J,J],[x8 q])) (fun x=>x.1*n≤R∧R<x.2*n∧x.1<x.2∧x.2≤1048576) (fun x=>x.2 - x.1) (0,1048576) [some 0]
   ⟨by simp,by show R<1048576*n;rw [Nat.mul_comm];exact hRn,by decide,by decide⟩ ⟨rfl,rfl,⟨b8 rfl rfl rfl rfl rfl,trivial⟩,⟨rfl,rfl,j9 rfl rfl,rfl,c9 ei,rfl,rfl,trivial⟩⟩ ?_
  rintro ⟨lo,hi⟩ ⟨i1,i2,i3,i4⟩
  have i1:lo*n≤R:=i1
  have i2:R<hi*n:=i2
  have i3:lo<hi:=i3
  have i4:hi≤1048576:=i4
  have ln1:(dg n).length≤200000:=ln
  by_cases hc:1<hi - lo
  ·have hmid:(((lo:Int)+hi) / 2)=(((lo+hi) / 2:Nat):Int):=by omega
   generalize hM:(lo+hi) / 2=mid at hmid
   have tm:=aJ9 (dg n) [(mid:Int)] (p4 n) (by intro x hx;simp at hx;omega) (by omega) (by simp)
   have e0:val [(mid:Int)]=mid:=by simp [val]
   rw [e0,m6,show ((n:Int)*mid).toNat=n*mid by rw [← Int.natCast_mul];rfl] at tm
   have lnm:(dg (n*mid)).length≤(dg n).length+1:=Nat.le_trans (a2e _ _) (by have:=p8 (x:=(mid:Int)) (by omega) (by omega);simp only [bl,Int.natAbs_natCast] at this;omega)
   have ls:=b0L (dg R) (dg (n*mid)) (p4 _) (p4 _) (by omega) (by omega)
   rw [m6,m6] at ls
   conv=>whnf
   repeat' first|(refine zd ?_ ?_<;>intro h<;>first|exact zc h|(exfalso;omega)|conv=>whnf)|((first|refine zz ?_|refine qp ls ?_|refine qp (Int.tdiv_eq_ediv_of_nonneg (by omega)) ?_|refine ⟨by decide,_,y9 (y:=(mid:Int)) (by rw [Int.tdiv_eq_ediv_of_nonneg (by omega)];exact hmid) (by omega) (by omega),?_⟩|refine .inl ⟨_,_,a0N tm ⟨ai6,a09 (ai0 rfl),trivial⟩ rfl,?_⟩|refine zy ?_);conv=>whnf)
   ·have hlt:R<n*mid:=Int.ofNat_lt.1 (of_decide_eq_true (by assumption))
    exact ⟨[some 0],(lo,mid),⟨rfl,rfl,⟨b8 rfl rfl rfl rfl rfl,trivial⟩,⟨rfl,rfl,j9 rfl rfl,rfl,rfl,rfl,rfl,trivial⟩⟩,⟨i1,by show R<mid*n;rw [Nat.mul_comm];exact hlt,by show lo<mid;omega,by show mid≤1048576;omega⟩,by show mid - lo<hi - lo;omega⟩
   ·have hlt:n*mid≤R:=Nat.not_lt.1 (fun h=>absurd (Int.ofNat_lt.2 h) (of_decide_eq_false (by assumption)))
    exact ⟨[some 0],(mid,hi),⟨rfl,rfl,⟨b8 rfl rfl rfl rfl rfl,trivial⟩,⟨rfl,rfl,j9 rfl rfl,rfl,rfl,rfl,rfl,trivial⟩⟩,⟨by show mid*n≤R;rw [Nat.mul_comm];exact hlt,i2,by show mid<hi;omega,i4⟩,by show hi - mid<hi - lo;omega⟩
  ·obtain rfl:hi=lo+1:=by omega
   have hq:R / n=lo:=by
    rw [Nat.div_eq_iff hn]
    rw [Nat.add_mul] at i2
    omega
   have hm2:=Nat.div_add_mod R n
   rw [hq] at hm2
   have hrm:=Nat.mod_lt R hn
   have tl:=a4v [(lo:Int)] (by simp)
   rw [G9 (by intro x hx;simp at hx;omega),show (val [(lo:Int)]).toNat=lo by simp [val]] at tl
   have llo:(dg lo).length≤1:=by have:=p8 (x:=(lo:Int)) (by omega) (by omega);simpa [bl] using this
   have tt:=ap3 n lo (by omega) (by omega)
   have mi:=aM0 (dg R) (dg (n*lo)) (p4 _) (p4 _) (by omega) (n7 (by omega)) (by rw [m6,m6];omega)
   rw [m6,m6,show ((R:Int) - ((n*lo:Nat):Int)).toNat=R % n by omega] at mi
   have hst:=hI.step (p4 m) (by omega)
   have c1:((r:Int)*1048576+dat (dg m) i)=(R:Int):=by rw [hy,←hR];simp
   rw [c1] at hst
   have c2:(R:Int) / n=(lo:Int):=by rw [← hq];simp
   have c3:(R:Int) % n=((R % n:Nat):Int):=by simp
   rw [c2,c3] at hst
   have gq:q[0+(i:Int).toNat]? =some (dat q i):=J3 (by omega) (by omega)
   conv=>whnf
   repeat' first|(refine zd ?_ ?_<;>intro h<;>first|exact zc h|(exfalso;omega)|conv=>whnf)|((first|refine zz ?_|refine qp tt ?_|refine qp mi ?_|refine .inl ⟨_,_,a0N tl ⟨a09 (ai0 rfl),trivial⟩ rfl,?_⟩|refine X7 (by omega) (by show _<((q.length:Nat):Int);omega) ?_|refine o6 gq ?_|refine zy ?_);conv=>whnf)
   all_goals try (exfalso;omega)
   refine ⟨[some 0],(i,q.set i lo,R % n),⟨rfl,rfl,⟨b8 rfl rfl rfl (H8 (by omega)) rfl,trivial⟩,⟨rfl,rfl,j9 rfl (by simp),rfl,c9 (by omega),trivial⟩⟩,hst,by show i<i+1;omega⟩
 ·obtain rfl:j=0:=by omega
  obtain ⟨f1,f2⟩:=hI.fin (p4 m) (by omega)
  have tq:=a4v q (by have:=hI.len;omega)
  rw [f1,m6,show ((m:Int) / n).toNat=m / n by rw [← Int.natCast_ediv];rfl] at tq
  rw [m6] at f2
  have f3:r=m % n:=by
   have:(m:Int) % n=((m % n:Nat):Int):=by simp
   omega
  subst f3
  conv=>whnf
  repeat' first|(refine zd ?_ ?_<;>intro h<;>first|exact zc h|(exfalso;omega)|conv=>whnf)|((first|refine zz ?_|refine qp 0 ?_|refine .inr ⟨_,_,t4 [0] tq ⟨a09 (t8 (by simp) rfl (by intro h;cases h) rfl rfl (by simp)),trivial⟩ rfl,?_⟩|refine zy ?_);conv=>whnf)
  all_goals try (exfalso;omega)
  exact j5 ⟨rfl,rfl,trivial⟩
end
section
open Go.RowKit
theorem a2k (b:Bg) (hl:b.dl.length≤1000000):b9 Tryz.prog 180 [bgS b] [] (e6 (E9 b)) []:=by
 have l2:(b.dl.map g9).length=b.dl.length:=by simp
 (refine a8 a7 Tryz.func180 rfl (by decide) ?_;(conv=>whnf);repeat ((first|refine b0x ?_|refine zy ?_);conv=>whnf))
 repeat' first|(refine zd ?_ ?_<;>intro h<;>first|exact zc h|(exfalso;omega)|conv=>whnf)|((first|refine zz ?_|refine zy ?_);conv=>whnf)
 refine f6 a7 (fun k=>([J,S.c (C.t (T.ptr [ti b.sg,I8 b.dl])),J,a9 .i64 k,J,J,J,J,J,J,J,J,J,J,J,J,J,J,J,J,J,J,J,J,J,J,J,J,J,J,J,J,J,J,J,J,J,J,J,J,J,J,J,J,J,J,J,J,J,J,J,J,J,J,J,J],[])) b.dl.length (fun k=>(b.dl.take k).all inD=true) [] rfl
  ⟨rfl,rfl,trivial,⟨j0 rfl,rfl,trivial⟩⟩ ?_
 intro k hk hI
 by_cases hlt:k<b.dl.length
 ·conv=>whnf
  repeat' first|(refine zd ?_ ?_<;>intro h<;>first|exact zc h|(exfalso;omega)|conv=>whnf)|((first|refine zz ?_|refine d7 (s6 (by omega)) ?_|refine zy ?_);conv=>whnf)
  all_goals first
   |(exfalso;omega)
   |exact ⟨hlt,by rw [o4 (s6 hlt),hI];simp [inD];omega,[],rfl,rfl,trivial,⟨rfl,rfl,trivial⟩⟩
   |(refine c6 ?_;unfold E9;rw [t7 (s6 hlt) (by simp [inD];omega)];rfl)
 ·have hke:k=b.dl.length:=by omega
  subst hke
  have ha:b.dl.all inD=true:=by rw [← hI,lg4 (by omega)]
  have hgl:0<b.dl.length→b.dl[((((b.dl.map g9).length:Nat):Int) - 1).toNat]? =some (dat b.dl (b.dl.length - 1)):=fun h=>by rw [l2];exact a4V h
  conv=>whnf
  repeat' first|(refine zd ?_ ?_<;>intro h<;>first|exact zc h|(exfalso;omega)|conv=>whnf)|((first|refine zz ?_|refine B5 (by omega) (hgl (by omega)) ?_|refine zy ?_);conv=>whnf)
  all_goals first
   |(exfalso;omega)
   |(exfalso;simp_all;done)
   |(exfalso;simp_all;omega)
   |skip
  all_goals
   refine c6 ?_
   unfold E9
   rw [ha]
   by_cases hz:b.dl.length=0
   ·rw [if_pos hz];simp_all<;>omega
   ·rw [if_neg hz];simp_all<;>omega
theorem Y0 (x:Int) (lx:bl x≤300000):b9 Tryz.prog 180 [bgS (bz x)] [] (e6 true) []:=by
 have:=a2k (bz x) (show bl x≤1000000 by omega)
 rw [U0] at this
 exact this
theorem b3J (n:Int) (h0:-9223372036854775808≤n) (h1:n≤9223372036854775807):b9 Tryz.prog 176 [a9 .i64 n] [] (bgS (bz n)) []:=by
 rcases Int.lt_trichotomy n 0 with hn|hn|hn
 ·(refine a8 a7 Tryz.func176 rfl (by decide) ?_;(conv=>whnf);repeat (refine zy ?_;conv=>whnf))
  repeat' first|(refine zd ?_ ?_<;>intro h<;>first|exact zc h|(exfalso;omega)|conv=>whnf)|((first|refine zz ?_|refine zy ?_);conv=>whnf)
  all_goals try (exfalso;omega)
  refine m9 a7 (σ:=List Int × Nat) (fun|(acc,u)=>([a9 .i64 (- (u:Int)),J,S.c (C.ptr 0 0 0),a9 .i64 (-1),X2 1 acc,J,J,J,J,J,J,J,J,J,J,J,J,J,J,J,J,J,J,J,J,J,J,J],[aO8,x8 acc])) (fun s=>OfI n s.1 s.2) (fun s=>s.2) ([],n.natAbs) [some 0,none]
   ⟨rfl⟩ ⟨rfl,rfl,⟨⟨rfl,rfl,rfl,.inl ⟨rfl,Q5⟩⟩,⟨rfl,rfl⟩,trivial⟩,⟨c9 (by omega),⟨rfl,rfl,rfl⟩,rfl,⟨rfl,rfl,rfl⟩,trivial⟩⟩ ?_
  rintro ⟨acc,u⟩ hI
  have hI:OfI n acc u:=hI
  have hl:=hI.len h0 h1
  have hu:=hI.le
  have hm:(- (u:Int)).tmod 1048576=- ((u:Int) % 1048576):=by
   first
    |exact Int.tmod_eq_emod_of_nonneg (by omega)
    |(rw [Int.neg_tmod,Int.tmod_eq_emod_of_nonneg (by omega)])
  have hd:(- (u:Int)).tdiv 1048576=- ((u / 1048576:Nat):Int):=by
   first
    |(rw [Int.tdiv_eq_ediv_of_nonneg (by omega)];simp;done)
    |(rw [Int.neg_tdiv,Int.tdiv_eq_ediv_of_nonneg (by omega)];simp)
  by_cases hu0:0<u
  ·have hst:=hI.step hu0
   conv=>whnf
   repeat' first|(refine zd ?_ ?_<;>intro h<;>first|exact zc h|(exfalso;omega)|conv=>whnf)|((first|refine zz ?_|refine qp toC ?_|refine qp toC ?_|refine t9 (by simp [toC]) (by simp [toC];omega) ?_|refine ⟨by decide,_,y9 hd (by omega) (by omega),?_⟩|refine aa3 (by decide) ?_|refine zy ?_);conv=>whnf)
   all_goals try (exfalso;omega)
   all_goals
    refine ⟨[some 0,some 2],(acc++[(u:Int) % 1048576],u / 1048576),⟨rfl,rfl,⟨⟨rfl,rfl,rfl,.inl ⟨rfl,Q5⟩⟩,b8 rfl rfl rfl ?_ rfl,trivial⟩,⟨c9 rfl,⟨rfl,rfl,rfl⟩,rfl,j9 rfl (by simp [toC]),trivial⟩⟩,hst,by show u / 1048576<u;omega⟩
    have e:∀y:Int,y=(u:Int) % 1048576→(toC (acc.map g9)).take acc.length++toC [[ti y]]=toC ((acc++[(u:Int) % 1048576]).map g9):=fun y hy=>by rw [hy];exact a0T
    exact e _ (by omega)
  ·have h0u:u=0:=by omega
   subst h0u
   have e:acc=dg n.natAbs:=by have:=hI.eq;rw [Q8,List.append_nil] at this;exact this
   have sg:=G0 (-1) n.natAbs (by omega) (by rw [← e];omega)
   rw [← e,show (-1)*(n.natAbs:Int)=n by omega] at sg
   conv=>whnf
   repeat' first|(refine zd ?_ ?_<;>intro h<;>first|exact zc h|(exfalso;omega)|conv=>whnf)|((first|refine zz ?_|refine qp 1 ?_|refine .inr ⟨_,_,t4 [1] sg ⟨ai6,a09 (t8 (by simp) rfl (by intro h;cases h) rfl rfl (by simp)),trivial⟩ rfl,?_⟩|refine zy ?_);conv=>whnf)
   all_goals try (exfalso;omega)
   exact j5 ⟨rfl,rfl,trivial⟩
 ·subst hn
  (refine a8 a7 Tryz.func176 rfl (by decide) ?_;(conv=>whnf);repeat (refine zy ?_;conv=>whnf))
  repeat' first|(refine zd ?_ ?_<;>intro h<;>first|exact zc h|(exfalso;omega)|conv=>whnf)|((first|refine zz ?_|refine zy ?_);conv=>whnf)
  all_goals first
   |(exfalso;omega)
   |exact j5 ⟨rfl,rfl,trivial⟩
 ·(refine a8 a7 Tryz.func176 rfl (by decide) ?_;(conv=>whnf);repeat (refine zy ?_;conv=>whnf))
  repeat' first|(refine zd ?_ ?_<;>intro h<;>first|exact zc h|(exfalso;omega)|conv=>whnf)|((first|refine zz ?_|refine zy ?_);conv=>whnf)
  all_goals try (exfalso;omega)
  refine m9 a7 (σ:=List Int × Nat) (fun|(acc,u)=>([a9 .i64 ((u:Int)),J,S.c (C.ptr 0 0 0),a9 .i64 (1),X2 1 acc,J,J,J,J,J,J,J,J,J,J,J,J,J,J,J,J,J,J,J,J,J,J,J],[aO8,x8 acc])) (fun s=>OfI n s.1 s.2) (fun s=>s.2) ([],n.natAbs) [some 0,none]
   ⟨rfl⟩ ⟨rfl,rfl,⟨⟨rfl,rfl,rfl,.inl ⟨rfl,Q5⟩⟩,⟨rfl,rfl⟩,trivial⟩,⟨c9 (by omega),⟨rfl,rfl,rfl⟩,rfl,⟨rfl,rfl,rfl⟩,trivial⟩⟩ ?_
  rintro ⟨acc,u⟩ hI
  have hI:OfI n acc u:=hI
  have hl:=hI.len h0 h1
  have hu:=hI.le
  have hm:((u:Int)).tmod 1048576=((u:Int) % 1048576):=by
   first
    |exact Int.tmod_eq_emod_of_nonneg (by omega)
    |(rw [Int.neg_tmod,Int.tmod_eq_emod_of_nonneg (by omega)])
  have hd:((u:Int)).tdiv 1048576=((u / 1048576:Nat):Int):=by
   first
    |(rw [Int.tdiv_eq_ediv_of_nonneg (by omega)];simp;done)
    |(rw [Int.neg_tdiv,Int.tdiv_eq_ediv_of_nonneg (by omega)];simp)
  by_cases hu0:0<u
  ·have hst:=hI.step hu0
   conv=>whnf
   repeat' first|(refine zd ?_ ?_<;>intro h<;>first|exact zc h|(exfalso;omega)|conv=>whnf)|((first|refine zz ?_|refine qp toC ?_|refine qp toC ?_|refine t9 (by simp [toC]) (by simp [toC];omega) ?_|refine ⟨by decide,_,y9 hd (by omega) (by omega),?_⟩|refine aa3 (by decide) ?_|refine zy ?_);conv=>whnf)
   all_goals try (exfalso;omega)
   all_goals
    refine ⟨[some 0,some 2],(acc++[(u:Int) % 1048576],u / 1048576),⟨rfl,rfl,⟨⟨rfl,rfl,rfl,.inl ⟨rfl,Q5⟩⟩,b8 rfl rfl rfl ?_ rfl,trivial⟩,⟨c9 rfl,⟨rfl,rfl,rfl⟩,rfl,j9 rfl (by simp [toC]),trivial⟩⟩,hst,by show u / 1048576<u;omega⟩
    have e:∀y:Int,y=(u:Int) % 1048576→(toC (acc.map g9)).take acc.length++toC [[ti y]]=toC ((acc++[(u:Int) % 1048576]).map g9):=fun y hy=>by rw [hy];exact a0T
    exact e _ (by omega)
  ·have h0u:u=0:=by omega
   subst h0u
   have e:acc=dg n.natAbs:=by have:=hI.eq;rw [Q8,List.append_nil] at this;exact this
   have sg:=G0 (1) n.natAbs (by omega) (by rw [← e];omega)
   rw [← e,show (1)*(n.natAbs:Int)=n by omega] at sg
   conv=>whnf
   repeat' first|(refine zd ?_ ?_<;>intro h<;>first|exact zc h|(exfalso;omega)|conv=>whnf)|((first|refine zz ?_|refine qp 1 ?_|refine .inr ⟨_,_,t4 [1] sg ⟨ai6,a09 (t8 (by simp) rfl (by intro h;cases h) rfl rfl (by simp)),trivial⟩ rfl,?_⟩|refine zy ?_);conv=>whnf)
   all_goals try (exfalso;omega)
   exact j5 ⟨rfl,rfl,trivial⟩
theorem b34 (x y:Int) (lx:bl x≤200000) (ly:bl y≤200000):b9 Tryz.prog 181 [bgS (bz x),bgS (bz y)] [] (.tup [bgS (bz (Int.gcd x y)),a9 .i64 0]) []:=by
 have r1:=Y0 x (by omega)
 have r2:=Y0 y (by omega)
 (refine a8 a7 Tryz.func181 rfl (by decide) ?_;(conv=>whnf);repeat (refine zy ?_;conv=>whnf))
 repeat' first|(refine zd ?_ ?_<;>intro h<;>first|exact zc h|(exfalso;omega)|conv=>whnf)|((first|refine zz ?_|refine qp r1 ?_|refine qp r2 ?_|refine zy ?_);conv=>whnf)
 all_goals first
  |(exfalso;simp_all;done)
  |skip
 refine m9 a7 (σ:=Nat × Nat) (fun|(X,Y)=>([J,J,J,J,S.c (C.ptr 0 0 0),J,g6 (dg X),g6 (dg Y),J,J,J,J,J,J,J,J,J,J,J,J,J,J,J,J,J,J,J,J,J,J,J,J,J,J,J,J],[aO8])) (fun s=>b1G x y s.1 s.2) (fun s=>s.2) (x.natAbs,y.natAbs) [some 2]
  ⟨rfl,lx,ly⟩ ⟨rfl,rfl,⟨⟨rfl,rfl,rfl,.inl ⟨rfl,Q5⟩⟩,trivial⟩,⟨⟨rfl,rfl,rfl⟩,rfl,rfl,trivial⟩⟩ ?_
 rintro ⟨X,Y⟩ hI
 have hI:b1G x y X Y:=hI
 obtain ⟨g1,g2,g3⟩:=hI
 have l2:((dg Y).map g9).length=(dg Y).length:=by simp
 by_cases hY:0<Y
 ·have hp:(dg Y).length≠0:=by rw [Ne,List.length_eq_zero_iff,M3];omega
  have dv:=b01 X Y hY (by omega) (by omega)
  conv=>whnf
  repeat' first|(refine zd ?_ ?_<;>intro h<;>first|exact zc h|(exfalso;omega)|conv=>whnf)|((first|refine zz ?_|refine qp dv ?_|refine zy ?_);conv=>whnf)
  all_goals first
   |(exfalso;omega)
   |exact ⟨[some 0],(Y,X % Y),⟨rfl,rfl,⟨⟨rfl,rfl,rfl,.inl ⟨rfl,Q5⟩⟩,trivial⟩,⟨⟨rfl,rfl,rfl⟩,rfl,rfl,trivial⟩⟩,⟨by rw [← g1,Nat.gcd_comm Y,←Nat.gcd_rec,Nat.gcd_comm],g3,Nat.le_trans (n7 (Nat.le_of_lt (Nat.mod_lt X hY))) g3⟩,Nat.mod_lt X hY⟩
 ·have hY:Y=0:=by omega
  subst hY
  have hp:(dg 0).length=0:=rfl
  have s1:=G0 1 X (by simp) (by omega)
  conv=>whnf
  repeat' first|(refine zd ?_ ?_<;>intro h<;>first|exact zc h|(exfalso;omega)|conv=>whnf)|((first|refine zz ?_|refine qp s1 ?_|refine zy ?_);conv=>whnf)
  all_goals first
   |(exfalso;omega)
   |skip
  refine a4i ?_
  rw [Int.one_mul,show X=Int.gcd x y by rw [Int.gcd,←g1,Nat.gcd_zero_right]]
theorem b3e (x y:Int) (hy:0<y) (hxy:x % y=0) (lx:bl x≤200000) (ly:bl y≤200000):b9 Tryz.prog 189 [bgS (bz x),bgS (bz y)] [] (.tup [bgS (bz (x / y)),bgS (bz 0),a9 .i64 0]) []:=by
 have r1:=Y0 x (by omega)
 have r2:=Y0 y (by omega)
 have hys:(bz y).sg=1:=by rw [a8B,Int.sign_eq_one_of_pos hy]
 have ov:=b01 x.natAbs y.natAbs (by omega) lx ly
 have hmod:x.natAbs % y.natAbs=0:=by
  have:=Int.natAbs_dvd_natAbs.2 (Int.dvd_of_emod_eq_zero hxy)
  exact Nat.mod_eq_zero_of_dvd this
 have lq:=n7 (Nat.div_le_self x.natAbs y.natAbs)
 have hsg:(bz x).sg=x.sign:=rfl
 have hs:=A6 x
 have hq:x.sign*((x.natAbs / y.natAbs:Nat):Int)=x / y:=by
  obtain ⟨k,hk⟩:=Int.dvd_of_emod_eq_zero hxy
  subst hk
  have hk2:(y*k) / y=k:=Int.mul_ediv_cancel_left _ (by omega)
  rw [hk2,Int.natAbs_mul,Nat.mul_div_cancel_left _ (by omega),Int.sign_mul,Int.sign_eq_one_of_pos hy,Int.one_mul]
  exact Int.sign_mul_natAbs k
 have s1:=G0 x.sign (x.natAbs / y.natAbs) (by
  rcases hs with ⟨h,h1⟩|⟨h,h1⟩|⟨h,h1⟩
  ·right;right;subst h1;simp
  ·exact .inl h
  ·exact .inr (.inl h)) (by unfold bl at lx;omega)
 rw [hq] at s1
 have s2:=G0 x.sign 0 (by simp) (by rw [Q8];simp)
 rw [show x.sign*((0:Nat):Int)=0 by simp] at s2
 have hmul:x.sign*1=x.sign:=Int.mul_one _
 have hd0:((dg (x.natAbs % y.natAbs)).map g9).length=0:=by rw [hmod,Q8];rfl
 unfold aA8 at ov
 rw [hmod] at ov hd0
 (refine a8 a7 Tryz.func189 rfl (by decide) ?_;(conv=>whnf);repeat (refine zy ?_;conv=>whnf))
 repeat' first|(refine zd ?_ ?_<;>intro h<;>first|exact zc h|(exfalso;omega)|conv=>whnf)|((first|refine zz ?_|refine qp r1 ?_|refine qp r2 ?_|refine qp ov ?_|refine qp s1 ?_|refine qp s2 ?_|refine qp (hys,hsg) ?_|refine ⟨_,y9 (y:=x.sign) (by rw [hys,hsg];exact hmul) (by omega) (by omega),?_⟩|refine zy ?_);conv=>whnf)
 all_goals first
  |(exfalso;omega)
  |(exfalso;simp_all;done)
  |exact aF2 rfl rfl
theorem aI7 (p q:Int) (hq:0<q) (lp:bl p≤200000) (lq:bl q≤200000):b9 Tryz.prog 114 [bgS (bz p),bgS (bz q)] [] (.tup [frS (fz (Rat.divInt p q)),a9 .i64 0]) []:=by
 have r1:=Y0 p (by omega)
 have r2:=Y0 q (by omega)
 have hsg:(bz q).sg=1:=by rw [a8B,Int.sign_eq_one_of_pos hq]
 have lg:=a8t p q lp lq
 have hg:0<(Int.gcd p q:Int):=by have:=Int.gcd_pos_of_ne_zero_right p (b:=q) (by omega);omega
 have g:=b34 p q lp lq
 have d1:=b3e p _ hg (Int.emod_eq_zero_of_dvd (Int.gcd_dvd_left ..)) lp lg
 have d2:=b3e q _ hg (Int.emod_eq_zero_of_dvd (Int.gcd_dvd_right ..)) lq lg
 have e:=a5N (p:=p) (q:=q) (by omega) rfl
 (refine a8 a7 Tryz.func114 rfl (by decide) ?_;(conv=>whnf);repeat (refine zy ?_;conv=>whnf))
 repeat' first|(refine zd ?_ ?_<;>intro h<;>first|exact zc h|(exfalso;omega)|conv=>whnf)|((first|refine zz ?_|refine qp r1 ?_|refine qp r2 ?_|refine qp g ?_|refine qp d1 ?_|refine qp d2 ?_|refine zy ?_);conv=>whnf)
 all_goals first
  |(exfalso;omega)
  |(exfalso;simp_all;done)
  |exact R7 e.symm
theorem b5F (p q:Int) (hq:0<q) (p0:-9223372036854775808≤p) (p1:p≤9223372036854775807) (q1:q≤9223372036854775807):
 b9 Tryz.prog 106 [a9 .i64 p,a9 .i64 q] [] (.tup [frS (fz (Rat.divInt p q)),a9 .i64 0]) []:=by
 have l1:=O7 p0 p1
 have l2:=O7 (x:=q) (by omega) q1
 have o1:=b3J p p0 p1
 have o2:=b3J q (by omega) q1
 have n:=aI7 p q hq (by omega) (by omega)
 (refine a8 a7 Tryz.func106 rfl (by decide) ?_;(conv=>whnf);repeat (refine zy ?_;conv=>whnf))
 repeat' first|(refine zd ?_ ?_<;>intro h<;>first|exact zc h|(exfalso;omega)|conv=>whnf)|((first|refine zz ?_|refine qp o1 ?_|refine qp o2 ?_|refine qp n ?_|refine zy ?_);conv=>whnf)
 all_goals exact R7 rfl
theorem a2A (n:Int) (p0:-9223372036854775808≤n) (p1:n≤9223372036854775807):b9 Tryz.prog 41 [a9 .i64 n] [] (frS (fz (n:Rat))) []:=by
 have o:=b5F n 1 (by decide) p0 p1 (by decide)
 have e:Rat.divInt n 1=(n:Rat):=by rw [Rat.divInt_eq_div];simp;grind
 rw [e] at o
 (refine a8 a7 Tryz.func41 rfl (by decide) ?_;(conv=>whnf);repeat (refine zy ?_;conv=>whnf))
 repeat' first|(refine zd ?_ ?_<;>intro h<;>first|exact zc h|(exfalso;omega)|conv=>whnf)|((first|refine zz ?_|refine qp o ?_|refine zy ?_);conv=>whnf)
 all_goals exact j5 ⟨rfl,rfl,rfl,rfl,trivial⟩
end
section
open Go.RowKit
def aw7 (n:Int) (f:Fr):Bool:=decide ((f.p.dl.length:Int)≤n) && decide ((f.q.dl.length:Int)≤n)
theorem b3M (f:Fr) (n:Int):b9 Tryz.prog 64 [frS f,a9 .i64 n] [] (e6 (aw7 n f)) []:=by
 have l1:(f.p.dl.map g9).length=f.p.dl.length:=by simp
 have l2:(f.q.dl.map g9).length=f.q.dl.length:=by simp
 (refine a8 a7 Tryz.func64 rfl (by decide) ?_;(conv=>whnf);repeat ((first|refine b0x ?_|refine zy ?_);conv=>whnf))
 repeat' first|(refine zd ?_ ?_<;>intro h<;>first|exact zc h|(exfalso;omega)|conv=>whnf)|((first|refine zz ?_|refine zy ?_);conv=>whnf)
 all_goals (refine c6 ?_;unfold aw7;simp;omega)
theorem ay9.mono {m n:Nat} {hh:List (List Fr)} (h:ay9 m hh) (hmn:m≤n):ay9 n hh:=⟨h.l1,h.l2,fun l hl f hf=>by have:=h.l3 l hl f hf;omega⟩
end
section
open Go.RowKit
abbrev ir (n:Int):Rat:=((n:Int):Rat)
theorem b0b {n:Int} (h:-1000≤n∧n≤1000):rl (ir n)≤1:=by rw [R9];have:=p8 (x:=n) (by omega) (by omega);omega
instance:DecidableEq x7:=fun a b=>decidable_of_iff (a.terms=b.terms∧a.kind=b.kind∧a.value=b.value) ⟨fun ⟨h1,h2,h3⟩=>by cases a;cases b;simp_all,fun h=>by subst h;exact ⟨rfl,rfl,rfl⟩⟩
instance:DecidableEq f5:=fun a b=>decidable_of_iff (a.n=b.n∧a.rows=b.rows) ⟨fun ⟨h1,h2⟩=>by cases a;cases b;simp_all,fun h=>by subst h;exact ⟨rfl,rfl⟩⟩
end
section
open Go.RowKit
theorem ay6:rl ((1:Int):Rat)≤200∧rl ((-1:Int):Rat)≤200∧rl ((0:Int):Rat)≤200:=by
 refine ⟨?_,?_,?_⟩
 ·have:=b0b (n:=1) (by decide);unfold ir at this;omega
 ·have:=b0b (n:=-1) (by decide);unfold ir at this;omega
 ·have:=b0b (n:=0) (by decide);unfold ir at this;omega
def a9x (w:x7):Bool:=decide (w.terms.length≤100) && w.terms.all (fun t=>decide (rl t.2≤200)) && decide (rl w.value≤200)
theorem a7z {e:Ev} {p:Int}:∀k,(j4 e p k).all (fun t=>decide (rl t.2≤200))=true
 |0=>rfl
 |k+1=>by
  have ih:=a7z (e:=e) (p:=p) k
  unfold j4
  obtain ⟨p1,p2,p3⟩:=ay6
  split
  ·exact ih
  ·split
   ·rw [List.all_append,ih];simpa using p1
   ·split
    ·rw [List.all_append,ih];simpa using p2
    ·exact ih
theorem ax8 {i:Nat} {kind:Int} {v:Rat} (h:rl v≤200):a9x (p9 i kind v)=true:=by
 obtain ⟨p1,p2,p3⟩:=ay6
 unfold a9x p9
 simp [h];simpa using p1
theorem b29 {t:l9} {kind:Int} {i:Nat} {x:p7} (hx:t.ev.moves[i]? =some x) (hf:K4 t.ev t.finds=0) (hm:t.ev.moves.length≤14):(F7 t kind i x).all a9x=true:=by
 obtain ⟨p1,p2,p3⟩:=ay6
 have hi:i<t.ev.moves.length:=(lg1 hx).1
 unfold F7
 rw [List.all_append,List.all_append,List.all_append]
 simp only [Bool.and_eq_true]
 refine ⟨⟨⟨?_,?_⟩,?_⟩,?_⟩
 ·split
  ·rfl
  ·simp only [List.all_cons,List.all_nil,Bool.and_true]
   unfold a9x q9
   simp only [Bool.and_eq_true,decide_eq_true_eq]
   have hl:=Y9 (e:=t.ev) (p:=x.src) i
   refine ⟨⟨?_,?_⟩,p3⟩
   ·rw [List.length_append];simp;omega
   ·rw [List.all_append,a7z];simpa using p2
 ·unfold J1
  split
  ·rfl
  ·rename_i lo hi' hiv
   have h:=a4R (e:=t.ev) (x:=x) (by rw [hiv];rfl)
   have e:hiR (D3 t.ev x)=hi':=by rw [hiv];rfl
   rw [e] at h
   simpa using ax8 h.2
 ·rw [List.all_map,List.all_eq_true]
  intro g hg
  unfold i9 at hg
  obtain ⟨f,hf',rfl⟩:=List.mem_map.1 hg
  have:=X3 hf f (List.mem_filter.1 hf').1
  have hb:=O7 (x:=f.grams) (by omega) (by omega)
  exact ax8 (by rw [R9];omega)
 ·rw [List.all_eq_true]
  intro w hw
  rw [List.mem_replicate] at hw
  rw [hw.2]
  exact ax8 p3
theorem b6a {t:l9} {kind:Int} (ht:p6 t=0) (hm:t.ev.moves.length≤14):U7 (e8 t kind):=by
 obtain ⟨q1,q2,q3,q4,q5⟩:=N7 ht
 have hall:(o5 t kind t.ev.moves.length).all a9x=true:=(S3 _ (Nat.le_refl _)).2 fun i x hi hx=>b29 hx q4 hm
 refine ⟨?_,fun w hw=>?_⟩
 ·have:=a4y (t:=t) (kind:=kind) (k:=t.ev.moves.length) (by omega) q2 q3
  show (o5 t kind t.ev.moves.length).length≤_
  omega
 ·have:=List.all_eq_true.1 hall w hw
  unfold a9x at this
  simp only [Bool.and_eq_true,decide_eq_true_eq,List.all_eq_true] at this
  exact ⟨this.1.1,this.1.2,this.2⟩
end
section
open Go.RowKit
theorem a2S {x:Int} (h0:-1000000000000000000≤x) (h1:x≤1000000000000000000):bl x≤3:=J8 (by simp only [pw];omega)
theorem b1I {c:E7} {reading day:Int} (h:F3 c day=true) (hr:btw reading 0 1099511627776=true):rl (a0U c reading day)≤7:=by
 unfold F3 M6 at h
 rw [U3] at hr
 simp only [Bool.and_eq_true,decide_eq_true_eq,U3] at h
 obtain ⟨⟨⟨⟨⟨⟨⟨h1,h2⟩,h3⟩,_⟩,h4⟩,h5⟩,h6⟩,h7⟩:=h
 have e1:0≤c.permille*reading:=Int.mul_nonneg (by omega) (by omega)
 have e2:c.permille*reading≤1000*1099511627776:=Int.mul_le_mul (by omega) (by omega) (by omega) (by omega)
 have e3:0≤c.drift*(day - c.since):=Int.mul_nonneg (by omega) (by omega)
 have e4:c.drift*(day - c.since)≤10000000*100000:=Int.mul_le_mul (by omega) (by omega) (by omega) (by omega)
 have b1:=a2S (x:=c.permille*reading) (by omega) (by omega)
 have b2:=a2S (x:=1000) (by decide) (by decide)
 have b3:=a2S (x:=c.grams+c.drift*(day - c.since)) (by omega) (by omega)
 have l1:=W8 (p:=c.permille*reading) (q:=1000) (by decide)
 have l2:=Z5 (Rat.divInt (c.permille*reading) 1000) ((c.grams+c.drift*(day - c.since):Int):Rat)
 have l3:rl ((c.grams+c.drift*(day - c.since):Int):Rat)≤3:=by
  rw [R9];omega
 unfold a0U
 omega
theorem aX4 {cs:List E7} {rs:List x9} {scale reading day:Int} {lo hi:Rat} (h:K5 cs rs scale reading day=some (lo,hi)):rl hi≤11:=by
 unfold K5 at h
 split at h
 ·cases h
 ·rename_i i hi
  obtain ⟨hb,c,hc,_,hcv⟩:=K6 hi
  have e:a1m cs i=c:=by unfold a1m;rw [hc];rfl
  rw [e] at h
  split at h
  ·cases h
  ·split at h
   ·rename_i hr
    injection h with h
    injection h with h1 h2
    have l1:=b1I hcv hr
    rw [U3] at hr
    have l2:rl (reading:Rat)≤3:=by rw [R9];have:=a2S (x:=reading) (by omega) (by omega);omega
    have l3:=Z5 (reading:Rat) (a0U c reading day)
    rw [← h2];omega
   ·cases h
def D4 (l:List (Int × Rat)):Prop:=∀t ∈ l,∃c:Int,t.2=((c:Int):Rat)∧bl c≤1
theorem a0h {i:Int} {c:Int} (h0:-1048575≤c) (h1:c≤1048575):D4 [(i,((c:Int):Rat))]:=by
 intro t ht
 simp at ht
 subst ht
 exact ⟨c,rfl,p8 h0 h1⟩
theorem a68 {a b:List (Int × Rat)} (ha:D4 a) (hb:D4 b):D4 (a++b):=by
 intro t ht
 rcases List.mem_append.1 ht with h|h
 ·exact ha t h
 ·exact hb t h
theorem a48 {e:Ev} {p:Int}:∀k,D4 (j4 e p k)
 |0=>by intro t ht;cases ht
 |k+1=>by
  have ih:=a48 (e:=e) (p:=p) k
  unfold j4
  split
  ·exact ih
  ·split
   ·exact a68 ih (a0h (by decide) (by decide))
   ·split
    ·exact a68 ih (a0h (by decide) (by decide))
    ·exact ih
theorem b0J {t:l9} {kind:Int} (ht:p6 t=0):∀w ∈ (e8 t kind).rows,a38 11 w:=by
 classical
 obtain ⟨q1,q2,q3,q4,q5⟩:=N7 ht
 have z1:rl ((0:Int):Rat)≤11:=by have:=rl0;show rl 0≤_;omega
 have key:(o5 t kind t.ev.moves.length).all (fun w=>decide (a38 11 w))=true:=(S3 _ (Nat.le_refl _)).2 fun i x hi hx=>by
  rw [List.all_eq_true]
  intro w hw
  refine decide_eq_true ?_
  unfold F7 at hw
  rw [List.mem_append,List.mem_append,List.mem_append] at hw
  rcases hw with ((hw|hw)|hw)|hw
  ·split at hw
   ·cases hw
   ·simp at hw;subst hw
    exact ⟨a68 (a48 _) (a0h (by decide) (by decide)),z1⟩
  ·unfold J1 at hw
   split at hw
   ·cases hw
   ·rename_i lo hi' hiv
    simp at hw;subst hw
    refine ⟨a0h (by decide) (by decide),?_⟩
    unfold D3 at hiv
    split at hiv
    ·cases hiv
    ·exact aX4 hiv
  ·obtain ⟨g,hg,rfl⟩:=List.mem_map.1 hw
   unfold i9 at hg
   obtain ⟨f,hf',rfl⟩:=List.mem_map.1 hg
   have:=X3 q4 f (List.mem_filter.1 hf').1
   refine ⟨a0h (by decide) (by decide),?_⟩
   show rl ((f.grams:Int):Rat)≤11
   rw [R9]
   have:=a2S (x:=f.grams) (by omega) (by omega)
   have h1:bl 1≤1:=p8 (by decide) (by decide)
   omega
  ·rw [List.mem_replicate] at hw
   rw [hw.2]
   exact ⟨a0h (by decide) (by decide),z1⟩
 intro w hw
 exact of_decide_eq_true (List.all_eq_true.1 key w hw)
theorem b7F {s:f5} {g:List (Int × Rat)} {B0:Nat} (hI:∀w ∈ s.rows,a38 B0 w) (hg:D4 g):∀D,T9 (d6 s).length s.n.toNat (g7 s g) D→BdD (d6 s).length s.n.toNat (2 ^ s.n.toNat*(B0+4)) D:=by
 rintro D ⟨k,hk⟩
 have inv:=a3J a1w hk
 have h0:=aN2 (g:=g) hI
 refine ⟨fun i hi=>b1P h0 (by omega) inv.p inv.i hi,fun i hi j hj=>aK8 h0 (by omega) inv.p inv.i hi hj,fun j hj=>?_⟩
 obtain ⟨z,hz⟩:=inv.g
 have hc:∀j,∃c:Int,u3 g j=((c:Int):Rat)∧bl c≤1:=fun j=>a0z hg g.length j
 refine aH4 h0 (by omega) inv.p inv.i hz (q:=1) (b:=fun l=>-(Classical.choose (hc l))) (by decide) (by have:=p8 (x:=1) (by decide) (by decide);omega) (fun l hl=>?_) (fun l hl=>?_) hj
 ·have:=(Classical.choose_spec (hc l)).2
  show bl (-(Classical.choose (hc l)))≤_
  rw [a2b];omega
 ·have hs:=(Classical.choose_spec (hc l)).1
  show ((1:Int):Rat)*-(u3 g l)=((-(Classical.choose (hc l)):Int):Rat)
  generalize Classical.choose (hc l)=x at hs ⊢
  rw [hs]
  have e:((-x:Int):Rat)=-((x:Int):Rat):=by push_cast;rfl
  rw [e]
  have h1:((1:Int):Rat)=1:=rfl
  rw [h1];grind
theorem a37 {l:List (Int × Rat)} {z:List Rat} {B:Nat} (h1:∀t ∈ l,rl t.2≤1) (h2:∀v ∈ z,rl v≤B):∀k,rl (j3 (l.take k) z)≤l.length*(B+4)+1:=by
 have key:∀k,k≤l.length→rl (j3 (l.take k) z)≤k*(B+4)+1:=by
  intro k
  induction k with
  |zero=>intro _;rw [List.take_zero];have:=rl0;show rl 0≤_;omega
  |succ k ih=>
   intro hk
   have ih:=ih (by omega)
   rw [List.take_succ_eq_append_getElem (show k<l.length by omega),M4]
   have a1:=h1 l[k] (List.getElem_mem _)
   have a2:rl (z.getD l[k].1.toNat 0)≤B+1:=by
    by_cases hz:l[k].1.toNat<z.length
    ·have:=h2 _ (lg2 (getD_some hz));omega
    ·rw [lg3,List.getElem?_eq_none (by omega)]
     have:=rl0
     show rl 0≤_
     omega
   have a3:=a1f l[k].2 (z.getD l[k].1.toNat 0)
   have a4:=Z5 (j3 (l.take k) z) (l[k].2*z.getD l[k].1.toNat 0)
   rw [Nat.succ_mul]
   omega
 intro k
 by_cases hk:k≤l.length
 ·have h3:=key k hk
  have h4:=Nat.mul_le_mul_right (B+4) hk
  omega
 ·have h3:=key l.length (Nat.le_refl _)
  rw [lg4 (Nat.le_refl _)] at h3
  rw [lg4 (by omega)];exact h3
end
section
open Go.RowKit
theorem P8 {l:List (Int × Rat)} (h:D4 l):∀t ∈ l,rl t.2≤1:=by
 intro t ht
 obtain ⟨c,hc,hb⟩:=h t ht
 rw [hc,R9]
 have h1:bl 1≤1:=p8 (by decide) (by decide)
 omega
theorem ax5:∀n,n≤8→(n+3)*(2 ^ n*15+2)≤50000∧n*(2 ^ n*15+4)+1≤50000∧1≤2 ^ n*15:=by
 intro n hn
 have:∀n,n<9→(n+3)*(2 ^ n*15+2)≤50000∧n*(2 ^ n*15+4)+1≤50000∧1≤2 ^ n*15:=by decide
 exact this n (by omega)
theorem w5 {t:l9} {kind:Int} (ht:p6 t=0) (hm:t.ev.moves.length≤8) {g:List (Int × Rat)} (hg:e7 (-1) (t.ev.moves.length:Nat) g=true) (hw:D4 g):
 z4 (e8 t kind) g t.ev.moves.length (2 ^ t.ev.moves.length*15):=by
 obtain ⟨q1,q2,q3,q4,q5⟩:=N7 ht
 have hB:=b6a (kind:=kind) ht (by omega)
 have hl:(e8 t kind).rows.length≤576:=by
  have h1:=a13 (t:=t) (kind:=kind) t.ev.moves.length
  have h2:t.ev.moves.length*(2+t.finds.length+t.cleans.length)≤8*72:=Nat.mul_le_mul hm (by omega)
  show (o5 t kind t.ev.moves.length).length≤_
  omega
 have hwr:=P8 hw
 refine ⟨⟨ac7 (by omega) q2 q3,hg,rfl,by omega,fun w hw=>?_,fun t ht=>by have:=hwr t ht;omega,by omega⟩,hB,fun t ht=>by have:=hwr t ht;omega,?_,(ax5 _ hm).2.2,(ax5 _ hm).1,by omega⟩
 ·obtain ⟨a1,a2,a3⟩:=hB.t w hw
  exact ⟨by omega,fun t ht=>by have:=a2 t ht;omega⟩
 ·exact b7F (B0:=11) (b0J ht) hw
theorem a1y {s:f5} {g:List (Int × Rat)} {n B:Nat} (h:z4 s g n B):∀v ∈ j1 s g,rl v≤B:=by
 intro v hv
 have hb:=a5K h
 have hn:=h.nn
 have h1:=h.b1
 obtain ⟨j,hj,rfl⟩:=a4P hv
 have hp:O8 (d6 s).length s.n.toNat (k9 s g):=G8.p
 rw [hn] at hj hp ⊢
 rw [← aA7 hp hj]
 have key:∀k,k≤(d6 s).length→rl (ptK n (k9 s g).O (k9 s g).V (fun _=>0) k j)≤B:=by
  intro k
  induction k with
  |zero=>intro _;have:=rl0;show rl 0≤_;omega
  |succ k ih=>
   intro hk
   rw [L5]
   simp only
   split
   ·exact hb.v k (by omega)
   ·exact ih (by omega)
 exact key _ (Nat.le_refl _)
theorem a3C {l:List (Int × Rat)} (h:D4 l):D4 (u7 l):=by
 intro t ht
 obtain ⟨u,hu,rfl⟩:=List.mem_map.1 ht
 obtain ⟨c,hc,hb⟩:=h u hu
 refine ⟨-c,?_,by rw [a2b];exact hb⟩
 show u.2*((-1:Int):Rat)=((-c:Int):Rat)
 rw [hc]
 have e:((-c:Int):Rat)=-((c:Int):Rat):=by push_cast;rfl
 have e1:((-1:Int):Rat)=-1:=rfl
 rw [e,e1];grind
theorem a3B {n:Int}:∀{l:List (Int × Rat)} {last:Int},e7 last n l=true→e7 last n (u7 l)=true
 |[],_,_=>rfl
 |a::r,last,h=>by
  unfold e7 at h
  show e7 last n ((a.1,a.2*((-1:Int):Rat))::u7 r)=true
  unfold e7
  simp only [Bool.and_eq_true,decide_eq_true_eq] at h ⊢
  refine ⟨⟨⟨h.1.1.1,h.1.1.2⟩,fun e=>h.1.2 ?_⟩,a3B h.2⟩
  have e1:((-1:Int):Rat)=-1:=rfl
  rw [e1] at e
  grind
theorem a11 (l:List (Int × Rat)):(u7 l).length=l.length:=a0o _ _
theorem az5 {t:l9} {kind:Int} (ht:p6 t=0) (hm:t.ev.moves.length≤8) {g:List (Int × Rat)} (hg:e7 (-1) (t.ev.moves.length:Nat) g=true) (hw:D4 g):
 aQ9 (e8 t kind) g t.ev.moves.length (2 ^ t.ev.moves.length*15) (2 ^ t.ev.moves.length*15) (2 ^ t.ev.moves.length*15):=by
 have p:=w5 (kind:=kind) ht hm hg hw
 have q:=w5 (kind:=kind) ht hm (a3B hg) (a3C hw)
 have z:=w5 (kind:=kind) ht hm (g:=[]) rfl (fun t ht=>by cases ht)
 have hl:g.length≤t.ev.moves.length:=by
  have:=w6 hg
  omega
 have hp:=(ax5 _ hm).2.1
 have hmul:=Nat.mul_le_mul_right (2 ^ t.ev.moves.length*15+4) hl
 refine ⟨p,q,z,a2O (by omega) hg,fun k=>?_,fun k=>?_⟩
 ·have:=a37 (P8 hw) (a1y p) k
  omega
 ·have:=a37 (P8 (a3C hw)) (a1y q) k
  rw [a11] at this
  omega
noncomputable def w8 (s:f5) (g:List (Int × Rat)) (hh:Int):Z9:=
 open Classical in
 if 0<j3 g (j1 s g) then aW9 s g hh else match G5 s (u7 g) with
 |.col c=>a4E s g c hh
 |_=>if j3 (u7 g) (j1 s (u7 g))<0 then b3b s g hh else a7b s g hh
theorem al5 {z:List Rat} (hz:∀v ∈ z,0≤v):∀l:List (Int × Rat),(∀ t ∈ l,0≤t.2)→0≤j3 l z:=by
 intro l hl
 have key:∀k,k≤l.length→0≤j3 (l.take k) z:=by
  intro k
  induction k with
  |zero=>intro _;rw [List.take_zero];exact Rat.le_refl
  |succ k ih=>
   intro hk
   have ih:=ih (by omega)
   rw [List.take_succ_eq_append_getElem (show k<l.length by omega),M4]
   have h1:=hl l[k] (List.getElem_mem _)
   have h2:0≤z.getD l[k].1.toNat 0:=by
    by_cases hlt:l[k].1.toNat<z.length
    ·exact hz _ (lg2 (getD_some hlt))
    ·rw [lg3,List.getElem?_eq_none (by omega)];exact Rat.le_refl
   have h3:=Rat.mul_nonneg h1 h2
   grind
 have:=key l.length (Nat.le_refl _)
 rwa [List.take_length] at this
theorem a63 {s:f5} {g:List (Int × Rat)} (hr:f9 s=true) (hg:e7 (-1) ((s.n.toNat:Nat):Int) g=true) (hp:∀t ∈ g,0≤t.2) (hz:G5 s []=.best):G5 s g=.best:=by
 rcases a6n s g with h|⟨r,h⟩|⟨c,h⟩
 ·exact h
 ·have h1:=(a0E hr rfl hz).1
  rw [a7h h] at h1;cases h1
 ·obtain ⟨h1,h2⟩:=af7 hr hg h
  have:=al5 h1.pos g hp
  exact absurd h2 (by grind)
theorem ad9 {s:f5} {g:List (Int × Rat)} (hr:f9 s=true) (hz:G5 s []=.best):G5 s g=.best∨∃c,G5 s g=.col c:=by
 rcases a6n s g with h|⟨r,h⟩|h
 ·exact .inl h
 ·have h1:=(a0E hr rfl hz).1
  rw [a7h h] at h1;cases h1
 ·exact .inr h
theorem aS4 (s:f5) (g:List (Int × Rat)) (n B B1 B0:Nat) (h:aQ9 s g n B B1 B0) (hh:Int) (hp:∀t ∈ g,0≤t.2) (hz:G5 s []=.best):
 b9 Tryz.prog 62 [F0 s,j2 g,a9 .i64 hh] [] (av7 (w8 s g hh)) []:=by
 have hn:=h.p.nn
 have hg:e7 (-1) ((s.n.toNat:Nat):Int) g=true:=by rw [hn];exact h.p.o.tg
 have hb:=a63 h.p.o.r hg hp hz
 unfold w8
 by_cases h1:0<j3 g (j1 s g)
 ·rw [if_pos h1];exact a8y s g n B B1 B0 h hh hb h1
 ·rw [if_neg h1]
  rcases ad9 (g:=u7 g) h.p.o.r hz with h2|⟨c,h2⟩
  ·rw [h2];simp only
   by_cases h3:j3 (u7 g) (j1 s (u7 g))<0
   ·rw [if_pos h3];exact ai7 s g n B B1 B0 h hh hb h1 h2 h3
   ·rw [if_neg h3];exact a92 s g n B B1 B0 h hh hb h1 h2 h3
  ·rw [h2];exact a98 s g n B B1 B0 c h hh hb h1 h2 hz
end
section
open Go.RowKit
theorem a6S {n:Int}:∀{l:List Int} {last:Int},(∀ (i:Nat) (x:Int),l[i]? =some x→last<x∧x<n)→(∀ (i:Nat) (x y:Int),l[i]? =some x→l[i+1]? =some y→x<y)→e7 last n (a1e l)=true
 |[],_,_,_=>rfl
 |a::r,last,h1,h2=>by
  show e7 last n ((a,((1:Int):Rat))::a1e r)=true
  unfold e7
  simp only [Bool.and_eq_true,decide_eq_true_eq]
  have h3:=h1 0 a rfl
  refine ⟨⟨h3,by decide⟩,a6S (fun i x hx=>?_) (fun i x y hx hy=>h2 (i+1) x y (by simpa using hx) (by simpa using hy))⟩
  have h4:=h1 (i+1) x (by simpa using hx)
  refine ⟨?_,h4.2⟩
  have key:∀(i:Nat) (x:Int),r[i]? =some x→a<x:=by
   intro i
   induction i with
   |zero=>intro x hx;exact h2 0 a x rfl (by simpa using hx)
   |succ i ih=>
    intro x hx
    obtain ⟨y,hy⟩:∃y,r[i]? =some y:=⟨_,lg0 (by have:=(lg1 hx).1;omega)⟩
    have:=ih y hy
    have:=h2 (i+1) y x (by simpa using hy) (by simpa using hx)
    omega
  exact key i x hx
theorem K7 (t:l9) (h:Int):e7 (-1) (t.ev.moves.length:Nat) (o9 t h)=true:=by
 obtain ⟨a1,a2⟩:=aN3 t.ev h (-1) 0 100000
 exact a6S (fun i x hx=>by have:=a1 i x hx;omega) a2
theorem S2 (t:l9) (h:Int):D4 (o9 t h):=by
 intro u hu
 obtain ⟨i,_,rfl⟩:=List.mem_map.1 hu
 exact ⟨1,rfl,p8 (by decide) (by decide)⟩
theorem a9z (t:l9) (h:Int):∀u ∈ o9 t h,0≤u.2:=by
 intro u hu
 obtain ⟨i,_,rfl⟩:=List.mem_map.1 hu
 show (0:Rat)≤((1:Int):Rat)
 decide
theorem a4n {t:l9} {h:Int}:(A8 t.ev h (-1) 0 100000).length≤t.ev.moves.length:=by
 have:=w6 (K7 t h)
 have e:(o9 t h).length=(A8 t.ev h (-1) 0 100000).length:=by simp [o9,a1e]
 omega
noncomputable def K0 (t:l9) (kind:Int) (k:Nat):List Z9:=(List.range k).map fun i:Nat=>w8 (e8 t kind) (o9 t (i:Int)) (i:Int)
theorem a2i (t:l9) (kind:Int) (k:Nat):(K0 t kind k).length=k:=by simp [K0]
theorem au5 (t:l9) (kind:Int) (k:Nat):K0 t kind (k+1)=K0 t kind k++[w8 (e8 t kind) (o9 t k) k]:=by simp [K0,List.range_succ]
abbrev b5x (l:List Z9):T:=.sl 5 .any (l.map Z9.row)
abbrev al0 (l:List Z9):S:=.c (.t (b5x l))
abbrev b4E (l:List Z9):Blk:={ mode:=.live,elem:=46,size:=5,rows:=toC (l.map Z9.row),box:=false }
abbrev b3h (s:f5):Blk:={ mode:=.live,elem:=70,size:=2,rows:=[[.t (ti s.n),.t (B2 s.rows)]],box:=true }
theorem aL5 (s:f5):E8 (b3h s).rows:=g4 [[ti s.n,B2 s.rows]]
set_option maxHeartbeats 2000000 in
theorem a3e (t:l9) (kind:Int) (hs:t.Sized) (h:a19 t kind≠0):b9 Tryz.prog 17 [trS t,a9 .i64 kind] [] (.tup [al0 [],a9 .i64 1]) []:=by
 have sy:=a30 t kind hs
 (refine a8 a7 Tryz.func17 rfl (by decide) ?_;(conv=>whnf);repeat ((first|refine b0x ?_|refine zy ?_);conv=>whnf))
 repeat' first|(refine zd ?_ ?_<;>intro h<;>first|exact zc h|(exfalso;omega)|conv=>whnf)|((first|refine zz ?_|refine qp sy ?_|refine qp 5 ?_|refine bl0 [5] ?_|refine zy ?_);conv=>whnf)
 all_goals first
  |(exfalso;omega)
  |exact j5 ⟨rfl,rfl,trivial⟩
set_option maxHeartbeats 2000000 in
theorem a1t (t:l9) (kind:Int) (hs:t.Sized) (ht:p6 t=0) (k0:0≤kind) (k1:kind<8) (hm:t.ev.moves.length≤8) (r:Nat) (hz:G5 (e8 t kind) []=.row r):
 b9 Tryz.prog 17 [trS t,a9 .i64 kind] [] (.tup [al0 [],a9 .i64 15]) []:=by
 have sy:=a30 t kind hs
 have hc:¬(p6 t≠0∨kind<0∨8≤kind):=by omega
 have e1:a19 t kind=0:=if_neg hc
 have e2:a5p t kind=e8 t kind:=if_neg hc
 rw [e1,e2] at sy
 have so:=a8X (e8 t kind) _ _ r (w5 (kind:=kind) ht hm (g:=[]) rfl (fun t ht=>by cases ht)) hz
 (refine a8 a7 Tryz.func17 rfl (by decide) ?_;(conv=>whnf);repeat ((first|refine b0x ?_|refine zy ?_);conv=>whnf))
 repeat' first|(refine zd ?_ ?_<;>intro h<;>first|exact zc h|(exfalso;omega)|conv=>whnf)|((first|refine zz ?_|refine qp sy ?_|refine qp so ?_|refine qp 5 ?_|refine bl0 [5] ?_|refine zy ?_);conv=>whnf)
 all_goals first
  |(exfalso;omega)
  |exact j5 ⟨rfl,rfl,trivial⟩
set_option maxHeartbeats 4000000 in
theorem a47 (t:l9) (kind:Int) (hs:t.Sized) (ht:p6 t=0) (k0:0≤kind) (k1:kind<8) (hm:t.ev.moves.length≤8) (hh:Nat) (hhs:t.ev.hhs=hh) (h100:hh≤1000) (hz:G5 (e8 t kind) []=.best):
 b9 Tryz.prog 17 [trS t,a9 .i64 kind] [] (.tup [al0 (K0 t kind hh),a9 .i64 0]) []:=by
 have sy:=a30 t kind hs
 have hc:¬(p6 t≠0∨kind<0∨8≤kind):=by omega
 have e1:a19 t kind=0:=if_neg hc
 have e2:a5p t kind=e8 t kind:=if_neg hc
 rw [e1,e2] at sy
 have lz:=w5 (kind:=kind) ht hm (g:=[]) rfl (fun t ht=>by cases ht)
 have so:=a8w (e8 t kind) _ _ lz hz (fun v hv=>by have:=a5w lz v hv;omega)
 (refine a8 a7 Tryz.func17 rfl (by decide) ?_;(conv=>whnf);repeat ((first|refine b0x ?_|refine zy ?_);conv=>whnf))
 repeat' first|(refine zd ?_ ?_<;>intro h<;>first|exact zc h|(exfalso;omega)|conv=>whnf)|((first|refine zz ?_|refine qp sy ?_|refine qp so ?_|refine qp 5 ?_|refine bl0 [5] ?_|refine zy ?_);conv=>whnf)
 all_goals try (exfalso;omega)
 refine f6 a7 (fun k=>([J,J,S.c (C.t (T.ptr (trT t))),J,J,J,S.c (C.ptr 0 0 0),J,J,J,J,S.c (C.own 1 0 k true),J,J,J,J,J,J,J,J,J,J,J,J,J,J,J,J,J,J,J,a9 .i64 hh,a9 .i64 k,J,J,J,J,J,J,J,J,J,J,J,J,J],[b3h (e8 t kind),b4E (K0 t kind k)])) hh (fun _=>True) [some 0,none] trivial
  ⟨rfl,rfl,⟨i8 (aL5 _),⟨rfl,rfl⟩,trivial⟩,⟨j0 rfl,⟨rfl,rfl,rfl⟩,⟨rfl,rfl,rfl⟩,c9 hhs,c9 rfl,trivial⟩⟩ ?_
 intro k hk _
 by_cases hlt:k<hh
 ·have go:=a7n t hs k (by have:=a4n (t:=t) (h:=k);omega)
  have eg:a2J t k=o9 t k:=if_pos ⟨ht,by omega,by omega⟩
  rw [eg] at go
  have ve:=aS4 (e8 t kind) (o9 t k) _ _ _ _ (az5 (kind:=kind) ht hm (K7 t k) (S2 t k)) k (a9z t k) hz
  have lA:k≤(b4E (K0 t kind k)).rows.length:=by show k≤(toC _).length;simp [toC,a2i]
  conv=>whnf
  repeat' first|(refine zd ?_ ?_<;>intro h<;>first|exact zc h|(exfalso;omega)|conv=>whnf)|((first|refine zz ?_|refine qp go ?_|refine qp ve ?_|refine qp toC ?_|refine t9 lA (by simp [toC];omega) ?_|refine zy ?_);conv=>whnf)
  all_goals first
   |(exfalso;omega)
   |(refine ⟨hlt,trivial,[some 0,some 2],rfl,rfl,⟨i8 (aL5 _),b8 (rows:=(K0 t kind (k+1)).map Z9.row) rfl rfl rfl ?_ rfl,trivial⟩,⟨rfl,⟨rfl,rfl,rfl⟩,⟨rfl,rfl,rfl,fun h=>h⟩,rfl,c9 (by omega),trivial⟩⟩
     rw [au5]
     exact U5 (f:=Z9.row) (x:=w8 (e8 t kind) (o9 t k) k) (a2i t kind k).symm)
 ·have hke:k=hh:=by omega
  subst hke
  conv=>whnf
  repeat' first|(refine zd ?_ ?_<;>intro h<;>first|exact zc h|(exfalso;omega)|conv=>whnf)|((first|refine zz ?_|refine zy ?_);conv=>whnf)
  all_goals first
   |(exfalso;omega)
   |exact j5 ⟨(show VC _ (fun id=>I9 [] id=true) (C.own 1 0 k true) _ from t8 (k:=b4E (K0 t kind k)) rfl rfl (fun h=>h) rfl rfl (by simp [a2i])),rfl,trivial⟩
end
section
structure a8Z (a b:List Int) (i:Nat) (out:List Int) (c:Int):Prop where
 len:out.length=i
 ok:Okd out
 le:i≤max a.length b.length+1
 top:i=max a.length b.length+1→c=0
 c0:0≤c
 c1:c≤1
 eq:val out+pw i*c=val (a.take i)+val (b.take i)
theorem a8Z.init (a b:List Int):a8Z a b 0 [] 0:=⟨rfl,.nil,Nat.zero_le _,fun _=>rfl,by decide,by decide,by simp [val]⟩
theorem a8Z.step {a b out:List Int} {i:Nat} {c:Int} (h:a8Z a b i out c) (ha:Okd a) (hb:Okd b) (hi:i<a.length∨i<b.length∨0<c):
 a8Z a b (i+1) (out++[(dat a i+dat b i+c) % 1048576]) ((dat a i+dat b i+c) / 1048576):=by
 have h1:=ha.dat i
 have h2:=hb.dat i
 have h3:=h.c0
 have h4:=h.c1
 have hl:=h.le
 have ht:=h.top
 have hi2:i≤max a.length b.length:=by
  rcases Nat.lt_or_ge (max a.length b.length) i with h5|h5
  ·have:=ht (by omega);omega
  ·exact h5
 refine ⟨by simp [h.len],h.ok.append (Okd.cons (a3S _) .nil),by omega,fun e=>?_,by omega,by omega,?_⟩
 ·have e1:dat a i=0:=L9 (by omega)
  have e2:dat b i=0:=L9 (by omega)
  rw [e1,e2];omega
 ·rw [I6,h.len,o8,o8,C8]
  have h5:=h.eq
  have h6:(dat a i+dat b i+c) % 1048576=dat a i+dat b i+c - 1048576*((dat a i+dat b i+c) / 1048576):=by omega
  simp only [val]
  rw [h6]
  grind
theorem a8Z.fin {a b out:List Int} {i:Nat} {c:Int} (h:a8Z a b i out c) (la:a.length≤i) (lb:b.length≤i) (hc:c≤0):D6 out=dg (val a+val b).toNat:=by
 have h1:=h.eq
 have h2:=h.c0
 obtain rfl:c=0:=by omega
 rw [lg4 la,lg4 lb] at h1
 rw [G9 h.ok]
 congr 2
 grind
end
section
open Go.RowKit
theorem b3A (a b:List Int) (ha:Okd a) (hb:Okd b) (la:a.length≤400000) (lb:b.length≤400000):
 b9 Tryz.prog 185 [g6 a,g6 b] [] (g6 (dg (val a+val b).toNat)) []:=by
 have l1:(a.map g9).length=a.length:=by simp
 have l2:(b.map g9).length=b.length:=by simp
 (refine a8 a7 Tryz.func185 rfl (by decide) ?_;(conv=>whnf);repeat (refine zy ?_;conv=>whnf))
 repeat' first|(refine zd ?_ ?_<;>intro h<;>first|exact zc h|(exfalso;omega)|conv=>whnf)|((first|refine zz ?_|refine zy ?_);conv=>whnf)
 refine m9 a7 (σ:=Nat × List Int × Int) (fun|(k,out,c)=>([g6 a,g6 b,J,J,J,X2 0 out,a9 .i64 c,a9 .i64 k,J,J,J,J,J,J,J,J,J,J,J,J,J,J,J,J,J,J,J,J,J,J,J,J,J,J,J,J,J,J,J,J,J,J,J],[x8 out])) (fun x=>a8Z a b x.1 x.2.1 x.2.2) (fun x=>max a.length b.length+1 - x.1) (0,[],0) [none]
  (a8Z.init a b) ⟨rfl,rfl,⟨⟨rfl,rfl⟩,trivial⟩,⟨j0 rfl,j0 rfl,⟨rfl,rfl,rfl⟩,rfl,rfl,trivial⟩⟩ ?_
 rintro ⟨k,out,c⟩ hI
 have hI:a8Z a b k out c:=hI
 have hlen:=hI.len
 have hle:=hI.le
 have hc0:=hI.c0
 have hc1:=hI.c1
 have hda:=ha.dat k
 have hdb:=hb.dat k
 have d1:=a3I a k (by omega)
 have d2:=a3I b k (by omega)
 have hm:(dat a k+dat b k+c).tmod 1048576=(dat a k+dat b k+c) % 1048576:=Int.tmod_eq_emod_of_nonneg (by omega)
 have hd:(dat a k+dat b k+c).tdiv 1048576=(dat a k+dat b k+c) / 1048576:=Int.tdiv_eq_ediv_of_nonneg (by omega)
 by_cases hgo:k<a.length∨k<b.length∨0<c
 ·have hst:=hI.step ha hb hgo
  have hk2:=hst.le
  conv=>whnf
  repeat' first|(refine zd ?_ ?_<;>intro h<;>first|exact zc h|(exfalso;omega)|conv=>whnf)|((first|refine zz ?_|refine qp d1 ?_|refine qp d2 ?_|refine qp toC ?_|refine qp toC ?_|refine t9 (by simp [toC]) (by simp [toC];omega) ?_|refine ⟨by decide,_,y9 hd (by omega) (by omega),?_⟩|refine aa3 (by decide) ?_|refine zy ?_);conv=>whnf)
  all_goals try (exfalso;omega)
  all_goals
   refine ⟨[some 1],(k+1,out++[(dat a k+dat b k+c) % 1048576],(dat a k+dat b k+c) / 1048576),⟨rfl,rfl,⟨b8 rfl rfl rfl ?_ rfl,trivial⟩,⟨rfl,rfl,j9 rfl (by simp [toC]),rfl,c9 (by omega),trivial⟩⟩,hst,?_⟩
   ·have e:∀y:Int,y=(dat a k+dat b k+c) % 1048576→(toC (out.map g9)).take out.length++toC [[ti y]]=toC ((out++[(dat a k+dat b k+c) % 1048576]).map g9):=fun y hy=>by rw [hy];exact a0T
    exact e _ (by omega)
   ·show max a.length b.length+1 - (k+1)<max a.length b.length+1 - k
    omega
 ·have hf:=hI.fin (by omega) (by omega) (by omega)
  have t:=a4v out (by omega)
  rw [hf] at t
  conv=>whnf
  repeat' first|(refine zd ?_ ?_<;>intro h<;>first|exact zc h|(exfalso;omega)|conv=>whnf)|((first|refine zz ?_|refine qp 0 ?_|refine .inr ⟨_,_,t4 [0] t ⟨a09 (t8 (by simp) rfl (by intro h;cases h) rfl rfl (by simp)),trivial⟩ rfl,?_⟩|refine zy ?_);conv=>whnf)
  all_goals first
   |(exfalso;omega)
   |exact a8T rfl
theorem b22 (m n:Nat) (lm:(dg m).length≤300000) (ln:(dg n).length≤300000):b9 Tryz.prog 185 [g6 (dg m),g6 (dg n)] [] (g6 (dg (m+n))) []:=by
 have h:=b3A (dg m) (dg n) (p4 m) (p4 n) (by omega) (by omega)
 rw [m6,m6,show ((m:Int)+n).toNat=m+n by omega] at h
 exact h
theorem a5c (m n:Nat) (lm:(dg m).length≤300000) (h:n≤m):b9 Tryz.prog 187 [g6 (dg m),g6 (dg n)] [] (g6 (dg (m - n))) []:=by
 have h:=aM0 (dg m) (dg n) (p4 m) (p4 n) (by omega) (n7 h) (by rw [m6,m6];omega)
 rw [m6,m6,show ((m:Int) - n).toNat=m - n by omega] at h
 exact h
theorem aF0 (m n:Nat) (lm:(dg m).length≤300000) (ln:(dg n).length≤300000):b9 Tryz.prog 186 [g6 (dg m),g6 (dg n)] [] (e6 (decide (m<n))) []:=by
 have h:=b0L (dg m) (dg n) (p4 m) (p4 n) (by omega) (by omega)
 rw [m6,m6,show decide ((m:Int)<n)=decide (m<n) by simp] at h
 exact h
theorem b2h (s:Int) (m:Nat) (h:Sg s m) (lm:(dg m).length≤300000):b9 Tryz.prog 180 [bgS ⟨s,dg m⟩] [] (e6 true) []:=by
 have:=a2k ⟨s,dg m⟩ (show (dg m).length≤1000000 by omega)
 rw [← a5k h,U0,a5k h] at this
 exact this
theorem b3j (x:Int) (lx:bl x≤300000):b9 Tryz.prog 188 [bgS (bz x)] [] (bgS (bz (-x))) []:=by
 have r:=Y0 x lx
 have hs:=A6 x
 have hsg:(bz x).sg=x.sign:=rfl
 have sg:=G0 (0 - (bz x).sg) x.natAbs (by omega) (by unfold bl at lx;omega)
 rw [show (0 - (bz x).sg)*(x.natAbs:Int)=-x by rw [hsg];have:=sgm x;grind] at sg
 (refine a8 a7 Tryz.func188 rfl (by decide) ?_;(conv=>whnf);repeat ((first|refine b0x ?_|refine zy ?_);conv=>whnf))
 repeat' first|(refine zd ?_ ?_<;>intro h<;>first|exact zc h|(exfalso;omega)|conv=>whnf)|((first|refine zz ?_|refine qp r ?_|refine qp sg ?_|refine zy ?_);conv=>whnf)
 all_goals first
  |(exfalso;simp_all;done)
  |exact j5 ⟨rfl,rfl,trivial⟩
end
section
open Go.RowKit
theorem a2n {α:Type} {l:List α} {k:Nat} {x:α} (h:l[k]? =some x):l.take (k+1)=l.take k++[x]:=by
 rw [List.take_add_one,h];rfl
theorem b3H (a b:Bg) (ha:a.dl.length≤1000000) (hb:b.dl.length≤1000000):b9 Tryz.prog 245 [bgS a,bgS b] [] (e6 (decide (a.sg=b.sg∧a.dl=b.dl))) []:=by
 have l1:(a.dl.map g9).length=a.dl.length:=by simp
 have l2:(b.dl.map g9).length=b.dl.length:=by simp
 by_cases h0:¬(a.sg=b.sg∧a.dl.length=b.dl.length)
 ·(refine a8 a7 Tryz.func245 rfl (by decide) ?_;(conv=>whnf);repeat ((first|refine b0x ?_|refine zy ?_);conv=>whnf))
  repeat' first|(refine zd ?_ ?_<;>intro h<;>first|exact zc h|(exfalso;omega)|conv=>whnf)|((first|refine zz ?_|refine zy ?_);conv=>whnf)
  all_goals first
   |(exfalso;omega)
   |(refine c6 (decide_eq_false ?_).symm;rintro ⟨h1,h2⟩;rw [h2] at h0;exact h0 ⟨h1,rfl⟩)
 have h0:a.sg=b.sg∧a.dl.length=b.dl.length:=Decidable.not_not.1 h0
 (refine a8 a7 Tryz.func245 rfl (by decide) ?_;(conv=>whnf);repeat ((first|refine b0x ?_|refine zy ?_);conv=>whnf))
 repeat' first|(refine zd ?_ ?_<;>intro h<;>first|exact zc h|(exfalso;omega)|conv=>whnf)|((first|refine zz ?_|refine zy ?_);conv=>whnf)
 all_goals try (exfalso;omega)
 refine f6 a7 (fun k=>([J,J,S.c (C.t (T.ptr [ti a.sg,I8 a.dl])),S.c (C.t (T.ptr [ti b.sg,I8 b.dl])),J,a9 .i64 k,J,J,J,J,J,J,J,J,J,J,J,J,J,J,J,J,J,J,J,J,J,J,J,J,J,J,J,J,J,J,J,J],[])) a.dl.length (fun k=>a.dl.take k=b.dl.take k) [] rfl
  ⟨rfl,rfl,trivial,⟨rfl,rfl,rfl,trivial⟩⟩ ?_
 intro k hk hI
 by_cases hlt:k<a.dl.length
 ·obtain ⟨x,hx⟩:∃x,a.dl[k]? =some x:=⟨_,lg0 hlt⟩
  obtain ⟨y,hy⟩:∃y,b.dl[k]? =some y:=⟨_,lg0 (by omega)⟩
  conv=>whnf
  repeat' first|(refine zd ?_ ?_<;>intro h<;>first|exact zc h|(exfalso;omega)|conv=>whnf)|((first|refine zz ?_|refine d7 hx ?_|refine d7 hy ?_|refine zy ?_);conv=>whnf)
  ·have hne:x≠y:=‹x≠y›
   refine c6 (decide_eq_false ?_).symm
   rintro ⟨_,hq⟩;rw [hq,hy] at hx;injection hx with hx;exact hne hx.symm
  ·have hxy:x=y:=by omega
   refine ⟨hlt,?_,[],rfl,rfl,trivial,⟨rfl,rfl,rfl,trivial⟩⟩
   rw [a2n hx,a2n hy,hI,hxy]
  all_goals (exfalso;omega)
 ·rw [lg4 (by omega),lg4 (by omega)] at hI
  conv=>whnf
  repeat' first|(refine zd ?_ ?_<;>intro h<;>first|exact zc h|(exfalso;omega)|conv=>whnf)|((first|refine zz ?_|refine zy ?_);conv=>whnf)
  all_goals first
   |(exfalso;omega)
   |exact c6 (decide_eq_true ⟨h0.1,hI⟩).symm
theorem b59:R5 .or .i64 0 0 0:=by show (0:Int)=_;decide +kernel
theorem b75:R5 .or .i64 0 1 1:=by show (1:Int)=_;decide +kernel
theorem b53:R5 .or .i64 1 0 1:=by show (1:Int)=_;decide +kernel
theorem b6s:R5 .or .i64 1 1 1:=by show (1:Int)=_;decide +kernel
theorem b6W:R5 .or .i64 0 (-1) (-1):=by show (-1:Int)=_;decide +kernel
theorem b5W:R5 .or .i64 (-1) 0 (-1):=by show (-1:Int)=_;decide +kernel
theorem b6N:R5 .or .i64 (-1) (-1) (-1):=by show (-1:Int)=_;decide +kernel
set_option maxHeartbeats 4000000 in
theorem b4l (s t:Int) (m n:Nat) (hs:Sg s m) (ht:Sg t n) (lm:(dg m).length≤200000) (ln:(dg n).length≤200000):
 b9 Tryz.prog 113 [bgS ⟨s,dg m⟩,bgS ⟨t,dg n⟩] [] (.tup [bgS (bz (s*m+t*n)),a9 .i64 0]) []:=by
 have r1:=b2h s m hs (by omega)
 have r2:=b2h t n ht (by omega)
 have ad:=b22 m n (by omega) (by omega)
 have c:=aF0 m n (by omega) (by omega)
 have ls:=a28 m n
 have fin:∀(z:Int) (H1:Hp),z=s*m+t*n→Fin 0 (.tup [bgS (bz z),a9 .i64 0]) H1 (.tup [bgS (bz (s*m+t*n)),a9 .i64 0]) []:=fun z H1 h=>a4i (by rw [h])
 rcases hs with ⟨rfl,rfl⟩|⟨rfl,h1⟩|⟨rfl,h1⟩<;>rcases ht with ⟨rfl,rfl⟩|⟨rfl,h2⟩|⟨rfl,h2⟩
 case inl.inl=>
  have sg:=G0 (0) _ (by omega) (D2 ls (by omega))
  (refine a8 a7 Tryz.func113 rfl (by decide) ?_;(conv=>whnf);repeat ((first|refine b0x ?_|refine zy ?_);conv=>whnf))
  repeat' first|(refine zd ?_ ?_<;>intro h<;>first|exact zc h|(exfalso;omega)|conv=>whnf)|((first|refine zz ?_|refine qp r1 ?_|refine qp r2 ?_|refine qp ad ?_|refine qp sg ?_|refine ⟨_,b59,?_⟩|refine zy ?_);conv=>whnf)
  all_goals first|(exfalso;omega)|(exfalso;simp_all;done)|exact fin _ _ (by omega)
 case inl.inr.inl=>
  have sg:=G0 (1) _ (by omega) (D2 ls (by omega))
  (refine a8 a7 Tryz.func113 rfl (by decide) ?_;(conv=>whnf);repeat ((first|refine b0x ?_|refine zy ?_);conv=>whnf))
  repeat' first|(refine zd ?_ ?_<;>intro h<;>first|exact zc h|(exfalso;omega)|conv=>whnf)|((first|refine zz ?_|refine qp r1 ?_|refine qp r2 ?_|refine qp ad ?_|refine qp sg ?_|refine ⟨_,b75,?_⟩|refine zy ?_);conv=>whnf)
  all_goals first|(exfalso;omega)|(exfalso;simp_all;done)|exact fin _ _ (by omega)
 case inl.inr.inr=>
  have sg:=G0 (-1) _ (by omega) (D2 ls (by omega))
  (refine a8 a7 Tryz.func113 rfl (by decide) ?_;(conv=>whnf);repeat ((first|refine b0x ?_|refine zy ?_);conv=>whnf))
  repeat' first|(refine zd ?_ ?_<;>intro h<;>first|exact zc h|(exfalso;omega)|conv=>whnf)|((first|refine zz ?_|refine qp r1 ?_|refine qp r2 ?_|refine qp ad ?_|refine qp sg ?_|refine ⟨_,b6W,?_⟩|refine zy ?_);conv=>whnf)
  all_goals first|(exfalso;omega)|(exfalso;simp_all;done)|exact fin _ _ (by omega)
 case inr.inl.inl=>
  have sg:=G0 (1) _ (by omega) (D2 ls (by omega))
  (refine a8 a7 Tryz.func113 rfl (by decide) ?_;(conv=>whnf);repeat ((first|refine b0x ?_|refine zy ?_);conv=>whnf))
  repeat' first|(refine zd ?_ ?_<;>intro h<;>first|exact zc h|(exfalso;omega)|conv=>whnf)|((first|refine zz ?_|refine qp r1 ?_|refine qp r2 ?_|refine qp ad ?_|refine qp sg ?_|refine ⟨_,b53,?_⟩|refine zy ?_);conv=>whnf)
  all_goals first|(exfalso;omega)|(exfalso;simp_all;done)|exact fin _ _ (by omega)
 case inr.inr.inl=>
  have sg:=G0 (-1) _ (by omega) (D2 ls (by omega))
  (refine a8 a7 Tryz.func113 rfl (by decide) ?_;(conv=>whnf);repeat ((first|refine b0x ?_|refine zy ?_);conv=>whnf))
  repeat' first|(refine zd ?_ ?_<;>intro h<;>first|exact zc h|(exfalso;omega)|conv=>whnf)|((first|refine zz ?_|refine qp r1 ?_|refine qp r2 ?_|refine qp ad ?_|refine qp sg ?_|refine ⟨_,b5W,?_⟩|refine zy ?_);conv=>whnf)
  all_goals first|(exfalso;omega)|(exfalso;simp_all;done)|exact fin _ _ (by omega)
 case inr.inl.inr.inl=>
  have sg:=G0 (1) _ (by omega) (D2 ls (by omega))
  (refine a8 a7 Tryz.func113 rfl (by decide) ?_;(conv=>whnf);repeat ((first|refine b0x ?_|refine zy ?_);conv=>whnf))
  repeat' first|(refine zd ?_ ?_<;>intro h<;>first|exact zc h|(exfalso;omega)|conv=>whnf)|((first|refine zz ?_|refine qp r1 ?_|refine qp r2 ?_|refine qp ad ?_|refine qp sg ?_|refine ⟨_,b6s,?_⟩|refine zy ?_);conv=>whnf)
  all_goals first|(exfalso;omega)|(exfalso;simp_all;done)|exact fin _ _ (by omega)
 case inr.inr.inr.inr=>
  have sg:=G0 (-1) _ (by omega) (D2 ls (by omega))
  (refine a8 a7 Tryz.func113 rfl (by decide) ?_;(conv=>whnf);repeat ((first|refine b0x ?_|refine zy ?_);conv=>whnf))
  repeat' first|(refine zd ?_ ?_<;>intro h<;>first|exact zc h|(exfalso;omega)|conv=>whnf)|((first|refine zz ?_|refine qp r1 ?_|refine qp r2 ?_|refine qp ad ?_|refine qp sg ?_|refine ⟨_,b6N,?_⟩|refine zy ?_);conv=>whnf)
  all_goals first|(exfalso;omega)|(exfalso;simp_all;done)|exact fin _ _ (by omega)
 case inr.inl.inr.inr=>
  rcases Nat.lt_or_ge m n with hmn|hmn
  ·rw [decide_eq_true hmn] at c
   have l3:=n7 (Nat.sub_le n m)
   (refine a8 a7 Tryz.func113 rfl (by decide) ?_;(conv=>whnf);repeat ((first|refine b0x ?_|refine zy ?_);conv=>whnf))
   repeat' first|(refine zd ?_ ?_<;>intro h<;>first|exact zc h|(exfalso;omega)|conv=>whnf)|((first|refine zz ?_|refine qp r1 ?_|refine qp r2 ?_|refine qp c ?_|refine qp (a5c n m (by omega) (by omega)) ?_|refine qp (G0 (-1) (n - m) (by omega) (by omega)) ?_|refine zy ?_);conv=>whnf)
   all_goals first|(exfalso;omega)|(exfalso;simp_all;done)|exact fin _ _ (by omega)
  ·rw [decide_eq_false (Nat.not_lt.2 hmn)] at c
   have l3:=n7 (Nat.sub_le m n)
   (refine a8 a7 Tryz.func113 rfl (by decide) ?_;(conv=>whnf);repeat ((first|refine b0x ?_|refine zy ?_);conv=>whnf))
   repeat' first|(refine zd ?_ ?_<;>intro h<;>first|exact zc h|(exfalso;omega)|conv=>whnf)|((first|refine zz ?_|refine qp r1 ?_|refine qp r2 ?_|refine qp c ?_|refine qp (a5c m n (by omega) (by omega)) ?_|refine qp (G0 (1) (m - n) (by omega) (by omega)) ?_|refine zy ?_);conv=>whnf)
   all_goals first|(exfalso;omega)|(exfalso;simp_all;done)|exact fin _ _ (by omega)
 case inr.inr.inr.inl=>
  rcases Nat.lt_or_ge m n with hmn|hmn
  ·rw [decide_eq_true hmn] at c
   have l3:=n7 (Nat.sub_le n m)
   (refine a8 a7 Tryz.func113 rfl (by decide) ?_;(conv=>whnf);repeat ((first|refine b0x ?_|refine zy ?_);conv=>whnf))
   repeat' first|(refine zd ?_ ?_<;>intro h<;>first|exact zc h|(exfalso;omega)|conv=>whnf)|((first|refine zz ?_|refine qp r1 ?_|refine qp r2 ?_|refine qp c ?_|refine qp (a5c n m (by omega) (by omega)) ?_|refine qp (G0 (1) (n - m) (by omega) (by omega)) ?_|refine zy ?_);conv=>whnf)
   all_goals first|(exfalso;omega)|(exfalso;simp_all;done)|exact fin _ _ (by omega)
  ·rw [decide_eq_false (Nat.not_lt.2 hmn)] at c
   have l3:=n7 (Nat.sub_le m n)
   (refine a8 a7 Tryz.func113 rfl (by decide) ?_;(conv=>whnf);repeat ((first|refine b0x ?_|refine zy ?_);conv=>whnf))
   repeat' first|(refine zd ?_ ?_<;>intro h<;>first|exact zc h|(exfalso;omega)|conv=>whnf)|((first|refine zz ?_|refine qp r1 ?_|refine qp r2 ?_|refine qp c ?_|refine qp (a5c m n (by omega) (by omega)) ?_|refine qp (G0 (-1) (m - n) (by omega) (by omega)) ?_|refine zy ?_);conv=>whnf)
   all_goals first|(exfalso;omega)|(exfalso;simp_all;done)|exact fin _ _ (by omega)
theorem b3l (x y:Int) (lx:bl x≤200000) (ly:bl y≤200000):b9 Tryz.prog 113 [bgS (bz x),bgS (bz y)] [] (.tup [bgS (bz (x+y)),a9 .i64 0]) []:=by
 have h:=b4l _ _ _ _ (a42 x) (a42 y) lx ly
 rw [sgm,sgm] at h
 exact h
set_option maxHeartbeats 2000000 in
theorem b5c (x y:Int) (lx:bl x≤200000) (ly:bl y≤200000):b9 Tryz.prog 115 [bgS (bz x),bgS (bz y)] [] (.tup [bgS (bz (x - y)),a9 .i64 0]) []:=by
 have r:=Y0 y (by omega)
 have n:=b3j y (by omega)
 have a:=b3l x (-y) lx (by rw [a0S];exact ly)
 rw [← Int.sub_eq_add_neg] at a
 (refine a8 a7 Tryz.func115 rfl (by decide) ?_;(conv=>whnf);repeat ((first|refine b0x ?_|refine zy ?_);conv=>whnf))
 repeat' first|(refine zd ?_ ?_<;>intro h<;>first|exact zc h|(exfalso;omega)|conv=>whnf)|((first|refine zz ?_|refine qp r ?_|refine qp n ?_|refine qp a ?_|refine qp 6 ?_|refine qp 1 ?_|refine bl0 [6] ?_|refine bl0 [1] ?_|refine zy ?_);conv=>whnf)
 all_goals first
  |(exfalso;simp_all;done)
  |exact a4i rfl
theorem b3L (s t:Int) (m n:Nat) (hs:Sg s m) (ht:Sg t n) (lm:(dg m).length≤200000) (ln:(dg n).length≤200000):
 b9 Tryz.prog 112 [bgS ⟨s,dg m⟩,bgS ⟨t,dg n⟩] [] (.tup [bgS (bz ((s*t)*(m*n:Nat))),a9 .i64 0]) []:=by
 have r1:=b2h s m hs (by omega)
 have r2:=b2h t n ht (by omega)
 have mu:=ap3 m n (by omega) (by omega)
 have ls:=a2e m n
 have hst:-1≤s*t∧s*t≤1∧(s*t=1∨s*t=-1∨m*n=0):=by
  rcases hs with ⟨rfl,rfl⟩|⟨rfl,h1⟩|⟨rfl,h1⟩<;>rcases ht with ⟨rfl,rfl⟩|⟨rfl,h2⟩|⟨rfl,h2⟩<;>simp
 obtain ⟨q1,q2,q3⟩:=hst
 have sg:=G0 (s*t) (m*n) q3 (by omega)
 (refine a8 a7 Tryz.func112 rfl (by decide) ?_;(conv=>whnf);repeat ((first|refine b0x ?_|refine zy ?_);conv=>whnf))
 repeat' first|(refine zd ?_ ?_<;>intro h<;>first|exact zc h|(exfalso;omega)|conv=>whnf)|((first|refine zz ?_|refine qp r1 ?_|refine qp r2 ?_|refine qp mu ?_|refine qp sg ?_|refine ⟨_,y9 (y:=s*t) rfl (by omega) (by omega),?_⟩|refine zy ?_);conv=>whnf)
 all_goals first|(exfalso;simp_all;done)|exact a4i rfl
theorem a40 (x y:Int) (lx:bl x≤200000) (ly:bl y≤200000):b9 Tryz.prog 112 [bgS (bz x),bgS (bz y)] [] (.tup [bgS (bz (x*y)),a9 .i64 0]) []:=by
 have h:=b3L _ _ _ _ (a42 x) (a42 y) lx ly
 have e:(x.sign*y.sign)*((x.natAbs*y.natAbs:Nat):Int)=x*y:=by
  rw [Int.natCast_mul]
  have h1:=sgm x
  have h2:=sgm y
  grind
 rw [e] at h
 exact h
theorem b2g {x y:Int} (h:(bz x).sg=(bz y).sg∧(bz x).dl=(bz y).dl):x=y:=by
 have:bz x=bz y:=by
  obtain ⟨h1,h2⟩:=h
  cases hx:bz x with
  |mk a b=>
   cases hy:bz y with
   |mk c d=>rw [hx,hy] at h1 h2;simp only at h1 h2;rw [h1,h2]
 rw [← a2z x,←a2z y,this]
set_option maxHeartbeats 4000000 in
theorem ac0 (x y:Int) (lx:bl x≤300000) (ly:bl y≤300000):b9 Tryz.prog 182 [bgS (bz x),bgS (bz y)] [] (a9 .i64 (J2 x y)) []:=by
 have r1:=Y0 x lx
 have r2:=Y0 y ly
 have hsx:(bz x).sg=x.sign:=rfl
 have hsy:(bz y).sg=y.sign:=rfl
 have sx:=A6 x
 have sy:=A6 y
 have sm:=b3H (bz x) (bz y) (show bl x≤1000000 by omega) (show bl y≤1000000 by omega)
 by_cases he:x=y
 ·subst he
  have sm:b9 Tryz.prog 245 [bgS (bz x),bgS (bz x)] [] (e6 true) []:=by rw [show decide ((bz x).sg=(bz x).sg∧(bz x).dl=(bz x).dl)=true from decide_eq_true ⟨rfl,rfl⟩] at sm;exact sm
  have e0:J2 x x=0:=by unfold J2;rw [if_neg (by omega),if_neg (by omega)]
  rw [e0]
  (refine a8 a7 Tryz.func182 rfl (by decide) ?_;(conv=>whnf);repeat ((first|refine b0x ?_|refine zy ?_);conv=>whnf))
  repeat' first|(refine zd ?_ ?_<;>intro h<;>first|exact zc h|(exfalso;omega)|conv=>whnf)|((first|refine zz ?_|refine qp r1 ?_|refine qp r2 ?_|refine qp sm ?_|refine zy ?_);conv=>whnf)
  all_goals first
   |(exfalso;simp_all;done)
   |exact j8 rfl
 rw [decide_eq_false (fun h=>he (b2g h))] at sm
 have ls:=aF0 x.natAbs y.natAbs lx ly
 rcases Int.lt_or_gt_of_ne he with hlt|hgt
 ·have e1:J2 x y=-1:=by unfold J2;rw [if_pos hlt]
  rw [e1]
  by_cases hl:x.natAbs<y.natAbs
  ·rw [decide_eq_true hl] at ls
   (refine a8 a7 Tryz.func182 rfl (by decide) ?_;(conv=>whnf);repeat ((first|refine b0x ?_|refine zy ?_);conv=>whnf))
   repeat' first|(refine zd ?_ ?_<;>intro h<;>first|exact zc h|(exfalso;omega)|conv=>whnf)|((first|refine zz ?_|refine qp r1 ?_|refine qp r2 ?_|refine qp sm ?_|refine qp ls ?_|refine zy ?_);conv=>whnf)
   all_goals first
    |(exfalso;omega)
    |(exfalso;simp_all;done)
    |exact j8 rfl
  ·rw [decide_eq_false hl] at ls
   (refine a8 a7 Tryz.func182 rfl (by decide) ?_;(conv=>whnf);repeat ((first|refine b0x ?_|refine zy ?_);conv=>whnf))
   repeat' first|(refine zd ?_ ?_<;>intro h<;>first|exact zc h|(exfalso;omega)|conv=>whnf)|((first|refine zz ?_|refine qp r1 ?_|refine qp r2 ?_|refine qp sm ?_|refine qp ls ?_|refine zy ?_);conv=>whnf)
   all_goals first
    |(exfalso;omega)
    |(exfalso;simp_all;done)
    |exact j8 rfl
 ·have e1:J2 x y=1:=by unfold J2;rw [if_neg (by omega),if_pos (by omega)]
  rw [e1]
  by_cases hl:x.natAbs<y.natAbs
  ·rw [decide_eq_true hl] at ls
   (refine a8 a7 Tryz.func182 rfl (by decide) ?_;(conv=>whnf);repeat ((first|refine b0x ?_|refine zy ?_);conv=>whnf))
   repeat' first|(refine zd ?_ ?_<;>intro h<;>first|exact zc h|(exfalso;omega)|conv=>whnf)|((first|refine zz ?_|refine qp r1 ?_|refine qp r2 ?_|refine qp sm ?_|refine qp ls ?_|refine zy ?_);conv=>whnf)
   all_goals first
    |(exfalso;omega)
    |(exfalso;simp_all;done)
    |exact j8 rfl
  ·rw [decide_eq_false hl] at ls
   (refine a8 a7 Tryz.func182 rfl (by decide) ?_;(conv=>whnf);repeat ((first|refine b0x ?_|refine zy ?_);conv=>whnf))
   repeat' first|(refine zd ?_ ?_<;>intro h<;>first|exact zc h|(exfalso;omega)|conv=>whnf)|((first|refine zz ?_|refine qp r1 ?_|refine qp r2 ?_|refine qp sm ?_|refine qp ls ?_|refine zy ?_);conv=>whnf)
   all_goals first
    |(exfalso;omega)
    |(exfalso;simp_all;done)
    |exact j8 rfl
end
section
open Go.RowKit
theorem aM5 {x y:Int}:J2 x y=0↔x=y:=by unfold J2;split<;>(try split)<;>omega
theorem aJ1 (f:Fr) (lp:f.p.dl.length≤200000) (lq:f.q.dl.length≤200000):b9 Tryz.prog 111 [frS f] [] (e6 (t6 f)) []:=by
 obtain ⟨p,q⟩:=f
 simp only at lp lq
 have r1:=a2k p (by omega)
 have r2:=a2k q (by omega)
 cases hp:E9 p with
 |false=>
  rw [hp] at r1
  (refine a8 a7 Tryz.func111 rfl (by decide) ?_;(conv=>whnf);repeat ((first|refine b0x ?_|refine zy ?_);conv=>whnf))
  repeat' first|(refine zd ?_ ?_<;>intro h<;>first|exact zc h|(exfalso;omega)|conv=>whnf)|((first|refine zz ?_|refine qp r1 ?_|refine qp r2 ?_|refine zy ?_);conv=>whnf)
  all_goals (first|(exfalso;simp_all;done)|(refine c6 ?_;unfold t6;simp [hp]))
 |true=>
  rw [hp] at r1
  cases hq:E9 q with
  |false=>
   rw [hq] at r2
   (refine a8 a7 Tryz.func111 rfl (by decide) ?_;(conv=>whnf);repeat ((first|refine b0x ?_|refine zy ?_);conv=>whnf))
   repeat' first|(refine zd ?_ ?_<;>intro h<;>first|exact zc h|(exfalso;omega)|conv=>whnf)|((first|refine zz ?_|refine qp r1 ?_|refine qp r2 ?_|refine zy ?_);conv=>whnf)
   all_goals (first|(exfalso;simp_all;done)|(refine c6 ?_;unfold t6;simp [hq]))
  |true=>
   rw [hq] at r2
   obtain ⟨x,rfl⟩:=a7P hp
   obtain ⟨y,rfl⟩:=a7P hq
   have hsg:(bz y).sg=y.sign:=rfl
   have hsg2:(Fr.mk (bz x) (bz y)).q.sg=y.sign:=rfl
   have sy:=A6 y
   have lg:=a8t x y lp lq
   have g:=b34 x y lp lq
   have o:=b3J 1 (by decide) (by decide)
   have c:=ac0 (Int.gcd x y) 1 (by omega) (by have:=p8 (x:=1) (by decide) (by decide);omega)
   have hc:=aM5 (x:=Int.gcd x y) (y:=1)
   (refine a8 a7 Tryz.func111 rfl (by decide) ?_;(conv=>whnf);repeat ((first|refine b0x ?_|refine zy ?_);conv=>whnf))
   repeat' first|(refine zd ?_ ?_<;>intro h<;>first|exact zc h|(exfalso;omega)|conv=>whnf)|((first|refine zz ?_|refine qp r1 ?_|refine qp r2 ?_|refine qp g ?_|refine qp o ?_|refine qp c ?_|refine qp 5 ?_|refine bl0 [5] ?_|refine zy ?_);conv=>whnf)
   all_goals first
    |(exfalso;simp_all;done)
    |(refine c6 ?_;unfold t6;simp only [U0,a2z,Bool.true_and];simp;omega)
theorem a5S (x:Rat) (lx:rl x≤200000):b9 Tryz.prog 111 [frS (fz x)] [] (e6 true) []:=by
 have h:=aJ1 (fz x) (Nat.le_trans (B3 x) lx) (Nat.le_trans (B9 x) lx)
 rw [a80] at h
 exact h
theorem a8e (x y:Rat):0<(x.den:Int)*y.den:=Int.mul_pos (by have:=x.den_pos;omega) (by have:=y.den_pos;omega)
theorem aJ0 (x y:Rat) (lx:rl x≤60000) (ly:rl y≤60000):b9 Tryz.prog 47 [frS (fz x),frS (fz y)] [] (.tup [frS (fz (x+y)),a9 .i64 0]) []:=by
 have r1:=a5S x (by omega)
 have r2:=a5S y (by omega)
 have x1:=B3 x
 have x2:=B9 x
 have y1:=B3 y
 have y2:=B9 y
 have l1:=B7 x.num y.den
 have l2:=B7 y.num x.den
 have l3:=B7 x.den y.den
 have l4:=a6d (x.num*y.den) (y.num*x.den)
 have t1:=a40 x.num y.den (by omega) (by omega)
 have t2:=a40 y.num x.den (by omega) (by omega)
 have t3:=a40 x.den y.den (by omega) (by omega)
 have a:=b3l (x.num*y.den) (y.num*x.den) (by omega) (by omega)
 have n:=aI7 (x.num*y.den+y.num*x.den) (x.den*y.den) (a8e x y) (by omega) (by omega)
 rw [← a7i] at n
 (refine a8 a7 Tryz.func47 rfl (by decide) ?_;(conv=>whnf);repeat ((first|refine b0x ?_|refine zy ?_);conv=>whnf))
 repeat' first|(refine zd ?_ ?_<;>intro h<;>first|exact zc h|(exfalso;omega)|conv=>whnf)|((first|refine zz ?_|refine qp r1 ?_|refine qp r2 ?_|refine qp t1 ?_|refine qp t2 ?_|refine qp t3 ?_|refine qp a ?_|refine qp n ?_|refine qp 7 ?_|refine qp 5 ?_|refine bl0 [7] ?_|refine bl0 [5] ?_|refine zy ?_);conv=>whnf)
 all_goals first
  |(exfalso;simp_all;done)
  |exact R7 rfl
theorem b8o (x y:Rat) (lx:rl x≤60000) (ly:rl y≤60000):b9 Tryz.prog 48 [frS (fz x),frS (fz y)] [] (.tup [frS (fz (x - y)),a9 .i64 0]) []:=by
 have r1:=a5S x (by omega)
 have r2:=a5S y (by omega)
 have x1:=B3 x
 have x2:=B9 x
 have y1:=B3 y
 have y2:=B9 y
 have l1:=B7 x.num y.den
 have l2:=B7 y.num x.den
 have l3:=B7 x.den y.den
 have l4:=a6d (x.num*y.den) (-(y.num*x.den))
 rw [a0S,←Int.sub_eq_add_neg] at l4
 have t1:=a40 x.num y.den (by omega) (by omega)
 have t2:=a40 y.num x.den (by omega) (by omega)
 have t3:=a40 x.den y.den (by omega) (by omega)
 have a:=b5c (x.num*y.den) (y.num*x.den) (by omega) (by omega)
 have n:=aI7 (x.num*y.den - y.num*x.den) (x.den*y.den) (a8e x y) (by omega) (by omega)
 have e:Rat.divInt (x.num*y.den - y.num*x.den) (x.den*y.den)=x - y:=by
  have:=a7i x (-y)
  rw [Rat.neg_num,Rat.neg_den,Int.neg_mul,←Int.sub_eq_add_neg,←Rat.sub_eq_add_neg] at this
  exact this.symm
 rw [e] at n
 (refine a8 a7 Tryz.func48 rfl (by decide) ?_;(conv=>whnf);repeat ((first|refine b0x ?_|refine zy ?_);conv=>whnf))
 repeat' first|(refine zd ?_ ?_<;>intro h<;>first|exact zc h|(exfalso;omega)|conv=>whnf)|((first|refine zz ?_|refine qp r1 ?_|refine qp r2 ?_|refine qp t1 ?_|refine qp t2 ?_|refine qp t3 ?_|refine qp a ?_|refine qp n ?_|refine qp 7 ?_|refine qp 5 ?_|refine bl0 [7] ?_|refine bl0 [5] ?_|refine zy ?_);conv=>whnf)
 all_goals first
  |(exfalso;simp_all;done)
  |exact R7 rfl
theorem b33 (x y:Rat) (lx:rl x≤60000) (ly:rl y≤60000):b9 Tryz.prog 237 [frS (fz x),frS (fz y)] [] (.tup [frS (fz (x*y)),a9 .i64 0]) []:=by
 have r1:=a5S x (by omega)
 have r2:=a5S y (by omega)
 have x1:=B3 x
 have x2:=B9 x
 have y1:=B3 y
 have y2:=B9 y
 have l1:=B7 x.num y.num
 have l3:=B7 x.den y.den
 have t1:=a40 x.num y.num (by omega) (by omega)
 have t3:=a40 x.den y.den (by omega) (by omega)
 have n:=aI7 (x.num*y.num) (x.den*y.den) (a8e x y) (by omega) (by omega)
 rw [← ai2] at n
 (refine a8 a7 Tryz.func237 rfl (by decide) ?_;(conv=>whnf);repeat ((first|refine b0x ?_|refine zy ?_);conv=>whnf))
 repeat' first|(refine zd ?_ ?_<;>intro h<;>first|exact zc h|(exfalso;omega)|conv=>whnf)|((first|refine zz ?_|refine qp r1 ?_|refine qp r2 ?_|refine qp t1 ?_|refine qp t3 ?_|refine qp n ?_|refine qp 7 ?_|refine qp 5 ?_|refine bl0 [7] ?_|refine bl0 [5] ?_|refine zy ?_);conv=>whnf)
 all_goals first
  |(exfalso;simp_all;done)
  |exact R7 rfl
theorem aa0 (x y:Rat) (lx:rl x≤60000) (ly:rl y≤60000):b9 Tryz.prog 169 [frS (fz x),frS (fz y)] [] (a9 .i64 (a01 x y)) []:=by
 have r1:=a5S x (by omega)
 have r2:=a5S y (by omega)
 have x1:=B3 x
 have x2:=B9 x
 have y1:=B3 y
 have y2:=B9 y
 have l1:=B7 x.num y.den
 have l2:=B7 y.num x.den
 have t1:=a40 x.num y.den (by omega) (by omega)
 have t2:=a40 y.num x.den (by omega) (by omega)
 have c:=ac0 (x.num*y.den) (y.num*x.den) (by omega) (by omega)
 rw [av5] at c
 (refine a8 a7 Tryz.func169 rfl (by decide) ?_;(conv=>whnf);repeat ((first|refine b0x ?_|refine zy ?_);conv=>whnf))
 repeat' first|(refine zd ?_ ?_<;>intro h<;>first|exact zc h|(exfalso;omega)|conv=>whnf)|((first|refine zz ?_|refine qp r1 ?_|refine qp r2 ?_|refine qp t1 ?_|refine qp t2 ?_|refine qp c ?_|refine qp 7 ?_|refine qp 5 ?_|refine bl0 [7] ?_|refine bl0 [5] ?_|refine zy ?_);conv=>whnf)
 all_goals first
  |(exfalso;simp_all;done)
  |exact j8 rfl
theorem a4q (x:Rat) (lx:rl x≤60000):b9 Tryz.prog 46 [frS (fz x)] [] (a9 .i64 (sgR x)) []:=by
 have r1:=a5S x (by omega)
 (refine a8 a7 Tryz.func46 rfl (by decide) ?_;(conv=>whnf);repeat ((first|refine b0x ?_|refine zy ?_);conv=>whnf))
 repeat' first|(refine zd ?_ ?_<;>intro h<;>first|exact zc h|(exfalso;omega)|conv=>whnf)|((first|refine zz ?_|refine qp r1 ?_|refine zy ?_);conv=>whnf)
 all_goals first
  |(exfalso;simp_all;done)
  |exact j8 (a4Q x)
end
section
open Go.RowKit
theorem b0X {α:Type} {f:α→List T} {l:List α} {k:Nat} {u:α} (hu:l[k]? =some u) {Φ:List T→Prop} (h:Φ (f u)):
 ∃row,(0≤bif true then if 0 > ((k+1:Nat):Int) - 1 then 0 else ((k+1:Nat):Int) - 1 else if 0<((k+1:Nat):Int) - 1 then 0 else ((k+1:Nat):Int) - 1)∧
  (l.map f)[(bif true then if 0 > ((k+1:Nat):Int) - 1 then 0 else ((k+1:Nat):Int) - 1 else if 0<((k+1:Nat):Int) - 1 then 0 else ((k+1:Nat):Int) - 1).toNat]? =some row∧Φ row:=by
 have e:(bif true then if 0 > ((k+1:Nat):Int) - 1 then 0 else ((k+1:Nat):Int) - 1 else if 0<((k+1:Nat):Int) - 1 then 0 else ((k+1:Nat):Int) - 1)=(k:Int):=by
  show (if 0 > ((k+1:Nat):Int) - 1 then 0 else ((k+1:Nat):Int) - 1)=_
  rw [if_neg (by omega)];omega
 rw [e]
 exact ⟨f u,by omega,by rw [Int.toNat_natCast,List.getElem?_map,hu];rfl,h⟩
theorem a07 (l:List (Int × Rat)) (n:Int) (hl:l.length≤1000000) (hB:∀t ∈ l,rl t.2≤200):b9 Tryz.prog 167 [j2 l,a9 .i64 n] [] (e6 (decide (0≤n) && e7 (-1) n l)) []:=by
 have m1:(l.map k6).length=l.length:=by simp
 by_cases h0:n<0
 ·rw [decide_eq_false (by omega),Bool.false_and]
  (refine a8 a7 Tryz.func167 rfl (by decide) ?_;(conv=>whnf);repeat ((first|refine b0x ?_|refine zy ?_);conv=>whnf))
  repeat' first|(refine zd ?_ ?_<;>intro h<;>first|exact zc h|(exfalso;omega)|conv=>whnf)|((first|refine zz ?_|refine zy ?_);conv=>whnf)
  all_goals first
   |(exfalso;omega)
   |exact c6 rfl
 rw [decide_eq_true (by omega),Bool.true_and]
 (refine a8 a7 Tryz.func167 rfl (by decide) ?_;(conv=>whnf);repeat ((first|refine b0x ?_|refine zy ?_);conv=>whnf))
 repeat' first|(refine zd ?_ ?_<;>intro h<;>first|exact zc h|(exfalso;omega)|conv=>whnf)|((first|refine zz ?_|refine zy ?_);conv=>whnf)
 all_goals try (exfalso;omega)
 refine f6 a7 (fun k=>([j2 l,a9 .i64 n,J,J,J,a9 .i64 k,J,J,J,J,J,J,J,J,J,J,J,J,J,J,J,J,J,J,J,J,J,J,J,J,J,J,J,J,J,J,J,J,J,J,J,J,J,J,J,J,J,J,J,J,J,J,J,J,J,J,J,J,J,J,J,J,J,J,J],[])) l.length (fun k=>e7 (-1) n l=e7 (a1v l k) n (l.drop k)∧-1≤a1v l k) [] ⟨rfl,Int.le_refl _⟩
  ⟨rfl,rfl,trivial,⟨rfl,rfl,rfl,trivial⟩⟩ ?_
 rintro k hk ⟨hI,hJ⟩
 by_cases hlt:k<l.length
 ·obtain ⟨t,ht⟩:∃t,l[k]? =some t:=⟨_,lg0 hlt⟩
  obtain ⟨v,c⟩:=t
  have bc:=hB _ (lg2 ht)
  simp only at bc
  have rr:=a5S c (by omega)
  have sz:(fz c).p.sg=0↔c=0:=by
   show c.num.sign=0↔c=0
   rw [Int.sign_eq_zero_iff_zero]
   exact Rat.num_eq_zero
  rw [Y7 ht,e7] at hI
  simp only at hI
  by_cases hok:a1v l k<v∧v<n∧c≠0
  ·rw [decide_eq_true hok.1,decide_eq_true hok.2.1,decide_eq_true hok.2.2] at hI
   simp only [Bool.true_and] at hI
   have hne:(fz (v,c).2).p.sg≠0:=fun h=>hok.2.2 (sz.1 h)
   obtain ⟨q1,q2,_⟩:=hok
   cases k with
   |zero=>
    conv=>whnf
    repeat' first|(refine zd ?_ ?_<;>intro h<;>first|exact zc h|(exfalso;omega)|conv=>whnf)|((first|refine zz ?_|refine qp rr ?_|refine d7 ht ?_|refine zy ?_);conv=>whnf)
    all_goals first
     |(exfalso;omega)
     |exact ⟨hlt,⟨by rw [O4 ht];exact hI,by rw [O4 ht];simp only;omega⟩,[],rfl,rfl,trivial,⟨rfl,rfl,rfl,trivial⟩⟩
   |succ k=>
    obtain ⟨u,hu⟩:∃u,l[k]? =some u:=⟨_,lg0 (by omega)⟩
    rw [O4 hu] at q1 hJ
    conv=>whnf
    repeat' first|(refine zd ?_ ?_<;>intro h<;>first|exact zc h|(exfalso;omega)|conv=>whnf)|((first|refine zz ?_|refine qp rr ?_|refine d7 ht ?_|refine b0X hu ?_|refine zy ?_);conv=>whnf)
    all_goals first
     |(exfalso;omega)
     |exact ⟨hlt,⟨by rw [O4 ht];exact hI,by rw [O4 ht];simp only;omega⟩,[],rfl,rfl,trivial,⟨rfl,rfl,rfl,trivial⟩⟩
  ·have hF:e7 (-1) n l=false:=by
    rw [hI]
    rw [← Bool.not_eq_true]
    simp only [Bool.and_eq_true,decide_eq_true_eq]
    exact fun h=>hok ⟨h.1.1.1,h.1.1.2,h.1.2⟩
   rw [hF]
   have hor:v≤a1v l k∨n≤v∨(fz (v,c).2).p.sg=0:=by
    by_cases q1:a1v l k<v
    ·by_cases q2:v<n
     ·refine .inr (.inr (sz.2 ?_))
      by_cases q3:c=0
      ·exact q3
      ·exact absurd ⟨q1,q2,q3⟩ hok
     ·exact .inr (.inl (by omega))
    ·exact .inl (by omega)
   clear hI hok
   cases k with
   |zero=>
    have e0:a1v l 0=-1:=rfl
    conv=>whnf
    repeat' first|(refine zd ?_ ?_<;>intro h<;>first|exact zc h|(exfalso;omega)|conv=>whnf)|((first|refine zz ?_|refine qp rr ?_|refine d7 ht ?_|refine zy ?_);conv=>whnf)
    all_goals first
     |(exfalso;omega)
     |exact c6 rfl
   |succ k=>
    obtain ⟨u,hu⟩:∃u,l[k]? =some u:=⟨_,lg0 (by omega)⟩
    rw [O4 hu] at hor
    conv=>whnf
    repeat' first|(refine zd ?_ ?_<;>intro h<;>first|exact zc h|(exfalso;omega)|conv=>whnf)|((first|refine zz ?_|refine qp rr ?_|refine d7 ht ?_|refine b0X hu ?_|refine zy ?_);conv=>whnf)
    all_goals first
     |(exfalso;omega)
     |exact c6 rfl
 ·rw [List.drop_of_length_le (by omega)] at hI
  have hI:e7 (-1) n l=true:=hI
  rw [hI]
  conv=>whnf
  repeat' first|(refine zd ?_ ?_<;>intro h<;>first|exact zc h|(exfalso;omega)|conv=>whnf)|((first|refine zz ?_|refine zy ?_);conv=>whnf)
  all_goals first
   |(exfalso;omega)
   |exact c6 rfl
theorem b6H (w:x7) (n:Int) (hl:w.terms.length≤1000000) (hB:∀t ∈ w.terms,rl t.2≤200) (hv:rl w.value≤200):b9 Tryz.prog 269 [as2 w,a9 .i64 n] [] (e6 (decide (0≤n) && u9 n w)) []:=by
 have rt:=a07 w.terms n hl hB
 have rv:=a5S w.value (by omega)
 unfold u9
 cases h1:decide (0≤n)<;>cases h2:e7 (-1) n w.terms<;>rw [h1,h2] at rt<;>
 ·(refine a8 a7 Tryz.func269 rfl (by decide) ?_;(conv=>whnf);repeat ((first|refine b0x ?_|refine zy ?_);conv=>whnf))
  repeat' first|(refine zd ?_ ?_<;>intro h<;>first|exact zc h|(exfalso;omega)|conv=>whnf)|((first|refine zz ?_|refine qp rt ?_|refine qp rv ?_|refine zy ?_);conv=>whnf)
  all_goals first
   |(exfalso;simp_all;done)
   |(refine c6 ?_;simp;done)
   |(refine c6 ?_;simp;omega)
theorem ah7 (s:f5) (hb:U7 s):b9 Tryz.prog 218 [F0 s] [] (e6 (f9 s)) []:=by
 have m1:(s.rows.map s7).length=s.rows.length:=by simp
 have l1:=hb.n0
 by_cases h0:¬(0≤s.n∧s.n≤1500∧s.rows.length≤6000)
 ·have e1:f9 s=false:=by
   unfold f9
   rw [← Bool.not_eq_true]
   simp only [Bool.and_eq_true,decide_eq_true_eq]
   exact fun h=>h0 ⟨h.1.1.1,h.1.1.2,h.1.2⟩
  rw [e1]
  (refine a8 a7 Tryz.func218 rfl (by decide) ?_;(conv=>whnf);repeat ((first|refine b0x ?_|refine zy ?_);conv=>whnf))
  repeat' first|(refine zd ?_ ?_<;>intro h<;>first|exact zc h|(exfalso;omega)|conv=>whnf)|((first|refine zz ?_|refine zy ?_);conv=>whnf)
  all_goals first
   |(exfalso;omega)
   |exact c6 rfl
 obtain ⟨c1,c2,c3⟩:=Decidable.not_not.1 h0
 have e1:f9 s=s.rows.all (u9 s.n):=by
  unfold f9
  rw [decide_eq_true c1,decide_eq_true c2,decide_eq_true c3];rfl
 rw [e1]
 clear h0
 (refine a8 a7 Tryz.func218 rfl (by decide) ?_;(conv=>whnf);repeat ((first|refine b0x ?_|refine zy ?_);conv=>whnf))
 repeat' first|(refine zd ?_ ?_<;>intro h<;>first|exact zc h|(exfalso;omega)|conv=>whnf)|((first|refine zz ?_|refine zy ?_);conv=>whnf)
 all_goals try (exfalso;omega)
 refine f6 a7 (fun k=>([J,S.c (C.t (T.ptr [ti s.n,B2 s.rows])),J,a9 .i64 k,J,J,J,J,J,J,J,J,J,J,J,J,J,J,J,J,J,J,J,J,J,J,J,J,J,J,J,J,J,J],[])) s.rows.length (fun k=>(s.rows.take k).all (u9 s.n)=true) [] rfl
  ⟨rfl,rfl,trivial,⟨rfl,rfl,trivial⟩⟩ ?_
 intro k hk hI
 by_cases hlt:k<s.rows.length
 ·obtain ⟨w,hw⟩:∃w,s.rows[k]? =some w:=⟨_,lg0 hlt⟩
  obtain ⟨b1,b2,b3⟩:=hb.t w (lg2 hw)
  have rt:=b6H w s.n (by omega) b2 b3
  rw [decide_eq_true c1,Bool.true_and] at rt
  cases hrt:u9 s.n w with
  |false=>
   rw [hrt] at rt
   rw [t7 hw hrt]
   conv=>whnf
   repeat' first|(refine zd ?_ ?_<;>intro h<;>first|exact zc h|(exfalso;omega)|conv=>whnf)|((first|refine zz ?_|refine qp rt ?_|refine d7 hw ?_|refine zy ?_);conv=>whnf)
   all_goals first
    |(exfalso;omega)
    |(exfalso;simp_all;done)
    |exact c6 rfl
  |true=>
   rw [hrt] at rt
   conv=>whnf
   repeat' first|(refine zd ?_ ?_<;>intro h<;>first|exact zc h|(exfalso;omega)|conv=>whnf)|((first|refine zz ?_|refine qp rt ?_|refine d7 hw ?_|refine zy ?_);conv=>whnf)
   all_goals first
    |(exfalso;omega)
    |(exfalso;simp_all;done)
    |exact ⟨hlt,by rw [o4 hw,hI,hrt];rfl,[],rfl,rfl,trivial,⟨rfl,rfl,trivial⟩⟩
 ·rw [lg4 (by omega)] at hI
  rw [hI]
  conv=>whnf
  repeat' first|(refine zd ?_ ?_<;>intro h<;>first|exact zc h|(exfalso;omega)|conv=>whnf)|((first|refine zz ?_|refine zy ?_);conv=>whnf)
  all_goals first
   |(exfalso;omega)
   |exact c6 rfl
theorem b20 (z:List Fr) (hl:z.length≤1000000) (hd:∀f ∈ z,f.p.dl.length≤200000∧f.q.dl.length≤200000):b9 Tryz.prog 219 [k7 z] [] (e6 (z.all t6)) []:=by
 have m1:(z.map j7).length=z.length:=by simp
 (refine a8 a7 Tryz.func219 rfl (by decide) ?_;(conv=>whnf);repeat ((first|refine b0x ?_|refine zy ?_);conv=>whnf))
 repeat' first|(refine zd ?_ ?_<;>intro h<;>first|exact zc h|(exfalso;omega)|conv=>whnf)|((first|refine zz ?_|refine zy ?_);conv=>whnf)
 refine f6 a7 (fun k=>([k7 z,J,J,a9 .i64 k,J,J,J,J,J,J,J,J,J,J,J,J],[])) z.length (fun k=>(z.take k).all t6=true) [] rfl
  ⟨rfl,rfl,trivial,⟨rfl,rfl,trivial⟩⟩ ?_
 intro k hk hI
 by_cases hlt:k<z.length
 ·obtain ⟨f,hf⟩:∃f,z[k]? =some f:=⟨_,lg0 hlt⟩
  have q:=hd f (lg2 hf)
  have rr:=aJ1 f q.1 q.2
  cases hff:t6 f with
  |true=>
   rw [hff] at rr
   conv=>whnf
   repeat' first|(refine zd ?_ ?_<;>intro h<;>first|exact zc h|(exfalso;omega)|conv=>whnf)|((first|refine zz ?_|refine qp rr ?_|refine d7 hf ?_|refine zy ?_);conv=>whnf)
   all_goals first
    |(exfalso;omega)
    |exact ⟨hlt,by rw [o4 hf,hI,hff];rfl,[],rfl,rfl,trivial,⟨rfl,rfl,trivial⟩⟩
  |false=>
   rw [hff] at rr
   rw [t7 hf hff]
   conv=>whnf
   repeat' first|(refine zd ?_ ?_<;>intro h<;>first|exact zc h|(exfalso;omega)|conv=>whnf)|((first|refine zz ?_|refine qp rr ?_|refine d7 hf ?_|refine zy ?_);conv=>whnf)
   all_goals first
    |(exfalso;omega)
    |exact c6 rfl
 ·rw [lg4 (by omega)] at hI
  rw [hI]
  conv=>whnf
  repeat' first|(refine zd ?_ ?_<;>intro h<;>first|exact zc h|(exfalso;omega)|conv=>whnf)|((first|refine zz ?_|refine zy ?_);conv=>whnf)
  all_goals first
   |(exfalso;omega)
   |exact c6 rfl
theorem a8O (z:List Rat) (hl:z.length≤1000000) (hd:∀v ∈ z,rl v≤200000):b9 Tryz.prog 219 [k7 (z.map fz)] [] (e6 true) []:=by
 have pt:=b20 (z.map fz) (by simpa using hl) (fun f hf=>by
  obtain ⟨x,hx,rfl⟩:=List.mem_map.1 hf
  have:=hd x hx
  have a:=B3 x
  have b:=B9 x
  exact ⟨by show bl x.num≤_;omega,by show bl x.den≤_;omega⟩)
 rw [V7] at pt
 exact pt
set_option maxHeartbeats 1000000 in
theorem ae9 (l:List (Int × Rat)) (z:List Rat) (hl:l.length≤1000000) (h1:∀t ∈ l,rl t.2≤200) (h2:∀v ∈ z,rl v≤40000) (hS:∀k,rl (j3 (l.take k) z)≤60000) (hz:z.length≤1000000) (hr:e7 (-1) z.length l=true):
 b9 Tryz.prog 165 [j2 l,k7 (z.map fz)] [] (.tup [frS (fz (j3 l z)),e6 true]) []:=by
 have m1:(l.map k6).length=l.length:=by simp
 have m2:((z.map fz).map j7).length=z.length:=by simp
 have i0:=a2A 0 (by decide) (by decide)
 have rt:=a07 l z.length hl h1
 rw [decide_eq_true (by omega),hr] at rt
 have rt2:b9 Tryz.prog 167 [j2 l,a9 .i64 (((z.map fz).map j7).length:Nat)] [] (e6 (true && true)) []:=by rw [m2];exact rt
 have pt:=a8O z hz (fun v hv=>by have:=h2 v hv;omega)
 (refine a8 a7 Tryz.func165 rfl (by decide) ?_;(conv=>whnf);repeat ((first|refine b0x ?_|refine zy ?_);conv=>whnf))
 repeat' first|(refine zd ?_ ?_<;>intro h<;>first|exact zc h|(exfalso;omega)|conv=>whnf)|((first|refine zz ?_|refine qp rt2 ?_|refine qp pt ?_|refine qp i0 ?_|refine zy ?_);conv=>whnf)
 all_goals try (exfalso;simp_all;done)
 refine f6 a7 (fun k=>([j2 l,k7 (z.map fz),J,J,S.c (C.ptr 0 0 0),J,S.c (C.ptr 1 0 0),a9 .i64 k,J,J,J,J,J,J,J,J,J,J,J,J,J,J,J,J,J,J,J,J,J,J,J,J,J,J,J,J,J,J,J,J,J,J,J,J,J,J,J,J,J,J,J,J],[frB C2,frB (fz (j3 (l.take k) z))])) l.length (fun _=>True) [some 0,some 1] trivial
  ⟨rfl,rfl,⟨⟨rfl,rfl,rfl,.inr ⟨⟨rfl,rfl,rfl,rfl,trivial⟩,trivial⟩⟩,⟨rfl,rfl,rfl,.inl ⟨rfl,t5 _⟩⟩,trivial⟩,⟨rfl,rfl,⟨rfl,rfl,rfl⟩,⟨rfl,rfl,rfl⟩,rfl,trivial⟩⟩ ?_
 intro k hk _
 by_cases hlt:k<l.length
 ·obtain ⟨t,ht⟩:∃t,l[k]? =some t:=⟨_,lg0 hlt⟩
  obtain ⟨v,c⟩:=t
  have hv:=a67 hr _ (lg2 ht)
  simp only at hv
  have bc:=h1 _ (lg2 ht)
  simp only at bc
  obtain ⟨x,hx⟩:∃x,z[v.toNat]? =some x:=⟨_,lg0 (by omega)⟩
  have hxd:z.getD v.toNat 0=x:=by rw [lg3,hx];rfl
  have bx:=h2 x (lg2 hx)
  have b3:=a1f c x
  have bs:=hS k
  have mu:=b33 c x (by omega) (by omega)
  have ad:=aJ0 (j3 (l.take k) z) (c*x) (by omega) (by omega)
  have e:j3 (l.take k) z+c*x=j3 (l.take (k+1)) z:=by
   have:l.take (k+1)=l.take k++[(v,c)]:=by rw [List.take_add_one,ht];rfl
   rw [this,M4,←hxd]
  rw [e] at ad
  have xz:(z.map fz)[v.toNat]? =some (fz x):=by rw [List.getElem?_map,hx];rfl
  conv=>whnf
  repeat' first|(refine zd ?_ ?_<;>intro h<;>first|exact zc h|(exfalso;omega)|conv=>whnf)|((first|refine zz ?_|refine qp mu ?_|refine qp ad ?_|refine qp 16 ?_|refine qp 5 ?_|refine d7 ht ?_|refine B5 (by omega) xz ?_|refine bl0 [16] ?_|refine bl0 [5] ?_|refine zy ?_);conv=>whnf)
  all_goals first
   |(exfalso;omega)
   |exact ⟨hlt,trivial,[some 0,some 1],rfl,rfl,⟨⟨rfl,rfl,rfl,.inl ⟨rfl,t5 _⟩⟩,⟨rfl,rfl,rfl,.inl ⟨rfl,t5 _⟩⟩,trivial⟩,⟨rfl,rfl,⟨rfl,rfl,rfl⟩,⟨rfl,rfl,rfl⟩,rfl,trivial⟩⟩
 ·have hke:k=l.length:=by omega
  subst hke
  rw [lg4 (Nat.le_refl _)]
  conv=>whnf
  repeat' first|(refine zd ?_ ?_<;>intro h<;>first|exact zc h|(exfalso;omega)|conv=>whnf)|((first|refine zz ?_|refine zy ?_);conv=>whnf)
  all_goals first
   |(exfalso;omega)
   |exact j5 ⟨⟨rfl,rfl,rfl,rfl,trivial⟩,rfl,trivial⟩
end
section
open Go.RowKit
structure PtB (s:f5) (z:List Rat):Prop where
 v:∀v ∈ z,rl v≤40000
 S:∀w ∈ s.rows,∀k,rl (j3 (w.terms.take k) z)≤50000
 l:z.length≤1000000
theorem aC5 (w:x7) (z:List Rat) (hl:w.terms.length≤1000000) (h1:∀t ∈ w.terms,rl t.2≤200) (h3:rl w.value≤200) (h2:∀v ∈ z,rl v≤40000) (hS:∀k,rl (j3 (w.terms.take k) z)≤50000) (hz:z.length≤1000000)
 (hr:e7 (-1) z.length w.terms=true):b9 Tryz.prog 220 [as2 w,k7 (z.map fz)] [] (e6 (N3 w z)) []:=by
 have va:=ae9 w.terms z hl h1 h2 (fun k=>by have:=hS k;omega) hz hr
 have bv:=hS w.terms.length
 rw [lg4 (Nat.le_refl _)] at bv
 have c:=aa0 (j3 w.terms z) w.value (by omega) (by omega)
 have k1:=a7p (x:=j3 w.terms z) (y:=w.value)
 have k2:=Y1 (x:=j3 w.terms z) (y:=w.value)
 have hro:=a0g (w:=w) (z:=z)
 rw [← k1,←k2] at hro
 have e:e6 (N3 w z)=e6 (decide ((a01 (j3 w.terms z) w.value<0→w.kind=1)∧(a01 (j3 w.terms z) w.value > 0→w.kind=0))):=by
  congr 1
  rw [Bool.eq_iff_iff,hro,decide_eq_true_iff]
 rw [e]
 clear hro e k1 k2
 generalize a01 (j3 w.terms z) w.value=U at c
 (refine a8 a7 Tryz.func220 rfl (by decide) ?_;(conv=>whnf);repeat ((first|refine b0x ?_|refine zy ?_);conv=>whnf))
 repeat' first|(refine zd ?_ ?_<;>intro h<;>first|exact zc h|(exfalso;omega)|conv=>whnf)|((first|refine zz ?_|refine qp va ?_|refine qp c ?_|refine qp 5 ?_|refine bl0 [5] ?_|refine zy ?_);conv=>whnf)
 all_goals first
  |(exfalso;omega)
  |(exfalso;simp_all;done)
  |(refine c6 ?_;simp;omega)
theorem b2O (s:f5) (hb:U7 s) (hr:f9 s=true) (Z:List Rat) (hp:PtB s Z):
 b9 Tryz.prog 144 [F0 s,k7 (Z.map fz)] [] (e6 (i7 s Z)) []:=by
 have m1:(s.rows.map s7).length=s.rows.length:=by simp
 have m2:((Z.map fz).map j7).length=Z.length:=by simp
 have l1:=hb.n0
 have l2:=hp.l
 have lr:=ah7 s hb
 rw [hr] at lr
 have pt:=a8O Z hp.l (fun v hv=>by have:=hp.v v hv;omega)
 by_cases hn:(Z.length:Int)≠s.n
 ·have e2:i7 s Z=false:=by unfold i7;rw [decide_eq_false hn];simp
  rw [e2]
  (refine a8 a7 Tryz.func144 rfl (by decide) ?_;(conv=>whnf);repeat ((first|refine b0x ?_|refine zy ?_);conv=>whnf))
  repeat' first|(refine zd ?_ ?_<;>intro h<;>first|exact zc h|(exfalso;omega)|conv=>whnf)|((first|refine zz ?_|refine qp lr ?_|refine qp pt ?_|refine zy ?_);conv=>whnf)
  all_goals first
   |(exfalso;omega)
   |exact c6 rfl
 have hn:(Z.length:Int)=s.n:=by omega
 have e2:i7 s Z=(Z.all (fun v=>decide (0≤v)) && s.rows.all (fun w=>N3 w Z)):=by unfold i7;rw [hr,decide_eq_true hn];simp
 rw [e2]
 (refine a8 a7 Tryz.func144 rfl (by decide) ?_;(conv=>whnf);repeat ((first|refine b0x ?_|refine zy ?_);conv=>whnf))
 repeat' first|(refine zd ?_ ?_<;>intro h<;>first|exact zc h|(exfalso;omega)|conv=>whnf)|((first|refine zz ?_|refine qp lr ?_|refine qp pt ?_|refine zy ?_);conv=>whnf)
 all_goals try (exfalso;omega)
 refine f6 a7 (fun k=>([J,k7 (Z.map fz),S.c (C.t (T.ptr [ti s.n,B2 s.rows])),J,J,a9 .i64 k,J,J,J,J,J,J,J,J,J,J,J,J,J,J,J,J,J,J,J,J,J,J,J,J,J,J,J,J,J,J,J,J,J,J,J,J,J,J,J,J,J,J,J],[])) Z.length (fun k=>(Z.take k).all (fun v=>decide (0≤v))=true) [] rfl
  ⟨rfl,rfl,trivial,⟨rfl,rfl,rfl,trivial⟩⟩ ?_
 intro k hk hI
 by_cases hlt:k<Z.length
 ·obtain ⟨x,hx⟩:∃x,Z[k]? =some x:=⟨_,lg0 hlt⟩
  have bx:=hp.v x (lg2 hx)
  have sg:=a4q x (by omega)
  have sn:=aM1 (x:=x)
  conv=>whnf
  repeat' first|(refine zd ?_ ?_<;>intro h<;>first|exact zc h|(exfalso;omega)|conv=>whnf)|((first|refine zz ?_|refine qp sg ?_|refine d7 (O1 Z hx) ?_|refine zy ?_);conv=>whnf)
  all_goals first
   |(exfalso;omega)
   |(have h0:¬sgR x<0:=by omega
     exact ⟨hlt,by rw [o4 hx,hI];simpa using Rat.not_lt.1 (fun h=>h0 (sn.2 h)),[],rfl,rfl,trivial,⟨rfl,rfl,rfl,trivial⟩⟩)
   |(have h0:sgR x<0:=by omega
     have hF:Z.all (fun v=>decide (0≤v))=false:=t7 hx (decide_eq_false (Rat.not_le.2 (sn.1 h0)))
     refine c6 ?_;rw [hF];rfl)
 ·have hA:Z.all (fun v=>decide (0≤v))=true:=by rw [← hI,lg4 (by omega)]
  rw [hA,Bool.true_and]
  conv=>whnf
  repeat' first|(refine zd ?_ ?_<;>intro h<;>first|exact zc h|(exfalso;omega)|conv=>whnf)|((first|refine zz ?_|refine zy ?_);conv=>whnf)
  all_goals try (exfalso;omega)
  clear hI hlt hk
  refine f6 a7 (fun k=>([J,k7 (Z.map fz),S.c (C.t (T.ptr [ti s.n,B2 s.rows])),J,J,J,a9 .i64 k,J,J,J,J,J,J,J,J,J,J,J,J,J,J,J,J,J,J,J,J,J,J,J,J,J,J,J,J,J,J,J,J,J,J,J,J,J,J,J,J,J,J],[])) s.rows.length (fun k=>(s.rows.take k).all (fun w=>N3 w Z)=true) [] rfl
   ⟨rfl,rfl,trivial,⟨rfl,rfl,rfl,trivial⟩⟩ ?_
  intro k hk hI
  by_cases hlt:k<s.rows.length
  ·obtain ⟨w,hw⟩:∃w,s.rows[k]? =some w:=⟨_,lg0 hlt⟩
   obtain ⟨b1,b2,b3⟩:=hb.t w (lg2 hw)
   have hrw:u9 s.n w=true:=by
    unfold f9 at hr
    simp only [Bool.and_eq_true,List.all_eq_true] at hr
    exact hr.2 w (lg2 hw)
   have hrt:e7 (-1) Z.length w.terms=true:=by
    unfold u9 at hrw
    simp only [Bool.and_eq_true] at hrw
    rw [hn];exact hrw.1.1
   have ho:=aC5 w Z (by omega) b2 b3 hp.v (hp.S w (lg2 hw)) hp.l hrt
   cases hro:N3 w Z with
   |true=>
    rw [hro] at ho
    conv=>whnf
    repeat' first|(refine zd ?_ ?_<;>intro h<;>first|exact zc h|(exfalso;omega)|conv=>whnf)|((first|refine zz ?_|refine qp ho ?_|refine d7 hw ?_|refine zy ?_);conv=>whnf)
    all_goals first
     |(exfalso;omega)
     |exact ⟨hlt,by rw [o4 hw,hI,hro];rfl,[],rfl,rfl,trivial,⟨rfl,rfl,rfl,trivial⟩⟩
   |false=>
    rw [hro] at ho
    rw [t7 hw hro]
    conv=>whnf
    repeat' first|(refine zd ?_ ?_<;>intro h<;>first|exact zc h|(exfalso;omega)|conv=>whnf)|((first|refine zz ?_|refine qp ho ?_|refine d7 hw ?_|refine zy ?_);conv=>whnf)
    all_goals first
     |(exfalso;omega)
     |exact c6 rfl
  ·rw [lg4 (by omega)] at hI
   rw [hI]
   conv=>whnf
   repeat' first|(refine zd ?_ ?_<;>intro h<;>first|exact zc h|(exfalso;omega)|conv=>whnf)|((first|refine zz ?_|refine zy ?_);conv=>whnf)
   all_goals first
    |(exfalso;omega)
    |exact c6 rfl
theorem b0u (s:f5) (hb:U7 s) (hr:f9 s=true) (Z:List Rat) (hp:PtB s Z):
 b9 Tryz.prog 43 [F0 s,k7 (Z.map fz)] [] (e6 (i7 s Z)) []:=by
 have m1:(s.rows.map s7).length=s.rows.length:=by simp
 have m2:((Z.map fz).map j7).length=Z.length:=by simp
 have l1:=hb.n0
 have l2:=hp.l
 have lr:=a1D s hb
 rw [hr] at lr
 have pt:=a7f (Z.map fz) (by simpa using hp.l) (fun f hf=>by
  obtain ⟨x,hx,rfl⟩:=List.mem_map.1 hf
  have:=hp.v x hx
  have a:=B3 x
  have b:=B9 x
  exact ⟨by show bl x.num≤_;omega,by show bl x.den≤_;omega⟩)
 rw [V7] at pt
 by_cases hn:(Z.length:Int)≠s.n
 ·have e2:i7 s Z=false:=by unfold i7;rw [decide_eq_false hn];simp
  rw [e2]
  (refine a8 a7 Tryz.func43 rfl (by decide) ?_;(conv=>whnf);repeat ((first|refine b0x ?_|refine zy ?_);conv=>whnf))
  repeat' first|(refine zd ?_ ?_<;>intro h<;>first|exact zc h|(exfalso;omega)|conv=>whnf)|((first|refine zz ?_|refine qp lr ?_|refine qp pt ?_|refine zy ?_);conv=>whnf)
  all_goals first
   |(exfalso;omega)
   |exact c6 rfl
 have hn:(Z.length:Int)=s.n:=by omega
 have e2:i7 s Z=(Z.all (fun v=>decide (0≤v)) && s.rows.all (fun w=>N3 w Z)):=by unfold i7;rw [hr,decide_eq_true hn];simp
 rw [e2]
 (refine a8 a7 Tryz.func43 rfl (by decide) ?_;(conv=>whnf);repeat ((first|refine b0x ?_|refine zy ?_);conv=>whnf))
 repeat' first|(refine zd ?_ ?_<;>intro h<;>first|exact zc h|(exfalso;omega)|conv=>whnf)|((first|refine zz ?_|refine qp lr ?_|refine qp pt ?_|refine zy ?_);conv=>whnf)
 all_goals try (exfalso;omega)
 refine f6 a7 (fun k=>([J,k7 (Z.map fz),S.c (C.t (T.ptr [ti s.n,B2 s.rows])),J,J,J,J,J,J,J,J,J,J,J,J,J,J,J,J,J,J,J,J,J,J,k7 (Z.map fz),a9 .i64 Z.length,a9 .i64 k,J,J,J,J,J,J,J,J,J,J,J,J,J,J,J,J,J,J,J,J,J,J,J,J,J,J,J,J,J,J,J,J,J,J,J,J,J,J],[])) Z.length (fun k=>(Z.take k).all (fun v=>decide (0≤v))=true) [] rfl
  ⟨rfl,rfl,trivial,⟨rfl,rfl,rfl,c9 (by simp),rfl,trivial⟩⟩ ?_
 intro k hk hI
 by_cases hlt:k<Z.length
 ·obtain ⟨x,hx⟩:∃x,Z[k]? =some x:=⟨_,lg0 hlt⟩
  have bx:=hp.v x (lg2 hx)
  have sg:=K9 x (by omega)
  have sn:=aM1 (x:=x)
  conv=>whnf
  repeat' first|(refine zd ?_ ?_<;>intro h<;>first|exact zc h|(exfalso;omega)|conv=>whnf)|((first|refine zz ?_|refine qp sg ?_|refine d7 (O1 Z hx) ?_|refine zy ?_);conv=>whnf)
  all_goals first
   |(exfalso;omega)
   |(have h0:¬sgR x<0:=by omega
     exact ⟨hlt,by rw [o4 hx,hI];simpa using Rat.not_lt.1 (fun h=>h0 (sn.2 h)),[],rfl,rfl,trivial,⟨rfl,rfl,rfl,rfl,rfl,trivial⟩⟩)
   |(have h0:sgR x<0:=by omega
     have hF:Z.all (fun v=>decide (0≤v))=false:=t7 hx (decide_eq_false (Rat.not_le.2 (sn.1 h0)))
     refine c6 ?_;rw [hF];rfl)
 ·have hA:Z.all (fun v=>decide (0≤v))=true:=by rw [← hI,lg4 (by omega)]
  rw [hA,Bool.true_and]
  conv=>whnf
  repeat' first|(refine zd ?_ ?_<;>intro h<;>first|exact zc h|(exfalso;omega)|conv=>whnf)|((first|refine zz ?_|refine zy ?_);conv=>whnf)
  all_goals try (exfalso;omega)
  clear hI hlt hk
  refine f6 a7 (fun k=>([J,k7 (Z.map fz),J,J,J,J,J,J,J,J,J,J,J,J,J,J,J,J,J,J,J,J,J,J,J,J,J,J,J,J,J,J,J,J,J,J,S.c (C.t (B2 s.rows)),a9 .i64 s.rows.length,a9 .i64 k,J,J,J,J,J,J,J,J,J,J,J,J,J,J,J,J,J,J,J,J,J,J,J,J,J,J,J],[])) s.rows.length (fun k=>(s.rows.take k).all (fun w=>N3 w Z)=true) [] rfl
   ⟨rfl,rfl,trivial,⟨rfl,rfl,c9 (by simp),rfl,trivial⟩⟩ ?_
  intro k hk hI
  by_cases hlt:k<s.rows.length
  ·obtain ⟨w,hw⟩:∃w,s.rows[k]? =some w:=⟨_,lg0 hlt⟩
   obtain ⟨b1,b2,b3⟩:=hb.t w (lg2 hw)
   have hrw:u9 s.n w=true:=by
    unfold f9 at hr
    simp only [Bool.and_eq_true,List.all_eq_true] at hr
    exact hr.2 w (lg2 hw)
   have hrt:e7 (-1) Z.length w.terms=true:=by
    unfold u9 at hrw
    simp only [Bool.and_eq_true] at hrw
    rw [hn];exact hrw.1.1
   have hS:=hp.S w (lg2 hw)
   have va:=al9 w.terms Z (by omega) (fun t ht=>by have:=b2 t ht;omega) hp.v (fun k=>by have:=hS k;omega) (by omega) hrt
   have bv:=hS w.terms.length
   rw [lg4 (Nat.le_refl _)] at bv
   have c:=R4 (j3 w.terms Z) w.value (by omega) (by omega)
   have k1:=a7p (x:=j3 w.terms Z) (y:=w.value)
   have k2:=Y1 (x:=j3 w.terms Z) (y:=w.value)
   have hro:=a0g (w:=w) (z:=Z)
   rw [← k1,←k2] at hro
   generalize a01 (j3 w.terms Z) w.value=U at c hro
   by_cases hok:(U<0→w.kind=1)∧(U > 0→w.kind=0)
   ·have hT:=hro.2 hok
    obtain ⟨q1,q2⟩:=hok
    conv=>whnf
    repeat' first|(refine zd ?_ ?_<;>intro h<;>first|exact zc h|(exfalso;omega)|conv=>whnf)|((first|refine zz ?_|refine qp va ?_|refine qp c ?_|refine d7 hw ?_|refine zy ?_);conv=>whnf)
    all_goals first
     |(exfalso;omega)
     |exact ⟨hlt,by rw [o4 hw,hI,hT];rfl,[],rfl,rfl,trivial,⟨rfl,rfl,rfl,rfl,trivial⟩⟩
   ·have hF:N3 w Z=false:=by rw [← Bool.not_eq_true];exact fun h=>hok (hro.1 h)
    rw [t7 hw hF]
    have hor:(U<0∧w.kind≠1)∨(U > 0∧w.kind≠0):=by omega
    clear hro hok
    conv=>whnf
    repeat' first|(refine zd ?_ ?_<;>intro h<;>first|exact zc h|(exfalso;omega)|conv=>whnf)|((first|refine zz ?_|refine qp va ?_|refine qp c ?_|refine d7 hw ?_|refine zy ?_);conv=>whnf)
    all_goals first
     |(exfalso;omega)
     |exact c6 rfl
  ·rw [lg4 (by omega)] at hI
   rw [hI]
   conv=>whnf
   repeat' first|(refine zd ?_ ?_<;>intro h<;>first|exact zc h|(exfalso;omega)|conv=>whnf)|((first|refine zz ?_|refine zy ?_);conv=>whnf)
   all_goals first
    |(exfalso;omega)
    |exact c6 rfl
end
end Go.Proofs.YtdbogogfeffjlaaGreat
