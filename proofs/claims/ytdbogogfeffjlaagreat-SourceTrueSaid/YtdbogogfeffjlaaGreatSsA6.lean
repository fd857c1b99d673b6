/- Part 6. -/
import Derived.Test.YtdbogogfeffjlaaGreatSsA5
namespace Go.Proofs.YtdbogogfeffjlaaGreat
set_option linter.unusedVariables false
set_option linter.unusedSimpArgs false
set_option maxRecDepth 100000
open St1 St2 St3 St4 St5 St6
section
open Go.RowKit
def as2 (A:Nat→List T) (g:Nat→List Int) (B:Nat→List T) (id:Nat) (i:Nat):List C:=(A i).map .t++.own id 0 (g i).length true::(B i).map .t
def a1Q (n:Nat) (A:Nat→List T) (g:Nat→List Int) (B:Nat→List T):List (List C):=(List.range n).map fun i=>as2 A g B (i+1) i
def b4H (el:TypeId) (size n:Nat) (A:Nat→List T) (g:Nat→List Int) (B:Nat→List T):Blk:={ mode:=.live,elem:=el,size:=size,rows:=a1Q n A g B,box:=false }
def V6 (el:TypeId) (size n:Nat) (A:Nat→List T) (g:Nat→List Int) (B:Nat→List T):Hp:=b4H el size n A g B::(List.range n).map fun i=>z5 (g i)
theorem Y9 {n:Nat} {A:Nat→List T} {g:Nat→List Int} {B:Nat→List T}:(a1Q n A g B).length=n:=by simp [a1Q]
theorem a1L {n i:Nat} {A:Nat→List T} {g:Nat→List Int} {B:Nat→List T} (h:i<n):(a1Q n A g B)[i]? =some (as2 A g B (i+1) i):=by simp [a1Q,h]
theorem a6n {el:TypeId} {size n:Nat} {A:Nat→List T} {g:Nat→List Int} {B:Nat→List T}:(V6 el size n A g B).length=n+1:=by simp [V6]
def a7f (n j N:Nat):List (Option Nat):=(List.range (n+1)).map fun i=>some (if i=j+1 then N else i)
theorem U2 {n j N i:Nat} (h:i<n+1):(a7f n j N)[i]? =some (some (if i=j+1 then N else i)):=by simp [a7f,h]
theorem ad4 {n j N:Nat}:(a7f n j N).length=n+1:=by simp [a7f]
theorem N5 {ρ:List (Option Nat)} {H:Hp}:∀l:List T,a2z ρ H (l.map C.t) (l.map C.t)
 |[]=>trivial
 |x::r=>⟨X6 x,N5 r⟩
theorem a3d {ρ:List (Option Nat)} {H:Hp}:∀{a b c d:List C},a2z ρ H a b→a2z ρ H c d→a2z ρ H (a++c) (b++d)
 |[],[],_,_,_,h=>h
 |x::a,y::b,_,_,h1,h2=>⟨h1.1,a3d h1.2 h2⟩
 |[],_::_,_,_,h,_=>h.elim
 |_::_,[],_,_,h,_=>h.elim
theorem a3S {ρ:List (Option Nat)} {H:Hp}:∀{xs ys:List (List C)},xs.length=ys.length→(∀ (i:Nat) (x y:List C),xs[i]? =some x→ys[i]? =some y→a2z ρ H x y)→a3k ρ H xs ys
 |[],[],_,_=>trivial
 |[],_::_,h,_=>by simp at h
 |_::_,[],h,_=>by simp at h
 |x::xs,y::ys,h,hh=>⟨hh 0 x y rfl rfl,a3S (by simpa using h) fun i a b ha hb=>hh (i+1) a b (by simpa using ha) (by simpa using hb)⟩
def a3a (g:Nat→List Int) (j:Nat) (l:List Int):Nat→List Int:=fun i=>if i=j then l else g i
theorem b1j {el:TypeId} {size n j N:Nat} {A:Nat→List T} {g:Nat→List Int} {B:Nat→List T} {l:List Int} {env env':Env} {H:Hp} {k0:Blk} (hj:j<n) (hnN:n<N)
 (h0:H[0]? =some k0) (hk0:k0.mode=.live∧k0.app=false∧k0.elem=el∧k0.size=size) (hr:k0.rows=(a1Q n A g B).set j ((A j).map .t++.own N 0 l.length true::(B j).map .t))
 (hm:∀m,m<n→m≠j→H[m+1]? =some (z5 (g m))) (hN:H[N]? =some (z5 l)) (hE:a06 (a7f n j N) H env env'):Ent 0 (a7f n j N) env H env' (V6 el size n A (a3a g j l) B):=by
 refine ⟨rfl,X7 fun a b m h1 h2=>?_,a48 (by rw [ad4,a6n]) fun i k' hk=>?_,hE⟩
 ·have ha:=(lg1 h1).1
  have hb:=(lg1 h2).1
  rw [ad4] at ha hb
  rw [U2 ha] at h1
  rw [U2 hb] at h2
  simp only [Option.some.injEq] at h1 h2
  split at h1<;>split at h2<;>omega
 ·have hi:=(lg1 hk).1
  rw [a6n] at hi
  refine ⟨if i=j+1 then N else i,?_⟩
  cases i with
  |zero=>
   refine ⟨k0,U2 hi,by simpa using h0,?_⟩
   simp [V6] at hk
   subst hk
   obtain ⟨q1,q2,q3,q4⟩:=hk0
   refine ⟨by unfold a1w;rw [q1,q2];rfl,q3,q4,.inr ?_⟩
   rw [hr]
   refine a3S (by rw [List.length_set,Y9];exact Y9.symm) fun a x y hx hy=>?_
   have han:a<n:=by have:=(lg1 hy).1;rw [show (b4H el size n A (a3a g j l) B).rows=a1Q n A (a3a g j l) B from rfl,Y9] at this;exact this
   have hy:(a1Q n A (a3a g j l) B)[a]? =some y:=hy
   rw [a1L han] at hy
   injection hy with hy
   subst hy
   rw [List.getElem?_set,Y9] at hx
   by_cases haj:j=a
   ·subst haj
    rw [if_pos rfl,if_pos hj] at hx
    injection hx with hx
    subst hx
    unfold as2
    have e1:a3a g j l j=l:=by simp [a3a]
    rw [e1]
    refine a3d (N5 _) ⟨⟨?_,rfl,rfl,fun h=>h⟩,N5 _⟩
    rw [U2 (by omega),if_pos rfl]
   ·rw [if_neg haj,a1L han] at hx
    injection hx with hx
    subst hx
    unfold as2
    have e1:a3a g j l a=g a:=by unfold a3a;rw [if_neg (fun h=>haj h.symm)]
    rw [e1]
    refine a3d (N5 _) ⟨⟨?_,rfl,rfl,fun h=>h⟩,N5 _⟩
    rw [U2 (by omega),if_neg (by omega)]
  |succ i=>
   have hin:i<n:=by omega
   have hk:((List.range n).map fun i=>z5 (a3a g j l i))[i]? =some k':=hk
   rw [List.getElem?_map,List.getElem?_range hin] at hk
   injection hk with hk
   subst hk
   by_cases hij:i=j
   ·subst hij
    refine ⟨z5 l,U2 hi,by rw [if_pos rfl];exact hN,?_⟩
    have e1:a3a g i l i=l:=by simp [a3a]
    show a3w _ _ _ (z5 (a3a g i l i))
    rw [e1]
    exact ⟨rfl,rfl,rfl,.inl ⟨rfl,i7 _⟩⟩
   ·refine ⟨z5 (g i),U2 hi,by rw [if_neg (by omega)];exact hm i hin hij,?_⟩
    have e1:a3a g j l i=g i:=by unfold a3a;rw [if_neg hij]
    show a3w _ _ _ (z5 (a3a g j l i))
    rw [e1]
    exact ⟨rfl,rfl,rfl,.inl ⟨rfl,i7 _⟩⟩
def aE9 (id n:Nat):List (Option Nat):=some id::List.replicate n none
theorem aw6 {ρ:List (Option Nat)} {H:Hp}:∀{n:Nat} {R:List Blk},R.length=n→(∀ k ∈ R,k.rows=[]∧k.mode=.live)→a2L ρ H (List.replicate n none) R
 |0,[],_,_=>trivial
 |n+1,k::R,h,hh=>⟨hh k (by simp),aw6 (by simpa using h) fun k hk=>hh k (by simp [hk])⟩
 |0,_::_,h,_=>by simp at h
 |n+1,[],h,_=>by simp at h
theorem a9j {H:Hp}:∀{n:Nat},P4 (List.replicate n none) H=true
 |0=>by cases H<;>rfl
 |n+1=>by
  rw [List.replicate_succ]
  cases H with
  |nil=>rfl
  |cons k H=>exact a9j (H:=H)
theorem ad1 {m:Nat}:∀{n:Nat} {H:Hp},a3t m (List.replicate n none) H=false
 |0,H=>by cases H<;>rfl
 |n+1,[]=>rfl
 |n+1,k::H=>by
  rw [List.replicate_succ]
  unfold a3t
  rw [ad1]
  cases k.mode<;>rfl
theorem b3z {el:TypeId} {size n id:Nat} {A B:Nat→List T} {env env':Env} {H:Hp} {k0:Blk} {s:Nat}
 (h0:H[id]? =some k0) (hk0:k0.mode=.live∧k0.app=false∧k0.elem=el∧k0.size=size) (hr:k0.rows=(List.range n).map fun i=>(A i).map .t++.t (.sl s .nil [])::(B i).map .t)
 (hE:a06 (aE9 id n) H env env'):Ent 0 (aE9 id n) env H env' (V6 el size n A (fun _=>[]) B):=by
 obtain ⟨q1,q2,q3,q4⟩:=hk0
 refine ⟨rfl,?_,⟨?_,?_⟩,hE⟩
 ·unfold aE9 V6 P4
  rw [ad1,a9j]
  rfl
 ·simp only [h0]
  refine ⟨by unfold a1w;rw [q1,q2];rfl,q3,q4,.inr ?_⟩
  rw [hr]
  refine a3S (by rw [show (b4H el size n A (fun _=>[]) B).rows=a1Q n A (fun _=>[]) B from rfl,Y9];simp) fun a x y hx hy=>?_
  have han:a<n:=by have:=(lg1 hx).1;simpa using this
  have hy:(a1Q n A (fun _=>[]) B)[a]? =some y:=hy
  rw [a1L han] at hy
  injection hy with hy
  subst hy
  rw [List.getElem?_map,List.getElem?_range han] at hx
  injection hx with hx
  subst hx
  unfold as2
  refine a3d (N5 _) ⟨⟨?_,rfl,rfl⟩,N5 _⟩
  show (aE9 id n)[a+1]? =some none
  unfold aE9
  rw [List.getElem?_cons_succ,List.getElem?_replicate,if_pos han]
 ·refine aw6 (by simp) fun k hk=>?_
  obtain ⟨i,_,rfl⟩:=List.mem_map.1 hk
  exact ⟨rfl,rfl⟩
theorem b29 {el:TypeId} {size n:Nat} {A:Nat→List T} {g:Nat→List Int} {B:Nat→List T} {env env':Env}
 (hE:a06 [some 0] (V6 el size n A g B) env env'):Ent 0 [some 0] env (V6 el size n A g B) env' [{ mode:=.live,elem:=el,size:=size,rows:=toC ((List.range n).map fun i=>A i++J0 (g i)::B i),box:=false }]:=by
 refine ⟨rfl,rfl,⟨⟨rfl,rfl,rfl,.inr ?_⟩,trivial⟩,hE⟩
 show a3k _ _ (a1Q n A g B) (toC _)
 refine a3S (by rw [Y9];simp [toC]) fun a x y hx hy=>?_
 have han:a<n:=by have:=(lg1 hx).1;rw [Y9] at this;exact this
 rw [a1L han] at hx
 injection hx with hx
 subst hx
 have hy:(((List.range n).map fun i=>A i++J0 (g i)::B i).map (·.map C.t))[a]? =some y:=hy
 rw [List.getElem?_map,List.getElem?_map,List.getElem?_range han] at hy
 injection hy with hy
 subst hy
 show a2z _ _ _ ((A a++J0 (g a)::B a).map C.t)
 rw [List.map_append,List.map_cons]
 unfold as2
 refine a3d (N5 _) ⟨?_,N5 _⟩
 have hk:(V6 el size n A g B)[a+1]? =some (z5 (g a)):=by simp [V6,han]
 exact show VC _ _ _ _ from v5 (by simp [K3];rfl) hk (by intro h;cases h) rfl rfl (by simp)
theorem b1C {el:TypeId} {size n:Nat} {A:Nat→List T} {g:Nat→List Int} {B:Nat→List T}:∀k ∈ V6 el size n A g B,okB (n+1) k:=by
 intro k hk
 rcases List.mem_cons.1 hk with rfl|hk
 ·intro r hr c hc
  obtain ⟨i,hi,rfl⟩:=List.mem_map.1 hr
  have hi:=List.mem_range.1 hi
  unfold as2 at hc
  rcases List.mem_append.1 hc with hc|hc
  ·obtain ⟨x,_,rfl⟩:=List.mem_map.1 hc;trivial
  ·rcases List.mem_cons.1 hc with rfl|hc
   ·show i+1<n+1;omega
   ·obtain ⟨x,_,rfl⟩:=List.mem_map.1 hc;trivial
 ·obtain ⟨i,_,rfl⟩:=List.mem_map.1 hk
  exact F3 rfl
theorem aX4 {el:TypeId} {size n:Nat} {A:Nat→List T} {g:Nat→List Int} {B:Nat→List T} {env env':Env} {R:Hp} (hE:a06 (idR (n+1)) (V6 el size n A g B++R) env env'):Ent 0 (idR (n+1)) env (V6 el size n A g B++R) env' (V6 el size n A g B):=
 aD1 a6n (Nat.zero_le _) b1C hE
end
section
open Go.RowKit
def aI3 (h:Fr) (b:Bool) (gs:List Int) (n:Int):List T:=[ti h.p.sg,J0 h.p.dl,ti h.q.sg,J0 h.q.dl,tb b,J0 gs,ti n]
abbrev b4A (h:Fr) (b:Bool) (gs:List Int) (n:Int):S:=.agg ((aI3 h b gs n).map .t)
def hiF (o:Option (Rat × Rat)):Fr:=match o with
 |some (_,hi)=>fz hi
 |none=>E7
def W8 (e:Ev) (i:Nat):Option (Rat × Rat):=match e.moves[i]? with
 |some x=>D7 e x
 |none=>none
theorem a63 {e:Ev} {i:Nat} {x:n6} (h:e.moves[i]? =some x):W8 e i=D7 e x:=by unfold W8;rw [h]
def Q0 (t:g9) (kind:Int) (i:Nat):List T:=aI3 (hiF (W8 t.ev i)) (W8 t.ev i).isSome (i6 t.finds kind i) (j9 t.cleans kind i)
abbrev a14 (t:g9) (kind:Int):T:=.sl 7 .any ((List.range t.ev.moves.length).map (Q0 t kind))
def a4M (b:Bool) (hi:Rat) (gs:List Int) (n:Int) (z:Rat):Int:=if b=true∧hi<z then 20 else if gs.any (fun g=>decide (z<(g:Rat))) then 24 else if 0<n∧z≠0 then 13 else 0
set_option maxHeartbeats 2000000 in
theorem aX6 (H:Fr) (b:Bool) (hi:Rat) (gs:List Int) (n:Int) (z:Rat) (hH:b=true→H=fz hi∧rl hi≤200) (hz:rl z≤200) (hg:∀g ∈ gs,1≤g∧g≤1099511627776) (hl:gs.length≤1000000):
 b9 Tryz.prog 71 [b4A H b gs n,frS (fz z)] [] (a9 .i64 (a4M b hi gs n z)) []:=by
 have m1:(gs.map i5).length=gs.length:=by simp
 have c:b=true→b9 Tryz.prog 68 [frS (fz z),frS H] [] (a9 .i64 (Y7 z hi)) []:=fun hb=>by
  rw [(hH hb).1];have:=(hH hb).2;exact a2u z hi (by omega) (by omega)
 have cg:=a55 (x:=z) (y:=hi)
 have sg:=a00 z (by omega)
 have sz:=a3r (x:=z)
 by_cases hcap:b=true∧hi<z
 ·have e1:a4M b hi gs n z=20:=by unfold a4M;rw [if_pos hcap]
  have c1:=c hcap.1
  rw [e1]
  have h1:Y7 z hi > 0:=cg.2 hcap.2
  clear c
  obtain ⟨rfl,_⟩:=hcap
  (refine a8 a7 Tryz.func71 rfl (by decide) ?_;(conv=>whnf);repeat ((first|refine b0x ?_|refine zy ?_);conv=>whnf))
  repeat' first|(refine zd ?_ ?_<;>intro h<;>first|exact zc h|(exfalso;omega)|conv=>whnf)|((first|refine zz ?_|refine qp c1 ?_|refine zy ?_);conv=>whnf)
  all_goals first
   |(exfalso;omega)
   |exact j5 rfl
 have e1:a4M b hi gs n z=if gs.any (fun g=>decide (z<(g:Rat))) then 24 else if 0<n∧z≠0 then 13 else 0:=by unfold a4M;rw [if_neg hcap]
 rw [e1]
 clear e1
 have h1:b=true→¬Y7 z hi > 0:=fun hb h=>hcap ⟨hb,cg.1 h⟩
 clear cg hcap
 cases b
 case' true=>
  have c1:=c rfl
  have h2:=h1 rfl
 case' false=>
  have c1:=sg
  have h2:=True.intro
 all_goals
  clear c h1
  (refine a8 a7 Tryz.func71 rfl (by decide) ?_;(conv=>whnf);repeat ((first|refine b0x ?_|refine zy ?_);conv=>whnf))
  repeat' first|(refine zd ?_ ?_<;>intro h<;>first|exact zc h|(exfalso;omega)|conv=>whnf)|((first|refine zz ?_|refine qp c1 ?_|refine zy ?_);conv=>whnf)
  all_goals try (exfalso;omega)
  refine f8 a7 (fun k=>([J,J,S.c (C.t (T.ptr (aI3 H _ gs n))),S.c (C.t (T.ptr (m6 (fz z)))),J,J,J,J,J,J,J,J,J,J,J,J,J,S.c (C.t (J0 gs)),a9 .i64 gs.length,a9 .i64 k,J,J,J,J,J,J,J,J,J,J,J,J,J,J,J,J,J],[])) gs.length (fun k=>(gs.take k).any (fun g=>decide (z<(g:Rat)))=false) [] rfl
   ⟨rfl,rfl,trivial,⟨rfl,rfl,rfl,e7 (by simp),rfl,trivial⟩⟩ ?_
  intro k hk hI
  by_cases hlt:k<gs.length
  ·obtain ⟨g,hgk⟩:∃g,gs[k]? =some g:=⟨_,lg0 hlt⟩
   have bg:=hg g (lg2 hgk)
   have fi:=G9 g (by omega) (by omega)
   have rg:rl (g:Rat)≤4:=by rw [Q7];have:=N8 (x:=g) (by omega) (by omega);omega
   have cm:=a2u z (g:Rat) (by omega) (by omega)
   have cl:=a5C (x:=z) (y:=(g:Rat))
   by_cases hzg:z<(g:Rat)
   ·have h2:=cl.2 hzg
    rw [a10 hgk (by simpa using hzg),if_pos rfl]
    conv=>whnf
    repeat' first|(refine zd ?_ ?_<;>intro h<;>first|exact zc h|(exfalso;omega)|conv=>whnf)|((first|refine zz ?_|refine qp fi ?_|refine qp cm ?_|refine d9 hgk ?_|refine zy ?_);conv=>whnf)
    all_goals first
     |(exfalso;omega)
     |exact j5 rfl
   ·have h2:¬Y7 z (g:Rat)<0:=fun h=>hzg (cl.1 h)
    conv=>whnf
    repeat' first|(refine zd ?_ ?_<;>intro h<;>first|exact zc h|(exfalso;omega)|conv=>whnf)|((first|refine zz ?_|refine qp fi ?_|refine qp cm ?_|refine d9 hgk ?_|refine zy ?_);conv=>whnf)
    all_goals first
     |(exfalso;omega)
     |exact ⟨hlt,by rw [Z6 hgk,hI];simpa using hzg,[],rfl,rfl,trivial,⟨rfl,rfl,rfl,rfl,rfl,trivial⟩⟩
  ·rw [lg4 (by omega)] at hI
   rw [hI,if_neg (by simp)]
   by_cases h3:0<n∧z≠0
   ·rw [if_pos h3]
    have h4:sgR z≠0:=fun h=>h3.2 (sz.1 h)
    obtain ⟨h5,_⟩:=h3
    conv=>whnf
    repeat' first|(refine zd ?_ ?_<;>intro h<;>first|exact zc h|(exfalso;omega)|conv=>whnf)|((first|refine zz ?_|refine qp sg ?_|refine zy ?_);conv=>whnf)
    all_goals first
     |(exfalso;omega)
     |exact j5 rfl
   ·rw [if_neg h3]
    have h4:n≤0∨sgR z=0:=by
     by_cases h5:0<n
     ·refine .inr (sz.2 ?_)
      by_cases h6:z=0
      ·exact h6
      ·exact absurd ⟨h5,h6⟩ h3
     ·exact .inl (by omega)
    conv=>whnf
    repeat' first|(refine zd ?_ ?_<;>intro h<;>first|exact zc h|(exfalso;omega)|conv=>whnf)|((first|refine zz ?_|refine qp sg ?_|refine zy ?_);conv=>whnf)
    all_goals first
     |(exfalso;omega)
     |exact j5 rfl
theorem b08 {t:g9} {kind:Int} {i:Nat} {x:n6} (hx:t.ev.moves[i]? =some x) {z hi:Rat} (hh:∀lo hi',W8 t.ev i=some (lo,hi')→hi'=hi):
 a4M (W8 t.ev i).isSome hi (i6 t.finds kind i) (j9 t.cleans kind i) z=Z8 t kind i x z:=by
 unfold a4M Z8
 rw [a63 hx] at hh ⊢
 cases hiv:D7 t.ev x with
 |none=>
  simp only [Option.isSome_none,Bool.false_eq_true,false_and,if_false,a8Q,reduceCtorEq]
  have:(0<(j9 t.cleans kind i:Int))↔0<j9 t.cleans kind i:=by omega
  simp only [this]
 |some p=>
  obtain ⟨lo,hi'⟩:=p
  have:=hh lo hi' hiv
  subst this
  have e1:(a8Q (some (lo,hi')) z=false)↔hi'<z:=by
   unfold a8Q
   rw [decide_eq_false_iff_not];exact Rat.not_le
  have e2:(0<(j9 t.cleans kind i:Int))↔0<j9 t.cleans kind i:=by omega
  simp only [Option.isSome_some,true_and,e1,e2]
end
section
open Go.RowKit
def kn1 (e:Ev) (k i:Nat):List T:=
 let h:=if i<k then hiF (W8 e i) else E7
 [ti h.p.sg,J0 h.p.dl,ti h.q.sg,J0 h.q.dl,tb (decide (i<k) && (W8 e i).isSome),.sl 0 .nil [],ti 0]
abbrev knB (rows:List (List T)):Blk:={ mode:=.live,elem:=119,size:=7,rows:=toC rows,box:=false }
theorem aA8 {e:Ev} {k i:Nat} (h:i≠k):kn1 e (k+1) i=kn1 e k i:=by
 unfold kn1
 by_cases h1:i<k
 ·simp only [if_pos h1,if_pos (show i<k+1 by omega),h1,show i<k+1 by omega]
 ·simp only [if_neg h1,if_neg (show ¬i<k+1 by omega),h1,show ¬i<k+1 by omega]
theorem aN3 {e:Ev} {k n:Nat} (h:k<n):(toC ((List.range n).map (kn1 e k))).set k ((kn1 e (k+1) k).map C.t)=toC ((List.range n).map (kn1 e (k+1))):=by
 apply List.ext_getElem?
 intro i
 unfold toC
 rw [List.getElem?_set,List.getElem?_map,List.getElem?_map,List.getElem?_map]
 by_cases hi:k=i
 ·subst hi
  rw [if_pos rfl]
  simp [h]
 ·rw [if_neg hi,List.getElem?_map]
  cases hr:(List.range n)[i]? with
  |none=>rfl
  |some j=>
   have:j=i:=by
    obtain ⟨h1,h2⟩:=lg1 hr
    simp at h2;omega
   subst this
   show some ((kn1 e k j).map C.t)=some ((kn1 e (k+1) j).map C.t)
   rw [aA8 (fun h=>hi h.symm)]
theorem as1 {e:Ev} {k:Nat} (h:W8 e k=none):kn1 e (k+1) k=kn1 e k k:=by
 unfold kn1
 simp only [if_pos (show k<k+1 by omega),if_neg (show ¬k<k by omega),h]
 simp [hiF]
theorem aq4 {e:Ev} {k n:Nat} (h:W8 e k=none):(List.range n).map (kn1 e (k+1))=(List.range n).map (kn1 e k):=List.map_congr_left fun i _=>by
 by_cases hi:i=k
 ·subst hi;exact as1 h
 ·exact aA8 hi
theorem b2p {e:Ev} {n:Nat} {ρ:List (Option Nat)} {H:Hp}:a3k ρ H (List.replicate n [C.t (ti 0),C.t (.sl 0 .nil []),C.t (ti 0),C.t (.sl 0 .nil []),C.t (tb false),C.t (.sl 0 .nil []),C.t (ti 0)]) (toC ((List.range n).map (kn1 e 0))):=by
 refine a3S (by simp [toC]) fun i x y hx hy=>?_
 have hi:i<n:=by have:=(lg1 hx).1;simpa using this
 rw [List.getElem?_replicate,if_pos hi] at hx
 injection hx with hx
 subst hx
 unfold toC at hy
 rw [List.getElem?_map,List.getElem?_map,List.getElem?_range hi] at hy
 injection hy with hy
 subst hy
 show a2z _ _ _ ((kn1 e 0 i).map C.t)
 unfold kn1
 simp only [if_neg (show ¬i<0 by omega)]
 exact ⟨rfl,rfl,rfl,rfl,rfl,rfl,rfl,trivial⟩
def knA (e:Ev) (i:Nat):List T:=[ti (hiF (W8 e i)).p.sg,J0 (hiF (W8 e i)).p.dl,ti (hiF (W8 e i)).q.sg,J0 (hiF (W8 e i)).q.dl,tb (W8 e i).isSome]
def E1 (t:g9) (kind:Int) (k i:Nat):List Int:=i6 (t.finds.take k) kind i
theorem a4Z (l:List H9) (f:H9) (kind:Int) (i:Nat):i6 (l++[f]) kind i=if f.kind=kind∧f.mv=(i:Int) then i6 l kind i++[f.grams] else i6 l kind i:=by
 rw [a2A];split<;>simp
theorem R8 {α:Type} {l:List α} {k:Nat} {x:α} (h:l[k]? =some x):l.take (k+1)=l.take k++[x]:=by rw [List.take_add_one,h];rfl
def kn3 (t:g9) (kind:Int) (k i:Nat):List T:=knA t.ev i++J0 (i6 t.finds kind i)::[ti (j9 (t.cleans.take k) kind i)]
theorem b5i (t:g9) (kind:Int) (k i:Nat):j9 (t.cleans.take k) kind i≤t.cleans.length:=Nat.le_trans (List.length_filter_le _ _) (by simp;omega)
theorem b2G {t:g9} {kind:Int} {n:Nat}:(List.range n).map (kn3 t kind t.cleans.length)=(List.range n).map (Q0 t kind):=List.map_congr_left fun i _=>by
 unfold kn3;rw [lg4 (Nat.le_refl _)];rfl
theorem b1q {t:g9} {kind:Int} {n k:Nat} {c:B8} (h:t.cleans[k]? =some c) (hk:c.kind≠kind):(List.range n).map (kn3 t kind (k+1))=(List.range n).map (kn3 t kind k):=List.map_congr_left fun i _=>by
 unfold kn3
 rw [R8 h,R3,if_neg (fun h=>hk h.1)];rfl
theorem b3t {t:g9} {kind:Int} {n k m:Nat} {c:B8} (hm:m<n) (h:t.cleans[k]? =some c) (hk:c.kind=kind) (hmv:c.mv=m):
 (toC ((List.range n).map (kn3 t kind k))).set m ((knA t.ev m++J0 (i6 t.finds kind m)::[ti ((j9 (t.cleans.take k) kind m:Int)+1)]).map C.t)=toC ((List.range n).map (kn3 t kind (k+1))):=by
 have key:∀i,i<n→i≠m→kn3 t kind (k+1) i=kn3 t kind k i:=fun i _ hi=>by
  unfold kn3
  rw [R8 h,R3,if_neg (fun h=>hi (by omega))];rfl
 have own:kn3 t kind (k+1) m=knA t.ev m++J0 (i6 t.finds kind m)::[ti ((j9 (t.cleans.take k) kind m:Int)+1)]:=by
  unfold kn3
  rw [R8 h,R3,if_pos ⟨hk,hmv⟩];rfl
 rw [← own]
 unfold toC
 rw [← List.map_set]
 congr 1
 apply List.ext_getElem?
 intro i
 simp only [List.getElem?_set,List.getElem?_map,List.length_map,List.length_range]
 by_cases hi:m=i
 ·subst hi;simp [hm]
 ·rw [if_neg hi]
  by_cases hin:i<n
  ·rw [List.getElem?_range hin]
   show some _=some _
   rw [key i hin (fun h=>hi h.symm)]
  ·rw [List.getElem?_eq_none (by simp;omega)];rfl
theorem b07 {l:List Int} {x:Int}:List.take l.length (toC (l.map i5))++toC [[ti x]]=toC ((l++[x]).map i5):=by
 rw [lg4 (by simp [toC])]
 simp [toC,i5]
set_option maxHeartbeats 4000000 in
theorem aN2 (t:g9) (kind:Int) (hs:t.Sized) (h0:y5 t.ev=0) (hf:∀f ∈ t.finds,0≤f.mv∧f.mv<t.ev.moves.length) (hc:∀c ∈ t.cleans,0≤c.mv∧c.mv<t.ev.moves.length):
 b9 Tryz.prog 67 [trS t,a9 .i64 kind] [] (.c (.t (a14 t kind))) []:=by
 obtain ⟨b1,b2,b3,b4⟩:=P6 h0
 have l1:=hs.f
 have l2:=hs.c
 have m0:(t.ev.moves.map n6.row).length=t.ev.moves.length:=by simp
 have m1:(t.finds.map H9.row).length=t.finds.length:=by simp
 have m2:(t.cleans.map B8.row).length=t.cleans.length:=by simp
 have s3:=hs.ev.s3
 have s4:=hs.ev.s4
 (refine a8 a7 Tryz.func67 rfl (by decide) ?_;(conv=>whnf);repeat ((first|refine b0x ?_|refine zy ?_);conv=>whnf))
 repeat' first|(refine zd ?_ ?_<;>intro h<;>first|exact zc h|(exfalso;omega)|conv=>whnf)|((first|refine zz ?_|refine a3s (by omega) (by omega) (by omega) (by decide) ?_|refine zy ?_);conv=>whnf)
 refine f8 a7 (fun k=>([J,a9 .i64 kind,S.c (C.t (T.ptr (trT t))),J,J,S.c (C.ptr 0 0 0),S.c (C.own 1 0 t.ev.moves.length true),J,J,J,J,J,J,J,J,J,J,J,J,J,S.c (C.t (a2k t.ev.moves)),a9 .i64 t.ev.moves.length,a9 .i64 k,J,J,J,J,J,J,J,J,J,J,J,J,J,J,J,J,J,J,J,J,J,J,J,J,J,J,J,J,J,J,J,J,J,J,J,J,J,J,J,J,J,J,J,J,J,J,J,J,J,J,J,J,J,J,J,J,J,J,J,J,J,J,J,J,J,J,J,J,J,J,J,J,J,J,J,J,J,J,J,J],[evB t.ev,knB ((List.range t.ev.moves.length).map (kn1 t.ev k))])) t.ev.moves.length (fun _=>True) [some 0,some 1] trivial ?_ ?_
 ·refine ⟨rfl,rfl,⟨⟨rfl,rfl,rfl,.inl ⟨rfl,k6 _⟩⟩,⟨rfl,rfl,rfl,.inr ?_⟩,trivial⟩,⟨rfl,rfl,⟨rfl,rfl,rfl⟩,⟨rfl,rfl,?_,fun h=>h⟩,rfl,e7 (by simp),rfl,trivial⟩⟩
  ·have e9:((((t.ev.moves.map n6.row).length:Nat):Int)).toNat=t.ev.moves.length:=by omega
   rw [← e9]
   exact b2p
  ·omega
 intro k hk _
 by_cases hlt:k<t.ev.moves.length
 ·obtain ⟨x,hx⟩:∃x,t.ev.moves[k]? =some x:=⟨_,lg0 hlt⟩
  have iv:=aH5 t.ev.certs t.ev.recalls (by omega) (by omega) x.scale x.reading x.day
  have eK:0+(k:Int).toNat=k:=by omega
  have hk0:(List.range t.ev.moves.length)[0+(k:Int).toNat]? =some k:=by rw [eK,List.getElem?_range hlt]
  have gs:∀c,((knB ((List.range t.ev.moves.length).map (kn1 t.ev k))).rows.set (0+(k:Int).toNat) c)[0+(k:Int).toNat]? =some c:=fun c=>by
   rw [List.getElem?_set_self]
   show _<(toC _).length
   simp [toC];omega
  by_cases hsc:x.scale=-1
  ·have hn:W8 t.ev k=none:=by rw [a63 hx];unfold D7;rw [if_pos hsc]
   have e1:=aq4 (n:=t.ev.moves.length) hn
   conv=>whnf
   repeat' first|(refine zd ?_ ?_<;>intro h<;>first|exact zc h|(exfalso;omega)|conv=>whnf)|((first|refine zz ?_|refine d9 hx ?_|refine zy ?_);conv=>whnf)
   all_goals try (exfalso;omega)
   refine ⟨hlt,trivial,[some 0,some 1],rfl,rfl,⟨⟨rfl,rfl,rfl,.inl ⟨rfl,k6 _⟩⟩,b8 rfl rfl rfl ?_ rfl,trivial⟩,⟨rfl,rfl,⟨rfl,rfl,rfl⟩,⟨rfl,rfl,rfl,fun h=>h⟩,rfl,rfl,rfl,trivial⟩⟩
   rw [e1]
  ·have hiv:W8 t.ev k=L1 t.ev.certs t.ev.recalls x.scale x.reading x.day:=by rw [a63 hx];unfold D7;rw [if_neg hsc]
   rw [← hiv] at iv
   cases hi:W8 t.ev k with
   |none=>
    rw [hi] at iv
    have er:(kn1 t.ev (k+1) k).map C.t=frC E7++[C.t (tb false),C.t (.sl 0 .nil []),C.t (ti 0)]:=by rw [as1 hi];simp [kn1]
    conv=>whnf
    repeat' first|(refine zd ?_ ?_<;>intro h<;>first|exact zc h|(exfalso;omega)|conv=>whnf)|((first|refine zz ?_|refine qp iv ?_|refine qp (2,3,18) ?_|refine d9 hx ?_|refine o8 hk0 ?_|refine ⟨_,gs _,?_⟩|refine bl0 [2,3,18] ?_|refine zy ?_);conv=>whnf)
    all_goals try (exfalso;omega)
    refine ⟨hlt,trivial,[some 0,some 1],rfl,rfl,⟨⟨rfl,rfl,rfl,.inl ⟨rfl,k6 _⟩⟩,b8 rfl rfl rfl ?_ rfl,trivial⟩,⟨rfl,rfl,⟨rfl,rfl,rfl⟩,⟨rfl,rfl,rfl,fun h=>h⟩,rfl,rfl,rfl,trivial⟩⟩
    have e2:=aN3 (e:=t.ev) hlt
    rw [er] at e2
    rw [← e2]
    show ((toC _).set (0+(k:Int).toNat) _).set (0+(k:Int).toNat) _=_
    rw [List.set_set,eK]
    rfl
   |some p=>
    obtain ⟨lo,hi'⟩:=p
    rw [hi] at iv
    have er:(kn1 t.ev (k+1) k).map C.t=frC (fz hi')++[C.t (tb true),C.t (.sl 0 .nil []),C.t (ti 0)]:=by simp [kn1,hi,hiF]
    conv=>whnf
    repeat' first|(refine zd ?_ ?_<;>intro h<;>first|exact zc h|(exfalso;omega)|conv=>whnf)|((first|refine zz ?_|refine qp iv ?_|refine qp (2,3,18) ?_|refine d9 hx ?_|refine o8 hk0 ?_|refine ⟨_,gs _,?_⟩|refine bl0 [2,3,18] ?_|refine zy ?_);conv=>whnf)
    all_goals try (exfalso;omega)
    refine ⟨hlt,trivial,[some 0,some 1],rfl,rfl,⟨⟨rfl,rfl,rfl,.inl ⟨rfl,k6 _⟩⟩,b8 rfl rfl rfl ?_ rfl,trivial⟩,⟨rfl,rfl,⟨rfl,rfl,rfl⟩,⟨rfl,rfl,rfl,fun h=>h⟩,rfl,rfl,rfl,trivial⟩⟩
    have e2:=aN3 (e:=t.ev) hlt
    rw [er] at e2
    rw [← e2]
    show ((toC _).set (0+(k:Int).toNat) _).set (0+(k:Int).toNat) _=_
    rw [List.set_set,eK]
    rfl
 ·conv=>whnf
  repeat' first|(refine zd ?_ ?_<;>intro h<;>first|exact zc h|(exfalso;omega)|conv=>whnf)|((first|refine zz ?_|refine zy ?_);conv=>whnf)
  all_goals try (exfalso;omega)
  have e0:E1 t kind 0=fun _=>[]:=by funext i;simp [E1,i6]
  refine f8 a7 (fun k=>([J,a9 .i64 kind,S.c (C.t (T.ptr (trT t))),J,J,J,S.c (C.own 0 0 t.ev.moves.length true),J,J,J,J,J,J,J,J,J,J,J,J,J,J,J,J,J,J,J,J,J,J,J,J,J,J,J,J,J,J,J,J,J,J,J,J,J,J,J,J,J,J,J,J,J,J,J,J,S.c (C.t (a9d t.finds)),a9 .i64 t.finds.length,a9 .i64 k,J,J,J,J,J,J,J,J,J,J,J,J,J,J,J,J,J,J,J,J,J,J,J,J,J,J,J,J,J,J,J,J,J,J,J,J,J,J,J,J,J,J,J,J,J],V6 119 7 t.ev.moves.length (knA t.ev) (E1 t kind k) (fun _=>[ti 0]))) t.finds.length (fun _=>True) (aE9 1 t.ev.moves.length) trivial ?_ ?_
  ·have hke:k=t.ev.moves.length:=by omega
   subst hke
   refine (?_:Ent 0 (aE9 1 t.ev.moves.length) _ _ _ (V6 119 7 t.ev.moves.length (knA t.ev) (E1 t kind 0) (fun _=>[ti 0])))
   rw [e0]
   refine b3z (k0:=knB ((List.range t.ev.moves.length).map (kn1 t.ev t.ev.moves.length))) (s:=0) rfl ⟨rfl,rfl,rfl,rfl⟩ ?_ ?_
   ·show toC _=_
    unfold toC
    rw [List.map_map]
    refine List.map_congr_left fun i hi=>?_
    have:=List.mem_range.1 hi
    simp [kn1,knA,this]
   ·exact ⟨rfl,rfl,⟨rfl,rfl,rfl,fun h=>h⟩,j3 rfl,e7 (by simp),rfl,trivial⟩
  intro j hj _
  by_cases hjt:j<t.finds.length
  ·obtain ⟨f,hfj⟩:∃f,t.finds[j]? =some f:=⟨_,lg0 hjt⟩
   obtain ⟨f1,f2⟩:=hf f (lg2 hfj)
   obtain ⟨m,hm⟩:∃m:Nat,f.mv=m:=⟨f.mv.toNat,by omega⟩
   have hmn:m<t.ev.moves.length:=by omega
   have eM:0+f.mv.toNat=m:=by omega
   have rL:(List.range t.ev.moves.length).length=t.ev.moves.length:=by simp
   have rG:(List.range t.ev.moves.length)[m]? =some m:=List.getElem?_range hmn
   have gR:(a1Q t.ev.moves.length (knA t.ev) (E1 t kind j) (fun _=>[ti 0]))[0+f.mv.toNat]? =some (as2 (knA t.ev) (E1 t kind j) (fun _=>[ti 0]) (m+1) m):=by rw [eM];exact a1L hmn
   have gl:(E1 t kind j m).length≤t.finds.length:=by
    unfold E1 i6
    rw [List.length_map]
    exact Nat.le_trans (List.length_filter_le _ _) (by simp;omega)
   have hbox:∀(fB:Nat→Blk) (dead nb fb:Blk),(((((List.range t.ev.moves.length).map fB++[fb]).set m dead)++[nb])[t.ev.moves.length]?)=some fb:=fun fB dead nb fb=>by
    rw [List.getElem?_append_left (by simp),List.getElem?_set,if_neg (by omega),List.getElem?_append_right (by simp)]
    simp
   have hnew:∀(fB:Nat→Blk) (dead nb fb:Blk),(((((List.range t.ev.moves.length).map fB++[fb]).set m dead)++[nb])[t.ev.moves.length+1]?)=some nb:=fun fB dead nb fb=>by
    rw [List.getElem?_append_right (by simp)]
    simp
   have hold:∀(fB:Nat→Blk) (dead nb fb:Blk) (p:Nat),p<t.ev.moves.length→p≠m→(((((List.range t.ev.moves.length).map fB++[fb]).set m dead)++[nb])[p]?)=some (fB p):=fun fB dead nb fb p hp hpm=>by
    rw [List.getElem?_append_left (by simp;omega),List.getElem?_set,if_neg (by omega),List.getElem?_append_left (by simpa using hp),List.getElem?_map,List.getElem?_range hp];rfl
   by_cases hkd:f.kind=kind
   ·conv=>whnf
    repeat' first|(refine zd ?_ ?_<;>intro h<;>first|exact zc h|(exfalso;omega)|conv=>whnf)|((first|refine zz ?_|refine qp toC ?_|refine qp toC ?_|refine qp (0,1,2) ?_|refine d9 hfj ?_|refine l9 rL ?_|refine a32 rL ?_|refine E4 ?_|refine a2D ?_|refine ⟨_,gR,?_⟩|refine a7O (hbox _ _ _ _) ?_|refine U3 rG ?_|refine au0 rG ?_|refine C9 rL ?_|refine i9 rL ?_|refine a6e rL ?_|refine j0 rL ?_|refine al6 ?_|refine v7 (by simp [toC]) (by simp [toC];omega) ?_|refine bl0 [0,1,2] ?_|refine zy ?_);conv=>whnf)
    all_goals try (exfalso;omega)
    refine ⟨hjt,trivial,a7f t.ev.moves.length m (t.ev.moves.length+2),?_⟩
    refine (?_:Ent 0 (a7f t.ev.moves.length m (t.ev.moves.length+2)) _ _ _ (V6 119 7 t.ev.moves.length (knA t.ev) (E1 t kind (j+1)) (fun _=>[ti 0])))
    have eg:E1 t kind (j+1)=a3a (E1 t kind j) m (E1 t kind j m++[f.grams]):=by
     funext i
     unfold E1 a3a
     rw [R8 hfj,a4Z]
     by_cases hi:i=m
     ·subst hi;rw [if_pos ⟨hkd,hm⟩,if_pos rfl]
     ·rw [if_neg (fun h=>hi (by omega)),if_neg hi]
    rw [eg]
    refine b1j hmn (by omega) rfl ⟨rfl,rfl,rfl,rfl⟩ ?_ ?_ ?_ ?_
    ·show (a1Q _ _ _ _).set (0+f.mv.toNat) _=_
     rw [eM,List.length_append]
     rfl
    ·intro p hp hpm
     exact hold _ _ _ _ p hp hpm
    ·refine (hnew _ _ _ _).trans ?_
     show some (Blk.mk .live _ 1 (List.take _ (toC ((E1 t kind j m).map i5))++toC [[ti f.grams]]) false false)=_
     rw [b07]
    ·exact ⟨rfl,rfl,⟨by rw [U2 (by omega)];rfl,rfl,rfl,fun h=>h⟩,rfl,rfl,rfl,trivial⟩
   ·conv=>whnf
    repeat' first|(refine zd ?_ ?_<;>intro h<;>first|exact zc h|(exfalso;omega)|conv=>whnf)|((first|refine zz ?_|refine d9 hfj ?_|refine l9 rL ?_|refine a32 rL ?_|refine E4 ?_|refine a2D ?_|refine C9 rL ?_|refine i9 rL ?_|refine a6e rL ?_|refine j0 rL ?_|refine zy ?_);conv=>whnf)
    all_goals try (exfalso;omega)
    refine ⟨hjt,trivial,idR (t.ev.moves.length+1),?_⟩
    refine (?_:Ent 0 (idR (t.ev.moves.length+1)) _ (V6 119 7 t.ev.moves.length (knA t.ev) (E1 t kind j) (fun _=>[ti 0])++_) _ (V6 119 7 t.ev.moves.length (knA t.ev) (E1 t kind (j+1)) (fun _=>[ti 0])))
    have eg:E1 t kind (j+1)=E1 t kind j:=by
     funext i
     unfold E1
     rw [R8 hfj,a4Z,if_neg (fun h=>hkd h.1)]
    rw [eg]
    exact aX4 ⟨rfl,rfl,⟨o4 (by omega),rfl,rfl,fun h=>h⟩,rfl,rfl,rfl,trivial⟩
  ·have hje:j=t.finds.length:=by omega
   subst hje
   have rL:(List.range t.ev.moves.length).length=t.ev.moves.length:=by simp
   conv=>whnf
   repeat' first|(refine zd ?_ ?_<;>intro h<;>first|exact zc h|(exfalso;omega)|conv=>whnf)|((first|refine zz ?_|refine E4 ?_|refine a2D ?_|refine a32 rL ?_|refine zy ?_);conv=>whnf)
   all_goals try (exfalso;omega)
   have eg:E1 t kind t.finds.length=i6 t.finds kind:=by funext i;unfold E1;rw [lg4 (Nat.le_refl _)]
   rw [eg]
   refine f8 a7 (fun k=>([J,a9 .i64 kind,J,J,J,J,S.c (C.own 0 0 t.ev.moves.length true),J,J,J,J,J,J,J,J,J,J,J,J,J,J,J,J,J,J,J,J,J,J,J,J,J,J,J,J,J,J,J,J,J,J,J,J,J,J,J,J,J,J,J,J,J,J,J,J,J,J,J,J,J,J,J,J,J,J,J,J,J,J,J,J,J,J,J,J,J,J,J,J,J,J,J,S.c (C.t (a50 t.cleans)),a9 .i64 t.cleans.length,a9 .i64 k,J,J,J,J,J,J,J,J,J,J,J,J,J,J,J,J,J,J],[knB ((List.range t.ev.moves.length).map (kn3 t kind k))])) t.cleans.length (fun _=>True) [some 0] trivial ?_ ?_
   ·exact b29 (g:=i6 t.finds kind) ⟨rfl,⟨rfl,rfl,rfl,fun h=>h⟩,j3 rfl,e7 (by simp),rfl,trivial⟩
   intro q hq _
   by_cases hqt:q<t.cleans.length
   ·obtain ⟨c,hcq⟩:∃c,t.cleans[q]? =some c:=⟨_,lg0 hqt⟩
    obtain ⟨g1,g2⟩:=hc c (lg2 hcq)
    obtain ⟨m,hm⟩:∃m:Nat,c.mv=m:=⟨c.mv.toNat,by omega⟩
    have hmn:m<t.ev.moves.length:=by omega
    have eM:0+c.mv.toNat=m:=by omega
    have hk0:(List.range t.ev.moves.length)[0+c.mv.toNat]? =some m:=by rw [eM];exact List.getElem?_range hmn
    have cb:=b5i t kind q m
    by_cases hkd:c.kind=kind
    ·conv=>whnf
     repeat' first|(refine zd ?_ ?_<;>intro h<;>first|exact zc h|(exfalso;omega)|conv=>whnf)|((first|refine zz ?_|refine d9 hcq ?_|refine o8 hk0 ?_|refine zy ?_);conv=>whnf)
     all_goals try (exfalso;omega)
     refine ⟨hqt,trivial,[some 0],rfl,rfl,⟨b8 rfl rfl rfl ?_ rfl,trivial⟩,⟨rfl,⟨rfl,rfl,rfl,fun h=>h⟩,rfl,rfl,rfl,trivial⟩⟩
     show (toC _).set (0+c.mv.toNat) _=_
     rw [eM,←b3t hmn hcq hkd hm]
     rfl
    ·have e3:=b1q (t:=t) (kind:=kind) (n:=t.ev.moves.length) hcq hkd
     conv=>whnf
     repeat' first|(refine zd ?_ ?_<;>intro h<;>first|exact zc h|(exfalso;omega)|conv=>whnf)|((first|refine zz ?_|refine d9 hcq ?_|refine o8 hk0 ?_|refine zy ?_);conv=>whnf)
     all_goals try (exfalso;omega)
     refine ⟨hqt,trivial,[some 0],rfl,rfl,⟨b8 rfl rfl rfl ?_ rfl,trivial⟩,⟨rfl,⟨rfl,rfl,rfl,fun h=>h⟩,rfl,rfl,rfl,trivial⟩⟩
     rw [e3]
   ·have hqe:q=t.cleans.length:=by omega
    subst hqe
    conv=>whnf
    repeat' first|(refine zd ?_ ?_<;>intro h<;>first|exact zc h|(exfalso;omega)|conv=>whnf)|((first|refine zz ?_|refine zy ?_);conv=>whnf)
    all_goals try (exfalso;omega)
    rw [b2G]
    exact O2 (k:=knB ((List.range t.ev.moves.length).map (Q0 t kind))) rfl (by intro h;cases h) rfl rfl (by simp)
end
section
open Go.RowKit
abbrev O9 (l:List (Int × Rat)):Blk:={ mode:=.live,elem:=132,size:=5,rows:=toC (l.map o7),box:=false }
abbrev U6 (l:List B2):Blk:={ mode:=.live,elem:=143,size:=6,rows:=toC (l.map y4),box:=false }
abbrev a2O (n:Int) (id len:Nat):Blk:={ mode:=.live,elem:=70,size:=2,rows:=[[.t (ti n),.own id 0 len true]],box:=true }
abbrev b4g (id len:Nat) (kind:Int):Blk:={ mode:=.live,elem:=143,size:=6,rows:=[.own id 0 len true::.t (ti kind)::frC (fz zR)],box:=true }
abbrev b3P (x:n6):Blk:={ mode:=.live,elem:=79,size:=6,rows:=[x.row.map .t],box:=true }
theorem a2g (x:n6):G8 [x.row.map C.t]:=by simp [G8,n6.row,C.isT]
abbrev b4h:Blk:={ mode:=.live,elem:=143,size:=6,rows:=[.t (am3 [])::.t (ti 0)::frC E7],box:=true }
abbrev aP1 (el:TypeId) (size:Nat):Blk:=⟨.dead,el,size,[],false,false⟩
theorem a0t {l:List B2} {w:B2} {n:Nat} (h:n=l.length):List.take n (toC (l.map y4))++toC [y4 w]=toC ((l++[w]).map y4):=by
 rw [lg4 (by simp [toC,h])]
 simp [toC]
set_option maxHeartbeats 4000000 in
theorem b5t (n:Int) (rows:List B2) (hr:rows.length≤1000000) (mv:Nat) (kind:Int) (v:Rat):
 b9 Tryz.prog 128 [a9 .i64 mv,a9 .i64 kind,frS (fz v),.c (.ptr 0 0 0)] [a2O n 1 rows.length,U6 rows] (.tup []) [a2O n 2 (rows.length+1),aP1 143 6,U6 (rows++[s9 mv kind v])]:=by
 have i1:=G9 1 (by decide) (by decide)
 (refine a8 a7 Tryz.func128 rfl (by decide) ?_;(conv=>whnf);repeat ((first|refine b0x ?_|refine zy ?_);conv=>whnf))
 repeat' first|(refine zd ?_ ?_<;>intro h<;>first|exact zc h|(exfalso;omega)|conv=>whnf)|((first|refine zz ?_|refine qp i1 ?_|refine qp toC ?_|refine qp toC ?_|refine a34.weak ?_|refine v7 (by simp [toC]) (by simp [toC];omega) ?_|refine zy ?_);conv=>whnf)
 refine ⟨⟨[some 0,some 1,some 2],rfl,rfl,⟨⟨rfl,rfl,rfl,.inr ⟨⟨rfl,⟨rfl,rfl,rfl,fun h=>h⟩,trivial⟩,trivial⟩⟩,⟨rfl,rfl,rfl,.inl ⟨rfl,by simp [G8]⟩⟩,b8 rfl rfl rfl ?_ rfl,trivial⟩,trivial⟩⟩
 show List.take rows.length (toC (rows.map y4))++toC [y4 (s9 mv kind v)]=_
 exact a0t rfl
theorem b4N {H:Hp} {id:Nat} {n:Int} {rows:List B2} (hs:H[2]? =some (a2O n id rows.length)) (hid:H[id]? =some (U6 rows)) (hne:id≠2) (hr:rows.length≤1000000) (mv:Nat) (kind:Int) (v:Rat):
 b9 Tryz.prog 128 [a9 .i64 mv,a9 .i64 kind,frS (fz v),.c (.ptr 2 0 0)] H (.tup []) (((H.set 2 (a2O n H.length (rows.length+1))).set id (aP1 143 6))++[U6 (rows++[s9 mv kind v])]):=by
 have h2:2<H.length:=(lg1 hs).1
 have hi:id<H.length:=(lg1 hid).1
 have ex:a2h [2,id] H.length 1=[2,id,H.length]:=by simp [a2h]
 refine P3 [2,id] (b5t n rows hr mv kind v) rfl rfl rfl (by simp;omega) ?_ ?_ (by simp) rfl rfl (by simp) ?_ ?_
 ·intro i k hk
  match i,hk with
  |0,hk=>
   injection hk with hk
   subst hk
   exact ⟨rfl,rfl,by simp [okL,okC],_,hs,⟨rfl,rfl,rfl,rfl,by simp [a6r,a0G,U8]⟩⟩
  |1,hk=>
   injection hk with hk
   subst hk
   exact ⟨rfl,rfl,a29 _,_,hid,E0 rfl⟩
 ·intro k hk
  simp at hk
  rcases hk with rfl|rfl|rfl<;>(intro h;cases h)
 ·intro i k hk
  show ∃k',_[(a2h [2,id] H.length 1).getD i 0]? =some k'∧ap4 (a2h [2,id] H.length 1) k k'
  rw [ex]
  match i,hk with
  |0,hk=>
   injection hk with hk
   subst hk
   refine ⟨a2O n H.length (rows.length+1),?_,⟨rfl,rfl,rfl,rfl,by simp [a6r,a0G,U8]⟩⟩
   show (_++_)[2]? =_
   rw [List.getElem?_append_left (by simp;omega),List.getElem?_set,if_neg (by omega),List.getElem?_set,if_pos rfl,if_pos h2]
  |1,hk=>
   injection hk with hk
   subst hk
   refine ⟨aP1 143 6,?_,⟨rfl,rfl,rfl,rfl,rfl⟩⟩
   show (_++_)[id]? =_
   rw [List.getElem?_append_left (by simp;omega),List.getElem?_set,if_pos rfl,if_pos (by simp;omega)]
  |2,hk=>
   injection hk with hk
   subst hk
   refine ⟨U6 (rows++[s9 mv kind v]),?_,E0 rfl⟩
   show (_++_)[H.length]? =_
   rw [List.getElem?_append_right (by simp)]
   simp
 ·intro j hj hjn
  simp at hjn
  rw [List.getElem?_append_left (by simp;omega),List.getElem?_set,if_neg (by omega),List.getElem?_set,if_neg (by omega)]
theorem a0y {l:List (Int × Rat)} {w:Int × Rat} {n:Nat} (h:n=l.length):List.take n (toC (l.map o7))++toC [o7 w]=toC ((l++[w]).map o7):=by
 rw [lg4 (by simp [toC,h])]
 simp [toC]
theorem Q2 {e:Ev} {p:Int} {k:Nat} {y:n6} (h:e.moves[k]? =some y):j6 e p (k+1)=if y.dst=p then j6 e p k++[((k:Int),((1:Int):Rat))] else if y.src=p then j6 e p k++[((k:Int),((-1:Int):Rat))] else j6 e p k:=by rw [j6,h]
theorem a09 {e:Ev} {p:Int}:∀k,(j6 e p k).length≤k
 |0=>by simp [j6]
 |k+1=>by
  have ih:=a09 (e:=e) (p:=p) k
  unfold j6
  cases e.moves[k]? with
  |none=>simp only;omega
  |some y=>
   simp only
   split
   ·simp;omega
   ·split
    ·simp;omega
    ·omega
set_option maxHeartbeats 4000000 in
theorem b3F (e:Ev) (h0:y5 e=0) {i:Nat} {x:n6} (hx:e.moves[i]? =some x):b9 Tryz.prog 129 [evS e,a9 .i64 i] [] (az8 (t4 e i x)) []:=by
 obtain ⟨b1,b2,b3,b4⟩:=P6 h0
 have hi:i<e.moves.length:=(lg1 hx).1
 have m0:(e.moves.map n6.row).length=e.moves.length:=by simp
 have i0:=G9 0 (by decide) (by decide)
 have i1:=G9 1 (by decide) (by decide)
 have im:=G9 (-1) (by decide) (by decide)
 have tk:(e.moves.map n6.row).take i=(e.moves.take i).map n6.row:=(List.map_take ..).symm
 have tl:(e.moves.take i).length=i:=by simp;omega
 have mt:((e.moves.take i).map n6.row).length=i:=by simp;omega
 cases hal:x.all
 case' false=>have hK:(t4 e i x).kind=0:=by unfold t4;rw [hal];rfl
 case' true=>have hK:(t4 e i x).kind=2:=by unfold t4;rw [hal];rfl
 all_goals
  (refine a8 a7 Tryz.func129 rfl (by decide) ?_;(conv=>whnf);repeat ((first|refine b0x ?_|refine zy ?_);conv=>whnf))
  repeat' first|(refine zd ?_ ?_<;>intro h<;>first|exact zc h|(exfalso;omega)|conv=>whnf)|((first|refine zz ?_|refine qp i0 ?_|refine d9 hx ?_|refine az2 (by omega) (by omega) (by omega) ?_|refine zy ?_);conv=>whnf)
  all_goals first
   |(exfalso;omega)
   |(exfalso;simp_all;done)
   |skip
  refine f8 a7 (fun k=>([J,a9 .i64 i,J,J,S.c (C.ptr 0 0 0),S.c (C.ptr 1 0 0),S.c (C.ptr 2 0 0),J,J,J,J,J,J,J,J,J,J,J,J,J,J,J,S.c (C.t (a2k (e.moves.take i))),a9 .i64 i,a9 .i64 k,J,J,J,J,J,J,J,J,J,J,J,J,J,J,J,J,J,J,J,J,J,J,J,J,J,J,J,J,J,J,J,J,J,J,J,J,J,J,J,J],[b4h,b3P x,b4g 3 (j6 e x.src k).length (t4 e i x).kind,O9 (j6 e x.src k)])) i (fun _=>True) [some 0,some 1,some 2,none] trivial ?_ ?_
  ·rw [hK]
   refine ⟨rfl,rfl,⟨⟨rfl,rfl,rfl,.inr ⟨⟨rfl,rfl,rfl,rfl,rfl,rfl,trivial⟩,trivial⟩⟩,⟨rfl,rfl,rfl,.inl ⟨rfl,a2g x⟩⟩,⟨rfl,rfl,rfl,.inr ⟨⟨⟨rfl,rfl,rfl⟩,rfl,rfl,rfl,rfl,rfl,trivial⟩,trivial⟩⟩,⟨rfl,rfl⟩,trivial⟩,⟨rfl,⟨rfl,rfl,rfl⟩,⟨rfl,rfl,rfl⟩,⟨rfl,rfl,rfl⟩,j3 ?_,e7 ?_,rfl,trivial⟩⟩
   ·show T.sl 6 _ (((e.moves.map n6.row).take ((i:Int)).toNat).drop 0)=_
    rw [Int.toNat_natCast,tk];rfl
   ·show ((((e.moves.map n6.row).take ((i:Int)).toNat).drop 0).length:Int)=i
    rw [Int.toNat_natCast,tk,List.drop_zero,mt]
  intro k hk _
  have kl:=a09 (e:=e) (p:=x.src) k
  by_cases hlt:k<i
  ·obtain ⟨y,hy⟩:∃y,e.moves[k]? =some y:=⟨_,lg0 (by omega)⟩
   have hyt:(e.moves.take i)[k]? =some y:=by rw [List.getElem?_take,if_pos hlt];exact hy
   by_cases c1:y.dst=x.src
   ·have et:j6 e x.src (k+1)=j6 e x.src k++[((k:Int),((1:Int):Rat))]:=by rw [Q2 hy,if_pos c1]
    conv=>whnf
    repeat' first|(refine zd ?_ ?_<;>intro h<;>first|exact zc h|(exfalso;omega)|conv=>whnf)|((first|refine zz ?_|refine qp i1 ?_|refine qp toC ?_|refine qp toC ?_|refine d9 hyt ?_|refine v7 (by simp [toC]) (by simp [toC];omega) ?_|refine zy ?_);conv=>whnf)
    all_goals try (exfalso;omega)
    refine ⟨hlt,trivial,[some 0,some 1,some 2,some 5],rfl,rfl,⟨⟨rfl,rfl,rfl,.inr ⟨⟨rfl,rfl,rfl,rfl,rfl,rfl,trivial⟩,trivial⟩⟩,⟨rfl,rfl,rfl,.inl ⟨rfl,a2g x⟩⟩,⟨rfl,rfl,rfl,.inr ⟨⟨⟨rfl,rfl,?_,fun h=>h⟩,rfl,rfl,rfl,rfl,rfl,trivial⟩,trivial⟩⟩,b8 rfl rfl rfl ?_ rfl,trivial⟩,⟨rfl,⟨rfl,rfl,rfl⟩,⟨rfl,rfl,rfl⟩,⟨rfl,rfl,rfl⟩,rfl,rfl,rfl,trivial⟩⟩
    ·rw [et,List.length_append];rfl
    ·rw [et]
     show List.take (j6 e x.src k).length (toC ((j6 e x.src k).map o7))++toC [o7 ((k:Int),((1:Int):Rat))]=_
     exact a0y rfl
   ·by_cases c2:y.src=x.src
    ·have et:j6 e x.src (k+1)=j6 e x.src k++[((k:Int),((-1:Int):Rat))]:=by rw [Q2 hy,if_neg c1,if_pos c2]
     conv=>whnf
     repeat' first|(refine zd ?_ ?_<;>intro h<;>first|exact zc h|(exfalso;omega)|conv=>whnf)|((first|refine zz ?_|refine qp im ?_|refine qp toC ?_|refine qp toC ?_|refine d9 hyt ?_|refine v7 (by simp [toC]) (by simp [toC];omega) ?_|refine zy ?_);conv=>whnf)
     all_goals try (exfalso;omega)
     refine ⟨hlt,trivial,[some 0,some 1,some 2,some 5],rfl,rfl,⟨⟨rfl,rfl,rfl,.inr ⟨⟨rfl,rfl,rfl,rfl,rfl,rfl,trivial⟩,trivial⟩⟩,⟨rfl,rfl,rfl,.inl ⟨rfl,a2g x⟩⟩,⟨rfl,rfl,rfl,.inr ⟨⟨⟨rfl,rfl,?_,fun h=>h⟩,rfl,rfl,rfl,rfl,rfl,trivial⟩,trivial⟩⟩,b8 rfl rfl rfl ?_ rfl,trivial⟩,⟨rfl,⟨rfl,rfl,rfl⟩,⟨rfl,rfl,rfl⟩,⟨rfl,rfl,rfl⟩,rfl,rfl,rfl,trivial⟩⟩
     ·rw [et,List.length_append];rfl
     ·rw [et]
      show List.take (j6 e x.src k).length (toC ((j6 e x.src k).map o7))++toC [o7 ((k:Int),((-1:Int):Rat))]=_
      exact a0y rfl
    ·have et:j6 e x.src (k+1)=j6 e x.src k:=by rw [Q2 hy,if_neg c1,if_neg c2]
     conv=>whnf
     repeat' first|(refine zd ?_ ?_<;>intro h<;>first|exact zc h|(exfalso;omega)|conv=>whnf)|((first|refine zz ?_|refine d9 hyt ?_|refine zy ?_);conv=>whnf)
     all_goals try (exfalso;omega)
     refine ⟨hlt,trivial,[some 0,some 1,some 2,some 3],rfl,rfl,⟨⟨rfl,rfl,rfl,.inr ⟨⟨rfl,rfl,rfl,rfl,rfl,rfl,trivial⟩,trivial⟩⟩,⟨rfl,rfl,rfl,.inl ⟨rfl,a2g x⟩⟩,⟨rfl,rfl,rfl,.inr ⟨⟨⟨rfl,rfl,?_,fun h=>h⟩,rfl,rfl,rfl,rfl,rfl,trivial⟩,trivial⟩⟩,b8 rfl rfl rfl ?_ rfl,trivial⟩,⟨rfl,⟨rfl,rfl,rfl⟩,⟨rfl,rfl,rfl⟩,⟨rfl,rfl,rfl⟩,rfl,rfl,rfl,trivial⟩⟩
     ·rw [et]
     ·rw [et]
  ·have hke:k=i:=by omega
   subst hke
   conv=>whnf
   repeat' first|(refine zd ?_ ?_<;>intro h<;>first|exact zc h|(exfalso;omega)|conv=>whnf)|((first|refine zz ?_|refine qp im ?_|refine qp toC ?_|refine qp toC ?_|refine v7 (by simp [toC]) (by simp [toC];omega) ?_|refine zy ?_);conv=>whnf)
   all_goals try (exfalso;omega)
   refine k8 ⟨show VC _ (fun id=>K3 [] id=true) _ _ from v5 rfl rfl (by intro h;cases h) rfl (rows:=(j6 e x.src k++[((k:Int),((-1:Int):Rat))]).map o7) ?_ ?_,rfl,rfl,rfl,rfl,rfl,trivial⟩
   ·show List.take (j6 e x.src k).length (toC ((j6 e x.src k).map o7))++toC [o7 ((k:Int),((-1:Int):Rat))]=_
    exact a0y rfl
   ·rw [List.length_map,List.length_append];rfl
end
section
open Go.RowKit
theorem a2Z {e:Ev}:∀{l:List B8},K5 e l=0→∀c ∈ l,0≤c.mv∧c.mv<e.moves.length
 |[],_,c,hc=>by cases hc
 |g::r,h,c,hc=>by
  unfold K5 at h
  by_cases h1:a0h e g.mv g.kind≠0
  ·rw [if_pos h1] at h;exact absurd h h1
  rw [if_neg h1] at h
  rcases List.mem_cons.1 hc with rfl|hc
  ·unfold a0h at h1
   by_cases h3:c.mv<0∨(e.moves.length:Int)≤c.mv
   ·rw [if_pos h3] at h1;exact absurd (by decide) h1
   omega
  ·exact a2Z h c hc
theorem aQ9 {e:Ev} {Z:List Rat} (hZ:∀v ∈ Z,rl v≤200) (hm:e.moves.length≤200) {k:Nat} (hk:k≤200) (p:Nat):rl (B3 e Z k p)≤50000:=by
 have hB:∀l ∈ col Z,∀x ∈ l,rl x≤200:=fun l hl x hx=>by
  obtain ⟨v,hv,rfl⟩:=List.mem_map.1 hl
  simp at hx
  subst hx
  exact hZ x hv
 have:=b1J (e:=e) hB (by decide) k p 0
 have h2:=Nat.mul_le_mul_right (200+1) hk
 unfold B3
 omega
def hiR (o:Option (Rat × Rat)):Rat:=match o with
 |some (_,hi)=>hi
 |none=>0
theorem b1N {o:Option (Rat × Rat)} {lo hi:Rat} (h:o=some (lo,hi)):hi=hiR o:=by rw [h];rfl
theorem a3b {e:Ev} {x:n6} (h:(D7 e x).isSome=true):hiF (D7 e x)=fz (hiR (D7 e x))∧rl (hiR (D7 e x))≤200:=by
 cases hiv:D7 e x with
 |none=>rw [hiv] at h;cases h
 |some p=>
  obtain ⟨lo,hi⟩:=p
  refine ⟨rfl,?_⟩
  show rl hi≤200
  unfold D7 at hiv
  by_cases hs:x.scale=-1
  ·rw [if_pos hs] at hiv;cases hiv
  ·rw [if_neg hs] at hiv
   have:=(ay2 hiv).2
   omega
theorem b0y {t:g9} {kind:Int} {i:Nat} {x:n6} (hx:t.ev.moves[i]? =some x) (ht:I7 t.ev t.finds=0) (hl:t.finds.length≤1000000) (z:Rat) (hz:rl z≤200):
 b9 Tryz.prog 71 [.agg ((Q0 t kind i).map .t),frS (fz z)] [] (a9 .i64 (Z8 t kind i x z)) []:=by
 have h:=aX6 (hiF (W8 t.ev i)) (W8 t.ev i).isSome (hiR (W8 t.ev i)) (i6 t.finds kind i) (j9 t.cleans kind i) z
  (by rw [a63 hx];exact a3b) hz (fun g hg=>by
    unfold i6 at hg
    obtain ⟨f,hf,rfl⟩:=List.mem_map.1 hg
    have:=K2 ht f (List.mem_filter.1 hf).1
    omega) (by unfold i6;rw [List.length_map];exact Nat.le_trans (List.length_filter_le _ _) hl)
 rw [b08 hx (fun lo hi' h=>(b1N h))] at h
 exact h
theorem aA3 {l:List Fr} {i:Nat} {y:Fr}:(toC (l.map m6)).set i (frC y)=toC ((l.set i y).map m6):=by simp [toC,List.map_set,m6]
theorem aF4 {n:Nat} {ρ:List (Option Nat)} {H:Hp}:a3k ρ H (List.replicate n [C.t (ti 0),C.t (.sl 0 .nil []),C.t (ti 0),C.t (.sl 0 .nil [])]) (toC ((a1m 0 n).map m6)):=by
 rw [aI6]
 refine a3S (by simp [toC]) fun i x y hx hy=>?_
 have hi:i<n:=by have:=(lg1 hx).1;simpa using this
 rw [List.getElem?_replicate,if_pos hi] at hx
 injection hx with hx
 subst hx
 unfold toC at hy
 rw [List.getElem?_map,List.getElem?_map,List.getElem?_replicate,if_pos hi] at hy
 injection hy with hy
 subst hy
 exact ⟨rfl,rfl,rfl,rfl,trivial⟩
theorem b03 {e:Ev} {Z:List Rat} {j k s d:Nat} {x:n6} {v:Rat} (hx:e.moves[j]? =some x) (hv:Z.getD j 0=v) (hs:x.src=s) (hd:x.dst=d) (hsk:s<k) (hdk:d<k) (hsd:s≠d):
 ((a4t k (B3 e Z j)).set s (fz (B3 e Z j s - v))).set d (fz (B3 e Z j d+v))=a4t k (B3 e Z (j+1)):=by
 rw [aB5 hsk,aB5 hdk]
 congr 1
 funext p
 rw [a1S hx,hv]
 have c1:(x.src=(p:Int))↔p=s:=by omega
 have c2:(x.dst=(p:Int))↔p=d:=by omega
 simp only [c1,c2]
 by_cases h1:p=d
 ·subst h1
  rw [if_pos rfl,if_neg (fun h=>hsd h.symm),if_pos rfl]
 ·rw [if_neg h1]
  by_cases h2:p=s
  ·subst h2;rw [if_pos rfl,if_pos rfl]
  ·rw [if_neg h2,if_neg h2,if_neg h1]
theorem b01 {x y:Rat}:Y7 x y=0↔x=y:=by
 have h1:=aO6 (x:=x) (y:=y)
 have h2:=a5C (x:=x) (y:=y)
 constructor
 ·intro h
  have q1:x≤y:=h1.1 (by omega)
  have q2:¬x<y:=fun h'=>by have:=h2.2 h';omega
  grind
 ·intro h
  have q1:Y7 x y≤0:=h1.2 (by grind)
  have q2:¬Y7 x y<0:=fun h'=>by have:=h2.1 h';grind
  omega
set_option maxHeartbeats 4000000 in
theorem b1z (t:g9) (kind:Int) (z:List Fr) (hs:t.Sized) (hl:z.length≤1000000) (hd:∀f ∈ z,f.p.dl.length≤200∧f.q.dl.length≤200):
 b9 Tryz.prog 20 [trS t,a9 .i64 kind,p8 z] [] (a9 .i64 (Q4 t kind z)) []:=by
 have ck:=a1E t hs
 have m1:(z.map m6).length=z.length:=by simp
 have m2:(t.ev.moves.map n6.row).length=t.ev.moves.length:=by simp
 have m3:(t.ev.places.map I3.row).length=t.ev.places.length:=by simp
 by_cases h1:m8 t≠0∨kind<0∨8≤kind
 ·have e1:Q4 t kind z=1:=by unfold Q4;rw [if_pos h1]
  rw [e1]
  (refine a8 a7 Tryz.func20 rfl (by decide) ?_;(conv=>whnf);repeat ((first|refine b0x ?_|refine zy ?_);conv=>whnf))
  repeat' first|(refine zd ?_ ?_<;>intro h<;>first|exact zc h|(exfalso;omega)|conv=>whnf)|((first|refine zz ?_|refine qp ck ?_|refine zy ?_);conv=>whnf)
  all_goals first
   |(exfalso;omega)
   |exact j5 rfl
 obtain ⟨k1,k2,k3⟩:m8 t=0∧0≤kind∧kind<8:=by omega
 rw [k1] at ck
 by_cases h2:z.length≠t.ev.moves.length
 ·have e1:Q4 t kind z=2:=by unfold Q4;rw [if_neg h1,if_pos h2]
  rw [e1]
  (refine a8 a7 Tryz.func20 rfl (by decide) ?_;(conv=>whnf);repeat ((first|refine b0x ?_|refine zy ?_);conv=>whnf))
  repeat' first|(refine zd ?_ ?_<;>intro h<;>first|exact zc h|(exfalso;omega)|conv=>whnf)|((first|refine zz ?_|refine qp ck ?_|refine zy ?_);conv=>whnf)
  all_goals first
   |(exfalso;omega)
   |exact j5 rfl
 have h2:z.length=t.ev.moves.length:=by omega
 have e1:Q4 t kind z=if z.all D2 then S7 t kind (z.map fv) 0 t.ev.moves else 2:=by unfold Q4;rw [if_neg h1,if_neg (by omega)]
 rw [e1]
 clear e1 h1
 obtain ⟨q1,q2,q3,q4,q5⟩:=z4 k1
 obtain ⟨b1,b2,b3,b4⟩:=P6 q1
 have kn:=aN2 t kind hs q1 (fun f hf=>by have:=K2 q4 f hf;omega) (fun c hc=>a2Z q5 c hc)
 have i0:=G9 0 (by decide) (by decide)
 (refine a8 a7 Tryz.func20 rfl (by decide) ?_;(conv=>whnf);repeat ((first|refine b0x ?_|refine zy ?_);conv=>whnf))
 repeat' first|(refine zd ?_ ?_<;>intro h<;>first|exact zc h|(exfalso;omega)|conv=>whnf)|((first|refine zz ?_|refine qp ck ?_|refine zy ?_);conv=>whnf)
 all_goals try (exfalso;omega)
 refine f8 a7 (fun k=>([J,a9 .i64 kind,p8 z,S.c (C.t (T.ptr (trT t))),J,J,J,S.c (C.ptr 0 0 0),J,J,J,J,J,J,J,J,J,J,J,J,J,J,J,J,J,J,J,J,J,J,J,J,J,J,J,J,p8 z,a9 .i64 z.length,a9 .i64 k,J,J,J,J,J,J,J,J,J,J,J,J,J,J,J,J,J,J,J,J,J,J,J,J,J,J,J,J,J,J,J,J,J,J,J,J,J,J,J,J,J,J,J,J,J,J,J,J,J,J,J,J,J,J,J,J,J,J,J,J,J,J,J,J,J,J,J,J,J,J,J,J,J,J,J,J,J,J,J,J,J,J,J,J,J,J,J,J,J,J,J,J,J,J,J,J,J,J,J,J,J,J,J,J,J,J,J,J,J,J,J,J],[evB t.ev])) z.length (fun k=>(z.take k).all D2=true) [some 0] rfl
  ⟨rfl,rfl,⟨⟨rfl,rfl,rfl,.inl ⟨rfl,k6 _⟩⟩,trivial⟩,⟨rfl,rfl,rfl,⟨rfl,rfl,rfl⟩,rfl,e7 (by simp),rfl,trivial⟩⟩ ?_
 intro k hk hI
 by_cases hlt:k<z.length
 ·obtain ⟨f,hf⟩:∃f,z[k]? =some f:=⟨_,lg0 hlt⟩
  obtain ⟨d1,d2⟩:=hd f (lg2 hf)
  have r:=a8U f (by omega) (by omega)
  cases hr:D2 f with
  |true=>
   rw [hr] at r
   conv=>whnf
   repeat' first|(refine zd ?_ ?_<;>intro h<;>first|exact zc h|(exfalso;omega)|conv=>whnf)|((first|refine zz ?_|refine qp r ?_|refine d9 hf ?_|refine zy ?_);conv=>whnf)
   all_goals first
    |(exfalso;omega)
    |exact ⟨hlt,by rw [s7 hf,hI,hr];rfl,[some 0],rfl,rfl,⟨⟨rfl,rfl,rfl,.inl ⟨rfl,k6 _⟩⟩,trivial⟩,⟨rfl,rfl,rfl,⟨rfl,rfl,rfl⟩,rfl,rfl,rfl,trivial⟩⟩
  |false=>
   rw [hr] at r
   rw [w7 hf hr]
   conv=>whnf
   repeat' first|(refine zd ?_ ?_<;>intro h<;>first|exact zc h|(exfalso;omega)|conv=>whnf)|((first|refine zz ?_|refine qp r ?_|refine d9 hf ?_|refine zy ?_);conv=>whnf)
   all_goals first
    |(exfalso;omega)
    |exact j5 rfl
 have hz:z.all D2=true:=by rw [← hI,lg4 (by omega)]
 rw [if_pos hz]
 obtain ⟨Z,rfl⟩:=a9p hz
 rw [ak9]
 have hZ:∀v ∈ Z,rl v≤200:=fun v hv=>by
  have:=hd (fz v) (List.mem_map.2 ⟨v,hv,rfl⟩)
  exact Nat.max_le.2 this
 have zl:Z.length=t.ev.moves.length:=by simpa using h2
 generalize hN:t.ev.places.length=N at *
 conv=>whnf
 repeat' first|(refine zd ?_ ?_<;>intro h<;>first|exact zc h|(exfalso;omega)|conv=>whnf)|((first|refine zz ?_|refine a3s (by omega) (by omega) (by omega) (by decide) ?_|refine zy ?_);conv=>whnf)
 all_goals try (exfalso;omega)
 clear hI hlt hk
 refine f8 a7 (fun k=>([J,a9 .i64 kind,p8 (Z.map fz),S.c (C.t (T.ptr (trT t))),J,J,J,S.c (C.ptr 0 0 0),J,J,S.c (C.own 1 0 N true),J,J,J,J,J,J,J,J,J,J,J,J,J,J,J,J,J,J,J,J,J,J,J,J,J,J,J,J,J,J,J,J,J,J,J,J,J,J,J,J,a9 .i64 N,a9 .i64 k,J,J,J,J,J,J,J,J,J,J,J,J,J,J,J,J,J,J,J,J,J,J,J,J,J,J,J,J,J,J,J,J,J,J,J,J,J,J,J,J,J,J,J,J,J,J,J,J,J,J,J,J,J,J,J,J,J,J,J,J,J,J,J,J,J,J,J,J,J,J,J,J,J,J,J,J,J,J,J,J,J,J,J,J,J,J,J,J,J,J,J,J,J,J,J,J,J,J],[evB t.ev,b3A (a1m k N)])) N (fun _=>True) [some 0,some 1] trivial ?_ ?_
 ·refine ⟨rfl,rfl,⟨⟨rfl,rfl,rfl,.inl ⟨rfl,k6 _⟩⟩,⟨rfl,rfl,rfl,.inr ?_⟩,trivial⟩,⟨rfl,rfl,rfl,⟨rfl,rfl,rfl⟩,⟨rfl,rfl,?_,fun h=>h⟩,e7 (by omega),rfl,trivial⟩⟩
  ·have e9:((((t.ev.places.map I3.row).length:Nat):Int)).toNat=N:=by omega
   show a3k _ _ (List.replicate ((((t.ev.places.map I3.row).length:Nat):Int)).toNat _) _
   rw [e9]
   exact aF4
  ·omega
 intro k hk _
 by_cases hlt:k<N
 ·have eM:0+(k:Int).toNat=k:=by omega
  obtain ⟨pf,hpf⟩:∃pf,(a1m k N)[k]? =some pf:=⟨_,a3V hlt⟩
  have gp:(a1m k N)[0+(k:Int).toNat]? =some pf:=by rw [eM];exact hpf
  conv=>whnf
  repeat' first|(refine zd ?_ ?_<;>intro h<;>first|exact zc h|(exfalso;omega)|conv=>whnf)|((first|refine zz ?_|refine qp i0 ?_|refine o8 gp ?_|refine zy ?_);conv=>whnf)
  all_goals try (exfalso;omega)
  refine ⟨hlt,trivial,[some 0,some 1],rfl,rfl,⟨⟨rfl,rfl,rfl,.inl ⟨rfl,k6 _⟩⟩,b8 rfl rfl rfl ?_ rfl,trivial⟩,⟨rfl,rfl,rfl,⟨rfl,rfl,rfl⟩,⟨rfl,rfl,rfl,fun h=>h⟩,rfl,rfl,trivial⟩⟩
  have e:=b0E (row:=a1m k N) (y:=fz zR) eM
  rw [aV1 hlt] at e
  exact congrArg Blk.rows e
 have hke:k=N:=by omega
 subst hke
 conv=>whnf
 repeat' first|(refine zd ?_ ?_<;>intro h<;>first|exact zc h|(exfalso;omega)|conv=>whnf)|((first|refine zz ?_|refine qp kn ?_|refine zy ?_);conv=>whnf)
 all_goals try (exfalso;omega)
 clear hlt hk
 refine f8 a7 (fun j=>([J,J,p8 (Z.map fz),J,J,J,J,S.c (C.ptr 0 0 0),J,J,S.c (C.own 1 0 k true),J,J,J,J,J,J,J,J,J,J,J,J,J,J,J,J,J,J,J,J,J,J,J,J,J,J,J,J,J,J,J,J,J,J,J,J,J,J,J,J,J,J,J,J,J,J,J,J,J,J,J,S.c (C.t (a14 t kind)),a9 .i64 t.ev.moves.length,a9 .i64 j,J,J,J,J,J,J,J,J,J,J,J,J,J,J,J,J,J,J,J,J,J,J,J,J,J,J,J,J,J,J,J,J,J,J,J,J,J,J,J,J,J,J,J,J,J,J,J,J,J,J,J,J,J,J,J,J,J,J,J,J,J,J,J,J,J,J,J,J,J,J,J,J,J,J,J,J,J,J,J,J,J,J,J,J,J,J],[evB t.ev,b3A (a4t k (B3 t.ev Z j))])) t.ev.moves.length (fun j=>S7 t kind Z j (t.ev.moves.drop j)=S7 t kind Z 0 t.ev.moves) [some 0,some 1] rfl ?_ ?_
 ·refine ⟨rfl,rfl,⟨⟨rfl,rfl,rfl,.inl ⟨rfl,k6 _⟩⟩,b8 rfl rfl rfl ?_ rfl,trivial⟩,⟨rfl,⟨rfl,rfl,rfl⟩,⟨rfl,rfl,rfl,fun h=>h⟩,rfl,e7 (by simp),rfl,trivial⟩⟩
  rw [aV9]
  rfl
 intro j hj hI
 by_cases hlt:j<t.ev.moves.length
 ·obtain ⟨x,hx⟩:∃x,t.ev.moves[j]? =some x:=⟨_,lg0 hlt⟩
  have hmo:=F6 q1 (lg2 hx)
  have ms:=M3 hmo
  have md:=a8O hmo
  have hne:x.src≠x.dst:=by unfold F5 at hmo;simp only [Bool.and_eq_true,decide_eq_true_eq] at hmo;exact hmo.1.1.1.1.1.2
  obtain ⟨s,hsn⟩:∃s:Nat,x.src=s:=⟨x.src.toNat,by omega⟩
  obtain ⟨d,hdn⟩:∃d:Nat,x.dst=d:=⟨x.dst.toNat,by omega⟩
  have hsk:s<k:=by omega
  have hdk:d<k:=by omega
  have hsd:s≠d:=by omega
  obtain ⟨v,hv⟩:∃v,Z[j]? =some v:=⟨_,lg0 (by omega)⟩
  have hvd:Z.getD j 0=v:=by rw [lg3,hv];rfl
  have bv:=hZ v (lg2 hv)
  have bs:=aQ9 (e:=t.ev) hZ b4 (k:=j) (by omega) s
  have bd:=aQ9 (e:=t.ev) hZ b4 (k:=j) (by omega) d
  have cm:=a2u v (B3 t.ev Z j s) (by omega) (by omega)
  have sg:=a00 v (by omega)
  have sb:=aK6 (B3 t.ev Z j s) v (by omega) (by omega)
  have ad:=a2P (B3 t.ev Z j d) v (by omega) (by omega)
  have bn:=b48 t.ev q1 hx
  have al:=b0y (kind:=kind) hx q4 hs.f v bv
  have gk:(List.range t.ev.moves.length)[j]? =some j:=List.getElem?_range hlt
  have zk:=a12 Z hv
  have eS:0+x.src.toNat=s:=by omega
  have eD:0+x.dst.toNat=d:=by omega
  have xs:(a4t k (B3 t.ev Z j))[0+x.src.toNat]? =some (fz (B3 t.ev Z j s)):=by rw [eS];exact a5c hsk
  have xd:(a4t k (B3 t.ev Z j))[0+x.dst.toNat]? =some (fz (B3 t.ev Z j d)):=by rw [eD];exact a5c hdk
  have cg:=a55 (x:=v) (y:=B3 t.ev Z j s)
  have cz:=b01 (x:=v) (y:=B3 t.ev Z j s)
  have sn:=aS8 (x:=v)
  rw [W3 hx] at hI
  have hI:(if tAt t kind Z j x≠0 then tAt t kind Z j x else S7 t kind Z (j+1) (t.ev.moves.drop (j+1)))=S7 t kind Z 0 t.ev.moves:=hI
  have hta:tAt t kind Z j x=X8 t kind j x v (B3 t.ev Z j s):=by unfold tAt;rw [hvd,show x.src.toNat=s by omega]
  rw [hta] at hI
  have fin3:∀(c:Int) (H1:Hp),X8 t kind j x v (B3 t.ev Z j s)=c→c≠0→Fin 0 (a9 .i64 c) H1 (a9 .i64 (S7 t kind Z 0 t.ev.moves)) []:=fun c H1 h hc=>j5 (by rw [← hI,h,if_pos hc])
  generalize Y7 v (B3 t.ev Z j s)=U at cm cg cz
  generalize sgR v=W at sg sn
  have hse:0+x.src.toNat≠0+x.dst.toNat:=by omega
  have e0:ae7 t.ev x v (B3 t.ev Z j s)=if v<0 then 3 else if t7 t.ev x.src≠0∧B3 t.ev Z j s<v then 4 else if x.all=true∧v≠B3 t.ev Z j s then 7 else 0:=rfl
  by_cases c1:v<0
  ·have e3:X8 t kind j x v (B3 t.ev Z j s)=3:=by unfold X8;rw [e0,if_pos c1];rfl
   have w1:W<0:=sn.2 c1
   conv=>whnf
   repeat' first|(refine zd ?_ ?_<;>intro h<;>first|exact zc h|(exfalso;omega)|conv=>whnf)|((first|refine zz ?_|refine qp cm ?_|refine qp sg ?_|refine qp bn ?_|refine qp al ?_|refine qp sb ?_|refine qp ad ?_|refine qp 15 ?_|refine d9 hx ?_|refine d9 gk ?_|refine d9 zk ?_|refine o8 xs ?_|refine a1X hse xd ?_|refine bl0 [15] ?_|refine zy ?_);conv=>whnf)
   all_goals first
    |(exfalso;omega)
    |exact fin3 3 _ e3 (by decide)
  have w1:¬W<0:=fun h=>c1 (sn.1 h)
  rw [if_neg c1] at e0
  by_cases c2:t7 t.ev x.src≠0∧B3 t.ev Z j s<v
  ·have e3:X8 t kind j x v (B3 t.ev Z j s)=4:=by unfold X8;rw [e0,if_pos c2];rfl
   have w2:U > 0:=cg.2 c2.2
   rw [decide_eq_false c2.1] at bn
   conv=>whnf
   repeat' first|(refine zd ?_ ?_<;>intro h<;>first|exact zc h|(exfalso;omega)|conv=>whnf)|((first|refine zz ?_|refine qp cm ?_|refine qp sg ?_|refine qp bn ?_|refine qp al ?_|refine qp sb ?_|refine qp ad ?_|refine qp 15 ?_|refine d9 hx ?_|refine d9 gk ?_|refine d9 zk ?_|refine o8 xs ?_|refine a1X hse xd ?_|refine bl0 [15] ?_|refine zy ?_);conv=>whnf)
   all_goals first
    |(exfalso;omega)
    |exact fin3 4 _ e3 (by decide)
  rw [if_neg c2] at e0
  have w2:t7 t.ev x.src=0∨¬U > 0:=by
   by_cases h:t7 t.ev x.src=0
   ·exact .inl h
   ·exact .inr fun h'=>c2 ⟨h,cg.1 h'⟩
  by_cases c3:x.all=true∧v≠B3 t.ev Z j s
  ·have e3:X8 t kind j x v (B3 t.ev Z j s)=7:=by unfold X8;rw [e0,if_pos c3];rfl
   have w3:U≠0:=fun h=>c3.2 (cz.1 h)
   have w4:=c3.1
   by_cases hb:t7 t.ev x.src=0
   ·rw [decide_eq_true hb] at bn
    conv=>whnf
    repeat' first|(refine zd ?_ ?_<;>intro h<;>first|exact zc h|(exfalso;omega)|conv=>whnf)|((first|refine zz ?_|refine qp cm ?_|refine qp sg ?_|refine qp bn ?_|refine qp al ?_|refine qp sb ?_|refine qp ad ?_|refine qp 15 ?_|refine d9 hx ?_|refine d9 gk ?_|refine d9 zk ?_|refine o8 xs ?_|refine a1X hse xd ?_|refine bl0 [15] ?_|refine zy ?_);conv=>whnf)
    all_goals first
     |(exfalso;omega)
     |exact fin3 7 _ e3 (by decide)
     |(exfalso;simp_all;done)
   ·rw [decide_eq_false hb] at bn
    conv=>whnf
    repeat' first|(refine zd ?_ ?_<;>intro h<;>first|exact zc h|(exfalso;omega)|conv=>whnf)|((first|refine zz ?_|refine qp cm ?_|refine qp sg ?_|refine qp bn ?_|refine qp al ?_|refine qp sb ?_|refine qp ad ?_|refine qp 15 ?_|refine d9 hx ?_|refine d9 gk ?_|refine d9 zk ?_|refine o8 xs ?_|refine a1X hse xd ?_|refine bl0 [15] ?_|refine zy ?_);conv=>whnf)
    all_goals first
     |(exfalso;omega)
     |exact fin3 7 _ e3 (by decide)
     |(exfalso;simp_all;done)
  rw [if_neg c3] at e0
  have w3:x.all=false∨U=0:=by
   cases h:x.all with
   |false=>exact .inl rfl
   |true=>
    refine .inr (cz.2 ?_)
    by_cases h':v=B3 t.ev Z j s
    ·exact h'
    ·exact absurd ⟨h,h'⟩ c3
  have e3:X8 t kind j x v (B3 t.ev Z j s)=Z8 t kind j x v:=by unfold X8;rw [e0,if_neg (by simp)]
  have er:=b03 hx hvd hsn hdn hsk hdk hsd
  have bnx:b9 Tryz.prog 70 [evS t.ev,a9 .i64 j] [] (f7 (decide (t7 t.ev x.src=0))) []:=bn
  by_cases ha:Z8 t kind j x v≠0
  ·have fa:=fun H1=>fin3 _ H1 e3 ha
   generalize Z8 t kind j x v=Q at al ha fa
   rcases w3 with w3|w3
   all_goals
    by_cases hb:t7 t.ev x.src=0
    case' pos=>rw [decide_eq_true hb] at bn
    case' neg=>rw [decide_eq_false hb] at bn
    all_goals
     conv=>whnf
     repeat' first|(refine zd ?_ ?_<;>intro h<;>first|exact zc h|(exfalso;omega)|conv=>whnf)|((first|refine zz ?_|refine qp cm ?_|refine qp sg ?_|refine qp bn ?_|refine qp al ?_|refine qp sb ?_|refine qp ad ?_|refine qp 15 ?_|refine d9 hx ?_|refine d9 gk ?_|refine d9 zk ?_|refine o8 xs ?_|refine a1X hse xd ?_|refine bl0 [15] ?_|refine zy ?_);conv=>whnf)
     all_goals first
      |(exfalso;omega)
      |exact fa _
      |(exfalso;simp_all;done)
  ·have ha:Z8 t kind j x v=0:=by omega
   rw [e3,ha,if_neg (by simp)] at hI
   rw [ha] at al
   have nxt:((toC ((a4t k (B3 t.ev Z j)).map m6)).set (0+x.src.toNat) (frC (fz (B3 t.ev Z j s - v)))).set (0+x.dst.toNat) (frC (fz (B3 t.ev Z j d+v)))=toC ((a4t k (B3 t.ev Z (j+1))).map m6):=by
    rw [aA3,aA3,eS,eD,er]
   rcases w3 with w3|w3
   all_goals
    by_cases hb:t7 t.ev x.src=0
    case' pos=>rw [decide_eq_true hb] at bn
    case' neg=>rw [decide_eq_false hb] at bn
    all_goals
     conv=>whnf
     repeat' first|(refine zd ?_ ?_<;>intro h<;>first|exact zc h|(exfalso;omega)|conv=>whnf)|((first|refine zz ?_|refine qp cm ?_|refine qp sg ?_|refine qp bn ?_|refine qp al ?_|refine qp sb ?_|refine qp ad ?_|refine qp 15 ?_|refine d9 hx ?_|refine d9 gk ?_|refine d9 zk ?_|refine o8 xs ?_|refine a1X hse xd ?_|refine bl0 [15] ?_|refine zy ?_);conv=>whnf)
     all_goals first
      |(exfalso;omega)
      |exact ⟨hlt,hI,[some 0,some 1],rfl,rfl,⟨⟨rfl,rfl,rfl,.inl ⟨rfl,k6 _⟩⟩,b8 rfl rfl rfl nxt rfl,trivial⟩,⟨rfl,⟨rfl,rfl,rfl⟩,⟨rfl,rfl,rfl,fun h=>h⟩,rfl,rfl,rfl,trivial⟩⟩
      |(exfalso;simp_all;done)
 ·rw [List.drop_of_length_le (by omega)] at hI
  have hI:0=S7 t kind Z 0 t.ev.moves:=hI
  conv=>whnf
  repeat' first|(refine zd ?_ ?_<;>intro h<;>first|exact zc h|(exfalso;omega)|conv=>whnf)|((first|refine zz ?_|refine zy ?_);conv=>whnf)
  all_goals first
   |(exfalso;omega)
   |exact j5 hI
end
section
open Go.RowKit
theorem a01 {H:Hp} {id len:Nat} {n:Int} {rows:List B2} {rs:List (List C)} {f:Fr} {v:Rat} (hf:f=fz v) (hs:H[2]? =some (a2O n id len)) (hid:H[id]? =some { mode:=.live,elem:=143,size:=6,rows:=rs,box:=false })
 (hlen:len=rows.length) (hrs:rs=toC (rows.map y4)) (hne:id≠2) (hr:rows.length≤1000000) (mv:Nat) (kind:Int):
 b9 Tryz.prog 128 [a9 .i64 mv,a9 .i64 kind,frS f,.c (.ptr 2 0 0)] H (.tup []) (((H.set 2 (a2O n H.length (rows.length+1))).set id (aP1 143 6))++[U6 (rows++[s9 mv kind v])]):=by
 subst hf;subst hlen;subst hrs;exact b4N hs hid hne hr mv kind v
theorem a4X {t:g9} {kind:Int} {k:Nat} (hk:k≤200) (hf:t.finds.length≤20) (hc:t.cleans.length≤50):(p5 t kind k).length≤14400:=by
 have h1:=a1g (t:=t) (kind:=kind) k
 have h2:=Nat.mul_le_mul hk (show 2+t.finds.length+t.cleans.length≤72 by omega)
 omega
abbrev ai6 (t:g9) (kind:Int) (i:Nat):Blk:={ mode:=.live,elem:=119,size:=7,rows:=[(Q0 t kind i).map .t],box:=true }
theorem P8 {ρ:List (Option Nat)} {H:Hp}:∀rows:List (List T),a3k ρ H (rows.map (·.map C.t)) (rows.map (·.map C.t))
 |[]=>trivial
 |r::rs=>⟨N5 r,P8 rs⟩
def a1B (t:g9) (kind:Int):Int:=if m8 t≠0∨kind<0∨8≤kind then 1 else 0
def a6d (t:g9) (kind:Int):i8:=if m8 t≠0∨kind<0∨8≤kind then ⟨0,[]⟩ else f9 t kind
abbrev a5e:FuncId:=128
abbrev a1V:Blk:={ mode:=.live,elem:=70,size:=2,rows:=[[.t (ti 0),.t (M5 [])]],box:=true }
set_option maxHeartbeats 4000000 in
theorem a8w (t:g9) (kind:Int) (hs:t.Sized):b9 Tryz.prog 60 [trS t,a9 .i64 kind] [] (.tup [U9 (a6d t kind),a9 .i64 (a1B t kind)]) []:=by
 have ck:=a1E t hs
 have m2:(t.ev.moves.map n6.row).length=t.ev.moves.length:=by simp
 by_cases h1:m8 t≠0∨kind<0∨8≤kind
 ·have e1:a1B t kind=1:=by unfold a1B;rw [if_pos h1]
  have e2:a6d t kind=⟨0,[]⟩:=by unfold a6d;rw [if_pos h1]
  rw [e1,e2]
  (refine a8 a7 Tryz.func60 rfl (by decide) ?_;(conv=>whnf);repeat ((first|refine b0x ?_|refine zy ?_);conv=>whnf))
  repeat' first|(refine zd ?_ ?_<;>intro h<;>first|exact zc h|(exfalso;omega)|conv=>whnf)|((first|refine zz ?_|refine qp ck ?_|refine zy ?_);conv=>whnf)
  all_goals first
   |(exfalso;omega)
   |exact k8 ⟨⟨rfl,rfl,trivial⟩,rfl,trivial⟩
 have e1:a1B t kind=0:=by unfold a1B;rw [if_neg h1]
 have e2:a6d t kind=f9 t kind:=by unfold a6d;rw [if_neg h1]
 rw [e1,e2]
 obtain ⟨k1,k2,k3⟩:m8 t=0∧0≤kind∧kind<8:=by omega
 rw [k1] at ck
 clear h1 e1 e2
 obtain ⟨q1,q2,q3,q4,q5⟩:=z4 k1
 obtain ⟨b1,b2,b3,b4⟩:=P6 q1
 have kn:=aN2 t kind hs q1 (fun f hf=>by have:=K2 q4 f hf;omega) (fun c hc=>a2Z q5 c hc)
 (refine a8 a7 Tryz.func60 rfl (by decide) ?_;(conv=>whnf);repeat ((first|refine b0x ?_|refine zy ?_);conv=>whnf))
 repeat' first|(refine zd ?_ ?_<;>intro h<;>first|exact zc h|(exfalso;omega)|conv=>whnf)|((first|refine zz ?_|refine qp ck ?_|refine qp kn ?_|refine zy ?_);conv=>whnf)
 all_goals try (exfalso;omega)
 refine f8 a7 (fun k=>([J,J,J,J,S.c (C.ptr 0 0 0),J,S.c (C.ptr 1 0 0),S.c (C.ptr 2 0 0),S.c (C.fn (Fn.func a5e) [C.ptr 2 0 0]),J,J,J,J,J,J,J,J,J,J,J,J,J,J,J,J,J,J,J,J,J,J,J,J,J,S.c (C.t (a14 t kind)),a9 .i64 t.ev.moves.length,a9 .i64 k,J,J,J,J,J,J,J,J,J,J,J,J,J,J,J,J,J,J,J,J,J,J,J,J,J,J,J,J,J,J,J,J,J,J,J,J,J,J,J,J,J,J,J,J,J,J,J],[a1V,evB t.ev,a2O t.ev.moves.length 3 (p5 t kind k).length,U6 (p5 t kind k)])) t.ev.moves.length (fun _=>True) [some 0,some 1,some 2,none] trivial ?_ ?_
 ·refine ⟨rfl,rfl,⟨⟨rfl,rfl,rfl,.inr ⟨⟨rfl,rfl,trivial⟩,trivial⟩⟩,⟨rfl,rfl,rfl,.inl ⟨rfl,k6 _⟩⟩,⟨rfl,rfl,rfl,.inr ⟨⟨?_,⟨rfl,rfl,rfl⟩,trivial⟩,trivial⟩⟩,⟨rfl,rfl⟩,trivial⟩,⟨⟨rfl,rfl,rfl⟩,⟨rfl,rfl,rfl⟩,⟨rfl,rfl,rfl⟩,⟨rfl,⟨rfl,rfl,rfl⟩,trivial⟩,rfl,e7 (by simp),rfl,trivial⟩⟩
  exact a7J (by rw [m2])
 intro k hk _
 by_cases hlt:k<t.ev.moves.length
 ·obtain ⟨x,hx⟩:∃x,t.ev.moves[k]? =some x:=⟨_,lg0 hlt⟩
  have bn:=b48 t.ev q1 hx
  have st:=b3F t.ev q1 hx
  have gk:(List.range t.ev.moves.length)[k]? =some k:=List.getElem?_range hlt
  have iv:W8 t.ev k=D7 t.ev x:=a63 hx
  have rl0:=a4X (t:=t) (kind:=kind) (k:=k) (by omega) q2 q3
  have gl:(i6 t.finds kind k).length≤20:=by unfold i6;rw [List.length_map];exact Nat.le_trans (List.length_filter_le _ _) q2
  have cl:j9 t.cleans kind k≤50:=Nat.le_trans (List.length_filter_le _ _) q3
  have i0:=G9 0 (by decide) (by decide)
  obtain ⟨R1,hR1⟩:∃R1:List B2,R1=p5 t kind k++(if t7 t.ev x.src=0 then [] else [t4 t.ev k x])++K6 (D7 t.ev x) k:=⟨_,rfl⟩
  have l5:(p5 t kind k).length+1=(p5 t kind k++[t4 t.ev k x]).length:=by simp
  have r5:List.take (p5 t kind k).length (toC ((p5 t kind k).map y4))++toC [y4 (t4 t.ev k x)]=toC ((p5 t kind k++[t4 t.ev k x]).map y4):=a0t rfl
  have b5:(p5 t kind k++[t4 t.ev k x]).length≤1000000:=by simp;omega
  have b3:(p5 t kind k).length≤1000000:=by omega
  obtain ⟨G,hG⟩:∃G:Nat→List B2,∀j,G j=R1++((i6 t.finds kind k).take j).map (fun g:Int=>s9 k 0 (g:Rat)):=⟨_,fun _=>rfl⟩
  obtain ⟨K,hK⟩:∃K:Nat→List B2,∀j,K j=(R1++(i6 t.finds kind k).map (fun g:Int=>s9 k 0 (g:Rat)))++List.replicate j (s9 k 2 ((0:Int):Rat)):=⟨_,fun _=>rfl⟩
  have hG0:G 0=R1:=by rw [hG];simp
  have hK0:K 0=R1++(i6 t.finds kind k).map (fun g:Int=>s9 k 0 (g:Rat)):=by rw [hK];simp
  have hKe:p5 t kind (k+1)=K (j9 t.cleans kind k):=by
   rw [hK,hR1]
   show (match t.ev.moves[k]? with|none=>p5 t kind k|some x=>p5 t kind k++H3 t kind k x)=_
   rw [hx]
   unfold H3
   simp [List.append_assoc]
  have hKs:toC ((K (j9 t.cleans kind k)).map y4)=toC ((p5 t kind (k+1)).map y4)∧(K (j9 t.cleans kind k)).length=(p5 t kind (k+1)).length:=by rw [hKe];exact ⟨rfl,rfl⟩
  have hgr:∀g ∈ i6 t.finds kind k,1≤g∧g≤1099511627776:=fun g hg=>by
   unfold i6 at hg
   obtain ⟨f,hf,rfl⟩:=List.mem_map.1 hg
   have:=K2 q4 f (List.mem_filter.1 hf).1
   omega
  have hcr:K6 (D7 t.ev x) k=if (D7 t.ev x).isSome then [s9 k 1 (hiR (D7 t.ev x))] else []:=by cases D7 t.ev x<;>rfl
  cases hc:(D7 t.ev x).isSome<;>cases hb:decide (t7 t.ev x.src=0)<;>rw [hb] at bn
  ·have hci:(W8 t.ev k).isSome=false:=by rw [iv];exact hc
   rw [hc] at hcr
   have hcr:K6 (D7 t.ev x) k=[]:=hcr
   have eR:R1=p5 t kind k++[t4 t.ev k x]:=by rw [hR1,hcr];simp only [decide_eq_false_iff_not,decide_eq_true_eq] at hb;simp [hb,List.append_assoc]
   have hRl:R1.length≤14500:=by rw [eR];(try simp);omega
   conv=>whnf
   repeat' first|(refine zd ?_ ?_<;>intro h<;>first|exact zc h|(exfalso;omega)|conv=>whnf)|((first|refine zz ?_|refine qp bn ?_|refine qp st ?_|refine qp toC ?_|refine qp toC ?_|refine d9 gk ?_|refine v7 (by simp [toC]) (by simp [toC];omega) ?_|refine zy ?_);conv=>whnf)
   all_goals try (exfalso;omega)
   all_goals try (rw [hci] at h;exact absurd h (by decide))
   refine f8 a7 (fun j=>([J,J,J,J,S.c (C.ptr 0 0 0),J,S.c (C.ptr 1 0 0),S.c (C.ptr 2 0 0),S.c (C.fn (Fn.func a5e) [C.ptr 2 0 0]),a9 .i64 k,S.c (C.ptr 4 0 0),J,J,J,J,J,J,J,J,J,J,J,J,J,J,J,J,J,J,J,J,J,J,J,S.c (C.t (a14 t kind)),a9 .i64 t.ev.moves.length,a9 .i64 k,J,J,J,J,J,J,J,J,J,J,J,J,J,J,J,J,J,J,J,J,J,J,J,J,S.c (C.t (J0 (i6 t.finds kind k))),a9 .i64 (i6 t.finds kind k).length,a9 .i64 j,J,J,J,J,J,J,J,J,J,J,J,J,J,J,J,J,J,J,J,J],[a1V,evB t.ev,a2O t.ev.moves.length 3 (G j).length,U6 (G j),ai6 t kind k])) (i6 t.finds kind k).length (fun _=>True) [some 0,some 1,some 2,some 5,some 4] trivial ⟨rfl,rfl,⟨⟨rfl,rfl,rfl,.inr ⟨⟨rfl,rfl,trivial⟩,trivial⟩⟩,⟨rfl,rfl,rfl,.inl ⟨rfl,k6 _⟩⟩,⟨rfl,rfl,rfl,.inr ⟨⟨rfl,⟨rfl,rfl,?_,fun h=>h⟩,trivial⟩,trivial⟩⟩,b8 rfl rfl rfl ?_ rfl,⟨rfl,rfl,rfl,.inr (P8 [Q0 t kind k])⟩,trivial⟩,⟨⟨rfl,rfl,rfl⟩,⟨rfl,rfl,rfl⟩,⟨rfl,rfl,rfl⟩,⟨rfl,⟨rfl,rfl,rfl⟩,trivial⟩,rfl,⟨rfl,rfl,rfl⟩,rfl,rfl,rfl,rfl,e7 (by simp),rfl,trivial⟩⟩ ?_
   ·simp [hG0,eR,toC]
   ·rw [hG0,eR];exact r5
   intro j hj _
   have hGl:(G j).length≤1000000:=by rw [hG];simp [List.length_append];omega
   by_cases hjt:j<(i6 t.finds kind k).length
   ·obtain ⟨g,hg⟩:∃g,(i6 t.finds kind k)[j]? =some g:=⟨_,lg0 hjt⟩
    have gb:=hgr g (lg2 hg)
    have ig:=G9 g (by omega) (by omega)
    have eG:G (j+1)=G j++[s9 k 0 (g:Rat)]:=by rw [hG,hG,List.take_add_one,hg];simp
    conv=>whnf
    repeat' first|(refine zd ?_ ?_<;>intro h<;>first|exact zc h|(exfalso;omega)|conv=>whnf)|((first|refine zz ?_|refine qp ig ?_|refine d9 hg ?_|refine .inr ⟨_,_,a01 (id:=3) rfl rfl rfl rfl rfl (by decide) hGl _ _,?_⟩|refine zy ?_);conv=>whnf)
    all_goals try (exfalso;omega)
    refine ⟨hjt,trivial,[some 0,some 1,some 2,some 5,some 4],rfl,rfl,⟨⟨rfl,rfl,rfl,.inr ⟨⟨rfl,rfl,trivial⟩,trivial⟩⟩,⟨rfl,rfl,rfl,.inl ⟨rfl,k6 _⟩⟩,⟨rfl,rfl,rfl,.inr ⟨⟨rfl,⟨rfl,rfl,?_,fun h=>h⟩,trivial⟩,trivial⟩⟩,b8 rfl rfl rfl ?_ rfl,⟨rfl,rfl,rfl,.inr (P8 [Q0 t kind k])⟩,trivial⟩,⟨⟨rfl,rfl,rfl⟩,⟨rfl,rfl,rfl⟩,⟨rfl,rfl,rfl⟩,⟨rfl,⟨rfl,rfl,rfl⟩,trivial⟩,rfl,⟨rfl,rfl,rfl⟩,rfl,rfl,rfl,rfl,rfl,rfl,trivial⟩⟩
    ·rw [eG];simp
    ·rw [eG]
   have hje:j=(i6 t.finds kind k).length:=by omega
   subst hje
   have hGe:G (i6 t.finds kind k).length=R1++(i6 t.finds kind k).map (fun g:Int=>s9 k 0 (g:Rat)):=by rw [hG,lg4 (Nat.le_refl _)]
   conv=>whnf
   repeat' first|(refine zd ?_ ?_<;>intro h<;>first|exact zc h|(exfalso;omega)|conv=>whnf)|((first|refine zz ?_|refine zy ?_);conv=>whnf)
   all_goals try (exfalso;omega)
   refine f8 a7 (fun j=>([J,J,J,J,S.c (C.ptr 0 0 0),J,S.c (C.ptr 1 0 0),S.c (C.ptr 2 0 0),S.c (C.fn (Fn.func a5e) [C.ptr 2 0 0]),a9 .i64 k,J,J,J,J,J,J,J,J,J,J,J,J,J,J,J,J,J,J,J,J,J,J,J,J,S.c (C.t (a14 t kind)),a9 .i64 t.ev.moves.length,a9 .i64 k,J,J,J,J,J,J,J,J,J,J,J,J,J,J,J,J,J,J,J,J,J,J,J,J,J,J,J,J,J,J,J,J,J,J,J,J,J,a9 .i64 (j9 t.cleans kind k),a9 .i64 j,J,J,J,J,J,J,J,J],[a1V,evB t.ev,a2O t.ev.moves.length 3 (K j).length,U6 (K j)])) (j9 t.cleans kind k) (fun _=>True) [some 0,some 1,some 2,some 3] trivial ⟨rfl,rfl,⟨⟨rfl,rfl,rfl,.inr ⟨⟨rfl,rfl,trivial⟩,trivial⟩⟩,⟨rfl,rfl,rfl,.inl ⟨rfl,k6 _⟩⟩,⟨rfl,rfl,rfl,.inr ⟨⟨rfl,⟨rfl,rfl,?_,fun h=>h⟩,trivial⟩,trivial⟩⟩,b8 rfl rfl rfl ?_ rfl,trivial⟩,⟨⟨rfl,rfl,rfl⟩,⟨rfl,rfl,rfl⟩,⟨rfl,rfl,rfl⟩,⟨rfl,⟨rfl,rfl,rfl⟩,trivial⟩,rfl,rfl,rfl,rfl,rfl,rfl,trivial⟩⟩ ?_
   ·rw [hK0,hGe]
   ·rw [hK0,hGe]
   clear hj hjt
   intro j hj _
   have hKl:(K j).length≤1000000:=by rw [hK];simp [List.length_append];omega
   by_cases hjt:j<j9 t.cleans kind k
   ·have eK:K (j+1)=K j++[s9 k 2 ((0:Int):Rat)]:=by rw [hK,hK,List.replicate_succ'];simp
    conv=>whnf
    repeat' first|(refine zd ?_ ?_<;>intro h<;>first|exact zc h|(exfalso;omega)|conv=>whnf)|((first|refine zz ?_|refine qp i0 ?_|refine .inr ⟨_,_,a01 (id:=3) rfl rfl rfl rfl rfl (by decide) hKl _ _,?_⟩|refine zy ?_);conv=>whnf)
    all_goals try (exfalso;omega)
    refine ⟨hjt,trivial,[some 0,some 1,some 2,some 4],rfl,rfl,⟨⟨rfl,rfl,rfl,.inr ⟨⟨rfl,rfl,trivial⟩,trivial⟩⟩,⟨rfl,rfl,rfl,.inl ⟨rfl,k6 _⟩⟩,⟨rfl,rfl,rfl,.inr ⟨⟨rfl,⟨rfl,rfl,?_,fun h=>h⟩,trivial⟩,trivial⟩⟩,b8 rfl rfl rfl ?_ rfl,trivial⟩,⟨⟨rfl,rfl,rfl⟩,⟨rfl,rfl,rfl⟩,⟨rfl,rfl,rfl⟩,⟨rfl,⟨rfl,rfl,rfl⟩,trivial⟩,rfl,rfl,rfl,rfl,rfl,rfl,trivial⟩⟩
    ·rw [eK];simp
    ·rw [eK]
   have hje:j=j9 t.cleans kind k:=by omega
   subst hje
   conv=>whnf
   repeat' first|(refine zd ?_ ?_<;>intro h<;>first|exact zc h|(exfalso;omega)|conv=>whnf)|((first|refine zz ?_|refine zy ?_);conv=>whnf)
   all_goals try (exfalso;omega)
   exact ⟨hlt,trivial,[some 0,some 1,some 2,some 3],rfl,rfl,⟨⟨rfl,rfl,rfl,.inr ⟨⟨rfl,rfl,trivial⟩,trivial⟩⟩,⟨rfl,rfl,rfl,.inl ⟨rfl,k6 _⟩⟩,⟨rfl,rfl,rfl,.inr ⟨⟨rfl,⟨rfl,rfl,hKs.2,fun h=>h⟩,trivial⟩,trivial⟩⟩,b8 rfl rfl rfl hKs.1 rfl,trivial⟩,⟨⟨rfl,rfl,rfl⟩,⟨rfl,rfl,rfl⟩,⟨rfl,rfl,rfl⟩,⟨rfl,⟨rfl,rfl,rfl⟩,trivial⟩,rfl,rfl,rfl,trivial⟩⟩
  ·have hci:(W8 t.ev k).isSome=false:=by rw [iv];exact hc
   rw [hc] at hcr
   have hcr:K6 (D7 t.ev x) k=[]:=hcr
   have eR:R1=p5 t kind k:=by rw [hR1,hcr];simp only [decide_eq_false_iff_not,decide_eq_true_eq] at hb;simp [hb,List.append_assoc]
   have hRl:R1.length≤14500:=by rw [eR];(try simp);omega
   conv=>whnf
   repeat' first|(refine zd ?_ ?_<;>intro h<;>first|exact zc h|(exfalso;omega)|conv=>whnf)|((first|refine zz ?_|refine qp bn ?_|refine qp st ?_|refine qp toC ?_|refine qp toC ?_|refine d9 gk ?_|refine v7 (by simp [toC]) (by simp [toC];omega) ?_|refine zy ?_);conv=>whnf)
   all_goals try (exfalso;omega)
   all_goals try (rw [hci] at h;exact absurd h (by decide))
   refine f8 a7 (fun j=>([J,J,J,J,S.c (C.ptr 0 0 0),J,S.c (C.ptr 1 0 0),S.c (C.ptr 2 0 0),S.c (C.fn (Fn.func a5e) [C.ptr 2 0 0]),a9 .i64 k,S.c (C.ptr 4 0 0),J,J,J,J,J,J,J,J,J,J,J,J,J,J,J,J,J,J,J,J,J,J,J,S.c (C.t (a14 t kind)),a9 .i64 t.ev.moves.length,a9 .i64 k,J,J,J,J,J,J,J,J,J,J,J,J,J,J,J,J,J,J,J,J,J,J,J,J,S.c (C.t (J0 (i6 t.finds kind k))),a9 .i64 (i6 t.finds kind k).length,a9 .i64 j,J,J,J,J,J,J,J,J,J,J,J,J,J,J,J,J,J,J,J,J],[a1V,evB t.ev,a2O t.ev.moves.length 3 (G j).length,U6 (G j),ai6 t kind k])) (i6 t.finds kind k).length (fun _=>True) [some 0,some 1,some 2,some 3,some 4] trivial ⟨rfl,rfl,⟨⟨rfl,rfl,rfl,.inr ⟨⟨rfl,rfl,trivial⟩,trivial⟩⟩,⟨rfl,rfl,rfl,.inl ⟨rfl,k6 _⟩⟩,⟨rfl,rfl,rfl,.inr ⟨⟨rfl,⟨rfl,rfl,?_,fun h=>h⟩,trivial⟩,trivial⟩⟩,b8 rfl rfl rfl ?_ rfl,⟨rfl,rfl,rfl,.inr (P8 [Q0 t kind k])⟩,trivial⟩,⟨⟨rfl,rfl,rfl⟩,⟨rfl,rfl,rfl⟩,⟨rfl,rfl,rfl⟩,⟨rfl,⟨rfl,rfl,rfl⟩,trivial⟩,rfl,⟨rfl,rfl,rfl⟩,rfl,rfl,rfl,rfl,e7 (by simp),rfl,trivial⟩⟩ ?_
   ·simp [hG0,eR,toC]
   ·rw [hG0,eR]<;>rfl
   intro j hj _
   have hGl:(G j).length≤1000000:=by rw [hG];simp [List.length_append];omega
   by_cases hjt:j<(i6 t.finds kind k).length
   ·obtain ⟨g,hg⟩:∃g,(i6 t.finds kind k)[j]? =some g:=⟨_,lg0 hjt⟩
    have gb:=hgr g (lg2 hg)
    have ig:=G9 g (by omega) (by omega)
    have eG:G (j+1)=G j++[s9 k 0 (g:Rat)]:=by rw [hG,hG,List.take_add_one,hg];simp
    conv=>whnf
    repeat' first|(refine zd ?_ ?_<;>intro h<;>first|exact zc h|(exfalso;omega)|conv=>whnf)|((first|refine zz ?_|refine qp ig ?_|refine d9 hg ?_|refine .inr ⟨_,_,a01 (id:=3) rfl rfl rfl rfl rfl (by decide) hGl _ _,?_⟩|refine zy ?_);conv=>whnf)
    all_goals try (exfalso;omega)
    refine ⟨hjt,trivial,[some 0,some 1,some 2,some 5,some 4],rfl,rfl,⟨⟨rfl,rfl,rfl,.inr ⟨⟨rfl,rfl,trivial⟩,trivial⟩⟩,⟨rfl,rfl,rfl,.inl ⟨rfl,k6 _⟩⟩,⟨rfl,rfl,rfl,.inr ⟨⟨rfl,⟨rfl,rfl,?_,fun h=>h⟩,trivial⟩,trivial⟩⟩,b8 rfl rfl rfl ?_ rfl,⟨rfl,rfl,rfl,.inr (P8 [Q0 t kind k])⟩,trivial⟩,⟨⟨rfl,rfl,rfl⟩,⟨rfl,rfl,rfl⟩,⟨rfl,rfl,rfl⟩,⟨rfl,⟨rfl,rfl,rfl⟩,trivial⟩,rfl,⟨rfl,rfl,rfl⟩,rfl,rfl,rfl,rfl,rfl,rfl,trivial⟩⟩
    ·rw [eG];simp
    ·rw [eG]
   have hje:j=(i6 t.finds kind k).length:=by omega
   subst hje
   have hGe:G (i6 t.finds kind k).length=R1++(i6 t.finds kind k).map (fun g:Int=>s9 k 0 (g:Rat)):=by rw [hG,lg4 (Nat.le_refl _)]
   conv=>whnf
   repeat' first|(refine zd ?_ ?_<;>intro h<;>first|exact zc h|(exfalso;omega)|conv=>whnf)|((first|refine zz ?_|refine zy ?_);conv=>whnf)
   all_goals try (exfalso;omega)
   refine f8 a7 (fun j=>([J,J,J,J,S.c (C.ptr 0 0 0),J,S.c (C.ptr 1 0 0),S.c (C.ptr 2 0 0),S.c (C.fn (Fn.func a5e) [C.ptr 2 0 0]),a9 .i64 k,J,J,J,J,J,J,J,J,J,J,J,J,J,J,J,J,J,J,J,J,J,J,J,J,S.c (C.t (a14 t kind)),a9 .i64 t.ev.moves.length,a9 .i64 k,J,J,J,J,J,J,J,J,J,J,J,J,J,J,J,J,J,J,J,J,J,J,J,J,J,J,J,J,J,J,J,J,J,J,J,J,J,a9 .i64 (j9 t.cleans kind k),a9 .i64 j,J,J,J,J,J,J,J,J],[a1V,evB t.ev,a2O t.ev.moves.length 3 (K j).length,U6 (K j)])) (j9 t.cleans kind k) (fun _=>True) [some 0,some 1,some 2,some 3] trivial ⟨rfl,rfl,⟨⟨rfl,rfl,rfl,.inr ⟨⟨rfl,rfl,trivial⟩,trivial⟩⟩,⟨rfl,rfl,rfl,.inl ⟨rfl,k6 _⟩⟩,⟨rfl,rfl,rfl,.inr ⟨⟨rfl,⟨rfl,rfl,?_,fun h=>h⟩,trivial⟩,trivial⟩⟩,b8 rfl rfl rfl ?_ rfl,trivial⟩,⟨⟨rfl,rfl,rfl⟩,⟨rfl,rfl,rfl⟩,⟨rfl,rfl,rfl⟩,⟨rfl,⟨rfl,rfl,rfl⟩,trivial⟩,rfl,rfl,rfl,rfl,rfl,rfl,trivial⟩⟩ ?_
   ·rw [hK0,hGe]
   ·rw [hK0,hGe]
   clear hj hjt
   intro j hj _
   have hKl:(K j).length≤1000000:=by rw [hK];simp [List.length_append];omega
   by_cases hjt:j<j9 t.cleans kind k
   ·have eK:K (j+1)=K j++[s9 k 2 ((0:Int):Rat)]:=by rw [hK,hK,List.replicate_succ'];simp
    conv=>whnf
    repeat' first|(refine zd ?_ ?_<;>intro h<;>first|exact zc h|(exfalso;omega)|conv=>whnf)|((first|refine zz ?_|refine qp i0 ?_|refine .inr ⟨_,_,a01 (id:=3) rfl rfl rfl rfl rfl (by decide) hKl _ _,?_⟩|refine zy ?_);conv=>whnf)
    all_goals try (exfalso;omega)
    refine ⟨hjt,trivial,[some 0,some 1,some 2,some 4],rfl,rfl,⟨⟨rfl,rfl,rfl,.inr ⟨⟨rfl,rfl,trivial⟩,trivial⟩⟩,⟨rfl,rfl,rfl,.inl ⟨rfl,k6 _⟩⟩,⟨rfl,rfl,rfl,.inr ⟨⟨rfl,⟨rfl,rfl,?_,fun h=>h⟩,trivial⟩,trivial⟩⟩,b8 rfl rfl rfl ?_ rfl,trivial⟩,⟨⟨rfl,rfl,rfl⟩,⟨rfl,rfl,rfl⟩,⟨rfl,rfl,rfl⟩,⟨rfl,⟨rfl,rfl,rfl⟩,trivial⟩,rfl,rfl,rfl,rfl,rfl,rfl,trivial⟩⟩
    ·rw [eK];simp
    ·rw [eK]
   have hje:j=j9 t.cleans kind k:=by omega
   subst hje
   conv=>whnf
   repeat' first|(refine zd ?_ ?_<;>intro h<;>first|exact zc h|(exfalso;omega)|conv=>whnf)|((first|refine zz ?_|refine zy ?_);conv=>whnf)
   all_goals try (exfalso;omega)
   exact ⟨hlt,trivial,[some 0,some 1,some 2,some 3],rfl,rfl,⟨⟨rfl,rfl,rfl,.inr ⟨⟨rfl,rfl,trivial⟩,trivial⟩⟩,⟨rfl,rfl,rfl,.inl ⟨rfl,k6 _⟩⟩,⟨rfl,rfl,rfl,.inr ⟨⟨rfl,⟨rfl,rfl,hKs.2,fun h=>h⟩,trivial⟩,trivial⟩⟩,b8 rfl rfl rfl hKs.1 rfl,trivial⟩,⟨⟨rfl,rfl,rfl⟩,⟨rfl,rfl,rfl⟩,⟨rfl,rfl,rfl⟩,⟨rfl,⟨rfl,rfl,rfl⟩,trivial⟩,rfl,rfl,rfl,trivial⟩⟩
  ·have hci:(W8 t.ev k).isSome=true:=by rw [iv];exact hc
   rw [hc] at hcr
   have hcr:K6 (D7 t.ev x) k=[s9 k 1 (hiR (D7 t.ev x))]:=hcr
   have eR:R1=(p5 t kind k++[t4 t.ev k x])++[s9 k 1 (hiR (D7 t.ev x))]:=by rw [hR1,hcr];simp only [decide_eq_false_iff_not,decide_eq_true_eq] at hb;simp [hb,List.append_assoc]
   have hRl:R1.length≤14500:=by rw [eR];(try simp);omega
   have hfv:hiF (W8 t.ev k)=fz (hiR (D7 t.ev x)):=by rw [iv];exact (a3b hc).1
   conv=>whnf
   repeat' first|(refine zd ?_ ?_<;>intro h<;>first|exact zc h|(exfalso;omega)|conv=>whnf)|((first|refine zz ?_|refine qp bn ?_|refine qp st ?_|refine qp toC ?_|refine qp toC ?_|refine d9 gk ?_|refine v7 (by simp [toC]) (by simp [toC];omega) ?_|refine .inr ⟨_,_,a01 (id:=5) hfv rfl rfl l5 r5 (by decide) b5 _ _,?_⟩|refine zy ?_);conv=>whnf)
   all_goals try (exfalso;omega)
   all_goals try (rw [hci] at h;exact absurd h (by decide))
   refine f8 a7 (fun j=>([J,J,J,J,S.c (C.ptr 0 0 0),J,S.c (C.ptr 1 0 0),S.c (C.ptr 2 0 0),S.c (C.fn (Fn.func a5e) [C.ptr 2 0 0]),a9 .i64 k,S.c (C.ptr 4 0 0),J,J,J,J,J,J,J,J,J,J,J,J,J,J,J,J,J,J,J,J,J,J,J,S.c (C.t (a14 t kind)),a9 .i64 t.ev.moves.length,a9 .i64 k,J,J,J,J,J,J,J,J,J,J,J,J,J,J,J,J,J,J,J,J,J,J,J,J,S.c (C.t (J0 (i6 t.finds kind k))),a9 .i64 (i6 t.finds kind k).length,a9 .i64 j,J,J,J,J,J,J,J,J,J,J,J,J,J,J,J,J,J,J,J,J],[a1V,evB t.ev,a2O t.ev.moves.length 3 (G j).length,U6 (G j),ai6 t kind k])) (i6 t.finds kind k).length (fun _=>True) [some 0,some 1,some 2,some 6,some 4] trivial ⟨rfl,rfl,⟨⟨rfl,rfl,rfl,.inr ⟨⟨rfl,rfl,trivial⟩,trivial⟩⟩,⟨rfl,rfl,rfl,.inl ⟨rfl,k6 _⟩⟩,⟨rfl,rfl,rfl,.inr ⟨⟨rfl,⟨rfl,rfl,?_,fun h=>h⟩,trivial⟩,trivial⟩⟩,b8 rfl rfl rfl ?_ rfl,⟨rfl,rfl,rfl,.inr (P8 [Q0 t kind k])⟩,trivial⟩,⟨⟨rfl,rfl,rfl⟩,⟨rfl,rfl,rfl⟩,⟨rfl,rfl,rfl⟩,⟨rfl,⟨rfl,rfl,rfl⟩,trivial⟩,rfl,⟨rfl,rfl,rfl⟩,rfl,rfl,rfl,rfl,e7 (by simp),rfl,trivial⟩⟩ ?_
   ·simp [hG0,eR,toC]
   ·rw [hG0,eR]<;>rfl
   intro j hj _
   have hGl:(G j).length≤1000000:=by rw [hG];simp [List.length_append];omega
   by_cases hjt:j<(i6 t.finds kind k).length
   ·obtain ⟨g,hg⟩:∃g,(i6 t.finds kind k)[j]? =some g:=⟨_,lg0 hjt⟩
    have gb:=hgr g (lg2 hg)
    have ig:=G9 g (by omega) (by omega)
    have eG:G (j+1)=G j++[s9 k 0 (g:Rat)]:=by rw [hG,hG,List.take_add_one,hg];simp
    conv=>whnf
    repeat' first|(refine zd ?_ ?_<;>intro h<;>first|exact zc h|(exfalso;omega)|conv=>whnf)|((first|refine zz ?_|refine qp ig ?_|refine d9 hg ?_|refine .inr ⟨_,_,a01 (id:=3) rfl rfl rfl rfl rfl (by decide) hGl _ _,?_⟩|refine zy ?_);conv=>whnf)
    all_goals try (exfalso;omega)
    refine ⟨hjt,trivial,[some 0,some 1,some 2,some 5,some 4],rfl,rfl,⟨⟨rfl,rfl,rfl,.inr ⟨⟨rfl,rfl,trivial⟩,trivial⟩⟩,⟨rfl,rfl,rfl,.inl ⟨rfl,k6 _⟩⟩,⟨rfl,rfl,rfl,.inr ⟨⟨rfl,⟨rfl,rfl,?_,fun h=>h⟩,trivial⟩,trivial⟩⟩,b8 rfl rfl rfl ?_ rfl,⟨rfl,rfl,rfl,.inr (P8 [Q0 t kind k])⟩,trivial⟩,⟨⟨rfl,rfl,rfl⟩,⟨rfl,rfl,rfl⟩,⟨rfl,rfl,rfl⟩,⟨rfl,⟨rfl,rfl,rfl⟩,trivial⟩,rfl,⟨rfl,rfl,rfl⟩,rfl,rfl,rfl,rfl,rfl,rfl,trivial⟩⟩
    ·rw [eG];simp
    ·rw [eG]
   have hje:j=(i6 t.finds kind k).length:=by omega
   subst hje
   have hGe:G (i6 t.finds kind k).length=R1++(i6 t.finds kind k).map (fun g:Int=>s9 k 0 (g:Rat)):=by rw [hG,lg4 (Nat.le_refl _)]
   conv=>whnf
   repeat' first|(refine zd ?_ ?_<;>intro h<;>first|exact zc h|(exfalso;omega)|conv=>whnf)|((first|refine zz ?_|refine zy ?_);conv=>whnf)
   all_goals try (exfalso;omega)
   refine f8 a7 (fun j=>([J,J,J,J,S.c (C.ptr 0 0 0),J,S.c (C.ptr 1 0 0),S.c (C.ptr 2 0 0),S.c (C.fn (Fn.func a5e) [C.ptr 2 0 0]),a9 .i64 k,J,J,J,J,J,J,J,J,J,J,J,J,J,J,J,J,J,J,J,J,J,J,J,J,S.c (C.t (a14 t kind)),a9 .i64 t.ev.moves.length,a9 .i64 k,J,J,J,J,J,J,J,J,J,J,J,J,J,J,J,J,J,J,J,J,J,J,J,J,J,J,J,J,J,J,J,J,J,J,J,J,J,a9 .i64 (j9 t.cleans kind k),a9 .i64 j,J,J,J,J,J,J,J,J],[a1V,evB t.ev,a2O t.ev.moves.length 3 (K j).length,U6 (K j)])) (j9 t.cleans kind k) (fun _=>True) [some 0,some 1,some 2,some 3] trivial ⟨rfl,rfl,⟨⟨rfl,rfl,rfl,.inr ⟨⟨rfl,rfl,trivial⟩,trivial⟩⟩,⟨rfl,rfl,rfl,.inl ⟨rfl,k6 _⟩⟩,⟨rfl,rfl,rfl,.inr ⟨⟨rfl,⟨rfl,rfl,?_,fun h=>h⟩,trivial⟩,trivial⟩⟩,b8 rfl rfl rfl ?_ rfl,trivial⟩,⟨⟨rfl,rfl,rfl⟩,⟨rfl,rfl,rfl⟩,⟨rfl,rfl,rfl⟩,⟨rfl,⟨rfl,rfl,rfl⟩,trivial⟩,rfl,rfl,rfl,rfl,rfl,rfl,trivial⟩⟩ ?_
   ·rw [hK0,hGe]
   ·rw [hK0,hGe]
   clear hj hjt
   intro j hj _
   have hKl:(K j).length≤1000000:=by rw [hK];simp [List.length_append];omega
   by_cases hjt:j<j9 t.cleans kind k
   ·have eK:K (j+1)=K j++[s9 k 2 ((0:Int):Rat)]:=by rw [hK,hK,List.replicate_succ'];simp
    conv=>whnf
    repeat' first|(refine zd ?_ ?_<;>intro h<;>first|exact zc h|(exfalso;omega)|conv=>whnf)|((first|refine zz ?_|refine qp i0 ?_|refine .inr ⟨_,_,a01 (id:=3) rfl rfl rfl rfl rfl (by decide) hKl _ _,?_⟩|refine zy ?_);conv=>whnf)
    all_goals try (exfalso;omega)
    refine ⟨hjt,trivial,[some 0,some 1,some 2,some 4],rfl,rfl,⟨⟨rfl,rfl,rfl,.inr ⟨⟨rfl,rfl,trivial⟩,trivial⟩⟩,⟨rfl,rfl,rfl,.inl ⟨rfl,k6 _⟩⟩,⟨rfl,rfl,rfl,.inr ⟨⟨rfl,⟨rfl,rfl,?_,fun h=>h⟩,trivial⟩,trivial⟩⟩,b8 rfl rfl rfl ?_ rfl,trivial⟩,⟨⟨rfl,rfl,rfl⟩,⟨rfl,rfl,rfl⟩,⟨rfl,rfl,rfl⟩,⟨rfl,⟨rfl,rfl,rfl⟩,trivial⟩,rfl,rfl,rfl,rfl,rfl,rfl,trivial⟩⟩
    ·rw [eK];simp
    ·rw [eK]
   have hje:j=j9 t.cleans kind k:=by omega
   subst hje
   conv=>whnf
   repeat' first|(refine zd ?_ ?_<;>intro h<;>first|exact zc h|(exfalso;omega)|conv=>whnf)|((first|refine zz ?_|refine zy ?_);conv=>whnf)
   all_goals try (exfalso;omega)
   exact ⟨hlt,trivial,[some 0,some 1,some 2,some 3],rfl,rfl,⟨⟨rfl,rfl,rfl,.inr ⟨⟨rfl,rfl,trivial⟩,trivial⟩⟩,⟨rfl,rfl,rfl,.inl ⟨rfl,k6 _⟩⟩,⟨rfl,rfl,rfl,.inr ⟨⟨rfl,⟨rfl,rfl,hKs.2,fun h=>h⟩,trivial⟩,trivial⟩⟩,b8 rfl rfl rfl hKs.1 rfl,trivial⟩,⟨⟨rfl,rfl,rfl⟩,⟨rfl,rfl,rfl⟩,⟨rfl,rfl,rfl⟩,⟨rfl,⟨rfl,rfl,rfl⟩,trivial⟩,rfl,rfl,rfl,trivial⟩⟩
  ·have hci:(W8 t.ev k).isSome=true:=by rw [iv];exact hc
   rw [hc] at hcr
   have hcr:K6 (D7 t.ev x) k=[s9 k 1 (hiR (D7 t.ev x))]:=hcr
   have eR:R1=p5 t kind k++[s9 k 1 (hiR (D7 t.ev x))]:=by rw [hR1,hcr];simp only [decide_eq_false_iff_not,decide_eq_true_eq] at hb;simp [hb,List.append_assoc]
   have hRl:R1.length≤14500:=by rw [eR];(try simp);omega
   have hfv:hiF (W8 t.ev k)=fz (hiR (D7 t.ev x)):=by rw [iv];exact (a3b hc).1
   conv=>whnf
   repeat' first|(refine zd ?_ ?_<;>intro h<;>first|exact zc h|(exfalso;omega)|conv=>whnf)|((first|refine zz ?_|refine qp bn ?_|refine qp st ?_|refine qp toC ?_|refine qp toC ?_|refine d9 gk ?_|refine v7 (by simp [toC]) (by simp [toC];omega) ?_|refine .inr ⟨_,_,a01 (id:=3) hfv rfl rfl rfl rfl (by decide) b3 _ _,?_⟩|refine zy ?_);conv=>whnf)
   all_goals try (exfalso;omega)
   all_goals try (rw [hci] at h;exact absurd h (by decide))
   refine f8 a7 (fun j=>([J,J,J,J,S.c (C.ptr 0 0 0),J,S.c (C.ptr 1 0 0),S.c (C.ptr 2 0 0),S.c (C.fn (Fn.func a5e) [C.ptr 2 0 0]),a9 .i64 k,S.c (C.ptr 4 0 0),J,J,J,J,J,J,J,J,J,J,J,J,J,J,J,J,J,J,J,J,J,J,J,S.c (C.t (a14 t kind)),a9 .i64 t.ev.moves.length,a9 .i64 k,J,J,J,J,J,J,J,J,J,J,J,J,J,J,J,J,J,J,J,J,J,J,J,J,S.c (C.t (J0 (i6 t.finds kind k))),a9 .i64 (i6 t.finds kind k).length,a9 .i64 j,J,J,J,J,J,J,J,J,J,J,J,J,J,J,J,J,J,J,J,J],[a1V,evB t.ev,a2O t.ev.moves.length 3 (G j).length,U6 (G j),ai6 t kind k])) (i6 t.finds kind k).length (fun _=>True) [some 0,some 1,some 2,some 5,some 4] trivial ⟨rfl,rfl,⟨⟨rfl,rfl,rfl,.inr ⟨⟨rfl,rfl,trivial⟩,trivial⟩⟩,⟨rfl,rfl,rfl,.inl ⟨rfl,k6 _⟩⟩,⟨rfl,rfl,rfl,.inr ⟨⟨rfl,⟨rfl,rfl,?_,fun h=>h⟩,trivial⟩,trivial⟩⟩,b8 rfl rfl rfl ?_ rfl,⟨rfl,rfl,rfl,.inr (P8 [Q0 t kind k])⟩,trivial⟩,⟨⟨rfl,rfl,rfl⟩,⟨rfl,rfl,rfl⟩,⟨rfl,rfl,rfl⟩,⟨rfl,⟨rfl,rfl,rfl⟩,trivial⟩,rfl,⟨rfl,rfl,rfl⟩,rfl,rfl,rfl,rfl,e7 (by simp),rfl,trivial⟩⟩ ?_
   ·simp [hG0,eR,toC]
   ·rw [hG0,eR]<;>rfl
   intro j hj _
   have hGl:(G j).length≤1000000:=by rw [hG];simp [List.length_append];omega
   by_cases hjt:j<(i6 t.finds kind k).length
   ·obtain ⟨g,hg⟩:∃g,(i6 t.finds kind k)[j]? =some g:=⟨_,lg0 hjt⟩
    have gb:=hgr g (lg2 hg)
    have ig:=G9 g (by omega) (by omega)
    have eG:G (j+1)=G j++[s9 k 0 (g:Rat)]:=by rw [hG,hG,List.take_add_one,hg];simp
    conv=>whnf
    repeat' first|(refine zd ?_ ?_<;>intro h<;>first|exact zc h|(exfalso;omega)|conv=>whnf)|((first|refine zz ?_|refine qp ig ?_|refine d9 hg ?_|refine .inr ⟨_,_,a01 (id:=3) rfl rfl rfl rfl rfl (by decide) hGl _ _,?_⟩|refine zy ?_);conv=>whnf)
    all_goals try (exfalso;omega)
    refine ⟨hjt,trivial,[some 0,some 1,some 2,some 5,some 4],rfl,rfl,⟨⟨rfl,rfl,rfl,.inr ⟨⟨rfl,rfl,trivial⟩,trivial⟩⟩,⟨rfl,rfl,rfl,.inl ⟨rfl,k6 _⟩⟩,⟨rfl,rfl,rfl,.inr ⟨⟨rfl,⟨rfl,rfl,?_,fun h=>h⟩,trivial⟩,trivial⟩⟩,b8 rfl rfl rfl ?_ rfl,⟨rfl,rfl,rfl,.inr (P8 [Q0 t kind k])⟩,trivial⟩,⟨⟨rfl,rfl,rfl⟩,⟨rfl,rfl,rfl⟩,⟨rfl,rfl,rfl⟩,⟨rfl,⟨rfl,rfl,rfl⟩,trivial⟩,rfl,⟨rfl,rfl,rfl⟩,rfl,rfl,rfl,rfl,rfl,rfl,trivial⟩⟩
    ·rw [eG];simp
    ·rw [eG]
   have hje:j=(i6 t.finds kind k).length:=by omega
   subst hje
   have hGe:G (i6 t.finds kind k).length=R1++(i6 t.finds kind k).map (fun g:Int=>s9 k 0 (g:Rat)):=by rw [hG,lg4 (Nat.le_refl _)]
   conv=>whnf
   repeat' first|(refine zd ?_ ?_<;>intro h<;>first|exact zc h|(exfalso;omega)|conv=>whnf)|((first|refine zz ?_|refine zy ?_);conv=>whnf)
   all_goals try (exfalso;omega)
   refine f8 a7 (fun j=>([J,J,J,J,S.c (C.ptr 0 0 0),J,S.c (C.ptr 1 0 0),S.c (C.ptr 2 0 0),S.c (C.fn (Fn.func a5e) [C.ptr 2 0 0]),a9 .i64 k,J,J,J,J,J,J,J,J,J,J,J,J,J,J,J,J,J,J,J,J,J,J,J,J,S.c (C.t (a14 t kind)),a9 .i64 t.ev.moves.length,a9 .i64 k,J,J,J,J,J,J,J,J,J,J,J,J,J,J,J,J,J,J,J,J,J,J,J,J,J,J,J,J,J,J,J,J,J,J,J,J,J,a9 .i64 (j9 t.cleans kind k),a9 .i64 j,J,J,J,J,J,J,J,J],[a1V,evB t.ev,a2O t.ev.moves.length 3 (K j).length,U6 (K j)])) (j9 t.cleans kind k) (fun _=>True) [some 0,some 1,some 2,some 3] trivial ⟨rfl,rfl,⟨⟨rfl,rfl,rfl,.inr ⟨⟨rfl,rfl,trivial⟩,trivial⟩⟩,⟨rfl,rfl,rfl,.inl ⟨rfl,k6 _⟩⟩,⟨rfl,rfl,rfl,.inr ⟨⟨rfl,⟨rfl,rfl,?_,fun h=>h⟩,trivial⟩,trivial⟩⟩,b8 rfl rfl rfl ?_ rfl,trivial⟩,⟨⟨rfl,rfl,rfl⟩,⟨rfl,rfl,rfl⟩,⟨rfl,rfl,rfl⟩,⟨rfl,⟨rfl,rfl,rfl⟩,trivial⟩,rfl,rfl,rfl,rfl,rfl,rfl,trivial⟩⟩ ?_
   ·rw [hK0,hGe]
   ·rw [hK0,hGe]
   clear hj hjt
   intro j hj _
   have hKl:(K j).length≤1000000:=by rw [hK];simp [List.length_append];omega
   by_cases hjt:j<j9 t.cleans kind k
   ·have eK:K (j+1)=K j++[s9 k 2 ((0:Int):Rat)]:=by rw [hK,hK,List.replicate_succ'];simp
    conv=>whnf
    repeat' first|(refine zd ?_ ?_<;>intro h<;>first|exact zc h|(exfalso;omega)|conv=>whnf)|((first|refine zz ?_|refine qp i0 ?_|refine .inr ⟨_,_,a01 (id:=3) rfl rfl rfl rfl rfl (by decide) hKl _ _,?_⟩|refine zy ?_);conv=>whnf)
    all_goals try (exfalso;omega)
    refine ⟨hjt,trivial,[some 0,some 1,some 2,some 4],rfl,rfl,⟨⟨rfl,rfl,rfl,.inr ⟨⟨rfl,rfl,trivial⟩,trivial⟩⟩,⟨rfl,rfl,rfl,.inl ⟨rfl,k6 _⟩⟩,⟨rfl,rfl,rfl,.inr ⟨⟨rfl,⟨rfl,rfl,?_,fun h=>h⟩,trivial⟩,trivial⟩⟩,b8 rfl rfl rfl ?_ rfl,trivial⟩,⟨⟨rfl,rfl,rfl⟩,⟨rfl,rfl,rfl⟩,⟨rfl,rfl,rfl⟩,⟨rfl,⟨rfl,rfl,rfl⟩,trivial⟩,rfl,rfl,rfl,rfl,rfl,rfl,trivial⟩⟩
    ·rw [eK];simp
    ·rw [eK]
   have hje:j=j9 t.cleans kind k:=by omega
   subst hje
   conv=>whnf
   repeat' first|(refine zd ?_ ?_<;>intro h<;>first|exact zc h|(exfalso;omega)|conv=>whnf)|((first|refine zz ?_|refine zy ?_);conv=>whnf)
   all_goals try (exfalso;omega)
   exact ⟨hlt,trivial,[some 0,some 1,some 2,some 3],rfl,rfl,⟨⟨rfl,rfl,rfl,.inr ⟨⟨rfl,rfl,trivial⟩,trivial⟩⟩,⟨rfl,rfl,rfl,.inl ⟨rfl,k6 _⟩⟩,⟨rfl,rfl,rfl,.inr ⟨⟨rfl,⟨rfl,rfl,hKs.2,fun h=>h⟩,trivial⟩,trivial⟩⟩,b8 rfl rfl rfl hKs.1 rfl,trivial⟩,⟨⟨rfl,rfl,rfl⟩,⟨rfl,rfl,rfl⟩,⟨rfl,rfl,rfl⟩,⟨rfl,⟨rfl,rfl,rfl⟩,trivial⟩,rfl,rfl,rfl,trivial⟩⟩
 ·have hke:k=t.ev.moves.length:=by omega
  subst hke
  conv=>whnf
  repeat' first|(refine zd ?_ ?_<;>intro h<;>first|exact zc h|(exfalso;omega)|conv=>whnf)|((first|refine zz ?_|refine zy ?_);conv=>whnf)
  all_goals try (exfalso;omega)
  refine k8 ⟨⟨rfl,show VC _ (fun id=>K3 [] id=true) _ _ from v5 rfl rfl (by intro h;cases h) rfl rfl (by rw [List.length_map];rfl),trivial⟩,rfl,trivial⟩
end
section
open Go.RowKit
theorem aw5 {P:Program} {g:FuncId} {x:S} {H H':Hp} {r:S} (h:b9 P g [x,m7 []] H r H'):b9 P g [x,.c (.t (.sl 0 .nil []))] H r H':=by
 refine a4T h rfl fun w ι M j a b v hx hy hr=>?_
 rcases j with _|_|j
 ·injection hx with hx;injection hy with hy;subst hx hy;exact hr
 ·injection hx with hx;injection hy with hy;subst hx hy
  cases hr with
  |c hr=>cases hr with
   |t hr=>exact .c (.t (hr.weak rfl))
 ·simp at hx
theorem ay5 (z:List Rat):k7 [] z=0:=rfl
theorem ao4 {s:i8} (hr:j8 s=true):I6 s []=.best∨∃r,I6 s []=.row r:=by
 rcases a6k s [] with h|h|⟨c,h⟩
 ·exact .inl h
 ·exact .inr h
 ·have:=(ak0 hr rfl h).2
  rw [ay5] at this
  exact absurd this (by decide)
set_option maxHeartbeats 2000000 in
theorem a8s (s:i8) (n B:Nat) (h:C2 s [] n B) (hout:I6 s []=.best) (hpt:∀v ∈ j2 s [],rl v≤40000):
 b9 Tryz.prog 61 [U9 s] [] (.tup [p8 ((j2 s []).map fz),.c (.t (.sl 0 .nil [])),f7 true]) []:=by
 have le:=aw5 (a2p s [] n B h hout (fun k=>by rw [List.take_nil,ay5];have:=rl0;omega) hpt)
 (refine a8 a7 Tryz.func61 rfl (by decide) ?_;(conv=>whnf);repeat ((first|refine b0x ?_|refine zy ?_);conv=>whnf))
 repeat' first|(refine zd ?_ ?_<;>intro h<;>first|exact zc h|(exfalso;omega)|conv=>whnf)|((first|refine zz ?_|refine qp 4 ?_|refine qp (4,6) ?_|refine .inr ⟨_,_,le,?_⟩|refine bl0 [4] ?_|refine bl0 [4,6] ?_|refine zy ?_);conv=>whnf)
 all_goals first
  |(exfalso;omega)
  |exact k8 ⟨rfl,rfl,rfl,trivial⟩
set_option maxHeartbeats 2000000 in
theorem a9P (s:i8) (n B r:Nat) (h:C2 s [] n B) (hout:I6 s []=.row r):
 b9 Tryz.prog 61 [U9 s] [] (.tup [.c (.t (.sl 0 .nil [])),p8 (rF s.rows.length (a6Z s (m9 s []) r)),f7 false]) []:=by
 have le:=aw5 (aw1 s [] n B r h hout)
 (refine a8 a7 Tryz.func61 rfl (by decide) ?_;(conv=>whnf);repeat ((first|refine b0x ?_|refine zy ?_);conv=>whnf))
 repeat' first|(refine zd ?_ ?_<;>intro h<;>first|exact zc h|(exfalso;omega)|conv=>whnf)|((first|refine zz ?_|refine qp 4 ?_|refine qp (4,6) ?_|refine .inr ⟨_,_,le,?_⟩|refine bl0 [4] ?_|refine bl0 [4,6] ?_|refine zy ?_);conv=>whnf)
 all_goals first
  |(exfalso;omega)
  |exact k8 ⟨rfl,(show VC _ (fun id=>K3 [] id=true) (C.own 0 0 s.rows.length true) _ from v5 (k:=flB (rF s.rows.length (a6Z s (m9 s []) r))) rfl rfl (fun h=>h) rfl rfl (by simp [L9])),rfl,trivial⟩
theorem a0S {α:Type} {f:α→List T} {l:List α} {x:α} {n:Nat} (h:n=l.length):List.take n (toC (l.map f))++toC [f x]=toC ((l++[x]).map f):=by
 rw [lg4 (by simp [toC,h])]
 simp [toC]
def a0f (l:List (Int × Rat)) (f:Rat):List (Int × Rat):=l.map fun t=>(t.1,t.2*f)
theorem a2R (l:List (Int × Rat)) (f:Rat) {k:Nat} {t:Int × Rat} (h:l[k]? =some t):(a0f l f).take (k+1)=(a0f l f).take k++[(t.1,t.2*f)]:=by
 rw [List.take_add_one]
 congr 1
 unfold a0f
 rw [List.getElem?_map,h];rfl
theorem a0B (l:List (Int × Rat)) (f:Rat):(a0f l f).length=l.length:=by simp [a0f]
set_option maxHeartbeats 2000000 in
theorem b3Y (l:List (Int × Rat)) (f:Rat) (hf:f≠0) (hr:j1 (-1) 1500 l=true) (hb:∀t ∈ l,rl t.2≤200) (hfb:rl f≤200):
 b9 Tryz.prog 164 [m7 l,frS (fz f)] [] (m7 (a0f l f)) []:=by
 have hl:=C8 hr
 have m1:(l.map o7).length=l.length:=by simp
 have rt:=P9 l 1500 (by omega) hb
 rw [decide_eq_true (by omega),hr] at rt
 have sg:=a00 f (by omega)
 have sz:=a3r (x:=f)
 have hs0:sgR f≠0:=fun h=>hf (sz.1 h)
 (refine a8 a7 Tryz.func164 rfl (by decide) ?_;(conv=>whnf);repeat ((first|refine b0x ?_|refine zy ?_);conv=>whnf))
 repeat' first|(refine zd ?_ ?_<;>intro h<;>first|exact zc h|(exfalso;omega)|conv=>whnf)|((first|refine zz ?_|refine qp rt ?_|refine qp sg ?_|refine zy ?_);conv=>whnf)
 all_goals try (exfalso;omega)
 all_goals try (exfalso;simp_all;done)
 refine f8 a7 (fun k=>([J,J,J,S.c (C.t (T.ptr (m6 (fz f)))),J,S.c (C.own 0 0 k true),J,J,J,J,J,J,J,J,J,J,J,J,m7 l,a9 .i64 l.length,a9 .i64 k,J,J,J,J,J,J,J,J,J,J,J,J,J,J,J,J,J,J,J],[O9 ((a0f l f).take k)])) l.length (fun _=>True) [none] trivial
  ⟨rfl,rfl,⟨⟨rfl,rfl⟩,trivial⟩,⟨j3 rfl,⟨rfl,rfl,rfl⟩,j3 rfl,e7 (by omega),e7 rfl,trivial⟩⟩ ?_
 intro k hk _
 by_cases hlt:k<l.length
 ·obtain ⟨t,ht⟩:∃t,l[k]? =some t:=⟨_,lg0 hlt⟩
  have bt:=hb t (lg2 ht)
  have mu:=aD0 t.2 f (by omega) (by omega)
  have lk:((a0f l f).take k).length=k:=by rw [List.length_take,a0B];omega
  have lA:k≤(O9 ((a0f l f).take k)).rows.length:=by show k≤(toC _).length;simp [toC,a0B];omega
  conv=>whnf
  repeat' first|(refine zd ?_ ?_<;>intro h<;>first|exact zc h|(exfalso;omega)|conv=>whnf)|((first|refine zz ?_|refine qp mu ?_|refine qp toC ?_|refine qp 6 ?_|refine d9 ht ?_|refine v7 lA (by simp [toC];omega) ?_|refine bl0 [6] ?_|refine zy ?_);conv=>whnf)
  all_goals first
   |(exfalso;omega)
   |(refine ⟨hlt,trivial,[some 3],rfl,rfl,⟨b8 (rows:=((a0f l f).take (k+1)).map o7) rfl rfl rfl ?_ rfl,trivial⟩,⟨rfl,⟨rfl,rfl,rfl,fun h=>h⟩,rfl,rfl,e7 (by omega),trivial⟩⟩
     rw [a2R l f ht]
     exact a0S (f:=o7) (x:=(t.1,t.2*f)) lk.symm)
 ·have hke:k=l.length:=by omega
  subst hke
  conv=>whnf
  repeat' first|(refine zd ?_ ?_<;>intro h<;>first|exact zc h|(exfalso;omega)|conv=>whnf)|((first|refine zz ?_|refine zy ?_);conv=>whnf)
  all_goals first
   |(exfalso;omega)
   |exact O2 rfl (fun h=>h) rfl (by rw [lg4 (by rw [a0B];exact Nat.le_refl _)]) (by simp [a0B])
theorem a70 {n n':Int} (h:n≤n'):∀{last:Int} {l:List (Int × Rat)},j1 last n l=true→j1 last n' l=true
 |_,[],_=>rfl
 |last,a::r,hr=>by
  unfold j1 at hr ⊢
  simp only [Bool.and_eq_true,decide_eq_true_eq] at hr ⊢
  exact ⟨⟨⟨hr.1.1.1,by omega⟩,hr.1.2⟩,a70 h hr.2⟩
def w8 (l:List (Int × Rat)):List (Int × Rat):=a0f l ((-1:Int):Rat)
theorem a4Y (l:List (Int × Rat)) (hr:j1 (-1) 1500 l=true) (hb:∀t ∈ l,rl t.2≤200):b9 Tryz.prog 91 [m7 l] [] (m7 (w8 l)) []:=by
 have i1:=G9 (-1) (by decide) (by decide)
 have tm:=b3Y l ((-1:Int):Rat) (by decide) hr hb (by have:=s6 (x:=-1) (by decide) (by decide);have:=s6 (x:=1) (by decide) (by decide);show max (bl (-1)) (bl 1)≤200;omega)
 (refine a8 a7 Tryz.func91 rfl (by decide) ?_;(conv=>whnf);repeat ((first|refine b0x ?_|refine zy ?_);conv=>whnf))
 repeat' first|(refine zd ?_ ?_<;>intro h<;>first|exact zc h|(exfalso;omega)|conv=>whnf)|((first|refine zz ?_|refine qp i1 ?_|refine qp tm ?_|refine zy ?_);conv=>whnf)
 exact k8 (H1:=[]) (j3 (ρ:=[]) (H:=[]) rfl)
end
section
open Go.RowKit
def a0p (l:List Int):List (Int × Rat):=l.map fun i=>(i,((1:Int):Rat))
def p6 (t:g9) (h:Int):List (Int × Rat):=a0p (y0 t.ev h (-1) 0 100000)
def a4g (t:g9) (h:Int):List (Int × Rat):=if m8 t=0∧0≤h∧h<t.ev.hhs then p6 t h else []
theorem aC0 {H1:Hp}:Fin 0 (.c (.t (.sl 0 .nil []))) H1 (m7 []) []:=k8 (show a7n [] H1 (.c (.t (.sl 0 .nil []))) (m7 []) from rfl)
theorem a6T {l:List Int} {k:Nat} {x:Int} (h:l[k]? =some x):a0p (l.take (k+1))=a0p (l.take k)++[(x,((1:Int):Rat))]:=by
 rw [List.take_add_one,h];unfold a0p;simp
set_option maxHeartbeats 2000000 in
theorem am1 (t:g9) (hs:t.Sized) (hh:Int) (hl:(y0 t.ev hh (-1) 0 100000).length≤100000):b9 Tryz.prog 28 [trS t,a9 .i64 hh] [] (m7 (a4g t hh)) []:=by
 have ck:=a1E t hs
 have li:=am4 t.ev hs.ev hh (-1) 0 100000
 have i1:=G9 1 (by decide) (by decide)
 by_cases hc:m8 t=0∧0≤hh∧hh<t.ev.hhs
 ·have e:a4g t hh=p6 t hh:=if_pos hc
  rw [e]
  obtain ⟨c1,c2,c3⟩:=hc
  have m1:((y0 t.ev hh (-1) 0 100000).map i5).length=(y0 t.ev hh (-1) 0 100000).length:=by simp
  (refine a8 a7 Tryz.func28 rfl (by decide) ?_;(conv=>whnf);repeat ((first|refine b0x ?_|refine zy ?_);conv=>whnf))
  repeat' first|(refine zd ?_ ?_<;>intro h<;>first|exact zc h|(exfalso;omega)|conv=>whnf)|((first|refine zz ?_|refine qp ck ?_|refine qp li ?_|refine zy ?_);conv=>whnf)
  all_goals try (exfalso;omega)
  refine f8 a7 (fun k=>([J,J,J,J,J,S.c (C.own 0 0 k true),J,J,J,J,J,J,J,J,J,J,J,J,J,J,J,J,J,J,J,g6 (y0 t.ev hh (-1) 0 100000),a9 .i64 (y0 t.ev hh (-1) 0 100000).length,a9 .i64 k,J,J,J,J,J,J,J,J,J,J,J],[O9 (a0p ((y0 t.ev hh (-1) 0 100000).take k))])) (y0 t.ev hh (-1) 0 100000).length (fun _=>True) [none] trivial
   ⟨rfl,rfl,⟨⟨rfl,rfl⟩,trivial⟩,⟨⟨rfl,rfl,rfl⟩,j3 rfl,e7 (by omega),e7 rfl,trivial⟩⟩ ?_
  intro k hk _
  by_cases hlt:k<(y0 t.ev hh (-1) 0 100000).length
  ·obtain ⟨x,hx⟩:∃x,(y0 t.ev hh (-1) 0 100000)[k]? =some x:=⟨_,lg0 hlt⟩
   have lk:(a0p ((y0 t.ev hh (-1) 0 100000).take k)).length=k:=by unfold a0p;rw [List.length_map,List.length_take];omega
   have lA:k≤(O9 (a0p ((y0 t.ev hh (-1) 0 100000).take k))).rows.length:=by show k≤(toC _).length;rw [toC,List.length_map,List.length_map,lk];exact Nat.le_refl _
   conv=>whnf
   repeat' first|(refine zd ?_ ?_<;>intro h<;>first|exact zc h|(exfalso;omega)|conv=>whnf)|((first|refine zz ?_|refine qp i1 ?_|refine qp toC ?_|refine d9 hx ?_|refine v7 lA (by simp [toC];omega) ?_|refine zy ?_);conv=>whnf)
   all_goals first
    |(exfalso;omega)
    |(refine ⟨hlt,trivial,[some 1],rfl,rfl,⟨b8 (rows:=(a0p ((y0 t.ev hh (-1) 0 100000).take (k+1))).map o7) rfl rfl rfl ?_ rfl,trivial⟩,⟨⟨rfl,rfl,rfl,fun h=>h⟩,rfl,rfl,e7 (by omega),trivial⟩⟩
      rw [a6T hx]
      exact a0S (f:=o7) (x:=(x,((1:Int):Rat))) lk.symm)
  ·have hke:k=(y0 t.ev hh (-1) 0 100000).length:=by omega
   subst hke
   conv=>whnf
   repeat' first|(refine zd ?_ ?_<;>intro h<;>first|exact zc h|(exfalso;omega)|conv=>whnf)|((first|refine zz ?_|refine zy ?_);conv=>whnf)
   all_goals first
    |(exfalso;omega)
    |exact O2 rfl (fun h=>h) rfl (by rw [lg4 (Nat.le_refl _)];rfl) (by simp [p6,a0p])
 ·have e:a4g t hh=[]:=if_neg hc
  rw [e]
  (refine a8 a7 Tryz.func28 rfl (by decide) ?_;(conv=>whnf);repeat ((first|refine b0x ?_|refine zy ?_);conv=>whnf))
  repeat' first|(refine zd ?_ ?_<;>intro h<;>first|exact zc h|(exfalso;omega)|conv=>whnf)|((first|refine zz ?_|refine qp ck ?_|refine qp li ?_|refine zy ?_);conv=>whnf)
  all_goals first
   |(exfalso;omega)
   |exact aC0
theorem aX0 (l:List Fr) (h0:0<l.length) (h1:l.length≤100000):b9 Tryz.prog 205 [p8 l] [] (.c (.own 0 0 l.length true)) [flB l]:=by
 have m1:(l.map m6).length=l.length:=by simp
 have hl:0<(l.map m6).length:=by omega
 (refine a8 a7 Tryz.func205 rfl (by decide) ?_;(conv=>whnf);repeat (refine zy ?_;conv=>whnf))
 repeat' first|(refine zd ?_ ?_<;>intro h<;>first|exact zc h|(exfalso;omega)|conv=>whnf)|((first|refine zz ?_|refine qp (toC,List.length_map,List.length_nil) ?_|refine qp (toC,List.length_map) ?_|refine ⟨hl,?_⟩|refine zz ?_|refine a1d rfl (by simp only [toC,List.length_map,List.length_nil];omega) ?_|refine v7 (Nat.zero_le _) (by simp only [toC,List.length_map];omega) ?_|refine zy ?_);conv=>whnf)
 all_goals first
  |(exfalso;omega)
  |exact ⟨[some 0],rfl,rfl,⟨b8 (rows:=l.map m6) rfl rfl rfl rfl rfl,trivial⟩,⟨rfl,rfl,by simp [toC],fun h=>h⟩⟩
def smF (a b:Nat→Rat) (k:Nat):Nat→Rat:=fun j=>if j<k then a j+b j else a j
set_option maxHeartbeats 2000000 in
theorem b5G (n:Nat) (a b:Nat→Rat) (h0:0<n) (hn:n≤1000) (ha:∀j,j<n→rl (a j)≤60000) (hb:∀j,j<n→rl (b j)≤60000):
 b9 Tryz.prog 131 [p8 (rF n a),p8 (rF n b)] [] (p8 (rF n fun j=>a j+b j)) []:=by
 have m1:((rF n b).map m6).length=n:=by simp [L9]
 have cl:=aX0 (rF n a) (by rw [L9];exact h0) (by rw [L9];omega)
 rw [L9] at cl
 have e9:rF n (fun j=>a j+b j)=rF n (smF a b n):=C5 fun j hj=>by unfold smF;rw [if_pos hj]
 rw [e9]
 (refine a8 a7 Tryz.func131 rfl (by decide) ?_;(conv=>whnf);repeat (refine zy ?_;conv=>whnf))
 repeat' first|(refine zd ?_ ?_<;>intro h<;>first|exact zc h|(exfalso;omega)|conv=>whnf)|((first|refine zz ?_|refine .inr ⟨_,_,cl,?_⟩|refine zy ?_);conv=>whnf)
 refine f8 a7 (fun k=>([J,J,J,J,J,S.c (C.own 0 0 n true),J,J,J,J,p8 (rF n b),a9 .i64 n,a9 .i64 k,J,J,J,J,J,J,J,J,J,J,J,J,J,J,J,J,J,J],[flB (rF n (smF a b k))])) n (fun _=>True) [some 0] trivial
  ⟨rfl,rfl,⟨b8 (rows:=(rF n a).map m6) rfl rfl rfl rfl (by rw [C5 (g:=smF a b 0) (h:=a) fun j hj=>by unfold smF;rw [if_neg (by omega)]]),trivial⟩,⟨⟨rfl,rfl,rfl,fun h=>h⟩,j3 rfl,e7 (by omega),e7 rfl,trivial⟩⟩ ?_
 intro k hk _
 by_cases hlt:k<n
 ·have eK:0+(k:Int).toNat=k:=by omega
  have ad:=a2P (a k) (b k) (ha k hlt) (hb k hlt)
  have gp:(rF n (smF a b k))[0+(k:Int).toNat]? =some (fz (a k)):=by rw [eK,I4 hlt];unfold smF;rw [if_neg (by omega)]
  have e:z9 (flB (rF n (smF a b k))) ((flB (rF n (smF a b k))).rows.set (0+(k:Int).toNat) (frC (fz (a k+b k))))=flB (rF n (smF a b (k+1))):=by
   rw [M8 eK,W4 hlt]
   refine congrArg flB (C5 fun j hj=>?_)
   unfold smF
   by_cases h:j=k
   ·subst h;rw [if_pos rfl,if_pos (by omega)]
   ·rw [if_neg h]
    have:(j<k)↔(j<k+1):=by omega
    simp only [this]
  conv=>whnf
  repeat' first|(refine zd ?_ ?_<;>intro h<;>first|exact zc h|(exfalso;omega)|conv=>whnf)|((first|refine zz ?_|refine qp ad ?_|refine qp 10 ?_|refine a2a rfl hlt ?_|refine o8 gp ?_|refine bl0 [10] ?_|refine zy ?_);conv=>whnf)
  all_goals first
   |(exfalso;omega)
   |exact ⟨hlt,trivial,[some 0],rfl,rfl,⟨⟨rfl,rfl,rfl,.inl ⟨congrArg Blk.rows e,(congrArg Blk.rows e) ▸ i7 _⟩⟩,trivial⟩,⟨⟨rfl,rfl,rfl,fun h=>h⟩,rfl,rfl,e7 (by omega),trivial⟩⟩
 ·have hke:k=n:=by omega
  subst hke
  conv=>whnf
  repeat' first|(refine zd ?_ ?_<;>intro h<;>first|exact zc h|(exfalso;omega)|conv=>whnf)|((first|refine zz ?_|refine zy ?_);conv=>whnf)
  all_goals first
   |(exfalso;omega)
   |exact O2 rfl (fun h=>h) rfl rfl (by simp [L9])
end
section
open Go.RowKit
theorem aL3 {P:Program} {g:FuncId} {args:List S} {H:Hp} {b:Blk} {r r':S} {rows:List (List T)} (h:b9 P g args [] r [b]) (ha:args=args.map (a4a [])) (hok:args.all (okS 0)=true) (hm:b.mode=.live) (hb:b.rows=toC rows) (hr:ae6 r=true)
 (hr':r'=a4a [H.length] r):b9 P g args H r' (H++[b]):=by
 have ex:a2h [] H.length (([b]:Hp).length - ([]:Hp).length)=[H.length]:=rfl
 refine P3 [] h ha hok rfl List.nodup_nil (by simp) (fun k hk=>?_) (by simp) hr (by rw [ex];exact hr') (by simp) ?_ ?_
 ·simp at hk;subst hk;rw [hm];intro h;cases h
 ·intro i k hk
  rw [ex]
  rcases i with _|i
  ·injection hk with hk;subst hk
   refine ⟨b,?_,E0 hb⟩
   show (H++[b])[H.length]? =_
   rw [List.getElem?_append_right (Nat.le_refl _)];simp
  ·simp at hk
 ·intro j hj _
  rw [List.getElem?_append_left hj]
theorem aH1 {P:Program} {g:FuncId} {args:List S} {H:Hp} {b:Blk} {cs:List C} {s2:S} {j lo len:Nat} {app:Bool} (h:b9 P g args [] (.tup [.agg cs,s2]) [b]) (ha:args.all S.isT=true) (hm:b.mode=.live) (hb:G8 b.rows)
 (hf:ae6 (.tup [.agg cs,s2])=true) (hj:cs[j]? =some (.own 0 lo len app)):U4 P g args H (a4a [H.length] (.tup [.agg cs,s2])) [b]:=by
 refine ⟨h.1,fun w ι M vals hl hv hH hM hf0=>?_⟩
 have:=h.2 w (fun _=>none) M vals hl (fun j s hj=>(hv j s hj).tree (List.all_eq_true.1 ha s (lg2 hj)))
  ⟨by simp,by simp,by simp,by simp,by simp⟩ hM (fun _ _=>rfl)
 refine Calls.mono this ?_
 rintro e w' ⟨v,rfl,ι',M',h1,h2,h3,h4,h5⟩
 have hnl:∀x,¬a2w (fun _=>none) ([]:Hp) x:=by rintro x ⟨id,k,_,_,hk,_⟩;simp at hk
 obtain ⟨l,hl0⟩:∃l,ι' 0=some l:=by
  cases h1 with
  |tup vs hl hr=>
   have h0:=hr 0 _ rfl
   generalize vs.getD 0 undef=v0 at h0
   cases h0 with
   |agg us hl hr=>
    have h9:=hr j _ hj
    generalize us.getD j undef=v9 at h9
    cases h9 with
    |own hi=>exact ⟨_,hi⟩
    |nil hi=>exact ⟨_,hi⟩
 have hnew:x8 ι H.length [b].length (fun _=>l) H.length=some l:=by unfold x8;simp
 have hMM:∀x,a3m M [b].length (fun _=>l) x→M' x:=by
  intro x hx
  rcases hx with hx|⟨k,hk,cap,size,he⟩
  ·rcases h5.mold x hx with h|h
   ·exact h
   ·exact absurd h (hnl x)
  ·have he:l=.blk x cap size:=he
   subst he
   exact h2.liv 0 b rfl hm x cap size hl0
 refine ⟨v,rfl,fun _=>l,?_,⟨h5.os,h5.tape,h5.output,h5.size,fun x hx=>h5.keep x hx (hnl x)⟩,?_,?_,?_⟩
 ·refine RS.keep (w:=w') (ι:=x8 ι H.length [b].length (fun _=>l)) (M:=M') (fun _ _ _=>rfl) (fun x hx=>.inl (hMM x hx)) (fun _ _ h=>h) (RS.ren (σ:=[H.length]) (fun id l' hi=>?_) hf h1)
  rcases id with _|id
  ·rw [hl0] at hi;injection hi with hi;subst hi;exact hnew
  ·rw [h4 (id+1) (by simp)] at hi;cases hi
 ·intro k blk hk
  cases k with
  |succ k=>simp at hk
  |zero=>
   simp at hk
   subst hk
   refine ⟨hm,?_⟩
   have hbr:=h2.blk 0 b rfl (by rw [hm];intro h;cases h) l hl0
   cases l with
   |nil=>exact hbr
   |blk x cap size=>
    obtain ⟨r1,r2,r3,r4,r5,cur,r6,r7,r8⟩:=hbr
    refine ⟨r1,r2,r3,r4,r5,cur,r6,r7,fun i j c hc=>?_⟩
    obtain ⟨u,u1,u2⟩:=r8 i j c hc
    exact ⟨u,u1,a93 hMM hb hc u2⟩
 ·intro k x cap size hk he
  have he:l=.blk x cap size:=he
  subst he
  refine ⟨?_,h3 x (h2.liv 0 b rfl hm x cap size hl0)⟩
  rcases h5.live x ⟨0,b,cap,size,rfl,hm,hl0⟩ with h|h
  ·exact absurd h (hnl x)
  ·exact h
 ·intro k k' x cap size cap' size' hk hk' _ _
  simp at hk hk'
  omega
structure a0J where
 hh:Int
 state:Int
 w:List Rat
 wo:List Rat
 pr:List Rat
def a0J.row (v:a0J):List T:=[ti v.hh,ti v.state,T7 (v.w.map fz),T7 (v.wo.map fz),T7 (v.pr.map fz)]
abbrev aD8 (v:a0J):S:=.agg (v.row.map C.t)
theorem a4u {x:Rat}:sgR x > 0↔0<x:=by unfold sgR;split<;>(try split)<;>simp_all<;>grind
theorem aK4 {x:Rat}:sgR x<0↔x<0:=by unfold sgR;split<;>(try split)<;>simp_all
structure aY6 (s:i8) (g:List (Int × Rat)) (n B B1 B0:Nat):Prop where
 p:C2 s g n B
 q:C2 s (w8 g) n B1
 z:C2 s [] n B0
 g5:j1 (-1) 1500 g=true
 v:∀k,rl (k7 (g.take k) (j2 s g))≤50000
 u:∀k,rl (k7 ((w8 g).take k) (j2 s (w8 g)))≤50000
theorem a5p {s:i8} {g:List (Int × Rat)} {n B:Nat} (h:C2 s g n B):∀v ∈ j2 s g,rl v≤17000:=by
 intro v hv
 have hb:=a6s h
 have hn:=h.nn
 have hB:=h.bb
 obtain ⟨j,hj,rfl⟩:=a5d hv
 have hp:Q5 (e6 s).length s.n.toNat (m9 s g):=J2.p
 rw [hn] at hj hp ⊢
 rw [← aL8 hp hj]
 have key:∀k,k≤(e6 s).length→rl (ptK n (m9 s g).O (m9 s g).V (fun _=>0) k j)≤17000:=by
  intro k
  induction k with
  |zero=>intro _;have:=rl0;show rl 0≤_;omega
  |succ k ih=>
   intro hk
   rw [N1]
   simp only
   split
   ·have:=hb.v k (by omega);omega
   ·exact ih (by omega)
 exact key _ (Nat.le_refl _)
noncomputable def b24 (s:i8) (g:List (Int × Rat)) (hh:Int):a0J:=⟨hh,2,j2 s g,[],zOf s.rows.length (A0 s (m9 s g))++[((-1:Int):Rat)]⟩
theorem a7L {s:i8} {g:List (Int × Rat)} {n B:Nat} (h:C2 s g n B) (hout:I6 s g=.best) (hS:∀k,rl (k7 (g.take k) (j2 s g))≤50000) (H:Hp):
 b9 Tryz.prog 130 [U9 s,m7 g] H (.tup [.agg (C.t (ti 0)::frC (fz (k7 g (j2 s g)))++[.t (T7 ((j2 s g).map fz)),.own H.length 0 s.rows.length true,.t (.sl 0 .nil [])]),a9 .i64 0]) (H++[flB (rF s.rows.length (A0 s (m9 s g)))]):=
 aL3 (a2p s g n B h hout (fun k=>by have:=hS k;omega) (fun v hv=>by have:=a5p h v hv;omega)) rfl rfl rfl rfl rfl rfl
theorem aD3 {R:Nat} {y:Nat→Rat} {x:Rat}:(toC ((rF R y).map m6)).take R++toC [m6 (fz x)]=toC (((zOf R y++[x]).map fz).map m6):=by
 have e:(zOf R y++[x]).map fz=rF R y++[fz x]:=by rw [List.map_append,a4W];rfl
 rw [a0S (f:=m6) (l:=rF R y) (x:=fz x) (L9 R y).symm,e]
theorem b26 {s:i8} {g:List (Int × Rat)} {n B:Nat} (h:C2 s g n B) (hout:I6 s g=.best) (hS:∀k,rl (k7 (g.take k) (j2 s g))≤50000) (H:Hp):
 U4 Tryz.prog 130 [U9 s,m7 g] H (.tup [.agg (C.t (ti 0)::frC (fz (k7 g (j2 s g)))++[.t (T7 ((j2 s g).map fz)),.own H.length 0 s.rows.length true,.t (.sl 0 .nil [])]),a9 .i64 0]) [flB (rF s.rows.length (A0 s (m9 s g)))]:=
 aH1 (j:=6) (lo:=0) (len:=s.rows.length) (app:=true) (a2p s g n B h hout (fun k=>by have:=hS k;omega) (fun v hv=>by have:=a5p h v hv;omega)) rfl rfl (i7 _) rfl rfl
set_option maxHeartbeats 2000000 in
theorem a8p (s:i8) (g:List (Int × Rat)) (n B B1 B0:Nat) (h:aY6 s g n B B1 B0) (hh:Int) (hout:I6 s g=.best) (hv:0<k7 g (j2 s g)):
 b9 Tryz.prog 62 [U9 s,m7 g,a9 .i64 hh] [] (aD8 (b24 s g hh)) []:=by
 have le:=a7L h.p hout h.v
 have vb:=h.v g.length
 rw [List.take_length] at vb
 have sg:=a00 (k7 g (j2 s g)) (by omega)
 have sp:=a4u.2 hv
 have i1:=G9 (-1) (by decide) (by decide)
 have hR:=h.p.r
 (refine a8 a7 Tryz.func62 rfl (by decide) ?_;(conv=>whnf);repeat ((first|refine b0x ?_|refine zy ?_);conv=>whnf))
 repeat' first|(refine zd ?_ ?_<;>intro h<;>first|exact zc h|(exfalso;omega)|conv=>whnf)|((first|refine a8h [0,1,2,3,4,5,7,6,8,9,10,11,12] (by decide +kernel) (by decide +kernel) ?_|refine zz ?_|refine zz ?_|refine zz ?_|refine zz ?_|refine zz ?_|refine zz ?_|refine qp sg ?_|refine qp i1 ?_|refine qp 5 ?_|refine qp (toC,L9) ?_|refine qp toC ?_|refine qp (0,1,2,3,4,5,7,6,8,9,10,11,12) ?_|refine qp (0,1,6) ?_|refine qp (0,1) ?_|refine .inr ⟨_,_,le _,?_⟩|refine bl0 [5] ?_|refine v7 (by simp [toC,L9]) (by simp [toC];omega) ?_|refine bl0 [0,1,6] ?_|refine bl0 [0,1] ?_|refine zy ?_);conv=>whnf)
 all_goals first
  |(exfalso;omega)
  |exact k8 ⟨rfl,rfl,rfl,rfl,(show VC _ (fun id=>K3 [] id=true) (C.own 4 0 (s.rows.length+1) true) _ from v5 (k:={ mode:=.live,elem:=83,size:=4,rows:=(toC ((rF s.rows.length (A0 s (m9 s g))).map m6)).take s.rows.length++toC [m6 (fz ((-1:Int):Rat))],box:=false }) rfl rfl (fun h=>h) rfl aD3 (by simp [zOf])),trivial⟩
noncomputable def a4s (s:i8) (g:List (Int × Rat)) (c:Nat) (hh:Int):a0J:=⟨hh,1,zOf s.n.toNat fun j=>G0 (e6 s).length s.n.toNat (m9 s []) 1 (fun _=>0) j+G0 (e6 s).length s.n.toNat (m9 s (w8 g)) 0 (fun q=>if q=c then 1 else 0) j,j2 s g,[]⟩
noncomputable def b45 (s:i8) (g:List (Int × Rat)) (hh:Int):a0J:=⟨hh,1,j2 s (w8 g),j2 s g,[]⟩
noncomputable def a7B (s:i8) (g:List (Int × Rat)) (hh:Int):a0J:=⟨hh,0,[],j2 s g,zOf s.rows.length (A0 s (m9 s (w8 g)))⟩
theorem b3G {s:i8} {g:List (Int × Rat)} {n B B0 c:Nat} (h:C2 s g n B) (h0:C2 s [] n B0) (hout:I6 s g=.col c) (hout0:I6 s []=.best) (H:Hp):
 U4 Tryz.prog 130 [U9 s,m7 g] H (.tup [.agg (C.t (ti 2)::b5w++[.t (T7 ((j2 s []).map fz)),.t (.sl 0 .nil []),.t (T7 ((a61 s g c).map fz))]),a9 .i64 0]) []:=
 H5 (ak6 s g n B B0 c h h0 hout hout0) rfl rfl
theorem b51 {s:i8} {g:List (Int × Rat)} {n B c:Nat} (h:C2 s g n B) (hc:c<n) {j:Nat} (hj:j<n):rl (G0 (e6 s).length n (m9 s g) 0 (fun q=>if q=c then 1 else 0) j)≤17000:=by
 have hb:=a6s h
 have hB:=h.bb
 have hp:Q5 (e6 s).length n (m9 s g):=by have hn:=h.nn;subst hn;exact J2.p
 rw [← aj5 hp hc hj]
 have key:∀k,k≤(e6 s).length→rl (ptK n (m9 s g).O (fun i=>-((m9 s g).A i c)) (fun j=>if (m9 s g).F c<n∧j=(m9 s g).F c then 1 else 0) k j)≤17000:=by
  intro k
  induction k with
  |zero=>
   intro _
   have:=rl0;have:=rl1
   show rl (if _ then (1:Rat) else 0)≤_
   split<;>omega
  |succ k ih=>
   intro hk
   rw [N1]
   simp only
   split
   ·rw [O1];have:=hb.a k (by omega) c hc;omega
   ·exact ih (by omega)
 exact key _ (Nat.le_refl _)
set_option maxHeartbeats 4000000 in
theorem a9L (s:i8) (g:List (Int × Rat)) (n B B1 B0 c:Nat) (h:aY6 s g n B B1 B0) (hh:Int) (hout:I6 s g=.best) (hv:¬0<k7 g (j2 s g)) (hq:I6 s (w8 g)=.col c) (hz:I6 s []=.best):
 b9 Tryz.prog 62 [U9 s,m7 g,a9 .i64 hh] [] (aD8 (a4s s g c hh)) []:=by
 have le:=a7L h.p hout h.v
 have vb:=h.v g.length
 rw [List.take_length] at vb
 have sg:=a00 (k7 g (j2 s g)) (by omega)
 have sp:¬sgR (k7 g (j2 s g)) > 0:=fun e=>hv (a4u.1 e)
 have hR:=h.p.r
 have op:=a4Y g h.g5 h.p.gb
 have l2:=b3G h.q h.z hq hz
 have hn:=h.p.nn
 have hcn:c<n:=by have:=(a5b hq).1;omega
 have e1:(j2 s []).map fz=rF n (G0 (e6 s).length n (m9 s []) 1 (fun _=>0)):=by unfold j2;rw [a4W,hn]
 have e2:(a61 s (w8 g) c).map fz=rF n (G0 (e6 s).length n (m9 s (w8 g)) 0 (fun q=>if q=c then 1 else 0)):=by unfold a61;rw [a4W,hn]
 have sm:=b5G n (G0 (e6 s).length n (m9 s []) 1 (fun _=>0)) (G0 (e6 s).length n (m9 s (w8 g)) 0 (fun q=>if q=c then 1 else 0)) (by omega) h.p.o.n1
  (fun j hj=>by
    have:rl (G0 (e6 s).length n (m9 s []) 1 (fun _=>0) j)≤17000:=a5p h.z _ (by unfold j2;rw [hn];exact List.mem_map.2 ⟨j,List.mem_range.2 hj,rfl⟩)
    omega)
  (fun j hj=>by have:=b51 h.q hcn hj;omega)
 rw [← e1,←e2] at sm
 have e3:rF n (fun j=>G0 (e6 s).length n (m9 s []) 1 (fun _=>0) j+G0 (e6 s).length n (m9 s (w8 g)) 0 (fun q=>if q=c then 1 else 0) j)=(a4s s g c hh).w.map fz:=by
  unfold a4s;simp only;rw [a4W,hn]
 rw [e3] at sm
 (refine a8 a7 Tryz.func62 rfl (by decide) ?_;(conv=>whnf);repeat ((first|refine b0x ?_|refine zy ?_);conv=>whnf))
 repeat' first|(refine zd ?_ ?_<;>intro h<;>first|exact zc h|(exfalso;omega)|conv=>whnf)|((first|refine zz ?_|refine qp sg ?_|refine qp op ?_|refine qp sm ?_|refine qp 5 ?_|refine qp 6 ?_|refine qp 0 ?_|refine .inr ⟨_,_,le _,?_⟩|refine .inl ⟨_,_,l2 _,?_⟩|refine bl0 [5] ?_|refine bl0 [6] ?_|refine bl0 [0] ?_|refine zy ?_);conv=>whnf)
 all_goals first
  |(exfalso;omega)
  |exact k8 ⟨rfl,rfl,rfl,rfl,rfl,trivial⟩
set_option maxHeartbeats 4000000 in
theorem am5 (s:i8) (g:List (Int × Rat)) (n B B1 B0:Nat) (h:aY6 s g n B B1 B0) (hh:Int) (hout:I6 s g=.best) (hv:¬0<k7 g (j2 s g)) (hq:I6 s (w8 g)=.best) (hv2:k7 (w8 g) (j2 s (w8 g))<0):
 b9 Tryz.prog 62 [U9 s,m7 g,a9 .i64 hh] [] (aD8 (b45 s g hh)) []:=by
 have le:=a7L h.p hout h.v
 have vb:=h.v g.length
 rw [List.take_length] at vb
 have ub:=h.u (w8 g).length
 rw [List.take_length] at ub
 have sg:=a00 (k7 g (j2 s g)) (by omega)
 have sp:¬sgR (k7 g (j2 s g)) > 0:=fun e=>hv (a4u.1 e)
 have sg2:=a00 (k7 (w8 g) (j2 s (w8 g))) (by omega)
 have sp2:=aK4.2 hv2
 have hR:=h.p.r
 have op:=a4Y g h.g5 h.p.gb
 have l2:=b26 h.q hq h.u
 (refine a8 a7 Tryz.func62 rfl (by decide) ?_;(conv=>whnf);repeat ((first|refine b0x ?_|refine zy ?_);conv=>whnf))
 repeat' first|(refine zd ?_ ?_<;>intro h<;>first|exact zc h|(exfalso;omega)|conv=>whnf)|((first|refine zz ?_|refine qp sg ?_|refine qp op ?_|refine qp sg2 ?_|refine qp 5 ?_|refine qp 6 ?_|refine qp 0 ?_|refine qp (0,1) ?_|refine .inr ⟨_,_,le _,?_⟩|refine .inl ⟨_,_,l2 _,?_⟩|refine bl0 [5] ?_|refine bl0 [6] ?_|refine bl0 [0] ?_|refine bl0 [0,1] ?_|refine zy ?_);conv=>whnf)
 all_goals first
  |(exfalso;omega)
  |exact k8 ⟨rfl,rfl,rfl,rfl,rfl,trivial⟩
set_option maxHeartbeats 4000000 in
theorem a9V (s:i8) (g:List (Int × Rat)) (n B B1 B0:Nat) (h:aY6 s g n B B1 B0) (hh:Int) (hout:I6 s g=.best) (hv:¬0<k7 g (j2 s g)) (hq:I6 s (w8 g)=.best) (hv2:¬k7 (w8 g) (j2 s (w8 g))<0):
 b9 Tryz.prog 62 [U9 s,m7 g,a9 .i64 hh] [] (aD8 (a7B s g hh)) []:=by
 have le:=a7L h.p hout h.v
 have vb:=h.v g.length
 rw [List.take_length] at vb
 have ub:=h.u (w8 g).length
 rw [List.take_length] at ub
 have sg:=a00 (k7 g (j2 s g)) (by omega)
 have sp:¬sgR (k7 g (j2 s g)) > 0:=fun e=>hv (a4u.1 e)
 have sg2:=a00 (k7 (w8 g) (j2 s (w8 g))) (by omega)
 have sp2:¬sgR (k7 (w8 g) (j2 s (w8 g)))<0:=fun e=>hv2 (aK4.1 e)
 have hR:=h.p.r
 have op:=a4Y g h.g5 h.p.gb
 have l2:=b26 h.q hq h.u
 (refine a8 a7 Tryz.func62 rfl (by decide) ?_;(conv=>whnf);repeat ((first|refine b0x ?_|refine zy ?_);conv=>whnf))
 repeat' first|(refine zd ?_ ?_<;>intro h<;>first|exact zc h|(exfalso;omega)|conv=>whnf)|((first|refine zz ?_|refine qp sg ?_|refine qp op ?_|refine qp sg2 ?_|refine qp 5 ?_|refine qp 6 ?_|refine qp 0 ?_|refine qp (0,1) ?_|refine .inr ⟨_,_,le _,?_⟩|refine .inl ⟨_,_,l2 _,?_⟩|refine bl0 [5] ?_|refine bl0 [6] ?_|refine bl0 [0] ?_|refine bl0 [0,1] ?_|refine zy ?_);conv=>whnf)
 all_goals first
  |(exfalso;omega)
  |exact k8 ⟨rfl,rfl,rfl,rfl,(show VC _ (fun id=>K3 [] id=true) (C.own 4 0 s.rows.length true) _ from v5 (k:=flB (rF s.rows.length (A0 s (m9 s (w8 g))))) rfl rfl (fun h=>h) rfl (by show toC ((rF s.rows.length (A0 s (m9 s (w8 g)))).map m6)=toC (((zOf s.rows.length (A0 s (m9 s (w8 g)))).map fz).map m6);rw [a4W]) (by simp [zOf,a7B])),trivial⟩
end
section
open Go.RowKit
structure b9e where
 mv:Int
 mat:Int
def b9e.row (p:b9e):List T:=[ti p.mv,ti p.mat]
end
section
open Go.RowKit
theorem a4z (l:List Int) (hl:l.length≤1000000):b9 Tryz.prog 246 [g6 l] [] (g6 (F7 l)) []:=by
 have l2:(l.map i5).length=l.length:=by simp
 (refine a8 a7 Tryz.func246 rfl (by decide) ?_;(conv=>whnf);repeat (refine zy ?_;conv=>whnf))
 repeat' first|(refine zd ?_ ?_<;>intro h<;>first|exact zc h|(exfalso;omega)|conv=>whnf)|((first|refine zz ?_|refine zy ?_);conv=>whnf)
 refine o6 a7 (σ:=Nat) (fun n=>([g6 l,J,J,a9 .i64 n,J,J,J,J,J,J,J,J,J,J,J,J,J,J,J,J,J,J,J],[])) (fun n=>n≤l.length∧∀j x,n≤j→l[j]? =some x→x=0) (fun n=>n) l.length []
  ⟨Nat.le_refl _,fun j x hj hx=>by rw [List.getElem?_eq_none hj] at hx;cases hx⟩ ⟨rfl,rfl,trivial,⟨j3 rfl,e7 (by simp),trivial⟩⟩ ?_
 rintro n ⟨hn,hz⟩
 have hn:n≤l.length:=hn
 conv=>whnf
 repeat' first|(refine zd ?_ ?_<;>intro h<;>first|exact zc h|(exfalso;omega)|conv=>whnf)|((first|refine zz ?_|refine qp toC ?_|refine qp toC ?_|refine a34.own ?_|refine C1 (by omega) (a19 (by omega) hn) ?_|refine az2 (by omega) (by omega) (by omega) ?_|refine v7 (by simp [toC]) (by simp [toC];omega) ?_|refine zy ?_);conv=>whnf)
 ·have h0:dat l (n - 1)=0:=by assumption
  have h1:0<n:=by omega
  refine ⟨[],n - 1,⟨rfl,rfl,trivial,⟨rfl,e7 (by omega),trivial⟩⟩,⟨by omega,fun j x hj hxj=>?_⟩,by show n - 1<n;omega⟩
  by_cases hj2:j=n - 1
  ·subst hj2;rw [t5 (by omega)] at hxj;injection hxj with hx;rw [← hx];exact h0
  ·exact hz j x (by omega) hxj
 all_goals
  have e:l.take n=F7 l:=a2q hz (fun x h0 hx=>by
   first
    |(exfalso;omega)
    |(rw [t5 (by omega)] at hx;injection hx with hx;rw [← hx];assumption)) hn
  rw [← e]
  refine O2 rfl (by intro h;cases h) rfl ?_ ?_
  ·simp [toC,C4,List.map_take]
  ·simp [toC]
theorem b4w (s:Int) (l:List Int) (hl:l.length≤1000000):b9 Tryz.prog 183 [a9 .i64 s,g6 l] [] (bgS (sgn s l)) []:=by
 (refine a8 a7 Tryz.func183 rfl (by decide) ?_;(conv=>whnf);repeat (refine zy ?_;conv=>whnf))
 repeat' first|(refine zd ?_ ?_<;>intro h<;>first|exact zc h|(exfalso;omega)|conv=>whnf)|((first|refine zz ?_|refine qp (a4z l hl) ?_|refine zy ?_);conv=>whnf)
 ·have h0:(F7 l).length=0:=by simp at *;assumption
  unfold sgn
  rw [if_pos h0]
  exact k8 ⟨rfl,rfl,trivial⟩
 ·have h0:¬(F7 l).length=0:=by simp at *;assumption
  unfold sgn
  rw [if_neg h0]
  exact k8 ⟨rfl,rfl,trivial⟩
theorem H7 (s:Int) (k:Nat) (h:s=1∨s=-1∨k=0) (lk:(dg k).length≤700000):
 b9 Tryz.prog 183 [a9 .i64 s,g6 (dg k)] [] (bgS (bz (s*k))) []:=by
 have e:=b4w s (dg k) (by omega)
 rw [aF2 (p9 k) (by rw [n7];omega),n7] at e
 exact e
theorem a3O (l:List Int) (i:Nat) (hl:l.length≤1000000):b9 Tryz.prog 247 [g6 l,a9 .i64 i] [] (a9 .i64 (dat l i)) []:=by
 have l2:(l.map i5).length=l.length:=by simp
 (refine a8 a7 Tryz.func247 rfl (by decide) ?_;(conv=>whnf);repeat (refine zy ?_;conv=>whnf))
 repeat' first|(refine zd ?_ ?_<;>intro h<;>first|exact zc h|(exfalso;omega)|conv=>whnf)|((first|refine zz ?_|refine d9 (t5 (by omega)) ?_|refine zy ?_);conv=>whnf)
 all_goals first
  |exact j5 rfl
  |exact j5 (M9 (by omega)).symm
end
section
theorem a3I (l:List Int) (i:Nat):val (l.drop i)=dat l i+1048576*val (l.drop (i+1)):=by
 by_cases h:i<l.length
 ·exact a5G h
 ·rw [List.drop_of_length_le (by omega),List.drop_of_length_le (by omega),M9 (by omega)];rfl
theorem a8l (l:List Int) (i:Nat):val l=val (l.take i)+pw i*val (l.drop i):=by
 by_cases h:i≤l.length
 ·exact a42 l i h
 ·rw [List.drop_of_length_le (by omega),lg4 (by omega)];simp [val]
theorem a5f {l:List Int} (h:Okd l) (i:Nat):0≤val (l.take i)∧val (l.take i)<pw i:=by
 refine ⟨t6 (h.take i),?_⟩
 have h1:=T1 (h.take i)
 have h2:=a0n (i:=(l.take i).length) (j:=i) (by simp;omega)
 omega
theorem aA0 {a b:List Int} (ha:Okd a) (hb:Okd b) {i:Nat} (h:val (a.drop (i+1))=val (b.drop (i+1))) (hd:dat a i<dat b i):val a<val b:=by
 rw [a8l a i,a8l b i,a3I a i,a3I b i,h]
 have h1:=a5f ha i
 have h2:=a5f hb i
 have hp:=O0 i
 have h3:=Int.mul_le_mul_of_nonneg_left (a:=dat a i+1048576*val (b.drop (i+1))+1) (b:=dat b i+1048576*val (b.drop (i+1))) (c:=pw i) (by omega) (by omega)
 rw [Int.mul_add _ _ (1:Int)] at h3
 omega
theorem a4d (l:List Int):val (l.drop 0)=val l:=by rw [List.drop_zero]
structure a9S (a b:List Int) (i:Nat) (out:List Int) (c:Int):Prop where
 len:out.length=i
 ok:Okd out
 le:i≤a.length
 c0:0≤c
 c1:c≤1
 eq:val out - pw i*c=val (a.take i) - val (b.take i)
theorem a9S.init (a b:List Int):a9S a b 0 [] 0:=⟨rfl,.nil,Nat.zero_le _,by decide,by decide,by simp [val]⟩
theorem a9S.step {a b out:List Int} {i:Nat} {c n c':Int} (h:a9S a b i out c) (ha:Okd a) (hb:Okd b) (hi:i<a.length) (hn:n=dat a i - dat b i - c+1048576*c') (h0:0≤n∧n<1048576) (hc:0≤c'∧c'≤1):
 a9S a b (i+1) (out++[n]) c':=by
 refine ⟨by simp [h.len],h.ok.append (Okd.cons h0 .nil),hi,hc.1,hc.2,?_⟩
 rw [J9,h.len,p7,p7,E9]
 have:=h.eq
 simp only [val]
 rw [hn]
 grind
theorem a9S.fin {a b out:List Int} {c:Int} (h:a9S a b a.length out c) (ha:Okd a) (hb:Okd b) (hl:b.length≤a.length) (hv:val b≤val a):F7 out=dg (val a - val b).toNat:=by
 have h1:=h.eq
 rw [lg4 (Nat.le_refl _),lg4 hl] at h1
 have h2:=T1 h.ok
 rw [h.len] at h2
 have hc:c=0:=by
  have:=h.c0
  have:=h.c1
  rcases Int.lt_or_le 0 c with h3|h3
  ·have:c=1:=by omega
   subst this
   omega
  ·omega
 subst hc
 rw [I8 h.ok]
 congr 2
 simp at h1
 exact h1
structure b2u (a b:List Int) (i k:Nat) (out:List Int) (c:Int):Prop where
 out:(a8G a b i k out c∧k≤b.length)∨(k=b.length+1∧c=0∧a2N a b (i+1) out)
theorem b2B {l:List Int} {i:Nat}:l.set i (dat l i)=l:=by
 by_cases h:i<l.length
 ·apply List.ext_getElem?
  intro j
  by_cases hj:i=j
  ·subst hj;rw [List.getElem?_set_self h];unfold dat;rw [lg3,lg0 h];rfl
  ·rw [List.getElem?_set_ne hj]
 ·rw [List.set_eq_of_length_le (by omega)]
theorem b2u.exit {a b out:List Int} {i k:Nat} {c:Int} (h:b2u a b i k out c) (ha:Okd a) (hb:Okd b) (hi:i<a.length) (hk:b.length≤k) (hc:c≤0):a2N a b (i+1) out:=by
 rcases h.out with ⟨h1,h2⟩|⟨h1,h2,h3⟩
 ·have hk:k=b.length:=by omega
  subst hk
  have hc:c=0:=by have:=h1.c0;omega
  subst hc
  have:=h1.done ha hb hi
  rw [Int.add_zero,b2B] at this
  exact this
 ·exact h3
theorem b1p {r d:Nat} {x:Int} (hx:0≤x∧x<1048576):F7 (x::dg r)=dg (r*1048576+x.toNat):=by
 rw [I8 (Okd.cons hx (p9 r))]
 congr 1
 simp only [val,n7]
 omega
end
section
open Go.RowKit
theorem b0m (a b:List Int) (ha:Okd a) (hb:Okd b) (la:a.length≤1000000) (lb:b.length≤1000000):b9 Tryz.prog 186 [g6 a,g6 b] [] (f7 (decide (val a<val b))) []:=by
 have l1:(a.map i5).length=a.length:=by simp
 have l2:(b.map i5).length=b.length:=by simp
 (refine a8 a7 Tryz.func186 rfl (by decide) ?_;(conv=>whnf);repeat (refine zy ?_;conv=>whnf))
 repeat' first|(refine zd ?_ ?_<;>intro h<;>first|exact zc h|(exfalso;omega)|conv=>whnf)|((first|refine zz ?_|refine qp cond ?_|refine ⟨_,C0 (y:=((max a.length b.length:Nat):Int) - 1) (by simp only [cond];split<;>omega) (by omega) (by omega),?_⟩|refine zy ?_);conv=>whnf)
 refine o6 a7 (σ:=Nat) (fun k=>([g6 a,g6 b,J,J,J,a9 .i64 ((k:Int) - 1),J,J,J,J,J,J,J,J,J,J,J,J,J,J,J,J,J,J,J,J,J,J,J,J],[])) (fun k=>k≤1000000∧val (a.drop k)=val (b.drop k)) (fun k=>k) (max a.length b.length) []
  ⟨by omega,by rw [List.drop_of_length_le (by omega),List.drop_of_length_le (by omega)]⟩ ⟨rfl,rfl,trivial,⟨j3 rfl,j3 rfl,rfl,trivial⟩⟩ ?_
 rintro k ⟨hk,hd⟩
 have hk:k≤1000000:=hk
 have hd:val (a.drop k)=val (b.drop k):=hd
 by_cases h0:0<k
 ·obtain ⟨i,rfl⟩:∃i,k=i+1:=⟨k - 1,by omega⟩
  have d1:=a3O a i la
  have d2:=a3O b i lb
  have ei:(((i+1:Nat):Int) - 1)=i:=by omega
  rw [ei]
  conv=>whnf
  repeat' first|(refine zd ?_ ?_<;>intro h<;>first|exact zc h|(exfalso;omega)|conv=>whnf)|((first|refine zz ?_|refine qp d1 ?_|refine qp d2 ?_|refine zy ?_);conv=>whnf)
  ·have h:=aA0 ha hb hd (by assumption)
   exact d8 (by simp [h])
  ·have h:=aA0 hb ha hd.symm (by omega)
   exact d8 (by simp;omega)
  ·have he:dat a i=dat b i:=by omega
   refine ⟨[],i,⟨rfl,rfl,trivial,⟨rfl,rfl,rfl,trivial⟩⟩,⟨by omega,?_⟩,by show i<i+1;omega⟩
   rw [a3I a i,a3I b i,he,hd]
 ·obtain rfl:k=0:=by omega
  rw [a4d,a4d] at hd
  conv=>whnf
  repeat' first|(refine zd ?_ ?_<;>intro h<;>first|exact zc h|(exfalso;omega)|conv=>whnf)|((first|refine zz ?_|refine zy ?_);conv=>whnf)
  all_goals first
   |(exfalso;omega)
   |exact d8 (by simp;omega)
theorem aQ7 (a b:List Int) (ha:Okd a) (hb:Okd b) (la:a.length≤400000) (lb:b.length≤a.length) (hv:val b≤val a):
 b9 Tryz.prog 187 [g6 a,g6 b] [] (g6 (dg (val a - val b).toNat)) []:=by
 have l1:(a.map i5).length=a.length:=by simp
 have l2:(b.map i5).length=b.length:=by simp
 (refine a8 a7 Tryz.func187 rfl (by decide) ?_;(conv=>whnf);repeat (refine zy ?_;conv=>whnf))
 repeat' first|(refine zd ?_ ?_<;>intro h<;>first|exact zc h|(exfalso;omega)|conv=>whnf)|((first|refine zz ?_|refine zy ?_);conv=>whnf)
 refine o6 a7 (σ:=Nat × List Int × Int) (fun|(k,out,c)=>([g6 a,g6 b,J,J,J,Y8 0 out,a9 .i64 c,a9 .i64 k,J,J,J,J,J,J,J,J,J,J,J,J,J,J,J,J,J,J,J,J,J,J,J,J,J,J,J],[z5 out])) (fun x=>a9S a b x.1 x.2.1 x.2.2) (fun x=>a.length - x.1) (0,[],0) [none]
  (a9S.init a b) ⟨rfl,rfl,⟨⟨rfl,rfl⟩,trivial⟩,⟨j3 rfl,j3 rfl,⟨rfl,rfl,rfl⟩,rfl,rfl,trivial⟩⟩ ?_
 rintro ⟨k,out,c⟩ hI
 have hI:a9S a b k out c:=hI
 have hlen:=hI.len
 have hle:=hI.le
 have hc0:=hI.c0
 have hc1:=hI.c1
 have hda:=ha.dat k
 have hdb:=hb.dat k
 have d2:=a3O b k (by omega)
 conv=>whnf
 repeat' first|(refine zd ?_ ?_<;>intro h<;>first|exact zc h|(exfalso;omega)|conv=>whnf)|((first|refine zz ?_|refine qp d2 ?_|refine qp toC ?_|refine qp toC ?_|refine d9 (t5 (by omega)) ?_|refine v7 (by simp [toC]) (by simp [toC];omega) ?_|refine zy ?_);conv=>whnf)
 ·have hst:=hI.step ha hb (n:=dat a k - dat b k - c+1048576) (c':=1) (by omega) (by omega) (by omega) (by omega)
  refine ⟨[some 1],(k+1,out++[dat a k - dat b k - c+1048576],1),⟨rfl,rfl,⟨b8 rfl rfl rfl a0W rfl,trivial⟩,⟨rfl,rfl,k9 rfl (by simp [toC]),rfl,e7 (by omega),trivial⟩⟩,hst,?_⟩
  show a.length - (k+1)<a.length - k
  omega
 ·have hst:=hI.step ha hb (n:=dat a k - dat b k - c) (c':=0) (by omega) (by omega) (by omega) (by omega)
  refine ⟨[some 1],(k+1,out++[dat a k - dat b k - c],0),⟨rfl,rfl,⟨b8 rfl rfl rfl a0W rfl,trivial⟩,⟨rfl,rfl,k9 rfl (by simp [toC]),rfl,e7 (by omega),trivial⟩⟩,hst,?_⟩
  show a.length - (k+1)<a.length - k
  omega
 ·have hk:k=a.length:=by omega
  subst hk
  have hf:=hI.fin ha hb lb hv
  have t:=a4z out (by omega)
  rw [hf] at t
  refine .inr ⟨_,_,t8 [0] t ⟨a0k (v5 (by simp) rfl (by intro h;cases h) rfl rfl (by simp)),trivial⟩ rfl,?_⟩
  conv=>whnf
  exact a89 rfl
end
section
open Go.RowKit
theorem b4o {a:Int} (h:0≤a):a.tmod 1048576=a % 1048576:=Int.tmod_eq_emod_of_nonneg h
set_option maxHeartbeats 1000000 in
theorem aO0 (a b:List Int) (ha:Okd a) (hb:Okd b) (la:a.length≤400000) (lb:b.length≤400000):
 b9 Tryz.prog 184 [g6 a,g6 b] [] (g6 (dg (val a*val b).toNat)) []:=by
 have l1:(a.map i5).length=a.length:=by simp
 have l2:(b.map i5).length=b.length:=by simp
 (refine a8 a7 Tryz.func184 rfl (by decide) ?_;(conv=>whnf);repeat (refine zy ?_;conv=>whnf))
 repeat' first|(refine zd ?_ ?_<;>intro h<;>first|exact zc h|(exfalso;omega)|conv=>whnf)|((first|refine zz ?_|refine a3s (by omega) (by omega) (by omega) (by decide) ?_|refine zy ?_);conv=>whnf)
 refine o6 a7 (σ:=Nat × List Int) (fun|(i,out)=>([g6 a,g6 b,J,J,J,Y8 0 out,a9 .i64 i,J,J,J,J,J,J,J,J,J,J,J,J,J,J,J,J,J,J,J,J,J,J,J,J,J,J,J,J,J,J,J,J,J,J,J,J,J,J,J,J,J,J,J,J,J,J,J,J,J,J,J,J,J],[z5 out])) (fun x=>a2N a b x.1 x.2) (fun x=>a.length - x.1) (0,List.replicate (a.length+b.length) 0) [some 0]
  (a2N.init a b) ⟨rfl,rfl,⟨b8 rfl rfl rfl ?_ rfl,trivial⟩,⟨j3 rfl,j3 rfl,k9 rfl (by simp;omega),rfl,trivial⟩⟩ ?_
 ·show List.replicate _ _=_
  rw [show ((((a.map i5).length:Nat):Int)+((b.map i5).length:Nat)).toNat=a.length+b.length by omega]
  simp [toC,i5,G3]
 rintro ⟨i,out⟩ hI
 have hI:a2N a b i out:=hI
 have hlen:=hI.len
 have hle:=hI.le
 conv=>whnf
 repeat' first|(refine zd ?_ ?_<;>intro h<;>first|exact zc h|(exfalso;omega)|conv=>whnf)|((first|refine zz ?_|refine zy ?_);conv=>whnf)
 ·have hi:i<a.length:=by omega
  refine o6 a7 (σ:=Nat × List Int × Int) (fun|(k,out,c)=>([g6 a,g6 b,J,J,J,Y8 0 out,a9 .i64 i,a9 .i64 c,a9 .i64 k,J,J,J,J,J,J,J,J,J,J,J,J,J,J,J,J,J,J,J,J,J,J,J,J,J,J,J,J,J,J,J,J,J,J,J,J,J,J,J,J,J,J,J,J,J,J,J,J,J,J,J],[z5 out])) (fun x=>b2u a b i x.1 x.2.1 x.2.2) (fun x=>b.length+1 - x.1) (0,out,0) [some 0]
   ⟨.inl ⟨hI.start,Nat.zero_le _⟩⟩ ⟨rfl,rfl,⟨b8 rfl rfl rfl rfl rfl,trivial⟩,⟨j3 rfl,j3 rfl,k9 rfl rfl,rfl,rfl,rfl,trivial⟩⟩ ?_
  rintro ⟨k,out,c⟩ hT
  have hT:b2u a b i k out c:=hT
  have hdb:=hb.dat k
  have hda:=ha.dat i
  have hm:=a2m (ha.dat i) (hb.dat k)
  have d2:=a3O b k (by omega)
  have e1:((i:Int)+k).toNat=i+k:=by omega
  rcases hT.out with ⟨hK,hkb⟩|⟨hk1,hc,hM⟩
  ·have hlen:=hK.len
   have hc0:=hK.c0
   have hc1:=hK.c1
   have hdo:=hK.ok.dat (i+k)
   have hz:k=b.length→dat out (i+k)=0∧dat b k=0:=fun h=>⟨hK.zero _ (by omega),M9 (by omega)⟩
   have hzm:k=b.length→dat a i*dat b k=0:=fun h=>by rw [(hz h).2,Int.mul_zero]
   conv=>whnf
   repeat' first|(refine zd ?_ ?_<;>intro h<;>first|exact zc h|(exfalso;omega)|conv=>whnf)|((first|refine zz ?_|refine qp d2 ?_|refine d9 (t5 (by omega)) ?_|refine Z9 (by omega) (by show _<((out.length:Nat):Int);omega) ?_|refine o8 (L2 e1 (by omega)) ?_|refine ⟨by decide,_,b1o (by omega) (by omega) (by decide),?_⟩|refine af4 (by decide) ?_|refine zy ?_);conv=>whnf)
   all_goals have hn:0≤dat out (i+k)+dat a i*dat b k+c:=by omega
   ·have hst:=hK.step ha hb hi (by omega)
    refine ⟨[some 0],(k+1,out.set (i+k) ((dat out (i+k)+dat a i*dat b k+c) % 1048576),(dat out (i+k)+dat a i*dat b k+c) / 1048576),⟨rfl,rfl,⟨b8 rfl rfl rfl ?_ rfl,trivial⟩,⟨rfl,rfl,k9 rfl (by simp),rfl,rfl,rfl,trivial⟩⟩,⟨.inl ⟨hst,by omega⟩⟩,?_⟩
    ·rw [← b4o hn];exact J1 (by omega)
    ·show b.length+1 - (k+1)<b.length+1 - k;omega
   ·have hkb2:k=b.length:=by omega
    obtain ⟨z1,z2⟩:=hz hkb2
    have z3:=hzm hkb2
    have en:dat out (i+k)+dat a i*dat b k+c=c:=by omega
    have hdone:=hK
    rw [hkb2] at hdone
    have hdone:=hdone.done ha hb hi
    rw [← hkb2] at hdone
    refine ⟨[some 0],(k+1,out.set (i+k) ((dat out (i+k)+dat a i*dat b k+c) % 1048576),(dat out (i+k)+dat a i*dat b k+c) / 1048576),⟨rfl,rfl,⟨b8 rfl rfl rfl ?_ rfl,trivial⟩,⟨rfl,rfl,k9 rfl (by simp),rfl,rfl,rfl,trivial⟩⟩,⟨.inr ⟨by show k+1=b.length+1;omega,by show (dat out (i+k)+dat a i*dat b k+c) / 1048576=0;omega,?_⟩⟩,?_⟩
    ·rw [← b4o hn];exact J1 (by omega)
    ·have e2:(dat out (i+k)+dat a i*dat b k+c) % 1048576=dat out (i+k)+c:=by omega
     rw [e2];exact hdone
    ·show b.length+1 - (k+1)<b.length+1 - k;omega
   ·have hx:=hT.exit ha hb hi (by omega) (by omega)
    exact ⟨[some 0],(i+1,out),⟨rfl,rfl,⟨b8 rfl rfl rfl rfl rfl,trivial⟩,⟨rfl,rfl,k9 rfl rfl,e7 (by omega),trivial⟩⟩,hx,by show a.length - (i+1)<a.length - i;omega⟩
  ·have hlen:=hM.len
   have hx:=hT.exit ha hb hi (by omega) (by omega)
   conv=>whnf
   repeat' first|(refine zd ?_ ?_<;>intro h<;>first|exact zc h|(exfalso;omega)|conv=>whnf)|((first|refine zz ?_|refine zy ?_);conv=>whnf)
   all_goals first
    |(exfalso;omega)
    |exact ⟨[some 0],(i+1,out),⟨rfl,rfl,⟨b8 rfl rfl rfl rfl rfl,trivial⟩,⟨rfl,rfl,k9 rfl rfl,e7 (by omega),trivial⟩⟩,hx,by show a.length - (i+1)<a.length - i;omega⟩
 ·have hi:i=a.length:=by omega
  subst hi
  have hf:=hI.fin
  have t:=a4z out (by omega)
  rw [hf] at t
  refine .inr ⟨_,_,t8 [0] t ⟨a0k (v5 (by simp) rfl (by intro h;cases h) rfl rfl (by simp)),trivial⟩ rfl,?_⟩
  conv=>whnf
  exact a89 rfl
theorem as5 (m n:Nat) (lm:(dg m).length≤300000) (ln:(dg n).length≤300000):
 b9 Tryz.prog 184 [g6 (dg m),g6 (dg n)] [] (g6 (dg (m*n))) []:=by
 have h:=aO0 (dg m) (dg n) (p9 m) (p9 n) (by omega) (by omega)
 rw [n7,n7,show ((m:Int)*n).toNat=m*n by rw [← Int.natCast_mul];rfl] at h
 exact h
end
section
open Go.RowKit
set_option maxHeartbeats 1000000 in
theorem b1V (m n:Nat) (hn:0<n) (lm:(dg m).length≤200000) (ln:(dg n).length≤200000):
 b9 Tryz.prog 244 [g6 (dg m),g6 (dg n)] [] (aL4 m n) []:=by
 have l1:((dg m).map i5).length=(dg m).length:=by simp
 have l2:((dg n).map i5).length=(dg n).length:=by simp
 (refine a8 a7 Tryz.func244 rfl (by decide) ?_;(conv=>whnf);repeat (refine zy ?_;conv=>whnf))
 repeat' first|(refine zd ?_ ?_<;>intro h<;>first|exact zc h|(exfalso;omega)|conv=>whnf)|((first|refine zz ?_|refine a3s (by omega) (by omega) (by omega) (by decide) ?_|refine zy ?_);conv=>whnf)
 refine o6 a7 (σ:=Nat × List Int × Nat) (fun|(j,q,r)=>([g6 (dg m),g6 (dg n),J,J,J,J,Y8 0 q,g6 (dg r),a9 .i64 ((j:Int) - 1),J,J,J,J,J,J,J,J,J,J,J,J,J,J,J,J,J,J,J,J,J,J,J,J,J,J,J,J,J,J,J,J,J,J,J,J,J,J,J,J,J,J,J,J,J,J,J,J,J,J,J],[z5 q])) (fun x=>Z0 (dg m) n x.1 x.2.1 x.2.2) (fun x=>x.1) ((dg m).length,List.replicate (dg m).length 0,0) [some 0]
  (Z0.init _ (by omega)) ⟨rfl,rfl,⟨b8 rfl rfl rfl ?_ rfl,trivial⟩,⟨j3 rfl,j3 rfl,k9 rfl (by simp),rfl,e7 (by omega),trivial⟩⟩ ?_
 ·show List.replicate _ _=_
  simp [toC,i5,G3]
 rintro ⟨j,q,r⟩ hI
 have hI:Z0 (dg m) n j q r:=hI
 have hlen:=hI.len
 have hle:=hI.le
 have hr1:=hI.r1
 by_cases hj:0<j
 ·obtain ⟨i,rfl⟩:∃i,j=i+1:=⟨j - 1,by omega⟩
  have ei:(((i+1:Nat):Int) - 1)=i:=by omega
  have hda:=(p9 m).dat i
  obtain ⟨y,hy⟩:=Int.eq_ofNat_of_zero_le hda.1
  have lr:=o5 (show r≤n by omega)
  have lm2:i<(dg m).length:=by omega
  generalize hR:r*1048576+y=R
  have hRn:R<n*1048576:=by
   have:=Nat.mul_le_mul_right 1048576 (show r+1≤n by omega)
   rw [Nat.add_mul] at this
   omega
  have lR:(dg R).length≤(dg n).length+1:=K8 (by
   have h1:=N2 n
   rw [E9]
   have h2:=Int.mul_le_mul_of_nonneg_right (a:=(n:Int)+1) (b:=pw (dg n).length) (c:=1048576) (by omega) (by decide)
   omega)
  have tr:=a4z (dat (dg m) i::dg r) (by simp;omega)
  rw [b1p (d:=n) hda,hy,Int.toNat_natCast,hR] at tr
  conv=>whnf
  repeat' first|(refine zd ?_ ?_<;>intro h<;>first|exact zc h|(exfalso;omega)|conv=>whnf)|((first|refine zz ?_|refine qp (toC,C4) ?_|refine qp toC ?_|refine qp 2 ?_|refine qp (toC,C4,i5,hy) ?_|refine qp (toC,Nat.add_comm) ?_|refine a34.own ?_|refine W2 ei (t5 (by omega)) ?_|refine v7 (by simp [toC,C4]) (by simp [toC];omega) ?_|refine .inr ⟨_,_,t8 [2] tr ⟨a0k (v5 (by simp) rfl (by intro h;cases h) rfl (by simp [toC,C4,i5,hy]) (by simp [toC,Nat.add_comm])),trivial⟩ rfl,?_⟩|refine zy ?_);conv=>whnf)
  refine o6 a7 (σ:=Nat × Nat) (fun|(lo,hi)=>([g6 (dg m),g6 (dg n),J,J,J,J,Y8 0 q,g6 (dg R),a9 .i64 i,a9 .i64 lo,a9 .i64 hi,J,J,J,J,J,J,J,J,J,J,J,J,J,J,J,J,J,J,J,J,J,J,J,J,J,J,J,J,J,J,J,J,J,J,J,J,J,J,J,J,J,J,J,J,J,J,J,J,J],[z5 q])) (fun x=>x.1*n≤R∧R<x.2*n∧x.1<x.2∧x.2≤1048576) (fun x=>x.2 - x.1) (0,1048576) [some 0]
   ⟨by simp,by show R<1048576*n;rw [Nat.mul_comm];exact hRn,by decide,by decide⟩ ⟨rfl,rfl,⟨b8 rfl rfl rfl rfl rfl,trivial⟩,⟨rfl,rfl,k9 rfl rfl,rfl,e7 ei,rfl,rfl,trivial⟩⟩ ?_
  rintro ⟨lo,hi⟩ ⟨i1,i2,i3,i4⟩
  have i1:lo*n≤R:=i1
  have i2:R<hi*n:=i2
  have i3:lo<hi:=i3
  have i4:hi≤1048576:=i4
  have ln1:(dg n).length≤200000:=ln
  by_cases hc:1<hi - lo
  ·have hmid:(((lo:Int)+hi) / 2)=(((lo+hi) / 2:Nat):Int):=by omega
   generalize hM:(lo+hi) / 2=mid at hmid
   have tm:=aO0 (dg n) [(mid:Int)] (p9 n) (by intro x hx;simp at hx;omega) (by omega) (by simp)
   have e0:val [(mid:Int)]=mid:=by simp [val]
   rw [e0,n7,show ((n:Int)*mid).toNat=n*mid by rw [← Int.natCast_mul];rfl] at tm
   have lnm:(dg (n*mid)).length≤(dg n).length+1:=Nat.le_trans (a1Z _ _) (by have:=s6 (x:=(mid:Int)) (by omega) (by omega);simp only [bl,Int.natAbs_natCast] at this;omega)
   have ls:=b0m (dg R) (dg (n*mid)) (p9 _) (p9 _) (by omega) (by omega)
   rw [n7,n7] at ls
   conv=>whnf
   repeat' first|(refine zd ?_ ?_<;>intro h<;>first|exact zc h|(exfalso;omega)|conv=>whnf)|((first|refine zz ?_|refine qp ls ?_|refine qp (Int.tdiv_eq_ediv_of_nonneg (by omega)) ?_|refine ⟨by decide,_,C0 (y:=(mid:Int)) (by rw [Int.tdiv_eq_ediv_of_nonneg (by omega)];exact hmid) (by omega) (by omega),?_⟩|refine .inl ⟨_,_,a15 tm ⟨aj3,a0k (ao3 rfl),trivial⟩ rfl,?_⟩|refine zy ?_);conv=>whnf)
   ·have hlt:R<n*mid:=Int.ofNat_lt.1 (of_decide_eq_true (by assumption))
    exact ⟨[some 0],(lo,mid),⟨rfl,rfl,⟨b8 rfl rfl rfl rfl rfl,trivial⟩,⟨rfl,rfl,k9 rfl rfl,rfl,rfl,rfl,rfl,trivial⟩⟩,⟨i1,by show R<mid*n;rw [Nat.mul_comm];exact hlt,by show lo<mid;omega,by show mid≤1048576;omega⟩,by show mid - lo<hi - lo;omega⟩
   ·have hlt:n*mid≤R:=Nat.not_lt.1 (fun h=>absurd (Int.ofNat_lt.2 h) (of_decide_eq_false (by assumption)))
    exact ⟨[some 0],(mid,hi),⟨rfl,rfl,⟨b8 rfl rfl rfl rfl rfl,trivial⟩,⟨rfl,rfl,k9 rfl rfl,rfl,rfl,rfl,rfl,trivial⟩⟩,⟨by show mid*n≤R;rw [Nat.mul_comm];exact hlt,i2,by show mid<hi;omega,i4⟩,by show hi - mid<hi - lo;omega⟩
  ·obtain rfl:hi=lo+1:=by omega
   have hq:R / n=lo:=by
    rw [Nat.div_eq_iff hn]
    rw [Nat.add_mul] at i2
    omega
   have hm2:=Nat.div_add_mod R n
   rw [hq] at hm2
   have hrm:=Nat.mod_lt R hn
   have tl:=a4z [(lo:Int)] (by simp)
   rw [I8 (by intro x hx;simp at hx;omega),show (val [(lo:Int)]).toNat=lo by simp [val]] at tl
   have llo:(dg lo).length≤1:=by have:=s6 (x:=(lo:Int)) (by omega) (by omega);simpa [bl] using this
   have tt:=as5 n lo (by omega) (by omega)
   have mi:=aQ7 (dg R) (dg (n*lo)) (p9 _) (p9 _) (by omega) (o5 (by omega)) (by rw [n7,n7];omega)
   rw [n7,n7,show ((R:Int) - ((n*lo:Nat):Int)).toNat=R % n by omega] at mi
   have hst:=hI.step (p9 m) (by omega)
   have c1:((r:Int)*1048576+dat (dg m) i)=(R:Int):=by rw [hy,←hR];simp
   rw [c1] at hst
   have c2:(R:Int) / n=(lo:Int):=by rw [← hq];simp
   have c3:(R:Int) % n=((R % n:Nat):Int):=by simp
   rw [c2,c3] at hst
   have gq:q[0+(i:Int).toNat]? =some (dat q i):=L2 (by omega) (by omega)
   conv=>whnf
   repeat' first|(refine zd ?_ ?_<;>intro h<;>first|exact zc h|(exfalso;omega)|conv=>whnf)|((first|refine zz ?_|refine qp tt ?_|refine qp mi ?_|refine .inl ⟨_,_,a15 tl ⟨a0k (ao3 rfl),trivial⟩ rfl,?_⟩|refine Z9 (by omega) (by show _<((q.length:Nat):Int);omega) ?_|refine o8 gq ?_|refine zy ?_);conv=>whnf)
   all_goals try (exfalso;omega)
   refine ⟨[some 0],(i,q.set i lo,R % n),⟨rfl,rfl,⟨b8 rfl rfl rfl (J1 (by omega)) rfl,trivial⟩,⟨rfl,rfl,k9 rfl (by simp),rfl,e7 (by omega),trivial⟩⟩,hst,by show i<i+1;omega⟩
 ·obtain rfl:j=0:=by omega
  obtain ⟨f1,f2⟩:=hI.fin (p9 m) (by omega)
  have tq:=a4z q (by have:=hI.len;omega)
  rw [f1,n7,show ((m:Int) / n).toNat=m / n by rw [← Int.natCast_ediv];rfl] at tq
  rw [n7] at f2
  have f3:r=m % n:=by
   have:(m:Int) % n=((m % n:Nat):Int):=by simp
   omega
  subst f3
  conv=>whnf
  repeat' first|(refine zd ?_ ?_<;>intro h<;>first|exact zc h|(exfalso;omega)|conv=>whnf)|((first|refine zz ?_|refine qp 0 ?_|refine .inr ⟨_,_,t8 [0] tq ⟨a0k (v5 (by simp) rfl (by intro h;cases h) rfl rfl (by simp)),trivial⟩ rfl,?_⟩|refine zy ?_);conv=>whnf)
  all_goals try (exfalso;omega)
  exact k8 ⟨rfl,rfl,trivial⟩
end
section
open Go.RowKit
theorem a2r (b:Bg) (hl:b.dl.length≤1000000):b9 Tryz.prog 180 [bgS b] [] (f7 (H6 b)) []:=by
 have l2:(b.dl.map i5).length=b.dl.length:=by simp
 (refine a8 a7 Tryz.func180 rfl (by decide) ?_;(conv=>whnf);repeat ((first|refine b0x ?_|refine zy ?_);conv=>whnf))
 repeat' first|(refine zd ?_ ?_<;>intro h<;>first|exact zc h|(exfalso;omega)|conv=>whnf)|((first|refine zz ?_|refine zy ?_);conv=>whnf)
 refine f8 a7 (fun k=>([J,S.c (C.t (T.ptr [ti b.sg,J0 b.dl])),J,a9 .i64 k,J,J,J,J,J,J,J,J,J,J,J,J,J,J,J,J,J,J,J,J,J,J,J,J,J,J,J,J,J,J,J,J,J,J,J,J,J,J,J,J,J,J,J,J,J,J,J,J,J,J,J,J],[])) b.dl.length (fun k=>(b.dl.take k).all inD=true) [] rfl
  ⟨rfl,rfl,trivial,⟨j3 rfl,rfl,trivial⟩⟩ ?_
 intro k hk hI
 by_cases hlt:k<b.dl.length
 ·conv=>whnf
  repeat' first|(refine zd ?_ ?_<;>intro h<;>first|exact zc h|(exfalso;omega)|conv=>whnf)|((first|refine zz ?_|refine d9 (t5 (by omega)) ?_|refine zy ?_);conv=>whnf)
  all_goals first
   |(exfalso;omega)
   |exact ⟨hlt,by rw [s7 (t5 hlt),hI];simp [inD];omega,[],rfl,rfl,trivial,⟨rfl,rfl,trivial⟩⟩
   |(refine d8 ?_;unfold H6;rw [w7 (t5 hlt) (by simp [inD];omega)];rfl)
 ·have hke:k=b.dl.length:=by omega
  subst hke
  have ha:b.dl.all inD=true:=by rw [← hI,lg4 (by omega)]
  have hgl:0<b.dl.length→b.dl[((((b.dl.map i5).length:Nat):Int) - 1).toNat]? =some (dat b.dl (b.dl.length - 1)):=fun h=>by rw [l2];exact a5D h
  conv=>whnf
  repeat' first|(refine zd ?_ ?_<;>intro h<;>first|exact zc h|(exfalso;omega)|conv=>whnf)|((first|refine zz ?_|refine C1 (by omega) (hgl (by omega)) ?_|refine zy ?_);conv=>whnf)
  all_goals first
   |(exfalso;omega)
   |(exfalso;simp_all;done)
   |(exfalso;simp_all;omega)
   |skip
  all_goals
   refine d8 ?_
   unfold H6
   rw [ha]
   by_cases hz:b.dl.length=0
   ·rw [if_pos hz];simp_all<;>omega
   ·rw [if_neg hz];simp_all<;>omega
theorem Z5 (x:Int) (lx:bl x≤300000):b9 Tryz.prog 180 [bgS (bz x)] [] (f7 true) []:=by
 have:=a2r (bz x) (show bl x≤1000000 by omega)
 rw [W5] at this
 exact this
theorem b4L (n:Int) (h0:-9223372036854775808≤n) (h1:n≤9223372036854775807):b9 Tryz.prog 176 [a9 .i64 n] [] (bgS (bz n)) []:=by
 rcases Int.lt_trichotomy n 0 with hn|hn|hn
 ·(refine a8 a7 Tryz.func176 rfl (by decide) ?_;(conv=>whnf);repeat (refine zy ?_;conv=>whnf))
  repeat' first|(refine zd ?_ ?_<;>intro h<;>first|exact zc h|(exfalso;omega)|conv=>whnf)|((first|refine zz ?_|refine zy ?_);conv=>whnf)
  all_goals try (exfalso;omega)
  refine o6 a7 (σ:=List Int × Nat) (fun|(acc,u)=>([a9 .i64 (- (u:Int)),J,S.c (C.ptr 0 0 0),a9 .i64 (-1),Y8 1 acc,J,J,J,J,J,J,J,J,J,J,J,J,J,J,J,J,J,J,J,J,J,J,J],[b04,z5 acc])) (fun s=>OfI n s.1 s.2) (fun s=>s.2) ([],n.natAbs) [some 0,none]
   ⟨rfl⟩ ⟨rfl,rfl,⟨⟨rfl,rfl,rfl,.inl ⟨rfl,S6⟩⟩,⟨rfl,rfl⟩,trivial⟩,⟨e7 (by omega),⟨rfl,rfl,rfl⟩,rfl,⟨rfl,rfl,rfl⟩,trivial⟩⟩ ?_
  rintro ⟨acc,u⟩ hI
  have hI:OfI n acc u:=hI
  have hl:=hI.len h0 h1
  have hu:=hI.le
  have hm:(- (u:Int)).tmod 1048576=- ((u:Int) % 1048576):=by
   first
    |exact Int.tmod_eq_emod_of_nonneg (by omega)
    |(rw [Int.neg_tmod,Int.tmod_eq_emod_of_nonneg (by omega)])
  have hd:(- (u:Int)).tdiv 1048576=- ((u / 1048576:Nat):Int):=by
   first
    |(rw [Int.tdiv_eq_ediv_of_nonneg (by omega)];simp;done)
    |(rw [Int.neg_tdiv,Int.tdiv_eq_ediv_of_nonneg (by omega)];simp)
  by_cases hu0:0<u
  ·have hst:=hI.step hu0
   conv=>whnf
   repeat' first|(refine zd ?_ ?_<;>intro h<;>first|exact zc h|(exfalso;omega)|conv=>whnf)|((first|refine zz ?_|refine qp toC ?_|refine qp toC ?_|refine v7 (by simp [toC]) (by simp [toC];omega) ?_|refine ⟨by decide,_,C0 hd (by omega) (by omega),?_⟩|refine af4 (by decide) ?_|refine zy ?_);conv=>whnf)
   all_goals try (exfalso;omega)
   all_goals
    refine ⟨[some 0,some 2],(acc++[(u:Int) % 1048576],u / 1048576),⟨rfl,rfl,⟨⟨rfl,rfl,rfl,.inl ⟨rfl,S6⟩⟩,b8 rfl rfl rfl ?_ rfl,trivial⟩,⟨e7 rfl,⟨rfl,rfl,rfl⟩,rfl,k9 rfl (by simp [toC]),trivial⟩⟩,hst,by show u / 1048576<u;omega⟩
    have e:∀y:Int,y=(u:Int) % 1048576→(toC (acc.map i5)).take acc.length++toC [[ti y]]=toC ((acc++[(u:Int) % 1048576]).map i5):=fun y hy=>by rw [hy];exact a0W
    exact e _ (by omega)
  ·have h0u:u=0:=by omega
   subst h0u
   have e:acc=dg n.natAbs:=by have:=hI.eq;rw [S3,List.append_nil] at this;exact this
   have sg:=H7 (-1) n.natAbs (by omega) (by rw [← e];omega)
   rw [← e,show (-1)*(n.natAbs:Int)=n by omega] at sg
   conv=>whnf
   repeat' first|(refine zd ?_ ?_<;>intro h<;>first|exact zc h|(exfalso;omega)|conv=>whnf)|((first|refine zz ?_|refine qp 1 ?_|refine .inr ⟨_,_,t8 [1] sg ⟨aj3,a0k (v5 (by simp) rfl (by intro h;cases h) rfl rfl (by simp)),trivial⟩ rfl,?_⟩|refine zy ?_);conv=>whnf)
   all_goals try (exfalso;omega)
   exact k8 ⟨rfl,rfl,trivial⟩
 ·subst hn
  (refine a8 a7 Tryz.func176 rfl (by decide) ?_;(conv=>whnf);repeat (refine zy ?_;conv=>whnf))
  repeat' first|(refine zd ?_ ?_<;>intro h<;>first|exact zc h|(exfalso;omega)|conv=>whnf)|((first|refine zz ?_|refine zy ?_);conv=>whnf)
  all_goals first
   |(exfalso;omega)
   |exact k8 ⟨rfl,rfl,trivial⟩
 ·(refine a8 a7 Tryz.func176 rfl (by decide) ?_;(conv=>whnf);repeat (refine zy ?_;conv=>whnf))
  repeat' first|(refine zd ?_ ?_<;>intro h<;>first|exact zc h|(exfalso;omega)|conv=>whnf)|((first|refine zz ?_|refine zy ?_);conv=>whnf)
  all_goals try (exfalso;omega)
  refine o6 a7 (σ:=List Int × Nat) (fun|(acc,u)=>([a9 .i64 ((u:Int)),J,S.c (C.ptr 0 0 0),a9 .i64 (1),Y8 1 acc,J,J,J,J,J,J,J,J,J,J,J,J,J,J,J,J,J,J,J,J,J,J,J],[b04,z5 acc])) (fun s=>OfI n s.1 s.2) (fun s=>s.2) ([],n.natAbs) [some 0,none]
   ⟨rfl⟩ ⟨rfl,rfl,⟨⟨rfl,rfl,rfl,.inl ⟨rfl,S6⟩⟩,⟨rfl,rfl⟩,trivial⟩,⟨e7 (by omega),⟨rfl,rfl,rfl⟩,rfl,⟨rfl,rfl,rfl⟩,trivial⟩⟩ ?_
  rintro ⟨acc,u⟩ hI
  have hI:OfI n acc u:=hI
  have hl:=hI.len h0 h1
  have hu:=hI.le
  have hm:((u:Int)).tmod 1048576=((u:Int) % 1048576):=by
   first
    |exact Int.tmod_eq_emod_of_nonneg (by omega)
    |(rw [Int.neg_tmod,Int.tmod_eq_emod_of_nonneg (by omega)])
  have hd:((u:Int)).tdiv 1048576=((u / 1048576:Nat):Int):=by
   first
    |(rw [Int.tdiv_eq_ediv_of_nonneg (by omega)];simp;done)
    |(rw [Int.neg_tdiv,Int.tdiv_eq_ediv_of_nonneg (by omega)];simp)
  by_cases hu0:0<u
  ·have hst:=hI.step hu0
   conv=>whnf
   repeat' first|(refine zd ?_ ?_<;>intro h<;>first|exact zc h|(exfalso;omega)|conv=>whnf)|((first|refine zz ?_|refine qp toC ?_|refine qp toC ?_|refine v7 (by simp [toC]) (by simp [toC];omega) ?_|refine ⟨by decide,_,C0 hd (by omega) (by omega),?_⟩|refine af4 (by decide) ?_|refine zy ?_);conv=>whnf)
   all_goals try (exfalso;omega)
   all_goals
    refine ⟨[some 0,some 2],(acc++[(u:Int) % 1048576],u / 1048576),⟨rfl,rfl,⟨⟨rfl,rfl,rfl,.inl ⟨rfl,S6⟩⟩,b8 rfl rfl rfl ?_ rfl,trivial⟩,⟨e7 rfl,⟨rfl,rfl,rfl⟩,rfl,k9 rfl (by simp [toC]),trivial⟩⟩,hst,by show u / 1048576<u;omega⟩
    have e:∀y:Int,y=(u:Int) % 1048576→(toC (acc.map i5)).take acc.length++toC [[ti y]]=toC ((acc++[(u:Int) % 1048576]).map i5):=fun y hy=>by rw [hy];exact a0W
    exact e _ (by omega)
  ·have h0u:u=0:=by omega
   subst h0u
   have e:acc=dg n.natAbs:=by have:=hI.eq;rw [S3,List.append_nil] at this;exact this
   have sg:=H7 (1) n.natAbs (by omega) (by rw [← e];omega)
   rw [← e,show (1)*(n.natAbs:Int)=n by omega] at sg
   conv=>whnf
   repeat' first|(refine zd ?_ ?_<;>intro h<;>first|exact zc h|(exfalso;omega)|conv=>whnf)|((first|refine zz ?_|refine qp 1 ?_|refine .inr ⟨_,_,t8 [1] sg ⟨aj3,a0k (v5 (by simp) rfl (by intro h;cases h) rfl rfl (by simp)),trivial⟩ rfl,?_⟩|refine zy ?_);conv=>whnf)
   all_goals try (exfalso;omega)
   exact k8 ⟨rfl,rfl,trivial⟩
theorem b4p (x y:Int) (lx:bl x≤200000) (ly:bl y≤200000):b9 Tryz.prog 181 [bgS (bz x),bgS (bz y)] [] (.tup [bgS (bz (Int.gcd x y)),a9 .i64 0]) []:=by
 have r1:=Z5 x (by omega)
 have r2:=Z5 y (by omega)
 (refine a8 a7 Tryz.func181 rfl (by decide) ?_;(conv=>whnf);repeat (refine zy ?_;conv=>whnf))
 repeat' first|(refine zd ?_ ?_<;>intro h<;>first|exact zc h|(exfalso;omega)|conv=>whnf)|((first|refine zz ?_|refine qp r1 ?_|refine qp r2 ?_|refine zy ?_);conv=>whnf)
 all_goals first
  |(exfalso;simp_all;done)
  |skip
 refine o6 a7 (σ:=Nat × Nat) (fun|(X,Y)=>([J,J,J,J,S.c (C.ptr 0 0 0),J,g6 (dg X),g6 (dg Y),J,J,J,J,J,J,J,J,J,J,J,J,J,J,J,J,J,J,J,J,J,J,J,J,J,J,J,J],[b04])) (fun s=>b3L x y s.1 s.2) (fun s=>s.2) (x.natAbs,y.natAbs) [some 2]
  ⟨rfl,lx,ly⟩ ⟨rfl,rfl,⟨⟨rfl,rfl,rfl,.inl ⟨rfl,S6⟩⟩,trivial⟩,⟨⟨rfl,rfl,rfl⟩,rfl,rfl,trivial⟩⟩ ?_
 rintro ⟨X,Y⟩ hI
 have hI:b3L x y X Y:=hI
 obtain ⟨g1,g2,g3⟩:=hI
 have l2:((dg Y).map i5).length=(dg Y).length:=by simp
 by_cases hY:0<Y
 ·have hp:(dg Y).length≠0:=by rw [Ne,List.length_eq_zero_iff,N4];omega
  have dv:=b1V X Y hY (by omega) (by omega)
  conv=>whnf
  repeat' first|(refine zd ?_ ?_<;>intro h<;>first|exact zc h|(exfalso;omega)|conv=>whnf)|((first|refine zz ?_|refine qp dv ?_|refine zy ?_);conv=>whnf)
  all_goals first
   |(exfalso;omega)
   |exact ⟨[some 0],(Y,X % Y),⟨rfl,rfl,⟨⟨rfl,rfl,rfl,.inl ⟨rfl,S6⟩⟩,trivial⟩,⟨⟨rfl,rfl,rfl⟩,rfl,rfl,trivial⟩⟩,⟨by rw [← g1,Nat.gcd_comm Y,←Nat.gcd_rec,Nat.gcd_comm],g3,Nat.le_trans (o5 (Nat.le_of_lt (Nat.mod_lt X hY))) g3⟩,Nat.mod_lt X hY⟩
 ·have hY:Y=0:=by omega
  subst hY
  have hp:(dg 0).length=0:=rfl
  have s1:=H7 1 X (by simp) (by omega)
  conv=>whnf
  repeat' first|(refine zd ?_ ?_<;>intro h<;>first|exact zc h|(exfalso;omega)|conv=>whnf)|((first|refine zz ?_|refine qp s1 ?_|refine zy ?_);conv=>whnf)
  all_goals first
   |(exfalso;omega)
   |skip
  refine a4C ?_
  rw [Int.one_mul,show X=Int.gcd x y by rw [Int.gcd,←g1,Nat.gcd_zero_right]]
theorem b4n (x y:Int) (hy:0<y) (hxy:x % y=0) (lx:bl x≤200000) (ly:bl y≤200000):b9 Tryz.prog 189 [bgS (bz x),bgS (bz y)] [] (.tup [bgS (bz (x / y)),bgS (bz 0),a9 .i64 0]) []:=by
 have r1:=Z5 x (by omega)
 have r2:=Z5 y (by omega)
 have hys:(bz y).sg=1:=by rw [a9a,Int.sign_eq_one_of_pos hy]
 have ov:=b1V x.natAbs y.natAbs (by omega) lx ly
 have hmod:x.natAbs % y.natAbs=0:=by
  have:=Int.natAbs_dvd_natAbs.2 (Int.dvd_of_emod_eq_zero hxy)
  exact Nat.mod_eq_zero_of_dvd this
 have lq:=o5 (Nat.div_le_self x.natAbs y.natAbs)
 have hsg:(bz x).sg=x.sign:=rfl
 have hs:=C7 x
 have hq:x.sign*((x.natAbs / y.natAbs:Nat):Int)=x / y:=by
  obtain ⟨k,hk⟩:=Int.dvd_of_emod_eq_zero hxy
  subst hk
  have hk2:(y*k) / y=k:=Int.mul_ediv_cancel_left _ (by omega)
  rw [hk2,Int.natAbs_mul,Nat.mul_div_cancel_left _ (by omega),Int.sign_mul,Int.sign_eq_one_of_pos hy,Int.one_mul]
  exact Int.sign_mul_natAbs k
 have s1:=H7 x.sign (x.natAbs / y.natAbs) (by
  rcases hs with ⟨h,h1⟩|⟨h,h1⟩|⟨h,h1⟩
  ·right;right;subst h1;simp
  ·exact .inl h
  ·exact .inr (.inl h)) (by unfold bl at lx;omega)
 rw [hq] at s1
 have s2:=H7 x.sign 0 (by simp) (by rw [S3];simp)
 rw [show x.sign*((0:Nat):Int)=0 by simp] at s2
 have hmul:x.sign*1=x.sign:=Int.mul_one _
 have hd0:((dg (x.natAbs % y.natAbs)).map i5).length=0:=by rw [hmod,S3];rfl
 unfold aL4 at ov
 rw [hmod] at ov hd0
 (refine a8 a7 Tryz.func189 rfl (by decide) ?_;(conv=>whnf);repeat (refine zy ?_;conv=>whnf))
 repeat' first|(refine zd ?_ ?_<;>intro h<;>first|exact zc h|(exfalso;omega)|conv=>whnf)|((first|refine zz ?_|refine qp r1 ?_|refine qp r2 ?_|refine qp ov ?_|refine qp s1 ?_|refine qp s2 ?_|refine qp (hys,hsg) ?_|refine ⟨_,C0 (y:=x.sign) (by rw [hys,hsg];exact hmul) (by omega) (by omega),?_⟩|refine zy ?_);conv=>whnf)
 all_goals first
  |(exfalso;omega)
  |(exfalso;simp_all;done)
  |exact aN7 rfl rfl
theorem aM8 (p q:Int) (hq:0<q) (lp:bl p≤200000) (lq:bl q≤200000):b9 Tryz.prog 114 [bgS (bz p),bgS (bz q)] [] (.tup [frS (fz (Rat.divInt p q)),a9 .i64 0]) []:=by
 have r1:=Z5 p (by omega)
 have r2:=Z5 q (by omega)
 have hsg:(bz q).sg=1:=by rw [a9a,Int.sign_eq_one_of_pos hq]
 have lg:=a9e p q lp lq
 have hg:0<(Int.gcd p q:Int):=by have:=Int.gcd_pos_of_ne_zero_right p (b:=q) (by omega);omega
 have g:=b4p p q lp lq
 have d1:=b4n p _ hg (Int.emod_eq_zero_of_dvd (Int.gcd_dvd_left ..)) lp lg
 have d2:=b4n q _ hg (Int.emod_eq_zero_of_dvd (Int.gcd_dvd_right ..)) lq lg
 have e:=a6m (p:=p) (q:=q) (by omega) rfl
 (refine a8 a7 Tryz.func114 rfl (by decide) ?_;(conv=>whnf);repeat (refine zy ?_;conv=>whnf))
 repeat' first|(refine zd ?_ ?_<;>intro h<;>first|exact zc h|(exfalso;omega)|conv=>whnf)|((first|refine zz ?_|refine qp r1 ?_|refine qp r2 ?_|refine qp g ?_|refine qp d1 ?_|refine qp d2 ?_|refine zy ?_);conv=>whnf)
 all_goals first
  |(exfalso;omega)
  |(exfalso;simp_all;done)
  |exact T5 e.symm
theorem b6m (p q:Int) (hq:0<q) (p0:-9223372036854775808≤p) (p1:p≤9223372036854775807) (q1:q≤9223372036854775807):
 b9 Tryz.prog 106 [a9 .i64 p,a9 .i64 q] [] (.tup [frS (fz (Rat.divInt p q)),a9 .i64 0]) []:=by
 have l1:=N8 p0 p1
 have l2:=N8 (x:=q) (by omega) q1
 have o1:=b4L p p0 p1
 have o2:=b4L q (by omega) q1
 have n:=aM8 p q hq (by omega) (by omega)
 (refine a8 a7 Tryz.func106 rfl (by decide) ?_;(conv=>whnf);repeat (refine zy ?_;conv=>whnf))
 repeat' first|(refine zd ?_ ?_<;>intro h<;>first|exact zc h|(exfalso;omega)|conv=>whnf)|((first|refine zz ?_|refine qp o1 ?_|refine qp o2 ?_|refine qp n ?_|refine zy ?_);conv=>whnf)
 all_goals exact T5 rfl
theorem a2H (n:Int) (p0:-9223372036854775808≤n) (p1:n≤9223372036854775807):b9 Tryz.prog 41 [a9 .i64 n] [] (frS (fz (n:Rat))) []:=by
 have o:=b6m n 1 (by decide) p0 p1 (by decide)
 have e:Rat.divInt n 1=(n:Rat):=by rw [Rat.divInt_eq_div];simp;grind
 rw [e] at o
 (refine a8 a7 Tryz.func41 rfl (by decide) ?_;(conv=>whnf);repeat (refine zy ?_;conv=>whnf))
 repeat' first|(refine zd ?_ ?_<;>intro h<;>first|exact zc h|(exfalso;omega)|conv=>whnf)|((first|refine zz ?_|refine qp o ?_|refine zy ?_);conv=>whnf)
 all_goals exact k8 ⟨rfl,rfl,rfl,rfl,trivial⟩
end
section
open Go.RowKit
def aG2 (n:Int) (f:Fr):Bool:=decide ((f.p.dl.length:Int)≤n) && decide ((f.q.dl.length:Int)≤n)
theorem b4V (f:Fr) (n:Int):b9 Tryz.prog 64 [frS f,a9 .i64 n] [] (f7 (aG2 n f)) []:=by
 have l1:(f.p.dl.map i5).length=f.p.dl.length:=by simp
 have l2:(f.q.dl.map i5).length=f.q.dl.length:=by simp
 (refine a8 a7 Tryz.func64 rfl (by decide) ?_;(conv=>whnf);repeat ((first|refine b0x ?_|refine zy ?_);conv=>whnf))
 repeat' first|(refine zd ?_ ?_<;>intro h<;>first|exact zc h|(exfalso;omega)|conv=>whnf)|((first|refine zz ?_|refine zy ?_);conv=>whnf)
 all_goals (refine d8 ?_;unfold aG2;simp;omega)
theorem aI8.mono {m n:Nat} {hh:List (List Fr)} (h:aI8 m hh) (hmn:m≤n):aI8 n hh:=⟨h.l1,h.l2,fun l hl f hf=>by have:=h.l3 l hl f hf;omega⟩
end
section
open Go.RowKit
abbrev ir (n:Int):Rat:=((n:Int):Rat)
theorem b2o {n:Int} (h:-1000≤n∧n≤1000):rl (ir n)≤1:=by rw [Q7];have:=s6 (x:=n) (by omega) (by omega);omega
instance:DecidableEq B2:=fun a b=>decidable_of_iff (a.terms=b.terms∧a.kind=b.kind∧a.value=b.value) ⟨fun ⟨h1,h2,h3⟩=>by cases a;cases b;simp_all,fun h=>by subst h;exact ⟨rfl,rfl,rfl⟩⟩
instance:DecidableEq i8:=fun a b=>decidable_of_iff (a.n=b.n∧a.rows=b.rows) ⟨fun ⟨h1,h2⟩=>by cases a;cases b;simp_all,fun h=>by subst h;exact ⟨rfl,rfl⟩⟩
end
section
open Go.RowKit
theorem aH6:rl ((1:Int):Rat)≤200∧rl ((-1:Int):Rat)≤200∧rl ((0:Int):Rat)≤200:=by
 refine ⟨?_,?_,?_⟩
 ·have:=b2o (n:=1) (by decide);unfold ir at this;omega
 ·have:=b2o (n:=-1) (by decide);unfold ir at this;omega
 ·have:=b2o (n:=0) (by decide);unfold ir at this;omega
def ag5 (w:B2):Bool:=decide (w.terms.length≤100) && w.terms.all (fun t=>decide (rl t.2≤200)) && decide (rl w.value≤200)
theorem a9D {e:Ev} {p:Int}:∀k,(j6 e p k).all (fun t=>decide (rl t.2≤200))=true
 |0=>rfl
 |k+1=>by
  have ih:=a9D (e:=e) (p:=p) k
  unfold j6
  obtain ⟨p1,p2,p3⟩:=aH6
  split
  ·exact ih
  ·split
   ·rw [List.all_append,ih];simpa using p1
   ·split
    ·rw [List.all_append,ih];simpa using p2
    ·exact ih
theorem aL1 {i:Nat} {kind:Int} {v:Rat} (h:rl v≤200):ag5 (s9 i kind v)=true:=by
 obtain ⟨p1,p2,p3⟩:=aH6
 unfold ag5 s9
 simp [h];simpa using p1
theorem b3Q {t:g9} {kind:Int} {i:Nat} {x:n6} (hx:t.ev.moves[i]? =some x) (hf:I7 t.ev t.finds=0) (hm:t.ev.moves.length≤14):(H3 t kind i x).all ag5=true:=by
 obtain ⟨p1,p2,p3⟩:=aH6
 have hi:i<t.ev.moves.length:=(lg1 hx).1
 unfold H3
 rw [List.all_append,List.all_append,List.all_append]
 simp only [Bool.and_eq_true]
 refine ⟨⟨⟨?_,?_⟩,?_⟩,?_⟩
 ·split
  ·rfl
  ·simp only [List.all_cons,List.all_nil,Bool.and_true]
   unfold ag5 t4
   simp only [Bool.and_eq_true,decide_eq_true_eq]
   have hl:=a09 (e:=t.ev) (p:=x.src) i
   refine ⟨⟨?_,?_⟩,p3⟩
   ·rw [List.length_append];simp;omega
   ·rw [List.all_append,a9D];simpa using p2
 ·unfold K6
  split
  ·rfl
  ·rename_i lo hi' hiv
   have h:=a3b (e:=t.ev) (x:=x) (by rw [hiv];rfl)
   have e:hiR (D7 t.ev x)=hi':=by rw [hiv];rfl
   rw [e] at h
   simpa using aL1 h.2
 ·rw [List.all_map,List.all_eq_true]
  intro g hg
  unfold i6 at hg
  obtain ⟨f,hf',rfl⟩:=List.mem_map.1 hg
  have:=K2 hf f (List.mem_filter.1 hf').1
  have hb:=N8 (x:=f.grams) (by omega) (by omega)
  exact aL1 (by rw [Q7];omega)
 ·rw [List.all_eq_true]
  intro w hw
  rw [List.mem_replicate] at hw
  rw [hw.2]
  exact aL1 p3
theorem b5W {t:g9} {kind:Int} (ht:m8 t=0) (hm:t.ev.moves.length≤14):a6I (f9 t kind):=by
 obtain ⟨q1,q2,q3,q4,q5⟩:=z4 ht
 have hall:(p5 t kind t.ev.moves.length).all ag5=true:=(U0 _ (Nat.le_refl _)).2 fun i x hi hx=>b3Q hx q4 hm
 refine ⟨?_,fun w hw=>?_⟩
 ·have:=a4X (t:=t) (kind:=kind) (k:=t.ev.moves.length) (by omega) q2 q3
  show (p5 t kind t.ev.moves.length).length≤_
  omega
 ·have:=List.all_eq_true.1 hall w hw
  unfold ag5 at this
  simp only [Bool.and_eq_true,decide_eq_true_eq,List.all_eq_true] at this
  exact ⟨this.1.1,this.1.2,this.2⟩
end
section
theorem a9M {e:Ev} {l:List n6}:∀{last:Int},t9 e last l=0→l.Pairwise (fun a b=>a.day≤b.day)∧∀m ∈ l,last≤m.day∧m.day≤100000:=by
 induction l with
 |nil=>intro last _;simp
 |cons m r ih=>
  intro last h
  unfold t9 at h
  split at h
  ·simp at h
  ·rename_i hd
   split at h
   ·obtain ⟨h1,h2⟩:=ih h
    refine ⟨List.pairwise_cons.2 ⟨fun x hx=>(h2 x hx).1,h1⟩,fun x hx=>?_⟩
    rcases List.mem_cons.1 hx with rfl|hx
    ·omega
    ·have:=h2 x hx;omega
   ·simp at h
theorem aZ3 {e:Ev} (h0:y5 e=0) {m:n6} (hm:m ∈ e.moves):0≤m.day∧m.day≤100000:=(a9M (Y1 h0).2.2.2.2.2.1).2 m hm
theorem aX2 {e:Ev} (h0:y5 e=0) {hh mat lo hi x:Int}:x ∈ y0 e hh mat lo hi↔∃(j:Nat) (m:n6),e.moves[j]? =some m∧a0R e hh mat lo hi m=true∧x=(j:Int):=by
 unfold y0
 rw [if_pos h0,a23]
 constructor
 ·rintro ⟨i,m,h1,h2,h3⟩
  exact ⟨i,m,h1,h2,by simpa using h3⟩
 ·rintro ⟨i,m,h1,h2,h3⟩
  exact ⟨i,m,h1,h2,by simpa using h3⟩
section
variable {e:Ev} (h0:y5 e=0)
include h0
end
end
section
open Go.RowKit
theorem a3c {x:Int} (h0:-1000000000000000000≤x) (h1:x≤1000000000000000000):bl x≤3:=K8 (by simp only [pw];omega)
theorem b2r {c:G4} {reading day:Int} (h:H4 c day=true) (hr:btw reading 0 1099511627776=true):rl (a1a c reading day)≤7:=by
 unfold H4 N6 at h
 rw [S4] at hr
 simp only [Bool.and_eq_true,decide_eq_true_eq,S4] at h
 obtain ⟨⟨⟨⟨⟨⟨⟨h1,h2⟩,h3⟩,_⟩,h4⟩,h5⟩,h6⟩,h7⟩:=h
 have e1:0≤c.permille*reading:=Int.mul_nonneg (by omega) (by omega)
 have e2:c.permille*reading≤1000*1099511627776:=Int.mul_le_mul (by omega) (by omega) (by omega) (by omega)
 have e3:0≤c.drift*(day - c.since):=Int.mul_nonneg (by omega) (by omega)
 have e4:c.drift*(day - c.since)≤10000000*100000:=Int.mul_le_mul (by omega) (by omega) (by omega) (by omega)
 have b1:=a3c (x:=c.permille*reading) (by omega) (by omega)
 have b2:=a3c (x:=1000) (by decide) (by decide)
 have b3:=a3c (x:=c.grams+c.drift*(day - c.since)) (by omega) (by omega)
 have l1:=Z2 (p:=c.permille*reading) (q:=1000) (by decide)
 have l2:=Y0 (Rat.divInt (c.permille*reading) 1000) ((c.grams+c.drift*(day - c.since):Int):Rat)
 have l3:rl ((c.grams+c.drift*(day - c.since):Int):Rat)≤3:=by
  rw [Q7];omega
 unfold a1a
 omega
theorem b1Y {cs:List G4} {rs:List z6} {scale reading day:Int} {lo hi:Rat} (h:L1 cs rs scale reading day=some (lo,hi)):rl hi≤11:=by
 unfold L1 at h
 split at h
 ·cases h
 ·rename_i i hi
  obtain ⟨hb,c,hc,_,hcv⟩:=L7 hi
  have e:a1x cs i=c:=by unfold a1x;rw [hc];rfl
  rw [e] at h
  split at h
  ·cases h
  ·split at h
   ·rename_i hr
    injection h with h
    injection h with h1 h2
    have l1:=b2r hcv hr
    rw [S4] at hr
    have l2:rl (reading:Rat)≤3:=by rw [Q7];have:=a3c (x:=reading) (by omega) (by omega);omega
    have l3:=Y0 (reading:Rat) (a1a c reading day)
    rw [← h2];omega
   ·cases h
def F9 (l:List (Int × Rat)):Prop:=∀t ∈ l,∃c:Int,t.2=((c:Int):Rat)∧bl c≤1
theorem a0v {i:Int} {c:Int} (h0:-1048575≤c) (h1:c≤1048575):F9 [(i,((c:Int):Rat))]:=by
 intro t ht
 simp at ht
 subst ht
 exact ⟨c,rfl,s6 h0 h1⟩
theorem a6z {a b:List (Int × Rat)} (ha:F9 a) (hb:F9 b):F9 (a++b):=by
 intro t ht
 rcases List.mem_append.1 ht with h|h
 ·exact ha t h
 ·exact hb t h
theorem a4k {e:Ev} {p:Int}:∀k,F9 (j6 e p k)
 |0=>by intro t ht;cases ht
 |k+1=>by
  have ih:=a4k (e:=e) (p:=p) k
  unfold j6
  split
  ·exact ih
  ·split
   ·exact a6z ih (a0v (by decide) (by decide))
   ·split
    ·exact a6z ih (a0v (by decide) (by decide))
    ·exact ih
theorem b4k {t:g9} {kind:Int} (ht:m8 t=0):∀w ∈ (f9 t kind).rows,a3z 11 w:=by
 classical
 obtain ⟨q1,q2,q3,q4,q5⟩:=z4 ht
 have z1:rl ((0:Int):Rat)≤11:=by have:=rl0;show rl 0≤_;omega
 have key:(p5 t kind t.ev.moves.length).all (fun w=>decide (a3z 11 w))=true:=(U0 _ (Nat.le_refl _)).2 fun i x hi hx=>by
  rw [List.all_eq_true]
  intro w hw
  refine decide_eq_true ?_
  unfold H3 at hw
  rw [List.mem_append,List.mem_append,List.mem_append] at hw
  rcases hw with ((hw|hw)|hw)|hw
  ·split at hw
   ·cases hw
   ·simp at hw;subst hw
    exact ⟨a6z (a4k _) (a0v (by decide) (by decide)),z1⟩
  ·unfold K6 at hw
   split at hw
   ·cases hw
   ·rename_i lo hi' hiv
    simp at hw;subst hw
    refine ⟨a0v (by decide) (by decide),?_⟩
    unfold D7 at hiv
    split at hiv
    ·cases hiv
    ·exact b1Y hiv
  ·obtain ⟨g,hg,rfl⟩:=List.mem_map.1 hw
   unfold i6 at hg
   obtain ⟨f,hf',rfl⟩:=List.mem_map.1 hg
   have:=K2 q4 f (List.mem_filter.1 hf').1
   refine ⟨a0v (by decide) (by decide),?_⟩
   show rl ((f.grams:Int):Rat)≤11
   rw [Q7]
   have:=a3c (x:=f.grams) (by omega) (by omega)
   have h1:bl 1≤1:=s6 (by decide) (by decide)
   omega
  ·rw [List.mem_replicate] at hw
   rw [hw.2]
   exact ⟨a0v (by decide) (by decide),z1⟩
 intro w hw
 exact of_decide_eq_true (List.all_eq_true.1 key w hw)
theorem b69 {s:i8} {g:List (Int × Rat)} {B0:Nat} (hI:∀w ∈ s.rows,a3z B0 w) (hg:F9 g):∀D,V5 (e6 s).length s.n.toNat (g8 s g) D→BdD (e6 s).length s.n.toNat (2 ^ s.n.toNat*(B0+4)) D:=by
 rintro D ⟨k,hk⟩
 have inv:=a3P a1U hk
 have h0:=aW5 (g:=g) hI
 refine ⟨fun i hi=>b2x h0 (by omega) inv.p inv.i hi,fun i hi j hj=>aS0 h0 (by omega) inv.p inv.i hi hj,fun j hj=>?_⟩
 obtain ⟨z,hz⟩:=inv.g
 have hc:∀j,∃c:Int,y6 g j=((c:Int):Rat)∧bl c≤1:=fun j=>a0X hg g.length j
 refine aT4 h0 (by omega) inv.p inv.i hz (q:=1) (b:=fun l=>-(Classical.choose (hc l))) (by decide) (by have:=s6 (x:=1) (by decide) (by decide);omega) (fun l hl=>?_) (fun l hl=>?_) hj
 ·have:=(Classical.choose_spec (hc l)).2
  show bl (-(Classical.choose (hc l)))≤_
  rw [a22];omega
 ·have hs:=(Classical.choose_spec (hc l)).1
  show ((1:Int):Rat)*-(y6 g l)=((-(Classical.choose (hc l)):Int):Rat)
  generalize Classical.choose (hc l)=x at hs ⊢
  rw [hs]
  have e:((-x:Int):Rat)=-((x:Int):Rat):=by push_cast;rfl
  rw [e]
  have h1:((1:Int):Rat)=1:=rfl
  rw [h1];grind
theorem a2V {l:List (Int × Rat)} {z:List Rat} {B:Nat} (h1:∀t ∈ l,rl t.2≤1) (h2:∀v ∈ z,rl v≤B):∀k,rl (k7 (l.take k) z)≤l.length*(B+4)+1:=by
 have key:∀k,k≤l.length→rl (k7 (l.take k) z)≤k*(B+4)+1:=by
  intro k
  induction k with
  |zero=>intro _;rw [List.take_zero];have:=rl0;show rl 0≤_;omega
  |succ k ih=>
   intro hk
   have ih:=ih (by omega)
   rw [List.take_succ_eq_append_getElem (show k<l.length by omega),L4]
   have a1:=h1 l[k] (List.getElem_mem _)
   have a2:rl (z.getD l[k].1.toNat 0)≤B+1:=by
    by_cases hz:l[k].1.toNat<z.length
    ·have:=h2 _ (lg2 (getD_some hz));omega
    ·rw [lg3,List.getElem?_eq_none (by omega)]
     have:=rl0
     show rl 0≤_
     omega
   have a3:=a4O l[k].2 (z.getD l[k].1.toNat 0)
   have a4:=Y0 (k7 (l.take k) z) (l[k].2*z.getD l[k].1.toNat 0)
   rw [Nat.succ_mul]
   omega
 intro k
 by_cases hk:k≤l.length
 ·have h3:=key k hk
  have h4:=Nat.mul_le_mul_right (B+4) hk
  omega
 ·have h3:=key l.length (Nat.le_refl _)
  rw [lg4 (Nat.le_refl _)] at h3
  rw [lg4 (by omega)];exact h3
end
section
open Go.RowKit
theorem a16 {l:List (Int × Rat)} (h:F9 l):∀t ∈ l,rl t.2≤1:=by
 intro t ht
 obtain ⟨c,hc,hb⟩:=h t ht
 rw [hc,Q7]
 have h1:bl 1≤1:=s6 (by decide) (by decide)
 omega
theorem aK5:∀n,n≤8→(n+3)*(2 ^ n*15+2)≤50000∧n*(2 ^ n*15+4)+1≤50000∧1≤2 ^ n*15:=by
 intro n hn
 have:∀n,n<9→(n+3)*(2 ^ n*15+2)≤50000∧n*(2 ^ n*15+4)+1≤50000∧1≤2 ^ n*15:=by decide
 exact this n (by omega)
theorem B6 {t:g9} {kind:Int} (ht:m8 t=0) (hm:t.ev.moves.length≤8) {g:List (Int × Rat)} (hg:j1 (-1) (t.ev.moves.length:Nat) g=true) (hw:F9 g):
 C2 (f9 t kind) g t.ev.moves.length (2 ^ t.ev.moves.length*15):=by
 obtain ⟨q1,q2,q3,q4,q5⟩:=z4 ht
 have hB:=b5W (kind:=kind) ht (by omega)
 have hl:(f9 t kind).rows.length≤576:=by
  have h1:=a1g (t:=t) (kind:=kind) t.ev.moves.length
  have h2:t.ev.moves.length*(2+t.finds.length+t.cleans.length)≤8*72:=Nat.mul_le_mul hm (by omega)
  show (p5 t kind t.ev.moves.length).length≤_
  omega
 have hwr:=a16 hw
 refine ⟨⟨ah7 (by omega) q2 q3,hg,rfl,by omega,fun w hw=>?_,fun t ht=>by have:=hwr t ht;omega,by omega⟩,hB,fun t ht=>by have:=hwr t ht;omega,?_,(aK5 _ hm).2.2,(aK5 _ hm).1,by omega⟩
 ·obtain ⟨a1,a2,a3⟩:=hB.t w hw
  exact ⟨by omega,fun t ht=>by have:=a2 t ht;omega⟩
 ·exact b69 (B0:=11) (b4k ht) hw
theorem a1P {s:i8} {g:List (Int × Rat)} {n B:Nat} (h:C2 s g n B):∀v ∈ j2 s g,rl v≤B:=by
 intro v hv
 have hb:=a6s h
 have hn:=h.nn
 have h1:=h.b1
 obtain ⟨j,hj,rfl⟩:=a5d hv
 have hp:Q5 (e6 s).length s.n.toNat (m9 s g):=J2.p
 rw [hn] at hj hp ⊢
 rw [← aL8 hp hj]
 have key:∀k,k≤(e6 s).length→rl (ptK n (m9 s g).O (m9 s g).V (fun _=>0) k j)≤B:=by
  intro k
  induction k with
  |zero=>intro _;have:=rl0;show rl 0≤_;omega
  |succ k ih=>
   intro hk
   rw [N1]
   simp only
   split
   ·exact hb.v k (by omega)
   ·exact ih (by omega)
 exact key _ (Nat.le_refl _)
theorem a44 {l:List (Int × Rat)} (h:F9 l):F9 (w8 l):=by
 intro t ht
 obtain ⟨u,hu,rfl⟩:=List.mem_map.1 ht
 obtain ⟨c,hc,hb⟩:=h u hu
 refine ⟨-c,?_,by rw [a22];exact hb⟩
 show u.2*((-1:Int):Rat)=((-c:Int):Rat)
 rw [hc]
 have e:((-c:Int):Rat)=-((c:Int):Rat):=by push_cast;rfl
 have e1:((-1:Int):Rat)=-1:=rfl
 rw [e,e1];grind
theorem a41 {n:Int}:∀{l:List (Int × Rat)} {last:Int},j1 last n l=true→j1 last n (w8 l)=true
 |[],_,_=>rfl
 |a::r,last,h=>by
  unfold j1 at h
  show j1 last n ((a.1,a.2*((-1:Int):Rat))::w8 r)=true
  unfold j1
  simp only [Bool.and_eq_true,decide_eq_true_eq] at h ⊢
  refine ⟨⟨⟨h.1.1.1,h.1.1.2⟩,fun e=>h.1.2 ?_⟩,a41 h.2⟩
  have e1:((-1:Int):Rat)=-1:=rfl
  rw [e1] at e
  grind
theorem a2c (l:List (Int × Rat)):(w8 l).length=l.length:=a0B _ _
theorem aC3 {t:g9} {kind:Int} (ht:m8 t=0) (hm:t.ev.moves.length≤8) {g:List (Int × Rat)} (hg:j1 (-1) (t.ev.moves.length:Nat) g=true) (hw:F9 g):
 aY6 (f9 t kind) g t.ev.moves.length (2 ^ t.ev.moves.length*15) (2 ^ t.ev.moves.length*15) (2 ^ t.ev.moves.length*15):=by
 have p:=B6 (kind:=kind) ht hm hg hw
 have q:=B6 (kind:=kind) ht hm (a41 hg) (a44 hw)
 have z:=B6 (kind:=kind) ht hm (g:=[]) rfl (fun t ht=>by cases ht)
 have hl:g.length≤t.ev.moves.length:=by
  have:=C8 hg
  omega
 have hp:=(aK5 _ hm).2.1
 have hmul:=Nat.mul_le_mul_right (2 ^ t.ev.moves.length*15+4) hl
 refine ⟨p,q,z,a70 (by omega) hg,fun k=>?_,fun k=>?_⟩
 ·have:=a2V (a16 hw) (a1P p) k
  omega
 ·have:=a2V (a16 (a44 hw)) (a1P q) k
  rw [a2c] at this
  omega
noncomputable def x3 (s:i8) (g:List (Int × Rat)) (hh:Int):a0J:=
 open Classical in
 if 0<k7 g (j2 s g) then b24 s g hh else match I6 s (w8 g) with
 |.col c=>a4s s g c hh
 |_=>if k7 (w8 g) (j2 s (w8 g))<0 then b45 s g hh else a7B s g hh
theorem a5m {z:List Rat} (hz:∀v ∈ z,0≤v):∀l:List (Int × Rat),(∀ t ∈ l,0≤t.2)→0≤k7 l z:=by
 intro l hl
 have key:∀k,k≤l.length→0≤k7 (l.take k) z:=by
  intro k
  induction k with
  |zero=>intro _;rw [List.take_zero];exact Rat.le_refl
  |succ k ih=>
   intro hk
   have ih:=ih (by omega)
   rw [List.take_succ_eq_append_getElem (show k<l.length by omega),L4]
   have h1:=hl l[k] (List.getElem_mem _)
   have h2:0≤z.getD l[k].1.toNat 0:=by
    by_cases hlt:l[k].1.toNat<z.length
    ·exact hz _ (lg2 (getD_some hlt))
    ·rw [lg3,List.getElem?_eq_none (by omega)];exact Rat.le_refl
   have h3:=Rat.mul_nonneg h1 h2
   grind
 have:=key l.length (Nat.le_refl _)
 rwa [List.take_length] at this
theorem a6v {s:i8} {g:List (Int × Rat)} (hr:j8 s=true) (hg:j1 (-1) ((s.n.toNat:Nat):Int) g=true) (hp:∀t ∈ g,0≤t.2) (hz:I6 s []=.best):I6 s g=.best:=by
 rcases a6k s g with h|⟨r,h⟩|⟨c,h⟩
 ·exact h
 ·have h1:=(a0E hr rfl hz).1
  rw [a7H h] at h1;cases h1
 ·obtain ⟨h1,h2⟩:=ak0 hr hg h
  have:=a5m h1.pos g hp
  exact absurd h2 (by grind)
theorem ak8 {s:i8} {g:List (Int × Rat)} (hr:j8 s=true) (hz:I6 s []=.best):I6 s g=.best∨∃c,I6 s g=.col c:=by
 rcases a6k s g with h|⟨r,h⟩|h
 ·exact .inl h
 ·have h1:=(a0E hr rfl hz).1
  rw [a7H h] at h1;cases h1
 ·exact .inr h
theorem aZ8 (s:i8) (g:List (Int × Rat)) (n B B1 B0:Nat) (h:aY6 s g n B B1 B0) (hh:Int) (hp:∀t ∈ g,0≤t.2) (hz:I6 s []=.best):
 b9 Tryz.prog 62 [U9 s,m7 g,a9 .i64 hh] [] (aD8 (x3 s g hh)) []:=by
 have hn:=h.p.nn
 have hg:j1 (-1) ((s.n.toNat:Nat):Int) g=true:=by rw [hn];exact h.p.o.tg
 have hb:=a6v h.p.o.r hg hp hz
 unfold x3
 by_cases h1:0<k7 g (j2 s g)
 ·rw [if_pos h1];exact a8p s g n B B1 B0 h hh hb h1
 ·rw [if_neg h1]
  rcases ak8 (g:=w8 g) h.p.o.r hz with h2|⟨c,h2⟩
  ·rw [h2];simp only
   by_cases h3:k7 (w8 g) (j2 s (w8 g))<0
   ·rw [if_pos h3];exact am5 s g n B B1 B0 h hh hb h1 h2 h3
   ·rw [if_neg h3];exact a9V s g n B B1 B0 h hh hb h1 h2 h3
  ·rw [h2];exact a9L s g n B B1 B0 c h hh hb h1 h2 hz
end
section
open Go.RowKit
theorem a7a {n:Int}:∀{l:List Int} {last:Int},(∀ (i:Nat) (x:Int),l[i]? =some x→last<x∧x<n)→(∀ (i:Nat) (x y:Int),l[i]? =some x→l[i+1]? =some y→x<y)→j1 last n (a0p l)=true
 |[],_,_,_=>rfl
 |a::r,last,h1,h2=>by
  show j1 last n ((a,((1:Int):Rat))::a0p r)=true
  unfold j1
  simp only [Bool.and_eq_true,decide_eq_true_eq]
  have h3:=h1 0 a rfl
  refine ⟨⟨h3,by decide⟩,a7a (fun i x hx=>?_) (fun i x y hx hy=>h2 (i+1) x y (by simpa using hx) (by simpa using hy))⟩
  have h4:=h1 (i+1) x (by simpa using hx)
  refine ⟨?_,h4.2⟩
  have key:∀(i:Nat) (x:Int),r[i]? =some x→a<x:=by
   intro i
   induction i with
   |zero=>intro x hx;exact h2 0 a x rfl (by simpa using hx)
   |succ i ih=>
    intro x hx
    obtain ⟨y,hy⟩:∃y,r[i]? =some y:=⟨_,lg0 (by have:=(lg1 hx).1;omega)⟩
    have:=ih y hy
    have:=h2 (i+1) y x (by simpa using hy) (by simpa using hx)
    omega
  exact key i x hx
theorem a08 (t:g9) (h:Int):j1 (-1) (t.ev.moves.length:Nat) (p6 t h)=true:=by
 obtain ⟨a1,a2⟩:=ae4 t.ev h (-1) 0 100000
 exact a7a (fun i x hx=>by have:=a1 i x hx;omega) a2
theorem a3j (t:g9) (h:Int):F9 (p6 t h):=by
 intro u hu
 obtain ⟨i,_,rfl⟩:=List.mem_map.1 hu
 exact ⟨1,rfl,s6 (by decide) (by decide)⟩
theorem a6Q (t:g9) (h:Int):∀u ∈ p6 t h,0≤u.2:=by
 intro u hu
 obtain ⟨i,_,rfl⟩:=List.mem_map.1 hu
 show (0:Rat)≤((1:Int):Rat)
 decide
theorem a2t {t:g9} {h:Int}:(y0 t.ev h (-1) 0 100000).length≤t.ev.moves.length:=by
 have:=C8 (a08 t h)
 have e:(p6 t h).length=(y0 t.ev h (-1) 0 100000).length:=by simp [p6,a0p]
 omega
noncomputable def D3 (t:g9) (kind:Int) (k:Nat):List a0J:=(List.range k).map fun i:Nat=>x3 (f9 t kind) (p6 t (i:Int)) (i:Int)
theorem T6 (t:g9) (kind:Int) (k:Nat):(D3 t kind k).length=k:=by simp [D3]
theorem as4 (t:g9) (kind:Int) (k:Nat):D3 t kind (k+1)=D3 t kind k++[x3 (f9 t kind) (p6 t k) k]:=by simp [D3,List.range_succ]
abbrev b6o (l:List a0J):T:=.sl 5 .any (l.map a0J.row)
abbrev a7j (l:List a0J):S:=.c (.t (b6o l))
abbrev b5p (l:List a0J):Blk:={ mode:=.live,elem:=46,size:=5,rows:=toC (l.map a0J.row),box:=false }
abbrev b49 (s:i8):Blk:={ mode:=.live,elem:=70,size:=2,rows:=[[.t (ti s.n),.t (M5 s.rows)]],box:=true }
theorem aP3 (s:i8):G8 (b49 s).rows:=i7 [[ti s.n,M5 s.rows]]
set_option maxHeartbeats 2000000 in
theorem V7 (t:g9) (kind:Int) (hs:t.Sized) (h:a1B t kind≠0):b9 Tryz.prog 17 [trS t,a9 .i64 kind] [] (.tup [a7j [],a9 .i64 1]) []:=by
 have sy:=a8w t kind hs
 (refine a8 a7 Tryz.func17 rfl (by decide) ?_;(conv=>whnf);repeat ((first|refine b0x ?_|refine zy ?_);conv=>whnf))
 repeat' first|(refine zd ?_ ?_<;>intro h<;>first|exact zc h|(exfalso;omega)|conv=>whnf)|((first|refine zz ?_|refine qp sy ?_|refine qp 5 ?_|refine bl0 [5] ?_|refine zy ?_);conv=>whnf)
 all_goals first
  |(exfalso;omega)
  |exact k8 ⟨rfl,rfl,trivial⟩
set_option maxHeartbeats 2000000 in
theorem L0 (t:g9) (kind:Int) (hs:t.Sized) (ht:m8 t=0) (k0:0≤kind) (k1:kind<8) (hm:t.ev.moves.length≤8) (r:Nat) (hz:I6 (f9 t kind) []=.row r):
 b9 Tryz.prog 17 [trS t,a9 .i64 kind] [] (.tup [a7j [],a9 .i64 15]) []:=by
 have sy:=a8w t kind hs
 have hc:¬(m8 t≠0∨kind<0∨8≤kind):=by omega
 have e1:a1B t kind=0:=if_neg hc
 have e2:a6d t kind=f9 t kind:=if_neg hc
 rw [e1,e2] at sy
 have so:=a9P (f9 t kind) _ _ r (B6 (kind:=kind) ht hm (g:=[]) rfl (fun t ht=>by cases ht)) hz
 (refine a8 a7 Tryz.func17 rfl (by decide) ?_;(conv=>whnf);repeat ((first|refine b0x ?_|refine zy ?_);conv=>whnf))
 repeat' first|(refine zd ?_ ?_<;>intro h<;>first|exact zc h|(exfalso;omega)|conv=>whnf)|((first|refine zz ?_|refine qp sy ?_|refine qp so ?_|refine qp 5 ?_|refine bl0 [5] ?_|refine zy ?_);conv=>whnf)
 all_goals first
  |(exfalso;omega)
  |exact k8 ⟨rfl,rfl,trivial⟩
set_option maxHeartbeats 4000000 in
theorem R4 (t:g9) (kind:Int) (hs:t.Sized) (ht:m8 t=0) (k0:0≤kind) (k1:kind<8) (hm:t.ev.moves.length≤8) (hh:Nat) (hhs:t.ev.hhs=hh) (h100:hh≤1000) (hz:I6 (f9 t kind) []=.best):
 b9 Tryz.prog 17 [trS t,a9 .i64 kind] [] (.tup [a7j (D3 t kind hh),a9 .i64 0]) []:=by
 have sy:=a8w t kind hs
 have hc:¬(m8 t≠0∨kind<0∨8≤kind):=by omega
 have e1:a1B t kind=0:=if_neg hc
 have e2:a6d t kind=f9 t kind:=if_neg hc
 rw [e1,e2] at sy
 have lz:=B6 (kind:=kind) ht hm (g:=[]) rfl (fun t ht=>by cases ht)
 have so:=a8s (f9 t kind) _ _ lz hz (fun v hv=>by have:=a5p lz v hv;omega)
 (refine a8 a7 Tryz.func17 rfl (by decide) ?_;(conv=>whnf);repeat ((first|refine b0x ?_|refine zy ?_);conv=>whnf))
 repeat' first|(refine zd ?_ ?_<;>intro h<;>first|exact zc h|(exfalso;omega)|conv=>whnf)|((first|refine zz ?_|refine qp sy ?_|refine qp so ?_|refine qp 5 ?_|refine bl0 [5] ?_|refine zy ?_);conv=>whnf)
 all_goals try (exfalso;omega)
 refine f8 a7 (fun k=>([J,J,S.c (C.t (T.ptr (trT t))),J,J,J,S.c (C.ptr 0 0 0),J,J,J,J,S.c (C.own 1 0 k true),J,J,J,J,J,J,J,J,J,J,J,J,J,J,J,J,J,J,J,a9 .i64 hh,a9 .i64 k,J,J,J,J,J,J,J,J,J,J,J,J,J],[b49 (f9 t kind),b5p (D3 t kind k)])) hh (fun _=>True) [some 0,none] trivial
  ⟨rfl,rfl,⟨j7 (aP3 _),⟨rfl,rfl⟩,trivial⟩,⟨j3 rfl,⟨rfl,rfl,rfl⟩,⟨rfl,rfl,rfl⟩,e7 hhs,e7 rfl,trivial⟩⟩ ?_
 intro k hk _
 by_cases hlt:k<hh
 ·have go:=am1 t hs k (by have:=a2t (t:=t) (h:=k);omega)
  have eg:a4g t k=p6 t k:=if_pos ⟨ht,by omega,by omega⟩
  rw [eg] at go
  have ve:=aZ8 (f9 t kind) (p6 t k) _ _ _ _ (aC3 (kind:=kind) ht hm (a08 t k) (a3j t k)) k (a6Q t k) hz
  have lA:k≤(b5p (D3 t kind k)).rows.length:=by show k≤(toC _).length;simp [toC,T6]
  conv=>whnf
  repeat' first|(refine zd ?_ ?_<;>intro h<;>first|exact zc h|(exfalso;omega)|conv=>whnf)|((first|refine zz ?_|refine qp go ?_|refine qp ve ?_|refine qp toC ?_|refine v7 lA (by simp [toC];omega) ?_|refine zy ?_);conv=>whnf)
  all_goals first
   |(exfalso;omega)
   |(refine ⟨hlt,trivial,[some 0,some 2],rfl,rfl,⟨j7 (aP3 _),b8 (rows:=(D3 t kind (k+1)).map a0J.row) rfl rfl rfl ?_ rfl,trivial⟩,⟨rfl,⟨rfl,rfl,rfl⟩,⟨rfl,rfl,rfl,fun h=>h⟩,rfl,e7 (by omega),trivial⟩⟩
     rw [as4]
     exact a0S (f:=a0J.row) (x:=x3 (f9 t kind) (p6 t k) k) (T6 t kind k).symm)
 ·have hke:k=hh:=by omega
  subst hke
  conv=>whnf
  repeat' first|(refine zd ?_ ?_<;>intro h<;>first|exact zc h|(exfalso;omega)|conv=>whnf)|((first|refine zz ?_|refine zy ?_);conv=>whnf)
  all_goals first
   |(exfalso;omega)
   |exact k8 ⟨(show VC _ (fun id=>K3 [] id=true) (C.own 1 0 k true) _ from v5 (k:=b5p (D3 t kind k)) rfl rfl (fun h=>h) rfl rfl (by simp [T6])),rfl,trivial⟩
end
section
structure a9J (a b:List Int) (i:Nat) (out:List Int) (c:Int):Prop where
 len:out.length=i
 ok:Okd out
 le:i≤max a.length b.length+1
 top:i=max a.length b.length+1→c=0
 c0:0≤c
 c1:c≤1
 eq:val out+pw i*c=val (a.take i)+val (b.take i)
theorem a9J.init (a b:List Int):a9J a b 0 [] 0:=⟨rfl,.nil,Nat.zero_le _,fun _=>rfl,by decide,by decide,by simp [val]⟩
theorem a9J.step {a b out:List Int} {i:Nat} {c:Int} (h:a9J a b i out c) (ha:Okd a) (hb:Okd b) (hi:i<a.length∨i<b.length∨0<c):
 a9J a b (i+1) (out++[(dat a i+dat b i+c) % 1048576]) ((dat a i+dat b i+c) / 1048576):=by
 have h1:=ha.dat i
 have h2:=hb.dat i
 have h3:=h.c0
 have h4:=h.c1
 have hl:=h.le
 have ht:=h.top
 have hi2:i≤max a.length b.length:=by
  rcases Nat.lt_or_ge (max a.length b.length) i with h5|h5
  ·have:=ht (by omega);omega
  ·exact h5
 refine ⟨by simp [h.len],h.ok.append (Okd.cons (a3C _) .nil),by omega,fun e=>?_,by omega,by omega,?_⟩
 ·have e1:dat a i=0:=M9 (by omega)
  have e2:dat b i=0:=M9 (by omega)
  rw [e1,e2];omega
 ·rw [J9,h.len,p7,p7,E9]
  have h5:=h.eq
  have h6:(dat a i+dat b i+c) % 1048576=dat a i+dat b i+c - 1048576*((dat a i+dat b i+c) / 1048576):=by omega
  simp only [val]
  rw [h6]
  grind
theorem a9J.fin {a b out:List Int} {i:Nat} {c:Int} (h:a9J a b i out c) (la:a.length≤i) (lb:b.length≤i) (hc:c≤0):F7 out=dg (val a+val b).toNat:=by
 have h1:=h.eq
 have h2:=h.c0
 obtain rfl:c=0:=by omega
 rw [lg4 la,lg4 lb] at h1
 rw [I8 h.ok]
 congr 2
 grind
end
section
open Go.RowKit
theorem b4t (a b:List Int) (ha:Okd a) (hb:Okd b) (la:a.length≤400000) (lb:b.length≤400000):
 b9 Tryz.prog 185 [g6 a,g6 b] [] (g6 (dg (val a+val b).toNat)) []:=by
 have l1:(a.map i5).length=a.length:=by simp
 have l2:(b.map i5).length=b.length:=by simp
 (refine a8 a7 Tryz.func185 rfl (by decide) ?_;(conv=>whnf);repeat (refine zy ?_;conv=>whnf))
 repeat' first|(refine zd ?_ ?_<;>intro h<;>first|exact zc h|(exfalso;omega)|conv=>whnf)|((first|refine zz ?_|refine zy ?_);conv=>whnf)
 refine o6 a7 (σ:=Nat × List Int × Int) (fun|(k,out,c)=>([g6 a,g6 b,J,J,J,Y8 0 out,a9 .i64 c,a9 .i64 k,J,J,J,J,J,J,J,J,J,J,J,J,J,J,J,J,J,J,J,J,J,J,J,J,J,J,J,J,J,J,J,J,J,J,J],[z5 out])) (fun x=>a9J a b x.1 x.2.1 x.2.2) (fun x=>max a.length b.length+1 - x.1) (0,[],0) [none]
  (a9J.init a b) ⟨rfl,rfl,⟨⟨rfl,rfl⟩,trivial⟩,⟨j3 rfl,j3 rfl,⟨rfl,rfl,rfl⟩,rfl,rfl,trivial⟩⟩ ?_
 rintro ⟨k,out,c⟩ hI
 have hI:a9J a b k out c:=hI
 have hlen:=hI.len
 have hle:=hI.le
 have hc0:=hI.c0
 have hc1:=hI.c1
 have hda:=ha.dat k
 have hdb:=hb.dat k
 have d1:=a3O a k (by omega)
 have d2:=a3O b k (by omega)
 have hm:(dat a k+dat b k+c).tmod 1048576=(dat a k+dat b k+c) % 1048576:=Int.tmod_eq_emod_of_nonneg (by omega)
 have hd:(dat a k+dat b k+c).tdiv 1048576=(dat a k+dat b k+c) / 1048576:=Int.tdiv_eq_ediv_of_nonneg (by omega)
 by_cases hgo:k<a.length∨k<b.length∨0<c
 ·have hst:=hI.step ha hb hgo
  have hk2:=hst.le
  conv=>whnf
  repeat' first|(refine zd ?_ ?_<;>intro h<;>first|exact zc h|(exfalso;omega)|conv=>whnf)|((first|refine zz ?_|refine qp d1 ?_|refine qp d2 ?_|refine qp toC ?_|refine qp toC ?_|refine v7 (by simp [toC]) (by simp [toC];omega) ?_|refine ⟨by decide,_,C0 hd (by omega) (by omega),?_⟩|refine af4 (by decide) ?_|refine zy ?_);conv=>whnf)
  all_goals try (exfalso;omega)
  all_goals
   refine ⟨[some 1],(k+1,out++[(dat a k+dat b k+c) % 1048576],(dat a k+dat b k+c) / 1048576),⟨rfl,rfl,⟨b8 rfl rfl rfl ?_ rfl,trivial⟩,⟨rfl,rfl,k9 rfl (by simp [toC]),rfl,e7 (by omega),trivial⟩⟩,hst,?_⟩
   ·have e:∀y:Int,y=(dat a k+dat b k+c) % 1048576→(toC (out.map i5)).take out.length++toC [[ti y]]=toC ((out++[(dat a k+dat b k+c) % 1048576]).map i5):=fun y hy=>by rw [hy];exact a0W
    exact e _ (by omega)
   ·show max a.length b.length+1 - (k+1)<max a.length b.length+1 - k
    omega
 ·have hf:=hI.fin (by omega) (by omega) (by omega)
  have t:=a4z out (by omega)
  rw [hf] at t
  conv=>whnf
  repeat' first|(refine zd ?_ ?_<;>intro h<;>first|exact zc h|(exfalso;omega)|conv=>whnf)|((first|refine zz ?_|refine qp 0 ?_|refine .inr ⟨_,_,t8 [0] t ⟨a0k (v5 (by simp) rfl (by intro h;cases h) rfl rfl (by simp)),trivial⟩ rfl,?_⟩|refine zy ?_);conv=>whnf)
  all_goals first
   |(exfalso;omega)
   |exact a89 rfl
theorem b38 (m n:Nat) (lm:(dg m).length≤300000) (ln:(dg n).length≤300000):b9 Tryz.prog 185 [g6 (dg m),g6 (dg n)] [] (g6 (dg (m+n))) []:=by
 have h:=b4t (dg m) (dg n) (p9 m) (p9 n) (by omega) (by omega)
 rw [n7,n7,show ((m:Int)+n).toNat=m+n by omega] at h
 exact h
theorem a5P (m n:Nat) (lm:(dg m).length≤300000) (h:n≤m):b9 Tryz.prog 187 [g6 (dg m),g6 (dg n)] [] (g6 (dg (m - n))) []:=by
 have h:=aQ7 (dg m) (dg n) (p9 m) (p9 n) (by omega) (o5 h) (by rw [n7,n7];omega)
 rw [n7,n7,show ((m:Int) - n).toNat=m - n by omega] at h
 exact h
theorem aR4 (m n:Nat) (lm:(dg m).length≤300000) (ln:(dg n).length≤300000):b9 Tryz.prog 186 [g6 (dg m),g6 (dg n)] [] (f7 (decide (m<n))) []:=by
 have h:=b0m (dg m) (dg n) (p9 m) (p9 n) (by omega) (by omega)
 rw [n7,n7,show decide ((m:Int)<n)=decide (m<n) by simp] at h
 exact h
theorem b2S (s:Int) (m:Nat) (h:Sg s m) (lm:(dg m).length≤300000):b9 Tryz.prog 180 [bgS ⟨s,dg m⟩] [] (f7 true) []:=by
 have:=a2r ⟨s,dg m⟩ (show (dg m).length≤1000000 by omega)
 rw [← a5E h,W5,a5E h] at this
 exact this
theorem b46 (x:Int) (lx:bl x≤300000):b9 Tryz.prog 188 [bgS (bz x)] [] (bgS (bz (-x))) []:=by
 have r:=Z5 x lx
 have hs:=C7 x
 have hsg:(bz x).sg=x.sign:=rfl
 have sg:=H7 (0 - (bz x).sg) x.natAbs (by omega) (by unfold bl at lx;omega)
 rw [show (0 - (bz x).sg)*(x.natAbs:Int)=-x by rw [hsg];have:=sgm x;grind] at sg
 (refine a8 a7 Tryz.func188 rfl (by decide) ?_;(conv=>whnf);repeat ((first|refine b0x ?_|refine zy ?_);conv=>whnf))
 repeat' first|(refine zd ?_ ?_<;>intro h<;>first|exact zc h|(exfalso;omega)|conv=>whnf)|((first|refine zz ?_|refine qp r ?_|refine qp sg ?_|refine zy ?_);conv=>whnf)
 all_goals first
  |(exfalso;simp_all;done)
  |exact k8 ⟨rfl,rfl,trivial⟩
end
end Go.Proofs.YtdbogogfeffjlaaGreat
