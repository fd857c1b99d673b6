/- Chapter 21 in plain Lean: the system of a kind of foreign matter, and its solutions. No program is in sight. -/
import Derived.Test.YtaejgdbahjjncaaGreatWj13
namespace Go.Proofs.YtaejgdbahjjncaaGreat
set_option linter.unusedVariables false
set_option linter.unusedSimpArgs false
set_option maxRecDepth 100000
set_option maxHeartbeats 8000000
open Go.RowKit
open St1 St2 St3 St4 St5 St6 St7 St8 StA StB
theorem a93 (x:Rat) (h:rl x<=60000):a8 Tryz.prog 54 [frS (fz x)] [] (frS (fz x)) []:=by
 have n1:=Z1 x h
 have n2:=Z1 (-x) (by rw [R9];exact h)
 rw [show - -x=x by grind] at n2
 (refine ac Tryz.func54 ?_;(conv=>whnf);repeat ((first|refine b0x ?_|refine zy ?_);conv=>whnf))
 repeat' (first|refine zx ?_|refine qp n1 ?_|refine qp n2 ?_|refine zd ?_ ?_<;>intro h<;>try omega|fail)<;>conv=>whnf
 all_goals exact b0C rfl
theorem a7q (b:List (Int × Rat)):x7 [] b=b:=by rw [x7]
theorem aP3 (t:Int × Rat) (r:List (Int × Rat)):x7 (t::r) []=t::x7 r []:=by
 rw [x7]
 cases r with
 |nil=>rw [x7]
 |cons a r=>rw [x7]
theorem b53 {t u:Int × Rat} {r q:List (Int × Rat)} (h:t.1<u.1):x7 (t::r) (u::q)=t::x7 r (u::q):=by rw [x7,if_pos h]
theorem b3B {t u:Int × Rat} {r q:List (Int × Rat)} (h:u.1<t.1):x7 (t::r) (u::q)=u::x7 (t::r) q:=by rw [x7,if_neg (by omega),if_pos h]
theorem aU9 {t u:Int × Rat} {r q:List (Int × Rat)} (h:t.1=u.1) (h0:t.2+u.2=0):x7 (t::r) (u::q)=x7 r q:=by rw [x7,if_neg (by omega),if_neg (by omega),if_pos h0]
theorem b3A {t u:Int × Rat} {r q:List (Int × Rat)} (h:t.1=u.1) (h0:¬t.2+u.2=0):x7 (t::r) (u::q)=(t.1,t.2+u.2)::x7 r q:=by rw [x7,if_neg (by omega),if_neg (by omega),if_neg h0]
structure b9L (a b:List (Int × Rat)) (n:Nat) (x:List (Int × Rat) × List (Int × Rat) × List (Int × Rat)):Prop where
 e:x.1++x7 x.2.1 x.2.2=x7 a b
 o:x.1.length+x.2.1.length+x.2.2.length<=n
 a:∀t ∈ x.2.1,rl t.2<=200
 b:∀t ∈ x.2.2,rl t.2<=200
theorem b7T (a b:List (Int × Rat)) (ha:d6 (-1) 1500 a=true) (hb:d6 (-1) 1500 b=true) (ba:∀t ∈ a,rl t.2<=200) (bb:∀t ∈ b,rl t.2<=200):
 a8 Tryz.prog 14 [j1 a,j1 b] [] (j1 (x7 a b)) []:=by
 have la:=z7 ha
 have lb:=z7 hb
 have r1:=B8 a 1500 (by omega) ba
 have r2:=B8 b 1500 (by omega) bb
 rw [ha] at r1
 rw [hb] at r2
 (refine ac Tryz.func14 ?_;(conv=>whnf);repeat ((first|refine b0x ?_|refine zy ?_);conv=>whnf))
 repeat' (first|refine zx ?_|refine qp r1 ?_|refine qp r2 ?_|refine zd ?_ ?_<;>intro h<;>try omega|fail)<;>conv=>whnf
 all_goals try (exfalso;simp_all;done)
 refine s7 b9 (σ:=List (Int × Rat) × List (Int × Rat) × List (Int × Rat)) (fun x=>([j1 x.2.1,j1 x.2.2,J,J,J,S.c (C.own 0 0 x.1.length true)]++Jn 112,[E3 x.1])) (b9L a b 3000) (fun x=>x.2.1.length+x.2.2.length) ([],a,b) [none]
  ⟨rfl,by simp;omega,ba,bb⟩ ⟨rfl,rfl,⟨⟨rfl,rfl⟩,trivial⟩,⟨rfl,rfl,⟨rfl,rfl,rfl⟩,trivial⟩⟩ ?_
 rintro ⟨o,a',b'⟩ ⟨h1,h2,h3,h4⟩
 simp only at h1 h2 h3 h4
 rw [← h1]
 show a0w _ _ _ _ ([j1 a',j1 b',J,J,J,S.c (C.own 0 0 o.length true)]++Jn 112) [E3 o] _
 have ma:(a'.map i8).length=a'.length:=by simp
 have mb:(b'.map i8).length=b'.length:=by simp
 have lA:o.length<=(E3 o).rows.length:=by show o.length<=(toC _).length;simp [toC]
 cases a' with
 |nil=>
  have na:([]:List (Int × Rat)).length=0:=rfl
  cases b' with
  |nil=>
   rw [a7q,R7]
   conv=>whnf
   repeat' (first|refine zx ?_|refine zd ?_ ?_<;>intro h<;>try omega|fail)<;>conv=>whnf
   all_goals first
    |omega
    |exact K6 rfl (fun h=>h) rfl rfl (by simp)
  |cons u q=>
   have nb:(u::q).length=q.length+1:=rfl
   have bu:=h4 u (K9 ..)
   have fr:=a93 u.2 (by omega)
   conv=>whnf
   repeat' (first|refine zx ?_|refine qp fr ?_|refine qp 0 ?_|refine qp toC ?_|refine T2 (by omega) (by omega) (by omega) ?_|refine p9 (k:=0) rfl (show (u::q)[0]? =some u from rfl) ?_|refine o6 lA (by simp [toC];omega) ?_|refine zd ?_ ?_<;>intro h<;>try omega|fail)<;>conv=>whnf
   all_goals first
    |omega
    |exact ⟨[some 1],(o++[(u.1,u.2)],[],q),⟨rfl,rfl,⟨b7 (rows:=(o++[(u.1,u.2)]).map i8) rfl rfl rfl (L0 (f:=i8) (x:=(u.1,u.2)) rfl) rfl,trivial⟩,⟨rfl,g9 (a75 u q),⟨rfl,rfl,by simp [toC],fun h=>h⟩,trivial⟩⟩,⟨by simp only [a7q];rw [← h1,a7q,lbD];try rfl,by simp only [lbq,lbu,K5] at h2 ⊢;omega,h3,fun t ht=>h4 t (O6 _ ht)⟩,by simp⟩
 |cons t r=>
  have na:(t::r).length=r.length+1:=rfl
  have bt:=h3 t (K9 ..)
  cases b' with
  |nil=>
   have nb:([]:List (Int × Rat)).length=0:=rfl
   have fr:=a93 t.2 (by omega)
   conv=>whnf
   repeat' (first|refine zx ?_|refine qp fr ?_|refine qp 0 ?_|refine qp toC ?_|refine T2 (by omega) (by omega) (by omega) ?_|refine p9 (k:=0) rfl (show (t::r)[0]? =some t from rfl) ?_|refine o6 lA (by simp [toC];omega) ?_|refine zd ?_ ?_<;>intro h<;>try omega|fail)<;>conv=>whnf
   all_goals first
    |omega
    |exact ⟨[some 1],(o++[(t.1,t.2)],r,[]),⟨rfl,rfl,⟨b7 (rows:=(o++[(t.1,t.2)]).map i8) rfl rfl rfl (L0 (f:=i8) (x:=(t.1,t.2)) rfl) rfl,trivial⟩,⟨g9 (a75 t r),rfl,⟨rfl,rfl,by simp [toC],fun h=>h⟩,trivial⟩⟩,⟨by show _++x7 _ _=x7 a b;rw [← h1,aP3,lbD];rfl,by simp only [lbq,lbu,K5] at h2 ⊢;omega,fun t ht=>h3 t (O6 _ ht),h4⟩,by simp⟩
  |cons u q=>
   have nb:(u::q).length=q.length+1:=rfl
   have bu:=h4 u (K9 ..)
   rcases a9Z t.1 u.1 with hlt|he|hgt
   ·have fr:=a93 t.2 (by omega)
    conv=>whnf
    repeat' (first|refine zx ?_|refine qp fr ?_|refine qp 0 ?_|refine qp 0 ?_|refine qp toC ?_|refine T2 (by omega) (by omega) (by omega) ?_|refine p9 (k:=0) rfl (show (t::r)[0]? =some t from rfl) ?_|refine p9 (k:=0) rfl (show (u::q)[0]? =some u from rfl) ?_|refine o6 lA (by simp [toC];omega) ?_|refine zd ?_ ?_<;>intro h<;>try omega|fail)<;>conv=>whnf
    all_goals first
     |omega
     |exact ⟨[some 1],(o++[(t.1,t.2)],r,u::q),⟨rfl,rfl,⟨b7 (rows:=(o++[(t.1,t.2)]).map i8) rfl rfl rfl (L0 (f:=i8) (x:=(t.1,t.2)) rfl) rfl,trivial⟩,⟨g9 (a75 t r),rfl,⟨rfl,rfl,by simp [toC],fun h=>h⟩,trivial⟩⟩,⟨by show _++x7 _ _=x7 a b;rw [← h1,b53 hlt,lbD];rfl,by simp only [lbq,lbu,K5] at h2 ⊢;omega,fun t ht=>h3 t (O6 _ ht),h4⟩,by simp⟩
   ·have ad:=a4o t.2 u.2 (by omega) (by omega)
    have ab:=a3Z t.2 u.2
    have sg:=T8 (t.2+u.2) (by omega)
    have sz:=a2J (x:=t.2+u.2)
    by_cases hz:t.2+u.2=0
    ·have hs:=sz.2 hz
     conv=>whnf
     repeat' (first|refine zx ?_|refine qp ad ?_|refine qp sg ?_|refine qp 0 ?_|refine qp 0 ?_|refine qp toC ?_|refine qp 11 ?_|refine T2 (by omega) (by omega) (by omega) ?_|refine p9 (k:=0) rfl (show (t::r)[0]? =some t from rfl) ?_|refine p9 (k:=0) rfl (show (u::q)[0]? =some u from rfl) ?_|refine o6 lA (by simp [toC];omega) ?_|refine bl0 [11] ?_|refine zd ?_ ?_<;>intro h<;>try omega|fail)<;>conv=>whnf
     all_goals first
      |omega
      |exact ⟨[some 0],(o,r,q),⟨rfl,rfl,⟨b7 (rows:=o.map i8) rfl rfl rfl rfl rfl,trivial⟩,⟨g9 (a75 t r),g9 (a75 u q),⟨rfl,rfl,rfl,fun h=>h⟩,trivial⟩⟩,⟨by show _++x7 _ _=x7 a b;rw [← h1,aU9 he hz],by simp only [lbq,lbu,K5] at h2 ⊢;omega,fun t ht=>h3 t (O6 _ ht),fun t ht=>h4 t (O6 _ ht)⟩,by simp;omega⟩
    ·have hs:sgR (t.2+u.2)≠0:=fun h=>hz (sz.1 h)
     conv=>whnf
     repeat' (first|refine zx ?_|refine qp ad ?_|refine qp sg ?_|refine qp 0 ?_|refine qp 0 ?_|refine qp toC ?_|refine qp 11 ?_|refine T2 (by omega) (by omega) (by omega) ?_|refine p9 (k:=0) rfl (show (t::r)[0]? =some t from rfl) ?_|refine p9 (k:=0) rfl (show (u::q)[0]? =some u from rfl) ?_|refine o6 lA (by simp [toC];omega) ?_|refine bl0 [11] ?_|refine zd ?_ ?_<;>intro h<;>try omega|fail)<;>conv=>whnf
     all_goals first
      |omega
      |exact ⟨[some 2],(o++[(t.1,t.2+u.2)],r,q),⟨rfl,rfl,⟨b7 (rows:=(o++[(t.1,t.2+u.2)]).map i8) rfl rfl rfl (L0 (f:=i8) (x:=(t.1,t.2+u.2)) rfl) rfl,trivial⟩,⟨g9 (a75 t r),g9 (a75 u q),⟨rfl,rfl,by simp [toC],fun h=>h⟩,trivial⟩⟩,⟨by show _++x7 _ _=x7 a b;rw [← h1,b3A he hz,lbD];rfl,by simp only [lbq,lbu,K5] at h2 ⊢;omega,fun t ht=>h3 t (O6 _ ht),fun t ht=>h4 t (O6 _ ht)⟩,by simp;omega⟩
   ·have fr:=a93 u.2 (by omega)
    conv=>whnf
    repeat' (first|refine zx ?_|refine qp fr ?_|refine qp 0 ?_|refine qp 0 ?_|refine qp toC ?_|refine T2 (by omega) (by omega) (by omega) ?_|refine p9 (k:=0) rfl (show (t::r)[0]? =some t from rfl) ?_|refine p9 (k:=0) rfl (show (u::q)[0]? =some u from rfl) ?_|refine o6 lA (by simp [toC];omega) ?_|refine zd ?_ ?_<;>intro h<;>try omega|fail)<;>conv=>whnf
    all_goals first
     |omega
     |exact ⟨[some 1],(o++[(u.1,u.2)],t::r,q),⟨rfl,rfl,⟨b7 (rows:=(o++[(u.1,u.2)]).map i8) rfl rfl rfl (L0 (f:=i8) (x:=(u.1,u.2)) rfl) rfl,trivial⟩,⟨rfl,g9 (a75 u q),⟨rfl,rfl,by simp [toC],fun h=>h⟩,trivial⟩⟩,⟨by show _++x7 _ _=x7 a b;rw [← h1,b3B hgt,lbD];rfl,by simp only [lbq,lbu,K5] at h2 ⊢;omega,h3,fun t ht=>h4 t (O6 _ ht)⟩,by simp⟩
abbrev pkB (l:List E0):Blk:={ mode:=.live,elem:=54,size:=2,rows:=toC (l.map E0.row),box:=false }
theorem a6Q {P:Program} {g:FuncId} {H H':Hp} {r a c d:S} (h:a8 P g [a,G7 [],a0j a7x a7x,c,d] H r H'):a8 P g [a,.c av4,.agg (b6L++b6L),c,d] H r H':=
 b2g (a5D h ⟨Q7 a,(fun w M v hr=>hr.weak rfl),Q7 _,Q7 c,Q7 d,trivial⟩)
theorem ar3 {l:List Int} (h:l.Pairwise (·<·)) {a x:Int} (ha:l[l.length - 1]? =some a) (hx:x ∈ l):x<=a:=by
 obtain ⟨i,hi,rfl⟩:=Y0 hx
 obtain ⟨hl,rfl⟩:=lbe.1 ha
 by_cases he:i=l.length - 1
 ·subst he;exact a5l _
 ·have:=af8.1 h i (l.length - 1) hi hl (by omega)
  omega
theorem a83 {α:Type} (p:Nat->α->Bool):∀(l:List α) (k:Nat),(l9 p k l).length<=l.length
 |[],k=>lbQ _
 |a::r,k=>by
  have ih:=a83 p r (k+1)
  rw [l9]
  split
  ·rw [lbu,lbu];omega
  ·rw [lbu];omega
theorem b6J (e:Ev) (p n:Int):(a3z e p n).Pairwise (·<·):=by
 unfold a3z;split
 ·exact U4 _ _ _
 ·exact List.Pairwise.nil
theorem b58 (e:Ev) (p n:Int):(a1V e p n).Pairwise (·<·):=by
 unfold a1V;split
 ·exact U4 _ _ _
 ·exact List.Pairwise.nil
theorem b0G (e:Ev) (p n:Int):(a3z e p n).length<=e.moves.length:=by
 unfold a3z;split
 ·exact a83 _ _ _
 ·exact B9 _
theorem aM0 (e:Ev) (p n:Int):(a1V e p n).length<=e.moves.length:=by
 unfold a1V;split
 ·exact a83 _ _ _
 ·exact B9 _
theorem b6W {e:Ev} {p:Int} (h0:p7 e=0) {x:Int}:x ∈ a3z e p e.moves.length↔∃(i:Nat) (m:j5),e.moves[i]? =some m∧m.dst=p∧x=(i:Int):=by
 unfold a3z
 rw [if_pos h0,a10]
 constructor
 ·rintro ⟨i,m,h1,h2,rfl⟩
  simp only [lbM,lbI] at h2
  exact ⟨i,m,h1,h2.2,by simp⟩
 ·rintro ⟨i,m,h1,h2,rfl⟩
  have:=(lbe.1 h1).1
  exact ⟨i,m,h1,by simp only [lbM,lbI];exact ⟨by omega,h2⟩,by simp⟩
theorem aD4 {e:Ev} {p:Int} (h0:p7 e=0) {x:Int}:x ∈ a1V e p e.moves.length↔∃(i:Nat) (m:j5),e.moves[i]? =some m∧m.src=p∧x=(i:Int):=by
 unfold a1V
 rw [if_pos h0,a10]
 constructor
 ·rintro ⟨i,m,h1,h2,rfl⟩
  simp only [lbM,lbI] at h2
  exact ⟨i,m,h1,h2.2,by simp⟩
 ·rintro ⟨i,m,h1,h2,rfl⟩
  have:=(lbe.1 h1).1
  exact ⟨i,m,h1,by simp only [lbM,lbI];exact ⟨by omega,h2⟩,by simp⟩
theorem aZ7 (e:Ev) (ps:List E0):a0a 1 (y9 e ps):=by
 unfold y9;split
 ·intro t ht
  obtain ⟨v,_,rfl⟩:=lbx.1 ht
  exact ⟨1,rfl,by decide⟩
 ·intro t ht;cases ht
theorem b8s {g:List (Int × Rat)} (h:a0a 1 g):a0a 1 (a0r g):=by
 intro t ht
 obtain ⟨u,hu,rfl⟩:=lbx.1 ht
 obtain ⟨c,hc,hb⟩:=h u hu
 refine ⟨c*(-1),?_,by omega⟩
 show u.2*((-1:Int):Rat)=_
 rw [hc,Rat.intCast_mul]
theorem b8J {B:Nat} {g:List (Int × Rat)} (h:a0a B g) (hB:B<=1048575):A7 g:=fun t ht=>by
 obtain ⟨c,h1,h2⟩:=h t ht
 exact ⟨c,h1,S5 (by omega) (by omega)⟩
abbrev b9O (e:Ev) (a b:List E0):List (Int × Rat):=x7 (y9 e a) (a0r (y9 e b))
theorem b1H (e:Ev) (a b:List E0):A7 (b9O e a b):=b8J (aV4 _ (lbQ _) (aZ7 e a) (b8s (aZ7 e b))) (by decide)
theorem a8I {l:List Int} {k m:Nat} {x:Int} (h:l[k]? =some x):m9 (l.take (k+1)) m=m9 (l.take k) m++[⟨x,m⟩]:=by
 unfold m9
 rw [lbG,h,Option.toList_some,lbC];rfl
theorem b7R (e:Ev) (p:Int) (p0:0<=p) (p1:p<=255) (hf:a56 e [] 5 2=false∨e.purities.length > 2∨e.places.length=0):a8 Tryz.prog 3 [evS e,a7 .u8 p] [] (d9 true) []:=by
 have wl:=a6T
 have fw:=a6Q (a9N e [] 5 2)
 have l5:(e.purities.map w9.row).length=e.purities.length:=by simp
 have l3:(e.places.map C2.row).length=e.places.length:=by simp
 cases hk:a56 e [] 5 2 with
 |false=>
  rw [hk] at fw
  (refine ac Tryz.func3 ?_;(conv=>whnf);repeat ((first|refine b0x ?_|refine zy ?_);conv=>whnf))
  repeat' (first|refine zx ?_|refine qp wl ?_|refine qp fw ?_|refine zd ?_ ?_<;>intro h<;>try omega|fail)<;>conv=>whnf
  all_goals first
   |exact c9 rfl
 |true=>
  rw [hk] at fw
  have hf:e.purities.length > 2∨e.places.length=0:=by
   rcases hf with hf|hf
   ·rw [hk] at hf;cases hf
   ·exact hf
  (refine ac Tryz.func3 ?_;(conv=>whnf);repeat ((first|refine b0x ?_|refine zy ?_);conv=>whnf))
  repeat' (first|refine zx ?_|refine qp wl ?_|refine qp fw ?_|refine zd ?_ ?_<;>intro h<;>try omega|fail)<;>conv=>whnf
  all_goals first
   |exact c9 rfl
   |(exfalso;(try dsimp only at *);omega)
theorem b8V (e:Ev) (p:Int) (p0:0<=p) (p1:p<=255) (hk:a56 e [] 5 2=true) (hpu:e.purities.length<=2) (hpl:0<e.places.length) (hn:p7 e≠0∨∀z,g6 (A0 e) z=false):a8 Tryz.prog 3 [evS e,a7 .u8 p] [] (d9 true) []:=by
 have wl:=a6T
 have fw:=a6Q (a9N e [] 5 2)
 have l5:(e.purities.map w9.row).length=e.purities.length:=by simp
 have l3:(e.places.map C2.row).length=e.places.length:=by simp
 obtain ⟨hE,_,hm,_,_⟩:=a6f hk (by decide)
 rw [hk] at fw
 have po:=a54 e hE hn
 (refine ac Tryz.func3 ?_;(conv=>whnf);repeat ((first|refine b0x ?_|refine zy ?_);conv=>whnf))
 repeat' (first|refine zx ?_|refine qp wl ?_|refine qp fw ?_|refine qp po ?_|refine zd ?_ ?_<;>intro h<;>try omega|fail)<;>conv=>whnf
 all_goals first
  |exact c9 rfl
  |(exfalso;(try dsimp only at *);omega)
structure b3X (e:Ev) (a p:Int) (I O:List Int):Prop where
 p0:0<=a
 p1:a<=255
 few:a56 e [] 5 2=true
 pu:e.purities.length<=2
 pl:0<e.places.length
 c:p7 e=0
 z:∃z,g6 (A0 e) z=true
 hp:p=a.tmod e.places.length
 i:a3z e p e.moves.length=I
 o:a1V e p e.moves.length=O
theorem b8A (e:Ev) (a p:Int) (I O:List Int) (H:b3X e a p I O) (hq:a0L e p=true∨I.length=0∨O.length=0):a8 Tryz.prog 3 [evS e,a7 .u8 a] [] (d9 true) []:=by
 have wl:=a6T
 have fw:=a6Q (a9N e [] 5 2)
 have l5:(e.purities.map w9.row).length=e.purities.length:=by simp
 have l3:(e.places.map C2.row).length=e.places.length:=by simp
 have l4:(e.moves.map j5.row).length=e.moves.length:=by simp
 have lI:(I.map d7).length=I.length:=by simp
 have lO:(O.map d7).length=O.length:=by simp
 have p0:=H.p0
 have p1:=H.p1
 have hpu:=H.pu
 have hpl:=H.pl
 obtain ⟨hE,_,hm,_,_⟩:=a6f H.few (by decide)
 rw [H.few] at fw
 have po:=P4 e hE H.c H.z
 have hne:((e.places.map C2.row).length:Int)≠0:=by rw [l3];omega
 have ai:=aX0 e hE.sz p e.moves.length
 have ao:=b4a e hE.sz p e.moves.length
 have sr:=ag4 e hE.sz p
 rw [H.i] at ai
 rw [H.o] at ao
 have hp:=H.hp
 rw [← l3] at hp
 rw [hp,←l4] at ai ao
 cases hs:a0L e p with
 |true=>
  rw [hs,hp] at sr
  (refine ac Tryz.func3 ?_;(conv=>whnf);repeat ((first|refine b0x ?_|refine zy ?_);conv=>whnf))
  repeat' (first|refine zx ?_|refine qp wl ?_|refine qp fw ?_|refine qp po ?_|refine qp ai ?_|refine qp ao ?_|refine qp sr ?_|refine ⟨hne,?_⟩|refine B3 _ (by decide +kernel) rfl ?_|refine zd ?_ ?_<;>intro h<;>try omega|fail)<;>conv=>whnf
  all_goals first
   |exact c9 rfl
   |(exfalso;(try dsimp only at *);omega)
 |false=>
  have hq:I.length=0∨O.length=0:=by
   rcases hq with hq|hq
   ·rw [hs] at hq;cases hq
   ·exact hq
  rw [hs,hp] at sr
  (refine ac Tryz.func3 ?_;(conv=>whnf);repeat ((first|refine b0x ?_|refine zy ?_);conv=>whnf))
  repeat' (first|refine zx ?_|refine qp wl ?_|refine qp fw ?_|refine qp po ?_|refine qp ai ?_|refine qp ao ?_|refine qp sr ?_|refine ⟨hne,?_⟩|refine B3 _ (by decide +kernel) rfl ?_|refine zd ?_ ?_<;>intro h<;>try omega|fail)<;>conv=>whnf
  all_goals first
   |exact c9 rfl
   |(exfalso;(try dsimp only at *);omega)
theorem b8I (e:Ev) (a p:Int) (I O:List Int) (H:b3X e a p I O) (hq:a0L e p=false) (hI:0<I.length) (hO:0<O.length) (last mx:Int) (x:j5) (oL:O[O.length - 1]? =some last) (iL:I[I.length - 1]? =some mx) (mL:e.moves[last.toNat]? =some x) (l0:0<=last)
 (hf:x.all=false∨mx > last):a8 Tryz.prog 3 [evS e,a7 .u8 a] [] (d9 true) []:=by
 have wl:=a6T
 have fw:=a6Q (a9N e [] 5 2)
 have l5:(e.purities.map w9.row).length=e.purities.length:=by simp
 have l3:(e.places.map C2.row).length=e.places.length:=by simp
 have l4:(e.moves.map j5.row).length=e.moves.length:=by simp
 have lI:(I.map d7).length=I.length:=by simp
 have lO:(O.map d7).length=O.length:=by simp
 have p0:=H.p0
 have p1:=H.p1
 have hpu:=H.pu
 have hpl:=H.pl
 obtain ⟨hE,_,hm,_,_⟩:=a6f H.few (by decide)
 rw [H.few] at fw
 have po:=P4 e hE H.c H.z
 have hne:((e.places.map C2.row).length:Int)≠0:=by rw [l3];omega
 have ai:=aX0 e hE.sz p e.moves.length
 have ao:=b4a e hE.sz p e.moves.length
 have sr:=ag4 e hE.sz p
 have bI:=b0G e p e.moves.length
 have bO:=aM0 e p e.moves.length
 rw [H.i] at ai bI
 rw [H.o] at ao bO
 have hp:=H.hp
 rw [← l3] at hp
 rw [hp,←l4] at ai ao
 rw [hq,hp] at sr
 have xO:((O.map d7).length:Int) - 1=((O.length - 1:Nat):Int):=by rw [lO];omega
 have xI:((I.map d7).length:Int) - 1=((I.length - 1:Nat):Int):=by rw [lI];omega
 cases ha:x.all with
 |false=>
  (refine ac Tryz.func3 ?_;(conv=>whnf);repeat ((first|refine b0x ?_|refine zy ?_);conv=>whnf))
  repeat' (first|refine zx ?_|refine qp wl ?_|refine qp fw ?_|refine qp po ?_|refine qp ai ?_|refine qp ao ?_|refine qp sr ?_|refine ⟨hne,?_⟩|refine p9 xO oL ?_|refine p9 xI iL ?_|refine F6 l0 mL ?_|refine B3 _ (by decide +kernel) rfl ?_|refine zd ?_ ?_<;>intro h<;>try omega|fail)<;>conv=>whnf
  all_goals first
   |exact c9 rfl
   |(exfalso;(try dsimp only at *);omega)
   |(exfalso;rename_i h9;rw [ha] at h9;cases h9;done)
 |true=>
  have hf:mx > last:=by
   rcases hf with hf|hf
   ·rw [ha] at hf;cases hf
   ·exact hf
  (refine ac Tryz.func3 ?_;(conv=>whnf);repeat ((first|refine b0x ?_|refine zy ?_);conv=>whnf))
  repeat' (first|refine zx ?_|refine qp wl ?_|refine qp fw ?_|refine qp po ?_|refine qp ai ?_|refine qp ao ?_|refine qp sr ?_|refine ⟨hne,?_⟩|refine p9 xO oL ?_|refine p9 xI iL ?_|refine F6 l0 mL ?_|refine B3 _ (by decide +kernel) rfl ?_|refine zd ?_ ?_<;>intro h<;>try omega|fail)<;>conv=>whnf
  all_goals first
   |exact c9 rfl
   |(exfalso;(try dsimp only at *);omega)
structure bb2 (e:Ev) (I O:List Int) (m:Nat):Prop where
 gI:G4 e (m9 I m)=true
 gO:G4 e (m9 O m)=true
 eq:∀z,g6 (A0 e) z=true->j0 (y9 e (m9 I m)) z=j0 (y9 e (m9 O m)) z
theorem b9t {e:Ev} {a p:Int} {I O:List Int} (H:b3X e a p I O) (hq:a0L e p=false) {last mx:Int} {x:j5} (oL:O[O.length - 1]? =some last) (iL:I[I.length - 1]? =some mx) (mL:e.moves[last.toNat]? =some x) (l0:0<=last) (ha:x.all=true) (hx:mx<=last) {m:Nat} (hm:(m:Int)<e.mats):bb2 e I O m:=by
 obtain ⟨hE,_,hmv,_,_⟩:=a6f H.few (by decide)
 have hpu:=H.pu
 have aI:=b6J e p e.moves.length
 have aO:=b58 e p e.moves.length
 have mI:=fun y=>b6W (e:=e) (p:=p) H.c (x:=y)
 have mO:=fun y=>aD4 (e:=e) (p:=p) H.c (x:=y)
 have key:=aW6 (e:=e) H.c (by omega) (by omega) (p:=p) hq (last:=last.toNat) (x:=x) mL
 rw [H.i] at aI mI key
 rw [H.o] at aO mO key
 have hs:x.src=p:=by
  obtain ⟨i,y,h1,h2,h3⟩:=(mO last).1 (lbm oL)
  rw [show last.toNat=i by omega,h1] at mL
  injection mL with mL
  rw [← mL];exact h2
 refine ⟨a4Q H.c hm aI fun y hy=>?_,a4Q H.c hm aO fun y hy=>?_,fun z hz=>key hs ha (fun j y h1 h2=>?_) (fun j y h1 h2=>?_) hm hz⟩
 ·obtain ⟨i,w,h1,h2,h3⟩:=(mI y).1 hy
  have:=(lbe.1 h1).1
  omega
 ·obtain ⟨i,w,h1,h2,h3⟩:=(mO y).1 hy
  have:=(lbe.1 h1).1
  omega
 ·have:=ar3 aI iL ((mI j).2 ⟨j,y,h1,h2,rfl⟩)
  omega
 ·have:=ar3 aO oL ((mO j).2 ⟨j,y,h1,h2,rfl⟩)
  omega
theorem b3I {s:f7} {g:List (Int × Rat)} {lo hi:a0I} (hs:F0 s) (hg:d6 (-1) ((s.n.toNat:Nat):Int) g=true) (hw:A7 g) (h:a24 s g lo hi):
 a8 Tryz.prog 20 [aE7 (a2S g lo) (a1q g hi),aE7 (a2S g lo) (a1q g hi)] [] (d9 true) []:=by
 obtain ⟨r1,r2⟩:=ag9 hs hg hw h
 have fl:∀o:Option Rat,(∀ x,o=some x->rl x<=5000)->(b6j o).p.dl.length<=1000000∧(b6j o).q.dl.length<=1000000:=fun o ho=>by
  cases o with
  |none=>exact ⟨by decide,by decide⟩
  |some x=>
   have:=ho x rfl
   have n1:=K0 x
   have n2:=M3 x
   exact ⟨by show bl x.num<=_;omega,by show bl x.den<=_;omega⟩
 obtain ⟨a1,a2⟩:=fl (a2S g lo) fun x hx=>by
  unfold a2S at hx
  split at hx
  ·injection hx with hx;rw [← hx];exact r1
  ·cases hx
 obtain ⟨b1,b2⟩:=fl (a1q g hi) fun x hx=>by
  unfold a1q a2S at hx
  split at hx
  ·rw [V5] at hx;injection hx with hx;rw [← hx,R9];exact r2
  ·cases hx
 exact ao5 _ _ _ _ a1 a2 b1 b2 (a96 _ a1 a2) (a96 _ b1 b2)
theorem b9d (e:Ev) (a p:Int) (I O:List Int) (H:b3X e a p I O) (hq:a0L e p=false) (hI:0<I.length) (hO:0<O.length) (last mx:Int) (x:j5) (oL:O[O.length - 1]? =some last) (iL:I[I.length - 1]? =some mx) (mL:e.moves[last.toNat]? =some x) (l0:0<=last)
 (ha:x.all=true) (hx:mx<=last):a8 Tryz.prog 3 [evS e,a7 .u8 a] [] (d9 true) []:=by
 have wl:=a6T
 have fw:=a6Q (a9N e [] 5 2)
 have l5:(e.purities.map w9.row).length=e.purities.length:=by simp
 have l3:(e.places.map C2.row).length=e.places.length:=by simp
 have l4:(e.moves.map j5.row).length=e.moves.length:=by simp
 have lI:(I.map d7).length=I.length:=by simp
 have lO:(O.map d7).length=O.length:=by simp
 have p0:=H.p0
 have p1:=H.p1
 have hpu:=H.pu
 have hpl:=H.pl
 have hc:=H.c
 obtain ⟨hE,_,hm,_,_⟩:=a6f H.few (by decide)
 rw [H.few] at fw
 have po:=P4 e hE H.c H.z
 have hne:((e.places.map C2.row).length:Int)≠0:=by rw [l3];omega
 have ai:=aX0 e hE.sz p e.moves.length
 have ao:=b4a e hE.sz p e.moves.length
 have sr:=ag4 e hE.sz p
 have bI:=b0G e p e.moves.length
 have bO:=aM0 e p e.moves.length
 rw [H.i] at ai bI
 rw [H.o] at ao bO
 have hp:=H.hp
 rw [← l3] at hp
 rw [hp,←l4] at ai ao
 rw [hq,hp] at sr
 have xO:((O.map d7).length:Int) - 1=((O.length - 1:Nat):Int):=by rw [lO];omega
 have xI:((I.map d7).length:Int) - 1=((I.length - 1:Nat):Int):=by rw [lI];omega
 have hT:=hE.t hc
 have hsn:=O9 hT.r
 have h10:=hT.n
 have hcb:=F2 hc
 have sy:=a4t e hE.sz hE.sm
 rw [EvT.r hc,hc] at sy
 (refine ac Tryz.func3 ?_;(conv=>whnf);repeat ((first|refine b0x ?_|refine zy ?_);conv=>whnf))
 repeat' (first|refine zx ?_|refine qp wl ?_|refine qp fw ?_|refine qp po ?_|refine qp ai ?_|refine qp ao ?_|refine qp sr ?_|refine qp sy ?_|refine ⟨hne,?_⟩|refine p9 xO oL ?_|refine p9 xI iL ?_|refine F6 l0 mL ?_|refine B3 _ (by decide +kernel) rfl ?_|refine zd ?_ ?_<;>intro h<;>try omega|fail)<;>conv=>whnf
 all_goals try exact c9 rfl
 all_goals try (exfalso;(try dsimp only at *);omega)
 all_goals try (exfalso;rename_i h9;rw [ha] at h9;cases h9;done)
 refine a2l (σ:={m:Nat // m<=e.mats.toNat}) (fun m=>([J,J,S.c (C.t (T.ptr (evT e))),J,J,d9 true,J,e8 I,e8 O,J,S.c (C.ptr 0 0 0),a7 .i64 0,a7 .i64 m.1]++Jn 184,[ad7 (A0 e)])) (fun m=>e.mats.toNat - m.1) ⟨0,B9 _⟩ [some 0]
  ⟨rfl,rfl,⟨⟨rfl,rfl,rfl,.inl ⟨rfl,a0k _⟩⟩,trivial⟩,⟨rfl,rfl,rfl,rfl,⟨rfl,rfl,rfl⟩,rfl,rfl,trivial⟩⟩ ?_
 rintro ⟨m,hmm⟩
 refine x4 b9 ?_
 conv=>whnf
 repeat' (first|refine zx ?_|refine zd ?_ ?_<;>intro h<;>try omega|fail)<;>conv=>whnf
 ·have h:(m:Int)<e.mats:=h
  have hlt:m<e.mats.toNat:=by omega
  obtain ⟨gI,gO,heq⟩:=b9t H hq oL iL mL l0 ha hx (m:=m) (by omega)
  have n1:(m9 I m).length<=100:=by unfold m9;rw [lbr];omega
  have n2:(m9 O m).length<=100:=by unfold m9;rw [lbr];omega
  have q1:=b0a e hE.sz (m9 I m) n1
  have q2:=b0a e hE.sz (m9 O m) n2
  have r1:=ab5 hE hc (ps:=m9 I m)
  have r2:=ab5 hE hc (ps:=m9 O m)
  have w1:=a1E e (m9 I m)
  have w2:=a1E e (m9 O m)
  have fi:=H4 (-1) (by decide) (by decide)
  have ti:=az0 (y9 e (m9 O m)) ((-1:Int):Rat) (by decide) (W6 (by omega) r2) (fun t ht=>by have:=O0 w2 t ht;omega) (by have:=b4g;omega)
  have pl:=b7T (y9 e (m9 I m)) (a0r (y9 e (m9 O m))) (W6 (by omega) r1) (W6 (by omega) (L9 r2)) (fun t ht=>by have:=O0 w1 t ht;omega) (fun t ht=>by have:=O0 (a4B w2) t ht;omega)
  have rc:=(a5n _ (lbQ _) (a5l _) r1 (L9 r2)).1
  have ce:=b26 (A0 e) (b9O e (m9 I m) (m9 O m)) 0 hT rc (b1H e _ _) H.z fun z hz=>by
   rw [aI8 r1 (L9 r2),P5 (s:=A0 e) (g:=y9 e (m9 O m)),heq z hz];grind
  have sg:=T8 0 (by decide +kernel)
  rcases a3K e hE (m9 I m) n1 gI with ⟨hn,_⟩|⟨lo,hi,hr,wr⟩
  ·obtain ⟨z,hz⟩:=H.z;rw [hn z] at hz;cases hz
  rcases a3K e hE (m9 O m) n2 gO with ⟨hn,_⟩|⟨lo',hi',hr',wr'⟩
  ·obtain ⟨z,hz⟩:=H.z;rw [hn z] at hz;cases hz
  obtain ⟨s1,s2⟩:=aO7 r1 r2 hr hr' heq
  have b1:=a6b hT r1 w1 hr
  have b2:=a6b hT r2 w2 hr'
  have sb:=b3I hT r1 w1 hr
  rw [← s1,←s2] at b2
  refine a2C (a3g ?_)
  refine x4 b9 ?_
  conv=>whnf
  repeat' (first|refine zx ?_|refine zd ?_ ?_<;>intro h<;>try omega|fail)<;>conv=>whnf
  refine x4 b9 ?_
  conv=>whnf
  repeat' (first|refine zx ?_|refine zd ?_ ?_<;>intro h<;>try omega|fail)<;>conv=>whnf
  refine S9 b9 ([J,J,S.c (C.t (T.ptr (evT e))),J,J,d9 true,J,e8 I,e8 O,J,S.c (C.ptr 0 0 0),a7 .i64 0,a7 .i64 m,G7 (m9 I m),.c av4]++Jn 182) [ad7 (A0 e)] ?_ ?_
  ·conv=>whnf
   repeat' (first|refine zx ?_|refine zd ?_ ?_<;>intro h<;>try omega|fail)<;>conv=>whnf
   refine g8 b9 (fun k=>([J,J,S.c (C.t (T.ptr (evT e))),J,J,d9 true,J,e8 I,e8 O,J,S.c (C.ptr 0 0 0),a7 .i64 0,a7 .i64 m,S.c (C.own 1 0 k true),.c av4,a7 .i64 k]++Jn 181,[ad7 (A0 e),pkB (m9 (I.take k) m)])) I.length (fun _=>True) [some 0,none] trivial
    ⟨rfl,rfl,⟨⟨rfl,rfl,rfl,.inl ⟨rfl,a0k _⟩⟩,⟨rfl,rfl⟩,trivial⟩,⟨rfl,rfl,rfl,rfl,⟨rfl,rfl,rfl⟩,rfl,rfl,⟨rfl,rfl,rfl⟩,rfl,rfl,trivial⟩⟩ ?_
   intro k hk _
   by_cases hkl:k<I.length
   ·obtain ⟨y,hy⟩:∃y,I[k]? =some y:=⟨_,lbf hkl⟩
    have lk:(m9 (I.take k) m).length=k:=by unfold m9;rw [lbr,lbs];omega
    have lA:k<=(pkB (m9 (I.take k) m)).rows.length:=by show k<=(toC _).length;rw [toC,lbr,lbr,lk];exact lbQ _
    conv=>whnf
    repeat' (first|refine zx ?_|refine qp toC ?_|refine f9 hy ?_|refine o6 lA (by simp [toC];omega) ?_|refine zd ?_ ?_<;>intro h<;>try omega|fail)<;>conv=>whnf
    all_goals first
     |omega
     |(refine ⟨hkl,trivial,[some 0,some 2],rfl,rfl,⟨⟨rfl,rfl,rfl,.inl ⟨rfl,a0k _⟩⟩,b7 (rows:=(m9 (I.take (k+1)) m).map E0.row) rfl rfl rfl ?_ rfl,trivial⟩,⟨rfl,rfl,rfl,rfl,⟨rfl,rfl,rfl⟩,rfl,rfl,⟨rfl,rfl,rfl,fun h=>h⟩,rfl,c7 (by omega),trivial⟩⟩
       rw [a8I hy]
       exact L0 (f:=E0.row) (x:=⟨y,m⟩) lk.symm)
   ·have hke:k=I.length:=by omega
    subst hke
    rw [lbn (lbQ _)]
    conv=>whnf
    repeat' (first|refine zx ?_|refine zd ?_ ?_<;>intro h<;>try omega|fail)<;>conv=>whnf
    all_goals first
     |omega
     |exact ⟨[some 0],rfl,rfl,⟨⟨rfl,rfl,rfl,.inl ⟨rfl,a0k _⟩⟩,trivial⟩,⟨.inl rfl,.inl rfl,.inl rfl,.inl rfl,.inl ⟨rfl,rfl,rfl⟩,.inl rfl,.inl rfl,.inr (.vc (p4 rfl rfl (by intro h;cases h) rfl rfl (by simp [m9]))),.inl rfl,trivial⟩⟩
  refine S9 b9 ([J,J,S.c (C.t (T.ptr (evT e))),J,J,d9 true,J,e8 I,e8 O,J,S.c (C.ptr 0 0 0),a7 .i64 0,a7 .i64 m,G7 (m9 I m),G7 (m9 O m)]++Jn 182) [ad7 (A0 e)] ?_ ?_
  ·conv=>whnf
   repeat' (first|refine zx ?_|refine zd ?_ ?_<;>intro h<;>try omega|fail)<;>conv=>whnf
   refine g8 b9 (fun k=>([J,J,S.c (C.t (T.ptr (evT e))),J,J,d9 true,J,e8 I,e8 O,J,S.c (C.ptr 0 0 0),a7 .i64 0,a7 .i64 m,G7 (m9 I m),S.c (C.own 1 0 k true),J,a7 .i64 k]++Jn 180,[ad7 (A0 e),pkB (m9 (O.take k) m)])) O.length (fun _=>True) [some 0,none] trivial
    ⟨rfl,rfl,⟨⟨rfl,rfl,rfl,.inl ⟨rfl,a0k _⟩⟩,⟨rfl,rfl⟩,trivial⟩,⟨rfl,rfl,rfl,rfl,⟨rfl,rfl,rfl⟩,rfl,rfl,rfl,⟨rfl,rfl,rfl⟩,rfl,trivial⟩⟩ ?_
   intro k hk _
   by_cases hkl:k<O.length
   ·obtain ⟨y,hy⟩:∃y,O[k]? =some y:=⟨_,lbf hkl⟩
    have lk:(m9 (O.take k) m).length=k:=by unfold m9;rw [lbr,lbs];omega
    have lA:k<=(pkB (m9 (O.take k) m)).rows.length:=by show k<=(toC _).length;rw [toC,lbr,lbr,lk];exact lbQ _
    conv=>whnf
    repeat' (first|refine zx ?_|refine qp toC ?_|refine f9 hy ?_|refine o6 lA (by simp [toC];omega) ?_|refine zd ?_ ?_<;>intro h<;>try omega|fail)<;>conv=>whnf
    all_goals first
     |omega
     |(refine ⟨hkl,trivial,[some 0,some 2],rfl,rfl,⟨⟨rfl,rfl,rfl,.inl ⟨rfl,a0k _⟩⟩,b7 (rows:=(m9 (O.take (k+1)) m).map E0.row) rfl rfl rfl ?_ rfl,trivial⟩,⟨rfl,rfl,rfl,rfl,⟨rfl,rfl,rfl⟩,rfl,rfl,rfl,⟨rfl,rfl,rfl,fun h=>h⟩,c7 (by omega),trivial⟩⟩
       rw [a8I hy]
       exact L0 (f:=E0.row) (x:=⟨y,m⟩) lk.symm)
   ·have hke:k=O.length:=by omega
    subst hke
    rw [lbn (lbQ _)]
    conv=>whnf
    repeat' (first|refine zx ?_|refine zd ?_ ?_<;>intro h<;>try omega|fail)<;>conv=>whnf
    all_goals first
     |omega
     |exact ⟨[some 0],rfl,rfl,⟨⟨rfl,rfl,rfl,.inl ⟨rfl,a0k _⟩⟩,trivial⟩,⟨.inl rfl,.inl rfl,.inl rfl,.inl rfl,.inl ⟨rfl,rfl,rfl⟩,.inl rfl,.inl rfl,.inl rfl,.inr (.vc (p4 rfl rfl (by intro h;cases h) rfl rfl (by simp [m9]))),trivial⟩⟩
  refine k8 b9 _ ?_
  conv=>whnf
  repeat' (first|refine zx ?_|refine qp q1 ?_|refine qp q2 ?_|refine qp fi ?_|refine qp ti ?_|refine qp pl ?_|refine qp ce ?_|refine qp wr ?_|refine qp wr' ?_|refine qp sg ?_|refine qp b1 ?_|refine qp b2 ?_|refine qp sb ?_|refine B3 _ (by decide +kernel) rfl ?_|refine zd ?_ ?_<;>intro h<;>try omega|fail)<;>conv=>whnf
  all_goals try (exfalso;(try dsimp only at *);omega)
  all_goals try (exfalso;contradiction)
  all_goals first
   |(refine k8 b9 _ ?_
     (conv=>whnf)
     repeat' (first|refine zx ?_|refine zd ?_ ?_<;>intro h<;>try omega|fail)<;>conv=>whnf
     exact ⟨[some 0],⟨m+1,by omega⟩,⟨rfl,rfl,⟨⟨rfl,rfl,rfl,.inl ⟨rfl,a0k _⟩⟩,trivial⟩,⟨rfl,rfl,rfl,rfl,⟨rfl,rfl,rfl⟩,rfl,c7 (by show _=((m+1:Nat):Int);omega),trivial⟩⟩,by show e.mats.toNat - (m+1)<e.mats.toNat - m;omega⟩)
 ·exact c9 rfl
theorem au3 (e:Ev) (a:Int) (p0:0<=a) (p1:a<=255):a8 Tryz.prog 3 [evS e,a7 .u8 a] [] (d9 true) []:=by
 by_cases hf:a56 e [] 5 2=false∨e.purities.length > 2∨e.places.length=0
 ·exact b7R e a p0 p1 hf
 simp only [not_or] at hf
 obtain ⟨hk,hpu,hpl⟩:=hf
 have hk:a56 e [] 5 2=true:=by simpa using hk
 by_cases hz:p7 e=0∧∃z,g6 (A0 e) z=true
 ·obtain ⟨hc,hz⟩:=hz
  have H:b3X e a (a.tmod e.places.length) _ _:=⟨p0,p1,hk,by omega,by omega,hc,hz,rfl,rfl,rfl⟩
  generalize a.tmod e.places.length=p at H
  by_cases hq:a0L e p=true∨(a3z e p e.moves.length).length=0∨(a1V e p e.moves.length).length=0
  ·exact b8A e a p _ _ H hq
  simp only [not_or] at hq
  obtain ⟨hs,hI,hO⟩:=hq
  have hs:a0L e p=false:=by simpa using hs
  obtain ⟨last,oL⟩:∃x,(a1V e p e.moves.length)[(a1V e p e.moves.length).length - 1]? =some x:=⟨_,lbf (by omega)⟩
  obtain ⟨mx,iL⟩:∃x,(a3z e p e.moves.length)[(a3z e p e.moves.length).length - 1]? =some x:=⟨_,lbf (by omega)⟩
  obtain ⟨i,x,h1,h2,h3⟩:=(aD4 (e:=e) (p:=p) hc).1 (lbm oL)
  have mL:e.moves[last.toNat]? =some x:=by rw [show last.toNat=i by omega];exact h1
  by_cases hh:x.all=false∨mx > last
  ·exact b8I e a p _ _ H hs (by omega) (by omega) last mx x oL iL mL (by omega) hh
  simp only [not_or] at hh
  exact b9d e a p _ _ H hs (by omega) (by omega) last mx x oL iL mL (by omega) (by simpa using hh.1) (by omega)
 ·refine b8V e a p0 p1 hk (by omega) (by omega) ?_
  by_cases hc:p7 e=0
  ·refine .inr fun z=>?_
   cases hzz:g6 (A0 e) z with
   |false=>rfl
   |true=>exact absurd ⟨hc,z,hzz⟩ hz
  ·exact .inl hc
section
open Go.RowKit Go.ChangeShapes Go.WideShapes Go.Deep
section
variable {H:Type} {enc:TypeId × Value->H} {P:Program}
theorem ak1 (hl:laidOutB P=true) {W W':World} {sp:Nat->Bool}:∀{ts:List TypeId} {vs:List Value} {ds:List (DataW H)} {ps:List MemPlace},(∀ t ∈ ts,P.readableRec t=true∧t<P.types.size)->
 DataW.TrodAll enc P W 0 (fun _=>true) true ts vs ds ps->(∀ p ∈ ps,W.sameAt W' p)->(∀ p ∈ ps,sp p.block=true)->DataW.TrodAll enc P W' 0 sp true ts vs ds ps:=by
 intro ts
 induction ts with
 |nil=>
  intro vs ds ps _ h _ _
  obtain ⟨rfl,rfl,rfl⟩:=trodAll_nil h
  exact trodAll_mk0
 |cons t ts ih=>
  intro vs ds ps hr h hsame hs
  obtain ⟨v,vs',d,ds',p,q,rfl,rfl,rfl,h1,h2⟩:=trodAll_cons h
  obtain ⟨ht,hlt⟩:=hr t (by simp)
  exact trodAll_cons_mk (WideElems.Trod_stays hl ht hlt h1 (fun x hx=>hsame x (by simp [hx])) (fun x hx=>hs x (by simp [hx]))) (ih (fun t ht=>hr t (by simp [ht])) h2 (fun x hx=>hsame x (by simp [hx])) (fun x hx=>hs x (by simp [hx])))
theorem b4E {f:Func} {s:ChangeSpec} {fresh handsOn:Bool} {W W':World} {args:Array Value} {ds gs:List (DataW H)} {before:List MemPlace} {tb:TypeId}
 (hW:DataW.Whole enc P f.params.toList s.vars false W args.toList ds gs before) (hl:laidOutB P=true) (hr:∀t ∈ f.params.toList,P.readableRec t=true∧t<P.types.size) (hv:s.vars=[])
 (hfn:s.fn H (ds++gs)={ results:=[.lit (.bool true)],args:=ds }) (hres:f.resultTypes=#[tb]) (hbool:P.underlying tb=some .bool) (hb:Below W.heap.size W W'):
 s.post enc P f false fresh handsOn false W args (.bool true) W':=by
 have hW':=hW
 obtain ⟨p,q,hA,hV,rfl,hfz,hnd⟩:=hW
 rw [hv] at hV
 obtain ⟨rfl,rfl⟩:=trodVars_none hV
 have hlt:∀x ∈ p,x.block<W.heap.size:=fun x hx=>by have:=hW'.lt x (by simpa using hx);simpa using this
 refine ⟨ds,[],p++[],[],p,[],hW',?_,?_,?_,hb.frame _,fun h=>by cases h⟩
 ·rw [hfn,hres]
  exact trodAll_mk1 (shut_bool hbool true)
 ·rw [hfn]
  exact ak1 hl hr hA (fun x hx=>hb.same (hlt x hx)) (fun x hx=>by simpa using hlt x hx)
 ·rw [hv,hfn]
  exact rfl
theorem Rd.of_each {α:Type} {k:Nat} {f:α->List Value} {w:World} {b off:Nat}:∀(n:Nat),(∀ i,i<n->∃x:α,∀j u,(f x)[j]? =some u->w.cell? ⟨b,off+(i*k+j),none⟩=some u)->∃xs,Rd k f w (some ⟨b,off,none⟩) n xs:=by
 intro n
 induction n with
 |zero=>intro _;exact ⟨[],Rd.nil _⟩
 |succ n ih=>
  intro h
  obtain ⟨xs,hx⟩:=ih (fun i hi=>h i (by omega))
  obtain ⟨x,hxn⟩:=h n (by omega)
  have hl:=hx.len
  refine ⟨xs++[x],by simp [← hl],fun _=>⟨b,off,rfl,fun i y hy j u hu=>?_⟩⟩
  by_cases hi:i<xs.length
  ·rw [lbb hi] at hy
   obtain ⟨b',off',e,hc⟩:=hx.2 (by omega)
   injection e with e
   injection e with e1 e2
   subst e1 e2
   exact hc i y hy j u hu
  ·have hi2:i=n:=by
    have:=(lbe.1 hy).1
    simp at this
    omega
   subst hi2
   have hy2:x=y:=by
    rw [lbc (by omega),←hl] at hy
    simpa using hy
   subst hy2
   exact hxn j u hu
variable {w:World} {base:Nat} {spare:Nat->Bool} {held:Bool}
theorem X5 {α:Type} (f:α->List Value) {t e:TypeId} {fs:Array Field} {fuel:Nat} {v:Value} {x:DataW H × List MemPlace} (ht:P.underlying t=some (.slice e)) (he:P.underlying e=some (.struct fs))
 (hone:oneCellFields P fs=true) (hC:P.cellsOf e=fs.size) (hpos:0<fs.size)
 (hdec:∀vs:Nat->Value,(∀ j fld,fs[j]? =some fld->∃y n,DataW.trod enc P w base spare held n fld.type [vs j]=some y)->∃x:α,∀j u,(f x)[j]? =some u->vs j=u∧j<fs.size)
 (h:DataW.trod enc P w base spare held fuel t [v]=some x):∃A n c xs,v=.slice A n c∧Rd fs.size f w A n xs∧n<=c∧c<=maxLen:=by
 rcases open_slice ht h with ⟨h0,_⟩|⟨a,len,cap,m,n,D,Pl,hcs,hb,hl,hm,hmm,hx,hi⟩
 ·injection h0 with h0
  exact ⟨none,0,0,[],h0,Rd.nil _,lbQ _,by unfold maxLen;omega⟩
 ·injection hcs with hv
  by_cases hz:len=0
  ·subst hz
   exact ⟨some a,0,cap,[],hv,Rd.nil _,hl,hm⟩
  have hlm:len<=m:=by rw [hmm];split<;>omega
  have key:∀i,i<m->∀j fld,fs[j]? =some fld->∃u y n,w.cell? (a.add (i*fs.size+j))=some u∧DataW.trod enc P w base spare held n fld.type [u]=some y:=by
   intro i him j fld hj
   obtain ⟨cs',hc,ht'⟩:=hi i him
   rw [hC] at hc
   obtain ⟨ys,n',hn',hy,hlen,hyl,hf⟩:=DataW.trod_struct he ht'
   obtain ⟨_,hcl,hat⟩:=World.cells?_some hc
   obtain ⟨ho,hk⟩:=hone_of hone j fld hj
   have hjl:j<fs.size:=(lb4.1 hj).1
   have hcell:=hat j hjl
   have hv:cs'[j]? =some (cs'[j]'(by omega)):=lbf (by omega)
   have h1:=hf j fld hj
   rw [ho,hk] at h1
   have hone':(cs'.drop j).take 1=[cs'[j]'(by omega)]:=by
    rw [a52 (by omega)]
    rfl
   rw [hone'] at h1
   have hys:ys[j]? =some (ys[j]'(by omega)):=lbf (by omega)
   exact ⟨_,_,_,by rw [← Go.Deep.add_add,hcell,hv],h1.trans hys⟩
  obtain ⟨f0,hf0⟩:∃f0,fs[0]? =some f0:=⟨_,Array.getElem?_eq_getElem hpos⟩
  obtain ⟨u0,_,_,hu0,_⟩:=key 0 (by omega) 0 f0 hf0
  have hspot:a.spot=none:=by
   have:=World.cell?_spot hu0
   simpa [Addr.add] using this
  obtain ⟨b,off,sp⟩:=a
  simp only at hspot
  subst hspot
  have hadd:∀k,(⟨b,off,none⟩:Addr).add k=⟨b,off+k,none⟩:=by
   intro k
   unfold Addr.add
   split
   ·subst_vars;rfl
   ·rfl
  obtain ⟨xs,hxs⟩:=Rd.of_each (k:=fs.size) (f:=f) (w:=w) (b:=b) (off:=off) len (fun i hil=>by
   have hsel:∀j,∃u,∀fld,fs[j]? =some fld->w.cell? ⟨b,off+(i*fs.size+j),none⟩=some u∧∃y n,DataW.trod enc P w base spare held n fld.type [u]=some y:=by
    intro j
    by_cases hj:j<fs.size
    ·obtain ⟨u,y,n,hu,hy⟩:=key i (by omega) j fs[j] (Array.getElem?_eq_getElem hj)
     rw [hadd] at hu
     refine ⟨u,fun fld hfld=>?_⟩
     rw [Array.getElem?_eq_getElem hj] at hfld
     injection hfld with hfld
     subst hfld
     exact ⟨hu,y,n,hy⟩
    ·exact ⟨.nilFunc,fun fld hfld=>absurd (lb4.1 hfld).1 hj⟩
   let vs:Nat->Value:=fun j=>Classical.choose (hsel j)
   obtain ⟨x,hx⟩:=hdec vs (fun j fld hj=>(ay8 (hsel j) fld hj).2)
   refine ⟨x,fun j u hu=>?_⟩
   obtain ⟨hvu,hjl⟩:=hx j u hu
   rw [← hvu]
   exact (ay8 (hsel j) fs[j] (Array.getElem?_eq_getElem hjl)).1)
  exact ⟨_,len,cap,xs,hv,hxs,hl,hm⟩
end
end
section
open Go.RowKit Go.ChangeShapes Go.WideShapes Go.Deep
section
variable {H:Type} {enc:TypeId × Value->H} {w:World} {base:Nat} {spare:Nat->Bool} {held:Bool}
theorem D5 {k:TypeId} (hk:Tryz.prog.underlying k=some (.int .i64)) {u:Value} (h:∃y n,DataW.trod enc Tryz.prog w base spare held n k [u]=some y):∃a:Int,u=.int .i64 a:=by
 obtain ⟨y,n,h⟩:=h
 obtain ⟨a,e,_,_⟩:=DataW.trod_int hk h
 injection e with e
 exact ⟨a,e⟩
theorem b5z {k:TypeId} (hk:Tryz.prog.underlying k=some .bool) {u:Value} (h:∃y n,DataW.trod enc Tryz.prog w base spare held n k [u]=some y):∃a:Bool,u=.bool a:=by
 obtain ⟨y,n,h⟩:=h
 obtain ⟨a,e,_⟩:=DataW.trod_bool hk h
 injection e with e
 exact ⟨a,e⟩
theorem b63 {r:Reach} {b0:Nat} {v:Value} {d:DataW H} {p:List MemPlace} (hv:Value.okWide Tryz.prog w r b0 28 v) (h:DataW.Trod enc Tryz.prog w base spare held 28 v d p):
 ∃m h s A1 n1 c1 A2 n2 c2 A3 n3 c3 A4 n4 c4 A5 n5 c5 e,v=.agg #[.int .i64 m,.int .i64 h,.int .i64 s,.slice A1 n1 c1,.slice A2 n2 c2,.slice A3 n3 c3,.slice A4 n4 c4,.slice A5 n5 c5]∧EvR w m h s A1 n1 A2 n2 A3 n3 A4 n4 A5 n5 e∧n1<=c1∧n2<=c2∧n3<=c3∧n4<=c4∧n5<=c5∧c1<=maxLen∧c2<=maxLen∧c3<=maxLen∧c4<=maxLen∧c5<=maxLen:=by
 obtain ⟨fs,hs,hone,hC,hty⟩:∃fs:Array Field,Tryz.prog.underlying 28=some (.struct fs)∧oneCellFields Tryz.prog fs=true∧Tryz.prog.cellsOf 28=8∧fs.map (·.type)=#[3,3,3,22,23,24,25,26]:=
  ⟨_,Tryz.underlying28,by kernel_rfl,by kernel_rfl,by kernel_rfl⟩
 obtain ⟨cs,rfl,hsz⟩:=okWide_struct hs hv
 obtain ⟨l⟩:=cs
 obtain ⟨fuel,hf⟩:=h
 obtain ⟨xs,n,_,hx,_,hlen,hg⟩:=DataW.trod_struct hs hf
 have hl8:l.length=8:=by simpa [hC] using hsz
 have hfs:fs.size=8:=by have:=congrArg Array.size hty;simpa using this
 have hfld:∀j,j<8->∃u y m,l[j]? =some u∧DataW.trod enc Tryz.prog w base spare held m ((#[3,3,3,22,23,24,25,26]:Array TypeId).getD j 0) [u]=some y:=by
  intro j hj
  have hjf:fs[j]? =some (fs[j]'(by omega)):=Array.getElem?_eq_getElem (by omega)
  obtain ⟨ho,hk⟩:=hone_of hone j _ hjf
  have h1:=hg j _ hjf
  rw [ho,hk] at h1
  have hone':((Value.agg ⟨l⟩).cells.toList.drop j).take 1=[l[j]'(by omega)]:=by
   show (l.drop j).take 1=_
   rw [a52 (by omega)]
   rfl
  rw [hone'] at h1
  have hxl:j<xs.length:=by omega
  rw [lbf hxl] at h1
  have htj:(#[3,3,3,22,23,24,25,26]:Array TypeId).getD j 0=(fs[j]'(by omega)).type:=by
   rw [← hty,R6,Array.getElem?_map,hjf]
   rfl
  rw [htj]
  exact ⟨_,_,n,lbf (by omega),h1⟩
 match l,hl8 with
 |[v0,v1,v2,v3,v4,v5,v6,v7],_=>
  obtain ⟨u0,y0,m0,e0,t0⟩:=hfld 0 (by omega)
  obtain ⟨u1,y1,m1,e1,t1⟩:=hfld 1 (by omega)
  obtain ⟨u2,y2,m2,e2,t2⟩:=hfld 2 (by omega)
  obtain ⟨u3,y3,m3,e3,t3⟩:=hfld 3 (by omega)
  obtain ⟨u4,y4,m4,e4,t4⟩:=hfld 4 (by omega)
  obtain ⟨u5,y5,m5,e5,t5⟩:=hfld 5 (by omega)
  obtain ⟨u6,y6,m6,e6,t6⟩:=hfld 6 (by omega)
  obtain ⟨u7,y7,m7,e7,t7⟩:=hfld 7 (by omega)
  simp at e0 e1 e2 e3 e4 e5 e6 e7
  subst e0 e1 e2 e3 e4 e5 e6 e7
  obtain ⟨a0,rfl⟩:=D5 Tryz.underlying3 ⟨_,_,t0⟩
  obtain ⟨a1,rfl⟩:=D5 Tryz.underlying3 ⟨_,_,t1⟩
  obtain ⟨a2,rfl⟩:=D5 Tryz.underlying3 ⟨_,_,t2⟩
  obtain ⟨A1,n1,c1,ps,rfl,r1,l1,g1⟩:=X5 C2.cells Tryz.underlying22 Tryz.underlying121 (by kernel_rfl) (by kernel_rfl) (by decide)
   (fun vs hd=>by
     obtain ⟨b0,h0⟩:=D5 Tryz.underlying3 (hd 0 _ rfl)
     obtain ⟨b1,h1⟩:=D5 Tryz.underlying3 (hd 1 _ rfl)
     obtain ⟨b2,h2⟩:=D5 Tryz.underlying3 (hd 2 _ rfl)
     refine ⟨⟨b0,b1,b2⟩,fun j u hu=>?_⟩
     match j,hu with
     |0,hu=>exact ⟨h0.trans (by simpa [C2.cells] using hu),by decide⟩
     |1,hu=>exact ⟨h1.trans (by simpa [C2.cells] using hu),by decide⟩
     |2,hu=>exact ⟨h2.trans (by simpa [C2.cells] using hu),by decide⟩
     |n+3,hu=>simp [C2.cells] at hu) t3
  obtain ⟨A2,n2,c2,ms,rfl,r2,l2,g2⟩:=X5 j5.cells Tryz.underlying23 Tryz.underlying45 (by kernel_rfl) (by kernel_rfl) (by decide)
   (fun vs hd=>by
     obtain ⟨b0,h0⟩:=D5 Tryz.underlying3 (hd 0 _ rfl)
     obtain ⟨b1,h1⟩:=D5 Tryz.underlying3 (hd 1 _ rfl)
     obtain ⟨b2,h2⟩:=D5 Tryz.underlying3 (hd 2 _ rfl)
     obtain ⟨b3,h3⟩:=D5 Tryz.underlying3 (hd 3 _ rfl)
     obtain ⟨b4,h4⟩:=D5 Tryz.underlying3 (hd 4 _ rfl)
     obtain ⟨b5,h5⟩:=b5z Tryz.underlying4 (hd 5 _ rfl)
     refine ⟨⟨b0,b1,b2,b3,b4,b5⟩,fun j u hu=>?_⟩
     match j,hu with
     |0,hu=>exact ⟨h0.trans (by simpa [j5.cells] using hu),by decide⟩
     |1,hu=>exact ⟨h1.trans (by simpa [j5.cells] using hu),by decide⟩
     |2,hu=>exact ⟨h2.trans (by simpa [j5.cells] using hu),by decide⟩
     |3,hu=>exact ⟨h3.trans (by simpa [j5.cells] using hu),by decide⟩
     |4,hu=>exact ⟨h4.trans (by simpa [j5.cells] using hu),by decide⟩
     |5,hu=>exact ⟨h5.trans (by simpa [j5.cells] using hu),by decide⟩
     |n+6,hu=>simp [j5.cells] at hu) t4
  obtain ⟨A3,n3,c3,cts,rfl,r3,l3,g3⟩:=X5 D7.cells Tryz.underlying24 Tryz.underlying211 (by kernel_rfl) (by kernel_rfl) (by decide)
   (fun vs hd=>by
     obtain ⟨b0,h0⟩:=D5 Tryz.underlying3 (hd 0 _ rfl)
     obtain ⟨b1,h1⟩:=D5 Tryz.underlying3 (hd 1 _ rfl)
     obtain ⟨b2,h2⟩:=D5 Tryz.underlying3 (hd 2 _ rfl)
     obtain ⟨b3,h3⟩:=D5 Tryz.underlying3 (hd 3 _ rfl)
     obtain ⟨b4,h4⟩:=D5 Tryz.underlying3 (hd 4 _ rfl)
     obtain ⟨b5,h5⟩:=D5 Tryz.underlying3 (hd 5 _ rfl)
     refine ⟨⟨b0,b1,b2,b3,b4,b5⟩,fun j u hu=>?_⟩
     match j,hu with
     |0,hu=>exact ⟨h0.trans (by simpa [D7.cells] using hu),by decide⟩
     |1,hu=>exact ⟨h1.trans (by simpa [D7.cells] using hu),by decide⟩
     |2,hu=>exact ⟨h2.trans (by simpa [D7.cells] using hu),by decide⟩
     |3,hu=>exact ⟨h3.trans (by simpa [D7.cells] using hu),by decide⟩
     |4,hu=>exact ⟨h4.trans (by simpa [D7.cells] using hu),by decide⟩
     |5,hu=>exact ⟨h5.trans (by simpa [D7.cells] using hu),by decide⟩
     |n+6,hu=>simp [D7.cells] at hu) t5
  obtain ⟨A4,n4,c4,rcs,rfl,r4,l4,g4⟩:=X5 s8.cells Tryz.underlying25 Tryz.underlying307 (by kernel_rfl) (by kernel_rfl) (by decide)
   (fun vs hd=>by
     obtain ⟨b0,h0⟩:=D5 Tryz.underlying3 (hd 0 _ rfl)
     obtain ⟨b1,h1⟩:=D5 Tryz.underlying3 (hd 1 _ rfl)
     refine ⟨⟨b0,b1⟩,fun j u hu=>?_⟩
     match j,hu with
     |0,hu=>exact ⟨h0.trans (by simpa [s8.cells] using hu),by decide⟩
     |1,hu=>exact ⟨h1.trans (by simpa [s8.cells] using hu),by decide⟩
     |n+2,hu=>simp [s8.cells] at hu) t6
  obtain ⟨A5,n5,c5,pus,rfl,r5,l5,g5⟩:=X5 w9.cells Tryz.underlying26 Tryz.underlying252 (by kernel_rfl) (by kernel_rfl) (by decide)
   (fun vs hd=>by
     obtain ⟨b0,h0⟩:=D5 Tryz.underlying3 (hd 0 _ rfl)
     obtain ⟨b1,h1⟩:=D5 Tryz.underlying3 (hd 1 _ rfl)
     obtain ⟨b2,h2⟩:=D5 Tryz.underlying3 (hd 2 _ rfl)
     obtain ⟨b3,h3⟩:=D5 Tryz.underlying3 (hd 3 _ rfl)
     refine ⟨⟨b0,b1,b2,b3⟩,fun j u hu=>?_⟩
     match j,hu with
     |0,hu=>exact ⟨h0.trans (by simpa [w9.cells] using hu),by decide⟩
     |1,hu=>exact ⟨h1.trans (by simpa [w9.cells] using hu),by decide⟩
     |2,hu=>exact ⟨h2.trans (by simpa [w9.cells] using hu),by decide⟩
     |3,hu=>exact ⟨h3.trans (by simpa [w9.cells] using hu),by decide⟩
     |n+4,hu=>simp [w9.cells] at hu) t7
  exact ⟨a0,a1,a2,A1,n1,c1,A2,n2,c2,A3,n3,c3,A4,n4,c4,A5,n5,c5,⟨a0,a1,a2,ps,ms,cts,rcs,pus⟩,rfl,⟨rfl,rfl,rfl,r1,r2,r3,r4,r5⟩,l1,l2,l3,l4,l5,g1,g2,g3,g4,g5⟩
end
theorem b6S:ownKnob Tryz.prog.godebug=none:=by kernel_rfl
theorem b2Z:laidOutB Tryz.prog=true:=by kernel_rfl
end
theorem a3G {α:Type} {k:Nat} {f:α->List Value} {row:α->List T} (hrow:∀x,row x=(f x).map T.atm) (hone:∀x,∀v ∈ f x,v.oneCell'=true) (hk:∀x,(f x).length=k)
 {w:World} {A:Option Addr} {n c:Nat} {xs:List α} (h:Rd k f w A n xs) (h1:n<=c) (h2:c<=maxLen):RT w (fun _=>False) (.sl k .any (xs.map row)) (.slice A n c):=by
 obtain ⟨hn,hc⟩:=h
 have hlen:(xs.map row).length=n:=by simp [hn]
 rw [← hlen]
 have hat:∀i j t,at2 (xs.map row) i j=some t->∃x v,xs[i]? =some x∧(f x)[j]? =some v∧t=.atm v:=fun i j t ht=>by
  obtain ⟨r,q1,q2⟩:=D6 ht
  rw [lba] at q1
  cases hx:xs[i]? with
  |none=>rw [hx] at q1;cases q1
  |some x=>
   rw [hx] at q1
   injection q1 with q1
   subst q1
   rw [hrow,lba] at q2
   cases hv:(f x)[j]? with
   |none=>rw [hv] at q2;cases q2
   |some v=>rw [hv] at q2;injection q2 with q2;exact ⟨x,v,rfl,hv,q2.symm⟩
 rcases a3m n with h0|h0
 ·have hx:xs=[]:=lbF (by omega)
  subst hx
  exact .sl (b:=0) (off:=0) (fun _ _=>undef) (by simp) (by simp) h2 (by intro h;cases h) (by intro h;cases h) (by simp) (by simp [at2]) (by simp [at2])
 ·obtain ⟨b,off,hA,hcell⟩:=hc h0
  refine .sl (b:=b) (off:=off) (fun i j=>((xs[i]?).bind fun x=>(f x)[j]?).getD undef) ?_ (by omega) h2 (by intro h;cases h) (by intro h;cases h) (fun _=>hA) ?_ ?_
  ·intro r hr
   obtain ⟨x,_,rfl⟩:=lbx.1 hr
   rw [hrow,lbr,hk]
  ·intro i j t ht
   obtain ⟨x,v,hx,hv,rfl⟩:=hat i j t ht
   exact ⟨by rw [hcell i x hx j v hv];simp [hx,hv],fun h=>h⟩
  ·intro i j t ht
   obtain ⟨x,v,hx,hv,rfl⟩:=hat i j t ht
   have:((xs[i]?).bind fun x=>(f x)[j]?).getD undef=v:=by simp [hx,hv]
   rw [this]
   exact .atm (hone x v (lbm hv))
theorem b9u {w:World} {m h s:Int} {A1 A2 A3 A4 A5:Option Addr} {n1 n2 n3 n4 n5 c1 c2 c3 c4 c5:Nat} {e:Ev} (hr:EvR w m h s A1 n1 A2 n2 A3 n3 A4 n4 A5 n5 e)
 (hb:n1<=c1∧n2<=c2∧n3<=c3∧n4<=c4∧n5<=c5∧c1<=maxLen∧c2<=maxLen∧c3<=maxLen∧c4<=maxLen∧c5<=maxLen):
 RS w (fun _=>none) (fun _=>False) (evS e) (.agg #[.int .i64 m,.int .i64 h,.int .i64 s,.slice A1 n1 c1,.slice A2 n2 c2,.slice A3 n3 c3,.slice A4 n4 c4,.slice A5 n5 c5]):=by
 obtain ⟨rfl,rfl,rfl,r1,r2,r3,r4,r5⟩:=hr
 obtain ⟨b1,b2,b3,b4,b5,d1,d2,d3,d4,d5⟩:=hb
 have t1:=a3G (k:=3) (f:=C2.cells) (row:=C2.row) (fun _=>rfl) (by intro x v hv;simp [C2.cells] at hv;rcases hv with rfl|rfl|rfl<;>rfl) (fun _=>rfl) r1 b1 d1
 have t2:=a3G (k:=6) (f:=j5.cells) (row:=j5.row) (fun _=>rfl) (by intro x v hv;simp [j5.cells] at hv;rcases hv with rfl|rfl|rfl|rfl|rfl|rfl<;>rfl) (fun _=>rfl) r2 b2 d2
 have t3:=a3G (k:=6) (f:=D7.cells) (row:=D7.row) (fun _=>rfl) (by intro x v hv;simp [D7.cells] at hv;rcases hv with rfl|rfl|rfl|rfl|rfl|rfl<;>rfl) (fun _=>rfl) r3 b3 d3
 have t4:=a3G (k:=2) (f:=s8.cells) (row:=s8.row) (fun _=>rfl) (by intro x v hv;simp [s8.cells] at hv;rcases hv with rfl|rfl<;>rfl) (fun _=>rfl) r4 b4 d4
 have t5:=a3G (k:=4) (f:=w9.cells) (row:=w9.row) (fun _=>rfl) (by intro x v hv;simp [w9.cells] at hv;rcases hv with rfl|rfl|rfl|rfl<;>rfl) (fun _=>rfl) r5 b5 d5
 refine .agg [.int .i64 e.mats,.int .i64 e.hhs,.int .i64 e.scs,.slice A1 n1 c1,.slice A2 n2 c2,.slice A3 n3 c3,.slice A4 n4 c4,.slice A5 n5 c5] rfl fun j c hj=>?_
 match j,hj with
 |0,hj=>injection hj with hj;subst hj;exact .t (.atm rfl)
 |1,hj=>injection hj with hj;subst hj;exact .t (.atm rfl)
 |2,hj=>injection hj with hj;subst hj;exact .t (.atm rfl)
 |3,hj=>injection hj with hj;subst hj;exact .t t1
 |4,hj=>injection hj with hj;subst hj;exact .t t2
 |5,hj=>injection hj with hj;subst hj;exact .t t3
 |6,hj=>injection hj with hj;subst hj;exact .t t4
 |7,hj=>injection hj with hj;subst hj;exact .t t5
 |j+8,hj=>simp [evC] at hj
theorem ao6 {n:Int} (h:(Lit.int .u8 n).wf=true):0<=n∧n<=255:=by
 simp only [Lit.wf,lbM,lbI] at h
 exact h
theorem ba1 {w:World} {n:Int}:RS w (fun _=>none) (fun _=>False) (a7 .u8 n) (.int .u8 n):=RS.int
inductive ak3 (w:World):List S->List Value->Prop
 |nil:ak3 w [] []
 |cons {s:S} {v:Value} {ss:List S} {vs:List Value} (h:RS w (fun _=>none) (fun _=>False) s v) (hs:ak3 w ss vs):ak3 w (s::ss) (v::vs)
theorem ak3.get {w:World} {ss:List S} {vs:List Value} (h:ak3 w ss vs):vs.length=ss.length∧∀(j:Nat) (s:S),ss[j]? =some s->RS w (fun _=>none) (fun _=>False) s (vs.getD j undef):=by
 induction h with
 |nil=>exact ⟨rfl,by simp⟩
 |cons h hs ih=>
  refine ⟨by simp [ih.1],fun j s hj=>?_⟩
  cases j with
  |zero=>simp at hj;subst hj;exact h
  |succ j=>simpa using ih.2 j s (by simpa using hj)
theorem ax8 {P:Program} {g:FuncId} {ss:List S} {b:Bool} (h:a8 P g ss [] (d9 b) []) {w:World} {vs:List Value} (ha:ak3 w ss vs):
 Calls P g vs.toArray w fun e w'=>e=.returned (.bool b)∧Below w.heap.size w w':=by
 obtain ⟨h1,h2⟩:=ha.get
 refine Calls.mono (h.2 w (fun _=>none) (fun _=>False) vs h1 h2 ⟨by simp,by simp,by simp,by simp,by simp⟩ (fun _ h=>h.elim) (fun _ _=>rfl)) ?_
 rintro e w' ⟨v,rfl,ι',M',q1,q2,q3,q4,q5⟩
 rw [q1.inv_atm]
 exact ⟨rfl,q5.os,q5.tape,q5.output,q5.size,fun k hk=>q5.keep k hk (by rintro ⟨id,k,_,_,hk,_⟩;simp at hk)⟩
section
open Go.RowKit Go.ChangeShapes Go.WideShapes Go.ChangeAt
theorem b2x {P:Program} {f:FuncId} {fn:Func} {s:ChangeSpec} {c:OpenClaim}
 (h1:c.wf (OpenSpec.ofChange s)=true) (h2:laidOutB P=true) (h3:mapsRowed P=true) (h4:fn.params.all (P.readableRec ·)=true) (h5:namedTie P c.named s.vars=true)
 (h6:(c.stops == [])=true) (h7:(P.stops == [])=true) (h8:(c.knobs == [])=true) (h9:(P.stopKnobs == [])=true)
 (h10:(c.inPlace == P.inPlace f)=true) (h11:(c.unfollowed == P.unfollowed f)=true) (h12:(c.recurses == P.recurses f)=true) (h13:(c.named == P.varsNamed f)=true)
 (h14:(c.maps == (fn.params.toList++s.plain.varTypes P).any (P.mapsRec ·))=true) (h15:(c.ifaces == (fn.params.toList++s.plain.varTypes P).any (P.ifacesRec ·))=true) (h16:(c.mapsOut == P.mapsAmong fn.resultTypes.toList)=true)
 (h17:(c.loops == (fn.params.toList++s.plain.varTypes P).any (P.loopsFrom ·))=true) (h18:(c.wideKeys == (fn.params.toList++s.plain.varTypes P++fn.resultTypes.toList).any (P.wideKeysFrom ·))=true)
 (h19:s.vars.all (P.varReadable ·)=true) (h20:fn.resultTypes.all (fun t=>P.readableRec t && decide (t<P.types.size))=true) (h21:(c.ifacesOut == fn.resultTypes.toList.any (P.ifacesRec ·))=true) (h22:(c.loopsOut == fn.resultTypes.toList.any (P.loopsFrom ·))=true)
 (h23:(c.plainKeys == P.plainKeys)=true) (h24:c.shortTexts.isNone=true) (h25:P.stopsHeard=true) (h26:P.mayEnter=true) (h27:(c.lifted == P.liftsFinal)=true) (h28:(P.make == some c.make)=true)
 (h29:c.domain.isEmpty=true) (h29b:(c.kinds == [])=true) (h30:(c.pinned == c.pinnedBy)=true)
 (h31:(c.veiled == (fn.params.toList++s.plain.varTypes P++fn.resultTypes.toList).any (P.veiledRec ·))=true) (h32:c.veiledFits P fn.params.toList (fn.params.toList++s.plain.varTypes P++fn.resultTypes.toList)=true):
 joinedFacts P f fn s c=true:=by
 unfold joinedFacts
 rw [h1,h2,h3,h4,h5,h6,h7,h8,h9,h10,h11,h12,h13,h14,h15,h16,h17,h18,h19,h20,h21,h22,h23,h24,h25,h26,h27,h28,if_pos h29,h29b,h30,h31,h32]
 rfl
theorem b7b:laidOutB Tryz.pinned.checked.prog=true:=by kernel_rfl
theorem b5C:mapsRowed Tryz.pinned.checked.prog=true:=by kernel_rfl
theorem b7f:(Rows.topHistoriesRow.plainKeys == Tryz.pinned.checked.prog.plainKeys)=true:=by kernel_rfl
theorem b44:Tryz.pinned.checked.prog.stopsHeard=true:=by kernel_rfl
theorem b4m:Tryz.pinned.checked.prog.mayEnter=true:=by kernel_rfl
theorem b6u:(Rows.topHistoriesRow.lifted == Tryz.pinned.checked.prog.liftsFinal)=true:=by kernel_rfl
theorem b6a:(Tryz.pinned.checked.prog.make == some Rows.topHistoriesRow.make)=true:=by kernel_rfl
end
section
open Go.RowKit Go.ChangeShapes Go.WideShapes Go.ChangeAt
set_option maxRecDepth 100000 in
theorem a6J (os:Os) (started:os.Started) (H:Type) (enc:TypeId × Value->H):
 ReturnsInHanded {} Tryz.checked os 3 .any (Rows.topCarriesSpec.pre6 enc Tryz.prog Tryz.f3 Rows.topCarriesRow.domain false) (Rows.topCarriesSpec.post enc Tryz.prog Tryz.f3 false true false false):=by
 refine returnsInHanded_of_change (C:=Tryz.checked) b6S started (by kernel_rfl) Tryz.func3
  (ChangeSpec.witness6 (enc:=enc) (C:=Tryz.checked) false ⟨#[],#[.agg #[.int .i64 0,.int .i64 0,.int .i64 0,.slice none 0 0,.slice none 0 0,.slice none 0 0,.slice none 0 0,.slice none 0 0],.int .u8 0],[]⟩ 12 (by kernel_rfl) (by kernel_rfl) (by kernel_rfl) (by kernel_rfl)) ?_
 intro W base args ds gs before hval0 hW hcnd _
 have hval:∀(j:Nat) t v,Tryz.f3.params[j]? =some t->args[j]? =some v->Value.okWide Tryz.prog W .any base t v:=hval0
 have hW':=hW
 obtain ⟨p,q,hA0,hV,rfl,hfz,hnd⟩:=hW
 have hA:DataW.TrodAll enc Tryz.prog W 0 (fun _=>true) true Tryz.f3.params.toList args.toList ds p:=hA0
 rw [Tryz.params3] at hA hval
 obtain ⟨v0,vs0,d0,ds0,p0,q0,hargs,rfl,rfl,h0,r0⟩:=trodAll_cons hA
 obtain ⟨v1,vs1,d1,ds1,p1,q1,rfl,rfl,rfl,h1,r1⟩:=trodAll_cons r0
 obtain ⟨rfl,rfl,rfl⟩:=trodAll_nil r1
 obtain rfl:args=#[v0,v1]:=by cases args;simp_all
 obtain ⟨rfl,rfl⟩:=trodVars_none hV
 obtain ⟨m,h,s,A1,n1,c1,A2,n2,c2,A3,n3,c3,A4,n4,c4,A5,n5,c5,e,rfl,hr,hb⟩:=b63 (hval 0 28 v0 rfl rfl) h0
 obtain ⟨a1,rfl,rfl,rfl,w1⟩:=open_int Tryz.underlying5 (hval 1 5 v1 rfl rfl) h1
 refine (ax8 (au3 e a1 (ao6 w1).1 (ao6 w1).2) (.cons (b9u hr hb) (.cons (ba1) (.nil)))).mono fun ee W' ⟨he,hg⟩=>?_
 subst he
 exact ⟨_,rfl,b4E hW' b2Z (by rw [Tryz.params3];intro t ht;simp at ht;first|(rcases ht with rfl|rfl<;>exact ⟨by kernel_rfl,lbL (by kernel_rfl)⟩)|(rcases ht with rfl|rfl<;>exact ⟨by kernel_rfl,lbL (by kernel_rfl)⟩)) rfl rfl (by kernel_rfl) Tryz.underlying4 hg⟩
theorem a7N:(Rows.topCarriesRow.inPlace == Tryz.pinned.checked.prog.inPlace 3)=true:=by kernel_rfl
theorem a9Q:(Rows.topCarriesRow.unfollowed == Tryz.pinned.checked.prog.unfollowed 3)=true:=by kernel_rfl
theorem ah5:(Rows.topCarriesRow.recurses == Tryz.pinned.checked.prog.recurses 3)=true:=by kernel_rfl
theorem a7R:(Rows.topCarriesRow.named == Tryz.pinned.checked.prog.varsNamed 3)=true:=by kernel_rfl
theorem a7w:(Rows.topCarriesRow.loops == (Tryz.f3.params.toList++Rows.topCarriesSpec.plain.varTypes Tryz.pinned.checked.prog).any (Tryz.pinned.checked.prog.loopsFrom ·))=true:=by kernel_rfl
set_option maxRecDepth 100000 in
theorem a6L:joinedFacts Tryz.pinned.checked.prog 3 Tryz.f3 (Rows.topCarriesSpec) Rows.topCarriesRow=true:=b2x (by kernel_rfl) b7b b5C (by kernel_rfl) (by kernel_rfl) (by kernel_rfl) (by kernel_rfl) (by kernel_rfl) (by kernel_rfl) a7N a9Q ah5 a7R (by kernel_rfl) (by kernel_rfl) (by kernel_rfl) a7w (by kernel_rfl) (by kernel_rfl) (by kernel_rfl) (by kernel_rfl) (by kernel_rfl) b7f (by kernel_rfl) b44 b4m b6u b6a (by kernel_rfl) (by kernel_rfl) (by kernel_rfl) (by kernel_rfl) (by kernel_rfl)
theorem topCarries_holds:Rows.TopCarriesSaid:=
 OpenClaim.holds_of_wide 3 Tryz.f3 rfl rfl rfl rfl rfl rfl rfl ⟨rfl,rfl,rfl,rfl,rfl⟩ rfl rfl rfl rfl rfl (by kernel_rfl) Tryz.func3 a6L
  (lbL (by kernel_rfl)) (by unfold Func.isWrapper;first|(rw [if_pos (by decide +kernel)];kernel_rfl)|(rw [if_neg (by decide +kernel)];exact ⟨rfl,rfl⟩))
  (fun os started H enc _=>a6J os started H enc)
end
end Go.Proofs.YtaejgdbahjjncaaGreat
