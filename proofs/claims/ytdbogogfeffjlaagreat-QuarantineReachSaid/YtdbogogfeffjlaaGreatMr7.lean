/- Part 7. -/
import Derived.Test.YtdbogogfeffjlaaGreatMr6
namespace Go.Proofs.YtdbogogfeffjlaaGreat
set_option linter.unusedVariables false
set_option linter.unusedSimpArgs false
set_option maxRecDepth 100000
set_option maxHeartbeats 8000000
open Go.RowKit
open St1 St2 St3 St4 St5 St6 St7 St8 StA StB
theorem a9J (x:Rat) (h:rl x<=60000):a9 Tryz.prog 270 [frS (fz x)] [] (frS (fz x)) []:=by
 have n1:=a3J x h
 have n2:=a3J (-x) (by rw [T5];exact h)
 rw [show - -x=x by grind] at n2
 (refine ac Tryz.func270 ?_;(conv=>whnf);repeat ((first|refine b0x ?_|refine zy ?_);conv=>whnf))
 repeat' (first|refine zx ?_|refine qp n1 ?_|refine qp n2 ?_|refine zd ?_ ?_<;>intro h<;>try omega|fail)<;>conv=>whnf
 all_goals exact aN3 rfl
theorem a8y (b:List (Int × Rat)):x7 [] b=b:=by rw [x7]
theorem aY7 (t:Int × Rat) (r:List (Int × Rat)):x7 (t::r) []=t::x7 r []:=by
 rw [x7]
 cases r with
 |nil=>rw [x7]
 |cons a r=>rw [x7]
theorem b4N {t u:Int × Rat} {r q:List (Int × Rat)} (h:t.1<u.1):x7 (t::r) (u::q)=t::x7 r (u::q):=by rw [x7,if_pos h]
theorem b6o {t u:Int × Rat} {r q:List (Int × Rat)} (h:u.1<t.1):x7 (t::r) (u::q)=u::x7 (t::r) q:=by rw [x7,if_neg (by omega),if_pos h]
theorem aV0 {t u:Int × Rat} {r q:List (Int × Rat)} (h:t.1=u.1) (h0:t.2+u.2=0):x7 (t::r) (u::q)=x7 r q:=by rw [x7,if_neg (by omega),if_neg (by omega),if_pos h0]
theorem b3T {t u:Int × Rat} {r q:List (Int × Rat)} (h:t.1=u.1) (h0:¬t.2+u.2=0):x7 (t::r) (u::q)=(t.1,t.2+u.2)::x7 r q:=by rw [x7,if_neg (by omega),if_neg (by omega),if_neg h0]
structure be0 (a b:List (Int × Rat)) (n:Nat) (x:List (Int × Rat) × List (Int × Rat) × List (Int × Rat)):Prop where
 e:x.1++x7 x.2.1 x.2.2=x7 a b
 o:x.1.length+x.2.1.length+x.2.2.length<=n
 a:∀t ∈ x.2.1,rl t.2<=200
 b:∀t ∈ x.2.2,rl t.2<=200
theorem b9L (a b:List (Int × Rat)) (ha:f9 (-1) 1500 a=true) (hb:f9 (-1) 1500 b=true) (ba:∀t ∈ a,rl t.2<=200) (bb:∀t ∈ b,rl t.2<=200):
 a9 Tryz.prog 221 [s7 a,s7 b] [] (s7 (x7 a b)) []:=by
 have la:=C8 ha
 have lb:=C8 hb
 have r1:=P4 a 1500 (by omega) ba
 have r2:=P4 b 1500 (by omega) bb
 rw [ha] at r1
 rw [hb] at r2
 (refine ac Tryz.func221 ?_;(conv=>whnf);repeat ((first|refine b0x ?_|refine zy ?_);conv=>whnf))
 repeat' (first|refine zx ?_|refine qp r1 ?_|refine qp r2 ?_|refine zd ?_ ?_<;>intro h<;>try omega|fail)<;>conv=>whnf
 all_goals try (exfalso;simp_all;done)
 refine n8 c8 (σ:=List (Int × Rat) × List (Int × Rat) × List (Int × Rat)) (fun x=>([s7 x.2.1,s7 x.2.2,J,J,J,S.c (C.own 0 0 x.1.length true)]++Jn 112,[S8 x.1])) (be0 a b 3000) (fun x=>x.2.1.length+x.2.2.length) ([],a,b) [none]
  ⟨rfl,by simp;omega,ba,bb⟩ ⟨rfl,rfl,⟨⟨rfl,rfl⟩,trivial⟩,⟨rfl,rfl,⟨rfl,rfl,rfl⟩,trivial⟩⟩ ?_
 rintro ⟨o,a',b'⟩ ⟨h1,h2,h3,h4⟩
 simp only at h1 h2 h3 h4
 rw [← h1]
 show a4T _ _ _ _ ([s7 a',s7 b',J,J,J,S.c (C.own 0 0 o.length true)]++Jn 112) [S8 o] _
 have ma:(a'.map k5).length=a'.length:=by simp
 have mb:(b'.map k5).length=b'.length:=by simp
 have lA:o.length<=(S8 o).rows.length:=by show o.length<=(toC _).length;simp [toC]
 cases a' with
 |nil=>
  have na:([]:List (Int × Rat)).length=0:=rfl
  cases b' with
  |nil=>
   rw [a8y,List.append_nil]
   conv=>whnf
   repeat' (first|refine zx ?_|refine zd ?_ ?_<;>intro h<;>try omega|fail)<;>conv=>whnf
   all_goals first
    |omega
    |exact I6 rfl (fun h=>h) rfl rfl (by simp)
  |cons u q=>
   have nb:(u::q).length=q.length+1:=rfl
   have bu:=h4 u (List.mem_cons_self ..)
   have fr:=a9J u.2 (by omega)
   conv=>whnf
   repeat' (first|refine zx ?_|refine qp fr ?_|refine qp 0 ?_|refine qp toC ?_|refine a4r (by omega) (by omega) (by omega) ?_|refine F4 (k:=0) rfl (show (u::q)[0]? =some u from rfl) ?_|refine o8 lA (by simp [toC];omega) ?_|refine zd ?_ ?_<;>intro h<;>try omega|fail)<;>conv=>whnf
   all_goals first
    |omega
    |exact ⟨[some 1],(o++[(u.1,u.2)],[],q),⟨rfl,rfl,⟨a8 (rows:=(o++[(u.1,u.2)]).map k5) rfl rfl rfl (B9 (f:=k5) (x:=(u.1,u.2)) rfl) rfl,trivial⟩,⟨rfl,g6 (aS1 u q),⟨rfl,rfl,by simp [toC],fun h=>h⟩,trivial⟩⟩,⟨by simp only [a8y];rw [← h1,a8y,lbD];try rfl,by simp only [lbq,lbu,List.length_nil] at h2 ⊢;omega,h3,fun t ht=>h4 t (List.mem_cons_of_mem _ ht)⟩,by simp⟩
 |cons t r=>
  have na:(t::r).length=r.length+1:=rfl
  have bt:=h3 t (List.mem_cons_self ..)
  cases b' with
  |nil=>
   have nb:([]:List (Int × Rat)).length=0:=rfl
   have fr:=a9J t.2 (by omega)
   conv=>whnf
   repeat' (first|refine zx ?_|refine qp fr ?_|refine qp 0 ?_|refine qp toC ?_|refine a4r (by omega) (by omega) (by omega) ?_|refine F4 (k:=0) rfl (show (t::r)[0]? =some t from rfl) ?_|refine o8 lA (by simp [toC];omega) ?_|refine zd ?_ ?_<;>intro h<;>try omega|fail)<;>conv=>whnf
   all_goals first
    |omega
    |exact ⟨[some 1],(o++[(t.1,t.2)],r,[]),⟨rfl,rfl,⟨a8 (rows:=(o++[(t.1,t.2)]).map k5) rfl rfl rfl (B9 (f:=k5) (x:=(t.1,t.2)) rfl) rfl,trivial⟩,⟨g6 (aS1 t r),rfl,⟨rfl,rfl,by simp [toC],fun h=>h⟩,trivial⟩⟩,⟨by show _++x7 _ _=x7 a b;rw [← h1,aY7,lbD];rfl,by simp only [lbq,lbu,List.length_nil] at h2 ⊢;omega,fun t ht=>h3 t (List.mem_cons_of_mem _ ht),h4⟩,by simp⟩
  |cons u q=>
   have nb:(u::q).length=q.length+1:=rfl
   have bu:=h4 u (List.mem_cons_self ..)
   rcases Int.lt_trichotomy t.1 u.1 with hlt|he|hgt
   ·have fr:=a9J t.2 (by omega)
    conv=>whnf
    repeat' (first|refine zx ?_|refine qp fr ?_|refine qp 0 ?_|refine qp 0 ?_|refine qp toC ?_|refine a4r (by omega) (by omega) (by omega) ?_|refine F4 (k:=0) rfl (show (t::r)[0]? =some t from rfl) ?_|refine F4 (k:=0) rfl (show (u::q)[0]? =some u from rfl) ?_|refine o8 lA (by simp [toC];omega) ?_|refine zd ?_ ?_<;>intro h<;>try omega|fail)<;>conv=>whnf
    all_goals first
     |omega
     |exact ⟨[some 1],(o++[(t.1,t.2)],r,u::q),⟨rfl,rfl,⟨a8 (rows:=(o++[(t.1,t.2)]).map k5) rfl rfl rfl (B9 (f:=k5) (x:=(t.1,t.2)) rfl) rfl,trivial⟩,⟨g6 (aS1 t r),rfl,⟨rfl,rfl,by simp [toC],fun h=>h⟩,trivial⟩⟩,⟨by show _++x7 _ _=x7 a b;rw [← h1,b4N hlt,lbD];rfl,by simp only [lbq,lbu,List.length_nil] at h2 ⊢;omega,fun t ht=>h3 t (List.mem_cons_of_mem _ ht),h4⟩,by simp⟩
   ·have ad:=a3Z t.2 u.2 (by omega) (by omega)
    have ab:=a4H t.2 u.2
    have sg:=a9Y (t.2+u.2) (by omega)
    have sz:=a4N (x:=t.2+u.2)
    by_cases hz:t.2+u.2=0
    ·have hs:=sz.2 hz
     conv=>whnf
     repeat' (first|refine zx ?_|refine qp ad ?_|refine qp sg ?_|refine qp 0 ?_|refine qp 0 ?_|refine qp toC ?_|refine qp 11 ?_|refine a4r (by omega) (by omega) (by omega) ?_|refine F4 (k:=0) rfl (show (t::r)[0]? =some t from rfl) ?_|refine F4 (k:=0) rfl (show (u::q)[0]? =some u from rfl) ?_|refine o8 lA (by simp [toC];omega) ?_|refine bl0 [11] ?_|refine zd ?_ ?_<;>intro h<;>try omega|fail)<;>conv=>whnf
     all_goals first
      |omega
      |exact ⟨[some 0],(o,r,q),⟨rfl,rfl,⟨a8 (rows:=o.map k5) rfl rfl rfl rfl rfl,trivial⟩,⟨g6 (aS1 t r),g6 (aS1 u q),⟨rfl,rfl,rfl,fun h=>h⟩,trivial⟩⟩,⟨by show _++x7 _ _=x7 a b;rw [← h1,aV0 he hz],by simp only [lbq,lbu,List.length_nil] at h2 ⊢;omega,fun t ht=>h3 t (List.mem_cons_of_mem _ ht),fun t ht=>h4 t (List.mem_cons_of_mem _ ht)⟩,by simp;omega⟩
    ·have hs:sgR (t.2+u.2)≠0:=fun h=>hz (sz.1 h)
     conv=>whnf
     repeat' (first|refine zx ?_|refine qp ad ?_|refine qp sg ?_|refine qp 0 ?_|refine qp 0 ?_|refine qp toC ?_|refine qp 11 ?_|refine a4r (by omega) (by omega) (by omega) ?_|refine F4 (k:=0) rfl (show (t::r)[0]? =some t from rfl) ?_|refine F4 (k:=0) rfl (show (u::q)[0]? =some u from rfl) ?_|refine o8 lA (by simp [toC];omega) ?_|refine bl0 [11] ?_|refine zd ?_ ?_<;>intro h<;>try omega|fail)<;>conv=>whnf
     all_goals first
      |omega
      |exact ⟨[some 2],(o++[(t.1,t.2+u.2)],r,q),⟨rfl,rfl,⟨a8 (rows:=(o++[(t.1,t.2+u.2)]).map k5) rfl rfl rfl (B9 (f:=k5) (x:=(t.1,t.2+u.2)) rfl) rfl,trivial⟩,⟨g6 (aS1 t r),g6 (aS1 u q),⟨rfl,rfl,by simp [toC],fun h=>h⟩,trivial⟩⟩,⟨by show _++x7 _ _=x7 a b;rw [← h1,b3T he hz,lbD];rfl,by simp only [lbq,lbu,List.length_nil] at h2 ⊢;omega,fun t ht=>h3 t (List.mem_cons_of_mem _ ht),fun t ht=>h4 t (List.mem_cons_of_mem _ ht)⟩,by simp;omega⟩
   ·have fr:=a9J u.2 (by omega)
    conv=>whnf
    repeat' (first|refine zx ?_|refine qp fr ?_|refine qp 0 ?_|refine qp 0 ?_|refine qp toC ?_|refine a4r (by omega) (by omega) (by omega) ?_|refine F4 (k:=0) rfl (show (t::r)[0]? =some t from rfl) ?_|refine F4 (k:=0) rfl (show (u::q)[0]? =some u from rfl) ?_|refine o8 lA (by simp [toC];omega) ?_|refine zd ?_ ?_<;>intro h<;>try omega|fail)<;>conv=>whnf
    all_goals first
     |omega
     |exact ⟨[some 1],(o++[(u.1,u.2)],t::r,q),⟨rfl,rfl,⟨a8 (rows:=(o++[(u.1,u.2)]).map k5) rfl rfl rfl (B9 (f:=k5) (x:=(u.1,u.2)) rfl) rfl,trivial⟩,⟨rfl,g6 (aS1 u q),⟨rfl,rfl,by simp [toC],fun h=>h⟩,trivial⟩⟩,⟨by show _++x7 _ _=x7 a b;rw [← h1,b6o hgt,lbD];rfl,by simp only [lbq,lbu,List.length_nil] at h2 ⊢;omega,h3,fun t ht=>h4 t (List.mem_cons_of_mem _ ht)⟩,by simp⟩
theorem au4 {ρ:List (Option Nat)} {H:Hp} {x y:C} (h:aT3 ρ H x y):∀{A:List (List T)},a4Z ρ H (toC A++[[x]]) (toC A++[[y]])
 |[]=>⟨⟨h,trivial⟩,trivial⟩
 |a::A=>⟨N1 a,au4 h⟩
theorem ax5 {ρ:List (Option Nat)} {H:Hp} {id len:Nat} {app:Bool} {size:Nat} {k:Blk} {rows:List (List T)} (hn:E4 ρ id=true) (hk:H[id]? =some k) (hd:¬k.mode.gone) (hs:k.size=size) (hc:k.rows=toC rows) (hl:len=rows.length):
 aT3 ρ H (.own id 0 len app) (.t (.sl size .any rows)):=show VC H _ _ _ from u4 hn hk hd hs hc hl
def a4m (g:List (Int × Rat)):List T:=[a8e g]
abbrev b8t (l:List (List (Int × Rat))):T:=.sl 1 .any (l.map a4m)
abbrev a5f (l:List (List (Int × Rat))):S:=.c (.t (b8t l))
abbrev ac6 (l:List (List (Int × Rat))):Blk:={ mode:=.live,elem:=64,size:=1,rows:=toC (l.map a4m),box:=false }
def B4 (i:Nat):List (Int × Rat):=[((i:Int),((1:Int):Rat))]
def w5 (e:Ev) (p k:Nat):List (Int × Rat):=if j9 e p=0 then [] else j0 e p k
def G7 (e:Ev) (k p:Nat):List (List (Int × Rat)):=(List.range k).map B4++(List.range p).map fun p=>w5 e p e.moves.length
def J0 (e:Ev):List (List (Int × Rat)):=G7 e e.moves.length e.places.length
theorem a6Q (e:Ev) (k p:Nat):(G7 e k p).length=k+p:=by simp [G7]
theorem b42 (e:Ev) (k:Nat):G7 e (k+1) 0=G7 e k 0++[B4 k]:=by simp [G7,List.range_succ]
theorem b3W (e:Ev) (k p:Nat):G7 e k (p+1)=G7 e k p++[w5 e p e.moves.length]:=by simp [G7,List.range_succ,lbD]
theorem a3t (e:Ev) (p:Nat):w5 e p 0=[]:=by unfold w5;split<;>rfl
theorem a7J {e:Ev} {p k:Nat} {m:n9} (h:e.moves[k]? =some m):w5 e p (k+1)=if j9 e p=0 then [] else if m.dst=p then w5 e p k++[((k:Int),((1:Int):Rat))] else if m.src=p then w5 e p k++[((k:Int),((-1:Int):Rat))] else w5 e p k:=by
 unfold w5
 by_cases h0:j9 e p=0
 ·rw [if_pos h0,if_pos h0]
 ·rw [if_neg h0,if_neg h0,if_neg h0]
  conv=>lhs;unfold j0
  rw [h]
theorem a9j (e:Ev) (p:Nat):∀k,(w5 e p k).length<=k
 |0=>by rw [a3t];simp
 |k+1=>by
  have ih:=a9j e p k
  cases hm:e.moves[k]? with
  |none=>
   have:w5 e p (k+1)=w5 e p k:=by
    unfold w5
    conv=>lhs;unfold j0
    rw [hm]
   rw [this];omega
  |some m=>
   rw [a7J hm]
   split
   ·simp
   ·split
    ·simp;omega
    ·split
     ·simp;omega
     ·omega
abbrev plB (p:G5):Blk:={ mode:=.live,elem:=77,size:=3,rows:=[p.row.map .t],box:=true }
theorem b6F (e:Ev) (hs:e.Sized) (hm:e.moves.length<=1000) (hp:e.places.length<=1000):a9 Tryz.prog 146 [evS e] [] (a5f (J0 e)) []:=by
 have m1:(e.moves.map n9.row).length=e.moves.length:=by simp
 have m2:(e.places.map G5.row).length=e.places.length:=by simp
 unfold J0
 (refine ac Tryz.func146 ?_;(conv=>whnf);repeat ((first|refine b0x ?_|refine zy ?_);conv=>whnf))
 repeat' (first|refine zx ?_|refine zd ?_ ?_<;>intro h<;>try omega|fail)<;>conv=>whnf
 refine d8 c8 (fun k=>([J,S.c (C.t (T.ptr (evT e))),J,S.c (C.own 0 0 k true),J,J,J,J,J,J,J,J,a7 .i64 e.moves.length,a7 .i64 k]++Jn 53,[ac6 (G7 e k 0)])) e.moves.length (fun _=>True) [none] trivial
  ⟨rfl,rfl,⟨⟨rfl,rfl⟩,trivial⟩,⟨rfl,⟨rfl,rfl,rfl⟩,b8 (by simp),rfl,trivial⟩⟩ ?_
 intro k hk _
 have l1:=a6Q e k 0
 by_cases hlt:k<e.moves.length
 ·have on:=a8q k 1 (by decide) (by decide)
  have lA:k<=(ac6 (G7 e k 0)).rows.length:=by show _<=(toC _).length;simp [toC,l1]
  rw [b42]
  conv=>whnf
  repeat' (first|refine zx ?_|refine qp on ?_|refine qp toC ?_|refine o8 lA (by simp [toC];omega) ?_|refine zd ?_ ?_<;>intro h<;>try omega|fail)<;>conv=>whnf
  all_goals first
   |omega
   |(refine ⟨hlt,trivial,[some 1],rfl,rfl,⟨a8 (rows:=(G7 e k 0++[B4 k]).map a4m) rfl rfl rfl ?_ rfl,trivial⟩,⟨rfl,⟨rfl,rfl,rfl,fun h=>h⟩,rfl,b8 (by omega),trivial⟩⟩
     exact B9 (f:=a4m) (x:=B4 k) (by omega))
 have hke:k=e.moves.length:=by omega
 subst hke
 conv=>whnf
 repeat' (first|refine zx ?_|refine zd ?_ ?_<;>intro h<;>try omega|fail)<;>conv=>whnf
 all_goals try omega
 refine d8 c8 (fun p=>([J,S.c (C.t (T.ptr (evT e))),J,S.c (C.own 0 0 (e.moves.length+p) true)]++Jn 19++[S.c (C.t (a1p e.places)),a7 .i64 e.places.length,a7 .i64 p]++Jn 41,[ac6 (G7 e e.moves.length p)])) e.places.length (fun _=>True) [some 0] trivial
  ⟨rfl,rfl,⟨a8 (rows:=(G7 e e.moves.length 0).map a4m) rfl rfl rfl rfl rfl,trivial⟩,⟨rfl,⟨rfl,rfl,rfl,fun h=>h⟩,rfl,b8 (by simp),rfl,trivial⟩⟩ ?_
 intro p hpl _
 have l2:=a6Q e e.moves.length p
 by_cases hlt:p<e.places.length
 ·obtain ⟨pl,hpp⟩:∃pl,e.places[p]? =some pl:=⟨_,lbf hlt⟩
  have hkp:j9 e p=pl.kind:=by unfold j9;simp [hpp]
  rw [b3W]
  conv=>whnf
  repeat' (first|refine zx ?_|refine b9 hpp ?_|refine zd ?_ ?_<;>intro h<;>try omega|fail)<;>conv=>whnf
  all_goals try omega
  refine d8 c8 (fun i=>([J,S.c (C.t (T.ptr (evT e))),J,S.c (C.own 0 0 (e.moves.length+p) true),J,a7 .i64 p,S.c (C.ptr 1 0 0),S.c (C.own 2 0 (w5 e p i).length true)]++Jn 15++[S.c (C.t (a1p e.places)),a7 .i64 e.places.length,a7 .i64 p,J,J,J,J,J,S.c (C.t (a1g e.moves)),a7 .i64 e.moves.length,a7 .i64 i]++Jn 33,[ac6 (G7 e e.moves.length p),plB pl,S8 (w5 e p i)])) e.moves.length (fun _=>True) [some 0,some 1,none] trivial
   ⟨rfl,rfl,⟨d7 (c6 _),d7 (c6 [pl.row]),⟨(by show (toC ((w5 e p 0).map k5))=[];rw [a3t];rfl),rfl⟩,trivial⟩,⟨rfl,⟨rfl,rfl,rfl,fun h=>h⟩,rfl,⟨rfl,rfl,rfl⟩,⟨rfl,rfl,by rw [a3t];rfl⟩,rfl,rfl,rfl,rfl,b8 (by simp),rfl,trivial⟩⟩ ?_
  intro i hi _
  have l3:=a9j e p i
  by_cases hil:i<e.moves.length
  ·obtain ⟨m,hmm⟩:∃m,e.moves[i]? =some m:=⟨_,lbf hil⟩
   have on:=a8q i 1 (by decide) (by decide)
   have on2:=a8q i (-1) (by decide) (by decide)
   have lA:(w5 e p i).length<=(S8 (w5 e p i)).rows.length:=by show _<=(toC _).length;simp [toC]
   have eS:=a7J (p:=p) hmm
   rw [hkp] at eS
   by_cases h0:pl.kind=0
   ·have e0:∀k,w5 e p k=[]:=fun k=>by unfold w5;rw [hkp,if_pos h0]
    rw [e0,e0]
    conv=>whnf
    repeat' (first|refine zx ?_|refine b9 hmm ?_|refine zd ?_ ?_<;>intro h<;>try omega|fail)<;>conv=>whnf
    all_goals first
     |omega
     |exact ⟨hil,trivial,[some 0,some 1,some 2],rfl,rfl,⟨d7 (c6 _),d7 (c6 [pl.row]),d7 (c6 _),trivial⟩,⟨rfl,⟨rfl,rfl,rfl,fun h=>h⟩,rfl,⟨rfl,rfl,rfl⟩,⟨rfl,rfl,rfl,fun h=>h⟩,rfl,rfl,rfl,rfl,rfl,b8 (by omega),trivial⟩⟩
   rw [if_neg h0] at eS
   by_cases h1:m.dst=p
   ·rw [if_pos h1] at eS
    rw [eS]
    conv=>whnf
    repeat' (first|refine zx ?_|refine qp on ?_|refine qp toC ?_|refine b9 hmm ?_|refine o8 lA (by simp [toC];omega) ?_|refine zd ?_ ?_<;>intro h<;>try omega|fail)<;>conv=>whnf
    all_goals first
     |omega
     |(refine ⟨hil,trivial,[some 0,some 1,some 4],rfl,rfl,⟨d7 (c6 _),d7 (c6 [pl.row]),a8 (rows:=(w5 e p i++[((i:Int),((1:Int):Rat))]).map k5) rfl rfl rfl ?_ rfl,trivial⟩,⟨rfl,⟨rfl,rfl,rfl,fun h=>h⟩,rfl,⟨rfl,rfl,rfl⟩,⟨rfl,rfl,?_,fun h=>h⟩,rfl,rfl,rfl,rfl,rfl,b8 (by omega),trivial⟩⟩
       ·exact B9 (f:=k5) (x:=((i:Int),((1:Int):Rat))) rfl
       ·simp [toC])
   rw [if_neg h1] at eS
   by_cases h2:m.src=p
   ·rw [if_pos h2] at eS
    rw [eS]
    conv=>whnf
    repeat' (first|refine zx ?_|refine qp on2 ?_|refine qp toC ?_|refine b9 hmm ?_|refine o8 lA (by simp [toC];omega) ?_|refine zd ?_ ?_<;>intro h<;>try omega|fail)<;>conv=>whnf
    all_goals first
     |omega
     |(refine ⟨hil,trivial,[some 0,some 1,some 4],rfl,rfl,⟨d7 (c6 _),d7 (c6 [pl.row]),a8 (rows:=(w5 e p i++[((i:Int),((-1:Int):Rat))]).map k5) rfl rfl rfl ?_ rfl,trivial⟩,⟨rfl,⟨rfl,rfl,rfl,fun h=>h⟩,rfl,⟨rfl,rfl,rfl⟩,⟨rfl,rfl,?_,fun h=>h⟩,rfl,rfl,rfl,rfl,rfl,b8 (by omega),trivial⟩⟩
       ·exact B9 (f:=k5) (x:=((i:Int),((-1:Int):Rat))) rfl
       ·simp [toC])
   rw [if_neg h2] at eS
   rw [eS]
   conv=>whnf
   repeat' (first|refine zx ?_|refine b9 hmm ?_|refine zd ?_ ?_<;>intro h<;>try omega|fail)<;>conv=>whnf
   all_goals first
    |omega
    |exact ⟨hil,trivial,[some 0,some 1,some 2],rfl,rfl,⟨d7 (c6 _),d7 (c6 [pl.row]),d7 (c6 _),trivial⟩,⟨rfl,⟨rfl,rfl,rfl,fun h=>h⟩,rfl,⟨rfl,rfl,rfl⟩,⟨rfl,rfl,rfl,fun h=>h⟩,rfl,rfl,rfl,rfl,rfl,b8 (by omega),trivial⟩⟩
  ·have hie:i=e.moves.length:=by omega
   subst hie
   have lA:e.moves.length+p<=(ac6 (G7 e e.moves.length p)).rows.length:=by show _<=(toC _).length;simp [toC,l2]
   conv=>whnf
   repeat' (first|refine zz ?_|refine qp (toC,y5) ?_|refine a2n.own ?_|refine ⟨lbR _,?_⟩|refine o8 lA (by simp [toC,y5];omega) ?_|refine zd ?_ ?_<;>intro h<;>try omega|refine zy ?_|fail)<;>conv=>whnf
   all_goals first
    |omega
    |(refine ⟨hlt,trivial,[some 4],rfl,rfl,⟨⟨rfl,rfl,rfl,.inr ?_⟩,trivial⟩,⟨rfl,⟨rfl,rfl,rfl,fun h=>h⟩,rfl,rfl,b8 (by omega),trivial⟩⟩
      show a4Z [some 4] _ (List.take (e.moves.length+p) (toC ((G7 e e.moves.length p).map a4m))++[[C.own 2 0 (w5 e p e.moves.length).length true]]) (toC ((G7 e e.moves.length p++[w5 e p e.moves.length]).map a4m))
      rw [lbn (by simp [toC,l2]),show toC ((G7 e e.moves.length p++[w5 e p e.moves.length]).map a4m)=toC ((G7 e e.moves.length p).map a4m)++[[C.t (a8e (w5 e p e.moves.length))]] by simp [toC,a4m]]
      refine au4 ?_
      exact ax5 (k:=S8 (w5 e p e.moves.length)) rfl rfl (by intro h;cases h) rfl rfl (by rw [lbr]))
 ·have hpe:p=e.places.length:=by omega
  subst hpe
  conv=>whnf
  repeat' (first|refine zx ?_|refine zd ?_ ?_<;>intro h<;>try omega|fail)<;>conv=>whnf
  all_goals first
   |omega
   |exact I6 rfl (fun h=>h) rfl rfl (by simp [l2])
structure a8k (s:g4) (gL:List (List (Int × Rat))):Prop where
 p:a20 s gL
 sm:a1h s
 pos:0<s.n
 w:∀g ∈ gL,a0B 1 g
 l:gL.length<=30
theorem a7o {B:Nat} {g:List (Int × Rat)} (h:a0B B g) (hB:B<=1048575):D2 g:=fun t ht=>by
 obtain ⟨c,h1,h2⟩:=h t ht
 exact ⟨c,h1,s9 (by omega) (by omega)⟩
theorem a72 {s:g4} {gL:List (List (Int × Rat))} (h:a8k s gL) (out:List Bool):∀k,k<=gL.length->a0B k (M9 gL out k)
 |0,_=>fun t ht=>by cases ht
 |k+1,hk=>by
  have ih:=a72 h out k (by omega)
  unfold M9
  split
  ·intro t ht;obtain ⟨c,h1,h2⟩:=ih t ht;exact ⟨c,h1,by omega⟩
  ·exact aY0 _ (lbR _) ih (h.w _ (Q7 (by omega)))
theorem af1 {s:g4} {gL:List (List (Int × Rat))} (h:a8k s gL) (out:List Bool) (k:Nat) (hk:k<=gL.length):D2 (M9 gL out k):=a7o (a72 h out k hk) (by have:=h.l;omega)
theorem aF3 {s:g4} {gL:List (List (Int × Rat))} (h:a8k s gL) (out:List Bool):∀v ∈ a15 s gL out,rl v<=31:=b5E h.sm (a0C h.p out _ (lbR _)) (af1 h out _ (lbR _))
theorem ab5 {s:g4} {gL:List (List (Int × Rat))} {out:List Bool}:(a15 s gL out).length=s.n.toNat:=ax6
theorem a7e {s:g4} {gL:List (List (Int × Rat))}:∀k,(a0a s gL k).length=s.n.toNat
 |0=>ab5
 |k+1=>a2g (a7e k) ab5
theorem a9Q {s:g4} {gL:List (List (Int × Rat))} (h:a8k s gL) (k:Nat):∀v ∈ a0a s gL k,rl v<=(k+1)*32:=by
 induction k with
 |zero=>
  intro v hv
  have hv:v ∈ a15 s gL (v5 s gL 0):=hv
  exact lbS (aF3 h (v5 s gL 0) v hv) (by decide)
 |succ k ih=>
  have hf:=aF3 h (v5 s gL (k+1))
  intro v hv
  have hv:v ∈ a00 (a0a s gL k) (a15 s gL (v5 s gL (k+1))):=hv
  generalize a0a s gL k=X at ih hv
  generalize a15 s gL (v5 s gL (k+1))=Y at hf hv
  have h1:=b16 ih hf v hv
  have e:(k+1+1)*32=(k+1)*32+32:=lbV _ _
  rw [e];exact h1
def a2F (b:Bool):List T:=[tb b]
abbrev a7f (l:List Bool):T:=.sl 1 .any (l.map a2F)
abbrev b98 (l:List Bool):S:=.c (.t (a7f l))
abbrev a08 (l:List Bool):Blk:={ mode:=.live,elem:=4,size:=1,rows:=toC (l.map a2F),box:=false }
def a3I (gL:List (List (Int × Rat))) (out:List Bool) (x:List Rat) (i:Nat):List Bool:=(List.range gL.length).map fun j=>if j<i then (out.getD j false || a27 (gL.getD j []) x) else out.getD j false
def a5b (gL:List (List (Int × Rat))) (out:List Bool) (x:List Rat) (i:Nat):Bool:=(List.range i).any fun j=>!out.getD j false && a27 (gL.getD j []) x
theorem a73 (gL:List (List (Int × Rat))) (out:List Bool) (x:List Rat) (i:Nat):(a3I gL out x i).length=gL.length:=by simp [a3I]
theorem b3y {gL:List (List (Int × Rat))} {out:List Bool} {x:List Rat} (h:out.length=gL.length):a3I gL out x 0=out:=by
 refine List.ext_getElem (by rw [a73,h]) fun i h1 h2=>?_
 simp [a3I,lbl,lbf h2]
theorem b4q {gL:List (List (Int × Rat))} {out:List Bool} {x:List Rat} {i:Nat} (h:i<gL.length):(a3I gL out x i)[i]? =some (out.getD i false):=by
 unfold a3I;rw [lba,a5u h];simp
theorem aQ8 (s:g4) (gL:List (List (Int × Rat))) (k:Nat):a3I gL (v5 s gL k) (a15 s gL (v5 s gL k)) gL.length=v5 s gL (k+1):=by
 show _=aw8 s gL (v5 s gL k)
 unfold a3I aw8
 exact lbp fun j hj=>by rw [if_pos (lbB.1 hj)]
theorem b43 {gL:List (List (Int × Rat))} {out:List Bool} {x:List Rat} {i:Nat} (h:i<gL.length) (hp:a27 (gL.getD i []) x=true):(a3I gL out x i).set i true=a3I gL out x (i+1):=by
 refine List.ext_getElem? fun j=>?_
 rw [lbg]
 by_cases hj:j<gL.length
 ·unfold a3I
  rw [lba,lba,a5u hj,lbr,List.length_range]
  by_cases hij:i=j
  ·subst hij;rw [if_pos rfl,if_pos h]
   show some true=some (if i<i+1 then (out.getD i false || a27 (gL.getD i []) x) else out.getD i false)
   rw [if_pos (show i<i+1 by omega),hp,Bool.or_true]
  ·rw [if_neg hij]
   show some (if j<i then (out.getD j false || a27 (gL.getD j []) x) else out.getD j false)=some (if j<i+1 then (out.getD j false || a27 (gL.getD j []) x) else out.getD j false)
   by_cases hji:j<i
   ·rw [if_pos hji,if_pos (by omega)]
   ·rw [if_neg hji,if_neg (by omega)]
 ·rw [lbd (by rw [a73];omega),lbd (by rw [a73];omega),a73]
  by_cases hij:i=j
  ·subst hij;omega
  ·rw [if_neg hij]
theorem at1 {gL:List (List (Int × Rat))} {out:List Bool} {x:List Rat} {i:Nat} (h:out.getD i false=true∨a27 (gL.getD i []) x=false):a3I gL out x (i+1)=a3I gL out x i:=by
 unfold a3I
 refine lbp fun j hj=>?_
 by_cases hij:j=i
 ·subst hij
  rw [if_pos (by omega),if_neg (by omega)]
  rcases h with h|h
  ·rw [h];rfl
  ·rw [h,Bool.or_false]
 ·by_cases hji:j<i
  ·rw [if_pos hji,if_pos (by omega)]
  ·rw [if_neg hji,if_neg (by omega)]
theorem aW4 (gL:List (List (Int × Rat))) (out:List Bool) (x:List Rat) (i:Nat):a5b gL out x (i+1)=(a5b gL out x i || (!out.getD i false && a27 (gL.getD i []) x)):=by
 unfold a5b;rw [List.range_succ,List.any_append];simp
theorem at5 {s:g4} {gL:List (List (Int × Rat))} {k:Nat}:a5b gL (v5 s gL k) (a15 s gL (v5 s gL k)) gL.length=false↔v5 s gL (k+1)=v5 s gL k:=by
 unfold a5b
 rw [List.any_eq_false]
 constructor
 ·intro h
  refine a66 (by rw [P5,P5]) fun i hi=>?_
  rw [P5] at hi
  rw [a2j hi]
  have:=h i (lbB.2 hi)
  cases ho:(v5 s gL k).getD i false with
  |true=>rfl
  |false=>
   rw [ho] at this
   cases hp:a27 (gL.getD i []) (a15 s gL (v5 s gL k)) with
   |false=>rfl
   |true=>rw [hp] at this;exact absurd rfl this
 ·intro h i hi
  have hi:=lbB.1 hi
  have:=a2j (s:=s) (k:=k) hi
  rw [h] at this
  cases ho:(v5 s gL k).getD i false with
  |true=>simp
  |false=>
   rw [ho,Bool.false_or] at this
   rw [← this];simp
theorem aM4 {l:List Bool} {i n:Nat} (h:n=i):t8 (a08 l) ((a08 l).rows.set n [C.t (tb true)])=a08 (l.set i true):=by
 subst h
 unfold t8
 simp [toC,List.map_set,a2F]
noncomputable def b0U (s:g4) (gL:List (List (Int × Rat))):Nat->T
 |0=>.sl 0 .nil []
 |k+1=>D7 ((a0a s gL k).map fz)
def scF (a:Nat->Rat) (c:Rat) (k:Nat):Nat->Rat:=fun j=>if j<k then a j*c else a j
theorem b4n (x y:List Rat) (h:x.length=y.length) (h0:0<x.length) (hn:x.length<=1000) (hx:∀v ∈ x,rl v<=60000) (hy:∀v ∈ y,rl v<=60000):
 a9 Tryz.prog 197 [t4 (x.map fz),t4 (y.map fz)] [] (.c (.own 0 0 x.length true)) [flB ((a00 x y).map fz)]:=by
 obtain ⟨n,hnx⟩:∃n,x.length=n:=⟨_,rfl⟩
 have gx:∀(x:List Rat),(∀ v ∈ x,rl v<=60000)->∀j,j<x.length->rl (x.getD j 0)<=60000:=fun x hx j hj=>by
  rw [lbl,lbf hj];exact hx _ (lbE hj)
 have ha:=gx x hx
 have hb:=gx y hy
 rw [a0P x,a0P y,a0P (a00 x y),a2g (n:=x.length) rfl h.symm,←h,hnx]
 rw [hnx] at ha h0 hn
 rw [← h,hnx] at hb
 have hs:∀j,j<n->(a00 x y).getD j 0=x.getD j 0+y.getD j 0:=fun j hj=>a5C (n:=n) hnx (by omega) hj
 have e0:rF n (fun j=>(a00 x y).getD j 0)=rF n (smF (fun j=>x.getD j 0) (fun j=>y.getD j 0) n):=w9 fun j hj=>by unfold smF;rw [if_pos hj];exact hs j hj
 rw [e0]
 have ha:∀j,j<n->rl ((fun j=>x.getD j 0) j)<=60000:=ha
 have hb:∀j,j<n->rl ((fun j=>y.getD j 0) j)<=60000:=hb
 generalize (fun j=>x.getD j 0)=a at ha ⊢
 generalize (fun j=>y.getD j 0)=b at hb ⊢
 have m1:((rF n b).map t6).length=n:=by simp [O8]
 have cl:=a8f (rF n a) (by rw [O8];exact h0) (by rw [O8];omega)
 rw [O8] at cl
 (refine ac Tryz.func197 ?_;(conv=>whnf);repeat (refine zy ?_;conv=>whnf))
 repeat' (first|refine zx ?_|refine .inr ⟨_,_,cl,?_⟩|refine zd ?_ ?_<;>intro h<;>try omega|fail)<;>conv=>whnf
 refine d8 c8 (fun k=>([J,J,J,J,J,S.c (C.own 0 0 n true),J,J,J,J,t4 (rF n b),a7 .i64 n,a7 .i64 k]++Jn 18,[flB (rF n (smF a b k))])) n (fun _=>True) [some 0] trivial
  ⟨rfl,rfl,⟨a8 (rows:=(rF n a).map t6) rfl rfl rfl rfl (by rw [w9 (g:=smF a b 0) (h:=a) fun j hj=>by unfold smF;rw [if_neg (by omega)]]),trivial⟩,⟨⟨rfl,rfl,rfl,fun h=>h⟩,g6 rfl,b8 (by omega),b8 rfl,trivial⟩⟩ ?_
 intro k hk _
 by_cases hlt:k<n
 ·have eK:0+(k:Int).toNat=k:=by omega
  have ad:=a3Z (a k) (b k) (ha k hlt) (hb k hlt)
  have gp:(rF n (smF a b k))[0+(k:Int).toNat]? =some (fz (a k)):=by rw [eK,F7 hlt];unfold smF;rw [if_neg (by omega)]
  have e:t8 (flB (rF n (smF a b k))) ((flB (rF n (smF a b k))).rows.set (0+(k:Int).toNat) (frC (fz (a k+b k))))=flB (rF n (smF a b (k+1))):=by
   rw [I5 eK,T3 hlt]
   refine congrArg flB (w9 fun j hj=>?_)
   unfold smF
   by_cases h:j=k
   ·subst h;rw [if_pos rfl,if_pos (by omega)]
   ·rw [if_neg h]
    have:(j<k)↔(j<k+1):=by omega
    simp only [this]
  conv=>whnf
  repeat' (first|refine zx ?_|refine qp ad ?_|refine qp 10 ?_|refine a4S rfl hlt ?_|refine o5 gp ?_|refine bl0 [10] ?_|refine zd ?_ ?_<;>intro h<;>try omega|fail)<;>conv=>whnf
  all_goals first
   |omega
   |exact ⟨hlt,trivial,[some 0],rfl,rfl,⟨⟨rfl,rfl,rfl,.inl ⟨congrArg Blk.rows e,(congrArg Blk.rows e) ▸ c6 _⟩⟩,trivial⟩,⟨⟨rfl,rfl,rfl,fun h=>h⟩,rfl,rfl,b8 (by omega),trivial⟩⟩
 ·have hke:k=n:=by omega
  subst hke
  conv=>whnf
  repeat' (first|refine zx ?_|refine zd ?_ ?_<;>intro h<;>try omega|fail)<;>conv=>whnf
  all_goals first
   |omega
   |exact ⟨[some 0],rfl,rfl,⟨d7 (c6 _),trivial⟩,⟨rfl,rfl,rfl,fun h=>h⟩⟩
theorem aK4 {out:List Bool} {j:Nat} {b:Bool} {K:List C->Prop} (h:out[j]? =some b) (k:K [C.t (tb b)]):∃row,(a08 out).rows[j]? =some row∧K row:=⟨_,by show (toC (out.map a2F))[j]? =_;simp [toC,a2F,h],k⟩
theorem aL7 {O:Blk} {y:List Rat} {n:Nat} (hl:y.length=n):a4z [some 0] [O,flB (y.map fz)] (.c (.own [O].length 0 n true)) (.c (.t (D7 (y.map fz)))):=by
 show aT3 [some 0] [O,flB (y.map fz)] (.own 1 0 n true) (.t (.sl 4 .any ((y.map fz).map t6)))
 refine ax5 (k:=flB (y.map fz)) (app:=true) rfl rfl ?_ rfl rfl ?_
 ·intro h;cases h
 ·rw [lbr,lbr,hl]
theorem b3q (s:g4) (gL:List (List (Int × Rat))) (h:a8k s gL):
 a9 Tryz.prog 147 [a3c s,a5f gL] [] (.tup [b98 (isF s gL),t4 ((ah3 s gL).map fz)]) []:=by
 have hG:=h
 have hL:=h.l
 have h9:=h.sm.n
 have hpos:=h.pos
 have hn:=a0V h.sm.r
 obtain ⟨n,hnn⟩:∃n,s.n.toNat=n:=⟨_,rfl⟩
 have m1:(gL.map a4m).length=gL.length:=by simp
 have cl:∀x:List Rat,x.length=n->a9 Tryz.prog 205 [t4 (x.map fz)] [] (.c (.own 0 0 n true)) [flB (x.map fz)]:=fun x hx=>by
  have:=a8f (x.map fz) (by rw [lbr];omega) (by rw [lbr];omega)
  rwa [lbr,hx] at this
 have eR:List.replicate (((gL.map a4m).length:Nat):Int).toNat [B3 (Value.bool false)]=toC ((v5 s gL 0).map a2F):=by
  rw [lbY,m1]
  show _=toC ((List.replicate gL.length false).map a2F)
  simp [toC,a2F]
  exact .inr rfl
 (refine ac Tryz.func147 ?_;(conv=>whnf);repeat ((first|refine b0x ?_|refine zy ?_);conv=>whnf))
 repeat' (first|refine zx ?_|refine a2B (by omega) (by omega) (by omega) (by decide) ?_|refine zd ?_ ?_<;>intro h<;>try omega|fail)<;>conv=>whnf
 refine d8 c8 (fun k=>([J,a5f gL,S.c (C.t (T.ptr [ti s.n,O7 s.rows])),J,J,J,S.c (C.own 0 0 gL.length true),S.c (C.t (b0U s gL k)),a7 .i64 k]++Jn 94,[a08 (v5 s gL k)])) (gL.length+1) (fun k=>∀j,j<k->v5 s gL (j+1)≠v5 s gL j) [some 0] (fun j hj=>by omega)
  ⟨rfl,rfl,⟨⟨rfl,rfl,rfl,.inl ⟨eR,eR ▸ c6 _⟩⟩,trivial⟩,⟨rfl,rfl,⟨rfl,rfl,by omega,fun h=>h⟩,rfl,rfl,trivial⟩⟩ ?_
 intro k hk hI
 have hkl:=a58 hI
 have olen:=P5 s gL k
 generalize hout:v5 s gL k=out at olen
 conv=>whnf
 repeat' (first|refine zx ?_|refine zd ?_ ?_<;>intro h<;>try omega|fail)<;>conv=>whnf
 refine d8 c8 (fun i=>([J,a5f gL,S.c (C.t (T.ptr [ti s.n,O7 s.rows])),J,J,J,S.c (C.own 0 0 gL.length true),S.c (C.t (b0U s gL k)),a7 .i64 k,s7 (M9 gL out i)]++Jn 16++[a5f gL,a7 .i64 gL.length,a7 .i64 i]++Jn 74,[a08 out])) gL.length (fun _=>True) [some 0] trivial
  ⟨rfl,rfl,⟨d7 (c6 _),trivial⟩,⟨rfl,rfl,⟨rfl,rfl,rfl,fun h=>h⟩,g6 rfl,rfl,rfl,rfl,b8 (by simp),rfl,trivial⟩⟩ ?_
 intro i hi _
 by_cases hil:i<gL.length
 ·obtain ⟨g,hg⟩:∃g,gL[i]? =some g:=⟨_,lbf hil⟩
  have hgd:gL.getD i []=g:=by rw [lbl,hg];rfl
  obtain ⟨b,hb⟩:∃b,out[i]? =some b:=⟨_,lbf (by omega)⟩
  have hbd:out.getD i false=b:=by rw [lbl,hb];rfl
  have gp:out[0+(i:Int).toNat]? =some b:=by rw [Nat.zero_add,show (i:Int).toNat=i by omega];exact hb
  have eS:M9 gL out (i+1)=if b=true then M9 gL out i else x7 (M9 gL out i) g:=by
   conv=>lhs;unfold M9
   rw [hbd,hgd]
  rw [eS]
  have pl:=b9L (M9 gL out i) g (a2x (by omega) (a0C h.p out i (by omega))) (a2x (by omega) (h.p.g g (lbm hg)))
   (fun t ht=>by have:=P9 (af1 h out i (by omega)) t ht;omega) (fun t ht=>by have:=P9 (a7o (h.w g (lbm hg)) (by decide)) t ht;omega)
  cases b with
  |true=>
   rw [if_pos rfl]
   conv=>whnf
   repeat' (first|refine zx ?_|refine qp pl ?_|refine b9 hg ?_|refine aK4 gp ?_|refine zd ?_ ?_<;>intro h<;>try omega|fail)<;>conv=>whnf
   all_goals first
    |omega
    |exact ⟨hil,trivial,[some 0],rfl,rfl,⟨d7 (c6 _),trivial⟩,⟨rfl,rfl,⟨rfl,rfl,rfl,fun h=>h⟩,g6 rfl,rfl,rfl,rfl,rfl,b8 (by omega),trivial⟩⟩
  |false=>
   rw [if_neg (by decide)]
   conv=>whnf
   repeat' (first|refine zx ?_|refine qp pl ?_|refine b9 hg ?_|refine aK4 gp ?_|refine zd ?_ ?_<;>intro h<;>try omega|fail)<;>conv=>whnf
   all_goals first
    |omega
    |exact ⟨hil,trivial,[some 0],rfl,rfl,⟨d7 (c6 _),trivial⟩,⟨rfl,rfl,⟨rfl,rfl,rfl,fun h=>h⟩,g6 rfl,rfl,rfl,rfl,rfl,b8 (by omega),trivial⟩⟩
 have hie:i=gL.length:=by omega
 subst hie
 have mu:=aV6 s (M9 gL out gL.length) h.sm h.p.z hpos (a0C h.p out _ (lbR _)) (af1 h out _ (lbR _))
 have xr:=aF3 h out
 have xl:(a15 s gL out).length=n:=by rw [ab5,hnn]
 have ex:S2 s (M9 gL out gL.length)=a15 s gL out:=rfl
 rw [ex] at mu
 have m2:(((a15 s gL out).map fz).map t6).length=n:=by rw [lbr,lbr,xl]
 have po:∀g ∈ gL,a9 Tryz.prog 123 [s7 g,t4 ((a15 s gL out).map fz)] [] (e8 (a27 g (a15 s gL out))) []:=fun g hg=>
  ak4 g (a15 s gL out) (by rw [xl];have:=h.p.g g hg;rwa [hnn] at this) (a7o (h.w g hg) (by decide)) (fun v hv=>by have:=xr v hv;omega) (by omega) (fun k=>by
   have h1:=a6W (P9 (a7o (h.w g hg) (by decide))) xr k
   have h2:=C8 (h.p.g g hg)
   have h3:g.length<=9:=by omega
   have h4:=lbU (31+4) h3
   omega)
 have eX:a15 s gL (v5 s gL k)=a15 s gL out:=by rw [hout]
 obtain ⟨x,hx⟩:∃x,a15 s gL out=x:=⟨_,rfl⟩
 rw [hx] at mu xr xl m2 po eX
 conv=>whnf
 repeat' (first|refine zx ?_|refine qp mu ?_|refine qp 5 ?_|refine bl0 [5] ?_|refine zd ?_ ?_<;>intro h<;>try omega|fail)<;>conv=>whnf
 all_goals try omega
 refine d8 c8 (fun i=>([J,a5f gL,S.c (C.t (T.ptr [ti s.n,O7 s.rows])),J,J,J,S.c (C.own 0 0 gL.length true),S.c (C.t (b0U s gL k)),a7 .i64 k,J,J,J,t4 (x.map fz),J,e8 (a5b gL out x i)]++Jn 33++[a5f gL,a7 .i64 gL.length,a7 .i64 i]++Jn 52,[a08 (a3I gL out x i)])) gL.length (fun _=>True) [some 0] trivial
  ⟨rfl,rfl,⟨a8 (rows:=out.map a2F) rfl rfl rfl rfl (by rw [b3y olen]),trivial⟩,⟨rfl,rfl,⟨rfl,rfl,rfl,fun h=>h⟩,g6 rfl,rfl,rfl,rfl,rfl,b8 (by simp),rfl,trivial⟩⟩ ?_
 intro i hi _
 by_cases hil:i<gL.length
 ·obtain ⟨g,hg⟩:∃g,gL[i]? =some g:=⟨_,lbf hil⟩
  have hgd:gL.getD i []=g:=by rw [lbl,hg];rfl
  obtain ⟨b,hb⟩:∃b,out.getD i false=b:=⟨_,rfl⟩
  have gp:(a3I gL out x i)[0+(i:Int).toNat]? =some b:=by rw [Nat.zero_add,show (i:Int).toNat=i by omega,b4q hil,hb]
  have pg:=po g (lbm hg)
  rw [aW4,hb,hgd]
  have eM:0+(i:Int).toNat=i:=by omega
  generalize a5b gL out x i=mo
  cases b with
  |true=>
   rw [at1 (.inl hb)]
   cases mo<;>
   ·conv=>whnf
    repeat' (first|refine zx ?_|refine qp pg ?_|refine b9 hg ?_|refine aK4 gp ?_|refine zd ?_ ?_<;>intro h<;>try omega|fail)<;>conv=>whnf
    all_goals first
     |omega
     |exact ⟨hil,trivial,[some 0],rfl,rfl,⟨d7 (c6 _),trivial⟩,⟨rfl,rfl,⟨rfl,rfl,rfl,fun h=>h⟩,g6 rfl,rfl,rfl,rfl,rfl,rfl,b8 (by omega),trivial⟩⟩
  |false=>
   cases hq:a27 g x with
   |false=>
    rw [hq] at pg
    rw [at1 (.inr (by rw [hgd];exact hq))]
    cases mo<;>
    ·conv=>whnf
     repeat' (first|refine zx ?_|refine qp pg ?_|refine b9 hg ?_|refine aK4 gp ?_|refine zd ?_ ?_<;>intro h<;>try omega|fail)<;>conv=>whnf
     all_goals first
      |omega
      |exact ⟨hil,trivial,[some 0],rfl,rfl,⟨d7 (c6 _),trivial⟩,⟨rfl,rfl,⟨rfl,rfl,rfl,fun h=>h⟩,g6 rfl,rfl,rfl,rfl,rfl,rfl,b8 (by omega),trivial⟩⟩
   |true=>
    rw [hq] at pg
    have eB:=aM4 (l:=a3I gL out x i) eM
    rw [b43 hil (by rw [hgd];exact hq)] at eB
    cases mo<;>
    ·conv=>whnf
     repeat' (first|refine zx ?_|refine qp pg ?_|refine b9 hg ?_|refine aK4 gp ?_|refine zd ?_ ?_<;>intro h<;>try omega|fail)<;>conv=>whnf
     all_goals first
      |omega
      |exact ⟨hil,trivial,[some 0],rfl,rfl,⟨⟨rfl,rfl,rfl,.inl ⟨congrArg Blk.rows eB,(congrArg Blk.rows eB) ▸ c6 _⟩⟩,trivial⟩,⟨rfl,rfl,⟨rfl,rfl,rfl,fun h=>h⟩,g6 rfl,rfl,rfl,rfl,rfl,rfl,b8 (by omega),trivial⟩⟩
 have hie:i=gL.length:=by omega
 subst hie
 cases k with
 |zero=>
  have ey:a0a s gL 0=x:=by show a15 s gL (v5 s gL 0)=x;exact eX
  have cq:=fun H:Hp=>a5J (H:=H) (cl x xl) rfl rfl (c6 _)
  have eT:b0U s gL 0=.sl 0 .nil []:=rfl
  rw [eT]
  have eT1:b0U s gL (0+1)=D7 (x.map fz):=by show D7 ((a0a s gL 0).map fz)=_;rw [ey]
  have yl:x.length=n:=by rw [← ey,a7e,hnn]
  have yr:∀v ∈ x,rl v<=1000:=fun v hv=>by
   rw [← ey] at hv
   have h1:=a9Q hG _ v hv
   have h2:=lbU 32 (show 0+1<=31 by omega)
   omega
  have oE:a3I gL out x gL.length=v5 s gL (0+1):=by rw [← hout,←eX];exact aQ8 s gL _
  have mE:a5b gL out x gL.length=false↔v5 s gL (0+1)=v5 s gL 0:=by rw [← hout,←eX];exact at5
  rw [oE]
  cases hmo:a5b gL out x gL.length with
  |true=>
   have hne:v5 s gL (0+1)≠v5 s gL 0:=fun e=>by rw [mE.2 e] at hmo;cases hmo
   have hI2:∀j,j<0+1->v5 s gL (j+1)≠v5 s gL j:=fun j hj=>by
    by_cases hjk:j=0
    ·subst hjk;exact hne
    ·exact hI j (by omega)
   have hf2:=a58 hI2
   rw [eT1]
   generalize v5 s gL (0+1)=O'
   generalize x=y at yl yr cq ⊢
   conv=>whnf
   repeat' (first|refine zx ?_|refine .inl ⟨_,_,cq _,?_⟩|refine zd ?_ ?_<;>intro h<;>try omega|fail)<;>conv=>whnf
   all_goals first
    |omega
    |exact ⟨by omega,hI2,[some 0],rfl,rfl,⟨d7 (c6 _),trivial⟩,⟨rfl,rfl,⟨rfl,rfl,rfl,fun h=>h⟩,aL7 yl,b8 (by omega),trivial⟩⟩
  |false=>
   have hK:=b17 (mE.1 hmo) hI
   have eF:v5 s gL (0+1)=isF s gL:=by unfold isF;rw [← hK];exact mE.1 hmo
   have eW:ah3 s gL=x.map fun v=>v*Rat.divInt 1 ((0+1:Nat):Int):=by unfold ah3;rw [← hK,ey]
   rw [eF,eW]
   have of:=b5y 1 ((0:Nat)+1:Int) (by omega) (by decide) (by decide) (by omega) (by omega)
   have e1:Rat.divInt 1 ((0+1:Nat):Int)=Rat.divInt 1 ((0:Nat)+1:Int):=by push_cast;rfl
   rw [e1]
   have shr:rl (Rat.divInt 1 ((0:Nat)+1:Int))<=1:=by
    have h1:=Q4 (p:=1) (q:=((0:Nat)+1:Int)) (by omega)
    have h2:=s9 (x:=1) (by decide) (by decide)
    have h3:=s9 (x:=((0:Nat)+1:Int)) (by omega) (by omega)
    omega
   generalize Rat.divInt 1 ((0:Nat)+1:Int)=sh at of shr
   have iL:(isF s gL).length=gL.length:=P5 _ _ _
   generalize isF s gL=I' at iL
   generalize x=y at yl yr cq ⊢
   have m5:((y.map fz).map t6).length=n:=by rw [lbr,lbr,yl]
   conv=>whnf
   repeat' (first|refine zx ?_|refine qp of ?_|refine qp 7 ?_|refine qp 5 ?_|refine .inl ⟨_,_,cq _,?_⟩|refine bl0 [7] ?_|refine bl0 [5] ?_|refine zd ?_ ?_<;>intro h<;>try omega|fail)<;>conv=>whnf
   all_goals try omega
   refine d8 c8 (fun j=>(Jn 6++[S.c (C.own 0 0 gL.length true),S.c (C.own 1 0 n true),J,J,J,J,J,J,J,J,J,S.c (C.ptr 2 0 0)]++Jn 66++[S.c (C.own 1 0 n true),a7 .i64 n,a7 .i64 j]++Jn 16,[a08 I',flB (rF n (scF (fun j=>y.getD j 0) sh j)),frX sh])) n (fun _=>True) [some 0,some 1,some 2] trivial
    ⟨rfl,rfl,⟨d7 (c6 _),a8 (rows:=(y.map fz).map t6) rfl rfl rfl rfl (by rw [a0P y,yl,w9 (g:=scF (fun j=>y.getD j 0) sh 0) (h:=fun j=>y.getD j 0) fun j hj=>by unfold scF;rw [if_neg (by omega)]]),aV8 _,trivial⟩,⟨⟨rfl,rfl,rfl,fun h=>h⟩,⟨rfl,rfl,rfl,fun h=>h⟩,⟨rfl,rfl,rfl⟩,⟨rfl,rfl,rfl,fun h=>h⟩,b8 (by omega),rfl,trivial⟩⟩ ?_
   intro j hj _
   by_cases hjl:j<n
   ·have hyj:rl (y.getD j 0)<=1000:=by rw [lbl,lbf (by omega)];exact yr _ (lbE _)
    have mu2:=al6 (y.getD j 0) sh (by omega) (by omega)
    have eJ:0+(j:Int).toNat=j:=by omega
    have gj:(rF n (scF (fun j=>y.getD j 0) sh j))[0+(j:Int).toNat]? =some (fz (y.getD j 0)):=by rw [eJ,F7 hjl];unfold scF;rw [if_neg (by omega)]
    have e:t8 (flB (rF n (scF (fun j=>y.getD j 0) sh j))) ((flB (rF n (scF (fun j=>y.getD j 0) sh j))).rows.set (0+(j:Int).toNat) (frC (fz (y.getD j 0*sh))))=flB (rF n (scF (fun j=>y.getD j 0) sh (j+1))):=by
     rw [I5 eJ,T3 hjl]
     refine congrArg flB (w9 fun q hq=>?_)
     unfold scF
     by_cases hqj:q=j
     ·subst hqj;rw [if_pos rfl,if_pos (by omega)]
     ·rw [if_neg hqj]
      by_cases hq2:q<j
      ·rw [if_pos hq2,if_pos (by omega)]
      ·rw [if_neg hq2,if_neg (by omega)]
    conv=>whnf
    repeat' (first|refine zx ?_|refine qp mu2 ?_|refine qp 7 ?_|refine qp 5 ?_|refine o5 gj ?_|refine bl0 [7] ?_|refine bl0 [5] ?_|refine zd ?_ ?_<;>intro h<;>try omega|fail)<;>conv=>whnf
    all_goals first
     |omega
     |exact ⟨hjl,trivial,[some 0,some 1,some 2],rfl,rfl,⟨d7 (c6 _),⟨rfl,rfl,rfl,.inl ⟨congrArg Blk.rows e,(congrArg Blk.rows e) ▸ c6 _⟩⟩,aV8 _,trivial⟩,⟨⟨rfl,rfl,rfl,fun h=>h⟩,⟨rfl,rfl,rfl,fun h=>h⟩,⟨rfl,rfl,rfl⟩,⟨rfl,rfl,rfl,fun h=>h⟩,rfl,b8 (by omega),trivial⟩⟩
   ·have hje:j=n:=by omega
    subst hje
    have eE:rF j (scF (fun j=>y.getD j 0) sh j)=(y.map fun v=>v*sh).map fz:=by
     rw [a0P (y.map _),lbr,yl]
     refine w9 fun q hq=>?_
     unfold scF
     rw [if_pos hq]
     show y.getD q 0*sh=(y.map fun v=>v*sh).getD q 0
     rw [lbl,lbl,lba,lbf (by omega)];rfl
    rw [eE]
    conv=>whnf
    repeat' (first|refine zx ?_|refine zd ?_ ?_<;>intro h<;>try omega|fail)<;>conv=>whnf
    all_goals first
     |omega
     |exact k9 ⟨(show VC _ (fun id=>E4 [] id=true) (C.own 0 0 _ true) _ from u4 (k:=a08 I') rfl rfl (fun h=>h) rfl rfl (by rw [lbr,iL])),(show VC _ (fun id=>E4 [] id=true) (C.own 1 0 _ true) _ from u4 (k:=flB ((y.map fun v=>v*sh).map fz)) rfl rfl (fun h=>h) rfl rfl (by rw [lbr,lbr,lbr,yl])),trivial⟩
 |succ k=>
  have ey:a0a s gL (k+1)=a00 (a0a s gL k) x:=by show a00 (a0a s gL k) (a15 s gL (v5 s gL (k+1)))=_;rw [eX]
  have sl:=a7e (s:=s) (gL:=gL) k
  have sr:=a9Q hG k
  have hl7:0<(((a0a s gL k).map fz).map t6).length:=by rw [lbr,lbr,sl];omega
  have pl:=b4n (a0a s gL k) x (by rw [sl,xl,hnn]) (by omega) (by omega) (fun v hv=>by have:=sr v hv;omega) (fun v hv=>by have:=xr v hv;omega)
  rw [sl,hnn] at pl
  have pq:=fun H:Hp=>a5J (H:=H) pl rfl rfl (c6 _)
  have eT:b0U s gL (k+1)=D7 ((a0a s gL k).map fz):=rfl
  rw [eT]
  have eT1:b0U s gL (k+1+1)=D7 ((a00 (a0a s gL k) x).map fz):=by show D7 ((a0a s gL (k+1)).map fz)=_;rw [ey]
  have yl:(a00 (a0a s gL k) x).length=n:=by rw [← ey,a7e,hnn]
  have yr:∀v ∈ (a00 (a0a s gL k) x),rl v<=1000:=fun v hv=>by
   rw [← ey] at hv
   have h1:=a9Q hG _ v hv
   have h2:=lbU 32 (show (k+1)+1<=31 by omega)
   omega
  have oE:a3I gL out x gL.length=v5 s gL ((k+1)+1):=by rw [← hout,←eX];exact aQ8 s gL _
  have mE:a5b gL out x gL.length=false↔v5 s gL ((k+1)+1)=v5 s gL (k+1):=by rw [← hout,←eX];exact at5
  rw [oE]
  cases hmo:a5b gL out x gL.length with
  |true=>
   have hne:v5 s gL ((k+1)+1)≠v5 s gL (k+1):=fun e=>by rw [mE.2 e] at hmo;cases hmo
   have hI2:∀j,j<(k+1)+1->v5 s gL (j+1)≠v5 s gL j:=fun j hj=>by
    by_cases hjk:j=(k+1)
    ·subst hjk;exact hne
    ·exact hI j (by omega)
   have hf2:=a58 hI2
   rw [eT1]
   generalize v5 s gL ((k+1)+1)=O'
   generalize (a00 (a0a s gL k) x)=y at yl yr pq ⊢
   conv=>whnf
   repeat' (first|refine zx ?_|refine ⟨hl7,?_⟩|refine .inl ⟨_,_,pq _,?_⟩|refine zd ?_ ?_<;>intro h<;>try omega|fail)<;>conv=>whnf
   all_goals first
    |omega
    |exact ⟨by omega,hI2,[some 0],rfl,rfl,⟨d7 (c6 _),trivial⟩,⟨rfl,rfl,⟨rfl,rfl,rfl,fun h=>h⟩,aL7 yl,b8 (by omega),trivial⟩⟩
  |false=>
   have hK:=b17 (mE.1 hmo) hI
   have eF:v5 s gL ((k+1)+1)=isF s gL:=by unfold isF;rw [← hK];exact mE.1 hmo
   have eW:ah3 s gL=(a00 (a0a s gL k) x).map fun v=>v*Rat.divInt 1 (((k+1)+1:Nat):Int):=by unfold ah3;rw [← hK,ey]
   rw [eF,eW]
   have of:=b5y 1 (((k+1):Nat)+1:Int) (by omega) (by decide) (by decide) (by omega) (by omega)
   have e1:Rat.divInt 1 (((k+1)+1:Nat):Int)=Rat.divInt 1 (((k+1):Nat)+1:Int):=by push_cast;rfl
   rw [e1]
   have shr:rl (Rat.divInt 1 (((k+1):Nat)+1:Int))<=1:=by
    have h1:=Q4 (p:=1) (q:=(((k+1):Nat)+1:Int)) (by omega)
    have h2:=s9 (x:=1) (by decide) (by decide)
    have h3:=s9 (x:=(((k+1):Nat)+1:Int)) (by omega) (by omega)
    omega
   generalize Rat.divInt 1 (((k+1):Nat)+1:Int)=sh at of shr
   have iL:(isF s gL).length=gL.length:=P5 _ _ _
   generalize isF s gL=I' at iL
   generalize (a00 (a0a s gL k) x)=y at yl yr pq ⊢
   have m5:((y.map fz).map t6).length=n:=by rw [lbr,lbr,yl]
   conv=>whnf
   repeat' (first|refine zx ?_|refine qp of ?_|refine qp 7 ?_|refine qp 5 ?_|refine ⟨hl7,?_⟩|refine .inl ⟨_,_,pq _,?_⟩|refine bl0 [7] ?_|refine bl0 [5] ?_|refine zd ?_ ?_<;>intro h<;>try omega|fail)<;>conv=>whnf
   all_goals try omega
   refine d8 c8 (fun j=>(Jn 6++[S.c (C.own 0 0 gL.length true),S.c (C.own 1 0 n true),J,J,J,J,J,J,J,J,J,S.c (C.ptr 2 0 0)]++Jn 66++[S.c (C.own 1 0 n true),a7 .i64 n,a7 .i64 j]++Jn 16,[a08 I',flB (rF n (scF (fun j=>y.getD j 0) sh j)),frX sh])) n (fun _=>True) [some 0,some 1,some 2] trivial
    ⟨rfl,rfl,⟨d7 (c6 _),a8 (rows:=(y.map fz).map t6) rfl rfl rfl rfl (by rw [a0P y,yl,w9 (g:=scF (fun j=>y.getD j 0) sh 0) (h:=fun j=>y.getD j 0) fun j hj=>by unfold scF;rw [if_neg (by omega)]]),aV8 _,trivial⟩,⟨⟨rfl,rfl,rfl,fun h=>h⟩,⟨rfl,rfl,rfl,fun h=>h⟩,⟨rfl,rfl,rfl⟩,⟨rfl,rfl,rfl,fun h=>h⟩,b8 (by omega),rfl,trivial⟩⟩ ?_
   intro j hj _
   by_cases hjl:j<n
   ·have hyj:rl (y.getD j 0)<=1000:=by rw [lbl,lbf (by omega)];exact yr _ (lbE _)
    have mu2:=al6 (y.getD j 0) sh (by omega) (by omega)
    have eJ:0+(j:Int).toNat=j:=by omega
    have gj:(rF n (scF (fun j=>y.getD j 0) sh j))[0+(j:Int).toNat]? =some (fz (y.getD j 0)):=by rw [eJ,F7 hjl];unfold scF;rw [if_neg (by omega)]
    have e:t8 (flB (rF n (scF (fun j=>y.getD j 0) sh j))) ((flB (rF n (scF (fun j=>y.getD j 0) sh j))).rows.set (0+(j:Int).toNat) (frC (fz (y.getD j 0*sh))))=flB (rF n (scF (fun j=>y.getD j 0) sh (j+1))):=by
     rw [I5 eJ,T3 hjl]
     refine congrArg flB (w9 fun q hq=>?_)
     unfold scF
     by_cases hqj:q=j
     ·subst hqj;rw [if_pos rfl,if_pos (by omega)]
     ·rw [if_neg hqj]
      by_cases hq2:q<j
      ·rw [if_pos hq2,if_pos (by omega)]
      ·rw [if_neg hq2,if_neg (by omega)]
    conv=>whnf
    repeat' (first|refine zx ?_|refine qp mu2 ?_|refine qp 7 ?_|refine qp 5 ?_|refine o5 gj ?_|refine bl0 [7] ?_|refine bl0 [5] ?_|refine zd ?_ ?_<;>intro h<;>try omega|fail)<;>conv=>whnf
    all_goals first
     |omega
     |exact ⟨hjl,trivial,[some 0,some 1,some 2],rfl,rfl,⟨d7 (c6 _),⟨rfl,rfl,rfl,.inl ⟨congrArg Blk.rows e,(congrArg Blk.rows e) ▸ c6 _⟩⟩,aV8 _,trivial⟩,⟨⟨rfl,rfl,rfl,fun h=>h⟩,⟨rfl,rfl,rfl,fun h=>h⟩,⟨rfl,rfl,rfl⟩,⟨rfl,rfl,rfl,fun h=>h⟩,rfl,b8 (by omega),trivial⟩⟩
   ·have hje:j=n:=by omega
    subst hje
    have eE:rF j (scF (fun j=>y.getD j 0) sh j)=(y.map fun v=>v*sh).map fz:=by
     rw [a0P (y.map _),lbr,yl]
     refine w9 fun q hq=>?_
     unfold scF
     rw [if_pos hq]
     show y.getD q 0*sh=(y.map fun v=>v*sh).getD q 0
     rw [lbl,lbl,lba,lbf (by omega)];rfl
    rw [eE]
    conv=>whnf
    repeat' (first|refine zx ?_|refine zd ?_ ?_<;>intro h<;>try omega|fail)<;>conv=>whnf
    all_goals first
     |omega
     |exact k9 ⟨(show VC _ (fun id=>E4 [] id=true) (C.own 0 0 _ true) _ from u4 (k:=a08 I') rfl rfl (fun h=>h) rfl rfl (by rw [lbr,iL])),(show VC _ (fun id=>E4 [] id=true) (C.own 1 0 _ true) _ from u4 (k:=flB ((y.map fun v=>v*sh).map fz)) rfl rfl (fun h=>h) rfl rfl (by rw [lbr,lbr,lbr,yl])),trivial⟩
theorem ay9 {cs:List J2} {rs:List C2} {scale reading day:Int} {lo hi:Rat} (h:G4 cs rs scale reading day=some (lo,hi)):0<=hi:=by
 unfold G4 at h
 split at h
 ·cases h
 ·rename_i i hi
  obtain ⟨hb,c,hc,_,hcv⟩:=K9 hi
  have e:a1c cs i=c:=by unfold a1c;rw [hc];rfl
  rw [e] at h
  split at h
  ·cases h
  ·split at h
   ·rename_i hr
    injection h with h
    injection h with h1 h2
    rw [← h2]
    unfold I1 N0 at hcv
    rw [W6] at hr
    simp only [lbN,lbI,W6] at hcv
    obtain ⟨⟨⟨⟨⟨⟨⟨h1,h2⟩,h3⟩,_⟩,h4⟩,h5⟩,h6⟩,h7⟩:=hcv
    have e1:0<=c.permille*reading:=lb0 (by omega) (by omega)
    have e3:0<=c.drift*(day - c.since):=lb0 (by omega) (by omega)
    have r1:(0:Rat)<=(reading:Rat):=by exact_mod_cast hr.1
    have r2:(0:Rat)<=Rat.divInt (c.permille*reading) 1000:=by rw [Rat.divInt_nonneg_iff_of_pos_right (by decide)];exact e1
    have r3:(0:Rat)<=((c.grams+c.drift*(day - c.since):Int):Rat):=by exact_mod_cast (show (0:Int)<=c.grams+c.drift*(day - c.since) by omega)
    unfold a2R
    grind
   ·cases h
theorem b2Q {t:d9} {kind:Int} (ht:v3 t=0) (k0:0<=kind) (k1:kind<8):a9D (v8 t) kind (List.replicate t.ev.moves.length 0):=by
 refine ⟨a1z ht,k0,k1,by simp [v8],fun i x hx=>?_⟩
 rw [al9,b2A (fun j=>al9 _ j)]
 refine ⟨⟨lb3,fun _=>lb3,fun _=>rfl⟩,?_,fun g hg=>(by simp [i8,v8] at hg),fun _=>rfl⟩
 show aD1 (B2 t.ev x) 0=true
 cases hiv:B2 t.ev x with
 |none=>rfl
 |some p=>
  obtain ⟨lo,hi⟩:=p
  simp only [aD1,lbI]
  unfold B2 at hiv
  split at hiv
  ·cases hiv
  ·exact ay9 hiv
theorem aZ3 {t:d9} {kind:Int} (i:Nat) (ht:v3 t=0) (k0:0<=kind) (k1:kind<8):a9u t kind i (List.replicate t.ev.moves.length 0):=
 ⟨b2Q ht k0 k1,fun j _ _=>al9 _ j⟩
structure QT (t:d9):Prop where
 h:v3 t=0
 m:t.ev.moves.length<=8
 p:t.ev.places.length<=20
theorem QT.c {t:d9} (h:QT t):t.cleans.length<=50:=(o4 h.h).2.2.1
theorem Z3 {t:d9} {kind:Int} {i:Nat} {z:List Rat} (h:QT t) (k0:0<=kind) (k1:kind<8):o7 (t9 t kind i) z=true↔a9u t kind i z:=alone_holds h.h k0 k1 (by have:=h.m;omega)
theorem b2q {l:List Nat} {i:Nat}:∀w ∈ M8 l i,b6j w:=by
 intro w hw
 obtain ⟨j,hj,rfl⟩:=lbx.1 hw
 exact ⟨Y1 (by decide) (by decide),a6q⟩
theorem a10 {t:d9} {kind:Int} (i:Nat) (h:QT t):a1h (t9 t kind i):=by
 have hm:=h.m
 have hc:=h.c
 refine ⟨a93 (by omega) hc,fun w hw=>?_,by show ((t.ev.moves.length:Nat):Int)<=9;omega,?_⟩
 ·rcases lbz.1 hw with hw|hw
  ·exact bd2 (a1z h.h) w hw
  ·exact b2q w hw
 ·have h1:=S7 (t:=v8 t) (kind:=kind) t.ev.moves.length
  have h2:t.ev.moves.length*(2+(v8 t).finds.length+(v8 t).cleans.length)<=14*52:=lbT (by omega) (by show 2+0+t.cleans.length<=52;omega)
  have h3:=a2y (i9 t.ev) i
  have h4:(i9 t.ev).length<=t.ev.moves.length:=A7 _
  show ((s6 (v8 t) kind t.ev.moves.length)++M8 (i9 t.ev) i).length<=999
  rw [lbq]
  omega
theorem a5S (i:Nat) (z:List Rat):p4 (B4 i) z=z.getD i 0:=by
 unfold B4
 show _=_
 simp only [p4,lbY]
 have:((1:Int):Rat)=1:=rfl
 rw [this];grind
theorem a9o {e:Ev} (h0:y8 e=0) (z:List Rat) (p:Nat) (k:Nat):p4 (w5 e p k) z=if j9 e p=0 then 0 else Q8 e z k p:=by
 unfold w5
 split
 ·rfl
 ·exact a6i h0 z p k
theorem ap5 {e:Ev} {p:Int}:∀k,a0B 1 (j0 e p k)
 |0=>fun t ht=>by cases ht
 |k+1=>by
  have ih:=ap5 (e:=e) (p:=p) k
  unfold j0
  cases hx:e.moves[k]? with
  |none=>exact ih
  |some y=>
   simp only
   split
   ·intro t ht
    rcases lbz.1 ht with ht|ht
    ·exact ih t ht
    ·simp at ht;subst ht;exact ⟨1,rfl,by decide⟩
   ·split
    ·intro t ht
     rcases lbz.1 ht with ht|ht
     ·exact ih t ht
     ·simp at ht;subst ht;exact ⟨-1,rfl,by decide⟩
    ·exact ih
theorem a8x {e:Ev} {g:List (Int × Rat)} (h:g ∈ J0 e):(∃ i,i<e.moves.length∧g=B4 i)∨∃p,p<e.places.length∧g=w5 e p e.moves.length:=by
 unfold J0 G7 at h
 rcases lbz.1 h with h|h
 ·obtain ⟨i,hi,rfl⟩:=lbx.1 h;exact .inl ⟨i,lbB.1 hi,rfl⟩
 ·obtain ⟨p,hp,rfl⟩:=lbx.1 h;exact .inr ⟨p,lbB.1 hp,rfl⟩
theorem a5v (e:Ev):(J0 e).length=e.moves.length+e.places.length:=a6Q _ _ _
theorem b08 {e:Ev} {i:Nat} (h:i<e.moves.length):(J0 e).getD i []=B4 i:=by
 unfold J0 G7
 rw [lbl,lbb (by simpa using h)]
 simp [h]
theorem aP5 {e:Ev} {p:Nat} (h:p<e.places.length):(J0 e).getD (e.moves.length+p) []=w5 e p e.moves.length:=by
 unfold J0 G7
 rw [lbl,lbc (by simp)]
 simp [h]
theorem H7 {t:d9} {kind:Int} (i:Nat) (h:QT t) (h0:0<t.ev.moves.length) (k0:0<=kind) (k1:kind<8):a8k (t9 t kind i) (J0 t.ev):=by
 have hs:=a10 (kind:=kind) i h
 have hck:=(o4 h.h).1
 refine ⟨⟨hs.r,(aE9 hs.r).2 ⟨_,(Z3 h k0 k1).2 (aZ3 i h.h k0 k1)⟩,fun g hg=>?_,fun g hg z hz=>?_⟩,hs,by show (0:Int)<((t.ev.moves.length:Nat):Int);omega,fun g hg=>?_,by rw [a5v];have:=h.m;have:=h.p;omega⟩
 ·show f9 (-1) ((((t.ev.moves.length:Nat):Int).toNat:Nat):Int) g=true
  rw [lbY]
  rcases a8x hg with ⟨i,hi,rfl⟩|⟨p,hp,rfl⟩
  ·exact X8 (by omega) (by show ((i:Nat):Int)<_;omega) (by show ((1:Int):Rat)≠0;decide) rfl
  ·unfold w5
   split
   ·rfl
   ·exact (a2U _ (Int.le_refl _)).1
 ·have hA:=(Z3 h k0 k1).1 hz
  rcases a8x hg with ⟨j,hj,rfl⟩|⟨p,hp,rfl⟩
  ·rw [a5S]
   obtain ⟨x,hx⟩:∃x,t.ev.moves[j]? =some x:=⟨_,lbf hj⟩
   exact (hA.p.step j x hx).1.pos
  ·rw [a9o hck]
   split
   ·exact lb3
   ·rename_i hk
    exact ai2 hA.p _ _ hk
 ·rcases a8x hg with ⟨j,hj,rfl⟩|⟨p,hp,rfl⟩
  ·intro t ht;simp [B4] at ht;subst ht;exact ⟨1,rfl,by decide⟩
  ·unfold w5
   split
   ·intro t ht;cases ht
   ·exact ap5 _
noncomputable def isA (t:d9) (kind:Int) (i:Nat):List Bool:=isF (t9 t kind i) (J0 t.ev)
noncomputable def J1 (t:d9) (kind:Int) (mv:Nat):List Nat:=(i9 t.ev).filter fun i=>(isA t kind i).getD mv false
noncomputable def L6 (t:d9) (kind:Int) (mv g:Nat):Bool:=(J1 t kind mv).any fun i=>(isA t kind i).getD g false
def aL4 (e:Ev) (z:List Rat) (g:Nat):Rat:=if g<e.moves.length then z.getD g 0 else if j9 e ((g - e.moves.length:Nat):Int)=0 then 0 else Q8 e z e.moves.length (g - e.moves.length)
theorem a8F {e:Ev} (h0:y8 e=0) (z:List Rat) {g:Nat} (hg:g<e.moves.length+e.places.length):p4 ((J0 e).getD g []) z=aL4 e z g:=by
 unfold aL4
 by_cases h:g<e.moves.length
 ·rw [if_pos h,b08 h,a5S]
 ·obtain ⟨p,rfl⟩:∃p,g=e.moves.length+p:=⟨g - e.moves.length,by omega⟩
  rw [if_neg h,aP5 (by omega),a9o h0,Nat.add_sub_cancel_left]
theorem aC0 {t:d9} {kind:Int} {i g:Nat} (h:QT t) (h0:0<t.ev.moves.length) (k0:0<=kind) (k1:kind<8) (hg:g<t.ev.moves.length+t.ev.places.length):
 (isA t kind i).getD g false=true↔∃z,a9u t kind i z∧0<aL4 t.ev z g:=by
 have hG:=H7 (kind:=kind) i h h0 k0 k1
 have hck:=(o4 h.h).1
 rw [isA,b5H hG.p (by rw [a5v];exact hg)]
 constructor
 ·rintro ⟨z,hz,hp⟩;exact ⟨z,(Z3 h k0 k1).1 hz,by rw [← a8F hck z hg];exact hp⟩
 ·rintro ⟨z,hz,hp⟩;exact ⟨z,(Z3 h k0 k1).2 hz,by rw [a8F hck z hg];exact hp⟩
noncomputable def a6u (t:d9) (kind:Int) (i:Nat):List Rat:=ah3 (t9 t kind i) (J0 t.ev)
theorem au6 {t:d9} {kind:Int} {i:Nat} (h:QT t) (h0:0<t.ev.moves.length) (k0:0<=kind) (k1:kind<8):a9u t kind i (a6u t kind i)∧∀g,g<t.ev.moves.length+t.ev.places.length->(isA t kind i).getD g false=true->0<aL4 t.ev (a6u t kind i) g:=by
 have hG:=H7 (kind:=kind) i h h0 k0 k1
 have hck:=(o4 h.h).1
 obtain ⟨h1,h2⟩:=b4a hG.p
 refine ⟨(Z3 h k0 k1).1 h1,fun g hg hi=>?_⟩
 rw [← a8F hck _ hg]
 exact h2 g (by rw [a5v];exact hg) hi
theorem aG0 (t:d9) (kind:Int) (i:Nat):(isA t kind i).length=t.ev.moves.length+t.ev.places.length:=by
 rw [← a5v];exact P5 _ _ _
noncomputable def a6C (t:d9) (kind:Int) (i:Nat):List T:=[ti i,a7f (isA t kind i),D7 ((a6u t kind i).map fz)]
noncomputable abbrev bl3 (t:d9) (kind:Int) (l:List Nat):T:=.sl 3 .any (l.map (a6C t kind))
noncomputable abbrev ay8 (t:d9) (kind:Int) (l:List Nat):S:=.c (.t (bl3 t kind l))
noncomputable abbrev bi9 (t:d9) (kind:Int) (l:List Nat):Blk:={ mode:=.live,elem:=127,size:=3,rows:=toC (l.map (a6C t kind)),box:=false }
noncomputable def a8G (t:d9) (kind:Int) (mv k:Nat):List Nat:=((i9 t.ev).take k).filter fun i=>(isA t kind i).getD mv false
theorem b38 {t:d9} {kind:Int} {mv k i:Nat} (h:(i9 t.ev)[k]? =some i):a8G t kind mv (k+1)=if (isA t kind i).getD mv false=true then a8G t kind mv k++[i] else a8G t kind mv k:=by
 unfold a8G
 have e:(i9 t.ev).take (k+1)=(i9 t.ev).take k++[i]:=by rw [lbG,h];rfl
 rw [e,lb8]
 by_cases hj:(isA t kind i).getD mv false=true
 ·rw [if_pos hj];simp [lbl] at hj ⊢;rw [hj]
 ·rw [if_neg hj];simp [lbl] at hj ⊢;rw [hj]
theorem b6c (t:d9) (kind:Int) (mv k:Nat):(a8G t kind mv k).length<=(i9 t.ev).length:=by
 unfold a8G
 exact lbS (lbt _ _) (by rw [lbs];omega)
theorem b4E (t:d9) (kind:Int) (mv:Nat):a8G t kind mv (i9 t.ev).length=J1 t kind mv:=by
 unfold a8G J1;rw [lbn (lbR _)]
theorem a8A (t:d9) (hs:t.Sized) (h:QT t) (find:Int) (f:L0) (f0:0<=find) (hf:t.finds[find.toNat]? =some f):
 a9 Tryz.prog 78 [trS t,a7 .i64 find] [] (ay8 t f.kind (J1 t f.kind f.mv.toNat)) []:=by
 obtain ⟨q1,q2,q3,q4,q5⟩:=o4 h.h
 have hg:=F9 q4 f (lbm hf)
 have hm:=h.m
 have hp:=h.p
 have m1:((X9 t.ev).map c9).length=(i9 t.ev).length:=by rw [lbr,a6j]
 have ll:(i9 t.ev).length<=t.ev.moves.length:=A7 _
 have li:=b1A t.ev hs.ev q1
 have go:=b6F t.ev hs.ev (by omega) (by omega)
 (refine ac Tryz.func78 ?_;(conv=>whnf);repeat ((first|refine b0x ?_|refine zy ?_);conv=>whnf))
 repeat' (first|refine zx ?_|refine qp li ?_|refine qp go ?_|refine zd ?_ ?_<;>intro h<;>try omega|fail)<;>conv=>whnf
 refine d8 c8 (fun k=>([J,a7 .i64 find,S.c (C.t (T.ptr (trT t))),J,J,S.c (C.own 0 0 (a8G t f.kind f.mv.toNat k).length true),d6 (X9 t.ev),a5f (J0 t.ev)]++Jn 10++[d6 (X9 t.ev),a7 .i64 (i9 t.ev).length,a7 .i64 k]++Jn 31,[bi9 t f.kind (a8G t f.kind f.mv.toNat k)])) (i9 t.ev).length (fun _=>True) [none] trivial
  ⟨rfl,rfl,⟨⟨rfl,rfl⟩,trivial⟩,⟨rfl,rfl,⟨rfl,rfl,rfl⟩,rfl,rfl,rfl,b8 (by simp [m1]),rfl,trivial⟩⟩ ?_
 intro k hk _
 have l2:=b6c t f.kind f.mv.toNat k
 by_cases hlt:k<(i9 t.ev).length
 ·obtain ⟨i,hi⟩:∃i,(i9 t.ev)[k]? =some i:=⟨_,lbf hlt⟩
  have hii:=a6l hi
  have al:=b18 t hs h.h find f f0 hf i (by omega)
  have il:i<t.ev.moves.length:=by
   obtain ⟨m,hm,_⟩:=I4.1 (lbm hi)
   exact (lbe.1 hm).1
  have re:=b3q (t9 t f.kind i) (J0 t.ev) (H7 i h (by omega) (by omega) (by omega))
  have lA:(a8G t f.kind f.mv.toNat k).length<=(bi9 t f.kind (a8G t f.kind f.mv.toNat k)).rows.length:=by show _<=(toC _).length;simp [toC]
  have iA:=aG0 t f.kind i
  obtain ⟨b,hb⟩:∃b,(isA t f.kind i)[f.mv.toNat]? =some b:=⟨_,lbf (by omega)⟩
  have hbd:(isA t f.kind i).getD f.mv.toNat false=b:=by rw [lbl,hb];rfl
  have eA:isF (t9 t f.kind i) (J0 t.ev)=isA t f.kind i:=rfl
  have eW:ah3 (t9 t f.kind i) (J0 t.ev)=a6u t f.kind i:=rfl
  rw [eA,eW] at re
  have gb:∀{K:List T->Prop},K [tb b]->∃row,0<=f.mv∧((isA t f.kind i).map a2F)[f.mv.toNat]? =some row∧K row:=fun hK=>v6 (f:=a2F) hg.1 hb hK
  rw [b38 hi,hbd]
  cases b with
  |true=>
   rw [if_pos rfl]
   conv=>whnf
   repeat' (first|refine zx ?_|refine qp al ?_|refine qp re ?_|refine qp toC ?_|refine b9 hii ?_|refine v6 f0 hf ?_|refine gb ?_|refine o8 lA (by simp [toC];omega) ?_|refine zd ?_ ?_<;>intro h<;>try omega|fail)<;>conv=>whnf
   all_goals first
    |omega
    |(refine ⟨hlt,trivial,[some 1],rfl,rfl,⟨a8 (rows:=(a8G t f.kind f.mv.toNat k++[i]).map (a6C t f.kind)) rfl rfl rfl ?_ rfl,trivial⟩,⟨rfl,rfl,⟨rfl,rfl,?_,fun h=>h⟩,rfl,rfl,rfl,rfl,b8 (by omega),trivial⟩⟩
      ·exact B9 (f:=a6C t f.kind) (x:=i) rfl
      ·simp [toC])
  |false=>
   rw [if_neg (by decide)]
   conv=>whnf
   repeat' (first|refine zx ?_|refine qp al ?_|refine qp re ?_|refine b9 hii ?_|refine v6 f0 hf ?_|refine gb ?_|refine zd ?_ ?_<;>intro h<;>try omega|fail)<;>conv=>whnf
   all_goals first
    |omega
    |exact ⟨hlt,trivial,[some 0],rfl,rfl,⟨d7 (c6 _),trivial⟩,⟨rfl,rfl,⟨rfl,rfl,rfl,fun h=>h⟩,rfl,rfl,rfl,rfl,b8 (by omega),trivial⟩⟩
 ·have hke:k=(i9 t.ev).length:=by omega
  subst hke
  rw [b4E]
  conv=>whnf
  repeat' (first|refine zx ?_|refine zd ?_ ?_<;>intro h<;>try omega|fail)<;>conv=>whnf
  all_goals first
   |omega
   |exact I6 rfl (fun h=>h) rfl rfl (by simp)
theorem a3M {t:d9} (h:QT t) {find:Int} {f:L0} (f0:0<=find) (hf:t.finds[find.toNat]? =some f):a1l t find=true:=by
 have hl:=(lbe.1 hf).1
 unfold a1l
 rw [lbH h.h,lbH f0,lbH (by omega)];rfl
def J3 (l:List Nat):List Int:=l.map fun i:Nat=>(i:Int)
theorem a1I (l:List Nat):(J3 l).length=l.length:=by simp [J3]
theorem b2R {l:List Nat} {k i:Nat} (h:l[k]? =some i):J3 (l.take (k+1))=J3 (l.take k)++[(i:Int)]:=by
 unfold J3;rw [lbG,h];simp
theorem ap1 (t:d9) (hs:t.Sized) (find:Int) (h:a1l t find=false):a9 Tryz.prog 34 [trS t,a7 .i64 find] [] (.tup [.c (.t (.sl 0 .nil [])),a7 .i64 1]) []:=by
 have fi:=a9P t hs find
 rw [h] at fi
 (refine ac Tryz.func34 ?_;(conv=>whnf);repeat ((first|refine b0x ?_|refine zy ?_);conv=>whnf))
 repeat' (first|refine zx ?_|refine qp fi ?_|refine zd ?_ ?_<;>intro h<;>try omega|fail)<;>conv=>whnf
 all_goals first
  |omega
  |exact k9 ⟨rfl,rfl,trivial⟩
theorem a5Y (t:d9) (hs:t.Sized) (h:QT t) (find:Int) (f:L0) (f0:0<=find) (hf:t.finds[find.toNat]? =some f):
 a9 Tryz.prog 34 [trS t,a7 .i64 find] [] (.tup [d6 (J3 (J1 t f.kind f.mv.toNat)),a7 .i64 0]) []:=by
 have fi:=a9P t hs find
 rw [a3M h f0 hf] at fi
 have re:=a8A t hs h find f f0 hf
 have hm:=h.m
 have rl2:(J1 t f.kind f.mv.toNat).length<=t.ev.moves.length:=lbS (lbt _ _) (A7 _)
 have m1:((J1 t f.kind f.mv.toNat).map (a6C t f.kind)).length=(J1 t f.kind f.mv.toNat).length:=by simp
 generalize J1 t f.kind f.mv.toNat=l at re m1 rl2
 (refine ac Tryz.func34 ?_;(conv=>whnf);repeat ((first|refine b0x ?_|refine zy ?_);conv=>whnf))
 repeat' (first|refine zx ?_|refine qp fi ?_|refine qp re ?_|refine zd ?_ ?_<;>intro h<;>try omega|fail)<;>conv=>whnf
 refine d8 c8 (fun k=>(Jn 6++[S.c (C.own 0 0 (J3 (l.take k)).length true),J,J,J,J,J,J,J,J,ay8 t f.kind l,a7 .i64 l.length,a7 .i64 k]++Jn 10,[k8 (J3 (l.take k))])) l.length (fun _=>True) [none] trivial
  ⟨rfl,rfl,⟨⟨rfl,rfl⟩,trivial⟩,⟨⟨rfl,rfl,rfl⟩,rfl,b8 (by simp),rfl,trivial⟩⟩ ?_
 intro k hk _
 have lN:=a1I (l.take k)
 have lT:(l.take k).length=k:=by rw [lbs];omega
 have lA:(J3 (l.take k)).length<=(k8 (J3 (l.take k))).rows.length:=by show _<=(toC _).length;simp [toC]
 by_cases hlt:k<l.length
 ·obtain ⟨i,hi⟩:∃i,l[k]? =some i:=⟨_,lbf hlt⟩
  rw [b2R hi]
  conv=>whnf
  repeat' (first|refine zx ?_|refine qp toC ?_|refine b9 hi ?_|refine o8 lA (by simp [toC];omega) ?_|refine zd ?_ ?_<;>intro h<;>try omega|fail)<;>conv=>whnf
  all_goals first
   |omega
   |(refine ⟨hlt,trivial,[some 2],rfl,rfl,⟨a8 (rows:=(J3 (l.take k)++[(i:Int)]).map c9) rfl rfl rfl ?_ rfl,trivial⟩,⟨⟨rfl,rfl,?_,fun h=>h⟩,rfl,rfl,b8 (by omega),trivial⟩⟩
     ·exact B9 (f:=c9) (x:=(i:Int)) rfl
     ·simp [toC])
 ·have hke:k=l.length:=by omega
  subst hke
  rw [lbn (lbR _)] at *
  conv=>whnf
  repeat' (first|refine zx ?_|refine zd ?_ ?_<;>intro h<;>try omega|fail)<;>conv=>whnf
  all_goals first
   |omega
   |exact k9 ⟨(show VC _ (fun id=>E4 [] id=true) (C.own 0 0 _ true) _ from u4 (k:=k8 (J3 l)) rfl rfl (fun h=>h) rfl rfl (by simp)),rfl,trivial⟩
def a8M (t:d9) (find mv:Int):Bool:=a1l t find && decide (0<=mv) && decide (mv<t.ev.moves.length)
theorem aU0 (t:d9) (hs:t.Sized) (find mv:Int):a9 Tryz.prog 107 [trS t,a7 .i64 find,a7 .i64 mv] [] (e8 (a8M t find mv)) []:=by
 have fi:=a9P t hs find
 have m1:(t.ev.moves.map n9.row).length=t.ev.moves.length:=by simp
 unfold a8M
 cases hb:a1l t find with
 |true=>
  rw [hb] at fi
  rw [Bool.true_and]
  (refine ac Tryz.func107 ?_;(conv=>whnf);repeat ((first|refine b0x ?_|refine zy ?_);conv=>whnf))
  repeat' (first|refine zx ?_|refine qp fi ?_|refine zd ?_ ?_<;>intro h<;>try omega|fail)<;>conv=>whnf
  all_goals first
   |omega
   |(refine c7 ?_;symm;simp only [lbN,lbI,lbP,lbK];omega)
 |false=>
  rw [hb] at fi
  rw [Bool.false_and,Bool.false_and]
  (refine ac Tryz.func107 ?_;(conv=>whnf);repeat ((first|refine b0x ?_|refine zy ?_);conv=>whnf))
  repeat' (first|refine zx ?_|refine qp fi ?_|refine zd ?_ ?_<;>intro h<;>try omega|fail)<;>conv=>whnf
  all_goals first
   |omega
   |exact c7 rfl
noncomputable def a6r (t:d9) (kind:Int) (g:Nat) (l:List Nat):Option Nat:=l.find? fun i=>(isA t kind i).getD g false
noncomputable def b7l (t:d9) (kind:Int) (o:Option Nat):S:=match o with
 |some i=>.tup [a7 .i64 i,t4 ((a6u t kind i).map fz),e8 true]
 |none=>.tup [a7 .i64 0,.c (.t (.sl 0 .nil [])),e8 false]
theorem ar4 (t:d9) (hs:t.Sized) (h:QT t) (find:Int) (f:L0) (f0:0<=find) (hf:t.finds[find.toNat]? =some f) (g:Nat) (hg:g<t.ev.moves.length):
 a9 Tryz.prog 42 [trS t,a7 .i64 find,a7 .i64 g] [] (b7l t f.kind (a6r t f.kind g (J1 t f.kind f.mv.toNat))) []:=by
 have kn:=aU0 t hs find g
 have hk:a8M t find g=true:=by unfold a8M;rw [a3M h f0 hf,lbH (by omega),lbH (by omega)];rfl
 rw [hk] at kn
 have re:=a8A t hs h find f f0 hf
 have hm:=h.m
 have rl2:(J1 t f.kind f.mv.toNat).length<=t.ev.moves.length:=lbS (lbt _ _) (A7 _)
 have m1:((J1 t f.kind f.mv.toNat).map (a6C t f.kind)).length=(J1 t f.kind f.mv.toNat).length:=by simp
 generalize J1 t f.kind f.mv.toNat=l at re m1 rl2
 (refine ac Tryz.func42 ?_;(conv=>whnf);repeat ((first|refine b0x ?_|refine zy ?_);conv=>whnf))
 repeat' (first|refine zx ?_|refine qp kn ?_|refine qp re ?_|refine zd ?_ ?_<;>intro h<;>try omega|fail)<;>conv=>whnf
 refine d8 c8 (fun k=>([J,J,a7 .i64 g]++Jn 15++[ay8 t f.kind l,a7 .i64 l.length,a7 .i64 k]++Jn 13,[])) l.length (fun k=>a6r t f.kind g (l.drop k)=a6r t f.kind g l) [] rfl
  ⟨rfl,rfl,trivial,⟨rfl,rfl,b8 (by simp),rfl,trivial⟩⟩ ?_
 intro k hk hI
 by_cases hlt:k<l.length
 ·obtain ⟨i,hi⟩:∃i,l[k]? =some i:=⟨_,lbf hlt⟩
  have hd:l.drop k=i::l.drop (k+1):=by rw [List.drop_eq_getElem_cons hlt];rw [lbf hlt] at hi;injection hi with hi;rw [hi]
  have iA:=aG0 t f.kind i
  obtain ⟨b,hb⟩:∃b,(isA t f.kind i)[g]? =some b:=⟨_,lbf (by omega)⟩
  have hbd:(isA t f.kind i).getD g false=b:=by rw [lbl,hb];rfl
  have gb:∀{K:List T->Prop},K [tb b]->∃row,0<=(g:Int)∧((isA t f.kind i).map a2F)[(g:Int).toNat]? =some row∧K row:=fun hK=>b9 (f:=a2F) hb hK
  unfold a6r at hI
  rw [hd,List.find?_cons,hbd] at hI
  cases b with
  |true=>
   have e:a6r t f.kind g l=some i:=by unfold a6r;rw [← hI]
   rw [e]
   unfold b7l
   conv=>whnf
   repeat' (first|refine zx ?_|refine b9 hi ?_|refine gb ?_|refine zd ?_ ?_<;>intro h<;>try omega|fail)<;>conv=>whnf
   all_goals first
    |omega
    |exact k9 ⟨rfl,rfl,rfl,trivial⟩
  |false=>
   conv=>whnf
   repeat' (first|refine zx ?_|refine b9 hi ?_|refine gb ?_|refine zd ?_ ?_<;>intro h<;>try omega|fail)<;>conv=>whnf
   all_goals first
    |omega
    |exact ⟨hlt,hI,[],rfl,rfl,trivial,⟨rfl,rfl,rfl,b8 (by omega),trivial⟩⟩
 ·have hke:k=l.length:=by omega
  subst hke
  have e:a6r t f.kind g l=none:=by rw [← hI,List.drop_length];rfl
  rw [e]
  unfold b7l
  conv=>whnf
  repeat' (first|refine zx ?_|refine zd ?_ ?_<;>intro h<;>try omega|fail)<;>conv=>whnf
  all_goals first
   |omega
   |exact k9 ⟨rfl,rfl,rfl,trivial⟩
theorem a7i {H:Hp} {p:Nat->Prop} {id:Nat} {l:List Int} (hp:p id) (hk:H[id]? =some (k8 l)):VC H p (.own id 0 l.length true) (K4 l):=
 u4 (k:=k8 l) hp hk (fun h=>h) rfl rfl (by simp)
theorem b30 (t:d9) (kind:Int) (i g:Nat) (hg:g<t.ev.moves.length+t.ev.places.length):
 a9 Tryz.prog 80 [.agg [.t (ti i),.t (a7f (isA t kind i)),.t (D7 ((a6u t kind i).map fz))],.c (.t (aQ9 g))] [] (e8 ((isA t kind i).getD g false)) []:=by
 have iA:=aG0 t kind i
 obtain ⟨b,hb⟩:∃b,(isA t kind i)[g]? =some b:=⟨_,lbf (by omega)⟩
 have hbd:(isA t kind i).getD g false=b:=by rw [lbl,hb];rfl
 rw [hbd]
 cases b<;>
 ·(refine ac Tryz.func80 ?_;(conv=>whnf);repeat ((first|refine b0x ?_|refine zy ?_);conv=>whnf))
  repeat' (first|refine zx ?_|refine b9 (f:=a2F) hb ?_|refine zd ?_ ?_<;>intro h<;>try omega|fail)<;>conv=>whnf
  all_goals first
   |omega
   |exact c7 rfl
theorem aZ8 (t:d9) (kind:Int) (l:List Nat) (hl:l.length<=1000000) (fg:FuncId) (caps:List T) (g:Nat) (hg:∀i ∈ l,a9 Tryz.prog fg (.agg [.t (ti i),.t (a7f (isA t kind i)),.t (D7 ((a6u t kind i).map fz))]::caps.map fun x=>.c (.t x)) [] (e8 ((isA t kind i).getD g false)) []):
 a9 Tryz.prog 148 [ay8 t kind l,.c (.t (.fn (.func fg) caps))] [] (a7 .i64 (D6 (fun i=>(isA t kind i).getD g false) l 0)) []:=by
 have l1:(l.map (a6C t kind)).length=l.length:=by simp
 (refine ac Tryz.func148 ?_;(conv=>whnf);repeat (refine zy ?_;conv=>whnf))
 repeat' (first|refine zx ?_|refine zd ?_ ?_<;>intro h<;>try omega|fail)<;>conv=>whnf
 refine d8 c8 (fun k=>([ay8 t kind l,S.c (C.t (T.fn (.func fg) caps)),J,J,J,J,J,a7 .i64 l.length,a7 .i64 k]++Jn 10,[])) l.length (fun k=>D6 (fun i=>(isA t kind i).getD g false) (l.drop k) k=D6 (fun i=>(isA t kind i).getD g false) l 0) [] rfl
  ⟨rfl,rfl,trivial,⟨g6 rfl,g6 rfl,b8 (by simp),rfl,trivial⟩⟩ ?_
 intro k hk hI
 by_cases hlt:k<l.length
 ·obtain ⟨r,hr⟩:∃r,l[k]? =some r:=⟨_,lbf hlt⟩
  have hd:l.drop k=r::l.drop (k+1):=by
   rw [List.drop_eq_getElem_cons hlt]
   rw [lbf hlt] at hr
   injection hr with hr
   rw [hr]
  have hgr:=hg r (lbm hr)
  have ha:(S.agg [.t (ti r),.t (a7f (isA t kind r)),.t (D7 ((a6u t kind r).map fz))]::caps.map fun x=>S.c (C.t x)).all S.isT=true:=by simp [S.isT,C.isT]
  rw [hd] at hI
  have hI:(if (isA t kind r).getD g false then (k:Int) else D6 (fun i=>(isA t kind i).getD g false) (l.drop (k+1)) (k+1))=D6 (fun i=>(isA t kind i).getD g false) l 0:=hI
  cases hq:(isA t kind r).getD g false with
  |true=>
   rw [hq] at hgr hI
   conv=>whnf
   repeat' (first|refine zx ?_|refine .inl ⟨_,_,z9 hgr ha rfl,?_⟩|refine b9 hr ?_|refine zd ?_ ?_<;>intro h<;>try omega|fail)<;>conv=>whnf
   all_goals first
    |omega
    |exact k6 hI
  |false=>
   rw [hq] at hgr hI
   conv=>whnf
   repeat' (first|refine zx ?_|refine .inl ⟨_,_,z9 hgr ha rfl,?_⟩|refine b9 hr ?_|refine zd ?_ ?_<;>intro h<;>try omega|fail)<;>conv=>whnf
   all_goals first
    |omega
    |exact ⟨hlt,by simpa using hI,[],rfl,rfl,trivial,⟨rfl,rfl,rfl,rfl,trivial⟩⟩
 ·have hke:k=l.length:=by omega
  subst hke
  rw [lbo (lbR _)] at hI
  conv=>whnf
  repeat' (first|refine zx ?_|refine zd ?_ ?_<;>intro h<;>try omega|fail)<;>conv=>whnf
  all_goals first
   |omega
   |exact k6 hI
theorem an1 (t:d9) (kind:Int) (l:List Nat) (hl:l.length<=1000000) (g:Nat) (hg:g<t.ev.moves.length+t.ev.places.length):
 a9 Tryz.prog 79 [ay8 t kind l,.c (.t (.fn (.func 80) [aQ9 g]))] [] (e8 (l.any fun i=>(isA t kind i).getD g false)) []:=by
 have ix:=aZ8 t kind l hl 80 [aQ9 g] g (fun i _=>b30 t kind i g hg)
 (refine ac Tryz.func79 ?_;(conv=>whnf);repeat (refine zy ?_;conv=>whnf))
 repeat' (first|refine zx ?_|refine qp ix ?_|refine zd ?_ ?_<;>intro h<;>try omega|fail)<;>conv=>whnf
 all_goals (refine c7 ?_;rw [← a3F (fun i=>(isA t kind i).getD g false) l 0];symm;first|exact lbH (by omega)|exact lbJ (by omega))
noncomputable def a1e (t:d9) (kind:Int) (mv:Nat) (k:Nat):List Nat:=(List.range k).filter fun g=>L6 t kind mv g
noncomputable def O4 (t:d9) (kind:Int) (mv k:Nat):List Nat:=(a1e t kind mv k).filter fun g=>decide (g<t.ev.moves.length)
noncomputable def F0 (t:d9) (kind:Int) (mv k:Nat):List Nat:=((a1e t kind mv k).filter fun g=>!decide (g<t.ev.moves.length)).map fun g=>g - t.ev.moves.length
theorem a9f (t:d9) (kind:Int) (mv k:Nat):a1e t kind mv (k+1)=if L6 t kind mv k=true then a1e t kind mv k++[k] else a1e t kind mv k:=by
 unfold a1e
 rw [List.range_succ,lb8]
 cases h:L6 t kind mv k<;>simp [h]
theorem aQ0 (t:d9) (kind:Int) (mv k:Nat):O4 t kind mv (k+1)=if L6 t kind mv k=true then (if k<t.ev.moves.length then O4 t kind mv k++[k] else O4 t kind mv k) else O4 t kind mv k:=by
 unfold O4
 rw [a9f]
 by_cases h:L6 t kind mv k=true
 ·rw [if_pos h,if_pos h,lb8]
  by_cases h2:k<t.ev.moves.length<;>simp [h2]
 ·rw [if_neg h,if_neg h]
theorem aE2 (t:d9) (kind:Int) (mv k:Nat):F0 t kind mv (k+1)=if L6 t kind mv k=true then (if k<t.ev.moves.length then F0 t kind mv k else F0 t kind mv k++[k - t.ev.moves.length]) else F0 t kind mv k:=by
 unfold F0
 rw [a9f]
 by_cases h:L6 t kind mv k=true
 ·rw [if_pos h,if_pos h,lb8,lbC]
  by_cases h2:k<t.ev.moves.length<;>simp [h2]
 ·rw [if_neg h,if_neg h]
theorem ak1 (t:d9) (kind:Int) (mv k:Nat):(a1e t kind mv k).length<=k:=by
 unfold a1e;exact lbS (lbt _ _) (by simp)
theorem a6R (t:d9) (kind:Int) (mv k:Nat):(O4 t kind mv k).length<=k:=lbS (lbt _ _) (ak1 _ _ _ _)
theorem a94 (t:d9) (kind:Int) (mv k:Nat):(F0 t kind mv k).length<=k:=by
 unfold F0;rw [lbr];exact lbS (lbt _ _) (ak1 _ _ _ _)
theorem aJ7 (l:List Nat) (k:Nat):J3 (l++[k])=J3 l++[(k:Int)]:=by simp [J3]
noncomputable def L8 (t:d9) (kind:Int) (mv:Nat):List Nat:=O4 t kind mv (t.ev.moves.length+t.ev.places.length)
noncomputable def I7 (t:d9) (kind:Int) (mv:Nat):List Nat:=F0 t kind mv (t.ev.moves.length+t.ev.places.length)
theorem aH4 (t:d9) (hs:t.Sized) (h:QT t) (find:Int) (f:L0) (f0:0<=find) (hf:t.finds[find.toNat]? =some f):
 a9 Tryz.prog 23 [trS t,a7 .i64 find] [] (.tup [.c (.own 0 0 (J3 (L8 t f.kind f.mv.toNat)).length true),.c (.own 1 0 (J3 (I7 t f.kind f.mv.toNat)).length true),a7 .i64 0]) [k8 (J3 (L8 t f.kind f.mv.toNat)),k8 (J3 (I7 t f.kind f.mv.toNat))]:=by
 have fi:=a9P t hs find
 rw [a3M h f0 hf] at fi
 have re:=a8A t hs h find f f0 hf
 have hm:=h.m
 have hp:=h.p
 have rl2:(J1 t f.kind f.mv.toNat).length<=t.ev.moves.length:=lbS (lbt _ _) (A7 _)
 have m1:(t.ev.moves.map n9.row).length=t.ev.moves.length:=by simp
 have m2:(t.ev.places.map G5.row).length=t.ev.places.length:=by simp
 generalize hN:t.ev.moves.length+t.ev.places.length=N
 (refine ac Tryz.func23 ?_;(conv=>whnf);repeat ((first|refine b0x ?_|refine zy ?_);conv=>whnf))
 repeat' (first|refine zx ?_|refine qp fi ?_|refine qp re ?_|refine zd ?_ ?_<;>intro h<;>try omega|fail)<;>conv=>whnf
 refine d8 c8 (fun k=>([J,J,J,J,S.c (C.own 0 0 (J3 (O4 t f.kind f.mv.toNat k)).length true),S.c (C.own 1 0 (J3 (F0 t f.kind f.mv.toNat k)).length true),J,a7 .i64 t.ev.moves.length,ay8 t f.kind (J1 t f.kind f.mv.toNat)]++Jn 17++[a7 .i64 N,a7 .i64 k]++Jn 22,[k8 (J3 (O4 t f.kind f.mv.toNat k)),k8 (J3 (F0 t f.kind f.mv.toNat k))])) N (fun _=>True) [none,none] trivial
  ⟨rfl,rfl,⟨⟨rfl,rfl⟩,⟨rfl,rfl⟩,trivial⟩,⟨⟨rfl,rfl,rfl⟩,⟨rfl,rfl,rfl⟩,b8 (by simp),rfl,b8 (by simp;omega),rfl,trivial⟩⟩ ?_
 intro k hk _
 have c1:=a6R t f.kind f.mv.toNat k
 have c2:=a94 t f.kind f.mv.toNat k
 have d1:=a1I (O4 t f.kind f.mv.toNat k)
 have d2:=a1I (F0 t f.kind f.mv.toNat k)
 by_cases hlt:k<N
 ·have lA:(J3 (O4 t f.kind f.mv.toNat k)).length<=(k8 (J3 (O4 t f.kind f.mv.toNat k))).rows.length:=by show _<=(toC _).length;simp [toC]
  have lB:(J3 (F0 t f.kind f.mv.toNat k)).length<=(k8 (J3 (F0 t f.kind f.mv.toNat k))).rows.length:=by show _<=(toC _).length;simp [toC]
  have ct:=an1 t f.kind (J1 t f.kind f.mv.toNat) (by omega) k (by omega)
  have eR:((J1 t f.kind f.mv.toNat).any fun i=>(isA t f.kind i).getD k false)=L6 t f.kind f.mv.toNat k:=rfl
  rw [eR] at ct
  rw [aQ0,aE2]
  generalize O4 t f.kind f.mv.toNat k=X at *
  generalize F0 t f.kind f.mv.toNat k=Y at *
  have va:a1P [k8 (J3 X),k8 (J3 Y),{ mode:=.live,elem:=3,size:=1,rows:=[[.t (ti k)]],box:=true }] (fun _=>True) [ay8 t f.kind (J1 t f.kind f.mv.toNat),.c (.fn (.func 80) [.ptr 2 0 0])] [ay8 t f.kind (J1 t f.kind f.mv.toNat),.c (.t (.fn (.func 80) [aQ9 k]))]:=
   ⟨b2t,aT2 (show _∧True from ⟨ak2 (k:={ mode:=.live,elem:=3,size:=1,rows:=[[.t (ti k)]],box:=true }) (row:=[.t (ti k)]) trivial rfl (fun h=>h) rfl (b3H [ti k]),trivial⟩),trivial⟩
  cases hb:L6 t f.kind f.mv.toNat k with
  |false=>
   rw [hb] at ct
   conv=>whnf
   repeat' (first|refine zx ?_|refine .inl ⟨_,_,n7 ct va rfl,?_⟩|refine zd ?_ ?_<;>intro h<;>try omega|fail)<;>conv=>whnf
   all_goals first
    |omega
    |exact ⟨hlt,trivial,[some 0,some 1],rfl,rfl,⟨d7 (c6 _),d7 (c6 _),trivial⟩,⟨⟨rfl,rfl,rfl,fun h=>h⟩,⟨rfl,rfl,rfl,fun h=>h⟩,rfl,rfl,rfl,b8 (by omega),trivial⟩⟩
  |true=>
   rw [hb] at ct
   rw [if_pos rfl,if_pos rfl]
   by_cases hkm:k<t.ev.moves.length
   ·rw [if_pos hkm,if_pos hkm,aJ7]
    conv=>whnf
    repeat' (first|refine zx ?_|refine qp toC ?_|refine .inl ⟨_,_,n7 ct va rfl,?_⟩|refine o8 lA (by simp [toC];omega) ?_|refine zd ?_ ?_<;>intro h<;>try omega|fail)<;>conv=>whnf
    all_goals first
     |omega
     |(refine ⟨hlt,trivial,[some 3,some 1],rfl,rfl,⟨a8 (rows:=(J3 X++[(k:Int)]).map c9) rfl rfl rfl ?_ rfl,d7 (c6 _),trivial⟩,⟨⟨rfl,rfl,?_,fun h=>h⟩,⟨rfl,rfl,rfl,fun h=>h⟩,rfl,rfl,rfl,b8 (by omega),trivial⟩⟩
       ·exact B9 (f:=c9) (x:=(k:Int)) rfl
       ·simp [toC])
   ·rw [if_neg hkm,if_neg hkm,aJ7]
    have eP:((k - t.ev.moves.length:Nat):Int)=(k:Int) - (t.ev.moves.length:Int):=by omega
    rw [eP]
    conv=>whnf
    repeat' (first|refine zx ?_|refine qp toC ?_|refine .inl ⟨_,_,n7 ct va rfl,?_⟩|refine o8 lB (by simp [toC];omega) ?_|refine zd ?_ ?_<;>intro h<;>try omega|fail)<;>conv=>whnf
    all_goals first
     |omega
     |(refine ⟨hlt,trivial,[some 0,some 3],rfl,rfl,⟨d7 (c6 _),a8 (rows:=(J3 Y++[(k:Int) - (t.ev.moves.length:Int)]).map c9) rfl rfl rfl ?_ rfl,trivial⟩,⟨⟨rfl,rfl,rfl,fun h=>h⟩,⟨rfl,rfl,?_,fun h=>h⟩,rfl,rfl,rfl,b8 (by omega),trivial⟩⟩
       ·exact B9 (f:=c9) (x:=(k:Int) - (t.ev.moves.length:Int)) rfl
       ·simp [toC])
 ·have hke:k=N:=by omega
  subst hke
  have e1:L8 t f.kind f.mv.toNat=O4 t f.kind f.mv.toNat k:=by unfold L8;rw [hN]
  have e2:I7 t f.kind f.mv.toNat=F0 t f.kind f.mv.toNat k:=by unfold I7;rw [hN]
  rw [e1,e2]
  generalize O4 t f.kind f.mv.toNat k=X at *
  generalize F0 t f.kind f.mv.toNat k=Y at *
  conv=>whnf
  repeat' (first|refine zx ?_|refine zd ?_ ?_<;>intro h<;>try omega|fail)<;>conv=>whnf
  all_goals first
   |omega
   |exact ⟨⟨[some 0,some 1],rfl,rfl,⟨d7 (c6 _),d7 (c6 _),trivial⟩,⟨⟨rfl,rfl,rfl,fun h=>h⟩,⟨rfl,rfl,rfl,fun h=>h⟩,rfl,trivial⟩⟩⟩
theorem ak6 (t:d9) (hs:t.Sized) (h:QT t) (find:Int) (f:L0) (f0:0<=find) (hf:t.finds[find.toNat]? =some f):
 a9 Tryz.prog 23 [trS t,a7 .i64 find] [] (.tup [d6 (J3 (L8 t f.kind f.mv.toNat)),d6 (J3 (I7 t f.kind f.mv.toNat)),a7 .i64 0]) []:=by
 refine b3o (aH4 t hs h find f f0 hf) (k9 ⟨(show VC _ (fun id=>E4 [] id=true) _ _ from a7i rfl rfl),(show VC _ (fun id=>E4 [] id=true) _ _ from a7i rfl rfl),rfl,trivial⟩)
def a6Y (q:Int->Bool) (xs:List Int) (i0:Nat):Nat->List Int × Nat
 |0=>(xs,i0)
 |m+1=>if q (xs.getD (i0+1+m) 0)=true then a6Y q xs i0 m else ((a6Y q xs i0 m).1.set (a6Y q xs i0 m).2 (xs.getD (i0+1+m) 0),(a6Y q xs i0 m).2+1)
structure bj2 (q:Int->Bool) (xs:List Int) (j:Nat) (r:List Int) (i:Nat):Prop where
 len:r.length=xs.length
 lt:i<j
 tk:r.take i=(xs.take j).filter fun x=>!q x
 dr:r.drop j=xs.drop j
theorem av8 {q:Int->Bool} {xs:List Int} {i0:Nat} (h0:i0<xs.length) (h1:(xs.take i0).filter (fun x=>!q x)=xs.take i0) (h2:q (xs.getD i0 0)=true):
 ∀m,i0+1+m<=xs.length->bj2 q xs (i0+1+m) (a6Y q xs i0 m).1 (a6Y q xs i0 m).2
 |0,hm=>by
  refine ⟨rfl,by show i0<_;omega,?_,rfl⟩
  show xs.take i0=_
  rw [Nat.add_zero,lbG,lb8,h1,lbf h0]
  rw [lbl,lbf h0] at h2
  simp at h2
  simp [h2]
 |m+1,hm=>by
  have ih:=av8 h0 h1 h2 m (by omega)
  obtain ⟨a1,a2,a3,a4⟩:=ih
  unfold a6Y
  generalize hj:i0+1+m=j at *
  have ej:i0+1+(m+1)=j+1:=by omega
  rw [ej]
  have hjl:j<xs.length:=by omega
  generalize a6Y q xs i0 m=p at *
  obtain ⟨r,i⟩:=p
  simp only at a1 a2 a3 a4 ⊢
  have hx:xs.getD j 0=xs[j]:=by rw [lbl,lbf hjl];rfl
  rw [hx]
  have ht:xs.take (j+1)=xs.take j++[xs[j]]:=by rw [lbG,lbf hjl];rfl
  by_cases hq:q xs[j]=true
  ·rw [if_pos hq]
   refine ⟨a1,by show i<_;omega,?_,?_⟩
   ·show r.take i=_
    rw [a3,ht,lb8];simp [hq]
   ·show r.drop (j+1)=_
    rw [← List.drop_drop,a4,List.drop_drop]
  ·rw [if_neg hq]
   refine ⟨by simp [a1],by show i+1<_;omega,?_,?_⟩
   ·show (r.set i xs[j]).take (i+1)=_
    rw [lbG,List.take_set_of_le (lbR _),List.getElem?_set_self (by omega),a3,ht,lb8]
    have:q xs[j]=false:=by simpa using hq
    simp [this]
   ·show (r.set i xs[j]).drop (j+1)=_
    rw [List.drop_set_of_lt (by omega),←List.drop_drop,a4,List.drop_drop]
theorem a9e {q:Int->Bool}:∀(xs:List Int) (k:Nat),(D6 q xs k=-1∧xs.filter (fun x=>!q x)=xs)∨∃i,D6 q xs k=((k+i:Nat):Int)∧i<xs.length∧(xs.take i).filter (fun x=>!q x)=xs.take i∧q (xs.getD i 0)=true
 |[],k=>.inl ⟨rfl,rfl⟩
 |x::r,k=>by
  unfold D6
  cases h:q x with
  |true=>exact .inr ⟨0,by simp,by simp,rfl,by simpa using h⟩
  |false=>
   rcases a9e (q:=q) r (k+1) with ⟨h1,h2⟩|⟨i,h1,h2,h3,h4⟩
   ·exact .inl ⟨by simpa using h1,by simp [h,h2]⟩
   ·refine .inr ⟨i+1,?_,by simp;omega,by simp [h,h3],by simpa using h4⟩
    show (if false=true then (k:Int) else D6 q r (k+1))=_
    rw [if_neg (by decide),h1];congr 1;omega
theorem aX7 (xs:List Int) (hl:xs.length<=1000000) (fg:FuncId) (caps:List T) (q:Int->Bool) (hg:∀x ∈ xs,a9 Tryz.prog fg (a7 .i64 x::caps.map fun x=>.c (.t x)) [] (e8 (q x)) []):
 a9 Tryz.prog 175 [d6 xs,.c (.t (.fn (.func fg) caps))] [] (a7 .i64 (D6 q xs 0)) []:=by
 have l1:(xs.map c9).length=xs.length:=by simp
 (refine ac Tryz.func175 ?_;(conv=>whnf);repeat (refine zy ?_;conv=>whnf))
 repeat' (first|refine zx ?_|refine zd ?_ ?_<;>intro h<;>try omega|fail)<;>conv=>whnf
 refine d8 c8 (fun k=>([d6 xs,S.c (C.t (T.fn (.func fg) caps)),J,J,J,J,J,a7 .i64 xs.length,a7 .i64 k]++Jn 10,[])) xs.length (fun k=>D6 q (xs.drop k) k=D6 q xs 0) [] rfl
  ⟨rfl,rfl,trivial,⟨g6 rfl,g6 rfl,b8 (by simp),rfl,trivial⟩⟩ ?_
 intro k hk hI
 by_cases hlt:k<xs.length
 ·obtain ⟨r,hr⟩:∃r,xs[k]? =some r:=⟨_,lbf hlt⟩
  have hd:xs.drop k=r::xs.drop (k+1):=by
   rw [List.drop_eq_getElem_cons hlt]
   rw [lbf hlt] at hr
   injection hr with hr
   rw [hr]
  have hgr:=hg r (lbm hr)
  have ha:(a7 .i64 r::caps.map fun x=>S.c (C.t x)).all S.isT=true:=by simp [S.isT,C.isT,a7]
  rw [hd] at hI
  have hI:(if q r then (k:Int) else D6 q (xs.drop (k+1)) (k+1))=D6 q xs 0:=hI
  cases hq:q r with
  |true=>
   rw [hq] at hgr hI
   conv=>whnf
   repeat' (first|refine zx ?_|refine .inl ⟨_,_,z9 hgr ha rfl,?_⟩|refine b9 hr ?_|refine zd ?_ ?_<;>intro h<;>try omega|fail)<;>conv=>whnf
   all_goals first
    |omega
    |exact k6 hI
  |false=>
   rw [hq] at hgr hI
   conv=>whnf
   repeat' (first|refine zx ?_|refine .inl ⟨_,_,z9 hgr ha rfl,?_⟩|refine b9 hr ?_|refine zd ?_ ?_<;>intro h<;>try omega|fail)<;>conv=>whnf
   all_goals first
    |omega
    |exact ⟨hlt,by simpa using hI,[],rfl,rfl,trivial,⟨rfl,rfl,rfl,rfl,trivial⟩⟩
 ·have hke:k=xs.length:=by omega
  subst hke
  rw [lbo (lbR _)] at hI
  conv=>whnf
  repeat' (first|refine zx ?_|refine zd ?_ ?_<;>intro h<;>try omega|fail)<;>conv=>whnf
  all_goals first
   |omega
   |exact k6 hI
theorem aF5 {l:List Int} {n:Nat} {v:Int} {K:List C->Prop} (h:l[n]? =some v) (k:K [C.t (ti v)]):∃row,(k8 l).rows[n]? =some row∧K row:=⟨_,by show (toC (l.map c9))[n]? =_;simp [toC,c9,h],k⟩
theorem b2O {l:List Int} {i n:Nat} {v:Int} (h:n=i):t8 (k8 l) ((k8 l).rows.set n [C.t (ti v)])=k8 (l.set i v):=by
 subst h
 unfold t8
 show ({ mode:=_,elem:=_,size:=_,rows:=(toC (l.map c9)).set n _,box:=_,app:=_ }:Blk)=_
 have:(toC (l.map c9)).set n [C.t (ti v)]=toC ((l.set n v).map c9):=by
  unfold toC
  rw [List.map_set,List.map_set];rfl
 rw [this]
theorem aO6 (xs ys:List Int) (hl:xs.length<=1000000) (fg:FuncId) (caps:List T) (q:Int->Bool) (hg:∀x ∈ xs,a9 Tryz.prog fg (a7 .i64 x::caps.map fun x=>.c (.t x)) [] (e8 (q x)) []):
 ∃zs,zs.take (xs.filter fun x=>!q x).length=(xs.filter fun x=>!q x)∧zs.length=xs.length∧a9 Tryz.prog 105 [.c (.own 0 0 xs.length true),.c (.t (.fn (.func fg) caps))] [k8 xs,k8 ys] (.c (.own 0 0 (xs.filter fun x=>!q x).length true)) [k8 zs,k8 ys]:=by
 have ix:=aX7 xs hl fg caps q hg
 have ha:(caps.map fun x=>S.c (C.t x)).all S.isT=true:=by simp [S.isT,C.isT]
 rcases a9e (q:=q) xs 0 with ⟨h1,h2⟩|⟨i0,h1,h2,h3,h4⟩
 ·rw [h1] at ix
  rw [h2]
  refine ⟨xs,lbn (lbR _),rfl,?_⟩
  (refine ac Tryz.func105 ?_;(conv=>whnf);repeat (refine zy ?_;conv=>whnf))
  repeat' (first|refine zx ?_|refine .inl ⟨_,_,af5 ix ⟨a19 (a7i trivial rfl),ao7,trivial⟩ rfl,?_⟩|refine zd ?_ ?_<;>intro h<;>try omega|fail)<;>conv=>whnf
  all_goals first
   |omega
   |exact ⟨⟨[some 0,some 1],rfl,rfl,⟨d7 (c6 _),d7 (c6 _),trivial⟩,⟨rfl,rfl,rfl,fun h=>h⟩⟩⟩
 ·rw [h1,Nat.zero_add] at ix
  have hD:=av8 h2 h3 h4
  obtain ⟨n,hn⟩:∃n,i0+1+n=xs.length:=⟨xs.length - (i0+1),by omega⟩
  have hE:=hD n (by omega)
  generalize hF:a6Y q xs i0 n=rn at hE
  obtain ⟨rs,i⟩:=rn
  obtain ⟨e1,e2,e3,e4⟩:=hE
  simp only at e1 e2 e3 e4
  rw [hn,lbn (lbR _)] at e3
  have e5:(rs.take i).length=i:=by rw [lbs];omega
  have hz:rs.take i++List.replicate (xs.length - i) (0:Int)=rs.take i++List.replicate (xs.length - i) (0:Int):=rfl
  refine ⟨rs.take i++List.replicate (xs.length - i) 0,?_,by rw [lbq,e5,List.length_replicate];omega,?_⟩
  ·rw [← e3,List.take_append_of_le_length (by omega),e5,List.take_take,Nat.min_self]
  have eC:x6 (0+(i:Int).toNat) ((xs.length:Int) - (i:Int)).toNat (toC (rs.map c9)) (List.replicate ((xs.length:Int) - (i:Int)).toNat [C.t (ti 0)])=toC ((rs.take i++List.replicate (xs.length - i) 0).map c9):=by
   have x1:0+(i:Int).toNat=i:=by omega
   have x2:((xs.length:Int) - (i:Int)).toNat=xs.length - i:=by omega
   rw [x1,x2]
   unfold x6 toC
   rw [lbn (l:=List.replicate _ _) (by simp),List.length_replicate,lbo (by simp;omega)]
   simp [c9,List.map_take]
  have eL:(xs.filter fun x=>!q x).length=i:=by rw [← e3];exact e5
  rw [eL]
  have hcl:=fun x hx=>hg x hx
  (refine ac Tryz.func105 ?_;(conv=>whnf);repeat (refine zy ?_;conv=>whnf))
  repeat' (first|refine zx ?_|refine .inl ⟨_,_,af5 ix ⟨a19 (a7i trivial rfl),ao7,trivial⟩ rfl,?_⟩|refine zd ?_ ?_<;>intro h<;>try omega|fail)<;>conv=>whnf
  refine d8 c8 (fun m=>([S.c (C.own 0 0 xs.length true),S.c (C.t (T.fn (.func fg) caps)),J,J,J,a7 .i64 (a6Y q xs i0 m).2,a7 .i64 (i0+1+m)]++Jn 35,[k8 (a6Y q xs i0 m).1,k8 ys])) n (fun _=>True) [some 0,some 1] trivial
   ⟨rfl,rfl,⟨d7 (c6 _),d7 (c6 _),trivial⟩,⟨⟨rfl,rfl,rfl,fun h=>h⟩,g6 rfl,rfl,b8 (by omega),trivial⟩⟩ ?_
  intro m hm _
  have hDm:=hD m (by omega)
  generalize hG:a6Y q xs i0 m=p at hDm
  obtain ⟨r,k⟩:=p
  obtain ⟨d1,d2,d3,d4⟩:=hDm
  simp only at d1 d2 d3 d4 ⊢
  by_cases hlt:m<n
  ·obtain ⟨v,hv⟩:∃v,xs[i0+1+m]? =some v:=⟨_,lbf (by omega)⟩
   have hvd:xs.getD (i0+1+m) 0=v:=by rw [lbl,hv];rfl
   have hrv:r[i0+1+m]? =some v:=by
    have:=congrArg (fun l=>l[0]?) d4
    simpa [lbj,hv] using this
   have gv:r[0+((i0+1+m:Nat):Int).toNat]? =some v:=by rw [Nat.zero_add,lbY];exact hrv
   have hgv:=hg v (lbm hv)
   have ha2:(a7 .i64 v::caps.map fun x=>S.c (C.t x)).all S.isT=true:=by simp [S.isT,C.isT,a7]
   have eG:a6Y q xs i0 (m+1)=if q v=true then (r,k) else (r.set k v,k+1):=by
    conv=>lhs;unfold a6Y
    rw [hG,hvd]
   rw [eG]
   cases hq:q v with
   |true=>
    rw [hq] at hgv
    rw [if_pos rfl]
    conv=>whnf
    repeat' (first|refine zx ?_|refine .inl ⟨_,_,z9 hgv ha2 rfl,?_⟩|refine aF5 gv ?_|refine zd ?_ ?_<;>intro h<;>try omega|fail)<;>conv=>whnf
    all_goals first
     |omega
     |exact ⟨hlt,trivial,[some 0,some 1],rfl,rfl,⟨d7 (c6 _),d7 (c6 _),trivial⟩,⟨⟨rfl,rfl,rfl,fun h=>h⟩,rfl,rfl,b8 (by omega),trivial⟩⟩
   |false=>
    rw [hq] at hgv
    rw [if_neg (by decide)]
    have eB:=b2O (l:=r) (v:=v) (show 0+(k:Int).toNat=k by omega)
    obtain ⟨u,hu⟩:∃u,r[0+(k:Int).toNat]? =some u:=⟨_,lbf (by omega)⟩
    conv=>whnf
    repeat' (first|refine zx ?_|refine .inl ⟨_,_,z9 hgv ha2 rfl,?_⟩|refine aF5 gv ?_|refine aF5 hu ?_|refine zd ?_ ?_<;>intro h<;>try omega|fail)<;>conv=>whnf
    all_goals first
     |omega
     |exact ⟨hlt,trivial,[some 0,some 1],rfl,rfl,⟨⟨rfl,rfl,rfl,.inl ⟨congrArg Blk.rows eB,(congrArg Blk.rows eB) ▸ c6 _⟩⟩,d7 (c6 _),trivial⟩,⟨⟨rfl,rfl,rfl,fun h=>h⟩,rfl,b8 (by omega),b8 (by omega),trivial⟩⟩
  ·have hme:m=n:=by omega
   subst hme
   rw [hG] at hF
   injection hF with f1 f2
   subst f1 f2
   have rl2:(toC (r.map c9)).length=xs.length:=by simp [toC,d1]
   have s1:(0:Int)<=(k:Int)∧(k:Int)<=(xs.length:Int)∧(xs.length:Int)<=(xs.length:Int):=by omega
   have s2:(0:Int)<=0∧(0:Int)<=(k:Int)∧(k:Int)<=(xs.length:Int):=by omega
   have s3:0+(k:Int).toNat+((xs.length:Int) - (k:Int)).toNat<=(k8 r).rows.length:=by show _<=(toC (r.map c9)).length;omega
   conv=>whnf
   repeat' (first|refine zx ?_|refine ⟨s1,?_⟩|refine ⟨s2,?_⟩|refine ⟨s3,?_⟩|refine zd ?_ ?_<;>intro h<;>try omega|fail)<;>conv=>whnf
   all_goals first
    |omega
    |exact ⟨⟨[some 0,some 1],rfl,rfl,⟨a8 (rows:=(r.take k++List.replicate (xs.length - k) (0:Int)).map c9) rfl rfl rfl eC rfl,d7 (c6 _),trivial⟩,⟨rfl,rfl,by show ((k:Int) - 0).toNat=k;omega,fun h=>h⟩⟩⟩
def a3U (e:Ev) (i:Int):Bool:=match e.moves[i.toNat]? with
 |some m=>decide (j9 e m.dst=5)
 |none=>false
theorem b64 (t:d9) (h1:v3 t=0) (i:Nat) (hi:i<t.ev.moves.length):
 a9 Tryz.prog 104 [a7 .i64 i,.c (.t (T.ptr (trT t)))] [] (e8 (!a3U t.ev i)) []:=by
 have hck:=(o4 h1).1
 obtain ⟨m,hm⟩:∃m,t.ev.moves[i]? =some m:=⟨_,lbf hi⟩
 have hmo:=p8 hck (lbm hm)
 have ms:=H9 hmo
 obtain ⟨p,hp⟩:∃p,t.ev.places[m.dst.toNat]? =some p:=⟨_,lbf (by omega)⟩
 have hk0:j9 t.ev m.dst=p.kind:=by unfold j9;rw [hp];rfl
 have e:a3U t.ev i=decide (p.kind=5):=by unfold a3U;rw [lbY,hm,←hk0]
 rw [e]
 (refine ac Tryz.func104 ?_;(conv=>whnf);repeat (refine zy ?_;conv=>whnf))
 repeat' (first|refine zx ?_|refine b9 hm ?_|refine v6 ms.1 hp ?_|refine zd ?_ ?_<;>intro h<;>try omega|fail)<;>conv=>whnf
 all_goals first
  |omega
  |(refine c7 ?_;symm;simp;omega)
  |(refine c7 ?_;symm;simp;assumption)
noncomputable def a9i (t:d9) (kind:Int) (mv:Nat):List Int:=(J3 (L8 t kind mv)).filter fun x=>!!a3U t.ev x
theorem b7g {H:Hp} {p:Nat->Prop} {id n:Nat} {l m:List Int} (hp:p id) (hk:H[id]? =some (k8 l)) (hm:l.take n=m) (hn:m.length=n):VC H p (.own id 0 n true) (K4 m):=by
 refine ⟨hp,k8 l,hk,fun h=>h,rfl,?_,?_⟩
 ·show 0+n<=(toC (l.map c9)).length
  have:=lbs (i:=n) (l:=l)
  rw [hm] at this
  simp [toC];omega
 ·show ((toC (l.map c9)).drop 0).take n=toC (m.map c9)
  rw [List.drop_zero,←hm]
  simp [toC,List.map_take]
theorem b4J (t:d9) (hs:t.Sized) (h:QT t) (find:Int) (f:L0) (f0:0<=find) (hf:t.finds[find.toNat]? =some f):
 a9 Tryz.prog 39 [trS t,a7 .i64 find] [] (.tup [d6 (a9i t f.kind f.mv.toNat),a7 .i64 0]) []:=by
 have lo:=aH4 t hs h find f f0 hf
 have hm:=h.m
 have hp:=h.p
 have hlen:=a6R t f.kind f.mv.toNat (t.ev.moves.length+t.ev.places.length)
 have hlen2:(J3 (L8 t f.kind f.mv.toNat)).length<=1000000:=by rw [a1I];show (O4 _ _ _ _).length<=_;omega
 obtain ⟨zs,z1,z2,de⟩:=aO6 (J3 (L8 t f.kind f.mv.toNat)) (J3 (I7 t f.kind f.mv.toNat)) hlen2 104 [T.ptr (trT t)] (fun x=>!a3U t.ev x) (fun x hx=>by
  obtain ⟨i,hi,rfl⟩:=lbx.1 hx
  have hi:=(lby.1 hi).2
  exact b64 t h.h i (lbL hi))
 have eS:a9i t f.kind f.mv.toNat=(J3 (L8 t f.kind f.mv.toNat)).filter fun x=>!!a3U t.ev x:=rfl
 rw [eS]
 generalize J3 (L8 t f.kind f.mv.toNat)=X at *
 generalize J3 (I7 t f.kind f.mv.toNat)=Y at *
 generalize (X.filter fun x=>!!a3U t.ev x)=Z at *
 (refine ac Tryz.func39 ?_;(conv=>whnf);repeat ((first|refine b0x ?_|refine zy ?_);conv=>whnf))
 repeat' (first|refine zx ?_|refine .inr ⟨_,_,lo,?_⟩|refine .inr ⟨_,_,de,?_⟩|refine zd ?_ ?_<;>intro h<;>try omega|fail)<;>conv=>whnf
 all_goals first
  |omega
  |exact k9 ⟨(show VC _ (fun id=>E4 [] id=true) _ _ from b7g rfl rfl z1 rfl),rfl,trivial⟩
theorem a8u {α:Type} {l:List α} {k:Nat} {x:α} (h:l[k]? =some x):l.take (k+1)=l.take k++[x]:=by
 rw [lbG,h];rfl
theorem b0f (a b:List Int) (ha:a.length<=1000000) (hb:b.length<=1000000):a9 Tryz.prog 103 [d6 a,d6 b] [] (e8 (decide (a=b))) []:=by
 have l1:(a.map c9).length=a.length:=by simp
 have l2:(b.map c9).length=b.length:=by simp
 (refine ac Tryz.func103 ?_;(conv=>whnf);repeat (refine zy ?_;conv=>whnf))
 repeat' (first|refine zx ?_|refine zd ?_ ?_<;>intro h<;>try omega|fail)<;>conv=>whnf
 ·refine c7 (lbJ ?_).symm
  intro hab;subst hab;exact h rfl
 have hab:a.length=b.length:=by omega
 refine d8 c8 (fun k=>([d6 a,d6 b,J,J,J,a7 .i64 k]++Jn 20,[])) a.length (fun k=>a.take k=b.take k) [] rfl
  ⟨rfl,rfl,trivial,⟨g6 rfl,g6 rfl,b8 rfl,trivial⟩⟩ ?_
 intro k hk hI
 conv=>whnf
 repeat' (first|refine zx ?_|refine zd ?_ ?_<;>intro h<;>try omega|fail)<;>conv=>whnf
 ·have hlt:k<a.length:=by omega
  obtain ⟨x,hx⟩:∃x,a[k]? =some x:=⟨_,lbf hlt⟩
  obtain ⟨y,hy⟩:∃y,b[k]? =some y:=⟨_,lbf (by omega)⟩
  repeat' (first|refine zx ?_|refine b9 hx ?_|refine b9 hy ?_|refine zd ?_ ?_<;>intro h<;>try omega|fail)<;>conv=>whnf
  ·have hne:x≠y:=‹x≠y›
   refine c7 (lbJ ?_).symm
   intro hq;subst hq;rw [hx] at hy;injection hy with hy;exact hne hy
  ·have hxy:x=y:=by omega
   refine ⟨hlt,?_,[],rfl,rfl,trivial,⟨g6 rfl,g6 rfl,rfl,trivial⟩⟩
   rw [a8u hx,a8u hy,hI,hxy]
 ·refine c7 (lbH ?_).symm
  rw [lbn (by omega),lbn (by omega)] at hI
  exact hI
def N7 (e:Ev) (m:Int) (bl:List Bool):Bool:=decide (0<=m) && decide (m<e.moves.length) && decide ((bl.length:Int)=e.moves.length)
theorem a6J (e:Ev) (m:Int) (bl:List Bool):a9 Tryz.prog 117 [evS e,a7 .i64 m,G8 bl] [] (e8 (N7 e m bl)) []:=by
 have l1:(e.moves.map n9.row).length=e.moves.length:=by simp
 have l2:(bl.map R3).length=bl.length:=by simp
 (refine ac Tryz.func117 ?_;(conv=>whnf);repeat (refine zy ?_;conv=>whnf))
 repeat' (first|refine zx ?_|refine zd ?_ ?_<;>intro h<;>try omega|fail)<;>conv=>whnf
 all_goals (refine c7 ?_;simp [N7];omega)
theorem b2E (l:List Bool) (hl:l.length<=1000000):a9 Tryz.prog 119 [G8 l] [] (d6 (m8 (fun _ b=>b) 0 l)) []:=by
 have l2:(l.map R3).length=l.length:=by simp
 let P:Nat->Bool->Bool:=fun _ b=>b
 (refine ac Tryz.func119 ?_;(conv=>whnf);repeat (refine zy ?_;conv=>whnf))
 refine d8 c8 (fun k=>([J,J,J,M4 0 (z7 P l k),J,J,G8 l,a7 .i64 l.length,a7 .i64 k]++Jn 11,[k8 (z7 P l k)])) l.length (fun k=>True) [none] trivial
  ⟨rfl,rfl,⟨⟨rfl,rfl⟩,trivial⟩,⟨⟨rfl,rfl,rfl⟩,rfl,b8 (by simp),b8 rfl,trivial⟩⟩ ?_
 intro k hk hI
 have hpl:=a2S P l k
 conv=>whnf
 repeat' (first|refine zx ?_|refine zd ?_ ?_<;>intro h<;>try omega|fail)<;>conv=>whnf
 ·have hlt:k<l.length:=by omega
  obtain ⟨x,hx⟩:∃x,l[k]? =some x:=⟨_,lbf hlt⟩
  repeat' (first|refine zx ?_|refine qp toC ?_|refine qp toC ?_|refine b9 hx ?_|refine o8 (by simp [toC]) (by simp [toC];omega) ?_|refine zd ?_ ?_<;>intro h<;>try omega|fail)<;>conv=>whnf
  ·have hP:P k x=true:=‹x=true›
   refine ⟨hlt,trivial,[some 1],rfl,rfl,⟨a8 rfl rfl rfl ?_ rfl,trivial⟩,⟨f8 rfl ?_,rfl,rfl,rfl,trivial⟩⟩
   ·rw [a1G P hx hP,lbC]
    exact (congrArg (fun n=>List.take n (toC ((z7 P l k).map c9))++toC [[ti k]]) (by simp)).trans a7A
   ·rw [a1G P hx hP];simp [toC]
  ·have hP:P k x=false:=‹x=false›
   refine ⟨hlt,trivial,[some 0],rfl,rfl,⟨a8 rfl rfl rfl ?_ rfl,trivial⟩,⟨f8 rfl ?_,rfl,rfl,rfl,trivial⟩⟩
   ·rw [Y2 P hx hP]
   ·rw [Y2 P hx hP]
 ·have hk':m8 P 0 l=z7 P l k:=(a6z P (by omega)).symm
  show Fin 0 _ _ (d6 (m8 P 0 l)) []
  rw [hk']
  exact I6 rfl (by intro h;cases h) rfl rfl (by simp)
theorem a7z {α:Type} {p:Nat->α->Bool}:∀(l:List α) (k:Nat),(∀ i m,k<=i->p i m=false)->m8 p k l=[]
 |[],k,_=>rfl
 |m::r,k,h=>by
  rw [m8,h k m (lbR _)]
  simp only [Bool.false_eq_true,if_false]
  exact a7z r (k+1) fun i m hi=>h i m (by omega)
theorem an0 {α:Type} {p:Nat->α->Bool} {l:List α} {n:Nat} (hn:n<=l.length) (h:∀i m,n<=i->p i m=false):m8 p 0 (l.take n)=m8 p 0 l:=by
 have:=a4n p (l.take n) (l.drop n) 0
 rw [lb7] at this
 rw [this,a7z (l.drop n) _ (fun i m hi=>h i m (by simp at hi;omega)),List.append_nil]
def a0H (e:Ev) (d:Int) (m i:Nat):Bool:=((e.moves.take i).drop (m+1)).all fun x=>!(decide (x.src=d) && x.all)
def a2e (e:Ev) (bl:List Bool) (d:Int) (m i:Nat) (x:n9):Bool:=decide (m<i) && decide (x.src=d) && a0H e d m i && !(bl.getD i true)
theorem a3w {e:Ev} {d:Int} {m:Nat}:a0H e d m (m+1)=true:=by
 unfold a0H;rw [List.drop_eq_nil_of_le (by simp;omega)];rfl
theorem a2I {e:Ev} {d:Int} {m k:Nat} {x:n9} (h:e.moves[k]? =some x) (hm:m<k):a0H e d m (k+1)=(a0H e d m k && !(decide (x.src=d) && x.all)):=by
 unfold a0H
 have hlt:=(lbe.1 h).1
 rw [a8u h,List.drop_append_of_le_length (by simp;omega),List.all_append]
 simp
theorem a9t {e:Ev} {d:Int} {m:Nat}:∀(n k:Nat),k<=n->m<k->a0H e d m k=false->a0H e d m n=false
 |0,k,h,hm,hk=>by omega
 |n+1,k,h,hm,hk=>by
  by_cases hkn:k=n+1
  ·subst hkn;exact hk
  ·have ih:=a9t n k (by omega) hm hk
   cases hx:e.moves[n]? with
   |none=>
    have hle:=List.getElem?_eq_none_iff.1 hx
    unfold a0H at ih ⊢
    rw [lbn (by omega)] at ih ⊢
    exact ih
   |some x=>rw [a2I hx (by omega),ih];rfl
theorem b9d (e:Ev) (hs:e.Sized) (bl:List Bool) (m:Nat) (x0:n9) (hm:e.moves[m]? =some x0) (hb:bl.length=e.moves.length):
 a9 Tryz.prog 195 [evS e,a7 .i64 m,G8 bl] [] (d6 (m8 (a2e e bl x0.dst m) 0 e.moves)) []:=by
 have l1:=hs.s2
 have l2:(e.moves.map n9.row).length=e.moves.length:=by simp
 have l3:(bl.map R3).length=bl.length:=by simp
 have hmlt:=(lbe.1 hm).1
 let P:Nat->n9->Bool:=a2e e bl x0.dst m
 (refine ac Tryz.func195 ?_;(conv=>whnf);repeat (refine zy ?_;conv=>whnf))
 repeat' (first|refine zx ?_|refine zd ?_ ?_<;>intro h<;>try omega|fail)<;>conv=>whnf
 have hp0:z7 P e.moves (m+1)=[]:=by
  unfold z7
  rw [List.eq_nil_iff_forall_not_mem]
  intro y hy
  obtain ⟨i,z,hz,hP,-⟩:=y0.1 hy
  have:=(lbe.1 hz).1
  simp only [lbs] at this
  simp [P,a2e] at hP
  omega
 refine d8 c8 (fun k=>([J,a7 .i64 m,G8 bl,S.c (C.ptr 0 0 0),J,J,J,M4 1 (z7 P e.moves (m+1+k)),a7 .i64 ((m+1+k:Nat):Int)]++Jn 38,[evB e,k8 (z7 P e.moves (m+1+k))])) (e.moves.length - (m+1)) (fun k=>a0H e x0.dst m (m+1+k)=true) [some 0,none] a3w
  ⟨rfl,rfl,⟨⟨rfl,rfl,rfl,.inl ⟨rfl,j7 e⟩⟩,⟨?_,rfl⟩,trivial⟩,⟨rfl,g6 rfl,⟨rfl,rfl,rfl⟩,⟨rfl,rfl,?_⟩,b8 rfl,trivial⟩⟩ ?_
 ·show toC ((z7 P e.moves (m+1)).map c9)=[]
  rw [hp0];rfl
 ·show (z7 P e.moves (m+1)).length=0
  rw [hp0];rfl
 intro k hk hI
 have hpl:=a2S P e.moves (m+1+k)
 conv=>whnf
 repeat' (first|refine zx ?_|refine zd ?_ ?_<;>intro h<;>try omega|fail)<;>conv=>whnf
 ·have hlt:m+1+k<e.moves.length:=by omega
  obtain ⟨x,hx⟩:∃x,e.moves[m+1+k]? =some x:=⟨_,lbf hlt⟩
  obtain ⟨b,hbx⟩:∃b,bl[m+1+k]? =some b:=⟨_,lbf (by omega)⟩
  have hP:P (m+1+k) x=(decide (x.src=x0.dst) && !b):=by
   have hbd:bl.getD (m+1+k) true=b:=by rw [lbl,hbx];rfl
   have hmk:decide (m<m+1+k)=true:=by simp;omega
   simp only [P,a2e,hI,hbd,hmk,Bool.true_and,Bool.and_true]
  have hC:=a2I hx (show m<m+1+k by omega) (d:=x0.dst)
  rw [hI] at hC
  have hstop:x.src=x0.dst->x.all=true->m8 P 0 e.moves=z7 P e.moves (m+1+k+1):=fun h1 h2=>by
   refine (an0 (by omega) fun i z hi=>?_).symm
   have:=a9t (e:=e) (d:=x0.dst) (m:=m) i (m+1+k+1) hi (by omega) (hC.trans (by simp [h1,h2]))
   simp [P,a2e,this]
  repeat' (first|refine zx ?_|refine qp toC ?_|refine qp toC ?_|refine b9 hx ?_|refine b9 hm ?_|refine b9 hbx ?_|refine o8 (by simp [toC]) (by simp [toC];omega) ?_|refine zd ?_ ?_<;>intro h<;>try omega|fail)<;>conv=>whnf
  ·have hs':¬x.src=x0.dst:=‹x.src≠x0.dst›
   have hPf:P (m+1+k) x=false:=by rw [hP];simp [hs']
   refine ⟨by omega,hC.trans (by simp [hs']),[some 0,some 1],rfl,rfl,⟨⟨rfl,rfl,rfl,.inl ⟨rfl,j7 e⟩⟩,a8 rfl rfl rfl ?_ rfl,trivial⟩,⟨rfl,rfl,⟨rfl,rfl,rfl⟩,f8 rfl ?_,rfl,trivial⟩⟩
   ·exact congrArg (fun l=>toC (l.map c9)) (Y2 P hx hPf).symm
   ·exact congrArg List.length (Y2 P hx hPf).symm
  ·have hs':x.src=x0.dst:=ai7.1 ‹¬ x.src≠x0.dst›
   have hPf:P (m+1+k) x=false:=by rw [hP];simp_all
   have hst:=hstop hs' ‹x.all=true›
   show Fin 0 _ _ (d6 (m8 P 0 e.moves)) []
   rw [hst,Y2 P hx hPf]
   exact I6 rfl (by intro h;cases h) rfl rfl (by simp)
  ·have hs':x.src=x0.dst:=ai7.1 ‹¬ x.src≠x0.dst›
   have ha':x.all=false:=‹x.all=false›
   have hPf:P (m+1+k) x=false:=by rw [hP];simp_all
   refine ⟨by omega,hC.trans (by simp [ha']),[some 0,some 1],rfl,rfl,⟨⟨rfl,rfl,rfl,.inl ⟨rfl,j7 e⟩⟩,a8 rfl rfl rfl ?_ rfl,trivial⟩,⟨rfl,rfl,⟨rfl,rfl,rfl⟩,f8 rfl ?_,rfl,trivial⟩⟩
   ·exact congrArg (fun l=>toC (l.map c9)) (Y2 P hx hPf).symm
   ·exact congrArg List.length (Y2 P hx hPf).symm
  ·have hs':x.src=x0.dst:=ai7.1 ‹¬ x.src≠x0.dst›
   have hb':b=false:=‹b=false›
   have hPt:P (m+1+k) x=true:=by rw [hP];simp [hs',hb']
   have hst:=hstop hs' ‹x.all=true›
   show Fin 0 _ _ (d6 (m8 P 0 e.moves)) []
   rw [hst,a1G P hx hPt]
   refine I6 rfl (by intro h;cases h) rfl ?_ (by simp [toC])
   rw [lbC]
   exact (congrArg (fun n=>List.take n (toC ((z7 P e.moves (m+1+k)).map c9))++toC [[ti (m+1+k:Nat)]]) (by simp)).trans a7A
  ·have hs':x.src=x0.dst:=ai7.1 ‹¬ x.src≠x0.dst›
   have ha':x.all=false:=‹x.all=false›
   have hb':b=false:=‹b=false›
   have hPt:P (m+1+k) x=true:=by rw [hP];simp [hs',hb']
   have hy:=a1G P hx hPt
   refine ⟨by omega,hC.trans (by simp [ha']),[some 0,some 2],rfl,rfl,⟨⟨rfl,rfl,rfl,.inl ⟨rfl,j7 e⟩⟩,a8 (rows:=(z7 P e.moves (m+1+k+1)).map c9) rfl rfl rfl ?_ rfl,trivial⟩,⟨rfl,rfl,⟨rfl,rfl,rfl⟩,f8 rfl ?_,rfl,trivial⟩⟩
   ·rw [hy,lbC]
    exact (congrArg (fun n=>List.take n (toC ((z7 P e.moves (m+1+k)).map c9))++toC [[ti (m+1+k:Nat)]]) (by simp)).trans a7A
   ·show _=(z7 P e.moves (m+1+k+1)).length
    rw [hy];simp [toC]
 ·have hk':m8 P 0 e.moves=z7 P e.moves (m+1+k):=(a6z P (by omega)).symm
  show Fin 0 _ _ (d6 (m8 P 0 e.moves)) []
  rw [hk']
  exact I6 rfl (by intro h;cases h) rfl rfl (by simp)
def a8t (t:d9) (find lift:Int):Bool:=a1l t find && decide (0<=lift∧lift.toNat ∈ i9 t.ev)
theorem at7 {t:d9} {find:Int} (h:a1l t find=true):v3 t=0∧0<=find∧∃f,t.finds[find.toNat]? =some f:=by
 unfold a1l at h
 simp only [lbN,lbI] at h
 exact ⟨h.1.1,h.1.2,_,lbf (by omega)⟩
theorem am6 {s:g4} (h:a1h s):aL2 s:=by
 have hn:=a0V h.r
 have h9:=h.n
 refine ⟨by have:=h.l;omega,fun w hw=>?_⟩
 obtain ⟨i,hi,rfl⟩:=List.getElem_of_mem hw
 have h1:=C8 (a0l h.r (lbf hi)).1
 have h2:=h.i _ (lbE hi)
 exact ⟨by omega,fun t ht=>by have:=P9 h2.1 t ht;omega,by have:=a7m h2.2;omega⟩
def an8 (v:Nat):List (Int × Rat):=[((v:Int),((-1:Int):Rat))]
def b9b (t:d9) (kind:Int) (a b i:Nat) (y:List Fr):Bool:=b0k (t9 t kind i) (an8 a) y || b0k (t9 t kind i) (an8 b) y
def ab0 (t:d9) (kind:Int) (a b:Nat) (pf:List (List Fr)):Bool:=decide (pf.length=(i9 t.ev).length) && (List.range (i9 t.ev).length).all fun k=>b9b t kind a b ((i9 t.ev).getD k 0) (pf.getD k [])
theorem b4D {t:d9} (h:QT t) {find:Int} {f:L0} (f0:0<=find) (hf:t.finds[find.toNat]? =some f) {g:Nat} (hg:g<t.ev.moves.length):a8M t find g=true:=by
 unfold a8M;rw [a3M h f0 hf,lbH (by omega),lbH (by omega)];rfl
noncomputable def aD4 (t:d9) (kind:Int) (a b i:Nat):List Rat:=if a27 (B4 a) (S2 (t9 t kind i) (B4 a))=true then Z4 (t9 t kind i) (B4 b) else Z4 (t9 t kind i) (B4 a)
noncomputable def a2T (t:d9) (kind:Int) (a b:Nat) (l:List Nat):List (List Fr):=l.map fun i=>(aD4 t kind a b i).map fz
theorem b3w {t:d9} {kind:Int} {a b k i:Nat} {l:List Nat} (h:l[k]? =some i):a2T t kind a b (l.take (k+1))=a2T t kind a b (l.take k)++[(aD4 t kind a b i).map fz]:=by
 unfold a2T;rw [lbG,h];simp
theorem aN5 (t:d9) (kind:Int) (a b:Nat) (l:List Nat):(a2T t kind a b l).length=l.length:=by simp [a2T]
abbrev aV5 (hh:List (List Fr)):Blk:={ mode:=.live,elem:=44,size:=1,rows:=toC (hh.map a1F),box:=false }
theorem a97 {n v:Nat} (h:v<n):f9 (-1) ((n:Nat):Int) (B4 v)=true:=X8 (by omega) (by show ((v:Nat):Int)<_;omega) (by show ((1:Int):Rat)≠0;decide) rfl
theorem Y6 (v:Nat):D2 (B4 v):=Y1 (by decide) (by decide)
theorem b8n (t:d9) (hs:t.Sized) (hQ:QT t) (find:Int) (f:L0) (f0:0<=find) (hf:t.finds[find.toNat]? =some f) (g:Nat) (hg:g<t.ev.moves.length) (hw:a6r t f.kind g (J1 t f.kind f.mv.toNat)=none):
 a9 Tryz.prog 54 [trS t,a7 .i64 find,a7 .i64 g] [] (.tup [aT7 (a2T t f.kind f.mv.toNat g (i9 t.ev)),e8 true]) []:=by
 have wi:=ar4 t hs hQ find f f0 hf g hg
 rw [hw] at wi
 unfold b7l at wi
 have kn:=aU0 t hs find g
 rw [b4D hQ f0 hf hg] at kn
 have hm:=hQ.m
 obtain ⟨q1,q2,q3,q4,q5⟩:=o4 hQ.h
 have hfg:=F9 q4 f (lbm hf)
 obtain ⟨mv,hmv⟩:∃mv:Nat,f.mv=mv:=⟨f.mv.toNat,by omega⟩
 have hmv2:f.mv.toNat=mv:=by omega
 have li:=b1A t.ev hs.ev q1
 have m1:((X9 t.ev).map c9).length=(i9 t.ev).length:=by rw [lbr,a6j]
 have ll:(i9 t.ev).length<=t.ev.moves.length:=A7 _
 rw [hmv2]
 have on1:=a8q mv 1 (by decide) (by decide)
 rw [← hmv] at on1
 have on2:=a8q g 1 (by decide) (by decide)
 (refine ac Tryz.func54 ?_;(conv=>whnf);repeat ((first|refine b0x ?_|refine zy ?_);conv=>whnf))
 repeat' (first|refine zx ?_|refine qp wi ?_|refine qp kn ?_|refine qp li ?_|refine zd ?_ ?_<;>intro h<;>try omega|fail)<;>conv=>whnf
 all_goals try omega
 refine d8 c8 (fun k=>([J,a7 .i64 find,a7 .i64 g,S.c (C.t (T.ptr (trT t))),J,J,J,J,J,J,J,S.c (C.own 0 0 (a2T t f.kind mv g ((i9 t.ev).take k)).length true),d6 (X9 t.ev)]++Jn 24++[d6 (X9 t.ev),a7 .i64 (i9 t.ev).length,a7 .i64 k]++Jn 42,[aV5 (a2T t f.kind mv g ((i9 t.ev).take k))])) (i9 t.ev).length (fun _=>True) [none] trivial
  ⟨rfl,rfl,⟨⟨rfl,rfl⟩,trivial⟩,⟨rfl,rfl,rfl,⟨rfl,rfl,rfl⟩,rfl,rfl,b8 (by simp [m1]),rfl,trivial⟩⟩ ?_
 intro k hk _
 have pl:=aN5 t f.kind mv g ((i9 t.ev).take k)
 have pt:((i9 t.ev).take k).length=k:=by rw [lbs];omega
 have lA:(a2T t f.kind mv g ((i9 t.ev).take k)).length<=(aV5 (a2T t f.kind mv g ((i9 t.ev).take k))).rows.length:=by show _<=(toC _).length;simp [toC]
 by_cases hlt:k<(i9 t.ev).length
 ·obtain ⟨i,hi⟩:∃i,(i9 t.ev)[k]? =some i:=⟨_,lbf hlt⟩
  have hii:=a6l hi
  have al:=b18 t hs hQ.h find f f0 hf i (by omega)
  have hG:=H7 (kind:=f.kind) i hQ (by omega) (by omega) (by omega)
  have ss:=hG.sm
  have nn:((t9 t f.kind i).n.toNat:Nat)=t.ev.moves.length:=by show ((t.ev.moves.length:Nat):Int).toNat=_;omega
  have r1:f9 (-1) (((t9 t f.kind i).n.toNat:Nat):Int) (B4 mv)=true:=by rw [nn];exact a97 (by omega)
  have r2:f9 (-1) (((t9 t f.kind i).n.toNat:Nat):Int) (B4 g)=true:=by rw [nn];exact a97 hg
  have mu1:=aV6 (t9 t f.kind i) (B4 mv) ss hG.p.z hG.pos r1 (Y6 _)
  have mu2:=aV6 (t9 t f.kind i) (B4 g) ss hG.p.z hG.pos r2 (Y6 _)
  have x15:=b5E ss r1 (Y6 mv)
  have xl:=ax6 (s:=t9 t f.kind i) (g:=B4 mv)
  have po:=ak4 (B4 mv) (S2 (t9 t f.kind i) (B4 mv)) (by rw [xl];exact r1) (Y6 _) (fun v hv=>by have:=x15 v hv;omega) (by omega) (fun k=>by
   have h1:=a6W (P9 (Y6 mv)) x15 k
   have h2:=lbU (31+4) (show (B4 mv).length<=9 by simp [B4])
   omega)
  have eN:aD4 t f.kind mv g i=if a27 (B4 mv) (S2 (t9 t f.kind i) (B4 mv))=true then Z4 (t9 t f.kind i) (B4 g) else Z4 (t9 t f.kind i) (B4 mv):=rfl
  rw [b3w hi,eN]
  generalize a2T t f.kind mv g ((i9 t.ev).take k)=P at *
  generalize t9 t f.kind i=s at *
  generalize S2 s (B4 g)=x2 at *
  generalize Z4 s (B4 g)=y2 at *
  generalize S2 s (B4 mv)=x1 at *
  generalize Z4 s (B4 mv)=y1 at *
  unfold B4 at mu1 mu2 po
  rw [← hmv] at mu1
  cases hb:a27 (B4 mv) x1 with
  |true=>
   unfold B4 at hb
   rw [hb,←hmv] at po
   rw [if_pos rfl]
   conv=>whnf
   repeat' (first|refine zx ?_|refine qp al ?_|refine qp on1 ?_|refine qp on2 ?_|refine qp mu1 ?_|refine qp mu2 ?_|refine qp po ?_|refine qp toC ?_|refine qp 7 ?_|refine b9 hii ?_|refine v6 f0 hf ?_|refine o8 lA (by simp [toC];omega) ?_|refine bl0 [7] ?_|refine zd ?_ ?_<;>intro h<;>try omega|fail)<;>conv=>whnf
   all_goals first
    |omega
    |(refine ⟨hlt,trivial,[some 2],rfl,rfl,⟨a8 (rows:=(P++[y2.map fz]).map a1F) rfl rfl rfl ?_ rfl,trivial⟩,⟨rfl,rfl,rfl,⟨rfl,rfl,?_,fun h=>h⟩,rfl,rfl,rfl,b8 (by omega),trivial⟩⟩
      ·exact B9 (f:=a1F) (x:=y2.map fz) rfl
      ·simp [toC])
  |false=>
   unfold B4 at hb
   rw [hb,←hmv] at po
   rw [if_neg (by decide)]
   conv=>whnf
   repeat' (first|refine zx ?_|refine qp al ?_|refine qp on1 ?_|refine qp on2 ?_|refine qp mu1 ?_|refine qp mu2 ?_|refine qp po ?_|refine qp toC ?_|refine qp 7 ?_|refine b9 hii ?_|refine v6 f0 hf ?_|refine o8 lA (by simp [toC];omega) ?_|refine bl0 [7] ?_|refine zd ?_ ?_<;>intro h<;>try omega|fail)<;>conv=>whnf
   all_goals first
    |omega
    |(refine ⟨hlt,trivial,[some 2],rfl,rfl,⟨a8 (rows:=(P++[y1.map fz]).map a1F) rfl rfl rfl ?_ rfl,trivial⟩,⟨rfl,rfl,rfl,⟨rfl,rfl,?_,fun h=>h⟩,rfl,rfl,rfl,b8 (by omega),trivial⟩⟩
      ·exact B9 (f:=a1F) (x:=y1.map fz) rfl
      ·simp [toC])
 ·have hke:k=(i9 t.ev).length:=by omega
  subst hke
  rw [lbn (lbR _)] at *
  conv=>whnf
  repeat' (first|refine zx ?_|refine zd ?_ ?_<;>intro h<;>try omega|fail)<;>conv=>whnf
  all_goals first
   |omega
   |exact k9 ⟨(show VC _ (fun id=>E4 [] id=true) (C.own 0 0 _ true) _ from u4 (k:=aV5 (a2T t f.kind mv g (i9 t.ev))) rfl rfl (fun h=>h) rfl rfl (by simp)),rfl,trivial⟩
theorem b11 (t:d9) (hs:t.Sized) (find:Int):a9 Tryz.prog 100 [trS t,a7 .i64 find] [] (e8 (a1l t find)) []:=by
 have ck:=aT6 t hs
 have m1:(t.finds.map L0.row).length=t.finds.length:=by simp
 unfold a1l
 by_cases h1:v3 t=0
 ·rw [lbH h1,Bool.true_and]
  (refine ac Tryz.func100 ?_;(conv=>whnf);repeat ((first|refine b0x ?_|refine zy ?_);conv=>whnf))
  repeat' (first|refine zx ?_|refine qp ck ?_|refine zd ?_ ?_<;>intro h<;>try omega|fail)<;>conv=>whnf
  all_goals first
   |omega
   |(refine c7 ?_;symm;simp only [lbN,lbI,lbP,lbK];omega)
 ·rw [lbJ h1,Bool.false_and,Bool.false_and]
  (refine ac Tryz.func100 ?_;(conv=>whnf);repeat ((first|refine b0x ?_|refine zy ?_);conv=>whnf))
  repeat' (first|refine zx ?_|refine qp ck ?_|refine zd ?_ ?_<;>intro h<;>try omega|fail)<;>conv=>whnf
  all_goals first
   |omega
   |exact c7 rfl
def a7S (e:Ev) (i:Nat):Bool:=decide (i ∈ i9 e)
theorem aq4 {e:Ev} {i:Nat} {m:n9} (hm:e.moves[i]? =some m):a7S e i=decide (j9 e m.src=0):=by
 unfold a7S
 rw [decide_eq_decide,I4]
 constructor
 ·rintro ⟨x,hx,h⟩;rw [hm] at hx;injection hx with hx;rw [hx];exact h
 ·intro h;exact ⟨m,hm,h⟩
theorem aA7 (e:Ev) (h0:y8 e=0) (i:Nat) (hi:i<e.moves.length):a9 Tryz.prog 45 [evS e,a7 .i64 i] [] (e8 (a7S e i)) []:=by
 obtain ⟨m,hm⟩:∃m,e.moves[i]? =some m:=⟨_,lbf hi⟩
 have ms:=B6 (p8 h0 (lbm hm))
 obtain ⟨p,hp⟩:∃p,e.places[m.src.toNat]? =some p:=⟨_,lbf (by omega)⟩
 have hk0:j9 e m.src=p.kind:=by unfold j9;rw [hp];rfl
 rw [aq4 hm,hk0]
 (refine ac Tryz.func45 ?_;(conv=>whnf);repeat ((first|refine b0x ?_|refine zy ?_);conv=>whnf))
 repeat' (first|refine zx ?_|refine b9 hm ?_|refine v6 ms.1 hp ?_|refine zd ?_ ?_<;>intro h<;>try omega|fail)<;>conv=>whnf
 all_goals first
  |omega
  |(refine c7 ?_;symm;simp;omega)
  |(refine c7 ?_;symm;simp;assumption)
theorem b5h (v c:Int) (h0:-9223372036854775808<=c) (h1:c<=9223372036854775807):a9 Tryz.prog 101 [a7 .i64 v,a7 .i64 c] [] (s7 [(v,((c:Int):Rat))]) []:=by
 have ic:=a4j c h0 h1
 (refine ac Tryz.func101 ?_;(conv=>whnf);repeat ((first|refine b0x ?_|refine zy ?_);conv=>whnf))
 repeat' (first|refine zx ?_|refine qp ic ?_|refine zd ?_ ?_<;>intro h<;>try omega|fail)<;>conv=>whnf
 all_goals first
  |exact k9 (show a9F [] _ _ _ from rfl)
theorem aZ6 (t:d9) (kind:Int) (hs:t.Sized) (h1:v3 t=0) (k0:0<=kind) (k1:kind<8) (H:Hp):Z5 Tryz.prog 81 [.agg (b84 t),a7 .i64 kind] H (.tup [.agg [.t (ti t.ev.moves.length),.own H.length 0 (R5 (v8 t) kind).rows.length true],a7 .i64 0]) [L9 (R5 (v8 t) kind).rows]:=by
 have hc:¬(v3 (v8 t)≠0∨kind<0∨8<=kind):=by have:=a1z h1;omega
 have h:=a9l (b0C (v8 t) kind ⟨hs.ev,by simp [v8],hs.c⟩ hc)
 exact a6P (j:=1) h rfl rfl (c6 _) rfl rfl
def X2 (t:d9) (kind:Int) (i k:Nat):List D3:=(R5 (v8 t) kind).rows++M8 (t7 t.ev k) i
theorem aO9 {t:d9} {kind:Int} {i k:Nat} {m:n9} (hm:t.ev.moves[k]? =some m):X2 t kind i (k+1)=if k≠i∧a7S t.ev k=true then X2 t kind i k++[p9 k 2 ((0:Int):Rat)] else X2 t kind i k:=by
 unfold X2
 conv=>lhs;unfold t7
 rw [hm,aq4 hm]
 simp only [lbI]
 by_cases h1:j9 t.ev m.src=0
 ·rw [if_pos h1]
  unfold M8
  rw [lb8,lbC]
  by_cases h2:k≠i
  ·rw [if_pos ⟨h2,h1⟩];simp [h2]
  ·rw [if_neg (fun h=>h2 h.1)];simp [h2]
 ·rw [if_neg h1,if_neg (fun h=>h1 h.2)]
theorem b0y {t:d9} {kind:Int} {i k:Nat} (hm:t.ev.moves.length<=14) (hc:t.cleans.length<=50) (hk:k<=14):(X2 t kind i k).length<=750:=by
 unfold X2
 have hl:=S7 (t:=v8 t) (kind:=kind) t.ev.moves.length
 have hl2:t.ev.moves.length*(2+(v8 t).finds.length+(v8 t).cleans.length)<=14*52:=lbT hm (by show 2+0+t.cleans.length<=52;omega)
 have hl3:=a2y (t7 t.ev k) i
 have hl4:=A7 (e:=t.ev) k
 have hl7:(R5 (v8 t) kind).rows.length<=14*52:=lbS hl hl2
 rw [lbq];omega
theorem aN7 (t:d9) (hs:t.Sized) (find:Int) (f:L0) (hf:t.finds[find.toNat]? =some f) (i:Nat) (h:a8t t find i=true) (hm:t.ev.moves.length<=14):
 a9 Tryz.prog 33 [trS t,a7 .i64 find,a7 .i64 i] [] (.tup [a3c (t9 t f.kind i),a7 .i64 0]) []:=by
 have fi:=b11 t hs find
 unfold a8t at h
 obtain ⟨h1,h2⟩:=(lbN _ _).mp h
 rw [h1] at fi
 obtain ⟨h3,h4,_⟩:=at7 h1
 obtain ⟨q1,q2,q3,q4,q5⟩:=o4 h3
 have hg:=F9 q4 f (lbm hf)
 have h5:=(lbL h2).2
 rw [lbY] at h5
 have il:i<t.ev.moves.length:=by
  obtain ⟨m,hm,_⟩:=I4.1 h5
  exact (lbe.1 hm).1
 have m1:(t.ev.moves.map n9.row).length=t.ev.moves.length:=by simp
 have lf:=aA7 t.ev q1 i il
 have e1:a7S t.ev i=true:=lbH h5
 rw [e1] at lf
 have sy:=fun H:Hp=>aZ6 t f.kind hs h3 (by omega) (by omega) H
 have i0:=a4j 0 (by decide) (by decide)
 have eM0:X2 t f.kind i 0=(R5 (v8 t) f.kind).rows:=by unfold X2 t7 M8;simp
 (refine ac Tryz.func33 ?_;(conv=>whnf);repeat ((first|refine b0x ?_|refine zy ?_);conv=>whnf))
 repeat' (first|refine zx ?_|refine qp fi ?_|refine qp lf ?_|refine qp 10 ?_|refine v6 h4 hf ?_|refine .inl ⟨_,_,sy _,?_⟩|refine bl0 [10] ?_|refine zd ?_ ?_<;>intro h<;>try omega|fail)<;>conv=>whnf
 all_goals try omega
 refine d8 c8 (fun k=>([J,J,a7 .i64 i,S.c (C.t (T.ptr (trT t))),J,J,S.c (C.ptr 0 0 0),J,J,S.c (C.ptr 1 0 0),J,a7 .i64 k]++Jn 63,[a22,a3k t.ev.moves.length 2 (X2 t f.kind i k).length,L9 (X2 t f.kind i k)])) t.ev.moves.length (fun _=>True) [some 0,some 3,some 2] trivial
  ⟨rfl,rfl,⟨⟨rfl,rfl,rfl,.inr ⟨⟨rfl,rfl,trivial⟩,trivial⟩⟩,⟨rfl,rfl,rfl,.inr ⟨⟨rfl,⟨rfl,rfl,by rw [eM0],fun h=>h⟩,trivial⟩,trivial⟩⟩,a8 (rows:=(X2 t f.kind i 0).map y4) rfl rfl rfl (by rw [eM0]) rfl,trivial⟩,⟨rfl,rfl,⟨rfl,rfl,rfl⟩,⟨rfl,rfl,rfl⟩,rfl,trivial⟩⟩ ?_
 intro k hk _
 have lk:=b0y (t:=t) (kind:=f.kind) (i:=i) (k:=k) hm q3 (by omega)
 by_cases hlt:k<t.ev.moves.length
 ·obtain ⟨m,hm2⟩:∃m,t.ev.moves[k]? =some m:=⟨_,lbf hlt⟩
  have lfk:=aA7 t.ev q1 k hlt
  have on:=b5h k 1 (by decide) (by decide)
  rw [aO9 hm2]
  have lA:(X2 t f.kind i k).length<=(L9 (X2 t f.kind i k)).rows.length:=by show _<=(toC _).length;simp [toC]
  generalize X2 t f.kind i k=R at *
  by_cases hki:k=i
  ·rw [if_neg (fun h=>h.1 hki)]
   cases a7S t.ev k<;>
   ·conv=>whnf
    repeat' (first|refine zx ?_|refine qp lfk ?_|refine zd ?_ ?_<;>intro h<;>try omega|fail)<;>conv=>whnf
    all_goals first
     |omega
     |exact ⟨hlt,trivial,[some 0,some 1,some 2],rfl,rfl,⟨⟨rfl,rfl,rfl,.inr ⟨⟨rfl,rfl,trivial⟩,trivial⟩⟩,⟨rfl,rfl,rfl,.inr ⟨⟨rfl,⟨rfl,rfl,rfl,fun h=>h⟩,trivial⟩,trivial⟩⟩,d7 (c6 _),trivial⟩,⟨rfl,rfl,⟨rfl,rfl,rfl⟩,⟨rfl,rfl,rfl⟩,b8 (by omega),trivial⟩⟩
  ·cases hb:a7S t.ev k with
   |false=>
    rw [hb] at lfk
    rw [if_neg (fun h=>by cases h.2)]
    conv=>whnf
    repeat' (first|refine zx ?_|refine qp lfk ?_|refine zd ?_ ?_<;>intro h<;>try omega|fail)<;>conv=>whnf
    all_goals first
     |omega
     |exact ⟨hlt,trivial,[some 0,some 1,some 2],rfl,rfl,⟨⟨rfl,rfl,rfl,.inr ⟨⟨rfl,rfl,trivial⟩,trivial⟩⟩,⟨rfl,rfl,rfl,.inr ⟨⟨rfl,⟨rfl,rfl,rfl,fun h=>h⟩,trivial⟩,trivial⟩⟩,d7 (c6 _),trivial⟩,⟨rfl,rfl,⟨rfl,rfl,rfl⟩,⟨rfl,rfl,rfl⟩,b8 (by omega),trivial⟩⟩
   |true=>
    rw [hb] at lfk
    rw [if_pos ⟨hki,rfl⟩]
    conv=>whnf
    repeat' (first|refine zx ?_|refine qp lfk ?_|refine qp on ?_|refine qp i0 ?_|refine qp toC ?_|refine qp (0,1) ?_|refine o8 lA (by simp [toC];omega) ?_|refine bl0 [0,1] ?_|refine zd ?_ ?_<;>intro h<;>try omega|fail)<;>conv=>whnf
    all_goals first
     |omega
     |(refine ⟨hlt,trivial,[some 0,some 1,some 3],rfl,rfl,⟨⟨rfl,rfl,rfl,.inr ⟨⟨rfl,rfl,trivial⟩,trivial⟩⟩,⟨rfl,rfl,rfl,.inr ⟨⟨rfl,⟨rfl,rfl,?_,fun h=>h⟩,trivial⟩,trivial⟩⟩,a8 (rows:=(R++[p9 k 2 ((0:Int):Rat)]).map y4) rfl rfl rfl ?_ rfl,trivial⟩,⟨rfl,rfl,⟨rfl,rfl,rfl⟩,⟨rfl,rfl,rfl⟩,b8 (by omega),trivial⟩⟩
       ·simp [toC]
       ·exact B9 (f:=y4) (x:=p9 k 2 ((0:Int):Rat)) rfl)
 ·have hke:k=t.ev.moves.length:=by omega
  subst hke
  have e9:X2 t f.kind i t.ev.moves.length=(t9 t f.kind i).rows:=rfl
  conv=>whnf
  repeat' (first|refine zx ?_|refine zd ?_ ?_<;>intro h<;>try omega|fail)<;>conv=>whnf
  all_goals first
   |omega
   |(rw [e9];exact k9 ⟨⟨rfl,show VC _ (fun id=>E4 [] id=true) _ _ from u4 rfl rfl (by intro h;cases h) rfl rfl (by rw [lbr]),trivial⟩,rfl,trivial⟩)
theorem b7m {s:g4} {g:List (Int × Rat)} {Y:List Rat} (hr:j8 s=true) (h:a44 s g Y=true):b7y s (x8 g) (yN Y) (a38 s (yN Y)):=by
 unfold a44 a4s at h
 simp only [lbN,lbI,lbv] at h
 obtain ⟨⟨⟨h1,h2⟩,h3⟩,h4⟩:=h
 refine ⟨fun i w hw=>?_,fun l hl=>?_,rfl⟩
 ·have:=h2 i (lbB.2 (lbe.1 hw).1)
  unfold sgB at this
  rw [O9 hw] at this
  simp only [Bool.not_eq_true',Bool.or_eq_false_iff,lbP,lbK] at this
  obtain ⟨a,b⟩:=this
  exact ⟨fun hk=>by
   rcases a with a|a
   ·exact absurd hk a
   ·exact lb4.1 a,fun hk=>by
   rcases b with b|b
   ·exact absurd hk b
   ·exact lb4.1 b⟩
 ·exact h4 l (lbB.2 hl)
theorem never_holds {s:g4} {g:List (Int × Rat)} {z:List Rat} (hr:j8 s=true) (hl:s.rows.length<6000) (hg:f9 (-1) s.n g=true) (hz:o7 s z=true) (h0:p4 g z=0):o7 (b01 s g) z=true:=by
 obtain ⟨h1,h2,h3,h4⟩:=a0u.1 hz
 refine a0u.2 ⟨aO7 hr hl hg,h2,h3,fun w hw=>?_⟩
 rcases lbz.1 hw with h|h
 ·exact h4 w h
 ·have h:=List.mem_singleton.1 h
  subst h
  have e1:((0:Int):Rat)=0:=rfl
  simp only
  rw [h0,e1]
  exact ⟨fun _=>lb3,fun _=>lb3⟩
theorem b1l {f:Nat->Rat} {B N:Nat} (h:∀i,rl (f i)<=B) (h0:∀i,N<=i->f i=0):∀k,rl (f7 f k)<=N*(B+1)+1:=by
 intro k
 by_cases hk:k<=N
 ·have h1:=a9X (f:=f) (B:=B) k fun j _=>h j
  have h2:=lbU (B+1) hk
  omega
 ·obtain ⟨d,rfl⟩:∃d,k=N+d:=⟨k - N,by omega⟩
  have e:f7 f (N+d)=f7 f N:=by
   clear hk
   induction d with
   |zero=>rfl
   |succ d ih=>show f7 f (N+d)+f (N+d)=_;rw [h0 _ (by omega),ih];grind
  rw [e]
  exact a9X (f:=f) (B:=B) N fun j _=>h j
theorem b5f {s:g4} {Y:List Rat} {B C N:Nat} (hl:Y.length=s.rows.length) (hN:Y.length<=N) (hB:1<=B) (hy:∀v ∈ Y,rl v<=B) (hc:∀w ∈ s.rows,(∀ t ∈ w.terms,rl t.2<=C)∧rl w.value<=C) (hC:1<=C) (hn:N*(B+C+1)+1<=40000) (hm:N<=1000000):b4H s Y:=by
 have hyi:∀i,rl (yN Y i)<=B:=fun i=>by
  unfold yN
  by_cases h:i<Y.length
  ·rw [lbl,lbf h];exact hy _ (lbE _)
  ·rw [lbl,lbd (by omega)];have:=rl0;show rl 0<=B;omega
 have hy0:∀i,N<=i->yN Y i=0:=fun i hi=>by unfold yN;rw [lbl,lbd (by omega)];rfl
 have hrow:∀i,(∀ t ∈ (y6 s i).terms,rl t.2<=C)∧rl (y6 s i).value<=C:=fun i=>by
  by_cases h:i<s.rows.length
  ·rw [O9 (lbf h)];exact hc _ (lbE _)
  ·have e:y6 s i=⟨[],2,0⟩:=by unfold y6;rw [lbl,lbd (by omega)];rfl
   rw [e]
   exact ⟨fun (t:Int × Rat) (ht:t ∈ [])=>by simp at ht,by have:=rl0;show rl 0<=C;omega⟩
 have hcof:∀i l,rl (x8 (y6 s i).terms l)<=C:=fun i l=>by
  have key:∀k,rl (L5 (y6 s i).terms k l)<=C:=by
   intro k
   induction k with
   |zero=>have:=rl0;show rl 0<=C;omega
   |succ k ih=>
    cases hk:(y6 s i).terms[k]? with
    |none=>rw [L5,hk];exact ih
    |some t=>
     rw [J6 hk]
     simp only
     split
     ·exact (hrow i).1 t (lbm hk)
     ·exact ih
  exact key _
 refine ⟨fun v hv=>by
  have h1:=hy v hv
  by_cases h2:N=0
  ·have:Y=[]:=List.length_eq_zero_iff.1 (by omega)
   subst this;cases hv
  ·have:1*(B+C+1)<=N*(B+C+1):=lbU _ (by omega)
   omega,fun l k=>?_,fun k=>?_,hl,by omega⟩
 ·have:=b1l (f:=fun i=>yN Y i*x8 (y6 s i).terms l) (B:=B+C) (N:=N) (fun i=>by have:=a45 (yN Y i) (x8 (y6 s i).terms l);have:=hyi i;have:=hcof i l;omega) (fun i hi=>by rw [hy0 i hi];grind) k
  have e:rl (a6f s (yN Y) l k)<=N*(B+C+1)+1:=this
  omega
 ·have:=b1l (f:=fun i=>yN Y i*(y6 s i).value) (B:=B+C) (N:=N) (fun i=>by have:=a45 (yN Y i) (y6 s i).value;have:=hyi i;have:=(hrow i).2;omega) (fun i hi=>by rw [hy0 i hi];grind) k
  have e:rl (a6g s (yN Y) k)<=N*(B+C+1)+1:=this
  omega
theorem b9Y {x:Rat}:decide (x=0)=decide (sgR x=0):=by
 rw [decide_eq_decide]
 have p1:=al8 (x:=x)
 have p2:=b6d (x:=x)
 constructor
 ·intro h;subst h;have q1:¬(0:Rat)<0:=by decide
  have:=mt p1.1 q1;have:=mt p2.1 q1;omega
 ·intro h
  have q1:¬0<x:=fun h'=>by have:=p1.2 h';omega
  have q2:¬x<0:=fun h'=>by have:=p2.2 h';omega
  grind
structure b2Y (s:g4) (Y:List Rat):Prop where
 y:∀v ∈ Y,rl v<=40000
 l:Y.length<=1000000
 m:Y.length=s.rows.length->b4H s Y
theorem b6y {s:g4} {g:List (Int × Rat)} {Y:List Rat}:b0k s g (Y.map fz)=(decide (Y.length=s.rows.length) && (a44 s g Y && decide (a38 s (yN Y)=0))):=by
 unfold b0k
 rw [b8Y,a8m,lbr,Bool.and_true]
theorem au9 {s:g4} {Y:List Rat} {g:List (Int × Rat)} (h:a44 s g Y=true):Y.length=s.rows.length:=by
 unfold a44 a4s at h
 simp only [lbN,lbI] at h
 omega
theorem aa6 {s:g4} {g:List (Int × Rat)} {Y:List Rat}:b0k s g (Y.map fz)=(a44 s g Y && decide (a38 s (yN Y)=0)):=by
 rw [b6y]
 cases h:a44 s g Y with
 |false=>simp
 |true=>rw [lbH (au9 h)];rfl
theorem aR9 (s:g4) (h:a1h s) (v:Nat) (Y:List Rat) (hy:b2Y s Y):
 a9 Tryz.prog 145 [a3c s,a7 .i64 v,t4 (Y.map fz)] [] (e8 (b0k s (an8 v) (Y.map fz))) []:=by
 have h9:=h.n
 have on:=b5h v (-1) (by decide) (by decide)
 have lo:=b72 s (am6 h) h.r (an8 v) (by simp [an8]) (fun t ht=>by simp [an8] at ht;subst ht;have h1:=bg9;show rl ((-1:Int):Rat)<=200;omega) Y hy.y hy.l hy.m
 rw [aa6]
 unfold am9 at lo
 cases hb:a44 s (an8 v) Y with
 |false=>
  rw [hb,if_neg (by decide)] at lo
  rw [Bool.false_and]
  (refine ac Tryz.func145 ?_;(conv=>whnf);repeat ((first|refine b0x ?_|refine zy ?_);conv=>whnf))
  repeat' (first|refine zx ?_|refine qp on ?_|refine qp lo ?_|refine qp 7 ?_|refine bl0 [7] ?_|refine zd ?_ ?_<;>intro h<;>try omega|fail)<;>conv=>whnf
  all_goals first
   |omega
   |exact c7 rfl
 |true=>
  rw [hb,if_pos rfl] at lo
  rw [Bool.true_and]
  have hx:=(hy.m (au9 hb)).v s.rows.length
  have hx2:rl (a38 s (yN Y))<=50000:=hx
  generalize a38 s (yN Y)=x at lo hx2
  have sg:=a5p x (by omega)
  rw [b9Y]
  generalize sgR x=U at sg
  (refine ac Tryz.func145 ?_;(conv=>whnf);repeat ((first|refine b0x ?_|refine zy ?_);conv=>whnf))
  repeat' (first|refine zx ?_|refine qp on ?_|refine qp lo ?_|refine qp sg ?_|refine qp 7 ?_|refine bl0 [7] ?_|refine zd ?_ ?_<;>intro h<;>try omega|fail)<;>conv=>whnf
  all_goals first
   |omega
   |(refine c7 ?_;symm;simp;omega)
theorem b5I (t:d9) (hs:t.Sized) (h:QT t) (find:Int) (f:L0) (f0:0<=find) (hf:t.finds[find.toNat]? =some f) (g:Nat) (hg:g<t.ev.moves.length) (i:Nat) (hi:i ∈ i9 t.ev) (Z:List Rat) (hp:PtB (t9 t f.kind i) Z)
 (hH:o7 (t9 t f.kind i) Z=true) (pa:0<Z.getD g 0) (pb:0<Z.getD f.mv.toNat 0):
 a9 Tryz.prog 75 [trS t,a7 .i64 find,a7 .i64 g,a7 .i64 i,t4 (Z.map fz)] [] (e8 true) []:=by
 have hfit:=a3M h f0 hf
 have hm:=h.m
 obtain ⟨q1,q2,q3,q4,q5⟩:=o4 h.h
 have hfg:=F9 q4 f (lbm hf)
 have ha:a8t t find i=true:=by unfold a8t;rw [hfit,lbH (by exact ⟨by omega,by rw [lbY];exact hi⟩)];rfl
 have al:=aN7 t hs find f hf i ha (by omega)
 have ss:=a10 (kind:=f.kind) i h
 have ho:=b8e (t9 t f.kind i) (am6 ss) ss.r Z hp
 rw [hH] at ho
 have eN:(t9 t f.kind i).n=((t.ev.moves.length:Nat):Int):=rfl
 have zl:(Z.length:Int)=t.ev.moves.length:=by have:=(S5 hH).2;exact this
 obtain ⟨a,ha⟩:∃a,Z[g]? =some a:=⟨_,lbf (by omega)⟩
 obtain ⟨b,hb⟩:∃b,Z[f.mv.toNat]? =some b:=⟨_,lbf (by omega)⟩
 have ga:(Z.map fz)[g]? =some (fz a):=by rw [lba,ha];rfl
 have gb:(Z.map fz)[f.mv.toNat]? =some (fz b):=by rw [lba,hb];rfl
 have sa:=a5p a (by have:=hp.v a (lbm ha);omega)
 have sb:=a5p b (by have:=hp.v b (lbm hb);omega)
 have ea:Z.getD g 0=a:=by rw [lbl,ha];rfl
 have eb:Z.getD f.mv.toNat 0=b:=by rw [lbl,hb];rfl
 rw [ea] at pa
 rw [eb] at pb
 have ua:=al8.2 pa
 have ub:=al8.2 pb
 generalize sgR a=U at sa ua
 generalize sgR b=V at sb ub
 have hg1:=hfg.1
 (refine ac Tryz.func75 ?_;(conv=>whnf);repeat ((first|refine b0x ?_|refine zy ?_);conv=>whnf))
 repeat' (first|refine zx ?_|refine qp al ?_|refine qp ho ?_|refine qp sa ?_|refine qp sb ?_|refine qp 7 ?_|refine b9 ga ?_|refine v6 f0 hf ?_|refine v6 hg1 gb ?_|refine bl0 [7] ?_|refine zd ?_ ?_<;>intro h<;>try omega|fail)<;>conv=>whnf
 all_goals first
  |omega
  |exact c7 rfl
theorem a8Z {e:Ev}:∀{k n:Nat},k<=n->∃l,t7 e n=t7 e k++l:=by
 intro k n h
 induction n with
 |zero=>have:k=0:=by omega
        subst this;exact ⟨[],by simp⟩
 |succ n ih=>
  by_cases hk:k=n+1
  ·subst hk;exact ⟨[],by simp⟩
  ·obtain ⟨l,hl⟩:=ih (by omega)
   conv=>enter [1,l,1];unfold t7
   split
   ·split
    ·exact ⟨l++[n],by rw [hl,lbD]⟩
    ·exact ⟨l,hl⟩
   ·exact ⟨l,hl⟩
theorem aN6 {e:Ev} {k:Nat} (h:k ∈ i9 e):(i9 e)[(t7 e k).length]? =some k:=by
 obtain ⟨m,hm,h0⟩:=I4.1 h
 have hk:=(lbe.1 hm).1
 obtain ⟨l,hl⟩:=a8Z (e:=e) (show k+1<=e.moves.length by omega)
 have e1:t7 e (k+1)=t7 e k++[k]:=by conv=>lhs;unfold t7;rw [hm];simp only [if_pos h0]
 show (t7 e e.moves.length)[_]? =_
 rw [hl,e1,lbD,lbc (lbR _)]
 simp
theorem az3 {e:Ev} {k:Nat} (hk:k<e.moves.length):(t7 e (k+1)).length=(t7 e k).length+if k ∈ i9 e then 1 else 0:=by
 obtain ⟨m,hm⟩:∃m,e.moves[k]? =some m:=⟨_,lbf hk⟩
 have h1:k ∈ i9 e↔j9 e m.src=0:=by
  rw [I4]
  exact ⟨fun ⟨x,hx,h⟩=>by rw [hm] at hx;injection hx with hx;rw [hx];exact h,fun h=>⟨m,hm,h⟩⟩
 conv=>lhs;unfold t7
 rw [hm]
 simp only
 by_cases h:j9 e m.src=0
 ·rw [if_pos h,if_pos (h1.2 h)];simp
 ·rw [if_neg h,if_neg (fun h'=>h (h1.1 h'))];simp
theorem b2N (t:d9) (hs:t.Sized) (hQ:QT t) (find:Int) (f:L0) (f0:0<=find) (hf:t.finds[find.toNat]? =some f) (g:Nat) (hg:g<t.ev.moves.length) (pf:List (List Rat))
 (hp:∀(k i:Nat) (y:List Rat),(i9 t.ev)[k]? =some i->pf[k]? =some y->b2Y (t9 t f.kind i) y) (hc:ab0 t f.kind f.mv.toNat g (pf.map fun y=>y.map fz)=true):
 a9 Tryz.prog 76 [trS t,a7 .i64 find,a7 .i64 g,aT7 (pf.map fun y=>y.map fz)] [] (e8 true) []:=by
 have fi:=b11 t hs find
 rw [a3M hQ f0 hf] at fi
 have hm:=hQ.m
 obtain ⟨q1,q2,q3,q4,q5⟩:=o4 hQ.h
 have hfg:=F9 q4 f (lbm hf)
 obtain ⟨mv,hmv⟩:∃mv:Nat,f.mv=mv:=⟨f.mv.toNat,by omega⟩
 have hmv2:f.mv.toNat=mv:=by omega
 rw [hmv2] at hc
 unfold ab0 at hc
 rw [lbN,lbI,lbr,lbv] at hc
 obtain ⟨hl,hc⟩:=hc
 obtain ⟨P,hP⟩:∃P,P=pf.map fun y=>y.map fz:=⟨_,rfl⟩
 rw [← hP] at hc ⊢
 have m1:(t.ev.moves.map n9.row).length=t.ev.moves.length:=by simp
 have m2:(P.map a1F).length=pf.length:=by rw [hP];simp
 have ll:(i9 t.ev).length<=t.ev.moves.length:=A7 _
 (refine ac Tryz.func76 ?_;(conv=>whnf);repeat ((first|refine b0x ?_|refine zy ?_);conv=>whnf))
 repeat' (first|refine zx ?_|refine qp fi ?_|refine zd ?_ ?_<;>intro h<;>try omega|fail)<;>conv=>whnf
 all_goals try omega
 refine d8 c8 (fun k=>([J,a7 .i64 find,a7 .i64 g,aT7 P,S.c (C.t (T.ptr (trT t))),J,J,J,J,a7 .i64 (t7 t.ev k).length,a7 .i64 k]++Jn 71,[])) t.ev.moves.length (fun _=>True) [] trivial
  ⟨rfl,rfl,trivial,⟨rfl,rfl,rfl,rfl,rfl,rfl,trivial⟩⟩ ?_
 intro k hk _
 obtain ⟨lp,hlp⟩:=a8Z (e:=t.ev) hk
 have lle:(t7 t.ev k).length<=(i9 t.ev).length:=by show _<=(t7 t.ev t.ev.moves.length).length;rw [hlp];simp
 by_cases hlt:k<t.ev.moves.length
 ·have lf:=aA7 t.ev q1 k hlt
  have nx:=az3 hlt
  by_cases hkl:k ∈ i9 t.ev
  ·have e1:a7S t.ev k=true:=lbH hkl
   rw [e1] at lf
   rw [if_pos hkl] at nx
   have gi:=aN6 hkl
   have gl:=(lbe.1 gi).1
   obtain ⟨Y,hY⟩:∃Y,pf[(t7 t.ev k).length]? =some Y:=⟨_,lbf (by omega)⟩
   have hy:P[(t7 t.ev k).length]? =some (Y.map fz):=by rw [hP,lba,hY];rfl
   have hcl:=hc _ (lbB.2 gl)
   have hid:(i9 t.ev).getD (t7 t.ev k).length 0=k:=by rw [lbl,gi];rfl
   have hyd:P.getD (t7 t.ev k).length []=Y.map fz:=by rw [lbl,hy];rfl
   rw [hid,hyd] at hcl
   have ha:a8t t find k=true:=by unfold a8t;rw [a3M hQ f0 hf,lbH (by exact ⟨by omega,by rw [lbY];exact hkl⟩)];rfl
   have al:=aN7 t hs find f hf k ha (by omega)
   have ss:=a10 (kind:=f.kind) k hQ
   have my:=hp _ k Y gi hY
   have n1:=aR9 (t9 t f.kind k) ss mv Y my
   have n2:=aR9 (t9 t f.kind k) ss g Y my
   rw [← hmv] at n1
   unfold b9b at hcl
   rw [nx]
   generalize t7 t.ev k=L at *
   cases h1:b0k (t9 t f.kind k) (an8 mv) (Y.map fz) with
   |true=>
    rw [h1] at n1
    conv=>whnf
    repeat' (first|refine zx ?_|refine qp lf ?_|refine qp al ?_|refine qp n1 ?_|refine qp n2 ?_|refine qp 7 ?_|refine v6 f0 hf ?_|refine b9 hy ?_|refine bl0 [7] ?_|refine zd ?_ ?_<;>intro h<;>try omega|fail)<;>conv=>whnf
    all_goals first
     |omega
     |exact ⟨hlt,trivial,[],rfl,rfl,trivial,⟨rfl,rfl,rfl,rfl,b8 (by omega),b8 (by omega),trivial⟩⟩
   |false=>
    rw [h1,Bool.false_or] at hcl
    rw [h1] at n1
    rw [hcl] at n2
    conv=>whnf
    repeat' (first|refine zx ?_|refine qp lf ?_|refine qp al ?_|refine qp n1 ?_|refine qp n2 ?_|refine qp 7 ?_|refine v6 f0 hf ?_|refine b9 hy ?_|refine bl0 [7] ?_|refine zd ?_ ?_<;>intro h<;>try omega|fail)<;>conv=>whnf
    all_goals first
     |omega
     |exact ⟨hlt,trivial,[],rfl,rfl,trivial,⟨rfl,rfl,rfl,rfl,b8 (by omega),b8 (by omega),trivial⟩⟩
  ·have e1:a7S t.ev k=false:=lbJ hkl
   rw [e1] at lf
   rw [if_neg hkl,Nat.add_zero] at nx
   rw [nx]
   generalize t7 t.ev k=L at *
   conv=>whnf
   repeat' (first|refine zx ?_|refine qp lf ?_|refine zd ?_ ?_<;>intro h<;>try omega|fail)<;>conv=>whnf
   all_goals first
    |omega
    |exact ⟨hlt,trivial,[],rfl,rfl,trivial,⟨rfl,rfl,rfl,rfl,rfl,b8 (by omega),trivial⟩⟩
 ·have hke:k=t.ev.moves.length:=by omega
  subst hke
  have e1:(t7 t.ev t.ev.moves.length).length=pf.length:=hl.symm
  rw [e1]
  conv=>whnf
  repeat' (first|refine zx ?_|refine zd ?_ ?_<;>intro h<;>try omega|fail)<;>conv=>whnf
  all_goals first
   |omega
   |exact c7 rfl
theorem b0X (v:Nat):R8 (B4 v)=an8 v:=by
 unfold R8 a0g B4 an8
 have:((1:Int):Rat)*((-1:Int):Rat)=((-1:Int):Rat):=by decide +kernel
 simp only [List.map_cons,List.map_nil,this]
theorem b2k {s:g4} {g:List (Int × Rat)} {Y:List Rat} (hr:j8 s=true) (hg:f9 (-1) ((s.n.toNat:Nat):Int) g=true) (h:a44 s (R8 g) Y=true) (h0:a38 s (yN Y)=0) {z:List Rat} (hz:o7 s z=true):p4 g z<=0:=by
 have hb:=b2x (g:=R8 g) (b7m hr h) hz
 have e:f7 (fun l=>x8 (R8 g) l*z.getD l 0) s.n.toNat=p4 (R8 g) z:=(O5 (Y5 hg) z).symm
 rw [e,a32 (s:=s) (g:=g),h0] at hb
 grind
theorem au3 {s:g4} {g:List (Int × Rat)} (h:as8 s g) (hp:a27 g (S2 s g)=false):a44 s (R8 g) (Z4 s g)=true∧a38 s (yN (Z4 s g))=0:=by
 unfold a27 at hp
 have hp:=lbM hp
 rcases aC2 (g:=R8 g) h.r h.z with ho|⟨c,ho⟩
 ·unfold S2 at hp
  unfold Z4
  rw [ho] at hp ⊢
  simp only at hp ⊢
  obtain ⟨p1,p2⟩:=a3o h.r h.og ho
  obtain ⟨b1,b2⟩:=b6V (Y:=zOf s.rows.length (R6 s (y3 s (R8 g)))) h.r h.og (b5T h.r h.og ho) U4 (fun i hi=>b6k hi)
  refine ⟨b1,?_⟩
  rw [b2,a32 (s:=s) (g:=g)]
  have:=h.p _ p1
  grind
 ·exfalso
  obtain ⟨r1,r2⟩:=aB5 h.r h.og ho
  unfold S2 at hp
  rw [ho] at hp
  simp only at hp
  have h0:=(a3o h.r rfl h.z).1
  have h3:=S5 h0
  have hn:=a0V h.r
  rw [a3s (n:=s.n.toNat) (by omega) r1.len h.t] at hp
  rw [a32 (s:=s) (g:=g)] at r2
  have:=h.p _ h0
  grind
theorem a56 {t:d9} {kind:Int} {i v:Nat} (h:QT t) (k0:0<=kind) (k1:kind<8) (hv:v<t.ev.moves.length):(isA t kind i).getD v false=true↔∃z,a9u t kind i z∧0<z.getD v 0:=by
 rw [aC0 h (by omega) k0 k1 (by omega)]
 unfold aL4
 simp only [if_pos hv]
theorem b3b {t:d9} {kind:Int} {g:Nat} {l:List Nat}:a6r t kind g l=none↔∀i ∈ l,(isA t kind i).getD g false=false:=by
 unfold a6r
 rw [List.find?_eq_none]
 exact ⟨fun h i hi=>by simpa using h i hi,fun h i hi=>by simpa using h i hi⟩
theorem b0o {t:d9} {kind:Int} {mv g:Nat}:a6r t kind g (J1 t kind mv)=none↔L6 t kind mv g=false:=by
 rw [b3b]
 unfold L6
 rw [List.any_eq_false]
 exact ⟨fun h i hi=>by rw [h i hi];decide,fun h i hi=>by simpa using h i hi⟩
theorem a85 {t:d9} {kind:Int} {i v:Nat} (h:QT t) (k0:0<=kind) (k1:kind<8) (hv:v<t.ev.moves.length):as8 (t9 t kind i) (B4 v):=by
 have hG:=H7 (kind:=kind) i h (by omega) k0 k1
 have hm:B4 v ∈ J0 t.ev:=by
  unfold J0 G7
  exact List.mem_append_left _ (lbx.2 ⟨v,lbB.2 hv,rfl⟩)
 exact ⟨hG.p.r,hG.p.z,hG.p.g _ hm,hG.p.p _ hm⟩
theorem al1 {t:d9} {kind:Int} {i v:Nat} (h:QT t) (k0:0<=kind) (k1:kind<8) (hv:v<t.ev.moves.length):a27 (B4 v) (S2 (t9 t kind i) (B4 v))=(isA t kind i).getD v false:=by
 have hG:=a85 (i:=i) h k0 k1 hv
 obtain ⟨m1,m2⟩:=aa9 hG
 rw [Bool.eq_iff_iff,a56 h k0 k1 hv]
 unfold a27
 rw [lbI]
 constructor
 ·intro hp;exact ⟨_,(Z3 h k0 k1).1 m1,by rw [← a5S];exact hp⟩
 ·rintro ⟨z,hz,hp⟩;exact m2 ⟨z,(Z3 h k0 k1).2 hz,by rw [a5S];exact hp⟩
theorem b0H {t:d9} {kind:Int} {mv g:Nat} (h:QT t) (k0:0<=kind) (k1:kind<8) (hmv:mv<t.ev.moves.length) (hg:g<t.ev.moves.length) (hw:L6 t kind mv g=false):ab0 t kind mv g (a2T t kind mv g (i9 t.ev))=true:=by
 unfold ab0
 rw [aN5,lbH rfl,Bool.true_and,lbv]
 intro k hk
 have hk:=lbB.1 hk
 obtain ⟨i,hi⟩:∃i,(i9 t.ev)[k]? =some i:=⟨_,lbf hk⟩
 have hid:(i9 t.ev).getD k 0=i:=by rw [lbl,hi];rfl
 have hyd:(a2T t kind mv g (i9 t.ev)).getD k []=(aD4 t kind mv g i).map fz:=by rw [lbl];unfold a2T;rw [lba,hi];rfl
 rw [hid,hyd]
 unfold b9b aD4
 rw [al1 h k0 k1 hmv,aa6,aa6,←b0X,←b0X]
 cases hb:(isA t kind i).getD mv false with
 |true=>
  have hi2:i ∈ J1 t kind mv:=lby.2 ⟨lbm hi,hb⟩
  unfold L6 at hw
  have hr:(isA t kind i).getD g false=false:=by simpa using List.any_eq_false.1 hw i hi2
  obtain ⟨a,b⟩:=au3 (a85 (i:=i) h k0 k1 hg) (by rw [al1 h k0 k1 hg];exact hr)
  rw [if_pos rfl,a,b]
  simp
 |false=>
  obtain ⟨a,b⟩:=au3 (a85 (i:=i) h k0 k1 hmv) (by rw [al1 h k0 k1 hmv];exact hb)
  rw [if_neg (by decide),a,b]
  rfl
theorem aX3 {s:g4} (h:a1h s):∀w ∈ s.rows,af6 11 w:=fun w hw=>by
 obtain ⟨a,b⟩:=h.i w hw
 exact ⟨a,by have:=a7m b;omega⟩
theorem b3j {s:g4} {g:List (Int × Rat)} (h:a1h s) (h8:s.n.toNat<=8) (hw:D2 g):b2Y s (Z4 s g):=by
 have hl:=h.l
 unfold Z4
 split
 ·have hr:∀w ∈ s.rows,(∀ t ∈ w.terms,rl t.2<=11)∧rl w.value<=11:=fun w hw=>⟨fun t ht=>by have:=P9 (h.i w hw).1 t ht;omega,by have:=a7m (h.i w hw).2;omega⟩
  exact ⟨fun v hv=>absurd hv (List.not_mem_nil),Nat.zero_le _,fun e=>b5f (B:=1) (C:=11) (N:=0) e (lbR _) (by decide) (fun v hv=>absurd hv (List.not_mem_nil)) hr (by decide) (by decide) (by decide)⟩
 ·exact ⟨b5C (aX3 h) (a0z hw) h8,by rw [U4];omega,fun _=>b2K (aX3 h) (a0z hw) h8 (by omega)⟩
theorem aP9 {t:d9} {kind:Int} {i:Nat} (j:Nat) (h:QT t):b2Y (t9 t kind i) (Z4 (t9 t kind i) (B4 j)):=
 b3j (a10 i h) (by show ((t.ev.moves.length:Nat):Int).toNat<=8;have:=h.m;omega) (Y6 _)
theorem b2r {t:d9} {kind:Int} {a b:Nat} (h:QT t) (k i:Nat) (y:List Rat) (hi:(i9 t.ev)[k]? =some i) (hy:((i9 t.ev).map fun i=>aD4 t kind a b i)[k]? =some y):b2Y (t9 t kind i) y:=by
 rw [lba,hi] at hy
 injection hy with hy
 subst hy
 show b2Y _ (aD4 t kind a b i)
 unfold aD4
 split
 ·exact aP9 b h
 ·exact aP9 a h
theorem b2l {s:g4} {x:List Rat} {B:Nat} (h:a1h s) (hB:B<=2000) (hl:x.length<=1000000) (hx:∀v ∈ x,rl v<=B):PtB s x:=by
 have h9:=h.n
 have:=lbT (show s.n.toNat<=9 by omega) (show B+4<=2004 by omega)
 exact ba3 h.r (aX3 h) (B:=B) (by omega) (by omega) hl hx
theorem b6J {t:d9} {kind:Int} {i:Nat} (h:QT t) (h0:0<t.ev.moves.length) (k0:0<=kind) (k1:kind<8):∀v ∈ a6u t kind i,rl v<=1100:=by
 have hG:=H7 (kind:=kind) i h h0 k0 k1
 intro v hv
 unfold a6u ah3 at hv
 obtain ⟨u,hu,rfl⟩:=lbx.1 hv
 have hk:a0X (t9 t kind i) (J0 t.ev)<=(J0 t.ev).length:=a58 (a5Q _ _).2
 have hl:=hG.l
 have h1:=a9Q hG _ u hu
 generalize a0X (t9 t kind i) (J0 t.ev)=K at *
 have h2:=lbU 32 (show K+1<=31 by omega)
 have h3:=a45 u (Rat.divInt 1 ((K+1:Nat):Int))
 have h4:=Q4 (p:=1) (q:=((K+1:Nat):Int)) (by omega)
 have h5:=s9 (x:=1) (by decide) (by decide)
 have h6:=s9 (x:=((K+1:Nat):Int)) (by omega) (by omega)
 omega
theorem b5u {t:d9} {kind:Int} {i:Nat} (h:QT t) (h0:0<t.ev.moves.length) (k0:0<=kind) (k1:kind<8):PtB (t9 t kind i) (a6u t kind i):=by
 have hA:=(au6 (i:=i) h h0 k0 k1).1
 have hl:=hA.p.len
 have hm:=h.m
 have e:(v8 t).ev.moves.length=t.ev.moves.length:=rfl
 exact b2l (B:=1100) (a10 i h) (by decide) (by omega) (b6J h h0 k0 k1)
def a9y (k:Nat):List G5:=[⟨0,0,0⟩,⟨0,1,0⟩]++([1,1,2,5].take k).map fun x=>⟨x,-1,-1⟩
def exQ (cl:List Q3):d9:=⟨⟨1,2,0,a9y 4,[⟨0,0,2,-1,0,false⟩,⟨0,1,3,-1,0,false⟩,⟨0,2,4,-1,0,true⟩,⟨0,4,5,-1,0,false⟩,⟨0,3,4,-1,0,true⟩],[],[],[]⟩,[⟨3,0,1⟩,⟨4,0,1⟩],cl⟩
abbrev bb8 (l:List G5):Blk:={ mode:=.live,elem:=77,size:=3,rows:=toC (l.map G5.row),box:=false }
abbrev bk7 (id len:Nat):Blk:={ mode:=.live,elem:=28,size:=8,rows:=[[.t (ti 1),.t (ti 2),.t (ti 0),.own id 0 len true,.t (.sl 0 .nil []),.t (.sl 0 .nil []),.t (.sl 0 .nil []),.t (.sl 0 .nil [])]],box:=true }
abbrev bk3:Blk:={ mode:=.live,elem:=32,size:=10,rows:=[[.t (ti 0),.t (ti 0),.t (ti 0),.t (.sl 0 .nil []),.t (.sl 0 .nil []),.t (.sl 0 .nil []),.t (.sl 0 .nil []),.t (.sl 0 .nil []),.t (.sl 0 .nil []),.t (.sl 0 .nil [])]],box:=true }
theorem b4C {k:Nat} (h:k<=4):(a9y k).length=2+k:=by simp [a9y];omega
theorem a8Y (cl:List Q3):a9 Tryz.prog 74 [.c (.t (a2t cl))] [] (trS (exQ cl)) []:=by
 refine ac Tryz.func74 ?_
 conv=>whnf
 refine a2n.own ?_
 conv=>whnf
 repeat' (first|refine zx ?_|refine zd ?_ ?_<;>intro h<;>try omega|fail)<;>conv=>whnf
 refine d8 c8 (fun k=>([S.c (C.t (a2t cl)),J,S.c (C.ptr 0 0 0),a7 .i64 (-1),S.c (C.ptr 1 0 0),d6 [1,1,2,5],a7 .i64 k]++Jn 42,[bk3,bk7 2 (a9y k).length,bb8 (a9y k)])) 4 (fun _=>True) [some 0,some 1,some 2] trivial
  ⟨rfl,rfl,⟨d7 (c6 [[ti 0,ti 0,ti 0,.sl 0 .nil [],.sl 0 .nil [],.sl 0 .nil [],.sl 0 .nil [],.sl 0 .nil [],.sl 0 .nil [],.sl 0 .nil []]]),⟨rfl,rfl,rfl,.inr ⟨⟨rfl,rfl,rfl,⟨rfl,rfl,rfl,fun h=>h⟩,rfl,rfl,rfl,rfl,trivial⟩,trivial⟩⟩,a8 (rows:=(a9y 0).map G5.row) rfl rfl rfl rfl rfl,trivial⟩,⟨g6 rfl,⟨rfl,rfl,rfl⟩,rfl,⟨rfl,rfl,rfl⟩,rfl,rfl,trivial⟩⟩ ?_
 have m1:(([1,1,2,5]:List Int).map c9).length=4:=rfl
 intro k hk _
 by_cases hlt:k<4
 ·obtain ⟨x,hx,hb⟩:∃x:Int,([1,1,2,5]:List Int)[k]? =some x∧a9y (k+1)=a9y k++[⟨x,-1,-1⟩]:=by
   match k,hlt with
   |0,_=>exact ⟨1,rfl,rfl⟩
   |1,_=>exact ⟨1,rfl,rfl⟩
   |2,_=>exact ⟨2,rfl,rfl⟩
   |3,_=>exact ⟨5,rfl,rfl⟩
  have el:=b4C hk
  rw [hb]
  generalize a9y k=L at *
  have lA:L.length<=(bb8 L).rows.length:=by show _<=(toC _).length;simp [toC]
  conv=>whnf
  repeat' (first|refine zx ?_|refine qp toC ?_|refine qp (0,1) ?_|refine b9 hx ?_|refine o8 lA (by simp [toC];omega) ?_|refine bl0 [0,1] ?_|refine zd ?_ ?_<;>intro h<;>try omega|fail)<;>conv=>whnf
  all_goals first
   |omega
   |(refine ⟨hlt,trivial,[some 0,some 1,some 3],rfl,rfl,⟨d7 (c6 [[ti 0,ti 0,ti 0,.sl 0 .nil [],.sl 0 .nil [],.sl 0 .nil [],.sl 0 .nil [],.sl 0 .nil [],.sl 0 .nil [],.sl 0 .nil []]]),⟨rfl,rfl,rfl,.inr ⟨⟨rfl,rfl,rfl,⟨rfl,rfl,?_,fun h=>h⟩,rfl,rfl,rfl,rfl,trivial⟩,trivial⟩⟩,a8 (rows:=(L++[(⟨x,-1,-1⟩:G5)]).map G5.row) rfl rfl rfl ?_ rfl,trivial⟩,⟨rfl,⟨rfl,rfl,rfl⟩,rfl,⟨rfl,rfl,rfl⟩,rfl,b8 (by omega),trivial⟩⟩
     ·simp [toC]
     ·exact B9 (f:=G5.row) (x:=(⟨x,-1,-1⟩:G5)) rfl)
 ·have hke:k=4:=by omega
  subst hke
  conv=>whnf
  repeat' (first|refine zz ?_|refine a2n.weak ?_|refine zd ?_ ?_<;>intro h<;>try omega|refine zy ?_|fail)<;>conv=>whnf
  all_goals first
   |omega
   |exact k9 ⟨rfl,rfl,rfl,(show VC _ (fun id=>E4 [] id=true) (C.own 2 0 _ true) _ from u4 (k:=bb8 (a9y 4)) rfl rfl (fun h=>h) rfl rfl rfl),rfl,rfl,rfl,rfl,rfl,rfl,trivial⟩
def b8I (s:g4) (gL:List (List (Int × Rat))) (w:List Rat) (Ys:List (List Rat)) (out:List Bool):Bool:=
 decide (out.length=gL.length) && o7 s w && (List.range gL.length).all fun g=>if out.getD g false=true then decide (0<p4 (gL.getD g []) w) else a44 s (R8 (gL.getD g [])) (Ys.getD g []) && decide (a38 s (yN (Ys.getD g []))=0)
theorem a9O {s:g4} {gL:List (List (Int × Rat))} {w:List Rat} {Ys:List (List Rat)} {out:List Bool} (h:a20 s gL) (hc:b8I s gL w Ys out=true):isF s gL=out:=by
 unfold b8I at hc
 simp only [lbN,lbI,lbv] at hc
 obtain ⟨⟨h1,h2⟩,h3⟩:=hc
 have hl:(isF s gL).length=gL.length:=P5 _ _ _
 refine a66 (by omega) fun i hi=>?_
 have hi2:i<gL.length:=by omega
 have h4:=h3 i (lbB.2 hi2)
 have hiff:=b5H h hi2
 cases ho:out.getD i false with
 |true=>
  rw [ho,if_pos rfl,lbI] at h4
  exact hiff.2 ⟨w,h2,h4⟩
 |false=>
  rw [ho,if_neg (by decide),lbN,lbI] at h4
  cases hb:(isF s gL).getD i false with
  |false=>rfl
  |true=>
   obtain ⟨z,hz,hp⟩:=hiff.1 hb
   have:=b2k h.r (h.g _ (Q7 hi2)) h4.1 h4.2 hz
   grind
def q0:List Rat:=[]
def qe (l:List Int):List Rat:=l.map fun x=>((x:Int):Rat)
theorem b0v:v3 (exQ [])=0:=by decide +kernel
theorem aX6:v3 (exQ [⟨2,0⟩])=0:=by decide +kernel
theorem a5a:QT (exQ []):=⟨b0v,by decide,by decide⟩
theorem b9D:QT (exQ [⟨2,0⟩]):=⟨aX6,by decide,by decide⟩
theorem J5 (cl:List Q3) (h:cl.length<=1000000):(exQ cl).Sized:=⟨⟨by simp [exQ,a9y],by simp [exQ,a9y],by simp [exQ],by simp [exQ],by simp [exQ]⟩,by simp [exQ],by simpa [exQ] using h⟩
theorem b66:isA (exQ []) 0 0=[true,false,true,true,false,false,false,false,false,true,true]:=
 a9O (H7 0 a5a (by decide) (by decide) (by decide)).p (w:=qe [2,0,2,1,0]) (Ys:=[[],qe [0,0,0,-1],[],[],qe [0,0,1,-1],qe [0,0,0,0],qe [0,0,0,0],qe [-1,0,0,0],qe [0,0,-1,0],[],[]]) (by decide +kernel)
theorem bf0:isA (exQ []) 0 1=[false,true,false,false,true,false,false,false,false,true,false]:=
 a9O (H7 1 a5a (by decide) (by decide) (by decide)).p (w:=qe [0,2,0,0,2]) (Ys:=[qe [0,0,0,-1],[],qe [1,0,0,-1],qe [1,1,0,-1],[],qe [0,0,0,0],qe [0,0,0,0],qe [-1,0,0,0],qe [0,0,-1,0],[],qe [1,1,0,-1]]) (by decide +kernel)
theorem bk9:isA (exQ [⟨2,0⟩]) 0 0=[false,false,false,false,false,false,false,false,false,false,false]:=
 a9O (H7 0 b9D (by decide) (by decide) (by decide)).p (w:=qe [0,0,0,0,0]) (Ys:=[qe [-1,-1,0,0,0],qe [0,0,0,0,-1],qe [0,-1,0,0,0],qe [0,-1,1,0,0],qe [0,0,0,1,-1],qe [0,0,0,0,0],qe [0,0,0,0,0],qe [-1,0,0,0,0],qe [0,0,0,-1,0],qe [0,-1,0,1,-1],qe [0,-1,1,0,0]]) (by decide +kernel)
theorem bk8:isA (exQ [⟨2,0⟩]) 0 1=[false,true,false,false,true,false,false,false,false,true,false]:=
 a9O (H7 1 b9D (by decide) (by decide) (by decide)).p (w:=qe [0,2,0,0,2]) (Ys:=[qe [0,0,0,0,-1],[],qe [0,-1,0,0,0],qe [0,-1,1,0,0],[],qe [0,0,0,0,0],qe [0,0,0,0,0],qe [-1,0,0,0,0],qe [0,0,0,-1,0],[],qe [0,-1,1,0,0]]) (by decide +kernel)
theorem b5d:i9 (exQ []).ev=[0,1]:=by decide +kernel
theorem bj1:i9 (exQ [⟨2,0⟩]).ev=[0,1]:=by decide +kernel
theorem bi6 (mv:Nat):J1 (exQ []) 0 mv=[0,1].filter fun i=>((if i=0 then [true,false,true,true,false,false,false,false,false,true,true] else [false,true,false,false,true,false,false,false,false,true,false]):List Bool).getD mv false:=by
 unfold J1
 rw [b5d]
 refine List.filter_congr fun i hi=>?_
 have hi:i=0∨i=1:=by simpa using hi
 rcases hi with rfl|rfl
 ·rw [b66];rfl
 ·rw [bf0];rfl
theorem b5M:J1 (exQ []) 0 3=[0]:=by rw [bi6];decide +kernel
theorem b8J:J1 (exQ []) 0 4=[1]:=by rw [bi6];decide +kernel
theorem bh1:J1 (exQ [⟨2,0⟩]) 0 3=[]:=by
 unfold J1
 rw [bj1]
 simp [bk9,bk8]
theorem aj1 (g:Nat):L6 (exQ []) 0 3 g=([true,false,true,true,false,false,false,false,false,true,true]:List Bool).getD g false:=by
 unfold L6
 rw [b5M]
 show ((isA (exQ []) 0 0).getD g false || false)=_
 rw [b66,Bool.or_false]
theorem b6a (g:Nat):L6 (exQ []) 0 4 g=([false,true,false,false,true,false,false,false,false,true,false]:List Bool).getD g false:=by
 unfold L6
 rw [b8J]
 show ((isA (exQ []) 0 1).getD g false || false)=_
 rw [bf0,Bool.or_false]
theorem bb3:L8 (exQ []) 0 3=[0,2,3]∧I7 (exQ []) 0 3=[4,5]:=by
 unfold L8 I7 O4 F0 a1e
 have:(fun g=>L6 (exQ []) 0 3 g)=fun g=>([true,false,true,true,false,false,false,false,false,true,true]:List Bool).getD g false:=funext aj1
 rw [this]
 decide +kernel
theorem b9p:L8 (exQ []) 0 4=[1,4]∧I7 (exQ []) 0 4=[4]:=by
 unfold L8 I7 O4 F0 a1e
 have:(fun g=>L6 (exQ []) 0 4 g)=fun g=>([false,true,false,false,true,false,false,false,false,true,false]:List Bool).getD g false:=funext b6a
 rw [this]
 decide +kernel
theorem bk5:a9i (exQ []) 0 3=[3]:=by
 unfold a9i;rw [bb3.1];decide +kernel
theorem bj3:a9i (exQ []) 0 4=[]:=by
 unfold a9i;rw [b9p.1];decide +kernel
theorem exW:a6r (exQ []) 0 2 (J1 (exQ []) 0 3)=some 0:=by
 rw [b5M]
 unfold a6r
 have:(isA (exQ []) 0 0).getD 2 false=true:=by rw [b66];rfl
 simp [List.find?_cons]
 rw [lbl] at this
 simp [this]
theorem exN:a6r (exQ []) 0 4 (J1 (exQ []) 0 3)=none:=by
 rw [b0o,aj1];rfl
theorem a1Y (a b:List Int) (ha:a.length<=1000000) (hb:b.length<=1000000):a9 Tryz.prog 38 [d6 a,d6 b] [] (e8 (decide (a=b))) []:=by
 have s:=b0f a b ha hb
 (refine ac Tryz.func38 ?_;(conv=>whnf);repeat (refine zy ?_;conv=>whnf))
 repeat' (first|refine zx ?_|refine qp s ?_|refine zd ?_ ?_<;>intro h<;>try omega|fail)<;>conv=>whnf
 all_goals (refine c7 ?_;symm;assumption)
def f03:L0:=⟨3,0,1⟩
def f14:L0:=⟨4,0,1⟩
theorem bg7:a9 Tryz.prog 34 [trS (exQ []),a7 .i64 0] [] (.tup [d6 [0],a7 .i64 0]) []:=by
 have h:=a5Y (exQ []) (J5 _ (by decide)) a5a 0 f03 (by decide) rfl
 rw [show J1 (exQ []) f03.kind f03.mv.toNat=[0] from b5M] at h
 exact h
theorem bf6:a9 Tryz.prog 34 [trS (exQ []),a7 .i64 1] [] (.tup [d6 [1],a7 .i64 0]) []:=by
 have h:=a5Y (exQ []) (J5 _ (by decide)) a5a 1 f14 (by decide) rfl
 rw [show J1 (exQ []) f14.kind f14.mv.toNat=[1] from b8J] at h
 exact h
theorem bi1:a9 Tryz.prog 34 [trS (exQ []),a7 .i64 2] [] (.tup [.c (.t (.sl 0 .nil [])),a7 .i64 1]) []:=
 ap1 (exQ []) (J5 _ (by decide)) 2 (by unfold a1l;simp [exQ])
theorem be6:a9 Tryz.prog 34 [trS (exQ [⟨2,0⟩]),a7 .i64 0] [] (.tup [d6 [],a7 .i64 0]) []:=by
 have h:=a5Y (exQ [⟨2,0⟩]) (J5 _ (by decide)) b9D 0 f03 (by decide) rfl
 rw [show J1 (exQ [⟨2,0⟩]) f03.kind f03.mv.toNat=[] from bh1] at h
 exact h
theorem be7:a9 Tryz.prog 23 [trS (exQ []),a7 .i64 0] [] (.tup [d6 [0,2,3],d6 [4,5],a7 .i64 0]) []:=by
 have h:=ak6 (exQ []) (J5 _ (by decide)) a5a 0 f03 (by decide) rfl
 rw [show L8 (exQ []) f03.kind f03.mv.toNat=[0,2,3] from bb3.1,show I7 (exQ []) f03.kind f03.mv.toNat=[4,5] from bb3.2] at h
 exact h
theorem be3:a9 Tryz.prog 23 [trS (exQ []),a7 .i64 1] [] (.tup [d6 [1,4],d6 [4],a7 .i64 0]) []:=by
 have h:=ak6 (exQ []) (J5 _ (by decide)) a5a 1 f14 (by decide) rfl
 rw [show L8 (exQ []) f14.kind f14.mv.toNat=[1,4] from b9p.1,show I7 (exQ []) f14.kind f14.mv.toNat=[4] from b9p.2] at h
 exact h
theorem bg6:a9 Tryz.prog 39 [trS (exQ []),a7 .i64 0] [] (.tup [d6 [3],a7 .i64 0]) []:=by
 have h:=b4J (exQ []) (J5 _ (by decide)) a5a 0 f03 (by decide) rfl
 rw [show a9i (exQ []) f03.kind f03.mv.toNat=[3] from bk5] at h
 exact h
theorem bh3:a9 Tryz.prog 39 [trS (exQ []),a7 .i64 1] [] (.tup [d6 [],a7 .i64 0]) []:=by
 have h:=b4J (exQ []) (J5 _ (by decide)) a5a 1 f14 (by decide) rfl
 rw [show a9i (exQ []) f14.kind f14.mv.toNat=[] from bj3] at h
 exact h
theorem bk6:a9 Tryz.prog 42 [trS (exQ []),a7 .i64 0,a7 .i64 2] [] (.tup [a7 .i64 0,t4 ((a6u (exQ []) 0 0).map fz),e8 true]) []:=by
 have h:=ar4 (exQ []) (J5 _ (by decide)) a5a 0 f03 (by decide) rfl 2 (by decide)
 rw [show a6r (exQ []) f03.kind 2 (J1 (exQ []) f03.kind f03.mv.toNat)=some 0 from exW] at h
 exact h
theorem bd8:a9 Tryz.prog 75 [trS (exQ []),a7 .i64 0,a7 .i64 2,a7 .i64 0,t4 ((a6u (exQ []) 0 0).map fz)] [] (e8 true) []:=by
 obtain ⟨w1,w2⟩:=au6 (kind:=0) (i:=0) a5a (by decide) (by decide) (by decide)
 have p2:=w2 2 (by decide) (by rw [b66];rfl)
 have p3:=w2 3 (by decide) (by rw [b66];rfl)
 unfold aL4 at p2 p3
 rw [if_pos (by decide)] at p2 p3
 exact b5I (exQ []) (J5 _ (by decide)) a5a 0 f03 (by decide) rfl 2 (by decide) 0 (by rw [b5d];decide) (a6u (exQ []) 0 0) (b5u a5a (by decide) (by decide) (by decide)) ((Z3 a5a (by decide) (by decide)).2 w1) p2 p3
theorem bj8:a9 Tryz.prog 54 [trS (exQ []),a7 .i64 0,a7 .i64 4] [] (.tup [aT7 (a2T (exQ []) 0 3 4 [0,1]),e8 true]) []:=by
 have h:=b8n (exQ []) (J5 _ (by decide)) a5a 0 f03 (by decide) rfl 4 (by decide) exN
 rw [b5d] at h
 exact h
theorem bk2:a9 Tryz.prog 76 [trS (exQ []),a7 .i64 0,a7 .i64 4,aT7 (a2T (exQ []) 0 3 4 [0,1])] [] (e8 true) []:=by
 have hc:ab0 (exQ []) 0 3 4 (a2T (exQ []) 0 3 4 [0,1])=true:=by
  have:=b0H (kind:=0) (mv:=3) (g:=4) a5a (by decide) (by decide) (by decide) (by decide) (by rw [aj1];rfl)
  rwa [b5d] at this
 have e:a2T (exQ []) 0 3 4 [0,1]=((i9 (exQ []).ev).map fun i=>aD4 (exQ []) 0 3 4 i).map fun y=>y.map fz:=by rw [b5d];unfold a2T;rw [List.map_map];rfl
 rw [e] at hc ⊢
 refine b2N (exQ []) (J5 _ (by decide)) a5a 0 f03 (by decide) rfl 4 (by decide) _ (fun k i y hi hy=>b2r a5a k i y hi hy) hc
theorem b5J:a9 Tryz.prog 22 [] [] (e8 true) []:=by
 have x0:=a8Y []
 have x1:=a8Y [⟨2,0⟩]
 have o0:=bg7
 have o1:=bf6
 have o2:=bi1
 have oc:=be6
 have l0:=be7
 have l1:=be3
 have d0:=bg6
 have d1:=bh3
 have wi:=bk6
 have sh:=bd8
 have pr:=bj8
 have cl:=bk2
 have m1:=a1Y [0] [0] (by decide) (by decide)
 have m2:=a1Y [1] [1] (by decide) (by decide)
 have m3:=a1Y [0,2,3] [0,2,3] (by decide) (by decide)
 have m4:=a1Y [4,5] [4,5] (by decide) (by decide)
 have m5:=a1Y [1,4] [1,4] (by decide) (by decide)
 have m6:=a1Y [4] [4] (by decide) (by decide)
 have m7:=a1Y [3] [3] (by decide) (by decide)
 rw [lbH rfl] at m1 m2 m3 m4 m5 m6 m7
 generalize exQ []=t0 at *
 generalize exQ [⟨2,0⟩]=t1 at *
 generalize (a6u t0 0 0).map fz=wz at *
 generalize a2T t0 0 3 4 [0,1]=pz at *
 (refine ac Tryz.func22 ?_;(conv=>whnf);repeat (refine zy ?_;conv=>whnf))
 repeat' (first|refine zz ?_|refine qp x1 ?_|refine qp o0 ?_|refine qp o1 ?_|refine qp o2 ?_|refine qp oc ?_|refine qp l0 ?_|refine qp l1 ?_|refine qp d0 ?_|refine qp d1 ?_|refine qp wi ?_|refine qp sh ?_|refine qp pr ?_|refine qp cl ?_|refine qp m1 ?_|refine qp m2 ?_|refine qp m3 ?_|refine qp m4 ?_|refine qp m5 ?_|refine qp m6 ?_|refine qp m7 ?_|refine .inl ⟨_,_,a0K x0 ⟨rfl,trivial⟩ rfl,?_⟩|refine a2n.weak ?_|refine zd ?_ ?_<;>intro h<;>try omega|refine zy ?_|fail)<;>conv=>whnf
 all_goals first
  |omega
  |exact c7 rfl
  |exact absurd rfl h
theorem b5l (l:List Int) (n:Int) (hl:l.length<=1000000):a9 Tryz.prog 40 [d6 l,a7 .i64 n] [] (e8 (l.any fun x=>decide (x=n))) []:=by
 have m1:(l.map c9).length=l.length:=by simp
 (refine ac Tryz.func40 ?_;(conv=>whnf);repeat (refine zy ?_;conv=>whnf))
 repeat' (first|refine zx ?_|refine zd ?_ ?_<;>intro h<;>try omega|fail)<;>conv=>whnf
 refine d8 c8 (fun k=>([d6 l,a7 .i64 n,J,J,J,a7 .i64 k]++Jn 12,[])) l.length (fun k=>(l.take k).any (fun x=>decide (x=n))=false) [] (by simp)
  ⟨rfl,rfl,trivial,⟨rfl,rfl,rfl,trivial⟩⟩ ?_
 intro k hk hI
 by_cases hlt:k<l.length
 ·obtain ⟨x,hx⟩:∃x,l[k]? =some x:=⟨_,lbf hlt⟩
  by_cases hxn:x=n
  ·have e:l.any (fun x=>decide (x=n))=true:=lbw.2 ⟨x,lbm hx,lbH hxn⟩
   rw [e]
   conv=>whnf
   repeat' (first|refine zx ?_|refine b9 hx ?_|refine zd ?_ ?_<;>intro h<;>try omega|fail)<;>conv=>whnf
   all_goals first
    |omega
    |exact c7 rfl
  ·conv=>whnf
   repeat' (first|refine zx ?_|refine b9 hx ?_|refine zd ?_ ?_<;>intro h<;>try omega|fail)<;>conv=>whnf
   all_goals first
    |omega
    |exact ⟨hlt,by rw [a4b hx,List.any_append,hI];simp [hxn],[],rfl,rfl,trivial,⟨rfl,rfl,rfl,trivial⟩⟩
 ·have hke:k=l.length:=by omega
  subst hke
  rw [lbn (lbR _)] at hI
  rw [hI]
  conv=>whnf
  repeat' (first|refine zx ?_|refine zd ?_ ?_<;>intro h<;>try omega|fail)<;>conv=>whnf
  all_goals first
   |omega
   |exact c7 rfl
theorem am0 {t:d9} {kind:Int} {mv g:Nat}:g ∈ L8 t kind mv↔g<t.ev.moves.length∧L6 t kind mv g=true:=by
 unfold L8 O4 a1e
 rw [lby,lby,lbB,lbI]
 exact ⟨fun h=>⟨h.2,h.1.2⟩,fun h=>⟨⟨by omega,h.2⟩,h.1⟩⟩
theorem a9h {t:d9} {kind:Int} {mv p:Nat}:p ∈ I7 t kind mv↔p<t.ev.places.length∧L6 t kind mv (t.ev.moves.length+p)=true:=by
 unfold I7 F0 a1e
 rw [lbx]
 constructor
 ·rintro ⟨g,hg,rfl⟩
  rw [lby,lby,lbB] at hg
  obtain ⟨⟨h1,h2⟩,h3⟩:=hg
  have h3:¬g<t.ev.moves.length:=by simpa using h3
  exact ⟨by omega,by rw [show t.ev.moves.length+(g - t.ev.moves.length)=g by omega];exact h2⟩
 ·rintro ⟨h1,h2⟩
  exact ⟨t.ev.moves.length+p,by rw [lby,lby,lbB];exact ⟨⟨by omega,h2⟩,by simp⟩,by omega⟩
structure ae5 (t:d9) (find:Int) (f:L0):Prop where
 q:QT t
 s:t.Sized
 f0:0<=find
 hf:t.finds[find.toNat]? =some f
 k0:0<=f.kind
 k1:f.kind<8
 m0:0<=f.mv
 m1:f.mv<t.ev.moves.length
 ml:f.mv.toNat<t.ev.moves.length
theorem b88 {t:d9} {m:Int} {find:Int} (hm:m<=8) (hs:a3E t m=true) (hf:a1l t find=true):∃f,ae5 t find f:=by
 obtain ⟨s1,s2,s3⟩:=a6a (by omega) hs
 obtain ⟨h1,h2,f,h3⟩:=at7 hf
 obtain ⟨q1,q2,q3,q4,q5⟩:=o4 h1
 have hg:=F9 q4 f (lbm h3)
 unfold a3E a5P at hs
 simp only [lbN,lbI] at hs
 exact ⟨f,⟨h1,by omega,by omega⟩,s1,h2,h3,by omega,by omega,by omega,by omega,by omega⟩
def a0R (a b:List Int):Bool:=a.all fun x=>b.any fun y=>decide (y=x)
theorem a0x (a b:List Int) (ha:a.length<=1000000) (hb:b.length<=1000000):a9 Tryz.prog 24 [d6 a,d6 b] [] (e8 (a0R a b)) []:=by
 have m1:(a.map c9).length=a.length:=by simp
 unfold a0R
 (refine ac Tryz.func24 ?_;(conv=>whnf);repeat (refine zy ?_;conv=>whnf))
 repeat' (first|refine zx ?_|refine zd ?_ ?_<;>intro h<;>try omega|fail)<;>conv=>whnf
 refine d8 c8 (fun k=>([d6 a,d6 b,J,J,J,a7 .i64 k]++Jn 13,[])) a.length (fun k=>(a.take k).all (fun x=>b.any fun y=>decide (y=x))=true) [] (by simp)
  ⟨rfl,rfl,trivial,⟨rfl,rfl,rfl,trivial⟩⟩ ?_
 intro k hk hI
 by_cases hlt:k<a.length
 ·obtain ⟨x,hx⟩:∃x,a[k]? =some x:=⟨_,lbf hlt⟩
  have hh:=b5l b x hb
  cases hq:(b.any fun y=>decide (y=x)) with
  |true=>
   rw [hq] at hh
   conv=>whnf
   repeat' (first|refine zx ?_|refine qp hh ?_|refine b9 hx ?_|refine zd ?_ ?_<;>intro h<;>try omega|fail)<;>conv=>whnf
   all_goals first
    |omega
    |exact ⟨hlt,by rw [u6 hx,hI,hq];rfl,[],rfl,rfl,trivial,⟨rfl,rfl,rfl,trivial⟩⟩
  |false=>
   rw [hq] at hh
   rw [x9 hx hq]
   conv=>whnf
   repeat' (first|refine zx ?_|refine qp hh ?_|refine b9 hx ?_|refine zd ?_ ?_<;>intro h<;>try omega|fail)<;>conv=>whnf
   all_goals first
    |omega
    |exact c7 rfl
 ·have hke:k=a.length:=by omega
  subst hke
  rw [lbn (lbR _)] at hI
  rw [hI]
  conv=>whnf
  repeat' (first|refine zx ?_|refine zd ?_ ?_<;>intro h<;>try omega|fail)<;>conv=>whnf
  all_goals first
   |omega
   |exact c7 rfl
theorem al0 {t:d9} {kind:Int} {i v:Nat} {z:List Rat} (hz:a9u t kind i z) (hi:i<t.ev.moves.length) (hv:v<t.ev.moves.length) (hp:0<z.getD v 0):0<z.getD i 0:=by
 obtain ⟨x,hx⟩:∃x,t.ev.moves[v]? =some x:=⟨_,lbf hv⟩
 have h1:=b8x hz.p (i:=v) (x:=x) hx
 have h2:0<f7 (a1N (v8 t).ev z) (v+1):=by grind
 obtain ⟨j,hj,hpj⟩:=aE3 h2
 have hpj:0<a1N t.ev z j:=hpj
 unfold a1N at hpj
 cases hm:t.ev.moves[j]? with
 |none=>rw [hm] at hpj;dsimp only at hpj;exact absurd hpj (by decide +kernel)
 |some m=>
  rw [hm] at hpj
  simp only at hpj
  by_cases hb:j9 t.ev m.src=0
  ·rw [if_pos hb] at hpj
   by_cases hji:j=i
   ·subst hji;exact hpj
   ·rw [hz.o j ⟨m,hm,hb⟩ hji] at hpj
    exact absurd hpj (by decide +kernel)
  ·rw [if_neg hb] at hpj;exact absurd hpj (by decide +kernel)
def P8 (bl:List Bool) (i:Nat) (x:n9) (a:List Bool):List Bool:=
 cond (a.getD x.src.toNat false) (cond x.all ((cond (bl.getD i true) a (a.set x.dst.toNat true)).set x.src.toNat false) (cond (bl.getD i true) a (a.set x.dst.toNat true))) a
def L2 (e:Ev) (bl:List Bool) (m:Nat) (d:Nat):Nat->List Bool
 |0=>(List.replicate e.places.length false).set d true
 |k+1=>match e.moves[m+1+k]? with
  |some x=>P8 bl (m+1+k) x (L2 e bl m d k)
  |none=>L2 e bl m d k
def a62 (e:Ev) (bl:List Bool) (m d:Nat) (i:Nat) (x:n9):Bool:=decide (m<i) && (L2 e bl m d (i - (m+1))).getD x.src.toNat false && !(bl.getD i true)
def a3R (e:Ev) (bl:List Bool) (m d k:Nat):List Bool:=(List.range e.moves.length).map fun i=>decide (i<m+1+k) && (match e.moves[i]? with|some x=>a62 e bl m d i x|none=>false)
def T6 (e:Ev) (bl:List Bool) (m d:Nat):List Int:=m8 (a62 e bl m d) 0 e.moves
def Y3 (e:Ev) (bl:List Bool) (m d:Nat):List Int:=m8 (fun _ b=>b) 0 (L2 e bl m d (e.moves.length - (m+1)))
theorem aF9 {bl:List Bool} {i:Nat} {x:n9} {a:List Bool}:(P8 bl i x a).length=a.length:=by
 unfold P8
 cases a.getD x.src.toNat false<;>cases x.all<;>cases bl.getD i true<;>simp
theorem V7 {e:Ev} {bl:List Bool} {m d:Nat}:∀k,(L2 e bl m d k).length=e.places.length
 |0=>by simp [L2]
 |k+1=>by
  unfold L2
  split
  ·rw [aF9,V7 k]
  ·exact V7 k
theorem a2Y {e:Ev} {bl:List Bool} {m d k:Nat}:(a3R e bl m d k).length=e.moves.length:=by simp [a3R]
theorem a5I {e:Ev} {bl:List Bool} {m d k:Nat} {x:n9} (h:e.moves[m+1+k]? =some x):L2 e bl m d (k+1)=P8 bl (m+1+k) x (L2 e bl m d k):=by
 rw [L2,h]
theorem b2T {e:Ev} {bl:List Bool} {m d:Nat}:a3R e bl m d 0=List.replicate e.moves.length false:=by
 apply List.ext_getElem?
 intro i
 unfold a3R
 rw [lba]
 by_cases h:i<e.moves.length
 ·rw [lbh h,lbk,if_pos h,Option.map_some,lbf h]
  simp only [a62]
  by_cases h2:i<m+1+0
  ·simp [show ¬m<i by omega]
  ·simp [show ¬i<m+1 by omega]
 ·rw [lbd (by simp;omega),lbd (by simp;omega)];rfl
theorem b4b {e:Ev} {bl:List Bool} {m d k:Nat} {x:n9}:a62 e bl m d (m+1+k) x=((L2 e bl m d k).getD x.src.toNat false && !(bl.getD (m+1+k) true)):=by
 unfold a62
 rw [show m+1+k - (m+1)=k by omega]
 simp [show m<m+1+k by omega]
theorem b2X {e:Ev} {bl:List Bool} {m d k:Nat} {x:n9} (h:e.moves[m+1+k]? =some x):a3R e bl m d (k+1)=cond (a62 e bl m d (m+1+k) x) ((a3R e bl m d k).set (m+1+k) true) (a3R e bl m d k):=by
 have hlt:=(lbe.1 h).1
 apply List.ext_getElem?
 intro i
 have key:∀j,(a3R e bl m d j)[i]? =if i<e.moves.length then some (decide (i<m+1+j) && (match e.moves[i]? with|some x=>a62 e bl m d i x|none=>false)) else none:=fun j=>by
  unfold a3R
  rw [lba]
  by_cases h:i<e.moves.length
  ·rw [lbh h,if_pos h];rfl
  ·rw [lbd (by simp;omega),if_neg h];rfl
 by_cases hi:i=m+1+k
 ·subst hi
  have e1:=key (k+1)
  have e2:=key k
  rw [if_pos hlt,h] at e1 e2
  simp only [show decide (m+1+k<m+1+(k+1))=true by simp,show decide (m+1+k<m+1+k)=false by simp,Bool.true_and,Bool.false_and] at e1 e2
  rw [e1]
  cases hc:a62 e bl m d (m+1+k) x with
  |true=>rw [cond_true,List.getElem?_set_self (by rw [a2Y];exact hlt)]
  |false=>rw [cond_false,e2]
 ·have:(cond (a62 e bl m d (m+1+k) x) ((a3R e bl m d k).set (m+1+k) true) (a3R e bl m d k))[i]? =(a3R e bl m d k)[i]?:=by
   cases a62 e bl m d (m+1+k) x
   ·rfl
   ·rw [cond_true,List.getElem?_set_ne (Ne.symm hi)]
  rw [this,key,key]
  have hd:decide (i<m+1+(k+1))=decide (i<m+1+k):=by
   have:(i<m+1+(k+1))↔(i<m+1+k):=by omega
   simp [this]
  rw [hd]
theorem a4U {α:Type} (p:Nat->α->Bool):∀(l:List α) (bs:List Bool) (n:Nat),bs.length=l.length->(∀ i x,l[i]? =some x->bs[i]? =some (p (n+i) x))->m8 (fun _ b=>b) n bs=m8 p n l
 |[],[],n,_,_=>rfl
 |x::l,b::bs,n,hl,h=>by
  have h0:=h 0 x rfl
  simp at h0
  subst h0
  have ih:=a4U p l bs (n+1) (by simpa using hl) (fun i y hy=>by
   have:=h (i+1) y (by simpa using hy)
   rw [show n+1+i=n+(i+1) by omega]
   simpa using this)
  simp only [m8,ih]
 |[],_::_,n,hl,_=>by simp at hl
 |_::_,[],n,hl,_=>by simp at hl
theorem b4G {e:Ev} {bl:List Bool} {m d:Nat} (hm:m<e.moves.length):m8 (fun _ b=>b) 0 (a3R e bl m d (e.moves.length - (m+1)))=T6 e bl m d:=by
 refine a4U _ _ _ 0 (by rw [a2Y]) fun i x hx=>?_
 have hlt:=(lbe.1 hx).1
 unfold a3R
 rw [lba,lbh hlt,Option.map_some,hx]
 simp [show i<m+1+(e.moves.length - (m+1)) by omega]
def L1 (e:Ev) (bl:List Bool) (m:Int):List Int:=match e.moves[m.toNat]? with
 |some x=>m8 (a2e e bl x.dst m.toNat) 0 e.moves
 |none=>[]
structure BQ where
 bef:List Int
 que:List Int
def P2 (m:Int) (s:BQ) (k:Int):BQ:=if s.bef.getD k.toNat 0=-1 then ⟨s.bef.set k.toNat m,s.que++[k]⟩ else s
def a2P (e:Ev) (bl:List Bool) (s:BQ) (m:Int):BQ:=(L1 e bl m).foldl (P2 m) s
def a4C (e:Ev) (bl:List Bool) (s:BQ) (b:Nat):BQ:=(s.que.drop b).foldl (a2P e bl) s
def a2z (e:Ev) (bl:List Bool) (t:Int):Nat->BQ->Nat->BQ
 |0,s,_=>s
 |f+1,s,b=>if b<s.que.length∧s.bef.getD t.toNat 0=-1 then a2z e bl t f (a4C e bl s b) s.que.length else s
def S4 (e:Ev) (fr:Int):BQ:=⟨(List.replicate e.moves.length (-1)).set fr.toNat fr,[fr]⟩
def E7 (bef:List Int) (fr:Int):Nat->Int->List Int
 |0,v=>[v]
 |f+1,v=>if v=fr then [v] else v::E7 bef fr f (bef.getD v.toNat 0)
def a8U (e:Ev) (bl:List Bool) (fr t:Int):BQ:=a2z e bl t (e.moves.length+1) (S4 e fr) 0
def M3 (e:Ev) (bl:List Bool) (fr t:Int):List Int:=
 if N7 e fr bl=true∧N7 e t bl=true∧bl.getD fr.toNat true=false then
  if (a8U e bl fr t).bef.getD t.toNat 0=-1 then [] else (E7 (a8U e bl fr t).bef fr (t.toNat+1) t).reverse
 else []
structure E0 (n:Nat) (fr:Int) (s:BQ):Prop where
 len:s.bef.length=n
 cnt:s.que.length+s.bef.countP (fun x=>decide (x=-1))=n
 que:∀v ∈ s.que,0<=v∧v.toNat<n∧fr<=v∧s.bef.getD v.toNat 0≠-1
 bef:∀k,k<n->s.bef.getD k 0≠-1->((k:Int)=fr∧s.bef.getD k 0=fr)∨(0<=s.bef.getD k 0∧s.bef.getD k 0<k∧s.bef.getD (s.bef.getD k 0).toNat 0≠-1∧(k:Int)≠fr)
theorem ay1 {l:List Int} {i:Nat} {v:Int} (h:l.getD i 0=-1) (hv:v≠-1):(l.set i v).countP (fun x=>decide (x=-1))+1=l.countP (fun x=>decide (x=-1)):=by
 induction l generalizing i with
 |nil=>simp at h
 |cons x l ih=>
  cases i with
  |zero=>
   simp at h
   subst h
   simp [List.countP_cons,hv]
  |succ i=>
   have:=ih (i:=i) (by simpa using h)
   simp only [List.set_cons_succ,List.countP_cons]
   omega
theorem H5 {l:List Int} {i j:Nat} {v:Int} (hi:i<l.length):(l.set i v).getD j 0=if j=i then v else l.getD j 0:=by
 rw [lbl,lbl]
 by_cases h:j=i
 ·subst h;rw [List.getElem?_set_self hi,if_pos rfl];rfl
 ·rw [List.getElem?_set_ne (Ne.symm h),if_neg h]
theorem a35 {e:Ev} {bl:List Bool} {m k:Int} (hm:0<=m) (h:k ∈ L1 e bl m):0<=k∧k.toNat<e.moves.length∧m<k:=by
 unfold L1 at h
 split at h
 ·obtain ⟨i,z,hz,hP,rfl⟩:=y0.1 h
  have:=(lbe.1 hz).1
  simp [a2e] at hP
  omega
 ·cases h
theorem E0.stepK {n:Nat} {fr:Int} {s:BQ} (h:E0 n fr s) {m k:Int} (hm:0<=m) (hmn:m.toNat<n) (hmb:s.bef.getD m.toNat 0≠-1) (hk:k.toNat<n) (hmk:m<k) (hfr:fr<=m):
 E0 n fr (P2 m s k):=by
 unfold P2
 split
 ·rename_i hb
  have hkl:k.toNat<s.bef.length:=by rw [h.len];exact hk
  have hc:=ay1 (v:=m) hb (by omega)
  have hmk':m.toNat≠k.toNat:=by omega
  refine ⟨by simpa using h.len,by have:=h.cnt;simp only [lbq,List.length_singleton];omega,?_,?_⟩
  ·intro v hv
   rcases lbz.1 hv with hv|hv
   ·obtain ⟨h1,h2,h4,h3⟩:=h.que v hv
    refine ⟨h1,h2,h4,?_⟩
    rw [H5 hkl]
    split
    ·omega
    ·exact h3
   ·simp at hv
    subst hv
    refine ⟨by omega,hk,by omega,?_⟩
    rw [H5 hkl,if_pos rfl]
    omega
  ·intro j hj
   simp only [H5 hkl]
   by_cases hjk:j=k.toNat
   ·rw [if_pos hjk]
    intro _
    refine .inr ⟨hm,by omega,?_,by omega⟩
    rw [if_neg hmk']
    exact hmb
   ·rw [if_neg hjk]
    intro h1
    rcases h.bef j hj h1 with h2|⟨h2,h3,h4,h5⟩
    ·exact .inl h2
    ·refine .inr ⟨h2,h3,?_,h5⟩
     split
     ·omega
     ·exact h4
 ·exact h
theorem aZ5 {m k v:Int} {s:BQ} (h:s.bef.getD v.toNat 0≠-1) (hm:m≠-1) (hl:k.toNat<s.bef.length):(P2 m s k).bef.getD v.toNat 0≠-1:=by
 unfold P2
 split
 ·show (s.bef.set _ _).getD _ _≠_
  rw [H5 hl]
  split
  ·exact hm
  ·exact h
 ·exact h
theorem a9q {e:Ev} {fr:Int} (h0:0<=fr) (h1:fr.toNat<e.moves.length):E0 e.moves.length fr (S4 e fr):=by
 have hl:fr.toNat<(List.replicate e.moves.length (-1:Int)).length:=by simpa using h1
 have hg:(List.replicate e.moves.length (-1:Int)).getD fr.toNat 0=-1:=by simp [lbl,lbk,h1]
 have hc:=ay1 (v:=fr) hg (by omega)
 have hc2:(List.replicate e.moves.length (-1:Int)).countP (fun x=>decide (x=-1))=e.moves.length:=by simp [List.countP_replicate]
 refine ⟨by simp [S4],?_,?_,?_⟩
 ·show 1+_=_
  unfold S4
  simp only
  omega
 ·intro v hv
  simp [S4] at hv
  subst hv
  refine ⟨h0,h1,Int.le_refl _,?_⟩
  unfold S4
  simp only
  rw [H5 hl,if_pos rfl]
  omega
 ·intro k hk
  unfold S4
  simp only [H5 hl]
  by_cases hkf:k=fr.toNat
  ·rw [if_pos hkf]
   intro _
   exact .inl ⟨by omega,rfl⟩
  ·rw [if_neg hkf]
   intro hne
   exact absurd (by simp [lbl,lbk,hk]) hne
theorem E0.room {n:Nat} {fr:Int} {s:BQ} (h:E0 n fr s):s.que.length<=n:=by have:=h.cnt;omega
theorem a4q {α β:Type} {f:β->α->β} {l:List α} {s:β} {k:Nat} {x:α} (h:l[k]? =some x):(l.take (k+1)).foldl f s=f ((l.take k).foldl f s) x:=by
 rw [lbG,h,List.foldl_append];rfl
def OkQ (n:Nat) (fr:Int) (s:BQ) (v:Int):Prop:=0<=v∧v.toNat<n∧fr<=v∧s.bef.getD v.toNat 0≠-1
theorem E0.stepKs {n:Nat} {fr m:Int}:∀{ks:List Int} {s:BQ},E0 n fr s->OkQ n fr s m->(∀ k ∈ ks,k.toNat<n∧m<k)->
 E0 n fr (ks.foldl (P2 m) s)∧∀v,OkQ n fr s v->OkQ n fr (ks.foldl (P2 m) s) v
 |[],s,h,_,_=>⟨h,fun v hv=>hv⟩
 |k::ks,s,h,hm,hk=>by
  obtain ⟨h1,h2⟩:=hk k (by simp)
  have hg:=h.stepK hm.1 hm.2.1 hm.2.2.2 h1 h2 hm.2.2.1
  have hold:∀v,OkQ n fr s v->OkQ n fr (P2 m s k) v:=fun v hv=>⟨hv.1,hv.2.1,hv.2.2.1,aZ5 hv.2.2.2 (by have:=hm.1;omega) (by rw [h.len];exact h1)⟩
  obtain ⟨q1,q2⟩:=E0.stepKs (ks:=ks) hg (hold m hm) (fun k' hk'=>hk k' (by simp [hk']))
  exact ⟨q1,fun v hv=>q2 v (hold v hv)⟩
theorem E0.stepM {e:Ev} {bl:List Bool} {fr m:Int} {s:BQ} (h:E0 e.moves.length fr s) (hm:OkQ e.moves.length fr s m):
 E0 e.moves.length fr (a2P e bl s m)∧∀v,OkQ e.moves.length fr s v->OkQ e.moves.length fr (a2P e bl s m) v:=
 h.stepKs hm fun k hk=>by
  have:=a35 hm.1 hk
  exact ⟨this.2.1,this.2.2⟩
theorem E0.stepMs {e:Ev} {bl:List Bool} {fr:Int}:∀{ms:List Int} {s:BQ},E0 e.moves.length fr s->(∀ m ∈ ms,OkQ e.moves.length fr s m)->
 E0 e.moves.length fr (ms.foldl (a2P e bl) s)∧∀v,OkQ e.moves.length fr s v->OkQ e.moves.length fr (ms.foldl (a2P e bl) s) v
 |[],s,h,_=>⟨h,fun v hv=>hv⟩
 |m::ms,s,h,hm=>by
  obtain ⟨h1,h2⟩:=h.stepM (bl:=bl) (hm m (by simp))
  obtain ⟨q1,q2⟩:=E0.stepMs (ms:=ms) h1 (fun v hv=>h2 v (hm v (by simp [hv])))
  exact ⟨q1,fun v hv=>q2 v (h2 v hv)⟩
theorem E0.stepR {e:Ev} {bl:List Bool} {fr:Int} {s:BQ} (h:E0 e.moves.length fr s) (b:Nat):E0 e.moves.length fr (a4C e bl s b):=
 (h.stepMs (fun m hm=>h.que m (List.mem_of_mem_drop hm))).1
theorem b03 {m k:Int} {s:BQ}:s.que.length<=(P2 m s k).que.length:=by
 unfold P2;split<;>simp
theorem a9k {m:Int}:∀{ks:List Int} {s:BQ},s.que.length<=(ks.foldl (P2 m) s).que.length
 |[],s=>lbR _
 |k::ks,s=>lbS b03 (a9k (ks:=ks))
theorem a9n {e:Ev} {bl:List Bool}:∀{ms:List Int} {s:BQ},s.que.length<=(ms.foldl (a2P e bl) s).que.length
 |[],s=>lbR _
 |m::ms,s=>lbS (a9k (m:=m)) (a9n (ms:=ms))
theorem ac8 {e:Ev} {bl:List Bool} {t:Int} {f b:Nat} {s:BQ} (h:¬(b<s.que.length∧s.bef.getD t.toNat 0=-1)):a2z e bl t f s b=s:=by
 cases f with
 |zero=>rfl
 |succ f=>unfold a2z;rw [if_neg h]
theorem aQ3 {e:Ev} {bl:List Bool} {t:Int} {f b:Nat} {s:BQ} (h:b<s.que.length∧s.bef.getD t.toNat 0=-1):a2z e bl t (f+1) s b=a2z e bl t f (a4C e bl s b) s.que.length:=by
 rw [a2z,if_pos h]
theorem at8 {n:Nat} {fr:Int} {s:BQ} (h:E0 n fr s):∀(u f:Nat) (g:Nat),u<n->s.bef.getD u 0≠-1->u<f->u<g->E7 s.bef fr f (u:Int)=E7 s.bef fr g u:=by
 intro u
 induction u using Nat.strongRecOn with
 |_ u ih=>
  intro f g hu hb hf hg
  obtain ⟨f,rfl⟩:∃k,f=k+1:=⟨f - 1,by omega⟩
  obtain ⟨g,rfl⟩:∃k,g=k+1:=⟨g - 1,by omega⟩
  unfold E7
  by_cases hfr:(u:Int)=fr
  ·rw [if_pos hfr,if_pos hfr]
  ·rw [if_neg hfr,if_neg hfr]
   congr 1
   rcases h.bef u hu hb with h1|⟨h1,h2,h3,h4⟩
   ·exact absurd h1.1 hfr
   ·obtain ⟨w,hw⟩:=Int.eq_ofNat_of_zero_le h1
    have e1:s.bef.getD (u:Int).toNat 0=(w:Int):=hw
    rw [e1]
    rw [hw] at h2 h3
    exact ih w (by omega) f g (by omega) (by simpa using h3) (by omega) (by omega)
theorem E0.ge {n:Nat} {fr:Int} {s:BQ} (h:E0 n fr s):∀(u:Nat),u<n->s.bef.getD u 0≠-1->fr<=(u:Int):=by
 intro u
 induction u using Nat.strongRecOn with
 |_ u ih=>
  intro hu hb
  rcases h.bef u hu hb with h1|⟨h1,h2,h3,h4⟩
  ·omega
  ·obtain ⟨w,hw⟩:=Int.eq_ofNat_of_zero_le h1
   rw [hw] at h2 h3
   have:=ih w (by omega) (by omega) (by simpa using h3)
   omega
theorem a3g {e:Ev} {m:n9} (h:D5 e m=true):m.src≠m.dst:=by
 simp [D5] at h;exact h.1.1.1.1.1.2
theorem b6M (e:Ev) (hs:e.Sized) (h0:y8 e=0) (m:Nat) (x0:n9) (bl:List Bool) (hm:e.moves[m]? =some x0) (hb:bl.length=e.moves.length) (hbm:bl.getD m true=false):
 a9 Tryz.prog 51 [evS e,a7 .i64 m,G8 bl] [] (.tup [d6 (T6 e bl m x0.dst.toNat),d6 (Y3 e bl m x0.dst.toNat)]) []:=by
 have l1:=hs.s2
 have l0:=hs.s1
 have l2:(e.moves.map n9.row).length=e.moves.length:=by simp
 have l4:(e.places.map G5.row).length=e.places.length:=by simp
 have l3:(bl.map R3).length=bl.length:=by simp
 have hmlt:=(lbe.1 hm).1
 have f1:=a6J e m bl
 have hfit:N7 e m bl=true:=by simp [N7];omega
 rw [hfit] at f1
 have hbx:bl[m]? =some false:=by
  obtain ⟨b,hb⟩:∃b,bl[m]? =some b:=⟨_,lbf (by omega)⟩
  rw [lbl,hb] at hbm
  rw [hb];exact congrArg some hbm
 have hd:=H9 (p8 h0 (lbm hm))
 (refine ac Tryz.func51 ?_;(conv=>whnf);repeat (refine zy ?_;conv=>whnf))
 repeat' (first|refine zx ?_|refine qp f1 ?_|refine b9 hbx ?_|refine b9 hm ?_|refine a2B (by omega) (by omega) (by omega) (by decide) ?_|refine ba7 (by omega) ?_|refine zd ?_ ?_<;>intro h<;>try omega|fail)<;>conv=>whnf
 refine ag3 ?_
 refine d8 c8 (fun k=>([J,J,G8 bl,S.c (C.ptr 0 0 0),J,J,J,J,b8j 1 (L2 e bl m x0.dst.toNat k),b8j 2 (a3R e bl m x0.dst.toNat k),a7 .i64 ((m+1+k:Nat):Int)]++Jn 70,[evB e,ag6 (L2 e bl m x0.dst.toNat k),ag6 (a3R e bl m x0.dst.toNat k)])) (e.moves.length - (m+1)) (fun k=>True) [some 0,some 1,some 2] trivial
  ⟨rfl,rfl,⟨⟨rfl,rfl,rfl,.inl ⟨rfl,j7 e⟩⟩,a8 rfl rfl rfl ?_ rfl,a8 rfl rfl rfl ?_ rfl,trivial⟩,⟨g6 rfl,⟨rfl,rfl,rfl⟩,f8 rfl ?_,f8 rfl ?_,b8 rfl,trivial⟩⟩ ?_
 ·simp [toC,L2,y5,t8,R3,B3,List.map_set]
 ·simp [toC,b2T,y5,R3,B3]
 ·simp [V7]
 ·simp [a2Y]
 intro k hk hI
 have hal:(L2 e bl m x0.dst.toNat k).length=e.places.length:=V7 k
 have hcl:(a3R e bl m x0.dst.toNat k).length=e.moves.length:=a2Y
 conv=>whnf
 repeat' (first|refine zx ?_|refine zd ?_ ?_<;>intro h<;>try omega|fail)<;>conv=>whnf
 ·have hlt:m+1+k<e.moves.length:=by omega
  obtain ⟨x,hx⟩:∃x,e.moves[m+1+k]? =some x:=⟨_,lbf hlt⟩
  obtain ⟨b,hbx⟩:∃b,bl[m+1+k]? =some b:=⟨_,lbf (by omega)⟩
  have hmo:=p8 h0 (lbm hx)
  have hsr:=B6 hmo
  have hdr:=H9 hmo
  have hne:=a3g hmo
  obtain ⟨a,ha⟩:∃a,(L2 e bl m x0.dst.toNat k)[0+x.src.toNat]? =some a:=⟨_,lbf (by omega)⟩
  obtain ⟨a2,ha2⟩:∃a,(L2 e bl m x0.dst.toNat k)[0+x.dst.toNat]? =some a:=⟨_,lbf (by omega)⟩
  obtain ⟨a3,ha3⟩:∃a,(a3R e bl m x0.dst.toNat k)[0+((m+1+k:Nat):Int).toNat]? =some a:=⟨_,lbf (by omega)⟩
  repeat' (first|refine zx ?_|refine qp (2,3,4) ?_|refine b9 hx ?_|refine o5 ha ?_|refine o5 ha2 ?_|refine o5 ha3 ?_|refine b9 hbx ?_|refine aJ4 (by omega) ha ?_|refine bl0 [2,3,4] ?_|refine zd ?_ ?_<;>intro h<;>try omega|fail)<;>conv=>whnf
  all_goals
   have hs1:=a5I (bl:=bl) (d:=x0.dst.toNat) hx
   have hc1:=b2X (bl:=bl) (d:=x0.dst.toNat) hx
   have hgd:(L2 e bl m x0.dst.toNat k).getD x.src.toNat false=a:=by rw [Nat.zero_add] at ha;rw [lbl,ha];rfl
   have hgb:bl.getD (m+1+k) true=b:=by rw [lbl,hbx];rfl
   rw [b4b,hgd,hgb] at hc1
   unfold P8 at hs1
   rw [hgd,hgb] at hs1
   refine ⟨by omega,trivial,[some 0,some 1,some 2],rfl,rfl,⟨⟨rfl,rfl,rfl,.inl ⟨rfl,j7 e⟩⟩,a8 rfl rfl rfl ?_ rfl,a8 rfl rfl rfl ?_ rfl,trivial⟩,⟨rfl,⟨rfl,rfl,rfl⟩,f8 rfl ?_,f8 rfl ?_,rfl,trivial⟩⟩
   ·rw [hs1];simp_all [toC,R3,List.map_set,t8]
   ·have hmk:((m:Int)+1+(k:Int)).toNat=m+1+k:=by omega
    rw [hc1];simp_all [toC,R3,List.map_set,t8,hmk]
   ·rw [V7,V7]
   ·rw [a2Y,a2Y]
 ·have hkk:k=e.moves.length - (m+1):=by omega
  refine .inr ⟨[],[J,J,G8 bl,J,J,J,J,J,G8 (L2 e bl m x0.dst.toNat k),G8 (a3R e bl m x0.dst.toNat k)]++Jn 71,[],⟨rfl,rfl,trivial,⟨rfl,a2a rfl rfl (by intro h;cases h) rfl rfl (by simp),a2a rfl rfl (by intro h;cases h) rfl rfl (by simp),trivial⟩⟩,?_⟩
  conv=>whnf
  repeat' (first|refine zx ?_|refine qp (b2E _ (by omega)) ?_|refine zd ?_ ?_<;>intro h<;>try omega|fail)<;>conv=>whnf
  refine k9 ?_
  rw [hkk,b4G hmlt]
  exact ⟨rfl,rfl,trivial⟩
def Q0 (e:Ev) (m:Int) (bl:List Bool):List Int × List Int:=
 if N7 e m bl=true∧bl.getD m.toNat true=false then match e.moves[m.toNat]? with
  |some x=>(T6 e bl m.toNat x.dst.toNat,Y3 e bl m.toNat x.dst.toNat)
  |none=>([],[])
 else ([],[])
theorem aT0 {e:Ev} {m:Int} {bl:List Bool} (h:N7 e m bl=true->bl.getD m.toNat true=true):Q0 e m bl=([],[]):=by
 unfold Q0
 rw [if_neg]
 rintro ⟨h1,h2⟩
 rw [h h1] at h2;cases h2
theorem aw5 {e:Ev} {m:Nat} {bl:List Bool} {x:n9} (h1:N7 e m bl=true) (h2:bl.getD m true=false) (hx:e.moves[m]? =some x):Q0 e m bl=(T6 e bl m x.dst.toNat,Y3 e bl m x.dst.toNat):=by
 unfold Q0
 rw [if_pos ⟨h1,h2⟩]
 simp [hx]
theorem S9 {e:Ev} {m:Int} {bl:List Bool}:N7 e m bl=true↔(0<=m∧m<e.moves.length)∧(bl.length:Int)=e.moves.length:=by simp [N7]
abbrev bd6 (p:List Int × List Int):S:=.tup [d6 p.1,d6 p.2]
theorem af4 (e:Ev) (hs:e.Sized) (h0:y8 e=0) (m:Int) (bl:List Bool):a9 Tryz.prog 51 [evS e,a7 .i64 m,G8 bl] [] (bd6 (Q0 e m bl)) []:=by
 have f1:=a6J e m bl
 cases hfit:N7 e m bl with
 |false=>
  rw [hfit] at f1
  rw [aT0 (fun h=>by rw [hfit] at h;cases h)]
  (refine ac Tryz.func51 ?_;(conv=>whnf);repeat (refine zy ?_;conv=>whnf))
  repeat' (first|refine zx ?_|refine qp f1 ?_|refine zd ?_ ?_<;>intro h<;>try omega|fail)<;>conv=>whnf
  all_goals first|(exfalso;simp_all;done)|exact k9 ⟨rfl,rfl,trivial⟩
 |true=>
  obtain ⟨⟨h1,h2⟩,h3⟩:=S9.1 hfit
  obtain ⟨n,rfl⟩:=Int.eq_ofNat_of_zero_le h1
  obtain ⟨x,hx⟩:∃x,e.moves[n]? =some x:=⟨_,lbf (by omega)⟩
  obtain ⟨b,hb⟩:∃b,bl[n]? =some b:=⟨_,lbf (by omega)⟩
  have hg:bl.getD n true=b:=by rw [lbl,hb];rfl
  cases b with
  |false=>
   rw [aw5 hfit hg hx]
   exact b6M e hs h0 n x bl hx (by omega) hg
  |true=>
   rw [aT0 (fun _=>by simpa using hg)]
   rw [hfit] at f1
   (refine ac Tryz.func51 ?_;(conv=>whnf);repeat (refine zy ?_;conv=>whnf))
   repeat' (first|refine zx ?_|refine qp f1 ?_|refine b9 hb ?_|refine zd ?_ ?_<;>intro h<;>try omega|fail)<;>conv=>whnf
   all_goals first|(exfalso;simp_all;done)|exact k9 ⟨rfl,rfl,trivial⟩
theorem bg5 (a:Int):V3 .and .u64 a 4294967295 (a % 4294967296):=(a7l (a:=a) 32 (by decide)).symm
theorem bg1 {a:Int} (h1:0<=a) (h2:a<4294967296):aK2 .u64 a 32 0:=by
 show 0=a.fdiv 4294967296
 rw [Int.fdiv_eq_ediv_of_nonneg _ (by decide)]
 omega
theorem b6z (y:Int) (h0:0<=y) (h1:y<=1000000):a9 Tryz.prog 292 [a7 .u64 1,a7 .u64 y] [] (.tup [a7 .u64 0,a7 .u64 y]) []:=by
 (refine ac Tryz.func292 ?_;(conv=>whnf);repeat (refine zy ?_;conv=>whnf))
 repeat' (first|refine zx ?_|refine ⟨_,bg5 _,?_⟩|refine ⟨_,a33 (by omega) (by omega),?_⟩|refine ⟨by decide,_,bg1 (by omega) (by omega),?_⟩|refine zd ?_ ?_<;>intro h<;>try omega|fail)<;>conv=>whnf
 exact k9 ⟨b8 (by omega),b8 (by omega),trivial⟩
theorem bh0 (y:Int) (h0:0<=y) (h1:y<=1000000):a9 Tryz.prog 253 [a7 .u64 1,a7 .u64 y] [] (.tup [a7 .u64 0,a7 .u64 y]) []:=by
 (refine ac Tryz.func253 ?_;(conv=>whnf);repeat (refine zy ?_;conv=>whnf))
 repeat' (first|refine zx ?_|refine qp (b6z _ (by omega) (by omega)) ?_|refine ⟨_,a33 (by omega) (by omega),?_⟩|refine zd ?_ ?_<;>intro h<;>try omega|fail)<;>conv=>whnf
 exact k9 ⟨rfl,rfl,trivial⟩
def a1k (x:Int) (n k:Nat):List Int:=List.replicate k x++List.replicate (n - k) 0
theorem b3k {x:Int} {n k:Nat} (h:k<=n):(a1k x n k).length=n:=by simp [a1k];omega
theorem aU8 {x:Int} {n k:Nat} (h:k<=n):x6 k (n - k) (toC ((a1k x n k).map c9)) ((toC ((a1k x n k).map c9)).take k)=toC ((a1k x n (k+min k (n - k))).map c9):=by
 have e1:(toC ((a1k x n k).map c9)).take k=toC ((List.replicate k x).map c9):=by
  unfold a1k toC
  simp [lbC,List.take_append]
 have e2:(toC ((a1k x n k).map c9)).drop (k+min k (n - k))=toC ((List.replicate (n - (k+min k (n - k))) 0).map c9):=by
  unfold a1k toC
  simp only [lbC,List.drop_append,List.map_replicate,List.drop_replicate,List.length_replicate]
  rw [show k - (k+min k (n - k))=0 by omega,show k+min k (n - k) - k=min k (n - k) by omega,show n - k - min k (n - k)=n - (k+min k (n - k)) by omega]
  simp
 unfold x6
 rw [e1]
 have e3:((toC ((List.replicate k x).map c9)).take (n - k))=toC ((List.replicate (min k (n - k)) x).map c9):=by
  simp [toC,Nat.min_comm]
 rw [e3]
 have e4:(toC ((List.replicate (min k (n - k)) x).map c9)).length=min k (n - k):=by simp [toC]
 rw [e4,e2]
 unfold a1k toC
 simp only [lbC,List.map_replicate]
 rw [← lbD]
 congr 1
 rw [List.replicate_append_replicate]
theorem aM9 {x:Int} {n:Nat} (h:1<=n):x6 0 n (List.replicate n [C.t (ti 0)]) (toC [[ti x]])=toC ((a1k x n 1).map c9):=by
 obtain ⟨m,rfl⟩:∃m,n=m+1:=⟨n - 1,by omega⟩
 unfold x6 a1k toC
 simp [c9,List.replicate_succ]
theorem b4e (x n:Int) (h0:1<=n) (h1:n<=1000000):a9 Tryz.prog 194 [.c (.t (.sl 1 .full [[ti x]])),a7 .i64 n] [] (M4 0 (List.replicate n.toNat x)) [k8 (List.replicate n.toNat x)]:=by
 (refine ac Tryz.func194 ?_;(conv=>whnf);repeat (refine zy ?_;conv=>whnf))
 repeat' (first|refine zx ?_|refine qp (bh0 _ (by omega) (by omega)) ?_|refine ⟨1,a33 (x:=1) (by decide) (by decide),?_⟩|refine ⟨_,a33 (by omega) (by omega),?_⟩|refine a2B (by omega) (by omega) (by omega) (by decide) ?_|refine zd ?_ ?_<;>intro h<;>try omega|fail)<;>conv=>whnf
 refine b19 (by simp [y5]) ?_
 conv=>whnf
 obtain ⟨N,rfl⟩:∃N:Nat,n=N:=Int.eq_ofNat_of_zero_le (by omega)
 refine n8 c8 (fun k:Nat=>(Jn 7++[S.c (C.own 0 0 N true),a7 .i64 k]++Jn 39,[k8 (a1k x N k)])) (fun k=>1<=k∧k<=N) (fun k=>N - k) 1 [some 0] ⟨by omega,by omega⟩
  ⟨rfl,rfl,⟨a8 rfl rfl rfl ?_ rfl,trivial⟩,⟨⟨rfl,rfl,rfl,fun h=>h⟩,b8 ?_,trivial⟩⟩ ?_
 ·exact aM9 (x:=x) (n:=N) (by omega)
 ·simp [toC];omega
 rintro k ⟨hk1,hk2⟩
 have hl:=b3k (x:=x) hk2
 conv=>whnf
 repeat' (first|refine zx ?_|refine qp (toC,hl) ?_|refine qp 0 ?_|refine qp (toC,hl) ?_|refine a4r (by omega) (by omega) (by omega) ?_|refine b19 (by simp [toC,hl]<;>omega) ?_|refine bl0 [0] ?_|refine ⟨((k+min k (N - k):Nat):Int),B5 (by simp [toC,hl];omega) (by omega) (by omega),?_⟩|refine zd ?_ ?_<;>intro h<;>try omega|fail)<;>conv=>whnf
 ·refine ⟨[some 0],k+min k (N - k),⟨rfl,rfl,⟨a8 rfl rfl rfl ?_ rfl,trivial⟩,⟨⟨rfl,rfl,rfl,fun h=>h⟩,rfl,trivial⟩⟩,⟨by omega,by omega⟩,?_⟩
  ·have:=aU8 (x:=x) hk2
   refine Eq.trans ?_ this
   show x6 (0+(k:Int).toNat) ((N:Int) - k).toNat _ (((toC ((a1k x N k).map c9)).drop (0+(0:Int).toNat)).take ((k:Int) - 0).toNat)=_
   rw [show 0+(k:Int).toNat=k by omega,show ((N:Int) - k).toNat=N - k by omega,show 0+(0:Int).toNat=0 by omega,show ((k:Int) - 0).toNat=k by omega,List.drop_zero]
  ·show N - (k+min k (N - k))<N - k
   omega
 ·have hkN:k=N:=by omega
  subst hkN
  have e:a1k x k k=List.replicate k x:=by simp [a1k]
  refine ⟨⟨[some 0],rfl,rfl,⟨a8 rfl rfl rfl rfl ?_,trivial⟩,⟨rfl,rfl,by simp,fun h=>h⟩⟩⟩
  rw [e];rfl
def a1o (l:List Int) (k:Nat):List Int:=(List.range l.length).map fun p=>if p<k∨l.length - 1 - p<k then l.getD (l.length - 1 - p) 0 else l.getD p 0
theorem a0t {l:List Int} {k:Nat}:(a1o l k).length=l.length:=by simp [a1o]
theorem a1D {l:List Int} {k p:Nat} (h:p<l.length):(a1o l k)[p]? =some (if p<k∨l.length - 1 - p<k then l.getD (l.length - 1 - p) 0 else l.getD p 0):=by
 unfold a1o
 rw [lba,lbh h];rfl
theorem aW8 {l:List Int}:a1o l 0=l:=by
 apply List.ext_getElem?
 intro p
 by_cases h:p<l.length
 ·rw [a1D h,if_neg (by omega),lbl,lbf h];rfl
 ·rw [lbd (by rw [a0t];omega),lbd (by omega)]
theorem b2o {l:List Int} {k:Nat} (h:l.length<=2*k+1):a1o l k=l.reverse:=by
 apply List.ext_getElem?
 intro p
 by_cases hp:p<l.length
 ·rw [a1D hp,List.getElem?_reverse hp]
  by_cases hc:p<k∨l.length - 1 - p<k
  ·rw [if_pos hc,lbl,lbf (by omega)];rfl
  ·rw [if_neg hc,lbl,show l.length - 1 - p=p by omega,lbf hp];rfl
 ·rw [lbd (by rw [a0t];omega),lbd (by simp;omega)]
theorem aZ4 {l:List Int} {k:Nat} {a b:Int} (h:2*k+1<l.length) (ha:(a1o l k)[k]? =some a) (hb:(a1o l k)[l.length - 1 - k]? =some b):((a1o l k).set k b).set (l.length - 1 - k) a=a1o l (k+1):=by
 apply List.ext_getElem?
 intro p
 by_cases hp:p<l.length
 ·rw [a1D (by omega),if_neg (by omega)] at ha
  rw [a1D (by omega),if_neg (by omega)] at hb
  injection ha with ha
  injection hb with hb
  rw [a1D hp]
  by_cases h1:p=l.length - 1 - k
  ·subst h1
   rw [List.getElem?_set_self (by simp [a0t];omega),if_pos (by omega),←ha]
   congr 2;omega
  ·rw [List.getElem?_set_ne (by omega)]
   by_cases h2:p=k
   ·subst h2
    rw [List.getElem?_set_self (by rw [a0t];omega),if_pos (by omega),←hb]
   ·rw [List.getElem?_set_ne (by omega),a1D hp]
    have:(p<k∨l.length - 1 - p<k)↔(p<k+1∨l.length - 1 - p<k+1):=by omega
    simp only [this]
 ·rw [lbd (by simp [a0t];omega),lbd (by rw [a0t];omega)]
theorem b3D (l:List Int) (h1:l.length<=1000000):a9 Tryz.prog 196 [M4 0 l] [k8 l] (.tup []) [k8 l.reverse]:=by
 (refine ac Tryz.func196 ?_;(conv=>whnf);repeat (refine zy ?_;conv=>whnf))
 repeat' (first|refine zx ?_|refine zd ?_ ?_<;>intro h<;>try omega|fail)<;>conv=>whnf
 refine n8 c8 (fun k:Nat=>([S.c (C.own 0 0 l.length true),J,a7 .i64 k,a7 .i64 ((l.length:Int) - 1 - k)]++Jn 24,[k8 (a1o l k)])) (fun k=>2*k<=l.length) (fun k=>l.length - k) 0 [some 0] (by omega)
  ⟨rfl,rfl,⟨a8 rfl rfl rfl ?_ rfl,trivial⟩,⟨⟨rfl,rfl,rfl,fun h=>h⟩,b8 rfl,b8 (by omega),trivial⟩⟩ ?_
 ·rw [aW8]
 intro k hk
 have hl:=a0t (l:=l) (k:=k)
 conv=>whnf
 repeat' (first|refine zx ?_|refine zd ?_ ?_<;>intro h<;>try omega|fail)<;>conv=>whnf
 ·obtain ⟨a,ha⟩:∃a,(a1o l k)[0+(k:Int).toNat]? =some a:=⟨_,lbf (by omega)⟩
  obtain ⟨b,hb⟩:∃a,(a1o l k)[0+((l.length:Int) - 1 - k).toNat]? =some a:=⟨_,lbf (by omega)⟩
  repeat' (first|refine zx ?_|refine qp (2,3) ?_|refine o5 ha ?_|refine o5 hb ?_|refine aJ4 (by omega) hb ?_|refine bl0 [2,3] ?_|refine zd ?_ ?_<;>intro h<;>try omega|fail)<;>conv=>whnf
  refine ⟨[some 0],k+1,⟨rfl,rfl,⟨a8 rfl rfl rfl ?_ rfl,trivial⟩,⟨⟨rfl,rfl,rfl,fun h=>h⟩,rfl,b8 (by omega),trivial⟩⟩,by omega,by omega⟩
  have ha':(a1o l k)[k]? =some a:=by rw [← ha];congr 1;omega
  have hb':(a1o l k)[l.length - 1 - k]? =some b:=by rw [← hb];congr 1;omega
  have e:=aZ4 (by omega) ha' hb'
  show ((toC ((a1o l k).map c9)).set (0+(k:Int).toNat) [C.t (ti b)]).set (0+((l.length:Int) - 1 - k).toNat) [C.t (ti a)]=_
  rw [show 0+(k:Int).toNat=k by omega,show 0+((l.length:Int) - 1 - k).toNat=l.length - 1 - k by omega,←e]
  simp [toC,c9,List.map_set]
 ·refine ⟨⟨[some 0],rfl,rfl,⟨a8 rfl rfl rfl rfl ?_,trivial⟩,trivial⟩⟩
  rw [b2o (by omega)]
theorem b41 {e:Ev} {bl:List Bool} {m:Nat} {x:n9} (h:e.moves[m]? =some x):L1 e bl m=m8 (a2e e bl x.dst m) 0 e.moves:=by
 unfold L1;simp [h]
theorem b8y (e:Ev) (hs:e.Sized) (bl:List Bool) (m:Int) (h0:0<=m) (h1:m.toNat<e.moves.length) (hb:bl.length=e.moves.length):
 a9 Tryz.prog 195 [evS e,a7 .i64 m,G8 bl] [] (d6 (L1 e bl m)) []:=by
 obtain ⟨n,rfl⟩:=Int.eq_ofNat_of_zero_le h0
 obtain ⟨x,hx⟩:∃x,e.moves[n]? =some x:=⟨_,lbf (by simpa using h1)⟩
 rw [b41 hx]
 exact b9d e hs bl n x hx hb
theorem b6U (e:Ev) (hs:e.Sized) (fr t:Nat) (bl:List Bool) (hf:fr<e.moves.length) (ht:t<e.moves.length) (hb:bl.length=e.moves.length) (hbf0:bl.getD fr true=false):
 a9 Tryz.prog 118 [evS e,a7 .i64 fr,a7 .i64 t,G8 bl] [] (d6 (M3 e bl fr t)) []:=by
 have l1:=hs.s2
 have l2:(e.moves.map n9.row).length=e.moves.length:=by simp
 have l3:(bl.map R3).length=bl.length:=by simp
 have f1:=a6J e fr bl
 have hfit:N7 e fr bl=true:=S9.2 (by omega)
 rw [hfit] at f1
 have f2:=a6J e t bl
 have hfit2:N7 e t bl=true:=S9.2 (by omega)
 rw [hfit2] at f2
 have hbx:bl[fr]? =some false:=by
  obtain ⟨b,hb⟩:∃b,bl[fr]? =some b:=⟨_,lbf (by omega)⟩
  rw [lbl,hb] at hbf0
  rw [hb];exact congrArg some hbf0
 have rp:=b4e (-1) (e.moves.map n9.row).length (by omega) (by omega)
 have hN:((e.moves.map n9.row).length:Int).toNat=e.moves.length:=by omega
 rw [hN] at rp
 (refine ac Tryz.func118 ?_;(conv=>whnf);repeat (refine zy ?_;conv=>whnf))
 repeat' (first|refine zx ?_|refine qp f1 ?_|refine qp f2 ?_|refine b9 hbx ?_|refine zd ?_ ?_<;>intro h<;>try omega|fail)<;>conv=>whnf
 refine .inr ⟨_,_,O6 (H':=[evB e,k8 (List.replicate e.moves.length (-1))]) [] rp rfl rfl rfl List.nodup_nil (by simp) (by simp) (by simp) rfl rfl rfl ?_ ?_,?_⟩
 ·intro i k hk
  match i,hk with
  |0,hk=>
   injection hk with hk
   subst hk
   exact ⟨_,rfl,C0 rfl⟩
 ·intro j hj _
  match j,hj with
  |0,_=>rfl
 conv=>whnf
 have hg0:=a9q (e:=e) (fr:=(fr:Int)) (by omega) (by simpa using hf)
 have hst:(S4 e fr).bef=(List.replicate e.moves.length (-1:Int)).set fr fr:=by simp [S4]
 obtain ⟨a0,ha0⟩:∃a,(List.replicate e.moves.length (-1:Int))[0+(fr:Int).toNat]? =some a:=⟨_,lbf (by simp;omega)⟩
 repeat' (first|refine zz ?_|refine a2n.own ?_|refine o5 ha0 ?_|refine U1 (by omega) (by simp;omega) ?_|refine zd ?_ ?_<;>intro h<;>try omega|refine zy ?_|fail)<;>conv=>whnf
 refine n8 c8 (σ:=Nat × BQ × Nat) (fun|(f,s,b)=>([J,a7 .i64 fr,a7 .i64 t,G8 bl,S.c (C.ptr 0 0 0),J,J,J,J,M4 1 s.bef,M4 2 s.que,a7 .i64 b]++Jn 115,[evB e,k8 s.bef,b58 s.que]))
  (fun x=>E0 e.moves.length fr x.2.1∧a8U e bl fr t=a2z e bl t x.1 x.2.1 x.2.2∧x.2.2<=x.2.1.que.length∧e.moves.length<x.1+x.2.2) (fun x=>x.1) (e.moves.length+1,S4 e fr,0) [some 0,some 1,some 2]
  ⟨hg0,rfl,by simp,by simp⟩ ⟨rfl,rfl,⟨⟨rfl,rfl,rfl,.inl ⟨rfl,j7 e⟩⟩,a8 rfl rfl rfl ?_ rfl,a8 rfl rfl rfl rfl rfl,trivial⟩,⟨rfl,rfl,g6 rfl,⟨rfl,rfl,rfl⟩,f8 rfl ?_,f8 rfl rfl,b8 rfl,trivial⟩⟩ ?_
 ·rw [hst]
  show (toC ((List.replicate e.moves.length (-1)).map c9)).set (0+(fr:Int).toNat) [C.t (ti fr)]=_
  rw [show 0+(fr:Int).toNat=fr by omega]
  simp [toC,c9,List.map_set]
 ·rw [hst];simp
 rintro ⟨f,s,b⟩ ⟨hg,hbf,hbl,hfb⟩
 have hbl:b<=s.que.length:=hbl
 have hfb:e.moves.length<f+b:=hfb
 have hg:E0 e.moves.length fr s:=hg
 have hbf:a8U e bl fr t=a2z e bl t f s b:=hbf
 have hsl:=hg.len
 have hroom:=hg.room
 obtain ⟨at0,hat0⟩:∃a,s.bef[0+(t:Int).toNat]? =some a:=⟨_,lbf (by omega)⟩
 have hgt:s.bef.getD (t:Int).toNat 0=at0:=by rw [Nat.zero_add] at hat0;rw [lbl,hat0];rfl
 conv=>whnf
 repeat' (first|refine zz ?_|refine o5 hat0 ?_|refine U1 (by omega) (by show _<((s.bef.length:Nat):Int);omega) ?_|refine al4 (by omega) (by omega) rfl (by omega) ?_|refine a2n.own ?_|refine zd ?_ ?_<;>intro h<;>try omega|refine zy ?_|fail)<;>conv=>whnf
 ·have hat1:s.bef.getD (t:Int).toNat 0=-1:=by rw [hgt];omega
  have hblt:b<s.que.length:=by have:=‹(b:Int)<_›;omega
  obtain ⟨f,rfl⟩:∃k,f=k+1:=⟨f - 1,by omega⟩
  rw [aQ3 ⟨hblt,hat1⟩] at hbf
  let lev:List Int:=s.que.drop b
  have hlev:lev.length=s.que.length - b:=by simp [lev]
  let sa:Nat->BQ:=fun a=>(lev.take a).foldl (a2P e bl) s
  have hga:∀a,E0 e.moves.length fr (sa a)∧∀v,OkQ e.moves.length fr s v->OkQ e.moves.length fr (sa a) v:=fun a=>
   hg.stepMs (fun m hm=>hg.que m (List.mem_of_mem_drop (List.mem_of_mem_take hm)))
  refine d8 c8 (fun a=>([J,a7 .i64 fr,a7 .i64 t,G8 bl,S.c (C.ptr 0 0 0),J,J,J,J,M4 1 (sa a).bef,M4 2 (sa a).que,a7 .i64 s.que.length]++Jn 55++[S.c (C.own 3 b (s.que.length - b) false),a7 .i64 ((s.que.length - b:Nat):Int),a7 .i64 a]++Jn 57,[evB e,k8 (sa a).bef,b58 (sa a).que,b8P s.que])) (s.que.length - b) (fun k=>True) [some 0,some 1,some 2,some 2] trivial
   ⟨rfl,rfl,⟨⟨rfl,rfl,rfl,.inl ⟨rfl,j7 e⟩⟩,a8 rfl rfl rfl rfl rfl,a8 rfl rfl rfl rfl rfl,a8 rfl rfl rfl rfl rfl,trivial⟩,⟨rfl,rfl,g6 rfl,⟨rfl,rfl,rfl⟩,f8 rfl rfl,f8 rfl rfl,b8 rfl,⟨rfl,?_,?_,fun h=>h⟩,b8 ?_,b8 rfl,trivial⟩⟩ ?_
  ·show 0+(b:Int).toNat=b
   omega
  ·omega
  ·omega
  intro a ha hI
  obtain ⟨hgA,hokA⟩:=hga a
  have hroomA:=hgA.room
  conv=>whnf
  repeat' (first|refine zx ?_|refine zd ?_ ?_<;>intro h<;>try omega|fail)<;>conv=>whnf
  ·have hlt:a<s.que.length - b:=by omega
   obtain ⟨v,hv⟩:∃v,s.que[b+(a:Int).toNat]? =some v:=⟨_,lbf (by omega)⟩
   have hva:lev[a]? =some v:=by show (s.que.drop b)[a]? =_;rw [lbj,←hv];congr 1
   have hvq:v ∈ s.que:=lbm hv
   have hov:=hokA v (hg.que v hvq)
   have hsa1:sa (a+1)=a2P e bl (sa a) v:=a4q hva
   let ks:=L1 e bl v
   have nx:=b8y e hs bl v hov.1 hov.2.1 hb
   let tc:Nat->BQ:=fun c=>(ks.take c).foldl (P2 v) (sa a)
   have hgc:∀c,E0 e.moves.length fr (tc c)∧∀u,OkQ e.moves.length fr (sa a) u->OkQ e.moves.length fr (tc c) u:=fun c=>hgA.stepKs hov (fun k hk=>by
    have:=a35 hov.1 (List.mem_of_mem_take hk)
    exact ⟨this.2.1,this.2.2⟩)
   have hkl:ks.length<=e.moves.length:=by
    show (L1 e bl v).length<=_
    unfold L1
    split
    ·exact P7 _ _ _
    ·simp
   have lks:(ks.map c9).length=ks.length:=by simp
   have lks':(((ks.map c9).length:Nat):Int)=(ks.length:Nat):=by rw [lks]
   refine b7a hv ?_
   conv=>whnf
   repeat' (first|refine zx ?_|refine qp nx ?_|refine zd ?_ ?_<;>intro h<;>try omega|fail)<;>conv=>whnf
   refine d8 c8 (fun c=>([J,a7 .i64 fr,a7 .i64 t,G8 bl,S.c (C.ptr 0 0 0),J,J,J,J,M4 1 (tc c).bef,M4 2 (tc c).que,a7 .i64 s.que.length,J,J,a7 .i64 v]++Jn 52++[S.c (C.own 3 b (s.que.length - b) false),a7 .i64 ((s.que.length - b:Nat):Int),a7 .i64 a,J,J,J,J,J,J,d6 ks,a7 .i64 ks.length,a7 .i64 c]++Jn 48,[evB e,k8 (tc c).bef,b58 (tc c).que,b8P s.que])) ks.length (fun k=>True) [some 0,some 1,some 2,some 3] trivial
    ⟨rfl,rfl,⟨⟨rfl,rfl,rfl,.inl ⟨rfl,j7 e⟩⟩,a8 rfl rfl rfl rfl rfl,a8 rfl rfl rfl rfl rfl,a8 rfl rfl rfl rfl rfl,trivial⟩,⟨rfl,rfl,g6 rfl,⟨rfl,rfl,rfl⟩,f8 rfl rfl,f8 rfl rfl,b8 rfl,b8 rfl,⟨rfl,rfl,rfl,fun h=>h⟩,b8 rfl,b8 rfl,g6 rfl,b8 lks',b8 rfl,trivial⟩⟩ ?_
   intro c hc hI
   obtain ⟨hgC,hokC⟩:=hgc c
   have hroomC:=hgC.room
   have hlenC:=hgC.len
   conv=>whnf
   repeat' (first|refine zx ?_|refine zd ?_ ?_<;>intro h<;>try omega|fail)<;>conv=>whnf
   ·have hlt2:c<ks.length:=by omega
    obtain ⟨k,hk⟩:∃k,ks[c]? =some k:=⟨_,lbf hlt2⟩
    have hkm:=a35 hov.1 (lbm hk)
    have htc1:tc (c+1)=P2 v (tc c) k:=a4q hk
    obtain ⟨bk,hbk⟩:∃a,(tc c).bef[0+k.toNat]? =some a:=⟨_,lbf (by omega)⟩
    have hgk:(tc c).bef.getD k.toNat 0=bk:=by rw [Nat.zero_add] at hbk;rw [lbl,hbk];rfl
    repeat' (first|refine zx ?_|refine qp toC ?_|refine qp toC ?_|refine b9 hk ?_|refine o5 hbk ?_|refine U1 (by omega) (by show _<(((tc c).bef.length:Nat):Int);omega) ?_|refine b6D (by simp [toC]) (by simp [toC];omega) ?_|refine zd ?_ ?_<;>intro h<;>try omega|fail)<;>conv=>whnf
    ·have hbk1:(tc c).bef.getD k.toNat 0=-1:=by rw [hgk];assumption
     have hv1:tc (c+1)=⟨(tc c).bef.set k.toNat v,(tc c).que++[k]⟩:=by rw [htc1];unfold P2;rw [if_pos hbk1]
     refine ⟨hlt2,trivial,[some 0,some 1,some 4,some 3],rfl,rfl,⟨⟨rfl,rfl,rfl,.inl ⟨rfl,j7 e⟩⟩,a8 rfl rfl rfl ?_ rfl,a8 rfl rfl rfl ?_ rfl,a8 rfl rfl rfl rfl rfl,trivial⟩,⟨rfl,rfl,rfl,⟨rfl,rfl,rfl⟩,f8 rfl ?_,f8 rfl ?_,rfl,rfl,⟨rfl,rfl,rfl,fun h=>h⟩,rfl,rfl,rfl,rfl,rfl,trivial⟩⟩
     ·rw [hv1];simp [toC,c9,List.map_set,t8]
     ·rw [hv1];simp [toC,c9,a3x,b5n]
     ·rw [hv1];simp
     ·rw [hv1];simp [toC]
    ·have hbk1:¬(tc c).bef.getD k.toNat 0=-1:=by rw [hgk];assumption
     have hv1:tc (c+1)=tc c:=by rw [htc1];unfold P2;rw [if_neg hbk1]
     refine ⟨hlt2,trivial,[some 0,some 1,some 2,some 3],rfl,rfl,⟨⟨rfl,rfl,rfl,.inl ⟨rfl,j7 e⟩⟩,a8 rfl rfl rfl ?_ rfl,a8 rfl rfl rfl ?_ rfl,a8 rfl rfl rfl rfl rfl,trivial⟩,⟨rfl,rfl,rfl,⟨rfl,rfl,rfl⟩,f8 rfl ?_,f8 rfl ?_,rfl,rfl,⟨rfl,rfl,rfl,fun h=>h⟩,rfl,rfl,rfl,rfl,rfl,trivial⟩⟩
     all_goals rw [hv1]
   ·have hck:tc c=sa (a+1):=by
     rw [hsa1]
     show (ks.take c).foldl _ _=ks.foldl _ _
     rw [lbn (by omega)]
    refine ⟨hlt,trivial,[some 0,some 1,some 2,some 3],rfl,rfl,⟨⟨rfl,rfl,rfl,.inl ⟨rfl,j7 e⟩⟩,a8 rfl rfl rfl ?_ rfl,a8 rfl rfl rfl ?_ rfl,a8 rfl rfl rfl rfl rfl,trivial⟩,⟨rfl,rfl,rfl,⟨rfl,rfl,rfl⟩,f8 rfl ?_,f8 rfl ?_,rfl,⟨rfl,rfl,rfl,fun h=>h⟩,rfl,rfl,trivial⟩⟩
    all_goals rw [hck]
  ·have hra:sa a=a4C e bl s b:=by
    show (lev.take a).foldl _ _=lev.foldl _ _
    rw [lbn (by omega)]
   refine ⟨[some 0,some 1,some 2],(f,a4C e bl s b,s.que.length),⟨rfl,rfl,⟨⟨rfl,rfl,rfl,.inl ⟨rfl,j7 e⟩⟩,a8 rfl rfl rfl ?_ rfl,a8 rfl rfl rfl ?_ rfl,trivial⟩,⟨rfl,rfl,rfl,⟨rfl,rfl,rfl⟩,f8 rfl ?_,f8 rfl ?_,rfl,trivial⟩⟩,⟨hg.stepR b,hbf,a9n,?_⟩,?_⟩
   ·rw [hra]
   ·rw [hra]
   ·rw [hra]
   ·rw [hra]
   ·show e.moves.length<f+s.que.length
    omega
   ·show f<f+1
    omega
 all_goals
  have hfs:a8U e bl fr t=s:=by
   rw [hbf]
   refine ac8 ?_
   rw [hgt]
   omega
  have hpf:M3 e bl fr t=if at0=-1 then [] else (E7 s.bef fr (t+1) t).reverse:=by
   unfold M3
   rw [if_pos ⟨hfit,hfit2,by simpa using hbf0⟩,hfs,hgt]
   rfl
  rw [hpf]
 rotate_left
 ·rw [if_pos (by assumption)]
  exact k9 rfl
 all_goals
  have hat2:at0≠-1:=by assumption
  have hgt2:s.bef.getD t 0≠-1:=by have:=hgt;simp only [lbY] at this;rw [this];exact hat2
  rw [if_neg hat2]
  have hokt:OkQ e.moves.length fr s t:=⟨by omega,by simpa using ht,hg.ge t ht hgt2,by simpa using hgt2⟩
  refine n8 c8 (σ:=List Int × Int) (fun|(acc,v)=>([J,a7 .i64 fr,J,J,J,J,J,J,J,M4 0 s.bef,J,J,J,J,J,J,J,M4 1 (acc++[v])]++Jn 109,[k8 s.bef,k8 (acc++[v])])) (fun x=>OkQ e.moves.length fr s x.2∧E7 s.bef fr (t+1) t=x.1++E7 s.bef fr (x.2.toNat+1) x.2∧x.1.length+x.2.toNat<=t) (fun x=>x.2.toNat) ([],(t:Int)) [some 1,some 3]
   ⟨hokt,rfl,by simp⟩ ⟨rfl,rfl,⟨a8 rfl rfl rfl rfl rfl,a8 rfl rfl rfl rfl rfl,trivial⟩,⟨rfl,f8 rfl rfl,f8 rfl rfl,trivial⟩⟩ ?_
  rintro ⟨acc,v⟩ ⟨hov,hback,hlen⟩
  have hov:OkQ e.moves.length fr s v:=hov
  have hback:E7 s.bef fr (t+1) t=acc++E7 s.bef fr (v.toNat+1) v:=hback
  have hlen:acc.length+v.toNat<=t:=hlen
  have hov1:=hov.1
  have hov2:=hov.2.1
  have hpl:(acc++[v]).length=acc.length+1:=by simp
  have hpv:(acc++[v])[0+((((acc++[v]).length:Nat):Int) - 1).toNat]? =some v:=by
   rw [show 0+((((acc++[v]).length:Nat):Int) - 1).toNat=acc.length by omega];simp
  obtain ⟨u,hu⟩:∃a,s.bef[0+v.toNat]? =some a:=⟨_,lbf (by omega)⟩
  conv=>whnf
  repeat' (first|refine zx ?_|refine qp toC ?_|refine qp toC ?_|refine o5 hpv ?_|refine o5 hu ?_|refine o8 (by simp [toC]) (by simp [toC];omega) ?_|refine zd ?_ ?_<;>intro h<;>try omega|fail)<;>conv=>whnf
  ·have hne:v≠fr:=by assumption
   have hbv:E7 s.bef fr (v.toNat+1) v=v::E7 s.bef fr v.toNat (s.bef.getD v.toNat 0):=by rw [E7,if_neg hne]
   have hgu:s.bef.getD v.toNat 0=u:=by rw [Nat.zero_add] at hu;rw [lbl,hu];rfl
   rcases hg.bef v.toNat hov.2.1 hov.2.2.2 with h1|⟨h1,h2,h3,h4⟩
   ·omega
   ·rw [hgu] at h1 h2 h3
    obtain ⟨w,rfl⟩:=Int.eq_ofNat_of_zero_le h1
    refine ⟨[some 0,some 2],(acc++[v],(w:Int)),⟨rfl,rfl,⟨a8 rfl rfl rfl rfl rfl,a8 rfl rfl rfl ?_ rfl,trivial⟩,⟨rfl,f8 rfl rfl,f8 rfl ?_,trivial⟩⟩,⟨⟨h1,by omega,?_,h3⟩,?_,?_⟩,?_⟩
    ·exact b1q (f:=c9) (xs:=acc++[v]) (x:=(w:Int))
    ·simp [toC]
    ·exact hg.ge w (by omega) (by simpa using h3)
    ·rw [hback,hbv,hgu,lbD]
     show _=acc++(v::E7 s.bef fr ((w:Int).toNat+1) w)
     rw [at8 hg w v.toNat ((w:Int).toNat+1) (by omega) (by simpa using h3) (by omega) (by omega)]
    ·show (acc++[v]).length+(w:Int).toNat<=t
     simp;omega
    ·show (w:Int).toNat<v.toNat
     omega
  ·have hvf:v=fr:=by omega
   subst hvf
   refine .inr ⟨_,_,O6 (H':=[k8 s.bef,k8 (acc++[(fr:Int)]).reverse]) [1] (b3D (acc++[(fr:Int)]) (by omega)) rfl rfl rfl (by decide) ?_ (by simp) (by simp) rfl rfl rfl ?_ ?_,?_⟩
   ·intro i k hk
    match i,hk with
    |0,hk=>
     injection hk with hk
     subst hk
     exact ⟨rfl,rfl,a2i _,_,rfl,C0 rfl⟩
   ·intro i k hk
    match i,hk with
    |0,hk=>
     injection hk with hk
     subst hk
     exact ⟨_,rfl,C0 rfl⟩
   ·intro j hj hn
    match j,hj,hn with
    |0,_,_=>rfl
    |1,_,hn=>simp at hn
   conv=>whnf
   repeat' (first|refine zx ?_|refine zd ?_ ?_<;>intro h<;>try omega|fail)<;>conv=>whnf
   refine k9 (a2a (app:=true) rfl rfl (by intro h;cases h) rfl ?_ ?_)
   ·rw [hback]
    show toC (((acc++[(fr:Int)]).reverse).map c9)=toC ((acc++E7 s.bef fr ((fr:Int).toNat+1) fr).reverse.map c9)
    rw [E7,if_pos rfl]
   ·rw [hback,E7,if_pos rfl];simp
theorem bc1 (e:Ev) (hs:e.Sized) (fr t:Int) (bl:List Bool):a9 Tryz.prog 118 [evS e,a7 .i64 fr,a7 .i64 t,G8 bl] [] (d6 (M3 e bl fr t)) []:=by
 have f1:=a6J e fr bl
 have f2:=a6J e t bl
 cases hfit:N7 e fr bl with
 |false=>
  rw [hfit] at f1
  have hp:M3 e bl fr t=[]:=by unfold M3;rw [if_neg (by simp [hfit])]
  rw [hp]
  (refine ac Tryz.func118 ?_;(conv=>whnf);repeat (refine zy ?_;conv=>whnf))
  repeat' (first|refine zx ?_|refine qp f1 ?_|refine zd ?_ ?_<;>intro h<;>try omega|fail)<;>conv=>whnf
  all_goals first|(exfalso;simp_all;done)|exact k9 rfl
 |true=>
  rw [hfit] at f1
  cases hfit2:N7 e t bl with
  |false=>
   rw [hfit2] at f2
   have hp:M3 e bl fr t=[]:=by unfold M3;rw [if_neg (by simp [hfit2])]
   rw [hp]
   (refine ac Tryz.func118 ?_;(conv=>whnf);repeat (refine zy ?_;conv=>whnf))
   repeat' (first|refine zx ?_|refine qp f1 ?_|refine qp f2 ?_|refine zd ?_ ?_<;>intro h<;>try omega|fail)<;>conv=>whnf
   all_goals first|(exfalso;simp_all;done)|exact k9 rfl
  |true=>
   rw [hfit2] at f2
   obtain ⟨⟨h1,h2⟩,h3⟩:=S9.1 hfit
   obtain ⟨⟨h4,h5⟩,_⟩:=S9.1 hfit2
   obtain ⟨n,rfl⟩:=Int.eq_ofNat_of_zero_le h1
   obtain ⟨q,rfl⟩:=Int.eq_ofNat_of_zero_le h4
   obtain ⟨b,hb⟩:∃b,bl[n]? =some b:=⟨_,lbf (by omega)⟩
   have hg:bl.getD n true=b:=by rw [lbl,hb];rfl
   cases b with
   |false=>exact b6U e hs n q bl (by omega) (by omega) (by omega) hg
   |true=>
    have hp:M3 e bl n q=[]:=by unfold M3;rw [if_neg (by simp only [lbY,hg];simp)]
    rw [hp]
    (refine ac Tryz.func118 ?_;(conv=>whnf);repeat (refine zy ?_;conv=>whnf))
    repeat' (first|refine zx ?_|refine qp f1 ?_|refine qp f2 ?_|refine b9 hb ?_|refine zd ?_ ?_<;>intro h<;>try omega|fail)<;>conv=>whnf
    all_goals first|(exfalso;simp_all;done)|exact k9 rfl
def a5r:List Int->List Int->Bool
 |x::a,y::b=>if x=y then a5r a b else decide (x<y)
 |_,_=>false
def bj0 (a b:List Int):Bool:=if b=[]∨a.length≠b.length then decide (b=[]) || decide (a.length<b.length) else a5r a b
end Go.Proofs.YtdbogogfeffjlaaGreat
