/- Part 13. -/
import Derived.Shelf.SlSortCmp.WholeK
import Derived.Shelf.SlSortCmp.NoneTotal
import Derived.Shelf.SlLaysF0
import Derived.Shelf.Lays
import Derived.Shelf.Lays2
import Derived.Test.YtaejgdbahjjncaaGreatUj12
namespace Go.Proofs.YtaejgdbahjjncaaGreat
set_option linter.unusedVariables false
set_option linter.unusedSimpArgs false
set_option maxRecDepth 100000
open Go.RowKit
open St1 St2 St3 St4 St5 St6 St7 St8 StA StB
theorem as1 {t:Int × Rat} {r:List (Int × Rat)} (h:∀u ∈ r,u.1.toNat≠t.1.toNat) (v:Nat):∀k,k<=r.length->L8 (t::r) (k+1) v=if v=t.1.toNat then t.2 else L8 r k v
 |0,_=>by
  rw [K4 (l:=t::r) (k:=0) (t:=t) rfl]
  simp only
  by_cases h1:v=t.1.toNat
  ·rw [if_pos h1,if_pos h1]
  ·rw [if_neg h1,if_neg h1]
   rfl
 |k+1,hk=>by
  have hx:r[k]? =some r[k]:=lbf (by omega)
  have hne:=h _ (lbm hx)
  rw [K4 (l:=t::r) (k:=k+1) (t:=r[k]) (by simp),K4 hx]
  have ih:=as1 h v k (by omega)
  simp only
  rw [ih]
  by_cases h1:v=t.1.toNat
  ·rw [if_pos h1,if_pos h1,if_neg (by omega)]
  ·rw [if_neg h1,if_neg h1]
theorem A0 {last n:Int} {t:Int × Rat} {r:List (Int × Rat)} (h0:-1<=last) (h:d8 last n (t::r)=true) (v:Nat):C6 (t::r) v=if v=t.1.toNat then t.2 else C6 r v:=by
 refine as1 (fun u hu=>?_) v r.length (lbQ _)
 obtain ⟨j,hj,he⟩:=List.getElem_of_mem hu
 have h1:=a23 h 0 (j+1) t u (by omega) rfl (by simp [he,hj])
 have h2:=p6 h t (List.mem_cons_self ..)
 omega
theorem B9 {last n:Int} {t:Int × Rat} {r:List (Int × Rat)} (h:d8 last n (t::r)=true):d8 t.1 n r=true:=by
 unfold d8 at h
 simp only [lbM] at h
 exact h.2
theorem aH2 {last last' n:Int} (hl:last'<=last) {l:List (Int × Rat)} (h:d8 last n l=true):d8 last' n l=true:=by
 cases l with
 |nil=>rfl
 |cons t r=>
  unfold d8 at h ⊢
  simp only [lbM,lbI] at h ⊢
  exact ⟨⟨⟨by omega,h.1.1.2⟩,h.1.2⟩,h.2⟩
theorem Y5 {last n:Int} {l:List (Int × Rat)} (h0:-1<=last) (h:d8 last n l=true) {v:Nat} (hv:(v:Int)<=last):C6 l v=0:=by
 refine a0w _ fun i t hi ht e=>?_
 have:=p6 h t (lbm ht)
 omega
def a9t (a b:List (Int × Rat)):Prop:=∀v,C6 a v<=C6 b v
theorem aO9 {last n:Int} {t:Int × Rat} {r b:List (Int × Rat)} (h0:-1<=last) (ha:d8 last n (t::r)=true) (hb:d8 t.1 n b=true):a9t (t::r) b↔t.2<=0∧a9t r b:=by
 have hm:=p6 ha t (List.mem_cons_self ..)
 have z1:=Y5 (v:=t.1.toNat) (by omega) hb (by omega)
 have z2:=Y5 (v:=t.1.toNat) (by omega) (B9 ha) (by omega)
 constructor
 ·intro h
  refine ⟨?_,fun v=>?_⟩
  ·have:=h t.1.toNat
   rw [A0 h0 ha,if_pos rfl,z1] at this
   exact this
  ·by_cases hv:v=t.1.toNat
   ·subst hv;rw [z1,z2];exact lb1
   ·have:=h v
    rwa [A0 h0 ha,if_neg hv] at this
 ·rintro ⟨h1,h2⟩ v
  rw [A0 h0 ha]
  by_cases hv:v=t.1.toNat
  ·rw [if_pos hv,hv,z1];exact h1
  ·rw [if_neg hv];exact h2 v
theorem ap2 {last n:Int} {u:Int × Rat} {a q:List (Int × Rat)} (h0:-1<=last) (hb:d8 last n (u::q)=true) (ha:d8 u.1 n a=true):a9t a (u::q)↔0<=u.2∧a9t a q:=by
 have hm:=p6 hb u (List.mem_cons_self ..)
 have z1:=Y5 (v:=u.1.toNat) (by omega) ha (by omega)
 have z2:=Y5 (v:=u.1.toNat) (by omega) (B9 hb) (by omega)
 constructor
 ·intro h
  refine ⟨?_,fun v=>?_⟩
  ·have:=h u.1.toNat
   rw [A0 h0 hb,if_pos rfl,z1] at this
   exact this
  ·by_cases hv:v=u.1.toNat
   ·subst hv;rw [z1,z2];exact lb1
   ·have:=h v
    rwa [A0 h0 hb,if_neg hv] at this
 ·rintro ⟨h1,h2⟩ v
  rw [A0 h0 hb]
  by_cases hv:v=u.1.toNat
  ·rw [if_pos hv,hv,z1];exact h1
  ·rw [if_neg hv];exact h2 v
theorem b5G {last n:Int} {t u:Int × Rat} {r q:List (Int × Rat)} (h0:-1<=last) (ha:d8 last n (t::r)=true) (hb:d8 last n (u::q)=true) (he:t.1=u.1):a9t (t::r) (u::q)↔t.2<=u.2∧a9t r q:=by
 have hm:=p6 ha t (List.mem_cons_self ..)
 have z1:=Y5 (v:=t.1.toNat) (by omega) (B9 ha) (by omega)
 have z2:=Y5 (v:=t.1.toNat) (by omega) (B9 hb) (by omega)
 constructor
 ·intro h
  refine ⟨?_,fun v=>?_⟩
  ·have:=h t.1.toNat
   rwa [A0 h0 ha,A0 h0 hb,if_pos rfl,if_pos (by rw [he])] at this
  ·by_cases hv:v=t.1.toNat
   ·subst hv;rw [z1,z2];exact lb1
   ·have:=h v
    rwa [A0 h0 ha,A0 h0 hb,if_neg hv,if_neg (by rw [← he];exact hv)] at this
 ·rintro ⟨h1,h2⟩ v
  rw [A0 h0 ha,A0 h0 hb,←he]
  by_cases hv:v=t.1.toNat
  ·rw [if_pos hv,if_pos hv];exact h1
  ·rw [if_neg hv,if_neg hv];exact h2 v
open Classical in
noncomputable def al0 (a b:List (Int × Rat)):Bool:=decide (a9t a b)
theorem a4G {a b:List (Int × Rat)}:al0 a b=true↔a9t a b:=by unfold al0;simp
theorem a6V {a b a' b':List (Int × Rat)} {p:Prop} (h:a9t a b↔p∧a9t a' b') (hp:p):al0 a b=al0 a' b':=by
 rw [Bool.eq_iff_iff,a4G,a4G,h];exact ⟨fun h=>h.2,fun h=>⟨hp,h⟩⟩
theorem a7b {a b a' b':List (Int × Rat)} {p:Prop} (h:a9t a b↔p∧a9t a' b') (hp:¬p):al0 a b=false:=by
 rw [← lbP,a4G,h];exact fun h=>hp h.1
theorem b39 (u:Int × Rat) (q:List (Int × Rat)):T.sl 5 (X2 SK.any none none) (List.drop (Int.toNat 1) (List.take (((((u::q).map j9).length:Nat):Int)).toNat ((u::q).map j9)))=.sl 5 .any (q.map j9):=by
 rw [lbn (by omega)];rfl
set_option maxHeartbeats 8000000 in
theorem b7m (n:Int) (a b:List (Int × Rat)) (ha:d8 (-1) n a=true) (hb:d8 (-1) n b=true) (hn:n<=1500) (ba:∀t ∈ a,rl t.2<=60000) (bb:∀t ∈ b,rl t.2<=60000):
 b7 Tryz.prog 174 [k9 a,k9 b] [] (f7 (al0 a b)) []:=by
 have i0:=D2 0 (by decide) (by decide)
 have r0:=rl0
 (refine ac Tryz.func174 ?_;(conv=>whnf);repeat ((first|refine b0x ?_|refine zy ?_);conv=>whnf))
 repeat' (first|refine zx ?_|refine qp i0 ?_|refine zd ?_ ?_<;>intro h<;>try omega|fail)<;>conv=>whnf
 refine u9 c7 (σ:=Int × List (Int × Rat) × List (Int × Rat)) (fun x=>([k9 x.2.1,k9 x.2.2,J,J,J,S.c (C.ptr 0 0 0)]++Jn 71,[frB (fz ((0:Int):Rat))])) (fun x=>-1<=x.1∧d8 x.1 n x.2.1=true∧d8 x.1 n x.2.2=true∧(∀ t ∈ x.2.1,rl t.2<=60000)∧(∀ t ∈ x.2.2,rl t.2<=60000)∧al0 a b=al0 x.2.1 x.2.2) (fun x=>x.2.1.length+x.2.2.length) (-1,a,b) [some 0]
  ⟨Int.le_refl _,ha,hb,ba,bb,rfl⟩ ⟨rfl,rfl,⟨⟨rfl,rfl,rfl,.inl ⟨rfl,m9 _⟩⟩,trivial⟩,⟨rfl,rfl,⟨rfl,rfl,rfl⟩,trivial⟩⟩ ?_
 rintro ⟨last,a',b'⟩ ⟨h0,h1,h2,h3,h4,h5⟩
 simp only at h0 h1 h2 h3 h4 h5
 rw [h5]
 show a13 _ _ _ _ ([k9 a',k9 b',J,J,J,S.c (C.ptr 0 0 0)]++Jn 71) [frB (fz ((0:Int):Rat))] _
 have ma:(a'.map j9).length=a'.length:=by simp
 have mb:(b'.map j9).length=b'.length:=by simp
 have lena:=D3 h1
 have lenb:=D3 h2
 clear h5
 cases a' with
 |nil=>
  have na:([]:List (Int × Rat)).length=0:=rfl
  cases b' with
  |nil=>
   have e:al0 [] []=true:=a4G.2 fun v=>lb1
   rw [e]
   conv=>whnf
   repeat' (first|refine zx ?_|refine zd ?_ ?_<;>intro h<;>try omega|fail)<;>conv=>whnf
   all_goals first
    |omega
    |exact c9 rfl
  |cons u q=>
   have hm:=p6 h2 u (List.mem_cons_self ..)
   have nb:(u::q).length=q.length+1:=rfl
   have eq:=ap2 (a:=[]) h0 h2 rfl
   have bu:=h4 u (List.mem_cons_self ..)
   have cm:=G6 ((0:Int):Rat) u.2 (by have e:rl ((0:Int):Rat)=rl 0:=rfl;omega) bu
   have k2:=a1Q (x:=((0:Int):Rat)) (y:=u.2)
   generalize a1j ((0:Int):Rat) u.2=U at cm k2
   by_cases hU:U > 0
   ·rw [a7b eq (Rat.not_le.2 (k2.1 hU))]
    clear k2
    conv=>whnf
    repeat' (first|refine zx ?_|refine qp cm ?_|refine qp 0 ?_|refine qp 1 ?_|refine qp (4,5) ?_|refine a14 (by omega) (by omega) (by omega) ?_|refine G8 (k:=0) rfl (show (u::q)[0]? =some u from rfl) ?_|refine bl0 [1] ?_|refine bl0 [4,5] ?_|refine zd ?_ ?_<;>intro h<;>try omega|fail)<;>conv=>whnf
    all_goals first
     |omega
     |exact c9 rfl
   ·rw [a6V eq (lb2.1 fun h=>hU (k2.2 h))]
    clear k2
    conv=>whnf
    repeat' (first|refine zx ?_|refine qp cm ?_|refine qp 0 ?_|refine qp 1 ?_|refine qp (4,5) ?_|refine a14 (by omega) (by omega) (by omega) ?_|refine G8 (k:=0) rfl (show (u::q)[0]? =some u from rfl) ?_|refine bl0 [1] ?_|refine bl0 [4,5] ?_|refine zd ?_ ?_<;>intro h<;>try omega|fail)<;>conv=>whnf
    all_goals first
     |omega
     |exact ⟨[some 0],(u.1,[],q),⟨rfl,rfl,⟨⟨rfl,rfl,rfl,.inl ⟨rfl,m9 _⟩⟩,trivial⟩,⟨rfl,i5 (b39 u q),⟨rfl,rfl,rfl⟩,trivial⟩⟩,⟨by omega,rfl,B9 h2,h3,fun t ht=>h4 t (List.mem_cons_of_mem _ ht),rfl⟩,by simp⟩
 |cons t r=>
  have hm:=p6 h1 t (List.mem_cons_self ..)
  have bt:=h3 t (List.mem_cons_self ..)
  have na:(t::r).length=r.length+1:=rfl
  cases b' with
  |nil=>
   have nb:([]:List (Int × Rat)).length=0:=rfl
   have eq:=aO9 (b:=[]) h0 h1 rfl
   have cm:=G6 t.2 ((0:Int):Rat) bt (by have e:rl ((0:Int):Rat)=rl 0:=rfl;omega)
   have k2:=a1Q (x:=t.2) (y:=((0:Int):Rat))
   generalize a1j t.2 ((0:Int):Rat)=U at cm k2
   by_cases hU:U > 0
   ·rw [a7b eq (Rat.not_le.2 (k2.1 hU))]
    clear k2
    conv=>whnf
    repeat' (first|refine zx ?_|refine qp cm ?_|refine qp 0 ?_|refine qp 1 ?_|refine qp (4,5) ?_|refine a14 (by omega) (by omega) (by omega) ?_|refine G8 (k:=0) rfl (show (t::r)[0]? =some t from rfl) ?_|refine bl0 [1] ?_|refine bl0 [4,5] ?_|refine zd ?_ ?_<;>intro h<;>try omega|fail)<;>conv=>whnf
    all_goals first
     |omega
     |exact c9 rfl
   ·rw [a6V eq (lb2.1 fun h=>hU (k2.2 h))]
    clear k2
    conv=>whnf
    repeat' (first|refine zx ?_|refine qp cm ?_|refine qp 0 ?_|refine qp 1 ?_|refine qp (4,5) ?_|refine a14 (by omega) (by omega) (by omega) ?_|refine G8 (k:=0) rfl (show (t::r)[0]? =some t from rfl) ?_|refine bl0 [1] ?_|refine bl0 [4,5] ?_|refine zd ?_ ?_<;>intro h<;>try omega|fail)<;>conv=>whnf
    all_goals first
     |omega
     |exact ⟨[some 0],(t.1,r,[]),⟨rfl,rfl,⟨⟨rfl,rfl,rfl,.inl ⟨rfl,m9 _⟩⟩,trivial⟩,⟨i5 (b39 t r),rfl,⟨rfl,rfl,rfl⟩,trivial⟩⟩,⟨by omega,B9 h1,rfl,fun t ht=>h3 t (List.mem_cons_of_mem _ ht),h4,rfl⟩,by simp⟩
  |cons u q=>
   have nb:(u::q).length=q.length+1:=rfl
   have hmu:=p6 h2 u (List.mem_cons_self ..)
   have bu:=h4 u (List.mem_cons_self ..)
   rcases Int.lt_trichotomy t.1 u.1 with hlt|he|hgt
   ·have hrb:d8 t.1 n (u::q)=true:=by
     have:=h2
     unfold d8 at this ⊢
     simp only [lbM,lbI] at this ⊢
     exact ⟨⟨⟨by omega,this.1.1.2⟩,this.1.2⟩,this.2⟩
    have eq:=aO9 h0 h1 hrb
    have cm:=G6 t.2 ((0:Int):Rat) bt (by have e:rl ((0:Int):Rat)=rl 0:=rfl;omega)
    have k2:=a1Q (x:=t.2) (y:=((0:Int):Rat))
    generalize a1j t.2 ((0:Int):Rat)=U at cm k2
    by_cases hU:U > 0
    ·rw [a7b eq (Rat.not_le.2 (k2.1 hU))]
     clear k2
     conv=>whnf
     repeat' (first|refine zx ?_|refine qp cm ?_|refine qp 0 ?_|refine qp 0 ?_|refine qp 1 ?_|refine qp (4,5) ?_|refine a14 (by omega) (by omega) (by omega) ?_|refine G8 (k:=0) rfl (show (u::q)[0]? =some u from rfl) ?_|refine G8 (k:=0) rfl (show (t::r)[0]? =some t from rfl) ?_|refine bl0 [1] ?_|refine bl0 [4,5] ?_|refine zd ?_ ?_<;>intro h<;>try omega|fail)<;>conv=>whnf
     all_goals first
      |omega
      |exact c9 rfl
    ·rw [a6V eq (lb2.1 fun h=>hU (k2.2 h))]
     clear k2
     conv=>whnf
     repeat' (first|refine zx ?_|refine qp cm ?_|refine qp 0 ?_|refine qp 0 ?_|refine qp 1 ?_|refine qp (4,5) ?_|refine a14 (by omega) (by omega) (by omega) ?_|refine G8 (k:=0) rfl (show (u::q)[0]? =some u from rfl) ?_|refine G8 (k:=0) rfl (show (t::r)[0]? =some t from rfl) ?_|refine bl0 [1] ?_|refine bl0 [4,5] ?_|refine zd ?_ ?_<;>intro h<;>try omega|fail)<;>conv=>whnf
     all_goals first
      |omega
      |exact ⟨[some 0],(t.1,r,u::q),⟨rfl,rfl,⟨⟨rfl,rfl,rfl,.inl ⟨rfl,m9 _⟩⟩,trivial⟩,⟨i5 (b39 t r),rfl,⟨rfl,rfl,rfl⟩,trivial⟩⟩,⟨by omega,B9 h1,hrb,fun t ht=>h3 t (List.mem_cons_of_mem _ ht),h4,rfl⟩,by simp⟩
   ·have eq:=b5G h0 h1 h2 he
    have cm:=G6 t.2 u.2 bt bu
    have k2:=a1Q (x:=t.2) (y:=u.2)
    generalize a1j t.2 u.2=U at cm k2
    by_cases hU:U > 0
    ·rw [a7b eq (Rat.not_le.2 (k2.1 hU))]
     clear k2
     conv=>whnf
     repeat' (first|refine zx ?_|refine qp cm ?_|refine qp 0 ?_|refine qp 0 ?_|refine qp 1 ?_|refine qp (4,5) ?_|refine a14 (by omega) (by omega) (by omega) ?_|refine G8 (k:=0) rfl (show (u::q)[0]? =some u from rfl) ?_|refine G8 (k:=0) rfl (show (t::r)[0]? =some t from rfl) ?_|refine bl0 [1] ?_|refine bl0 [4,5] ?_|refine zd ?_ ?_<;>intro h<;>try omega|fail)<;>conv=>whnf
     all_goals first
      |omega
      |exact c9 rfl
    ·rw [a6V eq (lb2.1 fun h=>hU (k2.2 h))]
     clear k2
     conv=>whnf
     repeat' (first|refine zx ?_|refine qp cm ?_|refine qp 0 ?_|refine qp 0 ?_|refine qp 1 ?_|refine qp (4,5) ?_|refine a14 (by omega) (by omega) (by omega) ?_|refine G8 (k:=0) rfl (show (u::q)[0]? =some u from rfl) ?_|refine G8 (k:=0) rfl (show (t::r)[0]? =some t from rfl) ?_|refine bl0 [1] ?_|refine bl0 [4,5] ?_|refine zd ?_ ?_<;>intro h<;>try omega|fail)<;>conv=>whnf
     all_goals first
      |omega
      |exact ⟨[some 0],(t.1,r,q),⟨rfl,rfl,⟨⟨rfl,rfl,rfl,.inl ⟨rfl,m9 _⟩⟩,trivial⟩,⟨i5 (b39 t r),i5 (b39 u q),⟨rfl,rfl,rfl⟩,trivial⟩⟩,⟨by omega,B9 h1,by rw [he];exact B9 h2,fun t ht=>h3 t (List.mem_cons_of_mem _ ht),fun t ht=>h4 t (List.mem_cons_of_mem _ ht),rfl⟩,by simp;omega⟩
   ·have hra:d8 u.1 n (t::r)=true:=by
     have:=h1
     unfold d8 at this ⊢
     simp only [lbM,lbI] at this ⊢
     exact ⟨⟨⟨by omega,this.1.1.2⟩,this.1.2⟩,this.2⟩
    have eq:=ap2 h0 h2 hra
    have cm:=G6 ((0:Int):Rat) u.2 (by have e:rl ((0:Int):Rat)=rl 0:=rfl;omega) bu
    have k2:=a1Q (x:=((0:Int):Rat)) (y:=u.2)
    generalize a1j ((0:Int):Rat) u.2=U at cm k2
    by_cases hU:U > 0
    ·rw [a7b eq (Rat.not_le.2 (k2.1 hU))]
     clear k2
     conv=>whnf
     repeat' (first|refine zx ?_|refine qp cm ?_|refine qp 0 ?_|refine qp 0 ?_|refine qp 1 ?_|refine qp (4,5) ?_|refine a14 (by omega) (by omega) (by omega) ?_|refine G8 (k:=0) rfl (show (u::q)[0]? =some u from rfl) ?_|refine G8 (k:=0) rfl (show (t::r)[0]? =some t from rfl) ?_|refine bl0 [1] ?_|refine bl0 [4,5] ?_|refine zd ?_ ?_<;>intro h<;>try omega|fail)<;>conv=>whnf
     all_goals first
      |omega
      |exact c9 rfl
    ·rw [a6V eq (lb2.1 fun h=>hU (k2.2 h))]
     clear k2
     conv=>whnf
     repeat' (first|refine zx ?_|refine qp cm ?_|refine qp 0 ?_|refine qp 0 ?_|refine qp 1 ?_|refine qp (4,5) ?_|refine a14 (by omega) (by omega) (by omega) ?_|refine G8 (k:=0) rfl (show (u::q)[0]? =some u from rfl) ?_|refine G8 (k:=0) rfl (show (t::r)[0]? =some t from rfl) ?_|refine bl0 [1] ?_|refine bl0 [4,5] ?_|refine zd ?_ ?_<;>intro h<;>try omega|fail)<;>conv=>whnf
     all_goals first
      |omega
      |exact ⟨[some 0],(u.1,t::r,q),⟨rfl,rfl,⟨⟨rfl,rfl,rfl,.inl ⟨rfl,m9 _⟩⟩,trivial⟩,⟨rfl,i5 (b39 u q),⟨rfl,rfl,rfl⟩,trivial⟩⟩,⟨by omega,hra,B9 h2,h3,fun t ht=>h4 t (List.mem_cons_of_mem _ ht),rfl⟩,by simp⟩
theorem b51 {s:g6} {g:List (Int × Rat)} {y:Nat->Rat} (hr:i9 s=true) (hg:d8 (-1) s.n g=true):al0 (a10 s y s.n.toNat) g=(List.range s.n.toNat).all fun v=>decide (N0 s y v<=C6 g v):=by
 have hn:=O7 hr
 have hm:=a65 s y s.n.toNat
 rw [Bool.eq_iff_iff,a4G,lbv]
 constructor
 ·intro h v hv
  rw [lbB] at hv
  have:=h v
  rw [aM0 hv] at this
  exact lbH this
 ·intro h v
  by_cases hv:v<s.n.toNat
  ·rw [aM0 hv];exact lbL (h v (lbB.2 hv))
  ·rw [show C6 (a10 s y s.n.toNat) v=0 from a0w _ fun i t _ ht=>by
    have:=p6 hm t (lbm ht);omega,show C6 g v=0 from a0w _ fun i t _ ht=>by
    have:=p6 hg t (lbm ht);omega]
   exact lb1
set_option maxHeartbeats 4000000 in
theorem b4J (s:g6) (hb:aj5 s) (hr:i9 s=true) (hn1:s.n<=1000) (g:List (Int × Rat)) (hg:g.length<=1000000) (hgb:∀t ∈ g,rl t.2<=200) (Y:List Rat) (hy:∀v ∈ Y,rl v<=40000) (hyl:Y.length<=1000000) (hq:Y.length=s.rows.length->b7S s Y):
 b7 Tryz.prog 99 [S7 s,k9 g,j7 (Y.map fz)] [] (aT3 s g Y) []:=by
 have h0n:=O7 hr
 have sn:=b2g s hb hr Y hyl (fun v hv=>by have:=hy v hv;omega)
 have rt:=G9 g s.n hg hgb
 rw [lbH (show 0<=s.n by omega),Bool.true_and] at rt
 cases hs:a3N s Y with
 |false=>
  have e:aT3 s g Y=.tup [frS I3,f7 false]:=by unfold aT3 a9k;rw [hs];rfl
  rw [e]
  rw [hs] at sn
  (refine ac Tryz.func99 ?_;(conv=>whnf);repeat ((first|refine b0x ?_|refine zy ?_);conv=>whnf))
  repeat' (first|refine zx ?_|refine qp sn ?_|refine qp rt ?_|refine zd ?_ ?_<;>intro h<;>try omega|fail)<;>conv=>whnf
  all_goals first
   |(exfalso;simp_all;done)
   |exact j3 ⟨⟨rfl,rfl,rfl,rfl,trivial⟩,rfl,trivial⟩
 |true=>
 rw [hs] at sn
 cases ht:d8 (-1) s.n g with
 |false=>
  have e:aT3 s g Y=.tup [frS I3,f7 false]:=by unfold aT3 a9k;rw [hs,ht];rfl
  rw [e]
  rw [ht] at rt
  (refine ac Tryz.func99 ?_;(conv=>whnf);repeat ((first|refine b0x ?_|refine zy ?_);conv=>whnf))
  repeat' (first|refine zx ?_|refine qp sn ?_|refine qp rt ?_|refine zd ?_ ?_<;>intro h<;>try omega|fail)<;>conv=>whnf
  all_goals first
   |(exfalso;simp_all;done)
   |exact j3 ⟨⟨rfl,rfl,rfl,rfl,trivial⟩,rfl,trivial⟩
 |true=>
 rw [ht] at rt
 have hl:Y.length=s.rows.length:=by
  unfold a3N at hs
  simp only [lbM,lbI] at hs
  exact hs.1
 have hq:=hq hl
 have mx:=b9V s hb hr Y hq hn1
 have mr:=a65 s (yN Y) s.n.toNat
 have be:=b7m s.n (a10 s (yN Y) s.n.toNat) g (by rw [← h0n];exact mr) ht (by omega) (fun t ht=>by
  obtain ⟨v,h1,h2,rfl⟩:=a7h.1 ht
  have h3:rl (N0 s (yN Y) v)<=50000:=hq.n v s.rows.length
  show rl (N0 s (yN Y) v)<=60000
  omega) (fun t ht=>by have:=hgb t ht;omega)
 rw [b51 hr ht] at be
 have eb:a9k s g Y=(List.range s.n.toNat).all fun v=>decide (N0 s (yN Y) v<=C6 g v):=by unfold a9k;rw [hs,ht];simp
 unfold aT3
 rw [eb]
 generalize (List.range s.n.toNat).all (fun v=>decide (N0 s (yN Y) v<=C6 g v))=B at be
 cases B with
 |true=>
  rw [if_pos rfl]
  (refine ac Tryz.func99 ?_;(conv=>whnf);repeat ((first|refine b0x ?_|refine zy ?_);conv=>whnf))
  repeat' (first|refine zx ?_|refine qp sn ?_|refine qp rt ?_|refine qp mx ?_|refine qp be ?_|refine qp 5 ?_|refine bl0 [5] ?_|refine zd ?_ ?_<;>intro h<;>try omega|fail)<;>conv=>whnf
  all_goals first
   |(exfalso;simp_all;done)
   |exact j3 ⟨⟨rfl,rfl,rfl,rfl,trivial⟩,rfl,trivial⟩
 |false=>
  rw [if_neg (by decide)]
  (refine ac Tryz.func99 ?_;(conv=>whnf);repeat ((first|refine b0x ?_|refine zy ?_);conv=>whnf))
  repeat' (first|refine zx ?_|refine qp sn ?_|refine qp rt ?_|refine qp mx ?_|refine qp be ?_|refine qp 5 ?_|refine bl0 [5] ?_|refine zd ?_ ?_<;>intro h<;>try omega|fail)<;>conv=>whnf
  all_goals first
   |(exfalso;simp_all;done)
   |exact j3 ⟨⟨rfl,rfl,rfl,rfl,trivial⟩,rfl,trivial⟩
def aV7 (s:g6) (g:List (Int × Rat)):g6:=⟨s.n,s.rows++[⟨g,2,((0:Int):Rat)⟩]⟩
theorem aK7 {s:g6} {g:List (Int × Rat)} (hr:i9 s=true) (hl:s.rows.length<6000) (hg:d8 (-1) s.n g=true):i9 (aV7 s g)=true:=by
 unfold i9 at hr ⊢
 simp only [lbM,lbI] at hr ⊢
 refine ⟨⟨hr.1.1,by simp [aV7];omega⟩,?_⟩
 show (s.rows++[_]).all (s6 s.n)=true
 rw [List.all_append,hr.2]
 simp [s6,hg]
theorem a0J {s:g6} {g:List (Int × Rat)} (z:List Rat):∀l:List (Int × Rat),j1 (a1w l) z=-(j1 l z):=by
 intro l
 have key:∀k,k<=l.length->j1 ((a1w l).take k) z=-(j1 (l.take k) z):=by
  intro k
  induction k with
  |zero=>intro _;rw [List.take_zero,List.take_zero];show (0:Rat)=-0;grind
  |succ k ih=>
   intro hk
   have ih:=ih (by omega)
   have ht:l[k]? =some l[k]:=lbf (by omega)
   rw [show (a1w l).take (k+1)=_ from a9d l _ ht,K3,List.take_succ_eq_append_getElem (show k<l.length by omega),K3,show (a0T l ((-1:Int):Rat)).take k=(a1w l).take k from rfl,ih]
   have e1:((-1:Int):Rat)=-1:=rfl
   rw [e1];simp only;grind
 have:=key l.length (lbQ _)
 rwa [lbn (by rw [b6B];exact lbQ _),lbn (lbQ _)] at this
theorem b3j {s:g6} {Y:List Rat} (h:a90 s (yN Y)) (hl:Y.length=s.rows.length):a3N s Y=true:=by
 unfold a3N
 rw [lbH hl,Bool.true_and,lbv]
 intro i hi
 rw [lbB] at hi
 have hx:s.rows[i]? =some s.rows[i]:=lbf hi
 obtain ⟨h1,h2⟩:=h i _ hx
 unfold sgB
 rw [U9 hx]
 simp only [Bool.not_eq_true',Bool.or_eq_false_iff,lbO,lbK]
 refine ⟨?_,?_⟩
 ·by_cases h:s.rows[i].kind=0
  ·exact .inr (lb2.2 (h1 h))
  ·exact .inl h
 ·by_cases h:s.rows[i].kind=1
  ·exact .inr (lb2.2 (h2 h))
  ·exact .inl h
theorem b19 {s:g6} {g:List (Int × Rat)} {Y:List Rat} {y:Nat->Rat} {v:Rat} (hr:i9 s=true) (hg:d8 (-1) ((s.n.toNat:Nat):Int) g=true) (h:b33 s (C6 g) y v) (hl:Y.length=s.rows.length) (hY:∀i,i<s.rows.length->yN Y i=y i):a9k s g Y=true∧a5I s (yN Y)=v:=by
 have hn:=O7 hr
 have e1:∀l,N0 s (yN Y) l=N0 s y l:=fun l=>d9 fun i hi=>by rw [hY i hi]
 have e2:a5I s (yN Y)=a5I s y:=d9 fun i hi=>by rw [hY i hi]
 refine ⟨?_,by rw [e2,h.val]⟩
 unfold a9k
 rw [b3j (fun i w hw=>by rw [hY i (lbe.1 hw).1];exact h.sign i w hw) hl,←hn,hg,Bool.true_and,Bool.true_and,lbv]
 intro l hl
 rw [lbB] at hl
 have hl:l<s.n.toNat:=by omega
 rw [e1]
 exact lbH (h.mix l hl)
theorem b4A {n:Nat} {y:Nat->Rat} {i:Nat} (h:i<n):yN (zOf n y) i=y i:=a6Z h
theorem b8s:rl ((-1:Int):Rat)<=1:=by rw [a2t];exact Q3 (x:=-1) (by decide) (by decide)
def f22:List b2Z:=[⟨2,0,5⟩]
instance decRow:DecidableEq k7:=fun a b=>decidable_of_iff (a.terms=b.terms∧a.kind=b.kind∧a.value=b.value) ⟨fun ⟨h1,h2,h3⟩=>by cases a;cases b;simp_all,fun h=>by subst h;exact ⟨rfl,rfl,rfl⟩⟩
instance decSys:DecidableEq g6:=fun a b=>decidable_of_iff (a.n=b.n∧a.rows=b.rows) ⟨fun ⟨h1,h2⟩=>by cases a;cases b;simp_all,fun h=>by subst h;exact ⟨rfl,rfl⟩⟩
def a73 (e:Ev) (m k:Int):Bool:=decide (e.mats<=k) && decide (e.hhs<=6) && decide (e.scs<=6) && decide (e.places.length<=12) && decide ((e.moves.length:Int)<=m) && decide (e.certs.length<=10) && decide (e.recalls.length<=4) && decide (e.purities.length<=6)
theorem b3k (e:Ev) (m k:Int):b7 Tryz.prog 32 [evS e,a8 .i64 m,a8 .i64 k] [] (f7 (a73 e m k)) []:=by
 have m1:(e.places.map G2.row).length=e.places.length:=by simp
 have m2:(e.moves.map j6.row).length=e.moves.length:=by simp
 have m3:(e.certs.map E6.row).length=e.certs.length:=by simp
 have m4:(e.recalls.map w7.row).length=e.recalls.length:=by simp
 have m5:(e.purities.map s9.row).length=e.purities.length:=by simp
 (refine ac Tryz.func32 ?_;(conv=>whnf);repeat ((first|refine b0x ?_|refine zy ?_);conv=>whnf))
 repeat' (first|refine zx ?_|refine zd ?_ ?_<;>intro h<;>try omega|fail)<;>conv=>whnf
 all_goals
  refine c9 ?_
  unfold a73
  simp only [m1,m2,m3,m4,m5] at *
  first
   |(symm;simp only [lbM,lbI];omega)
   |(symm;rw [← lbP];simp only [lbM,lbI];omega)
def b1h (z:List Fr) (n:Nat) (d:Int):Bool:=(z.take (n+1)).all (b1E d) && decide (z.length<=n)
theorem aX6 (z:List Fr) (n:Nat) (d:Int) (hn:n<=1000):b7 Tryz.prog 33 [j7 z,a8 .i64 n,a8 .i64 d] [] (f7 (b1h z n d)) []:=by
 have m1:(z.map j5).length=z.length:=by simp
 (refine ac Tryz.func33 ?_;(conv=>whnf);repeat ((first|refine b0x ?_|refine zy ?_);conv=>whnf))
 repeat' (first|refine zx ?_|refine zd ?_ ?_<;>intro h<;>try omega|fail)<;>conv=>whnf
 refine f8 c7 (fun k=>([j7 z,a8 .i64 n,a8 .i64 d,J,J,J,J,a8 .i64 k]++Jn 22,[])) (n+1) (fun k=>k<=z.length∧(z.take k).all (b1E d)=true) [] ⟨Nat.zero_le _,rfl⟩
  ⟨rfl,rfl,trivial,⟨rfl,rfl,rfl,rfl,trivial⟩⟩ ?_
 rintro k hk ⟨hle,hI⟩
 by_cases hlt:k<z.length∧k<n+1
 ·obtain ⟨f,hf⟩:∃f,z[k]? =some f:=⟨_,lbf hlt.1⟩
  have hf2:(z.take (n+1))[k]? =some f:=by rw [lbi,if_pos hlt.2];exact hf
  have r:=b3t f d
  cases hff:b1E d f with
  |true=>
   rw [hff] at r
   conv=>whnf
   repeat' (first|refine zx ?_|refine qp r ?_|refine d7 hf ?_|refine zd ?_ ?_<;>intro h<;>try omega|fail)<;>conv=>whnf
   all_goals first
    |omega
    |exact ⟨hlt.2,⟨by omega,by rw [A6 hf,hI,hff];rfl⟩,[],rfl,rfl,trivial,⟨rfl,rfl,rfl,rfl,trivial⟩⟩
  |false=>
   rw [hff] at r
   have e1:b1h z n d=false:=by unfold b1h;rw [B3 hf2 hff];rfl
   rw [e1]
   conv=>whnf
   repeat' (first|refine zx ?_|refine qp r ?_|refine d7 hf ?_|refine zd ?_ ?_<;>intro h<;>try omega|fail)<;>conv=>whnf
   all_goals first
    |omega
    |exact c9 rfl
 ·have hk2:z.length=k∨k=n+1:=by omega
  have hall:(z.take (n+1)).all (b1E d)=true:=by
   rcases hk2 with h|h
   ·have e:z.take (n+1)=z.take k:=by rw [lbn (by omega),lbn (by omega)]
    rw [e];exact hI
   ·rw [← h];exact hI
  conv=>whnf
  repeat' (first|refine zx ?_|refine zd ?_ ?_<;>intro h<;>try omega|fail)<;>conv=>whnf
  all_goals first
   |omega
   |(refine c9 ?_;unfold b1h;rw [hall];simp;omega)
def a3Q:List (Int × Rat)->List (Int × Rat)->List (Int × Rat)
 |[],b=>b
 |t::r,[]=>t::r
 |t::r,u::q=>if t.1<u.1 then t::a3Q r (u::q) else if u.1<t.1 then u::a3Q (t::r) q else if t.2+u.2=0 then a3Q r q else (t.1,t.2+u.2)::a3Q r q
termination_by a b=>a.length+b.length
theorem a1u {last n:Int} {t:Int × Rat} {r:List (Int × Rat)} (h1:last<t.1) (h2:t.1<n) (h3:t.2≠0) (h4:d8 t.1 n r=true):d8 last n (t::r)=true:=by
 unfold d8
 simp only [lbM,lbI]
 exact ⟨⟨⟨h1,h2⟩,h3⟩,h4⟩
theorem ab5 {n:Int}:∀(k:Nat) {last:Int} {a b:List (Int × Rat)},a.length+b.length<=k->-1<=last->d8 last n a=true->d8 last n b=true->
 d8 last n (a3Q a b)=true∧∀v,C6 (a3Q a b) v=C6 a v+C6 b v:=by
 intro k
 induction k with
 |zero=>
  intro last a b hk h0 ha hb
  have:a=[]:=List.length_eq_zero_iff.1 (by omega)
  have:b=[]:=List.length_eq_zero_iff.1 (by omega)
  subst a b
  rw [a3Q]
  exact ⟨rfl,fun v=>by show (0:Rat)=0+0;grind⟩
 |succ k ih=>
  intro last a b hk h0 ha hb
  match a,b with
  |[],b=>rw [a3Q];exact ⟨hb,fun v=>by show _=(0:Rat)+_;grind⟩
  |t::r,[]=>rw [a3Q];exact ⟨ha,fun v=>by show _=_+(0:Rat);grind⟩
  |t::r,u::q=>
   have mt:=p6 ha t (List.mem_cons_self ..)
   have mu:=p6 hb u (List.mem_cons_self ..)
   simp only [lbu] at hk
   rw [a3Q]
   by_cases h1:t.1<u.1
   ·rw [if_pos h1]
    have hb':d8 t.1 n (u::q)=true:=a1u h1 mu.2.1 mu.2.2 (B9 hb)
    obtain ⟨i1,i2⟩:=ih (last:=t.1) (a:=r) (b:=u::q) (by simp only [lbu];omega) (by omega) (B9 ha) hb'
    have hr:=a1u mt.1 mt.2.1 mt.2.2 i1
    refine ⟨hr,fun v=>?_⟩
    rw [A0 h0 hr,A0 h0 ha,i2]
    by_cases hv:v=t.1.toNat
    ·rw [if_pos hv,if_pos hv,Y5 (v:=v) (by omega) hb' (by omega)];grind
    ·rw [if_neg hv,if_neg hv]
   ·rw [if_neg h1]
    by_cases h2:u.1<t.1
    ·rw [if_pos h2]
     have ha':d8 u.1 n (t::r)=true:=a1u h2 mt.2.1 mt.2.2 (B9 ha)
     obtain ⟨i1,i2⟩:=ih (last:=u.1) (a:=t::r) (b:=q) (by simp only [lbu];omega) (by omega) ha' (B9 hb)
     have hr:=a1u mu.1 mu.2.1 mu.2.2 i1
     refine ⟨hr,fun v=>?_⟩
     rw [A0 h0 hr,A0 h0 hb,i2]
     by_cases hv:v=u.1.toNat
     ·rw [if_pos hv,if_pos hv,Y5 (v:=v) (by omega) ha' (by omega)];grind
     ·rw [if_neg hv,if_neg hv]
    ·rw [if_neg h2]
     have he:t.1=u.1:=by omega
     have hq':=B9 hb
     rw [← he] at hq'
     obtain ⟨i1,i2⟩:=ih (last:=t.1) (a:=r) (b:=q) (by omega) (by omega) (B9 ha) hq'
     by_cases h3:t.2+u.2=0
     ·rw [if_pos h3]
      refine ⟨aH2 (by omega) i1,fun v=>?_⟩
      rw [A0 h0 ha,A0 h0 hb,←he]
      by_cases hv:v=t.1.toNat
      ·rw [if_pos hv,if_pos hv,Y5 (v:=v) (by omega) i1 (by omega)];grind
      ·rw [if_neg hv,if_neg hv,i2]
     ·rw [if_neg h3]
      have hr:=a1u (t:=(t.1,t.2+u.2)) mt.1 mt.2.1 h3 i1
      refine ⟨hr,fun v=>?_⟩
      rw [A0 h0 hr,A0 h0 ha,A0 h0 hb,←he,i2]
      by_cases hv:v=t.1.toNat
      ·simp only [if_pos hv]
      ·simp only [if_neg hv]
theorem b4Z {n:Nat} {a b:List (Int × Rat)} (ha:d8 (-1) (n:Int) a=true) (hb:d8 (-1) (n:Int) b=true) (z:List Rat):j1 (a3Q a b) z=j1 a z+j1 b z:=by
 obtain ⟨h1,h2⟩:=ab5 (a.length+b.length) (lbQ _) (Int.le_refl _) ha hb
 rw [M6 h1,M6 ha,M6 hb,←S0]
 exact d9 fun j hj=>by rw [h2];grind
noncomputable def b06 (s:g6) (g:List (Int × Rat)):List Rat:=match U8 s (a1w g) with
 |.col c=>ad2 (H5 s []) (ay6 s (a1w g) c)
 |_=>H5 s (a1w g)
structure b1b (s:g6) (g:List (Int × Rat)):Prop where
 r:i9 s=true
 z:U8 s []=.best
 t:d8 (-1) ((s.n.toNat:Nat):Int) g=true
 p:∀z,i4 s z=true->0<=j1 g z
theorem b1b.og {s:g6} {g:List (Int × Rat)} (h:b1b s g):d8 (-1) ((s.n.toNat:Nat):Int) (a1w g)=true:=a34 h.t
theorem b4f {s:g6} {g:List (Int × Rat)} (h:b1b s g):i4 s (b06 s g)=true∧((∃ z,i4 s z=true∧0<j1 g z)->0<j1 g (b06 s g)):=by
 have h0:=(a2X h.r rfl h.z).1
 unfold b06
 rcases not_row (g:=a1w g) h.r h.z with ho|⟨c,ho⟩
 ·rw [ho]
  simp only
  obtain ⟨p1,p2⟩:=a2X h.r h.og ho
  refine ⟨p1,fun ⟨z,hz,hp⟩=>?_⟩
  have:=p2 z hz
  rw [a0J (s:=s) (g:=g),a0J (s:=s) (g:=g)] at this
  grind
 ·rw [ho]
  simp only
  obtain ⟨h1,h2⟩:=a9y h.r h.og ho
  refine ⟨b2B h0 h1,fun _=>?_⟩
  have h3:=F5 h0
  have hn:=O7 h.r
  rw [a8v (n:=s.n.toNat) (by omega) h1.len h.t]
  rw [a0J (s:=s) (g:=g)] at h2
  have:=h.p _ h0
  grind
def a4u (gL:List (List (Int × Rat))) (out:List Bool):Nat->List (Int × Rat)
 |0=>[]
 |k+1=>if out.getD k false=true then a4u gL out k else a3Q (a4u gL out k) (gL.getD k [])
noncomputable def b8g (s:g6) (gL:List (List (Int × Rat))) (out:List Bool):List Rat:=b06 s (a4u gL out gL.length)
def bf8 (g:List (Int × Rat)) (x:List Rat):Bool:=decide (0<j1 g x)
noncomputable def bf4 (s:g6) (gL:List (List (Int × Rat))) (out:List Bool):List Bool:=(List.range gL.length).map fun i=>out.getD i false || bf8 (gL.getD i []) (b8g s gL out)
noncomputable def b7H (s:g6) (gL:List (List (Int × Rat))):Nat->List Bool
 |0=>List.replicate gL.length false
 |k+1=>bf4 s gL (b7H s gL k)
noncomputable def bf2 (s:g6) (gL:List (List (Int × Rat))):Nat->List Rat
 |0=>b8g s gL (b7H s gL 0)
 |k+1=>ad2 (bf2 s gL k) (b8g s gL (b7H s gL (k+1)))
structure aa8 (s:g6) (gL:List (List (Int × Rat))):Prop where
 r:i9 s=true
 z:U8 s []=.best
 g:∀g ∈ gL,d8 (-1) ((s.n.toNat:Nat):Int) g=true
 p:∀g ∈ gL,∀z,i4 s z=true->0<=j1 g z
theorem a8g {gL:List (List (Int × Rat))} {k:Nat} (h:k<gL.length):gL.getD k [] ∈ gL:=by
 rw [lbl,lbf h];exact lbE h
theorem a6i {s:g6} {gL:List (List (Int × Rat))} (h:aa8 s gL) (out:List Bool):∀k,k<=gL.length->d8 (-1) ((s.n.toNat:Nat):Int) (a4u gL out k)=true
 |0,_=>rfl
 |k+1,hk=>by
  have ih:=a6i h out k (by omega)
  unfold a4u
  split
  ·exact ih
  ·exact (ab5 _ (lbQ _) (Int.le_refl _) ih (h.g _ (a8g (by omega)))).1
theorem b0y {s:g6} {gL:List (List (Int × Rat))} (h:aa8 s gL) (out:List Bool) (z:List Rat):∀k,k<=gL.length->j1 (a4u gL out k) z=i7 (fun i=>if out.getD i false=true then 0 else j1 (gL.getD i []) z) k
 |0,_=>rfl
 |k+1,hk=>by
  have ih:=b0y h out z k (by omega)
  show _=i7 _ k+(if out.getD k false=true then 0 else j1 (gL.getD k []) z)
  unfold a4u
  by_cases ho:out.getD k false=true
  ·rw [if_pos ho,if_pos ho,ih];grind
  ·rw [if_neg ho,if_neg ho,b4Z (a6i h out k (by omega)) (h.g _ (a8g (by omega))),ih]
theorem b3r {s:g6} {gL:List (List (Int × Rat))} (h:aa8 s gL) (out:List Bool):b1b s (a4u gL out gL.length):=
 ⟨h.r,h.z,a6i h out _ (lbQ _),fun z hz=>by
   rw [b0y h out z _ (lbQ _)]
   exact a1D fun i hi=>by
    split
    ·exact lb1
    ·exact h.p _ (a8g hi) z hz⟩
theorem b0L {s:g6} {gL:List (List (Int × Rat))} (h:aa8 s gL) (out:List Bool):i4 s (b8g s gL out)=true:=(b4f (b3r h out)).1
structure ae9 (s:g6) (c:Rat) (z:List Rat):Prop where
 r:i9 s=true
 l:(z.length:Int)=s.n
 p:∀v ∈ z,0<=v
 w:∀w ∈ s.rows,(w.kind≠1->c*w.value<=j1 w.terms z)∧(w.kind≠0->j1 w.terms z<=c*w.value)
theorem ag7 {s:g6} {z:List Rat} (h:i4 s z=true):ae9 s 1 z:=by
 obtain ⟨h1,h2,h3,h4⟩:=N2.1 h
 exact ⟨h1,h2,h3,fun w hw=>by
  obtain ⟨a,b⟩:=h4 w hw
  have e:(1:Rat)*w.value=w.value:=by grind
  rw [e];exact ⟨a,b⟩⟩
theorem aW6 {s:g6} {c d:Rat} {x y:List Rat} (hx:ae9 s c x) (hy:ae9 s d y):ae9 s (c+d) (ad2 x y):=by
 have hn:=O7 hx.r
 have lx:x.length=s.n.toNat:=by have:=hx.l;omega
 have ly:y.length=s.n.toNat:=by have:=hy.l;omega
 have ll:=ae1 lx ly
 refine ⟨hx.r,by omega,fun v hv=>?_,fun w hw=>?_⟩
 ·obtain ⟨j,hj,rfl⟩:=List.getElem_of_mem hv
  have e:=at6 lx ly (j:=j) (by omega)
  rw [lbl,lbf hj] at e
  have e:(ad2 x y)[j]=x.getD j 0+y.getD j 0:=e
  rw [e]
  have h1:0<=x.getD j 0:=by rw [lbl,lbf (by omega)];exact hx.p _ (lbE _)
  have h2:0<=y.getD j 0:=by rw [lbl,lbf (by omega)];exact hy.p _ (lbE _)
  grind
 ·obtain ⟨i,hi,rfl⟩:=List.getElem_of_mem hw
  have hrt:=(a00 hx.r (lbf hi)).1
  rw [a8v lx ly hrt]
  obtain ⟨a1,a2⟩:=hx.w _ (lbE hi)
  obtain ⟨b1,b2⟩:=hy.w _ (lbE hi)
  have e:(c+d)*s.rows[i].value=c*s.rows[i].value+d*s.rows[i].value:=by grind
  rw [e]
  exact ⟨fun h=>by have:=a1 h;have:=b1 h;grind,fun h=>by have:=a2 h;have:=b2 h;grind⟩
theorem sumX_holds {s:g6} {gL:List (List (Int × Rat))} (h:aa8 s gL):∀k,ae9 s ((k+1:Nat):Rat) (bf2 s gL k)
 |0=>ag7 (b0L h _)
 |k+1=>by
  have:=aW6 (sumX_holds h k) (ag7 (b0L h (b7H s gL (k+1))))
  have e:(((k+1+1:Nat)):Rat)=((k+1:Nat):Rat)+1:=by push_cast;rfl
  rw [e];exact this
theorem N6 {P:Program} {g:FuncId} {n:Nat} {H H':Hp} {r:S} (h1:b7 P g [.c (.t (.sl n .nul []))] H r H') (h2:b7 P g [.c (.t (.sl n .non []))] H r H'):b7 P g [.c (.t (.sl n .any []))] H r H':=by
 refine ⟨h1.1,fun w ι M vals hl hv hH hM hf=>?_⟩
 have h0:=hv 0 _ rfl
 have key:RS w ι M (.c (.t (.sl n .nul []))) (vals.getD 0 undef)∨RS w ι M (.c (.t (.sl n .non []))) (vals.getD 0 undef):=by
  generalize vals.getD 0 undef=v at h0
  cases h0 with
  |c h=>cases h with
   |t h=>cases h with
    |@sl _ _ _ b off cap A f hrow hcap hmax hk hn hA hc hr hx=>
     cases A with
     |none=>exact .inl (.c (.t (.sl (b:=b) (off:=off) f hrow hcap hmax (fun h=>nomatch h) (fun h=>nomatch h) hA hc hr ⟨fun _=>⟨rfl,rfl⟩,fun h=>nomatch h⟩)))
     |some a=>exact .inr (.c (.t (.sl (b:=b) (off:=off) f hrow hcap hmax (fun h=>nomatch h) (fun h=>nomatch h) hA hc hr ⟨(fun h=>nomatch h),fun _=>(fun h=>nomatch h)⟩)))
 have one:∀s,RS w ι M s (vals.getD 0 undef)->∀j s',[s][j]? =some s'->RS w ι M s' (vals.getD j undef):=fun s hs j s' hj=>by
  cases j with
  |zero=>injection hj with hj;subst hj;exact hs
  |succ j=>simp at hj
 rcases key with k|k
 ·exact h1.2 w ι M vals hl (one _ k) hH hM hf
 ·exact h2.2 w ι M vals hl (one _ k) hH hM hf
structure b7g where
 hh:Int
 state:Int
 w:List Fr
 wo:List Fr
 pr:List Fr
def b7g.row (v:b7g):List T:=[ti v.hh,ti v.state,E9 v.w,E9 v.wo,E9 v.pr]
def b7g.val (v:b7g):b9j:=⟨v.hh,v.state,v.w.map fv,v.wo.map fv,v.pr.map fv⟩
theorem b5v {v:Rat} (h:a5U v):rl v<=4:=by
 obtain ⟨z,h1,h2⟩:=h
 have:=a9G (x:=v) (p:=z) (q:=1000) (by decide) (by rw [← h1];rfl)
 have b1:bl z<=4:=a5Z h2 (by decide)
 have b2:bl 1000<=4:=by have:=Q3 (x:=1000) (by decide) (by decide);omega
 omega
theorem be5 {s:g6} {g:List (Int × Rat)} {n B c:Nat} (h:I8 s g n B) (hc:c<n) {j:Nat} (hj:j<n):rl (a27 (d6 s).length n (o9 s g) 0 (fun q=>if q=c then 1 else 0) j)<=B:=by
 have hb:=a6C h
 have hB:=h.b1
 have hp:a0U (d6 s).length n (o9 s g):=by have hn:=h.nn;subst hn;exact R4.p
 rw [← b0z hp hc hj]
 have key:∀k,k<=(d6 s).length->rl (ptK n (o9 s g).O (fun i=>-((o9 s g).A i c)) (fun j=>if (o9 s g).F c<n∧j=(o9 s g).F c then 1 else 0) k j)<=B:=by
  intro k
  induction k with
  |zero=>
   intro _
   have:=rl0;have:=rl1
   show rl (if _ then (1:Rat) else 0)<=_
   split<;>omega
  |succ k ih=>
   intro hk
   rw [S9]
   simp only
   split
   ·rw [S8];exact hb.a k (by omega) c hc
   ·exact ih (by omega)
 exact key _ (lbQ _)
theorem b2q:∀n,n<11->((a6R (n+1) fun c=>if c=0 then 2305843009213693952 else 1048575:Nat):Int)<pw 15∧((a6R n fun _=>1048575:Nat):Int)<pw 15∧((1000*a6R n fun _=>1048575:Nat):Int)<pw 15:=by decide +kernel
structure I6 (s:g6):Prop where
 r:i9 s=true
 i:∀w ∈ s.rows,ba0 w
 n:s.n<=10
 l:s.rows.length<=999
theorem b1M {s:g6} {g:List (Int × Rat)} (h:I6 s) (hg:E4 g):∀D,V7 (d6 s).length s.n.toNat (f9 s g) D->BdD (d6 s).length s.n.toNat 15 D:=by
 intro D hD
 have hn:=O7 h.r
 have:=h.n
 obtain ⟨p1,p2,p3⟩:=b2q s.n.toNat (by omega)
 obtain ⟨b1,b2,b3⟩:=aZ5 b7V (b2f h.i hg) a33 hD p1 p2 p3 p2
 exact ⟨b1,fun i hi j hj=>b2 i j hi hj,b3⟩
theorem X4 {s:g6} (h:I6 s):∀w ∈ s.rows,w.terms.length<=100∧(∀ t ∈ w.terms,rl t.2<=200)∧rl w.value<=200:=fun w hw=>by
 have hn:=O7 h.r
 have h9:=h.n
 obtain ⟨i,hi,rfl⟩:=List.getElem_of_mem hw
 have hrt:=(a00 h.r (lbf hi)).1
 have h1:=D3 hrt
 have h2:=h.i _ (lbE hi)
 exact ⟨by omega,fun t ht=>by have:=a05 h2.1 t ht;omega,by have:=b5v h2.2;omega⟩
theorem a2U {s:g6} (h:I6 s):aj5 s:=⟨by have:=h.l;omega,X4 h⟩
theorem a1L {s:g6} {g:List (Int × Rat)} (h:I6 s) (hg:d8 (-1) ((s.n.toNat:Nat):Int) g=true) (hw:E4 g):I8 s g s.n.toNat 15:=by
 have hn:=O7 h.r
 have h9:=h.n
 have hl:=h.l
 have hwr:=a05 hw
 refine ⟨⟨h.r,hg,hn.symm,by omega,fun w hw=>?_,fun t ht=>by have:=hwr t ht;omega,by omega⟩,a2U h,fun t ht=>by have:=hwr t ht;omega,b1M h hw,by decide,?_,by omega⟩
 ·obtain ⟨a1,a2,a3⟩:=X4 h w hw
  exact ⟨by omega,fun t ht=>by have:=a2 t ht;omega⟩
 ·have:s.n.toNat<=10:=by omega
  have:=lbT (15+2) (show s.n.toNat+3<=13 by omega)
  omega
theorem aE7 {s:g6} {g:List (Int × Rat)} (h:I6 s) (hg:d8 (-1) ((s.n.toNat:Nat):Int) g=true) (hw:E4 g):∀v ∈ H5 s g,rl v<=15:=b1S (a1L h hg hw)
theorem b26 {c:E6} {reading day:Int} (hcv:a06 c day=true) (hr:0<=reading∧reading<=1099511627776):∃z:Int,((1000:Nat):Rat)*a4M c reading day=((z:Int):Rat)∧0<=z∧z<=1152921504606846976:=by
 unfold a06 a0s at hcv
 simp only [lbM,lbI,a2j] at hcv
 obtain ⟨⟨⟨⟨⟨⟨⟨h1,h2⟩,h3⟩,_⟩,h4⟩,h5⟩,h6⟩,h7⟩:=hcv
 have e1:0<=c.permille*reading:=lbZ (by omega) (by omega)
 have e2:c.permille*reading<=1000*1099511627776:=Int.mul_le_mul (by omega) (by omega) (by omega) (by omega)
 have e3:0<=c.drift*(day - c.since):=lbZ (by omega) (by omega)
 have e4:c.drift*(day - c.since)<=10000000*100000:=Int.mul_le_mul (by omega) (by omega) (by omega) (by omega)
 refine ⟨c.permille*reading+1000*(c.grams+c.drift*(day - c.since)),?_,by omega,by omega⟩
 unfold a4M
 have e5:((1000:Nat):Rat)*Rat.divInt (c.permille*reading) 1000=((c.permille*reading:Int):Rat):=by
  rw [Rat.divInt_eq_div]
  have:((1000:Nat):Rat)=((1000:Int):Rat):=rfl
  rw [this]
  rw [Rat.div_def,←Rat.mul_assoc,Rat.mul_comm (((1000:Int):Rat)),Rat.mul_assoc,Rat.mul_inv_cancel _ (by decide)];grind
 have e6:((1000:Nat):Rat)*(Rat.divInt (c.permille*reading) 1000+((c.grams+c.drift*(day - c.since):Int):Rat))=((1000:Nat):Rat)*Rat.divInt (c.permille*reading) 1000+((1000:Nat):Rat)*((c.grams+c.drift*(day - c.since):Int):Rat):=by grind
 rw [e6,e5];push_cast;rfl
theorem b4d {cs:List E6} {rs:List w7} {scale reading day:Int} {lo hi:Rat} (h:L7 cs rs scale reading day=some (lo,hi)):a5U lo:=by
 unfold L7 at h
 split at h
 ·cases h
 ·rename_i i hi
  obtain ⟨hb,c,hc,_,hcv⟩:=R2 hi
  have e:a2C cs i=c:=by unfold a2C;rw [hc];rfl
  rw [e] at h
  split at h
  ·cases h
  ·split at h
   ·rename_i hr
    injection h with h
    injection h with h1 h2
    rw [a2j] at hr
    obtain ⟨z,hz,z0,z1⟩:=b26 hcv hr
    have key:a5U ((reading:Rat) - a4M c reading day):=by
     refine ⟨1000*reading - z,?_,by omega⟩
     have:((1000:Nat):Rat)*((reading:Rat) - a4M c reading day)=((1000:Nat):Rat)*(reading:Rat) - ((1000:Nat):Rat)*a4M c reading day:=by grind
     rw [this,hz];push_cast;rfl
    rw [← h1]
    unfold aC3
    split
    ·exact a3A
    ·exact key
   ·cases h
theorem a7B {e:Ev} {p:Int} {m:Nat}:∀k,E4 (n8 e p m k)
 |0=>by intro t ht;cases ht
 |k+1=>by
  have ih:=a7B (e:=e) (p:=p) (m:=m) k
  unfold n8
  split
  ·exact ih
  ·split
   ·exact a7U ih (a7P (by decide) (by decide))
   ·split
    ·exact a7U ih (a7P (by decide) (by decide))
    ·exact ih
theorem a1P {e:Ev} {i:Nat} {b own more:Int} (h1:-1000<=b∧b<=1000) (h2:-1000<=more∧more<=1000):∀k,E4 (a18 e i b own more k)
 |0=>by intro t ht;cases ht
 |k+1=>by
  have ih:=a1P (e:=e) (i:=i) (own:=own) h1 h2 k
  unfold a18
  have hc:-2000<=a21 b own more k∧a21 b own more k<=2000:=by unfold a21;split<;>omega
  split
  ·exact a7U ih (a7P (by omega) (by omega))
  ·exact ih
theorem bg3 {e:Ev} (hc:m8 e=0):∀w ∈ (C3 e).rows,ba0 w:=by
 intro w hw
 obtain ⟨p,hp,rfl⟩:=lbx.1 (show w ∈ (a0V e).map Prod.fst from hw)
 obtain ⟨i,x,hi,hx,hw⟩:=a6L hp
 rcases at0 hw with ⟨_,m,hm,rfl⟩|⟨lo,hi,hiv,h⟩|⟨k,q,hq,_,h⟩
 ·exact ⟨a7B _,a3A⟩
 ·have hv:a5U lo∧a5U hi:=by
   unfold a2w at hiv
   split at hiv
   ·cases hiv
   ·exact ⟨b4d hiv,b4X hiv⟩
  rcases h with rfl|rfl
  ·exact ⟨a1P (by decide) (by decide) _,hv.1⟩
  ·exact ⟨a1P (by decide) (by decide) _,hv.2⟩
 ·have hs:=(V6 hc).2.2.2.2.2.2
  unfold V4 at hs
  simp only [lbM] at hs
  have:=lbv.1 hs.2 q (lbm hq)
  unfold Y6 idx at this
  simp only [lbM,lbI] at this
  unfold al6 at h
  simp only [lbA,lb9,or_false] at h
  rcases h with rfl|rfl
  ·exact ⟨a1P (by omega) (by omega) _,a3A⟩
  ·exact ⟨a1P (by omega) (by omega) _,a3A⟩
theorem aG4 {e:Ev} (hc:m8 e=0) (hm:e.moves.length<=8) (hp:e.purities.length<=20):(C3 e).rows.length<=400:=by
 obtain ⟨b1,b2,b3,b4⟩:=B5 hc
 have h2:=a4l b2 e.moves.length
 have h3:e.moves.length*(8+2*e.purities.length)<=8*48:=lbS hm (by omega)
 show ((a0M e e.moves.length).map Prod.fst).length<=400
 rw [lbr];omega
theorem ao4 {e:Ev} (hc:m8 e=0) (hm:e.moves.length<=8) (hp:e.purities.length<=20) (hn:(e.moves.length:Int)*e.mats<=10):I6 (C3 e):=
 ⟨aP6 hc hm hp,bg3 hc,hn,by have:=aG4 hc hm hp;omega⟩
theorem b8d {s:g6} {g:List (Int × Rat)} {Y:List Rat} (hr:i9 s=true) (h:a9k s g Y=true):b33 s (C6 g) (yN Y) (a5I s (yN Y)):=by
 unfold a9k a3N at h
 simp only [lbM,lbI,lbv] at h
 obtain ⟨⟨⟨h1,h2⟩,h3⟩,h4⟩:=h
 refine ⟨fun i w hw=>?_,fun l hl=>?_,rfl⟩
 ·have:=h2 i (lbB.2 (lbe.1 hw).1)
  unfold sgB at this
  rw [U9 hw] at this
  simp only [Bool.not_eq_true',Bool.or_eq_false_iff,lbO,lbK] at this
  obtain ⟨a,b⟩:=this
  exact ⟨fun hk=>by
   rcases a with a|a
   ·exact absurd hk a
   ·exact lb2.1 a,fun hk=>by
   rcases b with b|b
   ·exact absurd hk b
   ·exact lb2.1 b⟩
 ·exact h4 l (lbB.2 hl)
theorem never_holds {s:g6} {g:List (Int × Rat)} {z:List Rat} (hr:i9 s=true) (hl:s.rows.length<6000) (hg:d8 (-1) s.n g=true) (hz:i4 s z=true) (h0:j1 g z=0):i4 (aV7 s g) z=true:=by
 obtain ⟨h1,h2,h3,h4⟩:=N2.1 hz
 refine N2.2 ⟨aK7 hr hl hg,h2,h3,fun w hw=>?_⟩
 rcases lbz.1 hw with h|h
 ·exact h4 w h
 ·have h:=List.mem_singleton.1 h
  subst h
  have e1:((0:Int):Rat)=0:=rfl
  simp only
  rw [h0,e1]
  exact ⟨fun _=>lb1,fun _=>lb1⟩
theorem b1A {f:Nat->Rat} {B N:Nat} (h:∀i,rl (f i)<=B) (h0:∀i,N<=i->f i=0):∀k,rl (i7 f k)<=N*(B+1)+1:=by
 intro k
 by_cases hk:k<=N
 ·have h1:=a0B (f:=f) (B:=B) k fun j _=>h j
  have h2:=lbT (B+1) hk
  omega
 ·obtain ⟨d,rfl⟩:∃d,k=N+d:=⟨k - N,by omega⟩
  have e:i7 f (N+d)=i7 f N:=by
   clear hk
   induction d with
   |zero=>rfl
   |succ d ih=>show i7 f (N+d)+f (N+d)=_;rw [h0 _ (by omega),ih];grind
  rw [e]
  exact a0B (f:=f) (B:=B) N fun j _=>h j
theorem b5L {s:g6} {Y:List Rat} {B C N:Nat} (hl:Y.length=s.rows.length) (hN:Y.length<=N) (hB:1<=B) (hy:∀v ∈ Y,rl v<=B) (hc:∀w ∈ s.rows,(∀ t ∈ w.terms,rl t.2<=C)∧rl w.value<=C) (hC:1<=C) (hn:N*(B+C+1)+1<=40000) (hm:N<=1000000):b7S s Y:=by
 have hyi:∀i,rl (yN Y i)<=B:=fun i=>by
  unfold yN
  by_cases h:i<Y.length
  ·rw [lbl,lbf h];exact hy _ (lbE _)
  ·rw [lbl,lbd (by omega)];have:=rl0;show rl 0<=B;omega
 have hy0:∀i,N<=i->yN Y i=0:=fun i hi=>by unfold yN;rw [lbl,lbd (by omega)];rfl
 have hrow:∀i,(∀ t ∈ (p9 s i).terms,rl t.2<=C)∧rl (p9 s i).value<=C:=fun i=>by
  by_cases h:i<s.rows.length
  ·rw [U9 (lbf h)];exact hc _ (lbE _)
  ·have e:p9 s i=⟨[],2,0⟩:=by unfold p9;rw [lbl,lbd (by omega)];rfl
   rw [e]
   exact ⟨fun (t:Int × Rat) (ht:t ∈ [])=>by simp at ht,by have:=rl0;show rl 0<=C;omega⟩
 have hcof:∀i l,rl (C6 (p9 s i).terms l)<=C:=fun i l=>by
  have key:∀k,rl (L8 (p9 s i).terms k l)<=C:=by
   intro k
   induction k with
   |zero=>have:=rl0;show rl 0<=C;omega
   |succ k ih=>
    cases hk:(p9 s i).terms[k]? with
    |none=>rw [L8,hk];exact ih
    |some t=>
     rw [K4 hk]
     simp only
     split
     ·exact (hrow i).1 t (lbm hk)
     ·exact ih
  exact key _
 refine ⟨fun v hv=>by
  have h1:=hy v hv
  by_cases h2:N=0
  ·have:Y=[]:=List.length_eq_zero_iff.1 (by omega)
   subst this;cases hv
  ·have:1*(B+C+1)<=N*(B+C+1):=lbT _ (by omega)
   omega,fun l k=>?_,fun k=>?_,hl,by omega⟩
 ·have:=b1A (f:=fun i=>yN Y i*C6 (p9 s i).terms l) (B:=B+C) (N:=N) (fun i=>by have:=V8 (yN Y i) (C6 (p9 s i).terms l);have:=hyi i;have:=hcof i l;omega) (fun i hi=>by rw [hy0 i hi];grind) k
  have e:rl (a0e s (yN Y) l k)<=N*(B+C+1)+1:=this
  omega
 ·have:=b1A (f:=fun i=>yN Y i*(p9 s i).value) (B:=B+C) (N:=N) (fun i=>by have:=V8 (yN Y i) (p9 s i).value;have:=hyi i;have:=(hrow i).2;omega) (fun i hi=>by rw [hy0 i hi];grind) k
  have e:rl (a3O s (yN Y) k)<=N*(B+C+1)+1:=this
  omega
structure a26 where
 kind:Int
 value:Fr
 X:List Rat
 Y:List Rat
 R:List Rat
structure au3 (s:g6) (g:List (Int × Rat)) (o:a26):Prop where
 k:o.kind=0∨o.kind=1∨o.kind=2
 found:o.kind=0->i4 s o.X=true∧o.value=fz (j1 g o.X)∧(∀ z,i4 s z=true->j1 g o.X<=j1 g z)∧o.R=[]∧a9k s g o.Y=true∧a5I s (yN o.Y)=j1 g o.X
 none:o.kind=1->(∀ z,i4 s z=false)∧o.X=[]∧o.R=[]∧o.value=I3∧aV4 s o.Y=true
 free:o.kind=2->i4 s o.X=true∧b7J s o.R∧j1 g o.R<0∧o.Y=[]∧o.value=I3
 bx:∀v ∈ o.X,rl v<=15
 br:∀v ∈ o.R,rl v<=15
 by':∀v ∈ o.Y,rl v<=300
theorem aY9 {s:g6} {w:Nat} {p:Rat} {i B:Nat} (h:rl p<=B) (hB:1<=B):rl (chg s w p i)<=B:=by
 unfold chg
 split
 ·rw [S8]
  cases (J9 s (w - s.n.toNat)).2 with
  |false=>exact h
  |true=>show rl (-p)<=B;rw [S8];exact h
 ·have:=rl0;omega
theorem aF8 {s:g6} {g:List (Int × Rat)} (h:I6 s) (hg:d8 (-1) ((s.n.toNat:Nat):Int) g=true) (hw:E4 g) (i:Nat):rl (a3d s (o9 s g) i)<=300:=by
 have hb:=a6C (a1L h hg hw)
 have hn:=O7 h.r
 have h10:=h.n
 unfold a3d
 have:=a0B (f:=fun j=>chg s ((o9 s g).F j) (-((o9 s g).G j)) i) (B:=15) s.n.toNat fun j hj=>aY9 (by rw [S8];exact hb.g j hj) (by decide)
 have h2:=lbT 16 (show s.n.toNat<=10 by omega)
 omega
theorem aD5 {s:g6} {g:List (Int × Rat)} (h:I6 s) (hg:d8 (-1) ((s.n.toNat:Nat):Int) g=true) (hw:E4 g) {r:Nat} (hr:r<(d6 s).length) (i:Nat):rl (Z6 s (o9 s g) r i)<=300:=by
 have hb:=a6C (a1L h hg hw)
 have hn:=O7 h.r
 have h10:=h.n
 unfold Z6
 have h1:rl (chg s ((o9 s g).O r) 1 i)<=15:=aY9 (by have:=rl1;omega) (by decide)
 have h2:=a0B (f:=fun j=>chg s ((o9 s g).F j) ((o9 s g).A r j) i) (B:=15) s.n.toNat fun j hj=>aY9 (hb.a r hr j hj) (by decide)
 have h3:=a0q (chg s ((o9 s g).O r) 1 i) (i7 (fun j=>chg s ((o9 s g).F j) ((o9 s g).A r j) i) s.n.toNat)
 have h4:=lbT 16 (show s.n.toNat<=10 by omega)
 omega
theorem bb0 {n B:Nat} {y:Nat->Rat} (h:∀i,rl (y i)<=B):∀v ∈ zOf n y,rl v<=B:=fun v hv=>by
 obtain ⟨j,hj,rfl⟩:=a9B hv
 exact h j
theorem a0j:E4 []:=fun t ht=>by cases ht
theorem b2o {s:g6} {g:List (Int × Rat)} (h:I6 s) (hg:d8 (-1) ((s.n.toNat:Nat):Int) g=true) (hw:E4 g) (ho:U8 s g=.best):
 au3 s g ⟨0,fz (j1 g (H5 s g)),H5 s g,zOf s.rows.length (a3d s (o9 s g)),[]⟩ where
 k:=.inl rfl
 found:=fun _=>by
  obtain ⟨h1,h2⟩:=a2X h.r hg ho
  obtain ⟨h3,h4⟩:=b19 h.r hg (b6a h.r hg ho) (Y:=zOf s.rows.length (a3d s (o9 s g))) a5m fun i hi=>b4A hi
  exact ⟨h1,rfl,h2,rfl,h3,h4⟩
 none:=fun e=>by cases e
 free:=fun e=>by cases e
 bx:=fun v hv=>by have:=aE7 h hg hw v hv;omega
 br:=fun v hv=>by cases hv
 by':=bb0 (aF8 h hg hw)
theorem a9R {s:g6} {g g':List (Int × Rat)} {r:Nat} (h:I6 s) (hg:d8 (-1) ((s.n.toNat:Nat):Int) g'=true) (hw:E4 g') (ho:U8 s g'=.row r):
 au3 s g ⟨1,I3,[],zOf s.rows.length (Z6 s (o9 s g') r),[]⟩ where
 k:=.inr (.inl rfl)
 found:=fun e=>by cases e
 none:=fun _=>by
  obtain ⟨h1,h2⟩:=b7r ho
  obtain ⟨h3,h4⟩:=b19 (g:=[]) h.r rfl h1 (Y:=zOf s.rows.length (Z6 s (o9 s g') r)) a5m fun i hi=>b4A hi
  refine ⟨b0M ho,rfl,rfl,rfl,?_⟩
  unfold aV4
  rw [h3,h4]
  show decide _=true
  exact lbH (by grind)
 free:=fun e=>by cases e
 bx:=fun v hv=>by cases hv
 br:=fun v hv=>by cases hv
 by':=bb0 (aD5 h hg hw (a4P ho).1)
theorem b4R {s:g6} {g:List (Int × Rat)} {c:Nat} (h:I6 s) (hg:d8 (-1) ((s.n.toNat:Nat):Int) g=true) (hw:E4 g) (ho:U8 s g=.col c) (h0:U8 s []=.best):
 au3 s g ⟨2,I3,H5 s [],[],ay6 s g c⟩ where
 k:=.inr (.inr rfl)
 found:=fun e=>by cases e
 none:=fun e=>by cases e
 free:=fun _=>by
  obtain ⟨h1,h2⟩:=a9y h.r hg ho
  exact ⟨(a2X h.r rfl h0).1,h1,h2,rfl,rfl⟩
 bx:=fun v hv=>by have:=aE7 (g:=[]) h rfl a0j v hv;omega
 br:=fun v hv=>by
  obtain ⟨j,hj,rfl⟩:=a9B hv
  have:=be5 (a1L h hg hw) (a7K ho).1 hj
  omega
 by':=fun v hv=>by cases hv
def aj8 (g:List (Int × Rat)) (o:a26):Option Rat:=if o.kind=0 then some (j1 g o.X) else none
theorem a1N {s:g6} {g:List (Int × Rat)} {o:a26} (h:au3 s g o) (hk:o.kind≠1):i4 s o.X=true:=by
 rcases h.k with e|e|e
 ·exact (h.found e).1
 ·exact absurd e hk
 ·exact (h.free e).1
theorem aq9 {s:g6} {g:List (Int × Rat)} {o:a26} (h:au3 s g o) (hp:∀t ∈ g,0<=t.2) (hk:o.kind≠1):o.kind=0:=by
 rcases h.k with e|e|e
 ·exact e
 ·exact absurd e hk
 ·obtain ⟨_,h2,h3,_⟩:=h.free e
  have:=b4i h2.pos g hp
  grind
theorem ar5 {x y:List Rat} {t:Rat} {n:Nat} {l:List (Int × Rat)} (hx:x.length=n) (hy:y.length=n) (h:d8 (-1) (n:Int) l=true):j1 l (V9 x y t)=j1 l x+t*(j1 l y - j1 l x):=by
 rw [M6 h,M6 h,M6 h,←aK8]
 exact d9 fun j hj=>by rw [aO7 (by omega)];grind
theorem ai7 {x y:List Rat} {t:Rat}:(V9 x y t).length=x.length:=by simp [V9]
theorem a3Y {a b t:Rat} (h0:0<=t) (h1:t<=1) {v:Rat}:(v<=a->v<=b->v<=a+t*(b - a))∧(a<=v->b<=v->a+t*(b - a)<=v):=by
 have e:a+t*(b - a)=(1 - t)*a+t*b:=by grind
 constructor
 ·intro ha hb
  have p1:=lb0 (show (0:Rat)<=1 - t by grind) (show (0:Rat)<=a - v by grind)
  have p2:=lb0 h0 (show (0:Rat)<=b - v by grind)
  grind
 ·intro ha hb
  have p1:=lb0 (show (0:Rat)<=1 - t by grind) (show (0:Rat)<=v - a by grind)
  have p2:=lb0 h0 (show (0:Rat)<=v - b by grind)
  grind
theorem b1Z {s:g6} {x y:List Rat} {t:Rat} (hx:i4 s x=true) (hy:i4 s y=true) (h0:0<=t) (h1:t<=1):i4 s (V9 x y t)=true:=by
 obtain ⟨hr,x1,x2,x3⟩:=N2.1 hx
 obtain ⟨_,y1,y2,y3⟩:=N2.1 hy
 have hn:=O7 hr
 refine N2.2 ⟨hr,by rw [ai7];exact x1,fun v hv=>?_,fun w hw=>?_⟩
 ·obtain ⟨j,hj,rfl⟩:=List.getElem_of_mem hv
  rw [ai7] at hj
  have e:(V9 x y t)[j]'(by rw [ai7];exact hj)=(V9 x y t).getD j 0:=by rw [lbl,lbf];rfl
  rw [e,aO7 (by omega)]
  have gx:0<=x.getD j 0:=by rw [lbl,lbf hj];exact x2 _ (lbE _)
  have gy:0<=y.getD j 0:=by rw [lbl,lbf (show j<y.length by omega)];exact y2 _ (lbE _)
  exact (a3Y h0 h1).1 gx gy
 ·obtain ⟨i,hi⟩:=List.getElem?_of_mem hw
  have hrt:=(a00 hr hi).1
  rw [ar5 (n:=s.n.toNat) (by omega) (by omega) hrt]
  exact ⟨fun hk=>(a3Y h0 h1).1 ((x3 w hw).1 hk) ((y3 w hw).1 hk),fun hk=>(a3Y h0 h1).2 ((x3 w hw).2 hk) ((y3 w hw).2 hk)⟩
structure a3n (s:g6) (g:List (Int × Rat)) (lo hi:a26):Prop where
 l1:lo.kind≠1
 h1:hi.kind≠1
 lo:au3 s g lo
 hi:au3 s (a1w g) hi
def a7j (g:List (Int × Rat)) (o:a26):Option Rat:=(aj8 (a1w g) o).map fun x=>-x
theorem aI1 {s:g6} {g:List (Int × Rat)} {lo hi:a26} (h:a3n s g lo hi) (hk:hi.kind=0):a7j g hi=some (j1 g hi.X):=by
 unfold a7j aj8
 rw [if_pos hk,Option.map_some,a0J (s:=s) (g:=g)]
 congr 1;grind
theorem b2F {s:g6} {g:List (Int × Rat)} {lo hi:a26} {t:Rat} (h:a3n s g lo hi) (hg:d8 (-1) ((s.n.toNat:Nat):Int) g=true) (hp:∀t ∈ g,0<=t.2) (h0:0<=t) (h1:t<=1):
 i4 s (V9 hi.X lo.X t)=true∧lo.kind=0∧j1 g lo.X<=j1 g (V9 hi.X lo.X t)∧j1 g (V9 hi.X lo.X t)=t*j1 g lo.X+(1 - t)*j1 g hi.X:=by
 have sl:=a1N h.lo h.l1
 have sh:=a1N h.hi h.h1
 have hm:=b1Z sh sl h0 h1
 have hk:=aq9 h.lo hp h.l1
 have hn:=O7 (F5 sl).1
 have ll:=(F5 sl).2
 have lh:=(F5 sh).2
 refine ⟨hm,hk,(h.lo.found hk).2.2.1 _ hm,?_⟩
 rw [ar5 (n:=s.n.toNat) (by omega) (by omega) hg]
 grind
def exW (r:Int):Ev:=⟨1,1,1,[⟨0,0,0⟩,⟨1,-1,-1⟩,⟨5,-1,-1⟩],[⟨3,0,1,0,20,false⟩,⟨5,1,2,0,r,true⟩],[⟨0,0,9,2,0,0⟩],[],[]⟩
def aR6:Ev:=⟨1,1,1,[⟨0,0,0⟩,⟨1,-1,-1⟩,⟨5,-1,-1⟩],[⟨3,0,1,-1,0,false⟩,⟨5,1,2,-1,0,true⟩],[⟨0,0,9,2,0,0⟩],[],[]⟩
def wR (lo hi:Rat):List k7:=[⟨[(0,((1:Int):Rat))],0,18⟩,⟨[(0,((1:Int):Rat))],1,22⟩,⟨[(0,((1:Int):Rat)),(1,((-1:Int):Rat))],2,0⟩,⟨[(1,((1:Int):Rat))],0,lo⟩,⟨[(1,((1:Int):Rat))],1,hi⟩]
theorem a8d:C3 (exW 23)=⟨2,wR 21 25⟩:=by decide +kernel
theorem aq8:C3 (exW 25)=⟨2,wR 23 27⟩:=by decide +kernel
theorem K2:m8 (exW 23)=0∧m8 (exW 25)=0∧m8 aR6=0:=by decide +kernel
theorem aE9:I6 (C3 (exW 25)):=ao4 K2.2.1 (by decide) (by decide) (by decide)
theorem a9N:i4 (C3 (exW 23)) [21,21]=true:=by decide +kernel
theorem b42:i4 (C3 (exW 23)) [22,22]=true:=by decide +kernel
theorem b4k:i4 (C3 aR6) [0,0]=true:=by decide +kernel
theorem v0 (a b:Rat):j1 [(0,((1:Int):Rat))] [a,b]=a:=by
 show ((0:Int):Rat)+((1:Int):Rat)*a=a
 have e0:((0:Int):Rat)=0:=rfl
 have e1:((1:Int):Rat)=1:=rfl
 rw [e0,e1];grind
theorem v1 (a b:Rat):j1 [(1,((1:Int):Rat))] [a,b]=b:=by
 show ((0:Int):Rat)+((1:Int):Rat)*b=b
 have e0:((0:Int):Rat)=0:=rfl
 have e1:((1:Int):Rat)=1:=rfl
 rw [e0,e1];grind
theorem v01 (a b:Rat):j1 [(0,((1:Int):Rat)),(1,((-1:Int):Rat))] [a,b]=a - b:=by
 show ((0:Int):Rat)+((1:Int):Rat)*a+((-1:Int):Rat)*b=a - b
 have e0:((0:Int):Rat)=0:=rfl
 have e1:((1:Int):Rat)=1:=rfl
 have e2:((-1:Int):Rat)=-1:=rfl
 rw [e0,e1,e2];grind
theorem b9u {z:List Rat} (h:(z.length:Int)=2):∃a b,z=[a,b]:=by
 match z,h with
 |[a,b],_=>exact ⟨a,b,rfl⟩
theorem aE3 {lo hi:Rat} {rows:List k7} {z:List Rat} (hz:i4 ⟨2,rows⟩ z=true) (h1:(⟨[(0,((1:Int):Rat))],1,22⟩:k7) ∈ rows) (h2:(⟨[(0,((1:Int):Rat)),(1,((-1:Int):Rat))],2,0⟩:k7) ∈ rows) (h3:(⟨[(1,((1:Int):Rat))],0,lo⟩:k7) ∈ rows):
 ∃a b,z=[a,b]∧a<=22∧a=b∧lo<=b:=by
 obtain ⟨_,hl,_,hw⟩:=N2.1 hz
 obtain ⟨a,b,rfl⟩:=b9u hl
 have g1:=(hw _ h1).2 (by decide)
 have g2:=hw _ h2
 have g2a:=g2.1 (by decide)
 have g2b:=g2.2 (by decide)
 have g3:=(hw _ h3).1 (show (0:Int)≠1 by decide)
 simp only [v0,v1,v01] at g1 g2a g2b g3
 exact ⟨a,b,rfl,g1,by grind,g3⟩
theorem aI0 {z:List Rat} (hz:i4 (C3 (exW 23)) z=true):21<=j1 [(0,((1:Int):Rat))] z∧j1 [(0,((1:Int):Rat))] z<=22:=by
 rw [a8d] at hz
 obtain ⟨a,b,rfl,h1,h2,h3⟩:=aE3 (lo:=21) (hi:=25) hz (by simp [wR]) (by simp [wR]) (by simp [wR])
 rw [v0]
 exact ⟨by grind,h1⟩
theorem aL6 {rows:List k7} (h1:(⟨[(0,((1:Int):Rat))],1,22⟩:k7) ∈ rows) (h2:(⟨[(0,((1:Int):Rat)),(1,((-1:Int):Rat))],2,0⟩:k7) ∈ rows) (h3:(⟨[(1,((1:Int):Rat))],0,23⟩:k7) ∈ rows) (z:List Rat):i4 ⟨2,rows⟩ z=false:=by
 cases hz:i4 ⟨2,rows⟩ z with
 |false=>rfl
 |true=>
  obtain ⟨a,b,rfl,g1,g2,g3⟩:=aE3 (hi:=27) hz h1 h2 h3
  exfalso
  rw [g2] at g1
  exact absurd (Rat.le_trans g3 g1) (by decide)
theorem aS1 (z:List Rat):i4 (C3 (exW 25)) z=false:=by
 rw [aq8]
 exact aL6 (by simp [wR]) (by simp [wR]) (by simp [wR]) z
abbrev b4D (o:a26):List C:=C.t (ti o.kind)::frC o.value++[C.t (E9 (o.X.map fz)),C.t (E9 (o.Y.map fz)),C.t (E9 (o.R.map fz))]
abbrev ap1 (o:a26):S:=.agg (b4D o)
theorem b8p {H:Hp} {p:Nat->Prop} {id n:Nat} {y:Nat->Rat} (hp:p id) (hk:H[id]? =some (flB (rF n y))):VC H p (.own id 0 n true) (E9 ((zOf n y).map fz)):=
 t8 (k:=flB (rF n y)) hp hk (fun h=>h) rfl (by rw [ad6]) (by rw [ad6];simp [a0Y])
theorem b7A {kind:Int} {v:Fr} {X:List Rat} {n:Nat} {y:Nat->Rat}:Fin 0 (.tup [.agg (C.t (ti kind)::frC v++[.t (E9 (X.map fz)),.own 0 0 n true,.t (.sl 0 .nil [])]),a8 .i64 0]) [flB (rF n y)] (.tup [ap1 ⟨kind,v,X,zOf n y,[]⟩,a8 .i64 0]) []:=
 j3 ⟨⟨rfl,rfl,rfl,rfl,rfl,rfl,show VC _ (fun id=>G3 [] id=true) _ _ from b8p rfl rfl,rfl,trivial⟩,rfl,trivial⟩
theorem a8x {s:g6} {g:List (Int × Rat)} {z:List Rat} (hg:d8 (-1) ((s.n.toNat:Nat):Int) g=true) (h10:s.n<=10) (hw:E4 g) (hz:∀v ∈ z,rl v<=400) (k:Nat):rl (j1 (g.take k) z)<=5000:=by
 have hl:=D3 hg
 have:=aD8 (l:=g) (z:=z) (B:=400) (a05 hw) hz k
 have h2:=lbT (400+4) (show g.length<=10 by omega)
 omega
theorem aL5 {kind:Int} {v:Fr} {n:Nat} {y:Nat->Rat}:Fin 0 (.tup [.agg (C.t (ti kind)::frC v++[.t (.sl 0 .nil []),.own 0 0 n true,.t (.sl 0 .nil [])]),a8 .i64 0]) [flB (rF n y)] (.tup [ap1 ⟨kind,v,[],zOf n y,[]⟩,a8 .i64 0]) []:=
 j3 ⟨⟨rfl,rfl,rfl,rfl,rfl,rfl,show VC _ (fun id=>G3 [] id=true) _ _ from b8p rfl rfl,rfl,trivial⟩,rfl,trivial⟩
theorem aI5 (s:g6) (g:List (Int × Rat)) (h:I6 s) (hg:d8 (-1) ((s.n.toNat:Nat):Int) g=true) (hw:E4 g):∃o,au3 s g o∧b7 Tryz.prog 124 [S7 s,k9 g] [] (.tup [ap1 o,a8 .i64 0]) []:=by
 have hl:=a1L h hg hw
 have h0:=a1L (g:=[]) h rfl a0j
 rcases a5q s g with hb|⟨r,hr⟩|⟨c,hc⟩
 ·exact ⟨_,b2o h hg hw hb,M9 (a78 s g _ _ hl hb (fun k=>lbR (a8x hg h.n hw (fun v hv=>by have:=aE7 h hg hw v hv;omega) k) (by decide)) (fun v hv=>by have:=aE7 h hg hw v hv;omega)) b7A⟩
 ·exact ⟨_,a9R h hg hw hr,M9 (a8W s g _ _ r hl hr) aL5⟩
 ·rcases a5q s [] with hb|⟨r,hr⟩|⟨c',hc'⟩
  ·exact ⟨_,b4R h hg hw hc hb,M9 (ax5 s g _ _ _ c hl h0 hc hb) (j3 ⟨⟨rfl,rfl,rfl,rfl,rfl,rfl,rfl,rfl,trivial⟩,rfl,trivial⟩)⟩
  ·exact ⟨_,a9R h (g':=[]) rfl a0j hr,M9 (au1 s g _ _ _ c r hl h0 hc hr) aL5⟩
  ·exact absurd hc' (b75 h.r)
theorem b23 (l:List (Int × Rat)) (hr:d8 (-1) 1500 l=true) (hb:∀t ∈ l,rl t.2<=200):b7 Tryz.prog 125 [k9 l] [] (k9 (a1w l)) []:=by
 have i1:=D2 (-1) (by decide) (by decide)
 have ti:=b0Z l ((-1:Int):Rat) (by decide) hr hb (by have:=b8s;omega)
 (refine ac Tryz.func125 ?_;(conv=>whnf);repeat ((first|refine b0x ?_|refine zy ?_);conv=>whnf))
 repeat' (first|refine zx ?_|refine qp i1 ?_|refine qp ti ?_|refine zd ?_ ?_<;>intro h<;>try omega|fail)<;>conv=>whnf
 all_goals exact j3 rfl
abbrev a89:a26:=⟨0,I3,[],[],[]⟩
abbrev a07 (lo hi:a26):S:=.agg (b4D lo++b4D hi)
set_option maxHeartbeats 4000000 in
theorem b5W (s:g6) (g:List (Int × Rat)) (h:I6 s) (hg:d8 (-1) ((s.n.toNat:Nat):Int) g=true) (hw:E4 g):
 ((∀ z,i4 s z=false)∧b7 Tryz.prog 52 [S7 s,k9 g] [] (.tup [a07 a89 a89,a8 .i64 15]) [])∨
 ∃lo hi,a3n s g lo hi∧b7 Tryz.prog 52 [S7 s,k9 g] [] (.tup [a07 lo hi,a8 .i64 0]) []:=by
 obtain ⟨lo,hlo,l1⟩:=aI5 s g h hg hw
 have hn:=O7 h.r
 have h10:=h.n
 have og:=b23 g (a4s (by omega) hg) (fun t ht=>by have:=a05 hw t ht;omega)
 have hwo:=a8h hw
 by_cases hk:lo.kind=1
 ·refine .inl ⟨(hlo.none hk).1,?_⟩
  rw [show ap1 lo=.agg (C.t (ti 1)::frC lo.value++[C.t (E9 (lo.X.map fz)),C.t (E9 (lo.Y.map fz)),C.t (E9 (lo.R.map fz))]) by show S.agg (C.t (ti lo.kind)::_)=_;rw [hk];rfl] at l1
  (refine ac Tryz.func52 ?_;(conv=>whnf);repeat ((first|refine b0x ?_|refine zy ?_);conv=>whnf))
  repeat' (first|refine zx ?_|refine qp l1 ?_|refine zd ?_ ?_<;>intro h<;>try omega|fail)<;>conv=>whnf
  all_goals first
   |(exfalso;(try dsimp only at *);omega)
   |exact j3 ⟨⟨rfl,rfl,rfl,rfl,rfl,rfl,rfl,rfl,rfl,rfl,rfl,rfl,rfl,rfl,rfl,rfl,trivial⟩,rfl,trivial⟩
 ·obtain ⟨hi,hhi,l2⟩:=aI5 s (a1w g) h (a34 hg) hwo
  have h1:hi.kind≠1:=fun e=>by
   have:=(hhi.none e).1 lo.X
   rw [a1N hlo hk] at this;cases this
  refine .inr ⟨lo,hi,⟨hk,h1,hlo,hhi⟩,?_⟩
  (refine ac Tryz.func52 ?_;(conv=>whnf);repeat ((first|refine b0x ?_|refine zy ?_);conv=>whnf))
  repeat' (first|refine zx ?_|refine qp l1 ?_|refine qp og ?_|refine qp l2 ?_|refine B4 _ (by decide +kernel) rfl ?_|refine zd ?_ ?_<;>intro h<;>try omega|fail)<;>conv=>whnf
  all_goals first
   |(exfalso;(try dsimp only at *);omega)
   |exact j3 ⟨⟨rfl,rfl,rfl,rfl,rfl,rfl,rfl,rfl,rfl,rfl,rfl,rfl,rfl,rfl,rfl,rfl,trivial⟩,rfl,trivial⟩
def bd4 (o:Option Rat):Fr:=match o with
 |none=>I3
 |some x=>fz x
abbrev bg8 (l h:Option Rat):List C:=frC (bd4 l)++frC (bd4 h)++[.t (tb l.isSome),.t (tb h.isSome)]
abbrev b20 (l h:Option Rat):S:=.agg (bg8 l h)
theorem b3o (x:Rat) (hx:rl x<=60000):b7 Tryz.prog 61 [frS (fz x)] [] (frS (fz x)) []:=by
 have h1:=J3 x
 have h2:=K0 x
 have m1:(toC ((fz x).p.dl.map e8)).length*(8+1)<=140737488355328:=by
  simp only [toC,lbr]
  have:(fz x).p.dl.length<=60000:=by show bl x.num<=_;omega
  omega
 have m2:(toC ((fz x).q.dl.map e8)).length*(8+1)<=140737488355328:=by
  simp only [toC,lbr]
  have:(fz x).q.dl.length<=60000:=by show bl x.den<=_;omega
  omega
 (refine ac Tryz.func61 ?_;(conv=>whnf);repeat ((first|refine b0x ?_|refine zy ?_);conv=>whnf))
 repeat' (first|refine zx ?_|refine ⟨m1,?_⟩|refine ⟨m2,?_⟩|refine zd ?_ ?_<;>intro h<;>try omega|fail)<;>conv=>whnf
 all_goals first
  |exact j3 ⟨rfl,show VC _ (fun id=>G3 [] id=true) _ _ from t8 rfl rfl (by intro h;cases h) rfl rfl (by simp [toC]),rfl,show VC _ (fun id=>G3 [] id=true) _ _ from t8 rfl rfl (by intro h;cases h) rfl rfl (by simp [toC]),trivial⟩
set_option maxHeartbeats 4000000 in
theorem b2w (lo hi:a26) (x y:Rat) (h0:lo.kind=0->lo.value=fz x) (h1:hi.kind=0->hi.value=fz y) (bx:rl x<=60000) (by':rl y<=60000):
 b7 Tryz.prog 21 [a07 lo hi] [] (b20 (if lo.kind=0 then some x else none) (if hi.kind=0 then some (-y) else none)) []:=by
 obtain ⟨k,v,X,Y,R⟩:=lo
 obtain ⟨k',v',X',Y',R'⟩:=hi
 have fr:=b3o x bx
 have ng:=a0Z y by'
 by_cases c0:k=0
 ·obtain rfl:v=fz x:=h0 c0
  subst c0
  by_cases c1:k'=0
  ·obtain rfl:v'=fz y:=h1 c1
   subst c1
   (refine ac Tryz.func21 ?_;(conv=>whnf);repeat (refine zy ?_;conv=>whnf))
   repeat' (first|refine zx ?_|refine qp fr ?_|refine qp ng ?_|refine zd ?_ ?_<;>intro h<;>try omega|fail)<;>conv=>whnf
   all_goals first
    |(exfalso;(try dsimp only at *);omega)
    |exact j3 ⟨rfl,rfl,rfl,rfl,rfl,rfl,rfl,rfl,rfl,rfl,trivial⟩
  ·rw [if_neg (show ¬(a26.mk k' v' X' Y' R').kind=0 from c1)]
   (refine ac Tryz.func21 ?_;(conv=>whnf);repeat (refine zy ?_;conv=>whnf))
   repeat' (first|refine zx ?_|refine qp fr ?_|refine zd ?_ ?_<;>intro h<;>try omega|fail)<;>conv=>whnf
   all_goals first
    |(exfalso;(try dsimp only at *);omega)
    |exact j3 ⟨rfl,rfl,rfl,rfl,rfl,rfl,rfl,rfl,rfl,rfl,trivial⟩
 ·rw [if_neg (show ¬(a26.mk k v X Y R).kind=0 from c0)]
  by_cases c1:k'=0
  ·obtain rfl:v'=fz y:=h1 c1
   subst c1
   (refine ac Tryz.func21 ?_;(conv=>whnf);repeat (refine zy ?_;conv=>whnf))
   repeat' (first|refine zx ?_|refine qp ng ?_|refine zd ?_ ?_<;>intro h<;>try omega|fail)<;>conv=>whnf
   all_goals first
    |(exfalso;(try dsimp only at *);omega)
    |exact j3 ⟨rfl,rfl,rfl,rfl,rfl,rfl,rfl,rfl,rfl,rfl,trivial⟩
  ·rw [if_neg (show ¬(a26.mk k' v' X' Y' R').kind=0 from c1)]
   (refine ac Tryz.func21 ?_;(conv=>whnf);repeat (refine zy ?_;conv=>whnf))
   repeat' (first|refine zx ?_|refine zd ?_ ?_<;>intro h<;>try omega|fail)<;>conv=>whnf
   all_goals first
    |(exfalso;(try dsimp only at *);omega)
    |exact j3 ⟨rfl,rfl,rfl,rfl,rfl,rfl,rfl,rfl,rfl,rfl,trivial⟩
theorem aO1 {s:g6} {g:List (Int × Rat)} {lo hi:a26} (hs:I6 s) (hg:d8 (-1) ((s.n.toNat:Nat):Int) g=true) (hw:E4 g) (h:a3n s g lo hi):rl (j1 g lo.X)<=5000∧rl (j1 (a1w g) hi.X)<=5000:=by
 have a:=a8x hg hs.n hw (z:=lo.X) (fun v hv=>by have:=h.lo.bx v hv;omega) g.length
 have b:=a8x (a34 hg) hs.n (a8h hw) (z:=hi.X) (fun v hv=>by have:=h.hi.bx v hv;omega) (a1w g).length
 rw [List.take_length] at a b
 exact ⟨a,b⟩
theorem aE4 {s:g6} {g:List (Int × Rat)} {lo hi:a26} (hs:I6 s) (hg:d8 (-1) ((s.n.toNat:Nat):Int) g=true) (hw:E4 g) (h:a3n s g lo hi):
 b7 Tryz.prog 21 [a07 lo hi] [] (b20 (aj8 g lo) (a7j g hi)) []:=by
 obtain ⟨b1,b2⟩:=aO1 hs hg hw h
 have r:=b2w lo hi (j1 g lo.X) (j1 (a1w g) hi.X) (fun e=>(h.lo.found e).2.1) (fun e=>(h.hi.found e).2.1) (by omega) (by omega)
 have e:a7j g hi=if hi.kind=0 then some (-(j1 (a1w g) hi.X)) else none:=by
  unfold a7j aj8
  split<;>rfl
 rw [e]
 exact r
set_option maxHeartbeats 4000000 in
theorem af1 (r:Int):b7 Tryz.prog 39 [a8 .i64 r] [] (evS (exW r)) []:=by
 (refine ac Tryz.func39 ?_;(conv=>whnf);repeat ((first|refine b0x ?_|refine zy ?_);conv=>whnf))
 repeat' (first|refine zx ?_|refine zd ?_ ?_<;>intro h<;>try omega|fail)<;>conv=>whnf
 all_goals first
  |exact j3 ⟨rfl,rfl,rfl,rfl,rfl,rfl,rfl,rfl,trivial⟩
theorem b7O:b7 Tryz.prog 45 [ap1 a89,a8 .i64 60,a8 .i64 40] [] (f7 true) []:=by
 have f:=b3t I3 40
 have p:=aX6 [] 60 40 (by decide)
 (refine ac Tryz.func45 ?_;(conv=>whnf);repeat ((first|refine b0x ?_|refine zy ?_);conv=>whnf))
 repeat' (first|refine zx ?_|refine qp f ?_|refine qp p ?_|refine zd ?_ ?_<;>intro h<;>try omega|fail)<;>conv=>whnf
 all_goals first
  |omega
  |exact c9 rfl
def a5M (e:Ev) (ps:List D8) (m k:Int):Bool:=a73 e m k && decide (e.purities.length<=3) && decide (ps.length<=20)
theorem aw4 (e:Ev) (ps:List D8) (m k:Int):b7 Tryz.prog 7 [evS e,F6 ps,a07 a89 a89,a8 .i64 m,a8 .i64 k] [] (f7 (a5M e ps m k)) []:=by
 have sm:=b3k e m k
 have fz':=b7O
 have m1:(e.purities.map s9.row).length=e.purities.length:=by simp
 have m2:(ps.map D8.row).length=ps.length:=by simp
 unfold a5M
 cases hs:a73 e m k with
 |false=>
  rw [hs] at sm
  (refine ac Tryz.func7 ?_;(conv=>whnf);repeat ((first|refine b0x ?_|refine zy ?_);conv=>whnf))
  repeat' (first|refine zx ?_|refine qp sm ?_|refine qp fz' ?_|refine zd ?_ ?_<;>intro h<;>try omega|fail)<;>conv=>whnf
  all_goals first
   |omega
   |(exfalso;contradiction)
   |exact c9 rfl
 |true=>
  rw [hs] at sm
  rw [Bool.true_and]
  by_cases h1:e.purities.length<=3<;>by_cases h2:ps.length<=20<;>
  ·simp only [h1,h2,decide_true,decide_false,Bool.and_true,Bool.and_false,Bool.true_and,Bool.false_and]
   (refine ac Tryz.func7 ?_;(conv=>whnf);repeat ((first|refine b0x ?_|refine zy ?_);conv=>whnf))
   repeat' (first|refine zx ?_|refine qp sm ?_|refine qp fz' ?_|refine zd ?_ ?_<;>intro h<;>try omega|fail)<;>conv=>whnf
   all_goals first
    |omega
    |exact c9 rfl
abbrev aK1 (l:List G2):Blk:={ mode:=.live,elem:=121,size:=3,rows:=toC (l.map G2.row),box:=false }
theorem aC2:b7 Tryz.prog 186 [.c (.t (.sl 3 .any []))] [] (.c (.own 0 0 0 true)) [aK1 []]:=by
 refine N6 ?_ ?_
 ·(refine ac Tryz.func186 ?_;(conv=>whnf);repeat (refine zy ?_;conv=>whnf))
  repeat' (first|refine zx ?_|refine zd ?_ ?_<;>intro h<;>try omega|fail)<;>conv=>whnf
  exact ⟨[none],rfl,rfl,⟨⟨rfl,rfl⟩,trivial⟩,⟨rfl,rfl,rfl⟩⟩
 ·(refine ac Tryz.func186 ?_;(conv=>whnf);repeat (refine zy ?_;conv=>whnf))
  repeat' (first|refine zx ?_|refine F0 rfl (by decide) ?_|refine zd ?_ ?_<;>intro h<;>try omega|fail)<;>conv=>whnf
  exact ⟨[some 0],rfl,rfl,⟨b8 (rows:=([]:List G2).map G2.row) rfl rfl rfl rfl rfl,trivial⟩,⟨rfl,rfl,rfl,fun h=>h⟩⟩
theorem aY7 (l:List G2) (h1:l.length<=1000000):b7 Tryz.prog 186 [.c (.t (a2r l))] [] (.c (.own 0 0 l.length true)) [aK1 l]:=by
 have m1:(l.map G2.row).length=l.length:=by simp
 by_cases h0:l.length=0
 ·have:l=[]:=List.length_eq_zero_iff.1 h0
  subst this
  exact aC2
 have hl:0<(l.map G2.row).length:=by omega
 (refine ac Tryz.func186 ?_;(conv=>whnf);repeat (refine zy ?_;conv=>whnf))
 repeat' (first|refine zx ?_|refine qp (toC,lbr,List.length_nil) ?_|refine qp (toC,lbr) ?_|refine ⟨hl,?_⟩|refine zz ?_|refine F0 rfl (by simp only [toC,lbr,List.length_nil];omega) ?_|refine y9 (Nat.zero_le _) (by simp only [toC,lbr];omega) ?_|refine zd ?_ ?_<;>intro h<;>try omega|fail)<;>conv=>whnf
 all_goals first
  |omega
  |exact ⟨[some 0],rfl,rfl,⟨b8 (rows:=l.map G2.row) rfl rfl rfl rfl rfl,trivial⟩,⟨rfl,rfl,by simp [toC],fun h=>h⟩⟩
theorem ai4 (l:List G2) (h1:l.length<=1000000):b7 Tryz.prog 186 [.c (.t (a2r l))] [] (.c (.t (a2r l))) []:=
 M9 (aY7 l h1) (J7 rfl (fun h=>h) rfl rfl (by simp))
abbrev a2g (l:List j6):Blk:={ mode:=.live,elem:=45,size:=6,rows:=toC (l.map j6.row),box:=false }
theorem aR3:b7 Tryz.prog 187 [.c (.t (.sl 6 .any []))] [] (.c (.own 0 0 0 true)) [a2g []]:=by
 refine N6 ?_ ?_
 ·(refine ac Tryz.func187 ?_;(conv=>whnf);repeat (refine zy ?_;conv=>whnf))
  repeat' (first|refine zx ?_|refine zd ?_ ?_<;>intro h<;>try omega|fail)<;>conv=>whnf
  exact ⟨[none],rfl,rfl,⟨⟨rfl,rfl⟩,trivial⟩,⟨rfl,rfl,rfl⟩⟩
 ·(refine ac Tryz.func187 ?_;(conv=>whnf);repeat (refine zy ?_;conv=>whnf))
  repeat' (first|refine zx ?_|refine F0 rfl (by decide) ?_|refine zd ?_ ?_<;>intro h<;>try omega|fail)<;>conv=>whnf
  exact ⟨[some 0],rfl,rfl,⟨b8 (rows:=([]:List j6).map j6.row) rfl rfl rfl rfl rfl,trivial⟩,⟨rfl,rfl,rfl,fun h=>h⟩⟩
theorem am7 (l:List j6) (h1:l.length<=1000000):b7 Tryz.prog 187 [.c (.t (Q7 l))] [] (.c (.own 0 0 l.length true)) [a2g l]:=by
 have m1:(l.map j6.row).length=l.length:=by simp
 by_cases h0:l.length=0
 ·have:l=[]:=List.length_eq_zero_iff.1 h0
  subst this
  exact aR3
 have hl:0<(l.map j6.row).length:=by omega
 (refine ac Tryz.func187 ?_;(conv=>whnf);repeat (refine zy ?_;conv=>whnf))
 repeat' (first|refine zx ?_|refine qp (toC,lbr,List.length_nil) ?_|refine qp (toC,lbr) ?_|refine ⟨hl,?_⟩|refine zz ?_|refine F0 rfl (by simp only [toC,lbr,List.length_nil];omega) ?_|refine y9 (Nat.zero_le _) (by simp only [toC,lbr];omega) ?_|refine zd ?_ ?_<;>intro h<;>try omega|fail)<;>conv=>whnf
 all_goals first
  |omega
  |exact ⟨[some 0],rfl,rfl,⟨b8 (rows:=l.map j6.row) rfl rfl rfl rfl rfl,trivial⟩,⟨rfl,rfl,by simp [toC],fun h=>h⟩⟩
theorem b2W (l:List j6) (h1:l.length<=1000000):b7 Tryz.prog 187 [.c (.t (Q7 l))] [] (.c (.t (Q7 l))) []:=
 M9 (am7 l h1) (J7 rfl (fun h=>h) rfl rfl (by simp))
abbrev b0C (l:List E6):Blk:={ mode:=.live,elem:=211,size:=6,rows:=toC (l.map E6.row),box:=false }
theorem aV2:b7 Tryz.prog 188 [.c (.t (.sl 6 .any []))] [] (.c (.own 0 0 0 true)) [b0C []]:=by
 refine N6 ?_ ?_
 ·(refine ac Tryz.func188 ?_;(conv=>whnf);repeat (refine zy ?_;conv=>whnf))
  repeat' (first|refine zx ?_|refine zd ?_ ?_<;>intro h<;>try omega|fail)<;>conv=>whnf
  exact ⟨[none],rfl,rfl,⟨⟨rfl,rfl⟩,trivial⟩,⟨rfl,rfl,rfl⟩⟩
 ·(refine ac Tryz.func188 ?_;(conv=>whnf);repeat (refine zy ?_;conv=>whnf))
  repeat' (first|refine zx ?_|refine F0 rfl (by decide) ?_|refine zd ?_ ?_<;>intro h<;>try omega|fail)<;>conv=>whnf
  exact ⟨[some 0],rfl,rfl,⟨b8 (rows:=([]:List E6).map E6.row) rfl rfl rfl rfl rfl,trivial⟩,⟨rfl,rfl,rfl,fun h=>h⟩⟩
theorem b1W (l:List E6) (h1:l.length<=1000000):b7 Tryz.prog 188 [.c (.t (a0W l))] [] (.c (.own 0 0 l.length true)) [b0C l]:=by
 have m1:(l.map E6.row).length=l.length:=by simp
 by_cases h0:l.length=0
 ·have:l=[]:=List.length_eq_zero_iff.1 h0
  subst this
  exact aV2
 have hl:0<(l.map E6.row).length:=by omega
 (refine ac Tryz.func188 ?_;(conv=>whnf);repeat (refine zy ?_;conv=>whnf))
 repeat' (first|refine zx ?_|refine qp (toC,lbr,List.length_nil) ?_|refine qp (toC,lbr) ?_|refine ⟨hl,?_⟩|refine zz ?_|refine F0 rfl (by simp only [toC,lbr,List.length_nil];omega) ?_|refine y9 (Nat.zero_le _) (by simp only [toC,lbr];omega) ?_|refine zd ?_ ?_<;>intro h<;>try omega|fail)<;>conv=>whnf
 all_goals first
  |omega
  |exact ⟨[some 0],rfl,rfl,⟨b8 (rows:=l.map E6.row) rfl rfl rfl rfl rfl,trivial⟩,⟨rfl,rfl,by simp [toC],fun h=>h⟩⟩
theorem ar3 (l:List E6) (h1:l.length<=1000000):b7 Tryz.prog 188 [.c (.t (a0W l))] [] (.c (.t (a0W l))) []:=
 M9 (b1W l h1) (J7 rfl (fun h=>h) rfl rfl (by simp))
abbrev am0 (l:List w7):Blk:={ mode:=.live,elem:=307,size:=2,rows:=toC (l.map w7.row),box:=false }
theorem aw3:b7 Tryz.prog 189 [.c (.t (.sl 2 .any []))] [] (.c (.own 0 0 0 true)) [am0 []]:=by
 refine N6 ?_ ?_
 ·(refine ac Tryz.func189 ?_;(conv=>whnf);repeat (refine zy ?_;conv=>whnf))
  repeat' (first|refine zx ?_|refine zd ?_ ?_<;>intro h<;>try omega|fail)<;>conv=>whnf
  exact ⟨[none],rfl,rfl,⟨⟨rfl,rfl⟩,trivial⟩,⟨rfl,rfl,rfl⟩⟩
 ·(refine ac Tryz.func189 ?_;(conv=>whnf);repeat (refine zy ?_;conv=>whnf))
  repeat' (first|refine zx ?_|refine F0 rfl (by decide) ?_|refine zd ?_ ?_<;>intro h<;>try omega|fail)<;>conv=>whnf
  exact ⟨[some 0],rfl,rfl,⟨b8 (rows:=([]:List w7).map w7.row) rfl rfl rfl rfl rfl,trivial⟩,⟨rfl,rfl,rfl,fun h=>h⟩⟩
theorem aI4 (l:List w7) (h1:l.length<=1000000):b7 Tryz.prog 189 [.c (.t (N4 l))] [] (.c (.own 0 0 l.length true)) [am0 l]:=by
 have m1:(l.map w7.row).length=l.length:=by simp
 by_cases h0:l.length=0
 ·have:l=[]:=List.length_eq_zero_iff.1 h0
  subst this
  exact aw3
 have hl:0<(l.map w7.row).length:=by omega
 (refine ac Tryz.func189 ?_;(conv=>whnf);repeat (refine zy ?_;conv=>whnf))
 repeat' (first|refine zx ?_|refine qp (toC,lbr,List.length_nil) ?_|refine qp (toC,lbr) ?_|refine ⟨hl,?_⟩|refine zz ?_|refine F0 rfl (by simp only [toC,lbr,List.length_nil];omega) ?_|refine y9 (Nat.zero_le _) (by simp only [toC,lbr];omega) ?_|refine zd ?_ ?_<;>intro h<;>try omega|fail)<;>conv=>whnf
 all_goals first
  |omega
  |exact ⟨[some 0],rfl,rfl,⟨b8 (rows:=l.map w7.row) rfl rfl rfl rfl rfl,trivial⟩,⟨rfl,rfl,by simp [toC],fun h=>h⟩⟩
theorem a8V (l:List w7) (h1:l.length<=1000000):b7 Tryz.prog 189 [.c (.t (N4 l))] [] (.c (.t (N4 l))) []:=
 M9 (aI4 l h1) (J7 rfl (fun h=>h) rfl rfl (by simp))
abbrev aq6 (l:List s9):Blk:={ mode:=.live,elem:=252,size:=4,rows:=toC (l.map s9.row),box:=false }
theorem aB6:b7 Tryz.prog 190 [.c (.t (.sl 4 .any []))] [] (.c (.own 0 0 0 true)) [aq6 []]:=by
 refine N6 ?_ ?_
 ·(refine ac Tryz.func190 ?_;(conv=>whnf);repeat (refine zy ?_;conv=>whnf))
  repeat' (first|refine zx ?_|refine zd ?_ ?_<;>intro h<;>try omega|fail)<;>conv=>whnf
  exact ⟨[none],rfl,rfl,⟨⟨rfl,rfl⟩,trivial⟩,⟨rfl,rfl,rfl⟩⟩
 ·(refine ac Tryz.func190 ?_;(conv=>whnf);repeat (refine zy ?_;conv=>whnf))
  repeat' (first|refine zx ?_|refine F0 rfl (by decide) ?_|refine zd ?_ ?_<;>intro h<;>try omega|fail)<;>conv=>whnf
  exact ⟨[some 0],rfl,rfl,⟨b8 (rows:=([]:List s9).map s9.row) rfl rfl rfl rfl rfl,trivial⟩,⟨rfl,rfl,rfl,fun h=>h⟩⟩
theorem aJ5 (l:List s9) (h1:l.length<=1000000):b7 Tryz.prog 190 [.c (.t (P4 l))] [] (.c (.own 0 0 l.length true)) [aq6 l]:=by
 have m1:(l.map s9.row).length=l.length:=by simp
 by_cases h0:l.length=0
 ·have:l=[]:=List.length_eq_zero_iff.1 h0
  subst this
  exact aB6
 have hl:0<(l.map s9.row).length:=by omega
 (refine ac Tryz.func190 ?_;(conv=>whnf);repeat (refine zy ?_;conv=>whnf))
 repeat' (first|refine zx ?_|refine qp (toC,lbr,List.length_nil) ?_|refine qp (toC,lbr) ?_|refine ⟨hl,?_⟩|refine zz ?_|refine F0 rfl (by simp only [toC,lbr,List.length_nil];omega) ?_|refine y9 (Nat.zero_le _) (by simp only [toC,lbr];omega) ?_|refine zd ?_ ?_<;>intro h<;>try omega|fail)<;>conv=>whnf
 all_goals first
  |omega
  |exact ⟨[some 0],rfl,rfl,⟨b8 (rows:=l.map s9.row) rfl rfl rfl rfl rfl,trivial⟩,⟨rfl,rfl,by simp [toC],fun h=>h⟩⟩
theorem a8R (l:List s9) (h1:l.length<=1000000):b7 Tryz.prog 190 [.c (.t (P4 l))] [] (.c (.t (P4 l))) []:=
 M9 (aJ5 l h1) (J7 rfl (fun h=>h) rfl rfl (by simp))
abbrev b15 (l:List D8):Blk:={ mode:=.live,elem:=54,size:=2,rows:=toC (l.map D8.row),box:=false }
theorem b03:b7 Tryz.prog 114 [.c (.t (.sl 2 .any []))] [] (.c (.own 0 0 0 true)) [b15 []]:=by
 refine N6 ?_ ?_
 ·(refine ac Tryz.func114 ?_;(conv=>whnf);repeat (refine zy ?_;conv=>whnf))
  repeat' (first|refine zx ?_|refine zd ?_ ?_<;>intro h<;>try omega|fail)<;>conv=>whnf
  exact ⟨[none],rfl,rfl,⟨⟨rfl,rfl⟩,trivial⟩,⟨rfl,rfl,rfl⟩⟩
 ·(refine ac Tryz.func114 ?_;(conv=>whnf);repeat (refine zy ?_;conv=>whnf))
  repeat' (first|refine zx ?_|refine F0 rfl (by decide) ?_|refine zd ?_ ?_<;>intro h<;>try omega|fail)<;>conv=>whnf
  exact ⟨[some 0],rfl,rfl,⟨b8 (rows:=([]:List D8).map D8.row) rfl rfl rfl rfl rfl,trivial⟩,⟨rfl,rfl,rfl,fun h=>h⟩⟩
theorem b2H (l:List D8) (h1:l.length<=1000000):b7 Tryz.prog 114 [.c (.t (R0 l))] [] (.c (.own 0 0 l.length true)) [b15 l]:=by
 have m1:(l.map D8.row).length=l.length:=by simp
 by_cases h0:l.length=0
 ·have:l=[]:=List.length_eq_zero_iff.1 h0
  subst this
  exact b03
 have hl:0<(l.map D8.row).length:=by omega
 (refine ac Tryz.func114 ?_;(conv=>whnf);repeat (refine zy ?_;conv=>whnf))
 repeat' (first|refine zx ?_|refine qp (toC,lbr,List.length_nil) ?_|refine qp (toC,lbr) ?_|refine ⟨hl,?_⟩|refine zz ?_|refine F0 rfl (by simp only [toC,lbr,List.length_nil];omega) ?_|refine y9 (Nat.zero_le _) (by simp only [toC,lbr];omega) ?_|refine zd ?_ ?_<;>intro h<;>try omega|fail)<;>conv=>whnf
 all_goals first
  |omega
  |exact ⟨[some 0],rfl,rfl,⟨b8 (rows:=l.map D8.row) rfl rfl rfl rfl rfl,trivial⟩,⟨rfl,rfl,by simp [toC],fun h=>h⟩⟩
theorem b2C (l:List D8) (h1:l.length<=1000000):b7 Tryz.prog 114 [.c (.t (R0 l))] [] (.c (.t (R0 l))) []:=
 M9 (b2H l h1) (J7 rfl (fun h=>h) rfl rfl (by simp))
theorem aY6:b7 Tryz.prog 314 [.c (.t (.sl 5 .any []))] [] (.c (.own 0 0 0 true)) [H6 []]:=by
 refine N6 ?_ ?_
 ·(refine ac Tryz.func314 ?_;(conv=>whnf);repeat (refine zy ?_;conv=>whnf))
  repeat' (first|refine zx ?_|refine zd ?_ ?_<;>intro h<;>try omega|fail)<;>conv=>whnf
  exact ⟨[none],rfl,rfl,⟨⟨rfl,rfl⟩,trivial⟩,⟨rfl,rfl,rfl⟩⟩
 ·(refine ac Tryz.func314 ?_;(conv=>whnf);repeat (refine zy ?_;conv=>whnf))
  repeat' (first|refine zx ?_|refine F0 rfl (by decide) ?_|refine zd ?_ ?_<;>intro h<;>try omega|fail)<;>conv=>whnf
  exact ⟨[some 0],rfl,rfl,⟨b8 (rows:=([]:List (Int × Rat)).map j9) rfl rfl rfl rfl rfl,trivial⟩,⟨rfl,rfl,rfl,fun h=>h⟩⟩
theorem b24 (l:List (Int × Rat)) (h1:l.length<=1000000):b7 Tryz.prog 314 [.c (.t (a2E l))] [] (.c (.own 0 0 l.length true)) [H6 l]:=by
 have m1:(l.map j9).length=l.length:=by simp
 by_cases h0:l.length=0
 ·have:l=[]:=List.length_eq_zero_iff.1 h0
  subst this
  exact aY6
 have hl:0<(l.map j9).length:=by omega
 (refine ac Tryz.func314 ?_;(conv=>whnf);repeat (refine zy ?_;conv=>whnf))
 repeat' (first|refine zx ?_|refine qp (toC,lbr,List.length_nil) ?_|refine qp (toC,lbr) ?_|refine ⟨hl,?_⟩|refine zz ?_|refine F0 rfl (by simp only [toC,lbr,List.length_nil];omega) ?_|refine y9 (Nat.zero_le _) (by simp only [toC,lbr];omega) ?_|refine zd ?_ ?_<;>intro h<;>try omega|fail)<;>conv=>whnf
 all_goals first
  |omega
  |exact ⟨[some 0],rfl,rfl,⟨b8 (rows:=l.map j9) rfl rfl rfl rfl rfl,trivial⟩,⟨rfl,rfl,by simp [toC],fun h=>h⟩⟩
theorem b2N:b7 Tryz.prog 164 [.c (.t (.sl 1 .any []))] [] (.c (.own 0 0 0 true)) [n7 []]:=by
 refine N6 ?_ ?_
 ·(refine ac Tryz.func164 ?_;(conv=>whnf);repeat (refine zy ?_;conv=>whnf))
  repeat' (first|refine zx ?_|refine zd ?_ ?_<;>intro h<;>try omega|fail)<;>conv=>whnf
  exact ⟨[none],rfl,rfl,⟨⟨rfl,rfl⟩,trivial⟩,⟨rfl,rfl,rfl⟩⟩
 ·(refine ac Tryz.func164 ?_;(conv=>whnf);repeat (refine zy ?_;conv=>whnf))
  repeat' (first|refine zx ?_|refine F0 rfl (by decide) ?_|refine zd ?_ ?_<;>intro h<;>try omega|fail)<;>conv=>whnf
  exact ⟨[some 0],rfl,rfl,⟨b8 (rows:=([]:List Int).map e8) rfl rfl rfl rfl rfl,trivial⟩,⟨rfl,rfl,rfl,fun h=>h⟩⟩
theorem aP0 (l:List Int) (h1:l.length<=1000000):b7 Tryz.prog 164 [.c (.t (N3 l))] [] (.c (.own 0 0 l.length true)) [n7 l]:=by
 have m1:(l.map e8).length=l.length:=by simp
 by_cases h0:l.length=0
 ·have:l=[]:=List.length_eq_zero_iff.1 h0
  subst this
  exact b2N
 have hl:0<(l.map e8).length:=by omega
 (refine ac Tryz.func164 ?_;(conv=>whnf);repeat (refine zy ?_;conv=>whnf))
 repeat' (first|refine zx ?_|refine qp (toC,lbr,List.length_nil) ?_|refine qp (toC,lbr) ?_|refine ⟨hl,?_⟩|refine zz ?_|refine F0 rfl (by simp only [toC,lbr,List.length_nil];omega) ?_|refine y9 (Nat.zero_le _) (by simp only [toC,lbr];omega) ?_|refine zd ?_ ?_<;>intro h<;>try omega|fail)<;>conv=>whnf
 all_goals first
  |omega
  |exact ⟨[some 0],rfl,rfl,⟨b8 (rows:=l.map e8) rfl rfl rfl rfl rfl,trivial⟩,⟨rfl,rfl,by simp [toC],fun h=>h⟩⟩
theorem b54 (l:List Int) (h1:l.length<=1000000):b7 Tryz.prog 164 [.c (.t (N3 l))] [] (.c (.t (N3 l))) []:=
 M9 (aP0 l h1) (J7 rfl (fun h=>h) rfl rfl (by simp))
theorem a6W {l:List (Int × Rat)} {n m:Nat} {t:Int × Rat} {K:List C->Prop} (e:n=m) (h:l[m]? =some t) (k:K ((j9 t).map C.t)):∃row,(toC (l.map j9))[n]? =some row∧K row:=by
 subst e;exact ⟨_,by simp [toC,h],k⟩
open Go.RowKit Go.Shelf Go.Lib Go.Sort
structure be7 (b:Nat) (w w':World):Prop where
 os:w'.os=w.os
 tape:w'.tape=w.tape
 output:w'.output=w.output
 size:w.heap.size<=w'.heap.size
 block:∀k,k<w.heap.size->k≠b->w'.heap[k]? =w.heap[k]?
theorem a7E {α:Type} [Inhabited α] (enc:α->Value) (w:World) (blk off n:Nat) (d:Array α) (os:Array Obj):be7 blk w (grow (putRow enc (Sort.ahead w n) blk off d) os) where
 os:=rfl
 tape:=rfl
 output:=rfl
 size:=by show _<=((w.heap.modify blk _)++os).size;simp
 block:=fun k hk hb=>by
  show ((w.heap.modify blk _)++os)[k]? =_
  rw [Array.getElem?_append_left (by simpa using hk),Array.getElem?_modify,if_neg (fun e=>hb e.symm)]
theorem ag4 {α:Type} [Inhabited α] (enc:α->Value) {w:World} {blk:Nat} (off n:Nat) (d:Array α) (os:Array Obj) {cur:Array Value} {e:TypeId} {fr:Nat × Nat} (h:w.heap[blk]? =some (.cells cur e fr)):
 (grow (putRow enc (Sort.ahead w n) blk off d) os).heap[blk]? =some (.cells (putCells enc off d cur) e fr):=by
 have hlt:=B8 h
 show ((w.heap.modify blk _)++os)[blk]? =_
 rw [Array.getElem?_append_left (by simpa using hlt),Array.getElem?_modify,if_pos rfl,h];rfl
theorem a8i {α:Type} [Inhabited α] (enc:α->Value) (off:Nat) (d:Array α) (cur:Array Value):(putCells enc off d cur).size=cur.size:=by simp [putCells]
theorem aj3 {α:Type} [Inhabited α] (enc:α->Value) {off:Nat} {d:Array α} {cur:Array Value} {j:Nat} (h1:j<d.size) (h2:off+j<cur.size):(putCells enc off d cur)[off+j]? =some (enc d[j]!):=by
 unfold putCells
 rw [Array.getElem?_mapIdx,Array.getElem?_eq_getElem h2]
 simp only [Option.map_some]
 rw [if_pos ⟨Nat.le_add_right _ _,by omega⟩,Nat.add_sub_cancel_left]
theorem a6q {w w':World} {ι:Io} {M:Ms} {k k':Blk} {b cap size:Nat} (hH:j8 w ι M [k]) (hMB:MB w M) (hF:a0f ι 1) (hι:ι 0=some (.blk b cap size)) (hm:k.mode=.live) (hm':k'.mode=.live) (hB:be7 b w w')
 (hk:G4 w' ι M k' (.blk b cap size)) {s:S} {v:Value} (hv:RS w' ι M s v):F4 w ι M [k] s [k'] v w':=by
 have lv:∀k:Blk,k.mode=.live->a24 ι [k] b:=fun k hk=>⟨0,k,cap,size,rfl,hk,hι⟩
 have lo:∀(k:Blk) x,a24 ι [k] x->x=b:=by
  rintro k x ⟨id,k2,c2,s2,h1,h2,h3⟩
  rcases id with _|id
  ·rw [hι] at h3;injection h3 with h3;injection h3 with h3;exact h3.symm
  ·simp at h1
 have hMb:M b:=hH.liv 0 k rfl hm b cap size hι
 refine ⟨ι,M,hv,⟨?_,?_,?_,?_,?_⟩,fun x hx=>Nat.lt_of_lt_of_le (hMB x hx) hB.size,hF,hB.os,hB.tape,hB.output,hB.size,fun x hx hl=>hB.block x hx (fun e=>hl (by rw [e];exact lv k hm)),fun _ _=>rfl,fun x h=>.inl h,fun x h=>.inl h,fun x h=>by
  have e:=lo _ _ h
  subst e;exact .inl (lv k hm),lbQ _⟩
 ·intro id k2 h1 h2 l hl
  rcases id with _|id
  ·injection h1 with h1;subst h1
   rw [hι] at hl;injection hl with hl;subst hl;exact hk
  ·simp at h1
 ·intro id k2 h1 h2 x c2 s2 h3
  rcases id with _|id
  ·rw [hι] at h3;injection h3 with h3;injection h3 with h3;subst h3;exact hMb
  ·simp at h1
 ·intro id k2 h1 h2
  rcases id with _|id
  ·injection h1 with h1;subst h1;rw [hm'] at h2;cases h2
  ·simp at h1
 ·intro id id' k2 k3 h1 h2 _ _ x c s c' s' h3 h4
  rcases id with _|id<;>rcases id' with _|id'
  ·rfl
  ·simp at h2
  ·simp at h1
  ·simp at h1
 ·intro id id' k2 k3 h1 h2 h3
  rcases id with _|id
  ·injection h1 with h1;subst h1;rw [hm'] at h3;cases h3
  ·simp at h1
def B2 (l:List Int):List Int:=l.mergeSort fun a b=>decide (a<=b)
def w8 (l:List Int):List (Int × Rat):=l.map fun v=>(v,((1:Int):Rat))
theorem a0t (l:List Int):(B2 l).Perm l:=List.mergeSort_perm l _
theorem W8 (l:List Int):(B2 l).length=l.length:=(a0t l).length_eq
theorem b2T {l:List Int} {x:Int}:x ∈ B2 l↔x ∈ l:=(a0t l).mem_iff
theorem a1d (l:List Int):(B2 l).Pairwise (·<=·):=by
 have:=List.pairwise_mergeSort (le:=fun a b:Int=>decide (a<=b)) (fun a b c h1 h2=>by simp only [lbI] at *;omega) (fun a b=>by simp only [lbN,lbI];omega) l
 exact this.imp fun h=>lbL h
open Go.RowKit Go.Shelf Go.Lib Go.Sort
def a9l (cur:Array Value) (n:Nat) (i:Nat):List Value:=if i<n then [cur[i*5]!,cur[i*5+1]!,cur[i*5+2]!,cur[i*5+3]!,cur[i*5+4]!] else [.int .i64 0,.int .i64 0,.slice none 0 0,.int .i64 0,.slice none 0 0]
def a6o (vs:List Int) (i:Nat):Int:=vs.getD i 0
theorem b7w (f:Nat->Int):SWO (ltOf fun x y:Nat=>Lib.compareInt (f x) (f y)):=by
 have e:∀x y,ltOf (fun x y:Nat=>Lib.compareInt (f x) (f y)) x y=decide (f x<f y):=fun x y=>by
  unfold ltOf Lib.compareInt
  by_cases h1:f x<f y
  ·simp [h1]
  ·by_cases h2:f y<f x<;>simp [h1,h2]
 exact ⟨fun x=>by rw [e];simp,fun x y z h1 h2=>by rw [e] at *;simp at *;omega,fun x y z h1 h2=>by rw [e] at *;simp at *;omega⟩
def b5b (P:Program) (g:FuncId):Prop:=∀(x y:Int) (a1 a2 a3 a4 b1 b2 b3 b4:Value) (W:World),
 Calls P g #[.agg #[.int .i64 x,a1,a2,a3,a4],.agg #[.int .i64 y,b1,b2,b3,b4]] W fun e w'=>e=.returned (.int .i64 (Lib.compareInt x y))∧∃q os',w'=grow (W.drewN q) os'
theorem aU0 {n:Nat} {d':Array Nat} (h:PermIn 0 (Array.range n).size (Array.range n) d'):d'.size=n∧d'.toList.Perm (List.range n):=by
 obtain ⟨h1,_,h3⟩:=h
 simp only [Array.size_range] at h1 h3
 refine ⟨h1,?_⟩
 have e1:d'.extract 0 n=d':=by rw [← h1];exact Array.extract_size
 have e2:(Array.range n).extract 0 n=Array.range n:=by
  have:(Array.range n).extract 0 (Array.range n).size=Array.range n:=Array.extract_size
  rwa [Array.size_range] at this
 rw [e1,e2,Array.toList_range] at h3
 exact h3
theorem b4C {vs:List Int} {d':Array Nat} (hp:d'.toList.Perm (List.range vs.length)) (hs:∀i j,i<j->j<d'.size->¬a6o vs d'[j]!<a6o vs d'[i]!):d'.toList.map (a6o vs)=B2 vs:=by
 have e0:(List.range vs.length).map (a6o vs)=vs:=by
  refine List.ext_getElem? fun i=>?_
  rw [lba]
  by_cases h:i<vs.length
  ·rw [lbh h,lbf h]
   show some (vs.getD i 0)=_
   rw [lbl,lbf h];rfl
  ·rw [lbd (by simpa using h),lbd (by simpa using h)];rfl
 have h1:(d'.toList.map (a6o vs)).Perm vs:=by
  have:=hp.map (a6o vs)
  rwa [e0] at this
 refine List.Perm.eq_of_pairwise (le:=(·<=·)) (fun a b _ _ h1 h2=>by omega) ?_ (a1d vs) (h1.trans (a0t vs).symm)
 rw [List.pairwise_iff_getElem]
 intro i j hi hj hij
 simp only [lbr,Array.length_toList] at hi hj
 have:=hs i j hij hj
 rw [getElem!_pos d' i hi,getElem!_pos d' j hj] at this
 simp only [List.getElem_map,Array.getElem_toList]
 omega
set_option maxHeartbeats 4000000 in
theorem aG2 {P:Program} {ρ:Ren} (L:SlLaysF0.n6 P ρ) (aE:∀w,(isAgg (ρ.t 24)).run P w=.ok true w) (zE:∀w,(Go.sizeOf (ρ.t 24)).run P w=.ok 5 w) (en:a8p P (ρ.f 6)) {g:FuncId} (eg:∀args w,(callFunc g args).run P w=.ok (.enter g args) w) (hc:b5b P g)
 (vs:List Int) (hl:vs.length<=1000):b7 P (ρ.f 6) [.c (.own 0 0 vs.length true),.c (.t (.fn (Fn.func g) []))] [H6 (w8 vs)] (.tup []) [H6 (w8 (B2 vs))]:=by
 refine ⟨en,fun w ι M vals hlen hv hH hMB hF=>?_⟩
 obtain ⟨x,y,rfl⟩:∃x y,vals=[x,y]:=by
  match vals,hlen with
  |[x,y],_=>exact ⟨x,y,rfl⟩
 have hx:=hv 0 _ rfl
 have hy:=hv 1 _ rfl
 simp only [lb5,lb6] at hx hy
 obtain ⟨rfl⟩:y=.func (.func g) #[] #[]:=by
  cases hy with
  |c hy=>cases hy with
   |t hy=>cases hy with
    |fn vs hl _=>
     have:vs=[]:=lbF hl
     subst this;rfl
 have m1:((w8 vs).map j9).length=vs.length:=by simp [w8]
 have hb0:∀l0,ι 0=some l0->G4 w ι M (H6 (w8 vs)) l0:=fun l0 h=>hH.blk 0 _ rfl (by intro h;cases h) _ h
 generalize hn:vs.length=n at hx
 cases hx with
 |c hx=>
 cases hx with
 |nil hnil=>
  have hvs:vs=[]:=by
   have h1:(H6 (w8 vs)).rows=[]:=hb0 _ hnil
   cases vs with
   |nil=>rfl
   |cons a r=>simp [toC,w8] at h1
  subst hvs
  clear hn
  refine (AnyF.slices_SortFunc_none L _ _ _ w).mono ?_
  rintro e w' ⟨rfl,rfl⟩
  have e0:B2 []=[]:=by simp [B2]
  rw [e0]
  exact ⟨_,rfl,ι,M,.tup [] rfl (fun j s h=>by simp at h),hH,hMB,hF,rfl,rfl,rfl,lbQ _,fun _ _ _=>rfl,fun _ _=>rfl,fun _ h=>.inl h,fun _ h=>.inl h,fun _ h=>.inl h,lbQ _⟩
 |@own _ _ _ _ b cap size A cap' h0 h1 h2 h3 h4 h5=>
  subst hn
  obtain ⟨q1,q2,q3,q4,q5,cur,q6,q7,q8⟩:=hb0 _ h0
  have hs5:size=5:=q1.symm
  subst hs5
  obtain ⟨_,hA,hcap⟩:=h5 rfl
  subst hA
  have hle:vs.length<=cap:=by omega
  have hblk:=B8 q6
  have hsz:vs.length*5<=cur.size:=by rw [q7];exact lbT 5 hle
  have row:∀i,i<vs.length->(toC ((w8 vs).map j9))[i]? =some ((j9 (vs.getD i 0,((1:Int):Rat))).map C.t):=fun i hi=>by
   simp [toC,w8,hi]
  have cell:∀i j c,i<vs.length->(j9 (vs.getD i 0,((1:Int):Rat)))[j]? =some c->RC w ι M (.t c) cur[i*5+j]!:=fun i j c hi hj=>by
   obtain ⟨u,hu,hr⟩:=q8 i j (.t c) (by unfold at2;rw [row i hi];simp only [Option.bind_some,lba,hj];rfl)
   have:=(lb4.1 hu).1
   rw [getElem!_pos cur _ this]
   rw [Array.getElem?_eq_getElem this] at hu
   injection hu with hu;rw [hu];exact hr
  have k0:∀i,i<vs.length->cur[i*5]! =.int .i64 (a6o vs i):=fun i hi=>by
   have h:RC w ι M (.t (ti (a6o vs i))) cur[i*5]!:=cell i 0 _ hi rfl
   generalize cur[i*5]! =u at h ⊢
   cases h with
   |t h=>cases h;rfl
  have one:∀x,∀v ∈ a9l cur vs.length x,v.oneCell'=true:=fun x v hv=>by
   unfold a9l at hv
   split at hv
   ·rename_i hx
    simp only [lbA,lb9,or_false] at hv
    rcases hv with rfl|rfl|rfl|rfl|rfl
    ·exact (cell x 0 _ hx rfl).one
    ·exact (cell x 1 _ hx rfl).one
    ·exact (cell x 2 _ hx rfl).one
    ·exact (cell x 3 _ hx rfl).one
    ·exact (cell x 4 _ hx rfl).one
   ·simp only [lbA,lb9,or_false] at hv
    rcases hv with rfl|rfl|rfl|rfl|rfl<;>rfl
  have enc0:∀x,∃a1 a2 a3 a4,(a9l cur vs.length x).toArray=#[.int .i64 (a6o vs x),a1,a2,a3,a4]:=fun x=>by
   unfold a9l
   split
   ·rename_i hx;exact ⟨_,_,_,_,by rw [k0 x hx]⟩
   ·rename_i hx
    have:a6o vs x=0:=by unfold a6o;rw [lbl,lbd (by omega)];rfl
    exact ⟨_,_,_,_,by rw [this]⟩
  have hold:HoldsK (a9l cur vs.length) 5 w b 0 (Array.range vs.length):=by
   intro j hj
   rw [size_flatK,Array.size_range] at hj
   have hj5:j<cur.size:=by omega
   have e1:(flatK (a9l cur vs.length) 5 (Array.range vs.length))[j]! =cur[j]!:=by
    rw [get_flatK _ _ _ _ (by rw [Array.size_range];exact hj)]
    have hd:j / 5<vs.length:=by omega
    have e2:(Array.range vs.length)[j / 5]! =j / 5:=by rw [getElem!_pos _ _ (by simpa using hd)];simp
    rw [e2]
    unfold a9l
    rw [if_pos hd]
    have hm:j % 5<5:=Nat.mod_lt _ (by decide)
    have e3:j / 5*5+j % 5=j:=by omega
    clear e2
    generalize j / 5=q at hd e3 ⊢
    generalize j % 5=m at hm e3 ⊢
    subst e3
    match m,hm with
    |0,_=>rfl
    |1,_=>rfl
    |2,_=>rfl
    |3,_=>rfl
    |4,_=>rfl
   rw [e1]
   refine ⟨?_,?_⟩
   ·show w.cell? ⟨b,0+j,none⟩=_
    simp [World.cell?,q6,hj5]
   ·simp [World.frozen?,q6]
  have cmp:CmpLays P g #[] (a9l cur vs.length) 5 (fun x y=>Lib.compareInt (a6o vs x) (a6o vs y)) b 0 (Array.range vs.length).size w:=fun m os dk _ x y=>by
   obtain ⟨a1,a2,a3,a4,ea⟩:=enc0 x
   obtain ⟨b1,b2,b3,b4,eb⟩:=enc0 y
   rw [ea,eb]
   exact hc _ _ _ _ _ _ _ _ _ _ _
  have key:=AnyQ.slices_SortFunc L 5 aE zE (a9l cur vs.length) (fun x=>by unfold a9l;split<;>rfl) one (fun x y=>Lib.compareInt (a6o vs x) (a6o vs y)) (b7w _) g #[] b 0 cap' (Array.range vs.length) w eg cmp hold hblk (by rw [Array.size_range];omega)
  rw [Array.size_range] at key
  refine key.mono ?_
  rintro e w' ⟨rfl,d',n,os,hp,hs,rfl⟩
  obtain ⟨d1,d2⟩:=aU0 (by rw [Array.size_range];exact hp)
  have d3:=b4C d2 fun i j hij hj hlt=>by
   have:=hs i j (Nat.zero_le _) hij (by omega)
   simp [ltOf,Lib.compareInt,hlt] at this
  have hin:∀i,i<vs.length->d'[i]!<vs.length:=fun i hi=>by
   have hi':i<d'.size:=by omega
   have:d'[i]! ∈ d'.toList:=by rw [getElem!_pos d' i hi'];simp
   have:=d2.mem_iff.1 this
   simpa using this
  refine ⟨_,rfl,a6q hH hMB hF h0 rfl rfl (a7E id w b 0 n _ os) ?_ (.tup [] rfl (fun j s h=>by simp at h))⟩
  have ml:((w8 (B2 vs)).map j9).length=vs.length:=by simp [w8,W8]
  refine ⟨rfl,by decide,?_,q4,?_,_,ag4 id 0 n _ os q6,by rw [a8i,q7],?_⟩
  ·show (toC _).length<=cap;simp [toC,w8,W8];omega
  ·intro r hr
   simp only [toC,w8,List.map_map,lbx,Function.comp_def] at hr
   obtain ⟨x,_,rfl⟩:=hr
   rfl
  ·intro i j c hij
   have hi:i<vs.length:=by
    have h9:i<(toC ((w8 (B2 vs)).map j9)).length:=by
     unfold at2 at hij
     cases hq:(toC ((w8 (B2 vs)).map j9))[i]? with
     |none=>rw [show (H6 (w8 (B2 vs))).rows=toC ((w8 (B2 vs)).map j9) from rfl,hq] at hij;cases hij
     |some _=>exact (lbe.1 hq).1
    simpa [toC,w8,W8] using h9
   have hid:i<d'.size:=by omega
   have hk:(B2 vs)[i]? =some (vs.getD d'[i]! 0):=by
    rw [← d3,lba,Array.getElem?_toList,Array.getElem?_eq_getElem hid]
    rw [getElem!_pos d' i hid];rfl
   have hrow:(toC ((w8 (B2 vs)).map j9))[i]? =some ((j9 (vs.getD d'[i]! 0,((1:Int):Rat))).map C.t):=by
    simp only [toC,w8,List.map_map,lba,hk];rfl
   unfold at2 at hij
   rw [show (H6 (w8 (B2 vs))).rows=toC ((w8 (B2 vs)).map j9) from rfl,hrow] at hij
   simp only [Option.bind_some,lba] at hij
   obtain ⟨t,ht,rfl⟩:=Option.map_eq_some_iff.1 hij
   have hj5:j<5:=(lbe.1 ht).1
   have hcl:=cell _ j t (hin i hi) ht
   have hbd:i*5+j<vs.length*5:=by omega
   refine ⟨cur[d'[i]!*5+j]!,?_,?_⟩
   ·have h7:=aj3 id (off:=0) (d:=flatK (a9l cur vs.length) 5 d') (cur:=cur) (j:=i*5+j) (by rw [size_flatK,d1];exact hbd) (by omega)
    rw [Nat.zero_add] at h7
    rw [h7,get_flatK _ _ _ _ (by rw [d1];exact hbd)]
    have e4:(i*5+j) / 5=i:=by omega
    have e5:(i*5+j) % 5=j:=by omega
    rw [e4,e5]
    unfold a9l
    rw [if_pos (hin i hi)]
    match j,hj5 with
    |0,_=>rfl
    |1,_=>rfl
    |2,_=>rfl
    |3,_=>rfl
    |4,_=>rfl
   ·cases hcl with
    |t hcl=>exact .t (hcl.keep (fun x hx hM=>(a7E id w b 0 n _ os).block x hx (fun e=>hM (by rw [e];exact hH.liv 0 _ rfl rfl b cap 5 h0))) (fun x h=>.inl h))
end Go.Proofs.YtaejgdbahjjncaaGreat
