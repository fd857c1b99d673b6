/- Part 5. -/
import Derived.Test.YtdbogogfeffjlaaGreatQm4
namespace Go.Proofs.YtdbogogfeffjlaaGreat
set_option linter.unusedVariables false
set_option linter.unusedSimpArgs false
set_option maxRecDepth 100000
open Go.RowKit
open St1 St2 St3 St4 St5 St6 St7 St8 StA StB
theorem aY2 {H:Hp} {ia ir n s:Nat} {a row:Nat->Rat} (hne:ia≠ir) (ga:H[ia]? =some (flB (rF n a))) (gr:H[ir]? =some (flB (rF n row))) (hn:n<=1000) (hs:s<n) (ha:∀j,j<n->rl (a j)<=30000) (hr:∀j,j<n->rl (row j)<=30000):
 a9 Tryz.prog 296 [.c (.own ia 0 n true),.c (.own ir 0 n true),a7 .i64 s] H (.tup []) (H.set ia (flB (rF n (tkA a row s)))):=by
 have la:ia<H.length:=(lg1 ga).1
 refine U0 [ia,ir] (b7d n s a row hn hs ha hr) rfl rfl rfl (by simp;exact hne) ?_ ?_ (by simp) rfl rfl (by simp) ?_ ?_
 ·intro i k hk
  match i,hk with
  |0,hk=>injection hk with hk;subst hk;exact ⟨rfl,rfl,a2x _,_,ga,D4 rfl⟩
  |1,hk=>injection hk with hk;subst hk;exact ⟨rfl,rfl,a2x _,_,gr,D4 rfl⟩
 ·intro k hk
  simp at hk
  rcases hk with rfl|rfl<;>(intro h;cases h)
 ·intro i k hk
  match i,hk with
  |0,hk=>
   injection hk with hk;subst hk
   refine ⟨_,?_,D4 rfl⟩
   show (H.set ia _)[ia]? =_
   rw [List.getElem?_set,if_pos rfl,if_pos la]
  |1,hk=>
   injection hk with hk;subst hk
   refine ⟨_,?_,D4 rfl⟩
   show (H.set ia _)[ir]? =_
   rw [List.getElem?_set,if_neg hne];exact gr
 ·intro j hj hjn
  simp at hjn
  rw [List.getElem?_set,if_neg (fun h=>hjn.1 h.symm)]
theorem a1O {b m n i r:Nat} {V:Nat->Rat} {K:List C->Prop} (e:i=r) (h:r<m) (k:K (frC (fz (V r))++[C.own (r+b) 0 n true])):∃row,(P5 b m n V)[i]? =some row∧K row:=by
 subst e;exact ⟨_,a24 h,k⟩
theorem aV5 {rows:List (List C)} {i:Nat} {x:List C} {K:List C->Prop} (h:i<rows.length) (k:K x):∃row,(rows.set i x)[i]? =some row∧K row:=⟨x,List.getElem?_set_self h,k⟩
theorem b4U {rows:List (List C)} {i j:Nat} {x:List C} {K:List C->Prop} (h:i≠j) (k:∃row,rows[j]? =some row∧K row):∃row,(rows.set i x)[j]? =some row∧K row:=by
 rw [List.getElem?_set_ne h];exact k
def a3O (a:Nat->Rat) (p:Rat) (s k:Nat):Nat->Rat:=fun j=>if j<k∧j≠s then a j / p else a j
def A1 (D:Fd) (r s k:Nat):Nat->Nat->Rat:=fun i=>if i=r then a3O (D.A r) (D.A r s) s k else D.A i
theorem b94 {D:Fd} {r s k:Nat}:A1 D r s k r k=D.A r k:=by unfold A1 a3O;rw [if_pos rfl,if_neg (by omega)]
theorem b9n {D:Fd} {r s k:Nat}:A1 D r s k r s=D.A r s:=by unfold A1 a3O;rw [if_pos rfl,if_neg (by omega)]
theorem b5q {D:Fd} {r s k:Nat} (h:k≠s):(fun i=>if i=r then (fun j=>if j=k then D.A r k / D.A r s else A1 D r s k r j) else A1 D r s k i)=A1 D r s (k+1):=by
 funext i j
 by_cases hi:i=r
 ·subst hi
  simp only [if_true]
  unfold A1 a3O
  simp only [if_true]
  by_cases hj:j=k
  ·subst hj;rw [if_pos rfl,if_pos ⟨by omega,h⟩]
  ·rw [if_neg hj]
   have:(j<k∧j≠s)↔(j<k+1∧j≠s):=by omega
   simp only [this]
 ·rw [if_neg hi];unfold A1;rw [if_neg hi,if_neg hi]
theorem b4Y {D:Fd} {r s:Nat}:A1 D r s s=A1 D r s (s+1):=by
 funext i j;unfold A1 a3O
 have:(j<s∧j≠s)↔(j<s+1∧j≠s):=by omega
 split
 ·simp only [this]
 ·rfl
theorem b5d {D:Fd} {r s k:Nat} (h:D.A r k=0):A1 D r s k=A1 D r s (k+1):=by
 funext i j;unfold A1 a3O
 split
 ·show (if j<k∧j≠s then D.A r j / D.A r s else D.A r j)=if j<k+1∧j≠s then D.A r j / D.A r s else D.A r j
  by_cases hj:j=k
  ·subst hj
   rw [if_neg (show ¬(j<j∧j≠s) by omega)]
   split
   ·rw [h];grind
   ·rfl
  ·have:(j<k∧j≠s)↔(j<k+1∧j≠s):=by omega
   simp only [this]
 ·rfl
theorem aX8 {m n r:Nat} {A B:Nat->Nat->Rat} {g:Nat->Rat} (h:r<m) (e:(fun i=>if i=r then g else A i)=B):(mF m n A).set r (rF n g)=mF m n B:=by rw [b3f h,e]
def V1 (D:Fd) (r s:Nat):Nat->Rat:=fun i=>if i=r then D.V r / D.A r s else D.V i
def V2 (D:Fd) (r s k:Nat):Nat->Rat:=fun i=>if i=r then D.V r / D.A r s else if i<k then D.V i - D.A i s*(D.V r / D.A r s) else D.V i
def A2 (D:Fd) (r s k:Nat):Nat->Nat->Rat:=fun i=>if i=r then D.pRow r s else if i<k then tkA (D.A i) (D.pRow r s) s else D.A i
theorem aF8 {a row:Nat->Rat} {s:Nat} (h:a s=0):tkA a row s=a:=by
 funext j;unfold tkA
 by_cases hj:j=s
 ·rw [if_pos hj,hj,h];grind
 ·rw [if_neg hj,h];grind
theorem a0l {m i r:Nat} {f:Nat->Nat} {K:List C->Prop} (e:i=r) (h:r<m) (k:K [C.t (ti (f r))]):∃row,(toC (a0u m f))[i]? =some row∧K row:=by
 subst e;exact ⟨_,by simp [toC,a63 h],k⟩
theorem I5 {α β:Type} {f:β->α} {M:List β} {T:List α} {i:Nat} {x:β} (h:M[i]? =some x):(M.map f++T)[i]? =some (f x):=by
 rw [List.getElem?_append_left (by simpa using (lg1 h).1),List.getElem?_map,h];rfl
theorem b34 {α β:Type} {f:β->α} {M:List β} {T:List α} {i:Nat} {x:β} (h:i<M.length):(M.map f++T).set i (f x)=(M.set i x).map f++T:=by
 rw [List.set_append_left _ _ (by simpa using h),←List.map_set]
theorem b5i {m n:Nat} {D:Fd} {r s:Nat} (hr:r<m) (hs:s<n):(mF m n (A1 D r s n)).set r ((rF n (A1 D r s n r)).set s (fz (((1:Int):Rat) / D.A r s)))=mF m n (A2 D r s 0):=by
 rw [L2 hs,b3f hr]
 refine aA1 fun i hi j hj=>?_
 unfold A2
 by_cases hir:i=r
 ·rw [if_pos hir,if_pos hir]
  unfold Fd.pRow A1 a3O
  rw [if_pos rfl]
  by_cases hjs:j=s
  ·rw [if_pos hjs,if_pos hjs];rfl
  ·rw [if_neg hjs,if_neg hjs,if_pos ⟨hj,hjs⟩]
 ·rw [if_neg hir,if_neg hir,if_neg (by omega)];unfold A1;rw [if_neg hir]
theorem b62 {D:Fd} {r s:Nat}:V2 D r s 0=V1 D r s:=by
 funext i;unfold V2 V1;split
 ·rfl
 ·rw [if_neg (by omega)]
theorem b9a {D:Fd} {r s k:Nat}:V2 D r s k r=D.V r / D.A r s:=by unfold V2;rw [if_pos rfl]
theorem b1U {D:Fd} {r s k:Nat} (h:k≠r):V2 D r s k k=D.V k:=by unfold V2;rw [if_neg h,if_neg (by omega)]
theorem b9l {D:Fd} {r s k:Nat}:A2 D r s k r=D.pRow r s:=by unfold A2;rw [if_pos rfl]
theorem b6B {D:Fd} {r s k:Nat} (h:k≠r):A2 D r s k k=D.A k:=by unfold A2;rw [if_neg h,if_neg (by omega)]
theorem aX7 {D:Fd} {r s k:Nat} (h:k≠r):(fun i=>if i=k then D.V k - D.A k s*(D.V r / D.A r s) else V2 D r s k i)=V2 D r s (k+1):=by
 funext i
 by_cases hi:i=k
 ·subst hi;rw [if_pos rfl];unfold V2;rw [if_neg h,if_pos (by omega)]
 ·rw [if_neg hi];unfold V2
  have:(i<k)↔(i<k+1):=by omega
  simp only [this]
theorem aW7 {D:Fd} {r s k:Nat} (h:k≠r):(fun i=>if i=k then tkA (D.A k) (D.pRow r s) s else A2 D r s k i)=A2 D r s (k+1):=by
 funext i
 by_cases hi:i=k
 ·subst hi;rw [if_pos rfl];unfold A2;rw [if_neg h,if_pos (by omega)]
 ·rw [if_neg hi];unfold A2
  have:(i<k)↔(i<k+1):=by omega
  simp only [this]
theorem b5L {D:Fd} {r s:Nat}:V2 D r s r=V2 D r s (r+1):=by
 funext i;unfold V2
 by_cases h:i=r
 ·rw [if_pos h,if_pos h]
 ·have:(i<r)↔(i<r+1):=by omega
  simp only [this]
theorem b4G {D:Fd} {r s:Nat}:A2 D r s r=A2 D r s (r+1):=by
 funext i;unfold A2
 by_cases h:i=r
 ·rw [if_pos h,if_pos h]
 ·have:(i<r)↔(i<r+1):=by omega
  simp only [this]
theorem b6k {D:Fd} {r s k:Nat} (h:k≠r) (hz:D.A k s=0):V2 D r s k=V2 D r s (k+1):=by
 rw [← aX7 h,hz];funext i
 by_cases hi:i=k
 ·subst hi;rw [if_pos rfl,b1U h];grind
 ·rw [if_neg hi]
theorem b6e {D:Fd} {r s k:Nat} (h:k≠r) (hz:D.A k s=0):A2 D r s k=A2 D r s (k+1):=by
 rw [← aW7 h,aF8 hz];funext i
 by_cases hi:i=k
 ·subst hi;rw [if_pos rfl,b6B h]
 ·rw [if_neg hi]
theorem b88 {D:Fd} {r s m i:Nat} (h:i<m):V2 D r s m i=(D.exch r s).V i:=by
 unfold V2 Fd.exch;simp only
 split
 ·rfl
 ·first|rfl|rw [if_pos h]
theorem b7C {D:Fd} {r s m i j:Nat} (h:i<m):A2 D r s m i j=(D.exch r s).A i j:=by
 unfold A2 Fd.exch;simp only
 split
 ·rfl
 ·first|rfl|(rw [if_pos h];rfl)
abbrev I1 (m n:Nat) (fr:List (Nat × Bool)) (V:Nat->Rat) (G:Nat->Rat) (O F:Nat->Nat) (A:Nat->Nat->Rat) (T:Hp):Hp:=
 aT3 m n fr.length::a0a 6 m n V::flB (rF n G)::V5 m O::V5 n F::a1h fr::((mF m n A).map flB++T)
structure BdD (m n B:Nat) (D:Fd):Prop where
 v:∀i,i<m->rl (D.V i)<=B
 a:∀i,i<m->∀j,j<n->rl (D.A i j)<=B
 g:∀j,j<n->rl (D.G j)<=B
theorem aO9 {b m n r i:Nat} {V:Nat->Rat} {x:List C} {v:Rat} (e:i=r) (h:r<m) (hx:x=frC (fz v)++[C.own (r+b) 0 n true]):(P5 b m n V).set i x=P5 b m n (fun i=>if i=r then v else V i):=by
 subst e hx;exact b0o h
theorem az3 {m n:Nat} {fr:List (Nat × Bool)} {V G:Nat->Rat} {O F:Nat->Nat} {A:Nat->Nat->Rat} {T T':Hp}:I1 m n fr V G O F A (T++T')=I1 m n fr V G O F A T++T':=by
 show aT3 m n fr.length::a0a 6 m n V::flB (rF n G)::V5 m O::V5 n F::a1h fr::((mF m n A).map flB++(T++T'))=aT3 m n fr.length::a0a 6 m n V::flB (rF n G)::V5 m O::V5 n F::a1h fr::(((mF m n A).map flB++T)++T')
 rw [List.append_assoc]
theorem a6k {m n:Nat} {fr:List (Nat × Bool)} {V G:Nat->Rat} {O F:Nat->Nat} {A:Nat->Nat->Rat} {T:Hp}:(I1 m n fr V G O F A T).length=m+6+T.length:=by simp [b7];omega
theorem aU8 {m n N:Nat} {fr:List (Nat × Bool)} {V G:Nat->Rat} {O F:Nat->Nat} {A:Nat->Nat->Rat} {T:Hp} (h:m+6<=N) (hT:∀k ∈ T,okB N k):∀k ∈ I1 m n fr V G O F A T,okB N k:=by
 intro k hk
 simp only [List.mem_cons,List.mem_append] at hk
 rcases hk with rfl|rfl|rfl|rfl|rfl|rfl|hk|hk
 ·exact aY4 (by omega)
 ·exact a9b h
 ·exact D5 rfl
 ·exact D5 rfl
 ·exact D5 rfl
 ·exact D5 rfl
 ·obtain ⟨l,_,rfl⟩:=List.mem_map.1 hk
  exact D5 rfl
 ·exact hT k hk
theorem R3 {n0 N m n:Nat} {fr:List (Nat × Bool)} {V G:Nat->Rat} {O F:Nat->Nat} {A:Nat->Nat->Rat} {T T' H:Hp} {env env':Env} (hH:H=I1 m n fr V G O F A (T++T')) (hN:m+6+T.length=N) (h0:n0<=N) (hT:∀k ∈ T,okB N k)
 (hE:a0c (idR N) H env env'):Ent n0 (idR N) env H env' (I1 m n fr V G O F A T):=by
 refine a72 (by rw [a6k];exact hN) h0 (aU8 (by omega) hT) (fun i hi=>?_) hE
 rw [hH,az3,List.getElem?_append_left (by rw [a6k];omega)]
theorem a95 {n0 N m n:Nat} {fr:List (Nat × Bool)} {V G:Nat->Rat} {O F:Nat->Nat} {A:Nat->Nat->Rat} {T H:Hp} {r s:S} (hH:H=I1 m n fr V G O F A T) (hN:m+6=N) (h0:n0<=N) (hE:a8c (idR N) H r s):
 Fin n0 r H s (I1 m n fr V G O F A []):=by
 refine aj3 (by rw [a6k];exact hN) h0 (aU8 (by omega) (by simp)) (fun i hi=>?_) hE
 have e:I1 m n fr V G O F A T=I1 m n fr V G O F A []++T:=az3 (T:=[]) (T':=T)
 rw [hH,e,List.getElem?_append_left (by rw [a6k];simp;omega)]
theorem a0r {b0 b1 b2 b3 b4 b5 c0 c1 c2 c3 c4 c5:Blk} {L L':Hp} (h0:b0=c0) (h1:b1=c1) (h2:b2=c2) (h3:b3=c3) (h4:b4=c4) (h5:b5=c5) (h6:L=L'):b0::b1::b2::b3::b4::b5::L=c0::c1::c2::c3::c4::c5::L':=by
 subst h0 h1 h2 h3 h4 h5 h6;rfl
theorem ak2 {b m n r i:Nat} {V V':Nat->Rat} {x:List C} {v:Rat} (e:i=r) (h:r<m) (hx:x=frC (fz v)++[C.own (r+b) 0 n true]) (hV:(fun i=>if i=r then v else V i)=V'):s8 (a0a b m n V) ((a0a b m n V).rows.set i x)=a0a b m n V':=by
 have:=aO9 (V:=V) e h hx
 subst hV
 unfold s8
 simp only [this]
theorem a5O {m r i v:Nat} {O:Nat->Nat} (e:i=r) (h:r<m):s8 (V5 m O) ((V5 m O).rows.set i [C.t (ti v)])=V5 m (fun i=>if i=r then v else O i):=by
 subst e
 have:(toC (a0u m O)).set i [C.t (ti v)]=toC (a0u m (fun j=>if j=i then v else O j)):=by
  rw [← b3t h];simp [toC,List.map_set]
 unfold s8
 simp only [this]
theorem as6 {N:Nat} {x:Rat}:okB N (frX x):=D5 (rows:=[j5 (fz x)]) rfl
set_option maxHeartbeats 4000000 in
theorem aR9 (m n:Nat) (fr:List (Nat × Bool)) (D:Fd) (r s:Nat) (hm:m<=100000) (hn:n<=1000) (hr:r<m) (hs:s<n) (hp:D.A r s≠0) (hB:BdD m n 30000 D) (hB':BdD m n 30000 (D.exch r s)):
 a9 Tryz.prog 262 [.c (.ptr 0 0 0),a7 .i64 r,a7 .i64 s] (X2 m n fr D) (.tup []) (X2 m n fr (D.exch r s)):=by
 have eR:0+(r:Int).toNat=r:=by omega
 have eS:0+(s:Int).toNat=s:=by omega
 have gA:(mF m n D.A)[r]? =some (rF n (D.A r)):=N4 hr
 have gs:(rF n (D.A r))[0+(s:Int).toNat]? =some (fz (D.A r s)):=by rw [eS,B9 hs]
 have bp:=hB.a r hr s hs
 have ov:=aT5 (D.V r) (D.A r s) hp (by have:=hB.v r hr;omega) (by omega)
 (refine ac Tryz.func262 ?_;(conv=>whnf);repeat (refine zy ?_;conv=>whnf))
 repeat' (first|refine zz ?_|refine qp ov ?_|refine qp y6 ?_|refine a3K (b7 _ _ _) ?_|refine E4 ?_|refine a3c ?_|refine a1O eR hr ?_|refine az7 gA ?_|refine U9 gA ?_|refine B6 (b7 _ _ _) ?_|refine a6P (b7 _ _ _) ?_|refine j6 gs ?_|refine aV5 (by show _<(P5 _ _ _ _).length;rw [y6];omega) ?_|refine zd ?_ ?_<;>intro h<;>try omega|refine zy ?_|fail)<;>conv=>whnf
 refine d6 c8 (fun k=>([S.c (C.ptr 0 0 0),a7 .i64 r,a7 .i64 s,J,J,J,S.c (C.ptr 1 r 0),S.c (C.ptr (m+6) 0 0),J,J,J,J,J,J,J,J,J,J,J,J,J,J,J,J,J,J,J,J,J,J,J,J,J,J,J,J,J,a7 .i64 n,a7 .i64 k,J,J,J,J,J,J,J,J,J,J,J,J,J,J,J,J,J,J,J,J,J,J,J,J,J,J,J,J,J,J,J,J,J,J,J,J,J,J,J,J,J,J,J,J,J,J,J,J,J,J,J,J,J,J,J,J,J,J,J,J,J,J,J,J,J,J,J,J,J,J,J,J,J,J,J,J,J,J,J,J,J,J,J,J,J,J,J,J,J,J,J,J,J,J,J,J,J,J,J,J,J,J,J,J,J,J,J,J,J,J,J,J,J,J,J,J,J,J,J,J,J,J,J,J,J,J,J,J,J,J,J,J,J,J,J,J,J,J,J,J,J,J,J,J],I1 m n fr (V1 D r s) D.G D.O D.F (A1 D r s k) [frX (D.A r s)])) n (fun _=>True) (idR (m+7)) trivial ?_ ?_
 ·refine R3 (T':=[]) ?_ rfl (by simp [b7]) (by intro k hk;simp at hk;subst hk;exact as6) ?_
  ·refine a0r rfl (ak2 eR hr rfl rfl) rfl rfl rfl rfl ?_
   have:A1 D r s 0=D.A:=by funext i j;unfold A1 a3O;split<;>simp_all
   rw [this];rfl
  ·exact ⟨⟨l9 (by omega),rfl,rfl⟩,rfl,rfl,⟨l9 (by omega),eR,rfl⟩,⟨l9 (by omega),rfl,rfl⟩,c6 (by omega),c6 rfl,trivial⟩
 intro k hk _
 have gA1:(mF m n (A1 D r s k))[r]? =some (rF n (A1 D r s k r)):=N4 hr
 have lA:r<(mF m n (A1 D r s k)).length:=by rw [b7];exact hr
 by_cases hlt:k<n
 ·have eK:0+(k:Int).toNat=k:=by omega
  have gk:(rF n (A1 D r s k r))[0+(k:Int).toNat]? =some (fz (D.A r k)):=by rw [eK,B9 hlt,b94]
  have bk:=hB.a r hr k hlt
  have ze:=a9N (D.A r k)
  have ovk:=aT5 (D.A r k) (D.A r s) hp (by omega) (by omega)
  by_cases hks:k=s
  ·subst hks
   conv=>whnf
   repeat' (first|refine zz ?_|refine qp ze ?_|refine qp ovk ?_|refine j2 (b7 _ _ _) ?_|refine E4 ?_|refine j0 ?_|refine a1O rfl hr ?_|refine U9 gA1 ?_|refine B6 (b7 _ _ _) ?_|refine j6 gk ?_|refine zd ?_ ?_<;>intro h<;>try omega|refine zy ?_|fail)<;>conv=>whnf
   all_goals first
    |omega
    |exact ⟨hlt,trivial,idR (m+7),R3 (T':=[]) (a0r rfl rfl rfl rfl rfl rfl (by rw [← b4Y];rfl)) rfl (by simp [b7]) (by intro k hk;simp at hk;subst hk;exact as6) ⟨⟨l9 (by omega),rfl,rfl⟩,rfl,rfl,⟨l9 (by omega),rfl,rfl⟩,⟨l9 (by omega),rfl,rfl⟩,rfl,c6 (by omega),trivial⟩⟩
  ·by_cases hz:D.A r k=0
   ·rw [decide_eq_true hz] at ze
    conv=>whnf
    repeat' (first|refine zz ?_|refine qp ze ?_|refine qp ovk ?_|refine j2 (b7 _ _ _) ?_|refine E4 ?_|refine j0 ?_|refine a1O rfl hr ?_|refine U9 gA1 ?_|refine B6 (b7 _ _ _) ?_|refine j6 gk ?_|refine zd ?_ ?_<;>intro h<;>try omega|refine zy ?_|fail)<;>conv=>whnf
    all_goals first
     |omega
     |exact ⟨hlt,trivial,idR (m+7),R3 (T':=[]) (a0r rfl rfl rfl rfl rfl rfl (by rw [← b5d hz];rfl)) rfl (by simp [b7]) (by intro k hk;simp at hk;subst hk;exact as6) ⟨⟨l9 (by omega),rfl,rfl⟩,rfl,rfl,⟨l9 (by omega),rfl,rfl⟩,⟨l9 (by omega),rfl,rfl⟩,rfl,c6 (by omega),trivial⟩⟩
   ·rw [decide_eq_false hz] at ze
    conv=>whnf
    repeat' (first|refine zz ?_|refine qp ze ?_|refine qp ovk ?_|refine j2 (b7 _ _ _) ?_|refine E4 ?_|refine j0 ?_|refine a1O rfl hr ?_|refine U9 gA1 ?_|refine B6 (b7 _ _ _) ?_|refine j6 gk ?_|refine aj2 lA (F0 (y:=fz (D.A r k / D.A r s)) eK) ?_|refine zd ?_ ?_<;>intro h<;>try omega|refine zy ?_|fail)<;>conv=>whnf
    all_goals first
     |omega
     |exact ⟨hlt,trivial,idR (m+7),R3 (T':=[]) (a0r rfl rfl rfl rfl rfl rfl (by rw [L2 hlt,aX8 hr (b5q hks)];rfl)) rfl (by simp [b7]) (by intro k hk;simp at hk;subst hk;exact as6) ⟨⟨l9 (by omega),rfl,rfl⟩,rfl,rfl,⟨l9 (by omega),rfl,rfl⟩,⟨l9 (by omega),rfl,rfl⟩,rfl,c6 (by omega),trivial⟩⟩
 ·have hke:k=n:=by omega
  subst hke
  have gs1:(rF k (A1 D r s k r))[0+(s:Int).toNat]? =some (fz (D.A r s)):=by rw [eS,B9 hs,b9n]
  have i1:=G7 1 (by decide) (by decide)
  have ov1:=aT5 ((1:Int):Rat) (D.A r s) hp (by have:=rl1;show rl 1<=_;omega) (by omega)
  conv=>whnf
  repeat' (first|refine zz ?_|refine qp i1 ?_|refine qp ov1 ?_|refine j2 (b7 _ _ _) ?_|refine E4 ?_|refine j0 ?_|refine a1O rfl hr ?_|refine U9 gA1 ?_|refine B6 (b7 _ _ _) ?_|refine j6 gs1 ?_|refine aj2 lA (F0 (y:=fz (((1:Int):Rat) / D.A r s)) eS) ?_|refine zd ?_ ?_<;>intro h<;>try omega|refine zy ?_|fail)<;>conv=>whnf
  all_goals try omega
  refine d6 c8 (fun q=>([S.c (C.ptr 0 0 0),a7 .i64 r,a7 .i64 s,J,J,J,S.c (C.ptr 1 r 0),J,J,J,J,J,J,J,J,J,J,J,J,J,J,J,J,J,J,J,J,J,J,J,J,J,J,J,J,J,J,J,J,J,J,J,J,J,J,J,J,J,J,J,J,J,J,J,J,J,J,J,J,J,J,J,J,J,J,J,J,J,J,J,J,J,J,J,J,J,J,J,J,J,J,J,J,J,a7 .i64 m,a7 .i64 q,J,J,J,J,J,J,J,J,J,J,J,J,J,J,J,J,J,J,J,J,J,J,J,J,J,J,J,J,J,J,J,J,J,J,J,J,J,J,J,J,J,J,J,J,J,J,J,J,J,J,J,J,J,J,J,J,J,J,J,J,J,J,J,J,J,J,J,J,J,J,J,J,J,J,J,J,J,J,J,J,J,J,J,J,J,J,J,J,J,J,J,J,J,J,J,J,J],I1 m k fr (V2 D r s q) D.G D.O D.F (A2 D r s q) [])) m (fun _=>True) (idR (m+6)) trivial ?_ ?_
  ·refine R3 (T:=[]) (T':=[frX (D.A r s)]) (a0r rfl (by rw [b62]) rfl rfl rfl rfl (by rw [b5i hr hs];rfl)) rfl (by simp [b7]) (by simp) ⟨⟨l9 (by omega),rfl,rfl⟩,rfl,rfl,⟨l9 (by omega),rfl,rfl⟩,c6 (by omega),c6 rfl,trivial⟩
  have eP:∀j,(D.exch r s).A r j=D.pRow r s j:=fun j=>by show (if r=r then _ else _)=_;rw [if_pos rfl]
  have har:∀j,j<k->rl (D.pRow r s j)<=30000:=fun j hj=>by rw [← eP];exact hB'.a r hr j hj
  intro q hq _
  have gAr:(mF m k (A2 D r s q))[r]? =some (rF k (D.pRow r s)):=by rw [N4 hr,b9l]
  by_cases hqm:q<m
  ·have eQ:0+(q:Int).toNat=q:=by omega
   have lQ:q<(mF m k (A2 D r s q)).length:=by rw [b7];exact hqm
   have ze:=a9N (D.A q s)
   by_cases hqr:q=r
   ·subst hqr
    conv=>whnf
    repeat' (first|refine zz ?_|refine j2 (b7 _ _ _) ?_|refine E4 ?_|refine j0 ?_|refine zd ?_ ?_<;>intro h<;>try omega|refine zy ?_|fail)<;>conv=>whnf
    all_goals first
     |omega
     |exact ⟨hqm,trivial,idR (m+6),R3 (T:=[]) (T':=[]) (a0r rfl (by rw [← b5L]) rfl rfl rfl rfl (by rw [← b4G];rfl)) rfl (by simp [b7]) (by simp) ⟨⟨l9 (by omega),rfl,rfl⟩,rfl,rfl,⟨l9 (by omega),rfl,rfl⟩,rfl,c6 (by omega),trivial⟩⟩
   ·have gAq:(mF m k (A2 D r s q))[q]? =some (rF k (D.A q)):=by rw [N4 hqm,b6B hqr]
    have gqs:(rF k (D.A q))[0+(s:Int).toNat]? =some (fz (D.A q s)):=by rw [eS,B9 hs]
    by_cases hz:D.A q s=0
    ·rw [decide_eq_true hz] at ze
     conv=>whnf
     repeat' (first|refine zz ?_|refine qp ze ?_|refine j2 (b7 _ _ _) ?_|refine E4 ?_|refine j0 ?_|refine a1O eQ hqm ?_|refine U9 gAq ?_|refine j6 gqs ?_|refine zd ?_ ?_<;>intro h<;>try omega|refine zy ?_|fail)<;>conv=>whnf
     all_goals first
      |omega
      |exact ⟨hqm,trivial,idR (m+6),R3 (T:=[]) (T':=[]) (a0r rfl (by rw [← b6k hqr hz]) rfl rfl rfl rfl (by rw [← b6e hqr hz];rfl)) rfl (by simp [b7]) (by simp) ⟨⟨l9 (by omega),rfl,rfl⟩,rfl,rfl,⟨l9 (by omega),rfl,rfl⟩,rfl,c6 (by omega),trivial⟩⟩
    ·rw [decide_eq_false hz] at ze
     have b1:=hB.v q hqm
     have b2:=hB.a q hqm s hs
     have b3:=hB'.v r hr
     have haq:∀j,j<k->rl (D.A q j)<=30000:=hB.a q hqm
     have le:=aJ3 (V2 D r s q q) (D.A q s) (V2 D r s q r) (by rw [b1U hqr];omega) (by omega) (by rw [b9a];have e:(D.exch r s).V r=D.V r / D.A r s:=(by show (if r=r then _ else _)=_;rw [if_pos rfl]);rw [← e];omega)
     conv=>whnf
     repeat' (first|refine zz ?_|refine qp ze ?_|refine qp le ?_|refine qp y6 ?_|refine j2 (b7 _ _ _) ?_|refine E4 ?_|refine j0 ?_|refine a1O eQ hqm ?_|refine a1O rfl hr ?_|refine U9 gAq ?_|refine j6 gqs ?_|refine aV5 (by show _<(P5 _ _ _ _).length;rw [y6];omega) ?_|refine b4U (by omega) (a1O rfl hr ?_)|refine .inr ⟨_,_,aY2 (ia:=q+6) (ir:=r+6) (by omega) (I5 gAq) (I5 gAr) hn hs haq har,?_⟩|refine zd ?_ ?_<;>intro h<;>try omega|refine zy ?_|fail)<;>conv=>whnf
     all_goals first
      |omega
      |exact ⟨hqm,trivial,idR (m+6),R3 (T:=[]) (T':=[]) (a0r rfl (ak2 (v:=V2 D r s q q - D.A q s*V2 D r s q r) eQ hqm rfl (by rw [b1U hqr,b9a];exact aX7 hqr)) rfl rfl rfl rfl (by rw [b34 lQ,aX8 hqm (aW7 hqr)];rfl)) rfl (by simp [b7]) (by simp) ⟨⟨l9 (by omega),rfl,rfl⟩,rfl,rfl,⟨l9 (by omega),rfl,rfl⟩,rfl,c6 (by omega),trivial⟩⟩
  ·have hqe:q=m:=by omega
   subst hqe
   have ggs:(rF k D.G)[0+(s:Int).toNat]? =some (fz (D.G s)):=by rw [eS,B9 hs]
   have ze:=a9N (D.G s)
   have eL:a0a 6 q k (V2 D r s q)=a0a 6 q k (D.exch r s).V:=by
    have:P5 6 q k (V2 D r s q)=P5 6 q k (D.exch r s).V:=List.map_congr_left fun i hi=>by rw [b88 (List.mem_range.1 hi)]
    unfold a0a;rw [this]
   have eA:mF q k (A2 D r s q)=mF q k (D.exch r s).A:=aA1 fun i hi j _=>b7C hi
   have eO:a0u q (fun i=>if i=r then D.F s else D.O i)=a0u q (D.exch r s).O:=rfl
   have eF:a0u k (fun j=>if j=s then D.O r else D.F j)=a0u k (D.exch r s).F:=rfl
   have e0:X2 q k fr (D.exch r s)=I1 q k fr (D.exch r s).V (D.exch r s).G (D.exch r s).O (D.exch r s).F (D.exch r s).A []:=by
    show _::_::_::_::_::_::_=_::_::_::_::_::_::(_++[])
    rw [List.append_nil]
   by_cases hz:D.G s=0
   ·have eG:(D.exch r s).G=D.G:=by have:=aF8 (row:=D.pRow r s) hz;exact this
    rw [decide_eq_true hz] at ze
    conv=>whnf
    repeat' (first|refine zz ?_|refine qp ze ?_|refine qp 9 ?_|refine j2 (b7 _ _ _) ?_|refine E4 ?_|refine j0 ?_|refine j6 ggs ?_|refine a0l eR hr ?_|refine a0l eS hs ?_|refine bl0 [9] ?_|refine zd ?_ ?_<;>intro h<;>try omega|refine zy ?_|fail)<;>conv=>whnf
    all_goals first
     |omega
     |(rw [e0];exact a95 (T:=[]) (a0r rfl eL (by rw [eG]) (a5O eR hr) (a5O eS hs) rfl (by rw [eA])) rfl (by simp [b7]) trivial)
   ·have eG:(D.exch r s).G=tkA D.G (D.pRow r s) s:=rfl
    rw [decide_eq_false hz] at ze
    conv=>whnf
    repeat' (first|refine zz ?_|refine qp ze ?_|refine qp 9 ?_|refine j2 (b7 _ _ _) ?_|refine E4 ?_|refine j0 ?_|refine j6 ggs ?_|refine a1O rfl hr ?_|refine a0l eR hr ?_|refine a0l eS hs ?_|refine bl0 [9] ?_|refine .inr ⟨_,_,aY2 (ia:=2) (ir:=r+6) (by omega) rfl (I5 gAr) hn hs hB.g har,?_⟩|refine zd ?_ ?_<;>intro h<;>try omega|refine zy ?_|fail)<;>conv=>whnf
    all_goals first
     |omega
     |(rw [e0];exact a95 (T:=[]) (a0r rfl eL (by rw [eG]) (a5O eR hr) (a5O eS hs) rfl (by rw [eA])) rfl (by simp [b7]) trivial)
theorem as2 {H:Hp} {p:Nat->Prop} {ys:List C} {us:List T} (h2:VYL H p ys us):∀{ts:List T},VYL H p (ts.map C.t++ys) (ts++us)
 |[]=>h2
 |t::r=>⟨b0P,as2 h2⟩
theorem b6j {m n:Nat} {fr:List (Nat × Bool)} {D:Fd} {X:Hp}:VY (I1 m n fr D.V D.G D.O D.F D.A X) (fun _=>True) (.own 1 0 m true) (.sl 5 .any (a7O m n D)):=by
 refine b2V (k:=a0a 6 m n D.V) trivial rfl (fun h=>h) rfl (a4d m n D) ?_ ?_
 ·intro r hr
  obtain ⟨i,_,rfl⟩:=List.mem_map.1 hr
  rfl
 ·intro i r hi
  have him:i<m:=by have:=(lg1 hi).1;rwa [a4d] at this
  rw [a6U him] at hi
  injection hi with hi
  subst hi
  refine ⟨_,a24 him,?_⟩
  show VYL _ _ ((j5 (fz (D.V i))).map C.t++[C.own (i+6) 0 n true]) _
  have hv:VY (I1 m n fr D.V D.G D.O D.F D.A X) (fun _=>True) (C.own (i+6) 0 n true) (T.sl 4 .any ((rF n (D.A i)).map j5)):=
   .vc (t5 (k:=flB (rF n (D.A i))) trivial (I5 (N4 him)) (fun h=>h) rfl rfl (by simp [L9]))
  exact as2 (ys:=[C.own (i+6) 0 n true]) (us:=[T.sl 4 .any ((rF n (D.A i)).map j5)]) (show _∧True from ⟨hv,trivial⟩)
theorem b89 {m n:Nat} {fr:List (Nat × Bool)} {D:Fd} {X:Hp}:VY (I1 m n fr D.V D.G D.O D.F D.A X) (fun _=>True) (.ptr 0 0 0) (.ptr (b69 m n fr D)):=by
 refine a9U (k:=aT3 m n fr.length) trivial rfl (fun h=>h) rfl ⟨b0P,b6j,?_,?_,?_,?_,trivial⟩
 ·exact .vc (t5 (k:=flB (rF n D.G)) trivial rfl (fun h=>h) rfl rfl (by simp [L9]))
 ·exact .vc (t5 (k:=V5 m D.O) trivial rfl (fun h=>h) rfl rfl (by simp [u7]))
 ·exact .vc (t5 (k:=V5 n D.F) trivial rfl (fun h=>h) rfl rfl (by simp [u7]))
 ·exact .vc (t5 (k:=a1h fr) trivial rfl (fun h=>h) rfl rfl (by simp [Y2]))
abbrev bxD:Blk:={ mode:=.live,elem:=217,size:=1,rows:=[[.ptr 0 0 0]],box:=true }
abbrev bxI (i:Int):Blk:={ mode:=.live,elem:=3,size:=1,rows:=[[.t (ti i)]],box:=true }
theorem an9 {m n:Nat} {fr:List (Nat × Bool)} {D:Fd} {X:Hp}:VY (I1 m n fr D.V D.G D.O D.F D.A (bxD::X)) (fun _=>True) (.ptr (m+6) 0 0) (a5f m n fr D):=by
 refine a9U (k:=bxD) trivial ?_ (fun h=>h) rfl ⟨b89,trivial⟩
 show (((mF m n D.A).map flB)++bxD::X)[m]? =_
 rw [List.getElem?_append_right (by simp [b7])]
 simp [b7]
theorem b3r {m n t:Nat} {fr:List (Nat × Bool)} {D:Fd} {X:Hp} {i:Int} (h:X[t]? =some (bxI i)):VY (I1 m n fr D.V D.G D.O D.F D.A X) (fun _=>True) (.ptr (m+6+t) 0 0) (.ptr [ti i]):=by
 refine a9U (k:=bxI i) trivial ?_ (fun h=>h) rfl ⟨b0P,trivial⟩
 show (I1 m n fr D.V D.G D.O D.F D.A X)[m+6+t]? =_
 rw [show m+6+t=m+t+6 by omega]
 show (((mF m n D.A).map flB)++X)[m+t]? =_
 rw [List.getElem?_append_right (by simp [b7])]
 simpa [b7] using h
theorem b8i {m n:Nat} {fr:List (Nat × Bool)} {D:Fd} {X:Hp}:VYS (I1 m n fr D.V D.G D.O D.F D.A X) (fun _=>True) (.c (.own 3 0 m true)) (a7q m D.O):=.vc (t5 (k:=V5 m D.O) trivial rfl (fun h=>h) rfl rfl (by simp [u7]))
theorem b95 {m n:Nat} {fr:List (Nat × Bool)} {D:Fd} {X:Hp}:VYS (I1 m n fr D.V D.G D.O D.F D.A X) (fun _=>True) (.c (.own 4 0 n true)) (a7q n D.F):=.vc (t5 (k:=V5 n D.F) trivial rfl (fun h=>h) rfl rfl (by simp [u7]))
theorem a8z {m n:Nat} {fr:List (Nat × Bool)} {D:Fd} {r s:Nat} (X:Hp) (h:a9 Tryz.prog 262 [.c (.ptr 0 0 0),a7 .i64 r,a7 .i64 s] (X2 m n fr D) (.tup []) (X2 m n fr (D.exch r s))):
 a9 Tryz.prog 262 [.c (.ptr 0 0 0),a7 .i64 r,a7 .i64 s] (I1 m n fr D.V D.G D.O D.F D.A X) (.tup []) (I1 m n fr (D.exch r s).V (D.exch r s).G (D.exch r s).O (D.exch r s).F (D.exch r s).A X):=by
 have hl:∀{D:Fd},∀k ∈ X2 m n fr D,k.mode=.live∧k.app=false:=by
  intro D k hk
  simp only [List.mem_cons] at hk
  rcases hk with rfl|rfl|rfl|rfl|rfl|rfl|hk
  ·exact ⟨rfl,rfl⟩
  ·exact ⟨rfl,rfl⟩
  ·exact ⟨rfl,rfl⟩
  ·exact ⟨rfl,rfl⟩
  ·exact ⟨rfl,rfl⟩
  ·exact ⟨rfl,rfl⟩
  ·obtain ⟨l,_,rfl⟩:=List.mem_map.1 hk
   exact ⟨rfl,rfl⟩
 exact a80 (n:=m+6) X h a2a a2a (by simp [okS,okC,a7,Nat.blt_eq]) (fun k hk=>⟨(hl k hk).1,(hl k hk).2,a66 k hk⟩) (fun k hk=>⟨(by rw [(hl k hk).1];intro h;cases h),a66 k hk⟩) rfl rfl
def aN3:b22->Int × Int
 |.best=>(-1,-1)
 |.row r=>(r,-1)
 |.col s=>(-1,s)
 |.next r s=>(r,s)
theorem b37 {N:Nat} (h:0<N):okB N bxD:=by
 intro r hr c hc
 simp at hr;subst hr
 simp at hc;subst hc
 exact h
set_option maxHeartbeats 4000000 in
theorem b2F (m n:Nat) (fr:List (Nat × Bool)) (D0:Fd) (g0:Nat->Rat) (hm:m<=100000) (hn:n<=1000) (h0:a5m m n D0 g0 D0) (hB:∀D,T0 m n D0 D->BdD m n 30000 D):
 a9 Tryz.prog 200 [.c (.ptr 0 0 0)] (X2 m n fr D0) (.tup [a7 .i64 (aN3 (y4 m n (a9L m n D0))).1,a7 .i64 (aN3 (y4 m n (a9L m n D0))).2]) (X2 m n fr (a9L m n D0)):=by
 (refine ac Tryz.func200 ?_;(conv=>whnf);repeat (refine zy ?_;conv=>whnf))
 repeat' (first|refine zz ?_|refine a3K (b7 _ _ _) ?_|refine a3c ?_|refine zd ?_ ?_<;>intro h<;>try omega|refine zy ?_|fail)<;>conv=>whnf
 refine k8 c8 (σ:=Fd) (fun D=>([J,S.c (C.ptr (m+6) 0 0),J,J,J,J,J,J,J,J,J,J,J,J,J,J,J,J,J,J,J,J,J,J,J,J,J,J,J,J,J,J,J,J,J,J,J,J,J,J,J,J,J,J,J,J,J,J,J,J,J,J,J,J,J,J,J,J,J,J,J,J,J,J,J,J,J,J,J,J,J],I1 m n fr D.V D.G D.O D.F D.A [bxD])) (fun D=>T0 m n D0 D) (fun D=>a7Y m n D) D0 (idR (m+7)) aP7 ?_ ?_
 ·refine R3 (T':=[]) (a0r rfl rfl rfl rfl rfl rfl (by rw [List.append_nil,List.append_nil];rfl)) rfl (by simp [b7]) (by intro k hk;simp at hk;subst hk;exact b37 (by omega)) ⟨⟨l9 (by omega),rfl,rfl⟩,trivial⟩
 intro D hD
 have bd:=hB D hD
 have inv:a5m m n D0 g0 D:=by obtain ⟨k,hk⟩:=hD;exact a2c h0 hk
 have l1:=a4e m hm D.O (fun i=>decide (D.V i<0)) 258 [a5f m n fr D] (fun i hi=>b19 m n fr D i hi)
 have l2:=a4e n (by omega) D.F (fun j=>decide (0<D.G j)) 259 [a5f m n fr D] (fun j hj=>b1h m n fr D j hj)
 have va1:∀X,a0U (I1 m n fr D.V D.G D.O D.F D.A (bxD::X)) (fun _=>True) [.c (.own 3 0 m true),.c (.fn (.func 258) [.ptr (m+6) 0 0])] [a7q m D.O,.c (.t (.fn (.func 258) [a5f m n fr D]))]:=
  fun X=>⟨b8i,aA3 (show _∧True from ⟨an9,trivial⟩),trivial⟩
 have va2:∀X,a0U (I1 m n fr D.V D.G D.O D.F D.A (bxD::X)) (fun _=>True) [.c (.own 4 0 n true),.c (.fn (.func 259) [.ptr (m+6) 0 0])] [a7q n D.F,.c (.t (.fn (.func 259) [a5f m n fr D]))]:=
  fun X=>⟨b95,aA3 (show _∧True from ⟨an9,trivial⟩),trivial⟩
 have va3:∀X (r:Nat),a0U (I1 m n fr D.V D.G D.O D.F D.A (bxD::bxI r::X)) (fun _=>True) [.c (.own 4 0 n true),.c (.fn (.func 260) [.ptr (m+6) 0 0,.ptr (m+7) 0 0])] [a7q n D.F,.c (.t (.fn (.func 260) [a5f m n fr D,.ptr [ti r]]))]:=
  fun X r=>⟨b95,aA3 (show _∧_∧True from ⟨an9,b3r (t:=1) rfl,trivial⟩),trivial⟩
 have va4:∀X (x:Int) (s:Nat),a0U (I1 m n fr D.V D.G D.O D.F D.A (bxD::bxI x::bxI s::X)) (fun _=>True) [.c (.own 3 0 m true),.c (.fn (.func 261) [.ptr (m+6) 0 0,.ptr (m+8) 0 0])] [a7q m D.O,.c (.t (.fn (.func 261) [a5f m n fr D,.ptr [ti s]]))]:=
  fun X x s=>⟨b8i,aA3 (show _∧_∧True from ⟨an9,b3r (t:=2) rfl,trivial⟩),trivial⟩
 have fin0:∀(X:Hp) (r c:Int),D3 m n D=none->(r,c)=aN3 (y4 m n D)->Fin (X2 m n fr D0).length (.tup [a7 .i64 r,a7 .i64 c]) (I1 m n fr D.V D.G D.O D.F D.A X) (.tup [a7 .i64 (aN3 (y4 m n (a9L m n D0))).1,a7 .i64 (aN3 (y4 m n (a9L m n D0))).2]) (X2 m n fr (a9L m n D0)):=by
  intro X r c hn ho
  have e:=b7s h0 hD hn
  rw [← e,←ho]
  have e0:X2 m n fr D=I1 m n fr D.V D.G D.O D.F D.A []:=by
   show _::_::_::_::_::_::_=_::_::_::_::_::_::(_++[])
   rw [List.append_nil]
  rw [e0]
  exact a95 (N:=m+6) rfl rfl (by simp [b7]) ⟨rfl,rfl,trivial⟩
 have go:∀(X:Hp) (env:Env) (r s:Nat),y4 m n D=.next r s->a0c (idR (m+7)) (I1 m n fr (D.exch r s).V (D.exch r s).G (D.exch r s).O (D.exch r s).F (D.exch r s).A (bxD::X)) env ([J,S.c (C.ptr (m+6) 0 0),J,J,J,J,J,J,J,J,J,J,J,J,J,J,J,J,J,J,J,J,J,J,J,J,J,J,J,J,J,J,J,J,J,J,J,J,J,J,J,J,J,J,J,J,J,J,J,J,J,J,J,J,J,J,J,J,J,J,J,J,J,J,J,J,J,J,J,J,J])->
  ∃ρ x',Ent (X2 m n fr D0).length ρ env (I1 m n fr (D.exch r s).V (D.exch r s).G (D.exch r s).O (D.exch r s).F (D.exch r s).A (bxD::X)) ([J,S.c (C.ptr (m+6) 0 0),J,J,J,J,J,J,J,J,J,J,J,J,J,J,J,J,J,J,J,J,J,J,J,J,J,J,J,J,J,J,J,J,J,J,J,J,J,J,J,J,J,J,J,J,J,J,J,J,J,J,J,J,J,J,J,J,J,J,J,J,J,J,J,J,J,J,J,J,J]) (I1 m n fr x'.V x'.G x'.O x'.F x'.A [bxD])∧T0 m n D0 x'∧a7Y m n x'<a7Y m n D:=by
  intro X env r s hs hE
  have hnx:D3 m n D=some (D.exch r s):=by unfold D3;rw [hs]
  exact ⟨idR (m+7),D.exch r s,R3 (T:=[bxD]) (T':=X) rfl rfl (by simp [b7]) (by intro k hk;simp at hk;subst hk;exact b37 (by omega)) hE,a9I hD hnx,aN6 (b6C inv.p inv.g) hnx⟩
 have exc:∀r s:Nat,y4 m n D=.next r s->a9 Tryz.prog 262 [.c (.ptr 0 0 0),a7 .i64 r,a7 .i64 s] (X2 m n fr D) (.tup []) (X2 m n fr (D.exch r s)):=fun r s hs=>by
  obtain ⟨q1,q2,q3⟩:=a4M hs
  exact aR9 m n fr D r s hm hn q1 q2 (a6y q3) bd (hB _ (a9I hD (by unfold D3;rw [hs])))
 cases hR:R5 D.O (fun i=>decide (D.V i<0)) m with
 |none=>
  rw [hR,show leI none=-1 from rfl] at l1
  cases hS:R5 D.F (fun j=>decide (0<D.G j)) n with
  |none=>
   rw [hS,show leI none=-1 from rfl] at l2
   have hst:y4 m n D=.best:=by unfold y4;rw [hR,hS]
   conv=>whnf
   repeat' (first|refine zz ?_|refine .inl ⟨_,_,j3 l1 (va1 _) rfl,?_⟩|refine .inl ⟨_,_,j3 l2 (va2 _) rfl,?_⟩|refine j2 (b7 _ _ _) ?_|refine j0 ?_|refine B6 (b7 _ _ _) ?_|refine g6 (t:=1) (b7 _ _ _) ?_|refine g6 (t:=2) (b7 _ _ _) ?_|refine g8 (t:=1) (b7 _ _ _) ?_|refine g8 (t:=2) (b7 _ _ _) ?_|refine zd ?_ ?_<;>intro h<;>try omega|refine zy ?_|fail)<;>conv=>whnf
   all_goals first
    |omega
    |exact fin0 _ _ _ (by unfold D3;rw [hst]) (by rw [hst];rfl)
  |some ss=>
   rw [hS,show leI (some ss)=ss from rfl] at l2
   have hss:=(E5 hS).1
   have l4:=a4e m hm D.O (fun i=>decide (0<D.A i ss)) 261 [a5f m n fr D,T.ptr [ti ss]] (fun i hi=>al2 m n fr D i ss hi hss)
   cases hC:R5 D.O (fun i=>decide (0<D.A i ss)) m with
   |none=>
    rw [hC,show leI none=-1 from rfl] at l4
    have hst:y4 m n D=.col ss:=by unfold y4;rw [hR,hS];show a0w m D ss=_;unfold a0w;rw [hC]
    conv=>whnf
    repeat' (first|refine zz ?_|refine .inl ⟨_,_,j3 l1 (va1 _) rfl,?_⟩|refine .inl ⟨_,_,j3 l2 (va2 _) rfl,?_⟩|refine .inl ⟨_,_,j3 l4 (va4 _ _ ss) rfl,?_⟩|refine j2 (b7 _ _ _) ?_|refine j0 ?_|refine B6 (b7 _ _ _) ?_|refine g6 (t:=1) (b7 _ _ _) ?_|refine g6 (t:=2) (b7 _ _ _) ?_|refine g8 (t:=1) (b7 _ _ _) ?_|refine g8 (t:=2) (b7 _ _ _) ?_|refine zd ?_ ?_<;>intro h<;>try omega|refine zy ?_|fail)<;>conv=>whnf
    all_goals first
     |omega
     |exact fin0 _ _ _ (by unfold D3;rw [hst]) (by rw [hst];rfl)
   |some rq=>
    rw [hC,show leI (some rq)=rq from rfl] at l4
    have hst:y4 m n D=.next rq ss:=by unfold y4;rw [hR,hS];show a0w m D ss=_;unfold a0w;rw [hC]
    have exr:=exc _ _ hst
    conv=>whnf
    repeat' (first|refine zz ?_|refine .inl ⟨_,_,j3 l1 (va1 _) rfl,?_⟩|refine .inl ⟨_,_,j3 l2 (va2 _) rfl,?_⟩|refine .inl ⟨_,_,j3 l4 (va4 _ _ ss) rfl,?_⟩|refine .inr ⟨_,_,a8z _ exr,?_⟩|refine j2 (b7 _ _ _) ?_|refine j0 ?_|refine B6 (b7 _ _ _) ?_|refine g6 (t:=1) (b7 _ _ _) ?_|refine g6 (t:=2) (b7 _ _ _) ?_|refine g8 (t:=1) (b7 _ _ _) ?_|refine g8 (t:=2) (b7 _ _ _) ?_|refine zd ?_ ?_<;>intro h<;>try omega|refine zy ?_|fail)<;>conv=>whnf
    all_goals first
     |omega
     |exact go _ _ _ _ hst ⟨⟨l9 (by omega),rfl,rfl⟩,trivial⟩
 |some rr=>
  rw [hR,show leI (some rr)=rr from rfl] at l1
  cases hS:R5 D.F (fun j=>decide (0<D.G j)) n with
  |none=>
   rw [hS,show leI none=-1 from rfl] at l2
   have hrr:=(E5 hR).1
   have l3:=a4e n (by omega) D.F (fun j=>decide (D.A rr j<0)) 260 [a5f m n fr D,T.ptr [ti rr]] (fun j hj=>aj5 m n fr D rr j hrr hj)
   cases hC:R5 D.F (fun j=>decide (D.A rr j<0)) n with
   |none=>
    rw [hC,show leI none=-1 from rfl] at l3
    have hst:y4 m n D=.row rr:=by unfold y4;rw [hR,hS];show a0y n D rr=_;unfold a0y;rw [hC]
    conv=>whnf
    repeat' (first|refine zz ?_|refine .inl ⟨_,_,j3 l1 (va1 _) rfl,?_⟩|refine .inl ⟨_,_,j3 l2 (va2 _) rfl,?_⟩|refine .inl ⟨_,_,j3 l3 (va3 _ rr) rfl,?_⟩|refine j2 (b7 _ _ _) ?_|refine j0 ?_|refine B6 (b7 _ _ _) ?_|refine g6 (t:=1) (b7 _ _ _) ?_|refine g6 (t:=2) (b7 _ _ _) ?_|refine g8 (t:=1) (b7 _ _ _) ?_|refine g8 (t:=2) (b7 _ _ _) ?_|refine zd ?_ ?_<;>intro h<;>try omega|refine zy ?_|fail)<;>conv=>whnf
    all_goals first
     |omega
     |exact fin0 _ _ _ (by unfold D3;rw [hst]) (by rw [hst];rfl)
   |some sq=>
    rw [hC,show leI (some sq)=sq from rfl] at l3
    have hst:y4 m n D=.next rr sq:=by unfold y4;rw [hR,hS];show a0y n D rr=_;unfold a0y;rw [hC]
    have exr:=exc _ _ hst
    conv=>whnf
    repeat' (first|refine zz ?_|refine .inl ⟨_,_,j3 l1 (va1 _) rfl,?_⟩|refine .inl ⟨_,_,j3 l2 (va2 _) rfl,?_⟩|refine .inl ⟨_,_,j3 l3 (va3 _ rr) rfl,?_⟩|refine .inr ⟨_,_,a8z _ exr,?_⟩|refine j2 (b7 _ _ _) ?_|refine j0 ?_|refine B6 (b7 _ _ _) ?_|refine g6 (t:=1) (b7 _ _ _) ?_|refine g6 (t:=2) (b7 _ _ _) ?_|refine g8 (t:=1) (b7 _ _ _) ?_|refine g8 (t:=2) (b7 _ _ _) ?_|refine zd ?_ ?_<;>intro h<;>try omega|refine zy ?_|fail)<;>conv=>whnf
    all_goals first
     |omega
     |exact go _ _ _ _ hst ⟨⟨l9 (by omega),rfl,rfl⟩,trivial⟩
  |some ss=>
   rw [hS,show leI (some ss)=ss from rfl] at l2
   have hrr:=(E5 hR).1
   have hss:=(E5 hS).1
   by_cases hlt:D.O rr<D.F ss
   ·skip
    have l3:=a4e n (by omega) D.F (fun j=>decide (D.A rr j<0)) 260 [a5f m n fr D,T.ptr [ti rr]] (fun j hj=>aj5 m n fr D rr j hrr hj)
    cases hC:R5 D.F (fun j=>decide (D.A rr j<0)) n with
    |none=>
     rw [hC,show leI none=-1 from rfl] at l3
     have hst:y4 m n D=.row rr:=by unfold y4 a0y;rw [hR,hS];simp only [if_pos hlt];rw [hC]
     conv=>whnf
     repeat' (first|refine zz ?_|refine .inl ⟨_,_,j3 l1 (va1 _) rfl,?_⟩|refine .inl ⟨_,_,j3 l2 (va2 _) rfl,?_⟩|refine .inl ⟨_,_,j3 l3 (va3 _ rr) rfl,?_⟩|refine j2 (b7 _ _ _) ?_|refine j0 ?_|refine B6 (b7 _ _ _) ?_|refine g6 (t:=1) (b7 _ _ _) ?_|refine g6 (t:=2) (b7 _ _ _) ?_|refine g8 (t:=1) (b7 _ _ _) ?_|refine g8 (t:=2) (b7 _ _ _) ?_|refine a0l (r:=rr) (by omega) hrr ?_|refine a0l (r:=ss) (by omega) hss ?_|refine zd ?_ ?_<;>intro h<;>try omega|refine zy ?_|fail)<;>conv=>whnf
     all_goals first
      |omega
      |exact fin0 _ _ _ (by unfold D3;rw [hst]) (by rw [hst];rfl)
    |some sq=>
     rw [hC,show leI (some sq)=sq from rfl] at l3
     have hst:y4 m n D=.next rr sq:=by unfold y4 a0y;rw [hR,hS];simp only [if_pos hlt];rw [hC]
     have exr:=exc _ _ hst
     conv=>whnf
     repeat' (first|refine zz ?_|refine .inl ⟨_,_,j3 l1 (va1 _) rfl,?_⟩|refine .inl ⟨_,_,j3 l2 (va2 _) rfl,?_⟩|refine .inl ⟨_,_,j3 l3 (va3 _ rr) rfl,?_⟩|refine .inr ⟨_,_,a8z _ exr,?_⟩|refine j2 (b7 _ _ _) ?_|refine j0 ?_|refine B6 (b7 _ _ _) ?_|refine g6 (t:=1) (b7 _ _ _) ?_|refine g6 (t:=2) (b7 _ _ _) ?_|refine g8 (t:=1) (b7 _ _ _) ?_|refine g8 (t:=2) (b7 _ _ _) ?_|refine a0l (r:=rr) (by omega) hrr ?_|refine a0l (r:=ss) (by omega) hss ?_|refine zd ?_ ?_<;>intro h<;>try omega|refine zy ?_|fail)<;>conv=>whnf
     all_goals first
      |omega
      |exact go _ _ _ _ hst ⟨⟨l9 (by omega),rfl,rfl⟩,trivial⟩
   ·skip
    have l4:=a4e m hm D.O (fun i=>decide (0<D.A i ss)) 261 [a5f m n fr D,T.ptr [ti ss]] (fun i hi=>al2 m n fr D i ss hi hss)
    cases hC:R5 D.O (fun i=>decide (0<D.A i ss)) m with
    |none=>
     rw [hC,show leI none=-1 from rfl] at l4
     have hst:y4 m n D=.col ss:=by unfold y4 a0w;rw [hR,hS];simp only [if_neg hlt];rw [hC]
     conv=>whnf
     repeat' (first|refine zz ?_|refine .inl ⟨_,_,j3 l1 (va1 _) rfl,?_⟩|refine .inl ⟨_,_,j3 l2 (va2 _) rfl,?_⟩|refine .inl ⟨_,_,j3 l4 (va4 _ _ ss) rfl,?_⟩|refine j2 (b7 _ _ _) ?_|refine j0 ?_|refine B6 (b7 _ _ _) ?_|refine g6 (t:=1) (b7 _ _ _) ?_|refine g6 (t:=2) (b7 _ _ _) ?_|refine g8 (t:=1) (b7 _ _ _) ?_|refine g8 (t:=2) (b7 _ _ _) ?_|refine a0l (r:=rr) (by omega) hrr ?_|refine a0l (r:=ss) (by omega) hss ?_|refine zd ?_ ?_<;>intro h<;>try omega|refine zy ?_|fail)<;>conv=>whnf
     all_goals first
      |omega
      |exact fin0 _ _ _ (by unfold D3;rw [hst]) (by rw [hst];rfl)
    |some rq=>
     rw [hC,show leI (some rq)=rq from rfl] at l4
     have hst:y4 m n D=.next rq ss:=by unfold y4 a0w;rw [hR,hS];simp only [if_neg hlt];rw [hC]
     have exr:=exc _ _ hst
     conv=>whnf
     repeat' (first|refine zz ?_|refine .inl ⟨_,_,j3 l1 (va1 _) rfl,?_⟩|refine .inl ⟨_,_,j3 l2 (va2 _) rfl,?_⟩|refine .inl ⟨_,_,j3 l4 (va4 _ _ ss) rfl,?_⟩|refine .inr ⟨_,_,a8z _ exr,?_⟩|refine j2 (b7 _ _ _) ?_|refine j0 ?_|refine B6 (b7 _ _ _) ?_|refine g6 (t:=1) (b7 _ _ _) ?_|refine g6 (t:=2) (b7 _ _ _) ?_|refine g8 (t:=1) (b7 _ _ _) ?_|refine g8 (t:=2) (b7 _ _ _) ?_|refine a0l (r:=rr) (by omega) hrr ?_|refine a0l (r:=ss) (by omega) hss ?_|refine zd ?_ ?_<;>intro h<;>try omega|refine zy ?_|fail)<;>conv=>whnf
     all_goals first
      |omega
      |exact go _ _ _ _ hst ⟨⟨l9 (by omega),rfl,rfl⟩,trivial⟩
theorem a4m {P:Program} {g:FuncId} {args:List S} {H:Hp} {b:Blk} {n:Nat} {app:Bool} (h:a9 P g args [] (.c (.own 0 0 n app)) [b]) (ha:args.all S.isT=true) (hm:b.mode=.live) (hb:G4 b.rows):
 U1 P g args H (.c (.own H.length 0 n app)) [b]:=by
 refine ⟨h.1,fun w ι M vals hl hv hH hM hf=>?_⟩
 have:=h.2 w (fun _=>none) M vals hl (fun j s hj=>(hv j s hj).tree (List.all_eq_true.1 ha s (lg2 hj)))
  ⟨by simp,by simp,by simp,by simp,by simp⟩ hM (fun _ _=>rfl)
 refine Calls.mono this ?_
 rintro e w' ⟨v,rfl,ι',M',h1,h2,h3,h4,h5⟩
 have hnl:∀x,¬a38 (fun _=>none) ([]:Hp) x:=by rintro x ⟨id,k,_,_,hk,_⟩;simp at hk
 obtain ⟨l,hl0⟩:∃l,ι' 0=some l:=by
  cases h1 with
  |c h1=>cases h1 with
   |own hi=>exact ⟨_,hi⟩
   |nil hi=>exact ⟨_,hi⟩
 have hnew:w7 ι H.length [b].length (fun _=>l) H.length=some l:=by unfold w7;simp
 have hMM:∀x,a3R M [b].length (fun _=>l) x->M' x:=by
  intro x hx
  rcases hx with hx|⟨k,hk,cap,size,he⟩
  ·rcases h5.mold x hx with h|h
   ·exact h
   ·exact absurd h (hnl x)
  ·have he:l=.blk x cap size:=he
   subst he
   exact h2.liv 0 b rfl hm x cap size hl0
 refine ⟨v,rfl,fun _=>l,?_,⟨h5.os,h5.tape,h5.output,h5.size,fun x hx=>h5.keep x hx (hnl x)⟩,?_,?_,?_⟩
 ·cases h1 with
  |c h1=>cases h1 with
   |own hi q1 q2 q3 q4 q5=>
    rw [hl0] at hi;injection hi with hi
    subst hi
    exact .c (.own hnew q1 q2 q3 q4 q5)
   |nil hi=>
    rw [hl0] at hi;injection hi with hi
    subst hi
    exact .c (.nil hnew)
 ·intro k blk hk
  cases k with
  |succ k=>simp at hk
  |zero=>
   simp at hk
   subst hk
   refine ⟨hm,?_⟩
   have hbr:=h2.blk 0 b rfl (by rw [hm];intro h;cases h) l hl0
   cases l with
   |nil=>exact hbr
   |blk x cap size=>
    obtain ⟨r1,r2,r3,r4,r5,cur,r6,r7,r8⟩:=hbr
    refine ⟨r1,r2,r3,r4,r5,cur,r6,r7,fun i j c hc=>?_⟩
    obtain ⟨u,u1,u2⟩:=r8 i j c hc
    exact ⟨u,u1,a9s hMM hb hc u2⟩
 ·intro k x cap size hk he
  have he:l=.blk x cap size:=he
  subst he
  refine ⟨?_,h3 x (h2.liv 0 b rfl hm x cap size hl0)⟩
  rcases h5.live x ⟨0,b,cap,size,rfl,hm,hl0⟩ with h|h
  ·exact absurd h (hnl x)
  ·exact h
 ·intro k k' x cap size cap' size' hk hk' _ _
  simp at hk hk'
  omega
theorem b0G (H:Hp) (n:Nat) (hn:n<=1000):U1 Tryz.prog 254 [a7 .i64 n] H (.c (.own H.length 0 n true)) [flB (rF n fun _=>0)]:=
 a4m (b5B n hn) rfl rfl (c7 _)
def a42 (l:List (Int × Rat)):Nat->Nat->Rat
 |0=>v7 l
 |k+1=>match l[k]? with
  |none=>a42 l k
  |some t=>fun j=>if j=t.1.toNat then -t.2 else a42 l k j
theorem aj6 {l:List (Int × Rat)} {k:Nat} {t:Int × Rat} (h:l[k]? =some t):a42 l (k+1)=fun j=>if j=t.1.toNat then -t.2 else a42 l k j:=by rw [a42,h]
theorem b00 (l:List (Int × Rat)) (j:Nat):∀k,k<=l.length->a42 l k j=-(I9 l k j)∨(I9 l k j=0∧a42 l k j=v7 l j)
 |0,_=>.inr ⟨rfl,rfl⟩
 |k+1,hk=>by
  obtain ⟨t,ht⟩:∃t,l[k]? =some t:=⟨_,lg0 (by omega)⟩
  rw [aj6 ht,G9 ht]
  simp only
  by_cases hj:j=t.1.toNat
  ·rw [if_pos hj,if_pos hj];exact .inl rfl
  ·rw [if_neg hj,if_neg hj];exact b00 l j k (by omega)
theorem b27 (l:List (Int × Rat)):a42 l l.length=fun j=>-(v7 l j):=by
 funext j
 rcases b00 l j l.length (Nat.le_refl _) with h|⟨h1,h2⟩
 ·exact h
 ·rw [h2]
  have:v7 l j=0:=h1
  rw [this];decide
def sgF (b:Bool) (l:List (Int × Rat)):Nat->Rat:=fun j=>Q8 b (v7 l j)
theorem a1m {H:Hp} {N n:Nat} (hN:H.length=N) (hn:n<=1000):U1 Tryz.prog 254 [a7 .i64 n] H (.c (.own N 0 n true)) [flB (rF n fun _=>0)]:=by subst hN;exact b0G H n hn
abbrev pB (n k l i f:Nat):Blk:={ mode:=.live,elem:=256,size:=6,rows:=[[C.t (ti n),.own l 0 k true,.own 2 0 n true,.own i 0 k true,.t (.sl 0 .nil []),.own f 0 k true]],box:=true }
abbrev a8V (t:TypeId) (s:Nat):Blk:=⟨.dead,t,s,[],false,false⟩
abbrev a5w (n k:Nat) (V G:Nat->Rat) (O:Nat->Nat) (fr:List (Nat × Bool)) (A:Nat->Nat->Rat) (X:Hp):Hp:=
 pB n k 1 3 4::a0a 5 k n V::flB (rF n G)::V5 k O::a1h fr::((mF k n A).map flB++X)
abbrev lnX (k n:Nat) (v:Rat):Blk:={ mode:=.live,elem:=259,size:=5,rows:=[frC (fz v)++[C.own (k+6) 0 n true]],box:=true }
abbrev b0T (n k:Nat) (v:Rat) (a V G:Nat->Rat) (O:Nat->Nat) (fr:List (Nat × Bool)) (f:Nat × Bool) (A:Nat->Nat->Rat) (bx:Blk):Hp:=
 pB n (k+1) (k+8) (k+7) (k+9)::a8V 259 5::flB (rF n G)::a8V 3 1::a8V 284 2::((mF k n A).map flB++
  [bx,flB (rF n a),V5 (k+1) O,{ mode:=.live,elem:=259,size:=5,rows:=P5 5 k n V++[frC (fz v)++[C.own (k+6) 0 n true]],box:=false },a1h (fr++[f])])
theorem ap6 {k n N:Nat} {v:Rat} (h:k+6<N):okB N (lnX k n v):=by
 intro r hr c hc
 simp at hr;subst hr
 simp [frC] at hc
 rcases hc with rfl|rfl|rfl|rfl|rfl<;>first|trivial|exact h
theorem b8M {n k N l i f:Nat} (h1:l<N) (h2:i<N) (h3:f<N) (h4:2<N):okB N (pB n k l i f):=by
 intro r hr c hc
 simp at hr;subst hr
 simp at hc
 rcases hc with rfl|rfl|rfl|rfl|rfl|rfl<;>first|trivial|assumption
theorem aA4 {n k:Nat} {V G:Nat->Rat} {O:Nat->Nat} {fr:List (Nat × Bool)} {A:Nat->Nat->Rat} {X:Hp}:(a5w n k V G O fr A X).length=k+5+X.length:=by simp [b7];omega
theorem b4y {n k N:Nat} {V G:Nat->Rat} {O:Nat->Nat} {fr:List (Nat × Bool)} {A:Nat->Nat->Rat} {X:Hp} (h:k+5<=N) (hX:∀b ∈ X,okB N b):∀b ∈ a5w n k V G O fr A X,okB N b:=by
 intro b hb
 simp only [List.mem_cons,List.mem_append] at hb
 rcases hb with rfl|rfl|rfl|rfl|rfl|hb|hb
 ·exact b8M (by omega) (by omega) (by omega) (by omega)
 ·exact a9b h
 ·exact D5 rfl
 ·exact D5 rfl
 ·exact D5 rfl
 ·obtain ⟨l,_,rfl⟩:=List.mem_map.1 hb
  exact D5 rfl
 ·exact hX b hb
theorem b40 {n k:Nat} {V G:Nat->Rat} {O:Nat->Nat} {fr:List (Nat × Bool)} {A:Nat->Nat->Rat} {X X':Hp}:a5w n k V G O fr A (X++X')=a5w n k V G O fr A X++X':=by
 show _::_::_::_::_::(_++(X++X'))=_::_::_::_::_::((_++X)++X')
 rw [List.append_assoc]
theorem V8 {n0 N n k:Nat} {V G:Nat->Rat} {O:Nat->Nat} {fr:List (Nat × Bool)} {A:Nat->Nat->Rat} {X X' H:Hp} {env env':Env} (hH:H=a5w n k V G O fr A (X++X')) (hN:k+5+X.length=N) (h0:n0<=N) (hX:∀b ∈ X,okB N b)
 (hE:a0c (idR N) H env env'):Ent n0 (idR N) env H env' (a5w n k V G O fr A X):=by
 refine a72 (by rw [aA4];exact hN) h0 (b4y (by omega) hX) (fun i hi=>?_) hE
 rw [hH,b40,List.getElem?_append_left (by rw [aA4];omega)]
theorem a0Z {b0 b1 b2 b3 b4 c0 c1 c2 c3 c4:Blk} {L L':Hp} (h0:b0=c0) (h1:b1=c1) (h2:b2=c2) (h3:b3=c3) (h4:b4=c4) (h6:L=L'):b0::b1::b2::b3::b4::L=c0::c1::c2::c3::c4::L':=by
 subst h0 h1 h2 h3 h4 h6;rfl
def fR (N:Nat) (f:Nat->Nat):List (Option Nat):=(List.range N).map fun i=>some (f i)
theorem w9 {N i:Nat} {f:Nat->Nat} (h:i<N):(fR N f)[i]? =some (some (f i)):=by simp [fR,h]
theorem b7R (N:Nat) (f:Nat->Nat):(fR N f).length=N:=by simp [fR]
theorem b46 {N i j:Nat} {f:Nat->Nat} (h:(fR N f)[i]? =some (some j)):i<N∧f i=j:=by
 obtain ⟨h1,h2⟩:=lg1 h
 simp [fR] at h1 h2
 exact ⟨h1,h2⟩
theorem ac0 {ρ:List (Option Nat)}:∀{m:Nat},(∀ i:Nat,i<m->ρ[i]? =some (some i))->a1e ρ m=true
 |0,_=>rfl
 |m+1,h=>by
  unfold a1e
  rw [h m (by omega),ac0 fun i hi=>h i (by omega)]
  simp
theorem b0k {N:Nat} {f:Nat->Nat} {H H':Hp} (hn:H'.length=N) (hB:∀(i:Nat) (k':Blk),H'[i]? =some k'->∃k:Blk,H[f i]? =some k∧a3z (fR N f) H k k'):a2Z (fR N f) H (fR N f) H':=
 a4z (by rw [b7R,hn]) fun i k' hk=>by
  have hi:i<N:=by rw [← hn];exact (lg1 hk).1
  obtain ⟨k,h1,h2⟩:=hB i k' hk
  exact ⟨f i,k,w9 hi,h1,h2⟩
theorem ay3 {N:Nat} {f:Nat->Nat} {H:Hp} (hinj:∀i j,i<N->j<N->f i=f j->i=j):O5 (fR N f) H=true:=Z6 fun i j n h1 h2=>by
 obtain ⟨a1,a2⟩:=b46 h1
 obtain ⟨b1,b2⟩:=b46 h2
 exact hinj i j a1 b1 (by omega)
theorem aO5 {n0 N:Nat} {f:Nat->Nat} {env env':Env} {H H':Hp} (hn:H'.length=N) (h0:n0<=N) (hk:∀i,i<n0->f i=i) (hinj:∀i j,i<N->j<N->f i=f j->i=j)
 (hB:∀(i:Nat) (k':Blk),H'[i]? =some k'->∃k:Blk,H[f i]? =some k∧a3z (fR N f) H k k') (hE:a0c (fR N f) H env env'):Ent n0 (fR N f) env H env' H':=
 ⟨ac0 fun i hi=>by rw [w9 (by omega),hk i hi],ay3 hinj,b0k hn hB,hE⟩
theorem b81 {n0 N:Nat} {f:Nat->Nat} {r s:S} {H H':Hp} (hn:H'.length=N) (h0:n0<=N) (hk:∀i,i<n0->f i=i) (hinj:∀i j,i<N->j<N->f i=f j->i=j)
 (hB:∀(i:Nat) (k':Blk),H'[i]? =some k'->∃k:Blk,H[f i]? =some k∧a3z (fR N f) H k k') (hE:a8c (fR N f) H r s):Fin n0 r H s H':=
 ⟨fR N f,ac0 fun i hi=>by rw [w9 (by omega),hk i hi],ay3 hinj,b0k hn hB,hE⟩
theorem b6d (k:Blk):a1S k k=true:=by unfold a1S;cases k.mode<;>simp
theorem c9 {ρ:List (Option Nat)} {H:Hp} {k:Blk} (h:G4 k.rows):a3z ρ H k k:=⟨b6d k,rfl,rfl,.inl ⟨rfl,h⟩⟩
theorem aZ6 {ρ:List (Option Nat)} {H:Hp} {l l':List C} (h:a2u ρ H l l'):∀ts:List T,a2u ρ H (ts.map C.t++l) (ts.map C.t++l')
 |[]=>h
 |t::r=>⟨a0E t,aZ6 h r⟩
theorem a1n {ρ:List (Option Nat)} {H:Hp} {m n:Nat} {V:Nat->Rat} {h h':Nat->Nat} (hh:∀i,i<m->ρ[h' i]? =some (some (h i))):
 a3z ρ H { mode:=.live,elem:=259,size:=5,rows:=(List.range m).map fun i=>frC (fz (V i))++[C.own (h i) 0 n true],box:=false } { mode:=.live,elem:=259,size:=5,rows:=(List.range m).map fun i=>frC (fz (V i))++[C.own (h' i) 0 n true],box:=false }:=by
 refine ⟨rfl,rfl,rfl,.inr (a6z (by simp) fun i x y hx hy=>?_)⟩
 have hi:i<m:=by have:=(lg1 hx).1;simpa using this
 simp [hi] at hx hy
 subst hx hy
 exact aZ6 (ts:=j5 (fz (V i))) (l:=[C.own (h i) 0 n true]) (l':=[C.own (h' i) 0 n true]) ⟨⟨hh i hi,rfl,rfl,fun h=>h⟩,trivial⟩
theorem aZ9 {a b:Nat} {K:Prop} (h:a<=b) (k:K):a<=b∧K:=⟨h,k⟩
theorem a3G {N:Nat} {b:Blk} (h:G4 b.rows):okB N b:=by
 intro r hr c hc
 have:=h r hr c hc
 cases c<;>first|trivial|cases this
def aF3 (k n:Nat) (v:Rat) (V:Nat->Rat):Nat->Rat:=fun i=>if i=k then v else V i
def hnd (k:Nat):Nat->Nat:=fun i=>if i=k then k+6 else i+5
theorem a8M {k n:Nat} {v:Rat} {V:Nat->Rat}:P5 5 k n V++[frC (fz v)++[C.own (k+6) 0 n true]]=(List.range (k+1)).map fun i=>frC (fz (aF3 k n v V i))++[C.own (hnd k i) 0 n true]:=by
 rw [List.range_succ,List.map_append]
 congr 1
 ·refine List.map_congr_left fun i hi=>?_
  have:=List.mem_range.1 hi
  unfold aF3 hnd
  rw [if_neg (by omega),if_neg (by omega)]
 ·unfold aF3 hnd;simp
abbrev b8A (n k:Nat) (v:Rat) (a V G:Nat->Rat) (O:Nat->Nat) (fr:List (Nat × Bool)) (f:Nat × Bool) (A:Nat->Nat->Rat) (bx lx lit:Blk):Hp:=
 pB n (k+1) (k+10) (k+8) (k+11)::a8V 259 5::flB (rF n G)::a8V 3 1::a8V 284 2::((mF k n A).map flB++
  [bx,flB (rF n a),lx,V5 (k+1) O,lit,{ mode:=.live,elem:=259,size:=5,rows:=P5 5 k n V++[frC (fz v)++[C.own (k+6) 0 n true]],box:=false },a1h (fr++[f])])
def a9p (k:Nat):Nat->Nat:=fun i=>if i<k+7 then i else if i=k+7 then k+8 else if i=k+8 then k+10 else k+11
theorem a1g {α β:Type} {f:β->α} {M:List β} {X:List α} {N t:Nat} (h:M.length=N):(M.map f++X)[N+t]? =X[t]?:=by
 rw [List.getElem?_append_right (by simp [h])];simp [h]
theorem b6A {n0 n:Nat} {r s:S} {H H':Hp} (e:n0=n) (h:Fin n r H s H'):Fin n0 r H s H':=by subst e;exact h
theorem aY8 {n k:Nat} {v:Rat} {a V G:Nat->Rat} {O:Nat->Nat} {fr:List (Nat × Bool)} {f:Nat × Bool} {A:Nat->Nat->Rat} {bx lx lit:Blk} {H:Hp} (hbx:G4 bx.rows) (hH:H=b8A n k v a V G O fr f A bx lx lit):
 Fin (k+6) (.tup []) H (.tup []) (b0T n k v a V G O fr f A bx):=by
 subst hH
 refine b81 (N:=k+10) (f:=a9p k) (by simp [b7]) (by omega) (fun i hi=>by unfold a9p;rw [if_pos (by omega)]) (fun i j hi hj h=>by unfold a9p at h;(repeat' split at h)<;>omega) ?_ trivial
 have r7:a9p k (k+7)=k+8:=by unfold a9p;rw [if_neg (by omega),if_pos rfl]
 have r8:a9p k (k+8)=k+10:=by unfold a9p;rw [if_neg (by omega),if_neg (by omega),if_pos rfl]
 have r9:a9p k (k+9)=k+11:=by unfold a9p;rw [if_neg (by omega),if_neg (by omega),if_neg (by omega)]
 have rl:∀i,i<k+7->a9p k i=i:=fun i hi=>by unfold a9p;rw [if_pos hi]
 intro i k' hk
 rcases i with _|_|_|_|_|i
 ·injection hk with hk;subst hk
  rw [rl 0 (by omega)]
  exact ⟨_,rfl,rfl,rfl,rfl,.inr ⟨⟨rfl,⟨by rw [w9 (by omega),r8],rfl,rfl,fun h=>h⟩,⟨by rw [w9 (by omega),rl 2 (by omega)],rfl,rfl,fun h=>h⟩,⟨by rw [w9 (by omega),r7],rfl,rfl,fun h=>h⟩,rfl,⟨by rw [w9 (by omega),r9],rfl,rfl,fun h=>h⟩,trivial⟩,trivial⟩⟩
 ·injection hk with hk;subst hk;rw [rl 1 (by omega)];exact ⟨_,rfl,c9 (by simp [G4])⟩
 ·injection hk with hk;subst hk;rw [rl 2 (by omega)];exact ⟨_,rfl,c9 (c7 _)⟩
 ·injection hk with hk;subst hk;rw [rl 3 (by omega)];exact ⟨_,rfl,c9 (by simp [G4])⟩
 ·injection hk with hk;subst hk;rw [rl 4 (by omega)];exact ⟨_,rfl,c9 (by simp [G4])⟩
 ·have hk:((mF k n A).map flB++[bx,flB (rF n a),V5 (k+1) O,{ mode:=.live,elem:=259,size:=5,rows:=P5 5 k n V++[frC (fz v)++[C.own (k+6) 0 n true]],box:=false },a1h (fr++[f])])[i]? =some k':=hk
  by_cases hi:i<k
  ·rw [I5 (N4 hi)] at hk
   injection hk with hk;subst hk
   rw [rl (i+5) (by omega)]
   exact ⟨_,I5 (N4 hi),c9 (c7 _)⟩
  ·obtain ⟨t,rfl⟩:∃t,i=k+t:=⟨i - k,by omega⟩
   rw [a1g (b7 _ _ _)] at hk
   have lk:∀j,(b8A n k v a V G O fr f A bx lx lit)[k+j+5]? =([bx,flB (rF n a),lx,V5 (k+1) O,lit,{ mode:=.live,elem:=259,size:=5,rows:=P5 5 k n V++[frC (fz v)++[C.own (k+6) 0 n true]],box:=false },a1h (fr++[f])]:Hp)[j]?:=fun j=>a1g (b7 _ _ _)
   rcases t with _|_|_|_|_|t
   ·injection hk with hk;subst hk
    rw [rl (k+0+5) (by omega)]
    exact ⟨_,lk 0,c9 hbx⟩
   ·injection hk with hk;subst hk
    rw [rl (k+1+5) (by omega)]
    exact ⟨_,lk 1,c9 (c7 _)⟩
   ·injection hk with hk;subst hk
    rw [show k+2+5=k+7 by omega,r7]
    exact ⟨_,lk 3,c9 (c7 _)⟩
   ·injection hk with hk;subst hk
    rw [show k+3+5=k+8 by omega,r8]
    refine ⟨_,lk 5,?_⟩
    rw [a8M]
    refine a1n fun j hj=>?_
    have:hnd k j<k+7:=by unfold hnd;split<;>omega
    rw [w9 (by omega),rl _ this]
   ·injection hk with hk;subst hk
    rw [show k+4+5=k+9 by omega,r9]
    exact ⟨_,lk 6,c9 (c7 _)⟩
   ·simp at hk
theorem l7 {a0 a1 a2 a3 a4 a5 a6 b0 b1 b2 b3 b4 b5 b6:Blk} (h0:a0=b0) (h1:a1=b1) (h2:a2=b2) (h3:a3=b3) (h4:a4=b4) (h5:a5=b5) (h6:a6=b6):([a0,a1,a2,a3,a4,a5,a6]:Hp)=[b0,b1,b2,b3,b4,b5,b6]:=by
 subst h0 h1 h2 h3 h4 h5 h6;rfl
theorem a7t {k:Nat} {O:Nat->Nat} {x:Int} (h:x=O k):(toC (a0u k O)).take k++toC [[ti x]]=toC (a0u (k+1) O):=by
 rw [lg4 (by simp [toC,u7])]
 unfold a0u
 rw [List.range_succ,List.map_append,h]
 simp [toC]
theorem ab4 {fr:List (Nat × Bool)} {k:Nat} (h:fr.length=k) (f:Nat × Bool):(toC (Y2 fr)).take k++toC [[ti f.1,tb f.2]]=toC (Y2 (fr++[f])):=by
 rw [lg4 (by simp [toC,Y2,h])]
 unfold Y2
 simp [toC]
set_option maxHeartbeats 4000000 in
theorem b8v (n k row:Nat) (w:B1) (b:Bool) (V G:Nat->Rat) (fr:List (Nat × Bool)) (hfr:fr.length=k) (A:Nat->Nat->Rat) (bx:Blk) (hbx:G4 bx.rows) (hn:n<=1000) (hk:k<=10000) (hrow:row<=100000)
 (hr:f8 (-1) n w.terms=true) (hl:w.terms.length<=1000) (hb:∀t ∈ w.terms,rl t.2<=60000) (hv:rl w.value<=60000):
 a9 Tryz.prog 255 [.c (.ptr 0 0 0),a7 .i64 row,az2 w,f5 b] (a5w n k V G (fun i=>n+i) fr A [bx]) (.tup []) (b0T n k (Q8 b w.value) (sgF b w.terms) V G (fun i=>n+i) fr (row,b) A bx):=by
 have m1:(w.terms.map i9).length=w.terms.length:=by simp
 (refine ac Tryz.func255 ?_;(conv=>whnf);repeat ((first|refine b0x ?_|refine zy ?_);conv=>whnf))
 repeat' (first|refine zz ?_|refine qp b7 ?_|refine b0x ?_|refine .inl ⟨_,_,a1m (N:=k+6) (by simp [b7]) hn,?_⟩|refine j2 (b7 _ _ _) ?_|refine j0 ?_|refine g6 (t:=1) (b7 _ _ _) ?_|refine g6 (t:=2) (b7 _ _ _) ?_|refine g6 (t:=3) (b7 _ _ _) ?_|refine g8 (t:=1) (b7 _ _ _) ?_|refine g8 (t:=2) (b7 _ _ _) ?_|refine g8 (t:=3) (b7 _ _ _) ?_|refine zd ?_ ?_<;>intro h<;>try omega|refine zy ?_|fail)<;>conv=>whnf
 refine d6 c8 (fun q=>([S.c (C.ptr 0 0 0),a7 .i64 row,J,f5 b,J,J,S.c (C.t (T.ptr (w5 w))),J,S.c (C.ptr (k+7) 0 0),J,J,J,J,J,J,J,J,J,J,J,J,J,n9 w.terms,a7 .i64 w.terms.length,a7 .i64 q,J,J,J,J,J,J,J,J,J,J,J,J,J,J,J,J,J,J,J,J,J,J,J,J,J,J,J,J,J,J,J,J,J,J,J,J,J,J,J,J,J,J,J,J,J,J,J,J,J,J,J,J,J,J,J,J,J,J,J,J,J,J,J,J,J,J,J,J,J,J,J,J,J],a5w n k V G (fun i=>n+i) fr A [bx,flB (rF n (I9 w.terms q)),lnX k n w.value])) w.terms.length (fun _=>True) (idR (k+8)) trivial ?_ ?_
 ·refine V8 (X':=[]) (a0Z rfl rfl rfl rfl rfl ?_) rfl (by simp [b7]) ?_ ?_
  ·rfl
  ·intro b hb;simp at hb;rcases hb with rfl|rfl|rfl
   ·exact a3G hbx
   ·exact D5 rfl
   ·exact ap6 (by omega)
  ·exact ⟨⟨l9 (by omega),rfl,rfl⟩,rfl,rfl,g9 rfl,⟨l9 (by omega),rfl,rfl⟩,g9 rfl,c6 (by omega),c6 rfl,trivial⟩
 intro q hq _
 by_cases hlt:q<w.terms.length
 ·obtain ⟨t,ht⟩:∃t,w.terms[q]? =some t:=⟨_,lg0 hlt⟩
  obtain ⟨t0,t1,t2⟩:=C2 hr t (lg2 ht)
  have gp:(rF n (I9 w.terms q))[0+t.1.toNat]? =some (fz (I9 w.terms q t.1.toNat)):=by rw [Nat.zero_add,B9 (by omega)]
  have eV:0+t.1.toNat=t.1.toNat:=by omega
  have e:s8 (flB (rF n (I9 w.terms q))) ((flB (rF n (I9 w.terms q))).rows.set (0+t.1.toNat) (frC (fz t.2)))=flB (rF n (I9 w.terms (q+1))):=by
   have e1:=F0 (row:=rF n (I9 w.terms q)) (y:=fz t.2) eV
   rw [L2 (by omega),←G9 ht] at e1
   exact e1
  conv=>whnf
  repeat' (first|refine zz ?_|refine b8 ht ?_|refine j6 gp ?_|refine j2 (b7 _ _ _) ?_|refine j0 ?_|refine g6 (t:=1) (b7 _ _ _) ?_|refine g6 (t:=2) (b7 _ _ _) ?_|refine g6 (t:=3) (b7 _ _ _) ?_|refine g8 (t:=1) (b7 _ _ _) ?_|refine g8 (t:=2) (b7 _ _ _) ?_|refine g8 (t:=3) (b7 _ _ _) ?_|refine zd ?_ ?_<;>intro h<;>try omega|refine zy ?_|fail)<;>conv=>whnf
  all_goals first
   |omega
   |(refine ⟨hlt,trivial,idR (k+8),V8 (X:=[bx,flB (rF n (I9 w.terms (q+1))),lnX k n w.value]) (a0Z rfl rfl rfl rfl rfl (congrArg (fun z=>(mF k n A).map flB++(bx::z::lnX k n w.value::[_])) e)) rfl (by simp [b7]) ?_ ⟨⟨l9 (by omega),rfl,rfl⟩,rfl,rfl,rfl,⟨l9 (by omega),rfl,rfl⟩,rfl,rfl,c6 (by omega),trivial⟩⟩
     intro b hb;simp at hb;rcases hb with rfl|rfl|rfl
     ·exact a3G hbx
     ·exact D5 rfl
     ·exact ap6 (by omega))
 ·have hqe:q=w.terms.length:=by omega
  subst hqe
  cases b with
  |false=>
   conv=>whnf
   repeat' (first|refine ay7 [0,1,2,3,4,5,6,7,9,10,11,12,13,14,15,16,8,17,18,19,20,21,22,23] (by decide +kernel) (by decide +kernel) ?_|refine zz ?_|refine zz ?_|refine zz ?_|refine zz ?_|refine zz ?_|refine zz ?_|refine qp (0,1,2,3,4,5,6,7,9,10,11,12,13,14,15,16,8,17,18,19,20,21,22,23) ?_|refine qp (toC,u7,y6,Y2,hfr) ?_|refine qp (toC,u7,y6,Y2) ?_|refine qp 0 ?_|refine qp (0,1,8,9,10,11,12,13,14,15) ?_|refine qp (0,1) ?_|refine qp 1 ?_|refine o7 (by simp [toC,u7,y6,Y2,hfr]) (by simp [toC,u7,y6,Y2];omega) ?_|refine bl0 [0] ?_|refine bl0 [0,1,8,9,10,11,12,13,14,15] ?_|refine bl0 [0,1] ?_|refine bl0 [1] ?_|refine j2 (b7 _ _ _) ?_|refine j0 ?_|refine g6 (t:=1) (b7 _ _ _) ?_|refine g6 (t:=2) (b7 _ _ _) ?_|refine g6 (t:=3) (b7 _ _ _) ?_|refine g8 (t:=1) (b7 _ _ _) ?_|refine g8 (t:=2) (b7 _ _ _) ?_|refine g8 (t:=3) (b7 _ _ _) ?_|refine g6 (t:=4) (b7 _ _ _) ?_|refine aZ9 (Nat.le_refl 1) ?_|refine zd ?_ ?_<;>intro h<;>try omega|refine zy ?_|fail)<;>conv=>whnf
   all_goals try omega
   all_goals refine b6A (n:=k+6) (by simp [b7]) (aY8 (lit:=_) hbx (a0Z rfl rfl rfl rfl rfl (congrArg (fun z=>(mF k n A).map flB++z) (l7 rfl rfl rfl ?_ rfl ?_ ?_))))
   ·exact congrArg (fun z=>({ mode:=.live,elem:=3,size:=1,rows:=z,box:=false }:Blk)) (a7t (x:=(n:Int)+k) (by simp))
   ·exact congrArg (fun z=>({ mode:=.live,elem:=259,size:=5,rows:=z,box:=false }:Blk)) (congrArg (fun z=>z++[frC (fz w.value)++[C.own (k+6) 0 n true]]) (lg4 (by simp [y6])))
   ·exact congrArg (fun z=>({ mode:=.live,elem:=284,size:=2,rows:=z,box:=false }:Blk)) (ab4 hfr (row,false))
  |true=>
   have nv:=a2O w.value hv
   conv=>whnf
   repeat' (first|refine zz ?_|refine qp nv ?_|refine j2 (b7 _ _ _) ?_|refine j0 ?_|refine g6 (t:=1) (b7 _ _ _) ?_|refine g6 (t:=2) (b7 _ _ _) ?_|refine g6 (t:=3) (b7 _ _ _) ?_|refine g8 (t:=1) (b7 _ _ _) ?_|refine g8 (t:=2) (b7 _ _ _) ?_|refine g8 (t:=3) (b7 _ _ _) ?_|refine zd ?_ ?_<;>intro h<;>try omega|refine zy ?_|fail)<;>conv=>whnf
   all_goals try omega
   refine d6 c8 (fun q=>([S.c (C.ptr 0 0 0),a7 .i64 row,J,f5 true,J,J,J,J,S.c (C.ptr (k+7) 0 0),J,J,J,J,J,J,J,J,J,J,J,J,J,J,J,J,J,J,J,J,J,J,J,J,J,J,J,J,J,J,J,J,J,n9 w.terms,a7 .i64 w.terms.length,a7 .i64 q,J,J,J,J,J,J,J,J,J,J,J,J,J,J,J,J,J,J,J,J,J,J,J,J,J,J,J,J,J,J,J,J,J,J,J,J,J,J,J,J,J,J,J,J,J,J,J,J,J,J,J,J,J],a5w n k V G (fun i=>n+i) fr A [bx,flB (rF n (a42 w.terms q)),lnX k n (-w.value)])) w.terms.length (fun _=>True) (idR (k+8)) trivial ?_ ?_
   ·refine V8 (X':=[]) (a0Z rfl rfl rfl rfl rfl rfl) rfl (by simp [b7]) ?_ ?_
    ·intro b hb;simp at hb;rcases hb with rfl|rfl|rfl
     ·exact a3G hbx
     ·exact D5 rfl
     ·exact ap6 (by omega)
    ·exact ⟨⟨l9 (by omega),rfl,rfl⟩,rfl,rfl,⟨l9 (by omega),rfl,rfl⟩,g9 rfl,c6 (by omega),c6 rfl,trivial⟩
   intro q hq _
   by_cases hlt:q<w.terms.length
   ·obtain ⟨t,ht⟩:∃t,w.terms[q]? =some t:=⟨_,lg0 hlt⟩
    obtain ⟨t0,t1,t2⟩:=C2 hr t (lg2 ht)
    have nt:=a2O t.2 (hb t (lg2 ht))
    have gp:(rF n (a42 w.terms q))[0+t.1.toNat]? =some (fz (a42 w.terms q t.1.toNat)):=by rw [Nat.zero_add,B9 (by omega)]
    have eV:0+t.1.toNat=t.1.toNat:=by omega
    have e:s8 (flB (rF n (a42 w.terms q))) ((flB (rF n (a42 w.terms q))).rows.set (0+t.1.toNat) (frC (fz (-t.2))))=flB (rF n (a42 w.terms (q+1))):=by
     have e1:=F0 (row:=rF n (a42 w.terms q)) (y:=fz (-t.2)) eV
     rw [L2 (by omega),←aj6 ht] at e1
     exact e1
    conv=>whnf
    repeat' (first|refine zz ?_|refine qp nt ?_|refine b8 ht ?_|refine j6 gp ?_|refine j2 (b7 _ _ _) ?_|refine j0 ?_|refine g6 (t:=1) (b7 _ _ _) ?_|refine g6 (t:=2) (b7 _ _ _) ?_|refine g6 (t:=3) (b7 _ _ _) ?_|refine g8 (t:=1) (b7 _ _ _) ?_|refine g8 (t:=2) (b7 _ _ _) ?_|refine g8 (t:=3) (b7 _ _ _) ?_|refine zd ?_ ?_<;>intro h<;>try omega|refine zy ?_|fail)<;>conv=>whnf
    all_goals first
     |omega
     |(refine ⟨hlt,trivial,idR (k+8),V8 (X:=[bx,flB (rF n (a42 w.terms (q+1))),lnX k n (-w.value)]) (a0Z rfl rfl rfl rfl rfl (congrArg (fun z=>(mF k n A).map flB++(bx::z::lnX k n (-w.value)::[_])) e)) rfl (by simp [b7]) ?_ ⟨⟨l9 (by omega),rfl,rfl⟩,rfl,rfl,⟨l9 (by omega),rfl,rfl⟩,rfl,rfl,c6 (by omega),trivial⟩⟩
       intro b hb;simp at hb;rcases hb with rfl|rfl|rfl
       ·exact a3G hbx
       ·exact D5 rfl
       ·exact ap6 (by omega))
   ·have hqe:q=w.terms.length:=by omega
    subst hqe
    have ea:a42 w.terms w.terms.length=sgF true w.terms:=b27 w.terms
    conv=>whnf
    repeat' (first|refine ay7 [0,1,2,3,4,5,6,7,9,10,11,12,13,14,15,16,8,17,18,19,20,21,22,23] (by decide +kernel) (by decide +kernel) ?_|refine zz ?_|refine zz ?_|refine zz ?_|refine zz ?_|refine zz ?_|refine zz ?_|refine qp (0,1,2,3,4,5,6,7,9,10,11,12,13,14,15,16,8,17,18,19,20,21,22,23) ?_|refine qp (toC,u7,y6,Y2,hfr) ?_|refine qp (toC,u7,y6,Y2) ?_|refine qp 0 ?_|refine qp (0,1,8,9,10,11,12,13,14,15) ?_|refine qp (0,1) ?_|refine qp 1 ?_|refine o7 (by simp [toC,u7,y6,Y2,hfr]) (by simp [toC,u7,y6,Y2];omega) ?_|refine bl0 [0] ?_|refine bl0 [0,1,8,9,10,11,12,13,14,15] ?_|refine bl0 [0,1] ?_|refine bl0 [1] ?_|refine j2 (b7 _ _ _) ?_|refine j0 ?_|refine g6 (t:=1) (b7 _ _ _) ?_|refine g6 (t:=2) (b7 _ _ _) ?_|refine g6 (t:=3) (b7 _ _ _) ?_|refine g8 (t:=1) (b7 _ _ _) ?_|refine g8 (t:=2) (b7 _ _ _) ?_|refine g8 (t:=3) (b7 _ _ _) ?_|refine g6 (t:=4) (b7 _ _ _) ?_|refine aZ9 (Nat.le_refl 1) ?_|refine zd ?_ ?_<;>intro h<;>try omega|refine zy ?_|fail)<;>conv=>whnf
    all_goals try omega
    all_goals refine b6A (n:=k+6) (by simp [b7]) (aY8 (lit:=_) hbx (a0Z rfl rfl rfl rfl rfl (congrArg (fun z=>(mF k n A).map flB++z) (l7 rfl (by rw [ea]) rfl ?_ rfl ?_ ?_))))
    ·exact congrArg (fun z=>({ mode:=.live,elem:=3,size:=1,rows:=z,box:=false }:Blk)) (a7t (x:=(n:Int)+k) (by simp))
    ·exact congrArg (fun z=>({ mode:=.live,elem:=259,size:=5,rows:=z,box:=false }:Blk)) (congrArg (fun z=>z++[frC (fz (-w.value))++[C.own (k+6) 0 n true]]) (lg4 (by simp [y6])))
    ·exact congrArg (fun z=>({ mode:=.live,elem:=284,size:=2,rows:=z,box:=false }:Blk)) (ab4 hfr (row,true))
def gR (N:Nat) (f:Nat->Option Nat):List (Option Nat):=(List.range N).map f
theorem a2V {N i:Nat} {f:Nat->Option Nat} (h:i<N):(gR N f)[i]? =some (f i):=by simp [gR,h]
theorem b4n {N i:Nat} {x:Option Nat} {f:Nat->Option Nat} (h:(gR N f)[i]? =some x):i<N∧f i=x:=by
 obtain ⟨h1,h2⟩:=lg1 h
 simp [gR] at h1 h2
 exact ⟨h1,h2⟩
theorem aE3 {ρ:List (Option Nat)} {H:Hp}:∀{r:List (Option Nat)} {H':Hp},r.length=H'.length->(∀ (i:Nat) (k':Blk),H'[i]? =some k'->(r[i]? =some none∧k'.rows=[]∧k'.mode=.live)∨∃(j:Nat) (k:Blk),r[i]? =some (some j)∧H[j]? =some k∧a3z ρ H k k')->a2Z ρ H r H'
 |[],[],_,_=>trivial
 |[],_::_,h,_=>by simp at h
 |_::_,[],h,_=>by simp at h
 |x::r,k'::H',hl,h=>by
  refine ⟨?_,aE3 (by simpa using hl) fun i k1 hk=>by simpa using h (i+1) k1 (by simpa using hk)⟩
  rcases h 0 k' rfl with ⟨h1,h2,h3⟩|⟨j,k,h1,h2,h3⟩
  ·simp at h1;subst h1;exact ⟨h2,h3⟩
  ·simp at h1;subst h1
   simp only [h2]
   exact h3
theorem b3m {N:Nat} {f:Nat->Option Nat} {env env':Env} {H H':Hp} (hn:H'.length=N) (hinj:∀i j x,i<N->j<N->f i=some x->f j=some x->i=j)
 (hB:∀(i:Nat) (k':Blk),H'[i]? =some k'->(f i=none∧k'.rows=[]∧k'.mode=.live)∨∃(j:Nat) (k:Blk),f i=some j∧H[j]? =some k∧a3z (gR N f) H k k') (hE:a0c (gR N f) H env env'):Ent 0 (gR N f) env H env' H':=
 ⟨rfl,Z6 fun i j n h1 h2=>by
   obtain ⟨a1,a2⟩:=b4n h1
   obtain ⟨b1,b2⟩:=b4n h2
   exact hinj i j n a1 b1 a2 b2,aE3 (by simp [gR,hn]) fun i k' hk=>by
   have hi:i<N:=by rw [← hn];exact (lg1 hk).1
   rcases hB i k' hk with ⟨h1,h2⟩|⟨j,k,h1,h2⟩
   ·exact .inl ⟨by rw [a2V hi,h1],h2⟩
   ·exact .inr ⟨j,k,by rw [a2V hi,h1],h2⟩,hE⟩
theorem a5b {s:f7} (k:Nat):I0 s (k+1)=match s.rows[k]? with
 |none=>I0 s k
 |some w=>I0 s k++(if w.kind≠0 then [(k,false)] else [])++(if w.kind≠1 then [(k,true)] else []):=rfl
theorem ai7 {s:f7} {i:Nat}:∀d,∃rest,I0 s (i+d)=I0 s i++rest
 |0=>⟨[],by simp⟩
 |d+1=>by
  obtain ⟨r,hr⟩:=ai7 (s:=s) (i:=i) d
  rw [show i+(d+1)=(i+d)+1 by omega,a5b]
  cases s.rows[i+d]? with
  |none=>exact ⟨r,hr⟩
  |some w=>exact ⟨r++((if w.kind≠0 then [(i+d,false)] else [])++(if w.kind≠1 then [(i+d,true)] else [])),by simp only;rw [hr,List.append_assoc,List.append_assoc]⟩
theorem ag0 {s:f7} {i k:Nat} {f:Nat × Bool} (hi:i<=s.rows.length) (h:(I0 s i)[k]? =some f):(e8 s).getD k (0,false)=f:=by
 obtain ⟨r,hr⟩:=ai7 (s:=s) (i:=i) (s.rows.length - i)
 rw [show i+(s.rows.length - i)=s.rows.length by omega] at hr
 unfold e8
 rw [hr,lg3,List.getElem?_append_left (lg1 h).1,h];rfl
theorem a4p {s:f7}:∀i,(I0 s i).length<=2*i
 |0=>by simp [I0]
 |i+1=>by
  have ih:=a4p (s:=s) i
  rw [a5b]
  cases s.rows[i]? with
  |none=>simp only;omega
  |some w=>
   simp only [List.length_append]
   split<;>split<;>simp<;>omega
theorem a9S {s:f7} {i:Nat} {w:B1} (h:s.rows[i]? =some w):I0 s (i+1)=(I0 s i++if w.kind≠0 then [(i,false)] else [])++if w.kind≠1 then [(i,true)] else []:=by
 rw [a5b,h]
def R7 (k:Nat):Nat->Nat:=fun i=>if i=0 then 0 else if i=1 then k+8 else if i=2 then 2 else if i=3 then k+7 else if i=4 then k+9 else if i<k+5 then i else if i=k+5 then k+6 else k+5
theorem ac5 {k:Nat} (i:Nat) (hi:i<k+7):(i=0∧R7 k i=0)∨(i=1∧R7 k i=k+8)∨(i=2∧R7 k i=2)∨(i=3∧R7 k i=k+7)∨(i=4∧R7 k i=k+9)∨(5<=i∧i<k+5∧R7 k i=i)∨(5<=i∧i=k+5∧R7 k i=k+6)∨(5<=i∧i=k+6∧R7 k i=k+5):=by
 unfold R7
 by_cases h0:i=0
 ·rw [if_pos h0];omega
 ·rw [if_neg h0]
  by_cases h1:i=1
  ·rw [if_pos h1];omega
  ·rw [if_neg h1]
   by_cases h2:i=2
   ·rw [if_pos h2];omega
   ·rw [if_neg h2]
    by_cases h3:i=3
    ·rw [if_pos h3];omega
    ·rw [if_neg h3]
     by_cases h4:i=4
     ·rw [if_pos h4];omega
     ·rw [if_neg h4]
      by_cases h5:i<k+5
      ·rw [if_pos h5];omega
      ·rw [if_neg h5]
       by_cases h6:i=k+5
       ·rw [if_pos h6];omega
       ·rw [if_neg h6];omega
theorem b4z {k:Nat}:R7 k (k+6)=k+5:=by
 have:=ac5 (k:=k) (k+6) (by omega)
 omega
theorem aV8 {n k:Nat} {a V G:Nat->Rat} {v:Rat} {O:Nat->Nat} {fr:List (Nat × Bool)} {f:Nat × Bool} {A:Nat->Nat->Rat} {bx:Blk} {env env':Env} (hbx:G4 bx.rows) (hv:v=V k) (ha:a=A k)
 (hE:a0c (fR (k+7) (R7 k)) (b0T n k v a V G O fr f A bx) env env'):Ent 0 (fR (k+7) (R7 k)) env (b0T n k v a V G O fr f A bx) env' (a5w n (k+1) V G O (fr++[f]) A [bx]):=by
 subst hv ha
 have r1:R7 k 1=k+8:=rfl
 have r3:R7 k 3=k+7:=rfl
 have r4:R7 k 4=k+9:=rfl
 have ra:∀i,i<k->R7 k (i+5)=i+5:=fun i hi=>by
  unfold R7
  rw [if_neg (by omega),if_neg (by omega),if_neg (by omega),if_neg (by omega),if_neg (by omega),if_pos (by omega)]
 have rk:R7 k (k+5)=k+6:=by
  unfold R7
  rw [if_neg (by omega),if_neg (by omega),if_neg (by omega),if_neg (by omega),if_neg (by omega),if_neg (by omega),if_pos rfl]
 have rb:R7 k (k+6)=k+5:=by
  unfold R7
  rw [if_neg (by omega),if_neg (by omega),if_neg (by omega),if_neg (by omega),if_neg (by omega),if_neg (by omega),if_neg (by omega)]
 have lk:∀j,(b0T n k (V k) (A k) V G O fr f A bx)[k+j+5]? =([bx,flB (rF n (A k)),V5 (k+1) O,{ mode:=.live,elem:=259,size:=5,rows:=P5 5 k n V++[frC (fz (V k))++[C.own (k+6) 0 n true]],box:=false },a1h (fr++[f])]:Hp)[j]?:=fun j=>a1g (b7 _ _ _)
 have eV:aF3 k n (V k) V=V:=by funext i;unfold aF3;split<;>simp_all
 refine aO5 (by simp [b7]) (by omega) (fun i hi=>by omega) (fun i j hi hj h=>by have:=ac5 i hi;have:=ac5 j hj;omega) ?_ hE
 intro i k' hk
 rcases i with _|_|_|_|_|i
 ·injection hk with hk;subst hk
  exact ⟨_,rfl,rfl,rfl,rfl,.inr ⟨⟨rfl,⟨by rw [w9 (by omega),r1],rfl,rfl,fun h=>h⟩,⟨by rw [w9 (by omega)];rfl,rfl,rfl,fun h=>h⟩,⟨by rw [w9 (by omega),r3],rfl,rfl,fun h=>h⟩,rfl,⟨by rw [w9 (by omega),r4],rfl,rfl,fun h=>h⟩,trivial⟩,trivial⟩⟩
 ·injection hk with hk;subst hk
  refine ⟨_,lk 3,?_⟩
  rw [a8M,eV]
  refine a1n (h':=fun i=>i+5) fun j hj=>?_
  rw [w9 (by omega)]
  unfold hnd
  by_cases hjk:j=k
  ·subst hjk;rw [if_pos rfl,rk]
  ·rw [if_neg hjk,ra j (by omega)]
 ·injection hk with hk;subst hk;exact ⟨_,rfl,c9 (c7 _)⟩
 ·injection hk with hk;subst hk;exact ⟨_,lk 2,c9 (c7 _)⟩
 ·injection hk with hk;subst hk;exact ⟨_,lk 4,c9 (c7 _)⟩
 ·have hk:((mF (k+1) n A).map flB++[bx])[i]? =some k':=hk
  by_cases hi:i<k+1
  ·rw [I5 (N4 hi)] at hk
   injection hk with hk;subst hk
   by_cases hik:i=k
   ·subst hik;rw [rk];exact ⟨_,lk 1,c9 (c7 _)⟩
   ·rw [ra i (by omega)]
    exact ⟨_,I5 (N4 (by omega)),c9 (c7 _)⟩
  ·obtain ⟨t,rfl⟩:∃t,i=(k+1)+t:=⟨i - (k+1),by omega⟩
   rw [a1g (b7 _ _ _)] at hk
   rcases t with _|t
   ·injection hk with hk;subst hk
    rw [show k+1+0+5=k+6 by omega,rb]
    exact ⟨_,lk 0,c9 hbx⟩
   ·simp at hk
theorem b5A {b0 b1 b2 b3 b4 b5 c0 c1 c2 c3 c4 c5:Blk} {L L':Hp} (h0:b0=c0) (h1:b1=c1) (h2:b2=c2) (h3:b3=c3) (h4:b4=c4) (h5:b5=c5) (h6:L=L'):b0::b1::b2::b3::b4::b5::L=c0::c1::c2::c3::c4::c5::L':=a0r h0 h1 h2 h3 h4 h5 h6
theorem A7:∀{last n:Int} {l:List (Int × Rat)},f8 last n l=true->l.length=0∨(l.length:Int)<=n - last - 1
 |_,_,[],_=>.inl rfl
 |last,n,a::r,h=>by
  unfold f8 at h
  simp only [Bool.and_eq_true,decide_eq_true_eq] at h
  have ih:=A7 h.2
  have h1:=h.1.1.1
  have h2:=h.1.1.2
  right
  rw [List.length_cons]
  rcases ih with h0|h0
  ·rw [h0];omega
  ·omega
structure b6s (s:f7) (g:List (Int × Rat)) (n:Nat):Prop where
 r:i8 s=true
 tg:f8 (-1) n g=true
 en:s.n=n
 n1:n<=1000
 b:∀w ∈ s.rows,rl w.value<=60000∧∀t ∈ w.terms,rl t.2<=60000
 bg:∀t ∈ g,rl t.2<=60000
 l:s.rows.length<=4000
abbrev rbx (w:B1):Blk:={ mode:=.live,elem:=143,size:=6,rows:=[(w5 w).map C.t],box:=true }
theorem aC9 (w:B1):G4 (rbx w).rows:=c7 [w5 w]
def ad0 (s:f7):List T:=[ti s.n,M3 s.rows]
def pF1:Nat->Option Nat:=fun i=>if i=0 then some 1 else if i=2 then some 0 else none
theorem b02 {s:f7} {g:List (Int × Rat)} {k:Nat} {b:Bool} {i:Nat} {w:B1} (h:(e8 s).getD k (0,false)=(i,b)) (hw:s.rows[i]? =some w):Q8 b w.value=(g4 s g).V k:=by
 show _=a3g s ((e8 s).getD k (0,false))
 rw [h];unfold a3g;simp only [hw]
theorem aU9 {s:f7} {g:List (Int × Rat)} {k:Nat} {b:Bool} {i:Nat} {w:B1} (h:(e8 s).getD k (0,false)=(i,b)) (hw:s.rows[i]? =some w):sgF b w.terms=(g4 s g).A k:=by
 funext j
 show _=a1x s ((e8 s).getD k (0,false)) j
 rw [h];unfold a1x;simp only [hw];rfl
abbrev dF (m n j q:Nat):Blk:={ mode:=.live,elem:=256,size:=6,rows:=[[C.t (ti n),.own 1 0 m true,.own 2 0 n true,.own 3 0 m true,.own 4 0 j true,.own 5 0 q true]],box:=true }
abbrev b5j (m n j:Nat) (V G:Nat->Rat) (O:Nat->Nat) (fr:List (Nat × Bool)) (A:Nat->Nat->Rat) (X:Hp):Hp:=
 dF m n j fr.length::a0a 6 m n V::flB (rF n G)::V5 m O::V5 j (fun j=>j)::a1h fr::((mF m n A).map flB++X)
def fF1:Nat->Option Nat:=fun i=>if i=4 then none else if i<4 then some i else some (i - 1)
theorem b3b {m n:Nat} {V G:Nat->Rat} {O:Nat->Nat} {fr:List (Nat × Bool)} {A:Nat->Nat->Rat} {env env':Env} {H:Hp} (hm:fr.length=m) (hH:H=a5w n m V G O fr A []) (hE:a0c (gR (m+6) fF1) H env env'):
 Ent 0 (gR (m+6) fF1) env H env' (b5j m n 0 V G O fr A []):=by
 subst hH
 refine b3m (by simp [b7]) (fun i j x hi hj h1 h2=>by unfold fF1 at h1 h2;(repeat' split at h1)<;>(repeat' split at h2)<;>first|(cases h1;done)|(cases h2;done)|(injection h1 with h1;injection h2 with h2;omega)) ?_ hE
 intro i k' hk
 have fa:∀i,fF1 (i+6)=some (i+5):=fun i=>by unfold fF1;rw [if_neg (by omega),if_neg (by omega)];rfl
 rcases i with _|_|_|_|_|_|i
 ·injection hk with hk;subst hk
  exact .inr ⟨0,_,rfl,rfl,rfl,rfl,rfl,.inr ⟨⟨rfl,⟨by rw [a2V (by omega)];rfl,rfl,rfl,fun h=>h⟩,⟨by rw [a2V (by omega)];rfl,rfl,rfl,fun h=>h⟩,⟨by rw [a2V (by omega)];rfl,rfl,rfl,fun h=>h⟩,⟨by rw [a2V (by omega)];rfl,rfl,rfl⟩,⟨by rw [a2V (by omega)];rfl,rfl,hm.symm,fun h=>h⟩,trivial⟩,trivial⟩⟩
 ·injection hk with hk;subst hk
  refine .inr ⟨1,_,rfl,rfl,a1n (h:=fun i=>i+5) (h':=fun i=>i+6) fun j hj=>?_⟩
  rw [a2V (by omega),fa]
 ·injection hk with hk;subst hk;exact .inr ⟨2,_,rfl,rfl,c9 (c7 _)⟩
 ·injection hk with hk;subst hk;exact .inr ⟨3,_,rfl,rfl,c9 (c7 _)⟩
 ·injection hk with hk;subst hk;exact .inl ⟨rfl,rfl,rfl⟩
 ·injection hk with hk;subst hk;exact .inr ⟨4,_,rfl,rfl,c9 (c7 _)⟩
 ·have hk:((mF m n A).map flB++[])[i]? =some k':=hk
  have hi:i<m:=by have:=(lg1 hk).1;simpa [b7] using this
  rw [I5 (N4 hi)] at hk
  injection hk with hk;subst hk
  exact .inr ⟨i+5,_,fa i,I5 (N4 hi),c9 (c7 _)⟩
abbrev b9x (m n j:Nat) (V G:Nat->Rat) (O:Nat->Nat) (fr:List (Nat × Bool)) (A:Nat->Nat->Rat):Hp:=
 { mode:=.live,elem:=256,size:=6,rows:=[[C.t (ti n),.own 1 0 m true,.own 2 0 n true,.own 3 0 m true,.own (m+6) 0 (j+1) true,.own 5 0 fr.length true]],box:=true }::
   a0a 6 m n V::flB (rF n G)::V5 m O::a8V 3 1::a1h fr::((mF m n A).map flB++[V5 (j+1) (fun j=>j)])
def fF2 (m:Nat):Nat->Nat:=fun i=>if i=4 then m+6 else i
theorem b5N {m n j:Nat} {V G:Nat->Rat} {O:Nat->Nat} {fr:List (Nat × Bool)} {A:Nat->Nat->Rat} {env env':Env} {H:Hp} (hH:H=b9x m n j V G O fr A) (hE:a0c (fR (m+6) (fF2 m)) H env env'):
 Ent 0 (fR (m+6) (fF2 m)) env H env' (b5j m n (j+1) V G O fr A []):=by
 subst hH
 have fa:∀i,i≠4->fF2 m i=i:=fun i hi=>by unfold fF2;rw [if_neg hi]
 refine aO5 (by simp [b7]) (by omega) (fun i hi=>by omega) (fun i j hi hj h=>by unfold fF2 at h;(repeat' split at h)<;>omega) ?_ hE
 intro i k' hk
 rcases i with _|_|_|_|_|_|i
 ·injection hk with hk;subst hk
  exact ⟨_,rfl,rfl,rfl,rfl,.inr ⟨⟨rfl,⟨by rw [w9 (by omega)];rfl,rfl,rfl,fun h=>h⟩,⟨by rw [w9 (by omega)];rfl,rfl,rfl,fun h=>h⟩,⟨by rw [w9 (by omega)];rfl,rfl,rfl,fun h=>h⟩,⟨by rw [w9 (by omega)];rfl,rfl,rfl,fun h=>h⟩,⟨by rw [w9 (by omega)];rfl,rfl,rfl,fun h=>h⟩,trivial⟩,trivial⟩⟩
 ·injection hk with hk;subst hk
  refine ⟨_,rfl,a1n (h:=fun i=>i+6) (h':=fun i=>i+6) fun j hj=>?_⟩
  rw [w9 (by omega),fa _ (by omega)]
 ·injection hk with hk;subst hk;exact ⟨_,rfl,c9 (c7 _)⟩
 ·injection hk with hk;subst hk;exact ⟨_,rfl,c9 (c7 _)⟩
 ·injection hk with hk;subst hk
  refine ⟨_,a1g (t:=0) (b7 _ _ _),c9 (c7 _)⟩
 ·injection hk with hk;subst hk;exact ⟨_,rfl,c9 (c7 _)⟩
 ·have hk:((mF m n A).map flB++[])[i]? =some k':=hk
  have hi:i<m:=by have:=(lg1 hk).1;simpa [b7] using this
  rw [I5 (N4 hi)] at hk
  injection hk with hk;subst hk
  rw [fa _ (by omega)]
  exact ⟨_,I5 (N4 hi),c9 (c7 _)⟩
set_option maxHeartbeats 4000000 in
theorem aQ2 (s:f7) (g:List (Int × Rat)) (n:Nat) (h:b6s s g n):
 a9 Tryz.prog 199 [a2i s,n9 g] [] (.c (.ptr 0 0 0)) (X2 (e8 s).length n (e8 s) (g4 s g)):=by
 have m1:(s.rows.map w5).length=s.rows.length:=by simp
 have m2:(g.map i9).length=g.length:=by simp
 have z0:∀H:Hp,H.length=0->U1 Tryz.prog 254 [a7 .i64 s.n] H (.c (.own 0 0 n true)) [flB (rF n fun _=>0)]:=fun H hH=>by rw [h.en];exact a1m hH h.n1
 have hsl:=h.l
 have htg:=h.tg
 have hbg:=h.bg
 have hgl:=A7 htg
 have hn1:=h.n1
 have hen:=h.en
 have put0:∀(K i:Nat) (w:B1) (b:Bool) (F:List (Nat × Bool)) (bx:Blk),s.rows[i]? =some w->F.length=K->G4 bx.rows->K<=10000->i<=100000->
  a9 Tryz.prog 255 [.c (.ptr 0 0 0),a7 .i64 i,az2 w,f5 b] (a5w n K (g4 s g).V (fun _=>0) (fun i=>n+i) F (g4 s g).A [bx]) (.tup []) (b0T n K (Q8 b w.value) (sgF b w.terms) (g4 s g).V (fun _=>0) (fun i=>n+i) F (i,b) (g4 s g).A bx):=by
  intro K i w b F bx hw hF hbx hK hi
  have hn:=a0h h.r
  have hrw:=(W4 h.r hw).1
  rw [hn,h.en] at hrw
  have hl:=A7 hrw
  have hb:=h.b w (lg2 hw)
  exact b8v n K i w b _ _ F hF _ bx hbx h.n1 hK hi hrw (by have:=h.n1;omega) hb.2 hb.1
 (refine ac Tryz.func199 ?_;(conv=>whnf);repeat ((first|refine b0x ?_|refine zy ?_);conv=>whnf))
 repeat' (first|refine zz ?_|refine b0x ?_|refine .inl ⟨_,_,z0 _ rfl,?_⟩|refine zd ?_ ?_<;>intro h<;>try omega|refine zy ?_|fail)<;>conv=>whnf
 refine aE8 (fun i=>([J,n9 g,S.c (C.t (T.ptr (ad0 s))),J,J,S.c (C.ptr 0 0 0),J,J,J,J,J,J,J,J,J,J,J,J,J,S.c (C.t (M3 s.rows)),a7 .i64 s.rows.length,a7 .i64 i,J,J,J,J,J,J,J,J,J,J,J,J,J,J,J,J,J,J,J,J,J,J,J,J,J,J,J,J,J,J,J,J,J,J,J,J,J,J,J,J,J,J,J,J,J,J,J,J,J,J,J,J,J],a5w n (I0 s i).length (g4 s g).V (fun _=>0) (fun i=>n+i) (I0 s i) (g4 s g).A [])) s.rows.length (fun _=>True) (gR 5 pF1) trivial ?_ ?_
 ·refine b3m rfl (fun i j x hi hj h1 h2=>by unfold pF1 at h1 h2;(repeat' split at h1)<;>(repeat' split at h2)<;>first|(cases h1;done)|(cases h2;done)|(injection h1 with h1;injection h2 with h2;omega)) ?_ ?_
  ·intro i k' hk
   rcases i with _|_|_|_|_|i
   ·injection hk with hk;subst hk
    exact .inr ⟨1,_,rfl,rfl,rfl,rfl,rfl,.inr ⟨⟨a8k (by rw [h.en]),⟨rfl,rfl,rfl⟩,⟨rfl,rfl,rfl,fun h=>h⟩,⟨rfl,rfl,rfl⟩,rfl,⟨rfl,rfl,rfl⟩,trivial⟩,trivial⟩⟩
   ·injection hk with hk;subst hk;exact .inl ⟨rfl,rfl,rfl⟩
   ·injection hk with hk;subst hk;exact .inr ⟨0,_,rfl,rfl,c9 (c7 _)⟩
   ·injection hk with hk;subst hk;exact .inl ⟨rfl,rfl,rfl⟩
   ·injection hk with hk;subst hk;exact .inl ⟨rfl,rfl,rfl⟩
   ·simp [mF,I0] at hk
  ·exact ⟨rfl,g9 rfl,⟨rfl,rfl,rfl⟩,g9 rfl,c6 (by omega),c6 rfl,trivial⟩
 intro i hi _
 refine N7 c8 ?_
 conv=>whnf
 repeat' (first|refine zz ?_|refine j0 ?_|refine zd ?_ ?_<;>intro h<;>try omega|refine zy ?_|fail)<;>conv=>whnf
 ·have hlt:i<s.rows.length:=by omega
  obtain ⟨w,hw⟩:∃w,s.rows[i]? =some w:=⟨_,lg0 hlt⟩
  obtain ⟨K,hK⟩:∃K,K=(I0 s i).length:=⟨_,rfl⟩
  rw [← hK]
  obtain ⟨K1,hK1⟩:∃K1,K1=(I0 s i++if w.kind≠0 then [(i,false)] else []).length:=⟨_,rfl⟩
  obtain ⟨F1,hF1⟩:∃F1,F1=(I0 s i++if w.kind≠0 then [(i,false)] else []):=⟨_,rfl⟩
  have hKb:K<=10000:=by have:=a4p (s:=s) i;omega
  refine N7 c8 ?_
  conv=>whnf
  refine a9v (a9r ?_)
  refine N7 c8 ?_
  conv=>whnf
  repeat' (first|refine zz ?_|refine b8 hw ?_|refine j2 (b7 _ _ _) ?_|refine j0 ?_|refine g6 (t:=0) (b7 _ _ _) ?_|refine g8 (t:=0) (b7 _ _ _) ?_|refine zd ?_ ?_<;>intro h<;>try omega|refine zy ?_|fail)<;>conv=>whnf
  refine a1F c8 ([J,n9 g,S.c (C.t (T.ptr (ad0 s))),J,J,S.c (C.ptr 0 0 0),a7 .i64 i,S.c (C.ptr (K1+5) 0 0),J,J,J,J,J,J,J,J,J,J,J,S.c (C.t (M3 s.rows)),a7 .i64 s.rows.length,a7 .i64 i,J,J,J,J,J,J,J,J,J,J,J,J,J,J,J,J,J,J,J,J,J,J,J,J,J,J,J,J,J,J,J,J,J,J,J,J,J,J,J,J,J,J,J,J,J,J,J,J,J,J,J,J,J]) (a5w n K1 (g4 s g).V (fun _=>0) (fun i=>n+i) F1 (g4 s g).A [rbx w]) ?_ ?_
  ·by_cases hk:w.kind=0
   ·have e1:F1=I0 s i:=by rw [hF1,if_neg (by simp [hk]),List.append_nil]
    have e2:K1=K:=by rw [hK1,if_neg (by simp [hk]),List.append_nil,hK]
    subst e1 e2
    conv=>whnf
    repeat' (first|refine zz ?_|refine j2 (b7 _ _ _) ?_|refine j0 ?_|refine g6 (t:=0) (b7 _ _ _) ?_|refine g8 (t:=0) (b7 _ _ _) ?_|refine zd ?_ ?_<;>intro h<;>try omega|refine zy ?_|fail)<;>conv=>whnf
    all_goals first
     |omega
     |exact ⟨idR (K1+6),V8 (X:=[rbx w]) (X':=[]) (a0Z rfl rfl rfl rfl rfl rfl) rfl (Nat.zero_le _) (by intro b hb;simp at hb;subst hb;exact a3G (aC9 w)) ⟨rfl,rfl,⟨l9 (by omega),rfl,rfl⟩,rfl,⟨l9 (by omega),rfl,rfl⟩,rfl,rfl,rfl,trivial⟩⟩
   ·have e1:F1=I0 s i++[(i,false)]:=by rw [hF1,if_pos hk]
    have e2:K1=K+1:=by rw [hK1,if_pos hk,List.length_append,←hK];rfl
    have hg:(e8 s).getD K (0,false)=(i,false):=by
     refine ag0 (i:=i+1) (by omega) ?_
     rw [a9S hw,if_pos hk,List.append_assoc,List.getElem?_append_right (by omega),hK];simp
    subst e1 e2
    have pu:=put0 K i w false (I0 s i) (rbx w) hw hK.symm (aC9 w) hKb (by omega)
    conv=>whnf
    repeat' (first|refine zz ?_|refine .inr ⟨_,_,pu,?_⟩|refine j2 (b7 _ _ _) ?_|refine j0 ?_|refine g6 (t:=0) (b7 _ _ _) ?_|refine g8 (t:=0) (b7 _ _ _) ?_|refine zd ?_ ?_<;>intro h<;>try omega|refine zy ?_|fail)<;>conv=>whnf
    all_goals first
     |omega
     |exact ⟨_,aV8 (aC9 w) (b02 hg hw) (aU9 hg hw) ⟨rfl,rfl,⟨by rw [w9 (by omega)];rfl,rfl,rfl⟩,rfl,⟨by rw [w9 (by omega),b4z],rfl,rfl⟩,rfl,rfl,rfl,trivial⟩⟩
  ·have hl1:F1.length=K1:=by rw [hF1,hK1]
   have eF:I0 s (i+1)=F1++if w.kind≠1 then [(i,true)] else []:=by rw [a9S hw,hF1]
   have hK1b:K1<=10000:=by
    have:=a4p (s:=s) i
    rw [hK1,List.length_append]
    split<;>simp<;>omega
   by_cases hk:w.kind=1
   ·have e1:I0 s (i+1)=F1:=by rw [eF,if_neg (by simp [hk]),List.append_nil]
    refine w8 c8 _ ?_
    conv=>whnf
    repeat' (first|refine zz ?_|refine j2 (b7 _ _ _) ?_|refine j0 ?_|refine g6 (t:=0) (b7 _ _ _) ?_|refine g8 (t:=0) (b7 _ _ _) ?_|refine zd ?_ ?_<;>intro h<;>try omega|refine zy ?_|fail)<;>conv=>whnf
    all_goals try omega
    refine w8 c8 _ ?_
    conv=>whnf
    repeat' (first|refine zz ?_|refine j2 (b7 _ _ _) ?_|refine j0 ?_|refine g6 (t:=0) (b7 _ _ _) ?_|refine g8 (t:=0) (b7 _ _ _) ?_|refine zd ?_ ?_<;>intro h<;>try omega|refine zy ?_|fail)<;>conv=>whnf
    refine ⟨hlt,trivial,idR (K1+5),?_⟩
    rw [e1,hl1]
    exact V8 (X:=[]) (X':=[rbx w]) (a0Z rfl rfl rfl rfl rfl rfl) rfl (Nat.zero_le _) (by simp) ⟨rfl,rfl,⟨l9 (by omega),rfl,rfl⟩,rfl,rfl,c6 (by omega),trivial⟩
   ·have e1:I0 s (i+1)=F1++[(i,true)]:=by rw [eF,if_pos hk]
    have hg:(e8 s).getD K1 (0,false)=(i,true):=by
     refine ag0 (i:=i+1) (by omega) ?_
     rw [e1,List.getElem?_append_right (by omega),hl1];simp
    have pu:=put0 K1 i w true F1 (rbx w) hw hl1 (aC9 w) hK1b (by omega)
    refine w8 c8 _ ?_
    conv=>whnf
    repeat' (first|refine zz ?_|refine .inr ⟨_,_,pu,?_⟩|refine j2 (b7 _ _ _) ?_|refine j0 ?_|refine g6 (t:=0) (b7 _ _ _) ?_|refine g8 (t:=0) (b7 _ _ _) ?_|refine zd ?_ ?_<;>intro h<;>try omega|refine zy ?_|fail)<;>conv=>whnf
    all_goals try omega
    refine b56 (env':=[J,n9 g,S.c (C.t (T.ptr (ad0 s))),J,J,S.c (C.ptr 0 0 0),J,J,J,J,J,J,J,J,J,J,J,J,J,S.c (C.t (M3 s.rows)),a7 .i64 s.rows.length,a7 .i64 i,J,J,J,J,J,J,J,J,J,J,J,J,J,J,J,J,J,J,J,J,J,J,J,J,J,J,J,J,J,J,J,J,J,J,J,J,J,J,J,J,J,J,J,J,J,J,J,J,J,J,J,J,J]) _ (aV8 (aC9 w) (b02 hg hw) (aU9 hg hw) ⟨rfl,rfl,⟨by rw [w9 (by omega)];rfl,rfl,rfl⟩,rfl,rfl,rfl,trivial⟩) ?_
    refine w8 c8 _ ?_
    conv=>whnf
    repeat' (first|refine zz ?_|refine j2 (b7 _ _ _) ?_|refine j0 ?_|refine g6 (t:=0) (b7 _ _ _) ?_|refine g8 (t:=0) (b7 _ _ _) ?_|refine zd ?_ ?_<;>intro h<;>try omega|refine zy ?_|fail)<;>conv=>whnf
    refine ⟨hlt,trivial,idR (K1+1+5),?_⟩
    rw [e1,show (F1++[(i,true)]).length=K1+1 by simp [hl1]]
    exact V8 (X:=[]) (X':=[rbx w]) (a0Z rfl rfl rfl rfl rfl rfl) rfl (Nat.zero_le _) (by simp) ⟨rfl,rfl,⟨l9 (by omega),rfl,rfl⟩,rfl,rfl,c6 (by omega),trivial⟩
 ·have hie:i=s.rows.length:=by omega
  subst hie
  refine w8 c8 _ ?_
  conv=>whnf
  repeat' (first|refine zz ?_|refine j2 (b7 _ _ _) ?_|refine j0 ?_|refine g6 (t:=0) (b7 _ _ _) ?_|refine g8 (t:=0) (b7 _ _ _) ?_|refine zd ?_ ?_<;>intro h<;>try omega|refine zy ?_|fail)<;>conv=>whnf
  all_goals try omega
  refine d6 c8 (fun q=>([J,J,S.c (C.t (T.ptr (ad0 s))),J,J,S.c (C.ptr 0 0 0),J,J,J,J,J,J,J,J,J,J,J,J,J,J,J,J,J,J,J,J,J,J,J,J,J,J,J,J,J,J,J,J,J,J,J,n9 g,a7 .i64 g.length,a7 .i64 q,J,J,J,J,J,J,J,J,J,J,J,J,J,J,J,J,J,J,J,J,J,J,J,J,J,J,J,J,J,J,J],a5w n (e8 s).length (g4 s g).V (fun j=>-(I9 g q j)) (fun i=>n+i) (e8 s) (g4 s g).A [])) g.length (fun _=>True) (idR ((e8 s).length+5)) trivial ?_ ?_
  ·refine V8 (X:=[]) (X':=[]) (a0Z rfl rfl ?_ rfl rfl rfl) rfl (Nat.zero_le _) (by simp) ⟨g9 rfl,⟨l9 (by omega),rfl,rfl⟩,g9 rfl,c6 (by omega),c6 rfl,trivial⟩
   rw [u4 (g:=fun _=>0) (h:=fun j=>-(I9 g 0 j)) fun j hj=>by show (0:Rat)=-0;decide]
  intro q hq _
  by_cases hlt:q<g.length
  ·obtain ⟨t,ht⟩:∃t,g[q]? =some t:=⟨_,lg0 hlt⟩
   obtain ⟨t0,t1,t2⟩:=C2 htg t (lg2 ht)
   have nt:=a2O t.2 (hbg t (lg2 ht))
   have gp:(rF n (fun j=>-(I9 g q j)))[0+t.1.toNat]? =some (fz (-(I9 g q t.1.toNat))):=by rw [Nat.zero_add,B9 (by omega)]
   have eV:0+t.1.toNat=t.1.toNat:=by omega
   have e:s8 (flB (rF n (fun j=>-(I9 g q j)))) ((flB (rF n (fun j=>-(I9 g q j)))).rows.set (0+t.1.toNat) (frC (fz (-t.2))))=flB (rF n (fun j=>-(I9 g (q+1) j))):=by
    have e1:=F0 (row:=rF n (fun j=>-(I9 g q j))) (y:=fz (-t.2)) eV
    rw [L2 (by omega)] at e1
    refine e1.trans ?_
    rw [G9 ht]
    refine congrArg flB ?_
    exact u4 fun j hj=>by show (if j=t.1.toNat then -t.2 else -(I9 g q j))=-(if j=t.1.toNat then t.2 else I9 g q j);split<;>rfl
   conv=>whnf
   repeat' (first|refine zz ?_|refine qp nt ?_|refine b8 ht ?_|refine j6 gp ?_|refine j2 (b7 _ _ _) ?_|refine j0 ?_|refine g6 (t:=0) (b7 _ _ _) ?_|refine g8 (t:=0) (b7 _ _ _) ?_|refine zd ?_ ?_<;>intro h<;>try omega|refine zy ?_|fail)<;>conv=>whnf
   all_goals first
    |omega
    |exact ⟨hlt,trivial,idR ((e8 s).length+5),V8 (X:=[]) (X':=[_]) (a0Z rfl rfl e rfl rfl rfl) rfl (Nat.zero_le _) (by simp) ⟨rfl,⟨l9 (by omega),rfl,rfl⟩,rfl,rfl,c6 (by omega),trivial⟩⟩
  ·have hqe:q=g.length:=by omega
   subst hqe
   conv=>whnf
   repeat' (first|refine zz ?_|refine j2 (b7 _ _ _) ?_|refine j0 ?_|refine g6 (t:=0) (b7 _ _ _) ?_|refine g8 (t:=0) (b7 _ _ _) ?_|refine zd ?_ ?_<;>intro h<;>try omega|refine zy ?_|fail)<;>conv=>whnf
   all_goals try omega
   refine d6 c8 (fun q=>([J,J,J,J,J,S.c (C.ptr 0 0 0),J,J,J,J,J,J,J,J,J,J,J,J,J,J,J,J,J,J,J,J,J,J,J,J,J,J,J,J,J,J,J,J,J,J,J,J,J,J,J,J,J,J,J,J,J,J,J,J,J,J,J,J,J,a7 .i64 n,a7 .i64 q,J,J,J,J,J,J,J,J,J,J,J,J,J,J],b5j (e8 s).length n q (g4 s g).V (g4 s g).G (fun i=>n+i) (e8 s) (g4 s g).A [])) n (fun _=>True) (gR ((e8 s).length+6) fF1) trivial ?_ ?_
   ·exact b3b rfl rfl ⟨⟨by rw [a2V (by omega)];rfl,rfl,rfl⟩,c6 hen,c6 rfl,trivial⟩
   intro q hq _
   by_cases hlt:q<n
   ·conv=>whnf
    repeat' (first|refine zz ?_|refine qp (toC,u7) ?_|refine qp (toC,u7) ?_|refine qp 0 ?_|refine o7 (by simp [toC,u7]) (by simp [toC,u7];omega) ?_|refine bl0 [0] ?_|refine j2 (b7 _ _ _) ?_|refine j0 ?_|refine g6 (t:=0) (b7 _ _ _) ?_|refine g8 (t:=0) (b7 _ _ _) ?_|refine zd ?_ ?_<;>intro h<;>try omega|refine zy ?_|fail)<;>conv=>whnf
    all_goals first
     |omega
     |(refine ⟨hlt,trivial,fR ((e8 s).length+6) (fF2 (e8 s).length),b5N (b5A rfl rfl rfl rfl rfl rfl (congrArg (fun z=>(mF (e8 s).length n (g4 s g).A).map flB++[z]) ?_)) ⟨⟨by rw [w9 (by omega)];rfl,rfl,rfl⟩,rfl,c6 (by omega),trivial⟩⟩
       exact congrArg (fun z=>({ mode:=.live,elem:=3,size:=1,rows:=z,box:=false }:Blk)) (a7t (O:=fun j=>j) (x:=(q:Int)) rfl))
   ·have hqe:q=n:=by omega
    subst hqe
    conv=>whnf
    repeat' (first|refine zz ?_|refine j2 (b7 _ _ _) ?_|refine j0 ?_|refine g6 (t:=0) (b7 _ _ _) ?_|refine g8 (t:=0) (b7 _ _ _) ?_|refine zd ?_ ?_<;>intro h<;>try omega|refine zy ?_|fail)<;>conv=>whnf
    all_goals try omega
    refine aj3 (n:=(e8 s).length+6) a2a (Nat.zero_le _) a66 (fun i _=>?_) ⟨l9 (by omega),rfl,rfl⟩
    have e0:X2 (e8 s).length q (e8 s) (g4 s g)=b5j (e8 s).length q q (g4 s g).V (g4 s g).G (fun i=>q+i) (e8 s) (g4 s g).A []:=by
     have eO:(g4 s g).O=fun i=>q+i:=by funext i;show s.n.toNat+i=_;rw [hen];rfl
     show _::_::_::V5 _ (g4 s g).O::_::_::_=_::_::_::_::_::_::(_++[])
     rw [List.append_nil,eO];rfl
    rw [e0]
def ptK (n:Nat) (O:Nat->Nat) (v x0:Nat->Rat):Nat->Nat->Rat
 |0=>x0
 |k+1=>fun j=>if O k<n∧j=O k then v k else ptK n O v x0 k j
theorem P3 {n:Nat} {O:Nat->Nat} {v x0:Nat->Rat} {k:Nat}:ptK n O v x0 (k+1)=fun j=>if O k<n∧j=O k then v k else ptK n O v x0 k j:=rfl
theorem aa4 {n:Nat} {O:Nat->Nat} {v x0:Nat->Rat} {j:Nat}:∀{k:Nat},(∀ i,i<k->O i≠j)->ptK n O v x0 k j=x0 j
 |0,_=>rfl
 |k+1,h=>by rw [P3];simp only;rw [if_neg (fun e=>h k (by omega) e.2.symm),aa4 fun i hi=>h i (by omega)]
theorem a8U {n:Nat} {O:Nat->Nat} {v x0:Nat->Rat} {i:Nat}:∀{k:Nat},i<k->O i<n->(∀ a,a<k->O a=O i->a=i)->ptK n O v x0 k (O i)=v i
 |0,h,_,_=>by omega
 |k+1,h,hn,hu=>by
  rw [P3];simp only
  by_cases he:O k=O i
  ·have:=hu k (by omega) he
   subst this
   rw [if_pos ⟨hn,rfl⟩]
  ·rw [if_neg (fun e=>he e.2.symm)]
   have:i≠k:=fun e=>he (by rw [e])
   exact a8U (by omega) hn fun a ha=>hu a (by omega)
theorem aU0 {m n:Nat} {D:Fd} (hP:X8 m n D) {j:Nat} (hj:j<n):ptK n D.O D.V (fun _=>0) m j=X7 m n D 1 (fun _=>0) j:=by
 rcases hP.all j (by omega) with ⟨i,hi,rfl⟩|⟨q,hq,rfl⟩
 ·rw [a8U hi hj fun a ha he=>hP.oi a i ha hi he,a51 hP hi,s6 fun j _=>by grind];grind
 ·rw [aa4 fun i hi=>hP.of i q hi hq,Y0 hP hq]
theorem aV9 {m n c:Nat} {D:Fd} (hP:X8 m n D) (hc:c<n) {j:Nat} (hj:j<n):ptK n D.O (fun i=>-(D.A i c)) (fun j=>if D.F c<n∧j=D.F c then 1 else 0) m j=X7 m n D 0 (fun q=>if q=c then 1 else 0) j:=by
 rcases hP.all j (by omega) with ⟨i,hi,rfl⟩|⟨q,hq,rfl⟩
 ·rw [a8U hi hj fun a ha he=>hP.oi a i ha hi he,a51 hP hi,f6 (g:=fun q=>(if c=q then (1:Rat) else 0)*D.A i q) fun q _=>by
   by_cases h:q=c
   ·subst h;simp only [if_true];grind
   ·rw [if_neg h,if_neg (fun e=>h e.symm)];grind,a3P hc]
  grind
 ·rw [aa4 fun i hi=>hP.of i q hi hq,Y0 hP hq]
  by_cases h:q=c
  ·subst h;rw [if_pos rfl,if_pos ⟨hj,rfl⟩]
  ·rw [if_neg h,if_neg (fun e=>h (hP.fi q c hq hc e.2))]
theorem aO8 (n:Nat) (y:Nat->Rat):(zOf n y).map fz=rF n y:=by unfold zOf rF;rw [List.map_map];rfl
abbrev dT (m n:Nat) (fr:List (Nat × Bool)) (D:Fd):S:=.c (.t (.ptr (b69 m n fr D)))
set_option maxHeartbeats 2000000 in
theorem b35 (m n:Nat) (fr:List (Nat × Bool)) (D:Fd) (hP:X8 m n D) (hm:m<=100000) (hn:n<=1000):a9 Tryz.prog 201 [dT m n fr D] [] (j8 ((zOf n (X7 m n D 1 (fun _=>0))).map fz)) []:=by
 have m1:(a0u m D.O).length=m:=u7 _ _
 have z0:∀H:Hp,H.length=0->U1 Tryz.prog 254 [a7 .i64 n] H (.c (.own 0 0 n true)) [flB (rF n fun _=>0)]:=fun H hH=>a1m hH hn
 rw [aO8,←u4 (g:=ptK n D.O D.V (fun _=>0) m) fun j hj=>aU0 hP hj]
 (refine ac Tryz.func201 ?_;(conv=>whnf);repeat ((first|refine b0x ?_|refine zy ?_);conv=>whnf))
 repeat' (first|refine zz ?_|refine .inl ⟨_,_,z0 _ rfl,?_⟩|refine zd ?_ ?_<;>intro h<;>try omega|refine zy ?_|fail)<;>conv=>whnf
 refine d6 c8 (fun k=>([dT m n fr D,J,J,S.c (C.own 0 0 n true),J,J,J,J,J,J,J,J,J,J,a7q m D.O,a7 .i64 m,a7 .i64 k,J,J,J,J,J,J,J,J,J,J,J,J,J,J,J,J,J,J,J,J,J,J,J],[flB (rF n (ptK n D.O D.V (fun _=>0) k))])) m (fun _=>True) [some 0] trivial
  ⟨rfl,rfl,⟨c9 (c7 _),trivial⟩,⟨g9 rfl,⟨rfl,rfl,rfl,fun h=>h⟩,g9 rfl,c6 (by omega),c6 rfl,trivial⟩⟩ ?_
 intro k hk _
 by_cases hlt:k<m
 ·by_cases ho:D.O k<n
  ·have gp:(rF n (ptK n D.O D.V (fun _=>0) k))[0+((D.O k:Nat):Int).toNat]? =some (fz (ptK n D.O D.V (fun _=>0) k (D.O k))):=by rw [show 0+((D.O k:Nat):Int).toNat=D.O k by omega,B9 ho]
   have e:s8 (flB (rF n (ptK n D.O D.V (fun _=>0) k))) ((flB (rF n (ptK n D.O D.V (fun _=>0) k))).rows.set (0+((D.O k:Nat):Int).toNat) (frC (fz (D.V k))))=flB (rF n (ptK n D.O D.V (fun _=>0) (k+1))):=by
    rw [F0 (show 0+((D.O k:Nat):Int).toNat=D.O k by omega),L2 ho,P3]
    refine congrArg flB (u4 fun j hj=>?_)
    simp only [ho,true_and]
   conv=>whnf
   repeat' (first|refine zz ?_|refine J5 rfl hlt ?_|refine a25 rfl hlt ?_|refine j6 gp ?_|refine zd ?_ ?_<;>intro h<;>try omega|refine zy ?_|fail)<;>conv=>whnf
   all_goals first
    |omega
    |exact ⟨hlt,trivial,[some 0],rfl,rfl,⟨⟨rfl,rfl,rfl,.inl ⟨congrArg Blk.rows e,(congrArg Blk.rows e) ▸ c7 _⟩⟩,trivial⟩,⟨rfl,⟨rfl,rfl,rfl,fun h=>h⟩,rfl,rfl,c6 (by omega),trivial⟩⟩
  ·have e:ptK n D.O D.V (fun _=>0) (k+1)=ptK n D.O D.V (fun _=>0) k:=by rw [P3];funext j;rw [if_neg (fun h=>ho h.1)]
   conv=>whnf
   repeat' (first|refine zz ?_|refine J5 rfl hlt ?_|refine zd ?_ ?_<;>intro h<;>try omega|refine zy ?_|fail)<;>conv=>whnf
   all_goals first
    |omega
    |exact ⟨hlt,trivial,[some 0],rfl,rfl,⟨a8 (rows:=(rF n (ptK n D.O D.V (fun _=>0) k)).map j5) rfl rfl rfl rfl (by rw [e]),trivial⟩,⟨rfl,⟨rfl,rfl,rfl,fun h=>h⟩,rfl,rfl,c6 (by omega),trivial⟩⟩
 ·have hke:k=m:=by omega
  subst hke
  conv=>whnf
  repeat' (first|refine zz ?_|refine zd ?_ ?_<;>intro h<;>try omega|refine zy ?_|fail)<;>conv=>whnf
  all_goals first
   |omega
   |exact Q3 rfl (fun h=>h) rfl rfl (by simp [L9])
set_option maxHeartbeats 2000000 in
theorem b7z (m n:Nat) (fr:List (Nat × Bool)) (D:Fd) (c:Nat) (hc:c<n) (hP:X8 m n D) (hm:m<=100000) (hn:n<=1000) (hB:∀i,i<m->rl (D.A i c)<=60000):
 a9 Tryz.prog 202 [dT m n fr D,a7 .i64 c] [] (j8 ((zOf n (X7 m n D 0 (fun q=>if q=c then 1 else 0))).map fz)) []:=by
 have m1:(a0u m D.O).length=m:=u7 _ _
 have z0:∀H:Hp,H.length=0->U1 Tryz.prog 254 [a7 .i64 n] H (.c (.own 0 0 n true)) [flB (rF n fun _=>0)]:=fun H hH=>a1m hH hn
 have i1:=G7 1 (by decide) (by decide)
 obtain ⟨x0,hx0⟩:∃x0:Nat->Rat,x0=fun j=>if D.F c<n∧j=D.F c then 1 else 0:=⟨_,rfl⟩
 rw [aO8,←u4 (g:=ptK n D.O (fun i=>-(D.A i c)) x0 m) fun j hj=>by rw [hx0];exact aV9 hP hc hj]
 by_cases hf:D.F c<n
 ·have gp0:(rF n (fun _=>(0:Rat)))[0+((D.F c:Nat):Int).toNat]? =some (fz 0):=by rw [show 0+((D.F c:Nat):Int).toNat=D.F c by omega,B9 hf]
  have e0:s8 (flB (rF n (fun _=>(0:Rat)))) ((flB (rF n (fun _=>(0:Rat)))).rows.set (0+((D.F c:Nat):Int).toNat) (frC (fz ((1:Int):Rat))))=flB (rF n x0):=by
   rw [F0 (show 0+((D.F c:Nat):Int).toNat=D.F c by omega),L2 hf,hx0]
   refine congrArg flB (u4 fun j hj=>?_)
   simp only [hf,true_and];rfl
  (refine ac Tryz.func202 ?_;(conv=>whnf);repeat ((first|refine b0x ?_|refine zy ?_);conv=>whnf))
  repeat' (first|refine zz ?_|refine qp i1 ?_|refine .inl ⟨_,_,z0 _ rfl,?_⟩|refine J5 rfl hc ?_|refine j6 gp0 ?_|refine zd ?_ ?_<;>intro h<;>try omega|refine zy ?_|fail)<;>conv=>whnf
  all_goals try omega
  refine d6 c8 (fun k=>([dT m n fr D,a7 .i64 c,J,J,J,S.c (C.own 0 0 n true),J,J,J,J,J,J,J,J,J,J,J,J,J,J,J,J,J,J,J,J,J,J,J,J,J,J,J,J,a7q m D.O,a7 .i64 m,a7 .i64 k,J,J,J,J,J,J,J,J,J,J,J,J,J,J,J,J,J,J,J,J,J,J,J,J,J,J,J],[flB (rF n (ptK n D.O (fun i=>-(D.A i c)) x0 k))])) m (fun _=>True) [some 0] trivial
   ⟨rfl,rfl,⟨⟨rfl,rfl,rfl,.inl ⟨congrArg Blk.rows e0,(congrArg Blk.rows e0) ▸ c7 _⟩⟩,trivial⟩,⟨g9 rfl,c6 rfl,⟨rfl,rfl,rfl,fun h=>h⟩,g9 rfl,c6 (by omega),c6 rfl,trivial⟩⟩ ?_
  intro k hk _
  by_cases hlt:k<m
  ·have ng:=a2O (D.A k c) (hB k hlt)
   by_cases ho:D.O k<n
   ·have gp:(rF n (ptK n D.O (fun i=>-(D.A i c)) x0 k))[0+((D.O k:Nat):Int).toNat]? =some (fz (ptK n D.O (fun i=>-(D.A i c)) x0 k (D.O k))):=by rw [show 0+((D.O k:Nat):Int).toNat=D.O k by omega,B9 ho]
    have e:s8 (flB (rF n (ptK n D.O (fun i=>-(D.A i c)) x0 k))) ((flB (rF n (ptK n D.O (fun i=>-(D.A i c)) x0 k))).rows.set (0+((D.O k:Nat):Int).toNat) (frC (fz (-(D.A k c)))))=flB (rF n (ptK n D.O (fun i=>-(D.A i c)) x0 (k+1))):=by
     rw [F0 (show 0+((D.O k:Nat):Int).toNat=D.O k by omega),L2 ho,P3]
     refine congrArg flB (u4 fun j hj=>?_)
     simp only [ho,true_and]
    conv=>whnf
    repeat' (first|refine zz ?_|refine qp ng ?_|refine J5 rfl hlt ?_|refine a25 rfl hlt ?_|refine a49 rfl hc ?_|refine j6 gp ?_|refine zd ?_ ?_<;>intro h<;>try omega|refine zy ?_|fail)<;>conv=>whnf
    all_goals first
     |omega
     |exact ⟨hlt,trivial,[some 0],rfl,rfl,⟨⟨rfl,rfl,rfl,.inl ⟨congrArg Blk.rows e,(congrArg Blk.rows e) ▸ c7 _⟩⟩,trivial⟩,⟨rfl,rfl,⟨rfl,rfl,rfl,fun h=>h⟩,rfl,rfl,c6 (by omega),trivial⟩⟩
   ·have e:ptK n D.O (fun i=>-(D.A i c)) x0 (k+1)=ptK n D.O (fun i=>-(D.A i c)) x0 k:=by rw [P3];funext j;rw [if_neg (fun h=>ho h.1)]
    conv=>whnf
    repeat' (first|refine zz ?_|refine J5 rfl hlt ?_|refine zd ?_ ?_<;>intro h<;>try omega|refine zy ?_|fail)<;>conv=>whnf
    all_goals first
     |omega
     |exact ⟨hlt,trivial,[some 0],rfl,rfl,⟨a8 (rows:=(rF n (ptK n D.O (fun i=>-(D.A i c)) x0 k)).map j5) rfl rfl rfl rfl (by rw [e]),trivial⟩,⟨rfl,rfl,⟨rfl,rfl,rfl,fun h=>h⟩,rfl,rfl,c6 (by omega),trivial⟩⟩
  ·have hke:k=m:=by omega
   subst hke
   conv=>whnf
   repeat' (first|refine zz ?_|refine zd ?_ ?_<;>intro h<;>try omega|refine zy ?_|fail)<;>conv=>whnf
   all_goals first
    |omega
    |exact Q3 rfl (fun h=>h) rfl rfl (by simp [L9])
 ·have e0:x0=fun _=>0:=by rw [hx0];funext j;rw [if_neg (fun h=>hf h.1)]
  (refine ac Tryz.func202 ?_;(conv=>whnf);repeat ((first|refine b0x ?_|refine zy ?_);conv=>whnf))
  repeat' (first|refine zz ?_|refine qp i1 ?_|refine .inl ⟨_,_,z0 _ rfl,?_⟩|refine J5 rfl hc ?_|refine zd ?_ ?_<;>intro h<;>try omega|refine zy ?_|fail)<;>conv=>whnf
  all_goals try omega
  refine d6 c8 (fun k=>([dT m n fr D,a7 .i64 c,J,J,J,S.c (C.own 0 0 n true),J,J,J,J,J,J,J,J,J,J,J,J,J,J,J,J,J,J,J,J,J,J,J,J,J,J,J,J,a7q m D.O,a7 .i64 m,a7 .i64 k,J,J,J,J,J,J,J,J,J,J,J,J,J,J,J,J,J,J,J,J,J,J,J,J,J,J,J],[flB (rF n (ptK n D.O (fun i=>-(D.A i c)) x0 k))])) m (fun _=>True) [some 0] trivial
   ⟨rfl,rfl,⟨a8 (rows:=(rF n (fun _=>0)).map j5) rfl rfl rfl rfl (by rw [e0];rfl),trivial⟩,⟨g9 rfl,c6 rfl,⟨rfl,rfl,rfl,fun h=>h⟩,g9 rfl,c6 (by omega),c6 rfl,trivial⟩⟩ ?_
  intro k hk _
  by_cases hlt:k<m
  ·have ng:=a2O (D.A k c) (hB k hlt)
   by_cases ho:D.O k<n
   ·have gp:(rF n (ptK n D.O (fun i=>-(D.A i c)) x0 k))[0+((D.O k:Nat):Int).toNat]? =some (fz (ptK n D.O (fun i=>-(D.A i c)) x0 k (D.O k))):=by rw [show 0+((D.O k:Nat):Int).toNat=D.O k by omega,B9 ho]
    have e:s8 (flB (rF n (ptK n D.O (fun i=>-(D.A i c)) x0 k))) ((flB (rF n (ptK n D.O (fun i=>-(D.A i c)) x0 k))).rows.set (0+((D.O k:Nat):Int).toNat) (frC (fz (-(D.A k c)))))=flB (rF n (ptK n D.O (fun i=>-(D.A i c)) x0 (k+1))):=by
     rw [F0 (show 0+((D.O k:Nat):Int).toNat=D.O k by omega),L2 ho,P3]
     refine congrArg flB (u4 fun j hj=>?_)
     simp only [ho,true_and]
    conv=>whnf
    repeat' (first|refine zz ?_|refine qp ng ?_|refine J5 rfl hlt ?_|refine a25 rfl hlt ?_|refine a49 rfl hc ?_|refine j6 gp ?_|refine zd ?_ ?_<;>intro h<;>try omega|refine zy ?_|fail)<;>conv=>whnf
    all_goals first
     |omega
     |exact ⟨hlt,trivial,[some 0],rfl,rfl,⟨⟨rfl,rfl,rfl,.inl ⟨congrArg Blk.rows e,(congrArg Blk.rows e) ▸ c7 _⟩⟩,trivial⟩,⟨rfl,rfl,⟨rfl,rfl,rfl,fun h=>h⟩,rfl,rfl,c6 (by omega),trivial⟩⟩
   ·have e:ptK n D.O (fun i=>-(D.A i c)) x0 (k+1)=ptK n D.O (fun i=>-(D.A i c)) x0 k:=by rw [P3];funext j;rw [if_neg (fun h=>ho h.1)]
    conv=>whnf
    repeat' (first|refine zz ?_|refine J5 rfl hlt ?_|refine zd ?_ ?_<;>intro h<;>try omega|refine zy ?_|fail)<;>conv=>whnf
    all_goals first
     |omega
     |exact ⟨hlt,trivial,[some 0],rfl,rfl,⟨a8 (rows:=(rF n (ptK n D.O (fun i=>-(D.A i c)) x0 k)).map j5) rfl rfl rfl rfl (by rw [e]),trivial⟩,⟨rfl,rfl,⟨rfl,rfl,rfl,fun h=>h⟩,rfl,rfl,c6 (by omega),trivial⟩⟩
  ·have hke:k=m:=by omega
   subst hke
   conv=>whnf
   repeat' (first|refine zz ?_|refine zd ?_ ?_<;>intro h<;>try omega|refine zy ?_|fail)<;>conv=>whnf
   all_goals first
    |omega
    |exact Q3 rfl (fun h=>h) rfl rfl (by simp [L9])
def ak3 (y:Nat->Rat) (r:Nat) (p:Rat):Nat->Rat:=fun i=>if i=r then y i+p else y i
theorem b8e (b:Bool) (p:Rat):rl (Q8 b p)=rl p:=by cases b;rfl;exact O9 p
set_option maxHeartbeats 2000000 in
theorem b2H (m n:Nat) (fr:List (Nat × Bool)) (D:Fd) (R:Nat) (y:Nat->Rat) (k row:Nat) (b:Bool) (p:Rat) (hk:fr[k]? =some (row,b)) (hr:row<R) (hp:rl p<=50000) (hy:rl (y row)<=50000):
 a9 Tryz.prog 263 [dT m n fr D,.c (.own 0 0 R true),a7 .i64 k,frS (fz p)] [flB (rF R y)] (.tup []) [flB (rF R (ak3 y row (-(Q8 b p))))]:=by
 have m1:(Y2 fr).length=fr.length:=by simp [Y2]
 have eR:0+(row:Int).toNat=row:=by omega
 have gp:(rF R y)[0+(row:Int).toNat]? =some (fz (y row)):=by rw [eR,B9 hr]
 have ng:=a2O p (by omega)
 cases b with
 |true=>
  have ad:=a1P (y row) p (by omega) (by omega)
  have e:s8 (flB (rF R y)) ((flB (rF R y)).rows.set (0+(row:Int).toNat) (frC (fz (y row+p))))=flB (rF R (ak3 y row (-(Q8 true p)))):=by
   rw [F0 eR,L2 hr]
   refine congrArg flB (u4 fun j hj=>?_)
   show (if j=row then y row+p else y j)=if j=row then y j+- -p else y j
   by_cases h:j=row
   ·subst h;rw [if_pos rfl,if_pos rfl,Rat.neg_neg]
   ·rw [if_neg h,if_neg h]
  (refine ac Tryz.func263 ?_;(conv=>whnf);repeat (refine zy ?_;conv=>whnf))
  repeat' (first|refine zz ?_|refine qp ng ?_|refine qp ad ?_|refine qp 12 ?_|refine b8 hk ?_|refine j6 gp ?_|refine bl0 [12] ?_|refine zd ?_ ?_<;>intro h<;>try omega|refine zy ?_|fail)<;>conv=>whnf
  all_goals first
   |omega
   |(exfalso;simp_all;done)
   |exact ⟨[some 0],rfl,rfl,⟨⟨rfl,rfl,rfl,.inl ⟨congrArg Blk.rows e,(congrArg Blk.rows e) ▸ c7 _⟩⟩,trivial⟩,trivial⟩
 |false=>
  have ad:=a1P (y row) (-p) (by omega) (by rw [O9];omega)
  have e:s8 (flB (rF R y)) ((flB (rF R y)).rows.set (0+(row:Int).toNat) (frC (fz (y row+-p))))=flB (rF R (ak3 y row (-(Q8 false p)))):=by
   rw [F0 eR,L2 hr]
   refine congrArg flB (u4 fun j hj=>?_)
   show (if j=row then y row+-p else y j)=if j=row then y j+-p else y j
   by_cases h:j=row
   ·subst h;rfl
   ·rw [if_neg h,if_neg h]
  (refine ac Tryz.func263 ?_;(conv=>whnf);repeat (refine zy ?_;conv=>whnf))
  repeat' (first|refine zz ?_|refine qp ng ?_|refine qp ad ?_|refine qp 12 ?_|refine b8 hk ?_|refine j6 gp ?_|refine bl0 [12] ?_|refine zd ?_ ?_<;>intro h<;>try omega|refine zy ?_|fail)<;>conv=>whnf
  all_goals first
   |omega
   |(exfalso;simp_all;done)
   |exact ⟨[some 0],rfl,rfl,⟨⟨rfl,rfl,rfl,.inl ⟨congrArg Blk.rows e,(congrArg Blk.rows e) ▸ c7 _⟩⟩,trivial⟩,trivial⟩
def yK (z:Nat->Rat) (f:Nat->Nat->Rat) (k:Nat):Nat->Rat:=fun i=>z i+f9 (fun j=>f j i) k
theorem aY7 {z:Nat->Rat} {f:Nat->Nat->Rat} {k:Nat}:yK z f (k+1)=fun i=>yK z f k i+f k i:=by
 funext i;unfold yK;simp only [f9];grind
theorem a8A {f:Nat->Rat} {B:Nat}:∀k:Nat,(∀ j,j<k->rl (f j)<=B)->rl (f9 f k)<=k*(B+1)+1
 |0,_=>by
  have h0:=rl0
  have e:f9 f 0=0:=by simp only [f9,W0]
  rw [e];omega
 |k+1,h=>by
  have h1:=a8A k fun j hj=>h j (by omega)
  have h2:=h k (by omega)
  have h3:=a3a (f9 f k) (f k)
  simp only [f9]
  rw [Nat.succ_mul]
  omega
theorem b7A {s:f7} {w i B:Nat} {p:Rat} (h:rl p<=B) (hB:1<=B):rl (chg s w p i)<=B:=by
 unfold chg
 split
 ·rw [O9,b8e];exact h
 ·have:=rl0;omega
theorem b5o {s:f7} {w:Nat} {p:Rat} (h:w<s.n.toNat):chg s w p=fun _=>0:=by
 funext i;unfold chg;rw [if_neg (fun e=>by omega)]
theorem b77 {s:f7} {w k row:Nat} {b:Bool} {p:Rat} (hw:w=s.n.toNat+k) (hf:(e8 s)[k]? =some (row,b)) (y:Nat->Rat):ak3 y row (-(Q8 b p))=fun i=>y i+chg s w p i:=by
 funext i
 have e:z5 s (w - s.n.toNat)=(row,b):=by unfold z5;rw [show w - s.n.toNat=k by omega,lg3,hf];rfl
 unfold ak3 chg
 rw [e]
 by_cases h:i=row
 ·subst h;rw [if_pos rfl,if_pos ⟨by omega,rfl⟩]
 ·rw [if_neg h,if_neg (fun e=>h e.2.symm)];grind
theorem b3K {s:f7} {k:Nat} {f:Nat × Bool} (h:(e8 s)[k]? =some f):f.1<s.rows.length:=by
 obtain ⟨w,hw,_⟩:=T8.1 (lg2 h)
 exact (lg1 hw).1
set_option maxHeartbeats 2000000 in
theorem b3x (s:f7) (n:Nat) (hn:s.n=n) (E:Fd) (hP:X8 (e8 s).length n E) (B:Nat) (hB:∀j,j<n->rl (E.G j)<=B) (hB1:1<=B) (hBn:(n+2)*(B+2)<=50000) (hm:(e8 s).length<=100000) (hR:s.rows.length<=1000) (hn1:n<=1000):
 a9 Tryz.prog 204 [dT (e8 s).length n (e8 s) E,a7 .i64 s.rows.length] [] (.c (.own 0 0 s.rows.length true)) [flB (rF s.rows.length (N8 s E))]:=by
 have m1:(a0u n E.F).length=n:=u7 _ _
 have hnn:s.n.toNat=n:=by omega
 have z0:∀H:Hp,H.length=0->U1 Tryz.prog 254 [a7 .i64 s.rows.length] H (.c (.own 0 0 s.rows.length true)) [flB (rF s.rows.length fun _=>0)]:=fun H hH=>a1m hH hR
 have eB:B<=50000:=by
  have:(n+2)*(B+2)=n*(B+2)+2*(B+2):=by rw [Nat.add_mul]
  omega
 obtain ⟨f,hf⟩:∃f:Nat->Nat->Rat,f=fun j=>chg s (E.F j) (-(E.G j)):=⟨_,rfl⟩
 have e9:N8 s E=yK (fun _=>0) f n:=by
  funext i;unfold N8 yK;rw [hf,hnn];grind
 rw [e9]
 (refine ac Tryz.func204 ?_;(conv=>whnf);repeat ((first|refine b0x ?_|refine zy ?_);conv=>whnf))
 repeat' (first|refine zz ?_|refine .inl ⟨_,_,z0 _ rfl,?_⟩|refine zd ?_ ?_<;>intro h<;>try omega|refine zy ?_|fail)<;>conv=>whnf
 refine d6 c8 (fun k=>([dT (e8 s).length n (e8 s) E,J,J,J,J,S.c (C.own 0 0 s.rows.length true),J,J,J,J,J,J,J,a7q n E.F,a7 .i64 n,a7 .i64 k,J,J,J,J,J,J,J,J,J,J,J,J,J,J,J,J,J,J,J,J,J,J,J,J,J,J,J,J,J],[flB (rF s.rows.length (yK (fun _=>0) f k))])) n (fun _=>True) [some 0] trivial
  ⟨rfl,rfl,⟨a8 (rows:=(rF s.rows.length (fun _=>0)).map j5) rfl rfl rfl rfl ?_,trivial⟩,⟨g9 rfl,⟨rfl,rfl,rfl,fun h=>h⟩,g9 rfl,c6 (by omega),c6 rfl,trivial⟩⟩ ?_
 ·rw [u4 (g:=yK (fun _=>0) f 0) (h:=fun _=>0) fun j hj=>by unfold yK;simp only [f9,W0];grind]
 intro k hk _
 by_cases hlt:k<n
 ·have ng:=a2O (E.G k) (by have:=hB k hlt;omega)
  by_cases ho:E.F k<n
  ·have e:yK (fun _=>0) f (k+1)=yK (fun _=>0) f k:=by
    rw [aY7,hf];funext i
    have e0:chg s (E.F k) (-(E.G k)) i=0:=by rw [b5o (by omega)]
    show _+chg s (E.F k) (-(E.G k)) i=_
    rw [e0];grind
   conv=>whnf
   repeat' (first|refine zz ?_|refine J5 rfl hlt ?_|refine zd ?_ ?_<;>intro h<;>try omega|refine zy ?_|fail)<;>conv=>whnf
   all_goals first
    |omega
    |exact ⟨hlt,trivial,[some 0],rfl,rfl,⟨a8 (rows:=(rF s.rows.length (yK (fun _=>0) f k)).map j5) rfl rfl rfl rfl (by rw [e]),trivial⟩,⟨rfl,⟨rfl,rfl,rfl,fun h=>h⟩,rfl,rfl,c6 (by omega),trivial⟩⟩
  ·have hfb:=hP.fb k hlt
   obtain ⟨q,hq⟩:∃q,E.F k=n+q:=⟨E.F k - n,by omega⟩
   obtain ⟨⟨row,b⟩,hfr⟩:∃x,(e8 s)[q]? =some x:=⟨_,lg0 (by omega)⟩
   have hrow:row<s.rows.length:=b3K hfr
   have by1:rl (yK (fun _=>0) f k row)<=50000:=by
    have h1:=a8A (f:=fun j=>f j row) (B:=B) k fun j hj=>by rw [hf];exact b7A (by rw [O9];exact hB j (by omega)) hB1
    have e:yK (fun _=>0) f k row=f9 (fun j=>f j row) k:=by unfold yK;grind
    rw [e]
    have:k*(B+1)<=n*(B+1):=Nat.mul_le_mul_right _ (by omega)
    have:(n+2)*(B+2)=n*(B+1)+n+2*(B+2):=by rw [Nat.add_mul,show n*(B+2)=n*(B+1)+n by rw [Nat.mul_add,Nat.mul_add];omega]
    omega
   have ch:=b2H (e8 s).length n (e8 s) E s.rows.length (yK (fun _=>0) f k) q row b (-(E.G k)) hfr hrow (by rw [O9];have:=hB k hlt;omega) by1
   have e:ak3 (yK (fun _=>0) f k) row (-(Q8 b (-(E.G k))))=yK (fun _=>0) f (k+1):=by rw [b77 (s:=s) (w:=E.F k) (by omega) hfr,aY7,hf]
   rw [e,show ((q:Nat):Int)=(E.F k:Int) - n by omega] at ch
   conv=>whnf
   repeat' (first|refine zz ?_|refine qp ng ?_|refine J5 rfl hlt ?_|refine a49 rfl hlt ?_|refine .inr ⟨_,_,ch,?_⟩|refine zd ?_ ?_<;>intro h<;>try omega|refine zy ?_|fail)<;>conv=>whnf
   all_goals first
    |omega
    |exact ⟨hlt,trivial,[some 0],rfl,rfl,⟨c9 (c7 _),trivial⟩,⟨rfl,⟨rfl,rfl,rfl,fun h=>h⟩,rfl,rfl,c6 (by omega),trivial⟩⟩
 ·have hke:k=n:=by omega
  subst hke
  conv=>whnf
  repeat' (first|refine zz ?_|refine zd ?_ ?_<;>intro h<;>try omega|refine zy ?_|fail)<;>conv=>whnf
  all_goals first
   |omega
   |exact ⟨[some 0],rfl,rfl,⟨c9 (c7 _),trivial⟩,⟨rfl,rfl,rfl,fun h=>h⟩⟩
def a5U (ρ:List (Option Nat)) (H:Hp):Env->Env->Prop
 |[],[]=>True
 |s::r,s'::r'=>match s' with
  |.junk=>a5U ρ H r r'
  |s'=>(a3E ρ H s s'∨VYS H (fun id=>E1 ρ id=true) s s')∧a5U ρ H r r'
 |_,_=>False
theorem a5U.rel {ρ:List (Option Nat)} {H:Hp}:∀{env env':Env},a5U ρ H env env'->env.length=env'.length∧∀(t:Nat) (s':S),env'[t]? =some s'->∃s,env[t]? =some s∧(a3E ρ H s s'∨VYS H (fun id=>E1 ρ id=true) s s')
 |[],[],_=>⟨rfl,by simp⟩
 |s::r,s'::r',h=>by
  have h':(a3E ρ H s s'∨VYS H (fun id=>E1 ρ id=true) s s')∧a5U ρ H r r':=by
   cases s' with
   |junk=>exact ⟨.inl trivial,h⟩
   |_=>exact h
  obtain ⟨h1,h2⟩:=a5U.rel h'.2
  refine ⟨by simp [h1],fun t s'' ht=>?_⟩
  cases t with
  |zero=>simp at ht;subst ht;exact ⟨s,rfl,h'.1⟩
  |succ t=>simpa using h2 t s'' (by simpa using ht)
 |[],_::_,h=>h.elim
 |_::_,[],h=>h.elim
structure b5a (n0:Nat) (ρ:List (Option Nat)) (env:Env) (H:Hp) (env':Env) (H':Hp):Prop where
 k:a1e ρ n0=true
 n:O5 ρ H'=true
 h:a2Z ρ H ρ H'
 e:a5U ρ H env env'
theorem b5a.sim {n0:Nat} {ρ:List (Option Nat)} {env env':Env} {H H':Hp} (h:b5a n0 ρ env H env' H') {w0:World} {ι0:Io} {M0:Ms} {H0:Hp} {a:Act} {w:World} (hn:H0.length=n0) (hM0:MB w0 M0)
 (hs:Sim w0 ι0 M0 H0 a w env H):Sim w0 ι0 M0 H0 a w env' H':=by
 obtain ⟨h1,h2,h3,h4⟩:=h
 obtain ⟨ι,M,hd,hsz,he,hH,hM,hF,hst⟩:=hs
 obtain ⟨hel,heg⟩:=a5U.rel h4
 obtain ⟨q1,q2,q3⟩:=a2Z.all h1 h2 h3 hn hM0 hH hst
 refine ⟨M7 ρ ι,_,hd,by omega,fun t s' ht=>?_,q1,fun b hb=>hM b hb.1,q2,q3⟩
 obtain ⟨s,r1,r2⟩:=heg t s' ht
 rcases r2 with r2|r2
 ·exact r2.rs hH (he t s r1)
 ·refine r2.rs hH (fun b hb=>hb.1) ?_ (he t s r1)
  intro id k b cap size hp hk hd hi hb
  exact hb.2 ⟨id,k,cap,size,hp,hk,hd,hi⟩
theorem a96 {P:Program} {τ:Tab} (hτ:x8 P τ) {n0:Nat} {x y:Code} {env:Env} {H:Hp} {Q:AX->Env->Hp->Prop} (E2:Env) (H2:Hp)
 (h:a3L P τ n0 x env H fun a env' H'=>match a with
   |.normal=>∃ρ,b5a n0 ρ env' H' E2 H2
   |a=>Q a env' H') (h2:Awp P n0 y E2 H2 Q):Awp P n0 (.seq x y) env H Q:=by
 refine ⟨fun w0 ι0 M0 H0 a w hn hM hs=>?_⟩
 refine wp_seq (wp_mono ((w8 hτ x h).out w0 ι0 M0 H0 a w hn hM hs) ?_)
 rintro e a' w' ⟨x,env',H',rfl,hq,hs'⟩
 cases x with
 |normal=>obtain ⟨ρ,he⟩:=hq;exact h2.out w0 ι0 M0 H0 a' w' hn hM (he.sim hn hM hs')
 |exit id=>exact ⟨_,env',H',rfl,hq,hs'⟩
 |ret=>exact ⟨_,env',H',rfl,hq,hs'⟩
theorem b1c {P:Program} {n0:Nat} {c:Operand} {t e:Code} {env:Env} {H:Hp} {Q:AX->Env->Hp->Prop} {b:Bool} (hb:D9 env c=f5 b) (h:Awp P n0 (cond b t e) env H Q):Awp P n0 (.cond c t e) env H Q:=by
 refine ⟨fun w0 ι0 M0 H0 a w hn hM hs=>?_⟩
 have hs0:=hs
 obtain ⟨ι,M,hd,hsz,he,hH,hMB,hF,hst⟩:=hs
 have hv:=(he.ev.to hb).inv_atm
 refine wp_cond hv ?_
 cases b with
 |true=>exact h.out w0 ι0 M0 H0 a w hn hM hs0
 |false=>exact h.out w0 ι0 M0 H0 a w hn hM hs0
theorem b33 {m n:Nat} {fr:List (Nat × Bool)} {D:Fd} {X:Hp} {p:Nat->Prop} (hp:∀i,i<m+6->p i):VY (I1 m n fr D.V D.G D.O D.F D.A X) p (.own 1 0 m true) (.sl 5 .any (a7O m n D)):=by
 refine b2V (k:=a0a 6 m n D.V) (hp _ (by omega)) rfl (fun h=>h) rfl (a4d m n D) ?_ ?_
 ·intro r hr
  obtain ⟨i,_,rfl⟩:=List.mem_map.1 hr
  rfl
 ·intro i r hi
  have him:i<m:=by have:=(lg1 hi).1;rwa [a4d] at this
  rw [a6U him] at hi
  injection hi with hi
  subst hi
  refine ⟨_,a24 him,?_⟩
  show VYL _ _ ((j5 (fz (D.V i))).map C.t++[C.own (i+6) 0 n true]) _
  have hv:VY (I1 m n fr D.V D.G D.O D.F D.A X) p (C.own (i+6) 0 n true) (T.sl 4 .any ((rF n (D.A i)).map j5)):=
   .vc (t5 (k:=flB (rF n (D.A i))) (hp _ (by omega)) (I5 (N4 him)) (fun h=>h) rfl rfl (by simp [L9]))
  exact as2 (ys:=[C.own (i+6) 0 n true]) (us:=[T.sl 4 .any ((rF n (D.A i)).map j5)]) (show _∧True from ⟨hv,trivial⟩)
theorem au1 {m n:Nat} {fr:List (Nat × Bool)} {D:Fd} {X:Hp} {p:Nat->Prop} (hp:∀i,i<m+6->p i):VY (I1 m n fr D.V D.G D.O D.F D.A X) p (.ptr 0 0 0) (.ptr (b69 m n fr D)):=by
 refine a9U (k:=aT3 m n fr.length) (hp _ (by omega)) rfl (fun h=>h) rfl ⟨b0P,b33 hp,?_,?_,?_,?_,trivial⟩
 ·exact .vc (t5 (k:=flB (rF n D.G)) (hp _ (by omega)) rfl (fun h=>h) rfl rfl (by simp [L9]))
 ·exact .vc (t5 (k:=V5 m D.O) (hp _ (by omega)) rfl (fun h=>h) rfl rfl (by simp [u7]))
 ·exact .vc (t5 (k:=V5 n D.F) (hp _ (by omega)) rfl (fun h=>h) rfl rfl (by simp [u7]))
 ·exact .vc (t5 (k:=a1h fr) (hp _ (by omega)) rfl (fun h=>h) rfl rfl (by simp [Y2]))
abbrev b8D (m n k:Nat):Blk:={ mode:=.live,elem:=256,size:=6,rows:=[[C.t (ti n),.own 2 0 m true,.own 3 0 n true,.own 4 0 m true,.own 5 0 n true,.own 6 0 k true]],box:=true }
abbrev b7i (m n:Nat) (fr:List (Nat × Bool)) (D:Fd) (b:Blk):Hp:=
 b::b8D m n fr.length::a0a 7 m n D.V::flB (rF n D.G)::V5 m D.O::V5 n D.F::a1h fr::(mF m n D.A).map flB
theorem b51 {N i:Nat} (h:i<N):(a3o [] 1 N).getD i 0=i+1:=by
 unfold a3o
 rw [List.nil_append,lg3,List.getElem?_map,List.getElem?_range h]
 show 1+i=i+1
 omega
theorem b7q {σ:List Nat} (ts:List T) (l:List C):a1i σ (ts.map C.t++l)=ts.map C.t++a1i σ l:=by
 rw [J6,J6,List.map_append,List.map_map]
 congr 1
theorem an6 {s:f7} {g:List (Int × Rat)} {n:Nat} (b:Blk) (h:a9 Tryz.prog 199 [a2i s,n9 g] [] (.c (.ptr 0 0 0)) (X2 (e8 s).length n (e8 s) (g4 s g))):
 a9 Tryz.prog 199 [a2i s,n9 g] [b] (.c (.ptr 1 0 0)) (b7i (e8 s).length n (e8 s) (g4 s g) b):=by
 have hlen:(X2 (e8 s).length n (e8 s) (g4 s g)).length=(e8 s).length+6:=a2a
 have hl:∀k ∈ X2 (e8 s).length n (e8 s) (g4 s g),k.mode=.live:=by
  intro k hk
  simp only [List.mem_cons] at hk
  rcases hk with rfl|rfl|rfl|rfl|rfl|rfl|hk
  ·rfl
  ·rfl
  ·rfl
  ·rfl
  ·rfl
  ·rfl
  ·obtain ⟨l,_,rfl⟩:=List.mem_map.1 hk;rfl
 have hsub:(X2 (e8 s).length n (e8 s) (g4 s g)).length - ([]:Hp).length=(e8 s).length+6:=by rw [hlen];simp
 have g1:∀i,i<(e8 s).length+6->(a3o [] ([b]:Hp).length ((X2 (e8 s).length n (e8 s) (g4 s g)).length - ([]:Hp).length)).getD i 0=i+1:=fun i hi=>by
  rw [hsub];exact b51 hi
 refine U0 [] h rfl rfl rfl List.nodup_nil (by simp) (fun k hk=>by rw [hl k hk];intro h;cases h) (by simp) rfl ?_ (by rw [hsub];simp [b7];omega) ?_ ?_
 ·show S.c (.ptr 1 0 0)=S.c (.ptr _ 0 0)
  rw [g1 0 (by omega)]
 ·intro i k hk
  have hi:i<(e8 s).length+6:=by rw [← hlen];exact (lg1 hk).1
  rw [g1 i hi]
  rcases i with _|_|_|_|_|_|i
  ·injection hk with hk;subst hk
   refine ⟨_,rfl,rfl,rfl,rfl,rfl,?_⟩
   simp only [a7E,List.map_cons,List.map_nil,a1i,V6]
   rw [g1 1 (by omega),g1 2 (by omega),g1 3 (by omega),g1 4 (by omega),g1 5 (by omega)]
  ·injection hk with hk;subst hk
   refine ⟨_,rfl,rfl,rfl,rfl,rfl,?_⟩
   unfold a7E
   show P5 7 _ _ _=(P5 6 _ _ _).map _
   unfold P5
   rw [List.map_map]
   refine List.map_congr_left fun j hj=>?_
   have hj:=List.mem_range.1 hj
   show _=a1i _ ((j5 (fz ((g4 s g).V j))).map C.t++[C.own (j+6) 0 n true])
   rw [b7q]
   simp only [a1i,V6]
   rw [g1 (j+6) (by omega)]
   rfl
  ·injection hk with hk;subst hk;exact ⟨_,rfl,D4 rfl⟩
  ·injection hk with hk;subst hk;exact ⟨_,rfl,D4 rfl⟩
  ·injection hk with hk;subst hk;exact ⟨_,rfl,D4 rfl⟩
  ·injection hk with hk;subst hk;exact ⟨_,rfl,D4 rfl⟩
  ·have hk:((mF (e8 s).length n (g4 s g).A).map flB)[i]? =some k:=hk
   refine ⟨k,hk,?_⟩
   obtain ⟨l,_,rfl⟩:=List.mem_map.1 (lg2 hk)
   exact D4 rfl
 ·intro j hj _
  have:j=0:=by simpa using hj
  subst this;rfl
def fS (m:Nat):Nat->Nat:=fun i=>if i<m+6 then i+1 else 0
theorem a9q {m n:Nat} {fr:List (Nat × Bool)} {D:Fd} {b:Blk} {env env':Env} {H:Hp} (hb:G4 b.rows) (hH:H=b7i m n fr D b) (hE:a0c (fR (m+7) (fS m)) H env env'):
 Ent 0 (fR (m+7) (fS m)) env H env' (I1 m n fr D.V D.G D.O D.F D.A [b]):=by
 subst hH
 have fa:∀i,i<m+6->fS m i=i+1:=fun i hi=>by unfold fS;rw [if_pos hi]
 refine aO5 (by simp [b7]) (by omega) (fun i hi=>by omega) (fun i j hi hj h=>by unfold fS at h;(repeat' split at h)<;>omega) ?_ hE
 intro i k' hk
 rcases i with _|_|_|_|_|_|i
 ·injection hk with hk;subst hk
  rw [fa 0 (by omega)]
  exact ⟨_,rfl,rfl,rfl,rfl,.inr ⟨⟨rfl,⟨by rw [w9 (by omega),fa _ (by omega)],rfl,rfl,fun h=>h⟩,⟨by rw [w9 (by omega),fa _ (by omega)],rfl,rfl,fun h=>h⟩,⟨by rw [w9 (by omega),fa _ (by omega)],rfl,rfl,fun h=>h⟩,⟨by rw [w9 (by omega),fa _ (by omega)],rfl,rfl,fun h=>h⟩,⟨by rw [w9 (by omega),fa _ (by omega)],rfl,rfl,fun h=>h⟩,trivial⟩,trivial⟩⟩
 ·injection hk with hk;subst hk
  rw [fa 1 (by omega)]
  refine ⟨_,rfl,a1n (h:=fun i=>i+7) (h':=fun i=>i+6) fun j hj=>?_⟩
  rw [w9 (by omega),fa _ (by omega)]
 ·injection hk with hk;subst hk;rw [fa 2 (by omega)];exact ⟨_,rfl,c9 (c7 _)⟩
 ·injection hk with hk;subst hk;rw [fa 3 (by omega)];exact ⟨_,rfl,c9 (c7 _)⟩
 ·injection hk with hk;subst hk;rw [fa 4 (by omega)];exact ⟨_,rfl,c9 (c7 _)⟩
 ·injection hk with hk;subst hk;rw [fa 5 (by omega)];exact ⟨_,rfl,c9 (c7 _)⟩
 ·have hk:((mF m n D.A).map flB++[b])[i]? =some k':=hk
  by_cases hi:i<m
  ·rw [I5 (N4 hi)] at hk
   injection hk with hk;subst hk
   rw [fa _ (by omega)]
   refine ⟨flB (rF n (D.A i)),?_,c9 (c7 _)⟩
   show ((mF m n D.A).map flB)[i]? =_
   rw [List.getElem?_map,N4 hi];rfl
  ·obtain ⟨t,rfl⟩:∃t,i=m+t:=⟨i - m,by omega⟩
   rw [a1g (b7 _ _ _)] at hk
   rcases t with _|t
   ·injection hk with hk;subst hk
    have:fS m (m+0+6)=0:=by unfold fS;rw [if_neg (by omega)]
    rw [this]
    exact ⟨_,rfl,c9 hb⟩
   ·simp at hk
theorem a7F {m n:Nat} {fr:List (Nat × Bool)} {D E:Fd} {r:S} (X:Hp) (hr:aE4 r=true) (hr':r.isT=true) (h:a9 Tryz.prog 200 [.c (.ptr 0 0 0)] (X2 m n fr D) r (X2 m n fr E)):
 a9 Tryz.prog 200 [.c (.ptr 0 0 0)] (I1 m n fr D.V D.G D.O D.F D.A X) r (I1 m n fr E.V E.G E.O E.F E.A X):=by
 have hl:∀{D:Fd},∀k ∈ X2 m n fr D,k.mode=.live∧k.app=false:=by
  intro D k hk
  simp only [List.mem_cons] at hk
  rcases hk with rfl|rfl|rfl|rfl|rfl|rfl|hk
  ·exact ⟨rfl,rfl⟩
  ·exact ⟨rfl,rfl⟩
  ·exact ⟨rfl,rfl⟩
  ·exact ⟨rfl,rfl⟩
  ·exact ⟨rfl,rfl⟩
  ·exact ⟨rfl,rfl⟩
  ·obtain ⟨l,_,rfl⟩:=List.mem_map.1 hk
   exact ⟨rfl,rfl⟩
 exact a80 (n:=m+6) X h a2a a2a (by simp [okS,okC,Nat.blt_eq]) (fun k hk=>⟨(hl k hk).1,(hl k hk).2,a66 k hk⟩) (fun k hk=>⟨(by rw [(hl k hk).1];intro h;cases h),a66 k hk⟩) hr hr'
theorem b2W (l:List (Int × Rat)) (z:List Rat) (hl:l.length<=1000000) (h1:∀t ∈ l,rl t.2<=20000) (h2:∀v ∈ z,rl v<=40000) (hS:∀k,rl (k7 (l.take k) z)<=60000) (hz:z.length<=1000000) (hr:f8 (-1) z.length l=true):
 a9 Tryz.prog 110 [n9 l,j8 (z.map fz)] [] (frS (fz (k7 l z))) []:=by
 have m1:(l.map i9).length=l.length:=by simp
 have m2:((z.map fz).map j5).length=z.length:=by simp
 have i0:=G7 0 (by decide) (by decide)
 (refine ac Tryz.func110 ?_;(conv=>whnf);repeat ((first|refine b0x ?_|refine zy ?_);conv=>whnf))
 repeat' (first|refine zz ?_|refine qp i0 ?_|refine zd ?_ ?_<;>intro h<;>try omega|refine zy ?_|fail)<;>conv=>whnf
 refine d6 c8 (fun k=>([J,j8 (z.map fz),J,J,S.c (C.ptr 0 0 0),S.c (C.ptr 1 0 0),J,J,J,J,J,n9 l,a7 .i64 l.length,a7 .i64 k,J,J,J,J,J,J,J,J,J,J,J,J,J,J,J,J,J,J,J,J,J,J],[frB M5,frB (fz (k7 (l.take k) z))])) l.length (fun _=>True) [some 0,some 1] trivial
  ⟨rfl,rfl,⟨⟨rfl,rfl,rfl,.inr ⟨⟨rfl,rfl,rfl,rfl,trivial⟩,trivial⟩⟩,⟨rfl,rfl,rfl,.inl ⟨rfl,K9 _⟩⟩,trivial⟩,⟨rfl,⟨rfl,rfl,rfl⟩,⟨rfl,rfl,rfl⟩,rfl,c6 (by simp),rfl,trivial⟩⟩ ?_
 intro k hk _
 by_cases hlt:k<l.length
 ·obtain ⟨t,ht⟩:∃t,l[k]? =some t:=⟨_,lg0 hlt⟩
  obtain ⟨v,c⟩:=t
  have hv:=a6X hr _ (lg2 ht)
  simp only at hv
  have bc:=h1 _ (lg2 ht)
  simp only at bc
  obtain ⟨x,hx⟩:∃x,z[v.toNat]? =some x:=⟨_,lg0 (by omega)⟩
  have hxd:z.getD v.toNat 0=x:=by rw [lg3,hx];rfl
  have bx:=h2 x (lg2 hx)
  have b3:=a2Y c x
  have bs:=hS k
  have mu:=aa3 c x (by omega) (by omega)
  have ad:=a1P (k7 (l.take k) z) (c*x) (by omega) (by omega)
  have e:k7 (l.take k) z+c*x=k7 (l.take (k+1)) z:=by
   have:l.take (k+1)=l.take k++[(v,c)]:=by rw [List.take_add_one,ht];rfl
   rw [this,P9,←hxd]
  rw [e] at ad
  have xz:(z.map fz)[v.toNat]? =some (fz x):=by rw [List.getElem?_map,hx];rfl
  conv=>whnf
  repeat' (first|refine zz ?_|refine qp mu ?_|refine qp ad ?_|refine qp 10 ?_|refine qp 5 ?_|refine b8 ht ?_|refine p4 (by omega) xz ?_|refine bl0 [10] ?_|refine bl0 [5] ?_|refine zd ?_ ?_<;>intro h<;>try omega|refine zy ?_|fail)<;>conv=>whnf
  all_goals first
   |omega
   |exact ⟨hlt,trivial,[some 0,some 1],rfl,rfl,⟨⟨rfl,rfl,rfl,.inl ⟨rfl,K9 _⟩⟩,⟨rfl,rfl,rfl,.inl ⟨rfl,K9 _⟩⟩,trivial⟩,⟨rfl,⟨rfl,rfl,rfl⟩,⟨rfl,rfl,rfl⟩,rfl,rfl,rfl,trivial⟩⟩
 ·have hke:k=l.length:=by omega
  subst hke
  rw [lg4 (Nat.le_refl _)]
  conv=>whnf
  repeat' (first|refine zz ?_|refine zd ?_ ?_<;>intro h<;>try omega|refine zy ?_|fail)<;>conv=>whnf
  all_goals first
   |omega
   |exact aC6 rfl
theorem a74 (z:List Rat):(z.map fz).all B5=true:=by
 rw [List.all_eq_true];intro f hf
 obtain ⟨x,_,rfl⟩:=List.mem_map.1 hf
 exact a6t x
theorem aF6 (l:List (Int × Rat)) (z:List Rat) (hl:l.length<=1000000) (h1:∀t ∈ l,rl t.2<=200) (h2:∀v ∈ z,rl v<=40000) (hS:∀k,rl (k7 (l.take k) z)<=60000) (hz:z.length<=1000000) (hr:f8 (-1) z.length l=true):
 a9 Tryz.prog 158 [n9 l,j8 (z.map fz)] [] (.tup [frS (fz (k7 l z)),f5 true]) []:=by
 have m2:((z.map fz).map j5).length=z.length:=by simp
 have rt:=L5 l z.length hl h1
 rw [decide_eq_true (by omega),hr] at rt
 have pt:=b5h (z.map fz) (by simpa using hz) (fun f hf=>by
  obtain ⟨x,hx,rfl⟩:=List.mem_map.1 hf
  have:=h2 x hx
  have a:=E7 x
  have b:=F7 x
  exact ⟨by show bl x.num<=_;omega,by show bl x.den<=_;omega⟩)
 rw [a74] at pt
 have va:=b2W l z hl (fun t ht=>by have:=h1 t ht;omega) h2 hS hz hr
 have rt2:a9 Tryz.prog 161 [n9 l,a7 .i64 (((z.map fz).map j5).length:Nat)] [] (f5 (true && true)) []:=by rw [m2];exact rt
 (refine ac Tryz.func158 ?_;(conv=>whnf);repeat ((first|refine b0x ?_|refine zy ?_);conv=>whnf))
 repeat' (first|refine zz ?_|refine qp rt2 ?_|refine qp pt ?_|refine qp va ?_|refine zd ?_ ?_<;>intro h<;>try omega|refine zy ?_|fail)<;>conv=>whnf
 all_goals first
  |(exfalso;simp_all;done)
  |exact k5 ⟨⟨rfl,rfl,rfl,rfl,trivial⟩,rfl,trivial⟩
structure G8 (s:f7) (g:List (Int × Rat)) (n B:Nat):Prop where
 o:b6s s g n
 sb:aD8 s
 gb:∀t ∈ g,rl t.2<=200
 bd:∀D,T0 (e8 s).length n (g4 s g) D->BdD (e8 s).length n B D
 b1:1<=B
 bn:(n+3)*(B+2)<=50000
 r:s.rows.length<=1000
theorem G8.nn {s:f7} {g:List (Int × Rat)} {n B:Nat} (h:G8 s g n B):s.n.toNat=n:=by have:=h.o.en;omega
theorem G8.bb {s:f7} {g:List (Int × Rat)} {n B:Nat} (h:G8 s g n B):B<=17000:=by
 have h1:=h.bn
 have:(n+3)*(B+2)=n*(B+2)+3*(B+2):=by rw [Nat.add_mul]
 omega
theorem G8.m {s:f7} {g:List (Int × Rat)} {n B:Nat} (h:G8 s g n B):(e8 s).length<=2000:=by
 have:=a4p (s:=s) s.rows.length
 have:=h.r
 show (I0 s s.rows.length).length<=_
 omega
abbrev bO (cells:List C):Blk:={ mode:=.live,elem:=168,size:=8,rows:=[cells],box:=true }
abbrev z8:List C:=[.t (ti 0),.t (ti 0),.t (.sl 0 .nil []),.t (ti 0),.t (.sl 0 .nil []),.t (.sl 0 .nil []),.t (.sl 0 .nil []),.t (.sl 0 .nil [])]
theorem b0J:G4 (bO z8).rows:=c7 [[ti 0,ti 0,.sl 0 .nil [],ti 0,.sl 0 .nil [],.sl 0 .nil [],.sl 0 .nil [],.sl 0 .nil []]]
theorem a2t {s:f7} {g:List (Int × Rat)} {n B:Nat} (h:G8 s g n B):
 a9 Tryz.prog 200 [.c (.ptr 0 0 0)] (X2 (e8 s).length n (e8 s) (g4 s g)) (.tup [a7 .i64 (aN3 (a0o s g)).1,a7 .i64 (aN3 (a0o s g)).2]) (X2 (e8 s).length n (e8 s) (v8 s g)):=by
 have hn:=h.nn
 subst hn
 have hm:=h.m
 exact b2F _ _ (e8 s) (g4 s g) _ (by omega) h.o.n1 a1W (fun D hD=>by
  have hb:=h.bd D hD
  have hB:=h.bb
  exact ⟨fun i hi=>by have:=hb.v i hi;omega,fun i hi j hj=>by have:=hb.a i hi j hj;omega,fun j hj=>by have:=hb.g j hj;omega⟩)
theorem ab8 {s:f7} {g:List (Int × Rat)} {n B:Nat} (h:G8 s g n B):(x6 s g).length=n:=by unfold x6;rw [Q0];exact h.nn
theorem a7I {s:f7} {g:List (Int × Rat)} {n B:Nat} (h:G8 s g n B):a9 Tryz.prog 201 [dT (e8 s).length n (e8 s) (v8 s g)] [] (j8 ((x6 s g).map fz)) []:=by
 have hn:=h.nn
 subst hn
 exact b35 _ _ _ _ P4.p (by have:=h.m;omega) h.o.n1
theorem aa6 {s:f7} {g:List (Int × Rat)} {n B:Nat} (h:G8 s g n B):BdD (e8 s).length n B (v8 s g):=by
 have hn:=h.nn
 subst hn
 exact h.bd _ (a45 a1W).1
theorem at7 {s:f7} {g:List (Int × Rat)} {n B:Nat} (h:G8 s g n B) (H:Hp):U1 Tryz.prog 204 [dT (e8 s).length n (e8 s) (v8 s g),a7 .i64 s.rows.length] H (.c (.own H.length 0 s.rows.length true)) [flB (rF s.rows.length (N8 s (v8 s g)))]:=by
 have hb:=aa6 h
 have hp:X8 (e8 s).length n (v8 s g):=by have hn:=h.nn;subst hn;exact P4.p
 refine a4m (b3x s n h.o.en (v8 s g) hp B hb.g h.b1 ?_ (by have:=h.m;omega) h.r h.o.n1) rfl rfl (c7 _)
 have:=h.bn
 have:(n+3)*(B+2)=(n+2)*(B+2)+(B+2):=by rw [show n+3=(n+2)+1 by omega,Nat.succ_mul]
 omega
theorem a7u {i m:Nat} (h:i<m):E1 [some m] i=true:=by
 unfold E1
 have:Nat.beq m i=false:=by
  cases hb:Nat.beq m i with
  |false=>rfl
  |true=>have:=Nat.eq_of_beq_eq_true hb;omega
 rw [this];rfl
theorem aJ6 {m n:Nat} {fr:List (Nat × Bool)} {D:Fd} {env env':Env} (b:Blk) (hb:G4 b.rows) (hE:a5U [some (m+6)] (I1 m n fr D.V D.G D.O D.F D.A [b]) env env'):b5a 0 [some (m+6)] env (I1 m n fr D.V D.G D.O D.F D.A [b]) env' [b]:=by
 refine ⟨rfl,?_,a4z rfl fun i k' hk=>?_,hE⟩
 ·simp only [O5,a3w];cases b.mode<;>rfl
 ·rcases i with _|i
  ·injection hk with hk;subst hk
   exact ⟨m+6,_,rfl,a1g (t:=0) (b7 _ _ _),c9 hb⟩
  ·simp at hk
set_option maxHeartbeats 4000000 in
theorem au9 (s:f7) (g:List (Int × Rat)) (n B:Nat) (h:G8 s g n B) (hout:a0o s g=.best) (hS:∀k,rl (k7 (g.take k) (x6 s g))<=60000) (hpt:∀v ∈ x6 s g,rl v<=40000):
 a9 Tryz.prog 130 [a2i s,n9 g] [] (.tup [.agg (C.t (ti 0)::frC (fz (k7 g (x6 s g)))++[.t (B4 ((x6 s g).map fz)),.own 0 0 s.rows.length true,.t (.sl 0 .nil [])]),a7 .i64 0]) [flB (rF s.rows.length (N8 s (v8 s g)))]:=by
 have hn:=h.nn
 have hm:=h.m
 have hr1:=h.r
 have hgl:=A7 h.o.tg
 have hn1:=h.o.n1
 have lr:=aw2 s h.sb
 rw [h.o.r] at lr
 have rt:=L5 g s.n (by have:=h.o.n1;omega) h.gb
 rw [h.o.en,decide_eq_true (by omega),h.o.tg,←h.o.en] at rt
 have op:=an6 (bO z8) (aQ2 s g n h.o)
 have se:=a2t h
 rw [hout] at se
 have m1:(s.rows.map w5).length=s.rows.length:=by simp
 have pt:=a7I h
 have va:=aF6 g (x6 s g) (by omega) h.gb hpt hS (by rw [ab8 h];omega) (by rw [ab8 h];exact h.o.tg)
 have pr:∀H:Hp,U1 Tryz.prog 204 [dT (e8 s).length n (e8 s) (v8 s g),a7 .i64 ((s.rows.map w5).length:Nat)] H (.c (.own H.length 0 s.rows.length true)) [flB (rF s.rows.length (N8 s (v8 s g)))]:=by rw [m1];exact at7 h
 (refine al1 c8 Tryz.func130 rfl (by decide) ?_;refine N7 c8 ?_;(conv=>whnf);repeat ((first|refine b0x ?_|refine zy ?_);conv=>whnf))
 repeat' (first|refine zz ?_|refine b0x ?_|refine zd ?_ ?_<;>intro h<;>try omega|refine zy ?_|fail)<;>conv=>whnf
 (refine N7 c8 ?_;conv=>whnf)
 repeat' (first|refine zz ?_|refine qp lr ?_|refine qp rt ?_|refine zd ?_ ?_<;>intro h<;>try omega|refine zy ?_|fail)<;>conv=>whnf
 all_goals try (exfalso;simp_all;done)
 refine a1F c8 ([J,n9 g,S.c (C.t (T.ptr (ad0 s))),J,S.c (C.ptr ((e8 s).length+6) 0 0),a7 .i64 0,S.c (C.ptr 0 0 0),J,J,J,J,J,J,J,J,J,J,J,J,J,J,J,J,J,J,J,J,J,J,J,J,J,J,J,J,J,J,J,J,J,J,J,J,J,J,J,J,J,J,J,J,J,J,J,J,J,J,J,J,J,J,J,J,J,J,J,J,J,J,J,J,J,J,J,J,J,J,J]) (I1 (e8 s).length n (e8 s) (g4 s g).V (g4 s g).G (g4 s g).O (g4 s g).F (g4 s g).A [bO z8]) ?_ ?_
 ·conv=>whnf
  repeat' (first|refine zz ?_|refine .inr ⟨_,_,op,?_⟩|refine E4 ?_|refine zd ?_ ?_<;>intro h<;>try omega|refine zy ?_|fail)<;>conv=>whnf
  exact ⟨_,a9q b0J rfl ⟨rfl,g9 rfl,⟨by rw [w9 (by omega)];simp [fS],rfl,rfl⟩,rfl,⟨by rw [w9 (by omega)];simp [fS],rfl,rfl⟩,trivial⟩⟩
 refine a96 c8 ([J,n9 g,S.c (C.t (T.ptr (ad0 s))),J,S.c (C.ptr 0 0 0),a7 .i64 0,dT (e8 s).length n (e8 s) (v8 s g),a7 .i64 (-1),a7 .i64 (-1),J,J,J,J,J,J,J,J,J,J,J,J,J,J,J,J,J,J,J,J,J,J,J,J,J,J,J,J,J,J,J,J,J,J,J,J,J,J,J,J,J,J,J,J,J,J,J,J,J,J,J,J,J,J,J,J,J,J,J,J,J,J,J,J,J,J,J,J,J]) [bO z8] ?_ ?_
 ·have si:=a7F [bO z8] rfl rfl se
  conv=>whnf
  repeat' (first|refine zz ?_|refine qp 4 ?_|refine .inr ⟨_,_,si,?_⟩|refine j0 ?_|refine bl0 [4] ?_|refine zd ?_ ?_<;>intro h<;>try omega|refine zy ?_|fail)<;>conv=>whnf
  exact ⟨_,aJ6 (bO z8) b0J ⟨.inl (g9 rfl),.inl (g9 rfl),.inl ⟨rfl,rfl,rfl⟩,.inl rfl,.inr (au1 fun i hi=>a7u hi),.inl rfl,.inl rfl,trivial⟩⟩
 (refine N7 c8 ?_;conv=>whnf)
 repeat' (first|refine zz ?_|refine zd ?_ ?_<;>intro h<;>try omega|refine zy ?_|fail)<;>conv=>whnf
 all_goals try omega
 (refine N7 c8 ?_;conv=>whnf)
 repeat' (first|refine zz ?_|refine zd ?_ ?_<;>intro h<;>try omega|refine zy ?_|fail)<;>conv=>whnf
 all_goals try omega
 (refine N7 c8 ?_;conv=>whnf)
 repeat' (first|refine zz ?_|refine qp pt ?_|refine zd ?_ ?_<;>intro h<;>try omega|refine zy ?_|fail)<;>conv=>whnf
 (refine N7 c8 ?_;conv=>whnf)
 repeat' (first|refine zz ?_|refine qp va ?_|refine qp 4 ?_|refine qp 5 ?_|refine bl0 [4] ?_|refine bl0 [5] ?_|refine zd ?_ ?_<;>intro h<;>try omega|refine zy ?_|fail)<;>conv=>whnf
 (refine N7 c8 ?_;conv=>whnf)
 repeat' (first|refine zz ?_|refine .inl ⟨_,_,pr _,?_⟩|refine zd ?_ ?_<;>intro h<;>try omega|refine zy ?_|fail)<;>conv=>whnf
 refine w8 c8 _ ?_
 conv=>whnf
 repeat' (first|refine zz ?_|refine zd ?_ ?_<;>intro h<;>try omega|refine zy ?_|fail)<;>conv=>whnf
 exact ⟨[some 2],rfl,rfl,⟨c9 (c7 _),trivial⟩,⟨⟨rfl,rfl,rfl,rfl,rfl,rfl,⟨rfl,rfl,rfl,fun h=>h⟩,rfl,trivial⟩,rfl,trivial⟩⟩
theorem a5u {P:Program} {g:FuncId} {args args':List S} {H H':Hp} {r:S} (h:a9 P g args' H r H') (hl:args.length=args'.length)
 (hw:∀(w:World) (ι:Io) (M:Ms) (j:Nat) (s s':S) (v:Value),args[j]? =some s->args'[j]? =some s'->RS w ι M s v->RS w ι M s' v):a9 P g args H r H':=by
 refine ⟨h.1,fun w ι M vals hl2 hv hH hM hf=>h.2 w ι M vals (by omega) (fun j s' hj=>?_) hH hM hf⟩
 have hlt:=(lg1 hj).1
 exact hw w ι M j _ s' _ (lg0 (by omega)) hj (hv j _ (lg0 (by omega)))
theorem b1V {s:f7} {n:Nat} (b:Blk) (h:a9 Tryz.prog 199 [a2i s,n9 []] [] (.c (.ptr 0 0 0)) (X2 (e8 s).length n (e8 s) (g4 s []))):
 a9 Tryz.prog 199 [a2i s,.c (.t (.sl 0 .nil []))] [b] (.c (.ptr 1 0 0)) (b7i (e8 s).length n (e8 s) (g4 s []) b):=by
 refine a5u (an6 b h) rfl fun w ι M j x y v hx hy hr=>?_
 rcases j with _|_|j
 ·injection hx with hx;injection hy with hy;subst hx hy;exact hr
 ·injection hx with hx;injection hy with hy;subst hx hy
  cases hr with
  |c hr=>cases hr with
   |t hr=>exact .c (.t (hr.weak rfl))
 ·simp at hx
theorem b0K {s:f7} {g:List (Int × Rat)} {n B c:Nat} (h:G8 s g n B) (hc:c<n):a9 Tryz.prog 202 [dT (e8 s).length n (e8 s) (v8 s g),a7 .i64 c] [] (j8 ((a4O s g c).map fz)) []:=by
 have hb:=aa6 h
 have hB:=h.bb
 have hn:=h.nn
 subst hn
 exact b7z _ _ _ _ c hc P4.p (by have:=h.m;omega) h.o.n1 (fun i hi=>by have:=hb.a i hi c hc;omega)
abbrev b8Z:List C:=frC M5
theorem b0Z {P:Program} {n0:Nat} {c:Operand} {t e:Code} {env:Env} {H:Hp} {Q:AX->Env->Hp->Prop} (hb:D9 env c=f5 true) (h:Awp P n0 t env H Q):Awp P n0 (.cond c t e) env H Q:=b1c hb h
set_option maxHeartbeats 4000000 in
theorem av3 (s:f7) (g:List (Int × Rat)) (n B B0 c:Nat) (h:G8 s g n B) (h0:G8 s [] n B0) (hout:a0o s g=.col c) (hout0:a0o s []=.best):
 a9 Tryz.prog 130 [a2i s,n9 g] [] (.tup [.agg (C.t (ti 2)::b8Z++[.t (B4 ((x6 s []).map fz)),.t (.sl 0 .nil []),.t (B4 ((a4O s g c).map fz))]),a7 .i64 0]) []:=by
 have hn:=h.nn
 have hm:=h.m
 have hr1:=h.r
 have hgl:=A7 h.o.tg
 have hn1:=h.o.n1
 have hcn:c<n:=by have:=(a6n hout).1;omega
 have lr:=aw2 s h.sb
 rw [h.o.r] at lr
 have rt:=L5 g s.n (by have:=h.o.n1;omega) h.gb
 rw [h.o.en,decide_eq_true (by omega),h.o.tg,←h.o.en] at rt
 have op:=an6 (bO z8) (aQ2 s g n h.o)
 have se:=a2t h
 rw [hout] at se
 have op0:=b1V (bO z8) (aQ2 s [] n h0.o)
 have se0:=a2t h0
 rw [hout0] at se0
 have m1:(s.rows.map w5).length=s.rows.length:=by simp
 have pt:=a7I h0
 have ra:=b0K h hcn
 (refine al1 c8 Tryz.func130 rfl (by decide) ?_;refine N7 c8 ?_;(conv=>whnf);repeat ((first|refine b0x ?_|refine zy ?_);conv=>whnf))
 repeat' (first|refine zz ?_|refine b0x ?_|refine zd ?_ ?_<;>intro h<;>try omega|refine zy ?_|fail)<;>conv=>whnf
 (refine N7 c8 ?_;conv=>whnf)
 repeat' (first|refine zz ?_|refine qp lr ?_|refine qp rt ?_|refine zd ?_ ?_<;>intro h<;>try omega|refine zy ?_|fail)<;>conv=>whnf
 all_goals try (exfalso;simp_all;done)
 refine a1F c8 ([J,n9 g,S.c (C.t (T.ptr (ad0 s))),J,S.c (C.ptr ((e8 s).length+6) 0 0),a7 .i64 0,S.c (C.ptr 0 0 0),J,J,J,J,J,J,J,J,J,J,J,J,J,J,J,J,J,J,J,J,J,J,J,J,J,J,J,J,J,J,J,J,J,J,J,J,J,J,J,J,J,J,J,J,J,J,J,J,J,J,J,J,J,J,J,J,J,J,J,J,J,J,J,J,J,J,J,J,J,J,J]) (I1 (e8 s).length n (e8 s) (g4 s g).V (g4 s g).G (g4 s g).O (g4 s g).F (g4 s g).A [bO z8]) ?_ ?_
 ·conv=>whnf
  repeat' (first|refine zz ?_|refine .inr ⟨_,_,op,?_⟩|refine E4 ?_|refine zd ?_ ?_<;>intro h<;>try omega|refine zy ?_|fail)<;>conv=>whnf
  exact ⟨_,a9q b0J rfl ⟨rfl,g9 rfl,⟨by rw [w9 (by omega)];simp [fS],rfl,rfl⟩,rfl,⟨by rw [w9 (by omega)];simp [fS],rfl,rfl⟩,trivial⟩⟩
 refine a96 c8 ([J,n9 g,S.c (C.t (T.ptr (ad0 s))),J,S.c (C.ptr 0 0 0),a7 .i64 0,dT (e8 s).length n (e8 s) (v8 s g),a7 .i64 (-1),a7 .i64 c,J,J,J,J,J,J,J,J,J,J,J,J,J,J,J,J,J,J,J,J,J,J,J,J,J,J,J,J,J,J,J,J,J,J,J,J,J,J,J,J,J,J,J,J,J,J,J,J,J,J,J,J,J,J,J,J,J,J,J,J,J,J,J,J,J,J,J,J,J]) [bO z8] ?_ ?_
 ·have si:=a7F [bO z8] rfl rfl se
  conv=>whnf
  repeat' (first|refine zz ?_|refine qp 4 ?_|refine .inr ⟨_,_,si,?_⟩|refine j0 ?_|refine bl0 [4] ?_|refine zd ?_ ?_<;>intro h<;>try omega|refine zy ?_|fail)<;>conv=>whnf
  exact ⟨_,aJ6 (bO z8) b0J ⟨.inl (g9 rfl),.inl (g9 rfl),.inl ⟨rfl,rfl,rfl⟩,.inl rfl,.inr (au1 fun i hi=>a7u hi),.inl rfl,.inl rfl,trivial⟩⟩
 refine a9v ?_
 refine N7 c8 ?_
 conv=>whnf
 repeat' (first|refine zz ?_|refine zd ?_ ?_<;>intro h<;>try omega|refine zy ?_|fail)<;>conv=>whnf
 all_goals try omega
 refine b0Z rfl ?_
 refine a1F c8 ([J,n9 g,S.c (C.t (T.ptr (ad0 s))),J,S.c (C.ptr ((e8 s).length+6) 0 0),a7 .i64 0,dT (e8 s).length n (e8 s) (v8 s g),a7 .i64 (-1),a7 .i64 c,S.c (C.ptr 0 0 0),J,J,J,J,J,J,J,J,J,J,J,J,J,J,J,J,J,J,J,J,J,J,J,J,J,J,J,J,J,J,J,J,J,J,J,J,J,J,J,J,J,J,J,J,J,J,J,J,J,J,J,J,J,J,J,J,J,J,J,J,J,J,J,J,J,J,J,J]) (I1 (e8 s).length n (e8 s) (g4 s []).V (g4 s []).G (g4 s []).O (g4 s []).F (g4 s []).A [bO z8]) ?_ ?_
 ·conv=>whnf
  repeat' (first|refine zz ?_|refine .inr ⟨_,_,op0,?_⟩|refine E4 ?_|refine zd ?_ ?_<;>intro h<;>try omega|refine zy ?_|fail)<;>conv=>whnf
  exact ⟨_,a9q b0J rfl ⟨rfl,g9 rfl,⟨by rw [w9 (by omega)];simp [fS],rfl,rfl⟩,rfl,g9 rfl,rfl,rfl,⟨by rw [w9 (by omega)];simp [fS],rfl,rfl⟩,trivial⟩⟩
 refine a96 c8 ([J,n9 g,S.c (C.t (T.ptr (ad0 s))),J,S.c (C.ptr 0 0 0),a7 .i64 0,dT (e8 s).length n (e8 s) (v8 s g),a7 .i64 (-1),a7 .i64 c,dT (e8 s).length n (e8 s) (v8 s []),a7 .i64 (-1),a7 .i64 (-1),J,J,J,J,J,J,J,J,J,J,J,J,J,J,J,J,J,J,J,J,J,J,J,J,J,J,J,J,J,J,J,J,J,J,J,J,J,J,J,J,J,J,J,J,J,J,J,J,J,J,J,J,J,J,J,J,J,J,J,J,J,J,J,J,J,J]) [bO z8] ?_ ?_
 ·have si:=a7F [bO z8] rfl rfl se0
  conv=>whnf
  repeat' (first|refine zz ?_|refine qp 4 ?_|refine .inr ⟨_,_,si,?_⟩|refine j0 ?_|refine bl0 [4] ?_|refine zd ?_ ?_<;>intro h<;>try omega|refine zy ?_|fail)<;>conv=>whnf
  exact ⟨_,aJ6 (bO z8) b0J ⟨.inl (g9 rfl),.inl (g9 rfl),.inl ⟨rfl,rfl,rfl⟩,.inl rfl,.inl (g9 rfl),.inl rfl,.inl rfl,.inr (au1 fun i hi=>a7u hi),.inl rfl,.inl rfl,trivial⟩⟩
 refine w8 c8 _ ?_
 conv=>whnf
 repeat' (first|refine zz ?_|refine qp pt ?_|refine qp ra ?_|refine zd ?_ ?_<;>intro h<;>try omega|refine zy ?_|fail)<;>conv=>whnf
 all_goals first
  |omega
  |exact ⟨[],rfl,rfl,trivial,⟨⟨rfl,rfl,rfl,rfl,rfl,rfl,rfl,rfl,trivial⟩,rfl,trivial⟩⟩
def aA7 (A:Nat->List T) (g:Nat->List Int) (B:Nat->List T) (id:Nat) (i:Nat):List C:=(A i).map .t++.own id 0 (g i).length true::(B i).map .t
def a26 (n:Nat) (A:Nat->List T) (g:Nat->List Int) (B:Nat->List T):List (List C):=(List.range n).map fun i=>aA7 A g B (i+1) i
def b86 (el:TypeId) (size n:Nat) (A:Nat->List T) (g:Nat->List Int) (B:Nat->List T):Blk:={ mode:=.live,elem:=el,size:=size,rows:=a26 n A g B,box:=false }
def X5 (el:TypeId) (size n:Nat) (A:Nat->List T) (g:Nat->List Int) (B:Nat->List T):Hp:=b86 el size n A g B::(List.range n).map fun i=>o4 (g i)
theorem Y3 {n:Nat} {A:Nat->List T} {g:Nat->List Int} {B:Nat->List T}:(a26 n A g B).length=n:=by simp [a26]
theorem a23 {n i:Nat} {A:Nat->List T} {g:Nat->List Int} {B:Nat->List T} (h:i<n):(a26 n A g B)[i]? =some (aA7 A g B (i+1) i):=by simp [a26,h]
theorem a70 {el:TypeId} {size n:Nat} {A:Nat->List T} {g:Nat->List Int} {B:Nat->List T}:(X5 el size n A g B).length=n+1:=by simp [X5]
def a81 (n j N:Nat):List (Option Nat):=(List.range (n+1)).map fun i=>some (if i=j+1 then N else i)
theorem U5 {n j N i:Nat} (h:i<n+1):(a81 n j N)[i]? =some (some (if i=j+1 then N else i)):=by simp [a81,h]
theorem am6 {n j N:Nat}:(a81 n j N).length=n+1:=by simp [a81]
theorem K7 {ρ:List (Option Nat)} {H:Hp}:∀l:List T,a2u ρ H (l.map C.t) (l.map C.t)
 |[]=>trivial
 |x::r=>⟨a0E x,K7 r⟩
theorem a3t {ρ:List (Option Nat)} {H:Hp}:∀{a b c d:List C},a2u ρ H a b->a2u ρ H c d->a2u ρ H (a++c) (b++d)
 |[],[],_,_,_,h=>h
 |x::a,y::b,_,_,h1,h2=>⟨h1.1,a3t h1.2 h2⟩
 |[],_::_,_,_,h,_=>h.elim
 |_::_,[],_,_,h,_=>h.elim
theorem a4L {ρ:List (Option Nat)} {H:Hp}:∀{xs ys:List (List C)},xs.length=ys.length->(∀ (i:Nat) (x y:List C),xs[i]? =some x->ys[i]? =some y->a2u ρ H x y)->a39 ρ H xs ys
 |[],[],_,_=>trivial
 |[],_::_,h,_=>by simp at h
 |_::_,[],h,_=>by simp at h
 |x::xs,y::ys,h,hh=>⟨hh 0 x y rfl rfl,a4L (by simpa using h) fun i a b ha hb=>hh (i+1) a b (by simpa using ha) (by simpa using hb)⟩
def a3X (g:Nat->List Int) (j:Nat) (l:List Int):Nat->List Int:=fun i=>if i=j then l else g i
theorem b3C {el:TypeId} {size n j N:Nat} {A:Nat->List T} {g:Nat->List Int} {B:Nat->List T} {l:List Int} {env env':Env} {H:Hp} {k0:Blk} (hj:j<n) (hnN:n<N)
 (h0:H[0]? =some k0) (hk0:k0.mode=.live∧k0.app=false∧k0.elem=el∧k0.size=size) (hr:k0.rows=(a26 n A g B).set j ((A j).map .t++.own N 0 l.length true::(B j).map .t))
 (hm:∀m,m<n->m≠j->H[m+1]? =some (o4 (g m))) (hN:H[N]? =some (o4 l)) (hE:a0c (a81 n j N) H env env'):Ent 0 (a81 n j N) env H env' (X5 el size n A (a3X g j l) B):=by
 refine ⟨rfl,Z6 fun a b m h1 h2=>?_,a4z (by rw [am6,a70]) fun i k' hk=>?_,hE⟩
 ·have ha:=(lg1 h1).1
  have hb:=(lg1 h2).1
  rw [am6] at ha hb
  rw [U5 ha] at h1
  rw [U5 hb] at h2
  simp only [Option.some.injEq] at h1 h2
  split at h1<;>split at h2<;>omega
 ·have hi:=(lg1 hk).1
  rw [a70] at hi
  refine ⟨if i=j+1 then N else i,?_⟩
  cases i with
  |zero=>
   refine ⟨k0,U5 hi,by simpa using h0,?_⟩
   simp [X5] at hk
   subst hk
   obtain ⟨q1,q2,q3,q4⟩:=hk0
   refine ⟨by unfold a1S;rw [q1,q2];rfl,q3,q4,.inr ?_⟩
   rw [hr]
   refine a4L (by rw [List.length_set,Y3];exact Y3.symm) fun a x y hx hy=>?_
   have han:a<n:=by have:=(lg1 hy).1;rw [show (b86 el size n A (a3X g j l) B).rows=a26 n A (a3X g j l) B from rfl,Y3] at this;exact this
   have hy:(a26 n A (a3X g j l) B)[a]? =some y:=hy
   rw [a23 han] at hy
   injection hy with hy
   subst hy
   rw [List.getElem?_set,Y3] at hx
   by_cases haj:j=a
   ·subst haj
    rw [if_pos rfl,if_pos hj] at hx
    injection hx with hx
    subst hx
    unfold aA7
    have e1:a3X g j l j=l:=by simp [a3X]
    rw [e1]
    refine a3t (K7 _) ⟨⟨?_,rfl,rfl,fun h=>h⟩,K7 _⟩
    rw [U5 (by omega),if_pos rfl]
   ·rw [if_neg haj,a23 han] at hx
    injection hx with hx
    subst hx
    unfold aA7
    have e1:a3X g j l a=g a:=by unfold a3X;rw [if_neg (fun h=>haj h.symm)]
    rw [e1]
    refine a3t (K7 _) ⟨⟨?_,rfl,rfl,fun h=>h⟩,K7 _⟩
    rw [U5 (by omega),if_neg (by omega)]
  |succ i=>
   have hin:i<n:=by omega
   have hk:((List.range n).map fun i=>o4 (a3X g j l i))[i]? =some k':=hk
   rw [List.getElem?_map,List.getElem?_range hin] at hk
   injection hk with hk
   subst hk
   by_cases hij:i=j
   ·subst hij
    refine ⟨o4 l,U5 hi,by rw [if_pos rfl];exact hN,?_⟩
    have e1:a3X g i l i=l:=by simp [a3X]
    show a3z _ _ _ (o4 (a3X g i l i))
    rw [e1]
    exact ⟨rfl,rfl,rfl,.inl ⟨rfl,c7 _⟩⟩
   ·refine ⟨o4 (g i),U5 hi,by rw [if_neg (by omega)];exact hm i hin hij,?_⟩
    have e1:a3X g j l i=g i:=by unfold a3X;rw [if_neg hij]
    show a3z _ _ _ (o4 (a3X g j l i))
    rw [e1]
    exact ⟨rfl,rfl,rfl,.inl ⟨rfl,c7 _⟩⟩
def aK0 (id n:Nat):List (Option Nat):=some id::List.replicate n none
theorem ay4 {ρ:List (Option Nat)} {H:Hp}:∀{n:Nat} {R:List Blk},R.length=n->(∀ k ∈ R,k.rows=[]∧k.mode=.live)->a2Z ρ H (List.replicate n none) R
 |0,[],_,_=>trivial
 |n+1,k::R,h,hh=>⟨hh k (by simp),ay4 (by simpa using h) fun k hk=>hh k (by simp [hk])⟩
 |0,_::_,h,_=>by simp at h
 |n+1,[],h,_=>by simp at h
theorem a9V {H:Hp}:∀{n:Nat},O5 (List.replicate n none) H=true
 |0=>by cases H<;>rfl
 |n+1=>by
  rw [List.replicate_succ]
  cases H with
  |nil=>rfl
  |cons k H=>exact a9V (H:=H)
theorem af5 {m:Nat}:∀{n:Nat} {H:Hp},a3w m (List.replicate n none) H=false
 |0,H=>by cases H<;>rfl
 |n+1,[]=>rfl
 |n+1,k::H=>by
  rw [List.replicate_succ]
  unfold a3w
  rw [af5]
  cases k.mode<;>rfl
theorem b5f {el:TypeId} {size n id:Nat} {A B:Nat->List T} {env env':Env} {H:Hp} {k0:Blk} {s:Nat}
 (h0:H[id]? =some k0) (hk0:k0.mode=.live∧k0.app=false∧k0.elem=el∧k0.size=size) (hr:k0.rows=(List.range n).map fun i=>(A i).map .t++.t (.sl s .nil [])::(B i).map .t)
 (hE:a0c (aK0 id n) H env env'):Ent 0 (aK0 id n) env H env' (X5 el size n A (fun _=>[]) B):=by
 obtain ⟨q1,q2,q3,q4⟩:=hk0
 refine ⟨rfl,?_,⟨?_,?_⟩,hE⟩
 ·unfold aK0 X5 O5
  rw [af5,a9V]
  rfl
 ·simp only [h0]
  refine ⟨by unfold a1S;rw [q1,q2];rfl,q3,q4,.inr ?_⟩
  rw [hr]
  refine a4L (by rw [show (b86 el size n A (fun _=>[]) B).rows=a26 n A (fun _=>[]) B from rfl,Y3];simp) fun a x y hx hy=>?_
  have han:a<n:=by have:=(lg1 hx).1;simpa using this
  have hy:(a26 n A (fun _=>[]) B)[a]? =some y:=hy
  rw [a23 han] at hy
  injection hy with hy
  subst hy
  rw [List.getElem?_map,List.getElem?_range han] at hx
  injection hx with hx
  subst hx
  unfold aA7
  refine a3t (K7 _) ⟨⟨?_,rfl,rfl⟩,K7 _⟩
  show (aK0 id n)[a+1]? =some none
  unfold aK0
  rw [List.getElem?_cons_succ,List.getElem?_replicate,if_pos han]
 ·refine ay4 (by simp) fun k hk=>?_
  obtain ⟨i,_,rfl⟩:=List.mem_map.1 hk
  exact ⟨rfl,rfl⟩
theorem b2G {el:TypeId} {size n:Nat} {A:Nat->List T} {g:Nat->List Int} {B:Nat->List T} {env env':Env}
 (hE:a0c [some 0] (X5 el size n A g B) env env'):Ent 0 [some 0] env (X5 el size n A g B) env' [{ mode:=.live,elem:=el,size:=size,rows:=toC ((List.range n).map fun i=>A i++F8 (g i)::B i),box:=false }]:=by
 refine ⟨rfl,rfl,⟨⟨rfl,rfl,rfl,.inr ?_⟩,trivial⟩,hE⟩
 show a39 _ _ (a26 n A g B) (toC _)
 refine a4L (by rw [Y3];simp [toC]) fun a x y hx hy=>?_
 have han:a<n:=by have:=(lg1 hx).1;rw [Y3] at this;exact this
 rw [a23 han] at hx
 injection hx with hx
 subst hx
 have hy:(((List.range n).map fun i=>A i++F8 (g i)::B i).map (·.map C.t))[a]? =some y:=hy
 rw [List.getElem?_map,List.getElem?_map,List.getElem?_range han] at hy
 injection hy with hy
 subst hy
 show a2u _ _ _ ((A a++F8 (g a)::B a).map C.t)
 rw [List.map_append,List.map_cons]
 unfold aA7
 refine a3t (K7 _) ⟨?_,K7 _⟩
 have hk:(X5 el size n A g B)[a+1]? =some (o4 (g a)):=by simp [X5,han]
 exact show VC _ _ _ _ from t5 (by simp [E1];rfl) hk (by intro h;cases h) rfl rfl (by simp)
theorem b48 {el:TypeId} {size n:Nat} {A:Nat->List T} {g:Nat->List Int} {B:Nat->List T}:∀k ∈ X5 el size n A g B,okB (n+1) k:=by
 intro k hk
 rcases List.mem_cons.1 hk with rfl|hk
 ·intro r hr c hc
  obtain ⟨i,hi,rfl⟩:=List.mem_map.1 hr
  have hi:=List.mem_range.1 hi
  unfold aA7 at hc
  rcases List.mem_append.1 hc with hc|hc
  ·obtain ⟨x,_,rfl⟩:=List.mem_map.1 hc;trivial
  ·rcases List.mem_cons.1 hc with rfl|hc
   ·show i+1<n+1;omega
   ·obtain ⟨x,_,rfl⟩:=List.mem_map.1 hc;trivial
 ·obtain ⟨i,_,rfl⟩:=List.mem_map.1 hk
  exact D5 rfl
theorem b0U {el:TypeId} {size n:Nat} {A:Nat->List T} {g:Nat->List Int} {B:Nat->List T} {env env':Env} {R:Hp} (hE:a0c (idR (n+1)) (X5 el size n A g B++R) env env'):Ent 0 (idR (n+1)) env (X5 el size n A g B++R) env' (X5 el size n A g B):=
 aT4 a70 (Nat.zero_le _) b48 hE
def aS6 (h:Fr) (b:Bool) (gs:List Int) (n:Int):List T:=[ti h.p.sg,F8 h.p.dl,ti h.q.sg,F8 h.q.dl,tb b,F8 gs,ti n]
abbrev b78 (h:Fr) (b:Bool) (gs:List Int) (n:Int):S:=.agg ((aS6 h b gs n).map .t)
def hiF (o:Option (Rat × Rat)):Fr:=match o with
 |some (_,hi)=>fz hi
 |none=>M5
def X6 (e:Ev) (i:Nat):Option (Rat × Rat):=match e.moves[i]? with
 |some x=>C3 e x
 |none=>none
theorem a5S {e:Ev} {i:Nat} {x:p6} (h:e.moves[i]? =some x):X6 e i=C3 e x:=by unfold X6;rw [h]
def Q2 (t:e7) (kind:Int) (i:Nat):List T:=aS6 (hiF (X6 t.ev i)) (X6 t.ev i).isSome (g7 t.finds kind i) (j1 t.cleans kind i)
abbrev a1d (t:e7) (kind:Int):T:=.sl 7 .any ((List.range t.ev.moves.length).map (Q2 t kind))
def a5l (b:Bool) (hi:Rat) (gs:List Int) (n:Int) (z:Rat):Int:=if b=true∧hi<z then 20 else if gs.any (fun g=>decide (z<(g:Rat))) then 24 else if 0<n∧z≠0 then 13 else 0
set_option maxHeartbeats 2000000 in
theorem b1F (H:Fr) (b:Bool) (hi:Rat) (gs:List Int) (n:Int) (z:Rat) (hH:b=true->H=fz hi∧rl hi<=200) (hz:rl z<=200) (hg:∀g ∈ gs,1<=g∧g<=1099511627776) (hl:gs.length<=1000000):
 a9 Tryz.prog 71 [b78 H b gs n,frS (fz z)] [] (a7 .i64 (a5l b hi gs n z)) []:=by
 have m1:(gs.map d9).length=gs.length:=by simp
 have c:b=true->a9 Tryz.prog 68 [frS (fz z),frS H] [] (a7 .i64 (Z0 z hi)) []:=fun hb=>by
  rw [(hH hb).1];have:=(hH hb).2;exact a37 z hi (by omega) (by omega)
 have cg:=a6a (x:=z) (y:=hi)
 have sg:=a4y z (by omega)
 have sz:=a1X (x:=z)
 by_cases hcap:b=true∧hi<z
 ·have e1:a5l b hi gs n z=20:=by unfold a5l;rw [if_pos hcap]
  have c1:=c hcap.1
  rw [e1]
  have h1:Z0 z hi > 0:=cg.2 hcap.2
  clear c
  obtain ⟨rfl,_⟩:=hcap
  (refine ac Tryz.func71 ?_;(conv=>whnf);repeat ((first|refine b0x ?_|refine zy ?_);conv=>whnf))
  repeat' (first|refine zz ?_|refine qp c1 ?_|refine zd ?_ ?_<;>intro h<;>try omega|refine zy ?_|fail)<;>conv=>whnf
  all_goals first
   |omega
   |exact i6 rfl
 have e1:a5l b hi gs n z=if gs.any (fun g=>decide (z<(g:Rat))) then 24 else if 0<n∧z≠0 then 13 else 0:=by unfold a5l;rw [if_neg hcap]
 rw [e1]
 clear e1
 have h1:b=true->¬Z0 z hi > 0:=fun hb h=>hcap ⟨hb,cg.1 h⟩
 clear cg hcap
 cases b
 case' true=>
  have c1:=c rfl
  have h2:=h1 rfl
 case' false=>
  have c1:=sg
  have h2:=True.intro
 all_goals
  clear c h1
  (refine ac Tryz.func71 ?_;(conv=>whnf);repeat ((first|refine b0x ?_|refine zy ?_);conv=>whnf))
  repeat' (first|refine zz ?_|refine qp c1 ?_|refine zd ?_ ?_<;>intro h<;>try omega|refine zy ?_|fail)<;>conv=>whnf
  all_goals try omega
  refine d6 c8 (fun k=>([J,J,S.c (C.t (T.ptr (aS6 H _ gs n))),S.c (C.t (T.ptr (j5 (fz z)))),J,J,J,J,J,J,J,J,J,J,J,J,J,S.c (C.t (F8 gs)),a7 .i64 gs.length,a7 .i64 k,J,J,J,J,J,J,J,J,J,J,J,J,J,J,J,J,J],[])) gs.length (fun k=>(gs.take k).any (fun g=>decide (z<(g:Rat)))=false) [] rfl
   ⟨rfl,rfl,trivial,⟨rfl,rfl,rfl,c6 (by simp),rfl,trivial⟩⟩ ?_
  intro k hk hI
  by_cases hlt:k<gs.length
  ·obtain ⟨g,hgk⟩:∃g,gs[k]? =some g:=⟨_,lg0 hlt⟩
   have bg:=hg g (lg2 hgk)
   have fi:=G7 g (by omega) (by omega)
   have rg:rl (g:Rat)<=4:=by rw [a1c];have:=P6 (x:=g) (by omega) (by omega);omega
   have cm:=a37 z (g:Rat) (by omega) (by omega)
   have cl:=a5E (x:=z) (y:=(g:Rat))
   by_cases hzg:z<(g:Rat)
   ·have h2:=cl.2 hzg
    rw [a34 hgk (by simpa using hzg),if_pos rfl]
    conv=>whnf
    repeat' (first|refine zz ?_|refine qp fi ?_|refine qp cm ?_|refine b8 hgk ?_|refine zd ?_ ?_<;>intro h<;>try omega|refine zy ?_|fail)<;>conv=>whnf
    all_goals first
     |omega
     |exact i6 rfl
   ·have h2:¬Z0 z (g:Rat)<0:=fun h=>hzg (cl.1 h)
    conv=>whnf
    repeat' (first|refine zz ?_|refine qp fi ?_|refine qp cm ?_|refine b8 hgk ?_|refine zd ?_ ?_<;>intro h<;>try omega|refine zy ?_|fail)<;>conv=>whnf
    all_goals first
     |omega
     |exact ⟨hlt,by rw [a05 hgk,hI];simpa using hzg,[],rfl,rfl,trivial,⟨rfl,rfl,rfl,rfl,rfl,trivial⟩⟩
  ·rw [lg4 (by omega)] at hI
   rw [hI,if_neg (by simp)]
   by_cases h3:0<n∧z≠0
   ·rw [if_pos h3]
    have h4:sgR z≠0:=fun h=>h3.2 (sz.1 h)
    obtain ⟨h5,_⟩:=h3
    conv=>whnf
    repeat' (first|refine zz ?_|refine qp sg ?_|refine zd ?_ ?_<;>intro h<;>try omega|refine zy ?_|fail)<;>conv=>whnf
    all_goals first
     |omega
     |exact i6 rfl
   ·rw [if_neg h3]
    have h4:n<=0∨sgR z=0:=by
     by_cases h5:0<n
     ·refine .inr (sz.2 ?_)
      by_cases h6:z=0
      ·exact h6
      ·exact absurd ⟨h5,h6⟩ h3
     ·exact .inl (by omega)
    conv=>whnf
    repeat' (first|refine zz ?_|refine qp sg ?_|refine zd ?_ ?_<;>intro h<;>try omega|refine zy ?_|fail)<;>conv=>whnf
    all_goals first
     |omega
     |exact i6 rfl
theorem b2w {t:e7} {kind:Int} {i:Nat} {x:p6} (hx:t.ev.moves[i]? =some x) {z hi:Rat} (hh:∀lo hi',X6 t.ev i=some (lo,hi')->hi'=hi):
 a5l (X6 t.ev i).isSome hi (g7 t.finds kind i) (j1 t.cleans kind i) z=a03 t kind i x z:=by
 unfold a5l a03
 rw [a5S hx] at hh ⊢
 cases hiv:C3 t.ev x with
 |none=>
  simp only [Option.isSome_none,Bool.false_eq_true,false_and,if_false,ad8,reduceCtorEq]
  have:(0<(j1 t.cleans kind i:Int))↔0<j1 t.cleans kind i:=by omega
  simp only [this]
 |some p=>
  obtain ⟨lo,hi'⟩:=p
  have:=hh lo hi' hiv
  subst this
  have e1:(ad8 (some (lo,hi')) z=false)↔hi'<z:=by
   unfold ad8
   rw [decide_eq_false_iff_not];exact Rat.not_le
  have e2:(0<(j1 t.cleans kind i:Int))↔0<j1 t.cleans kind i:=by omega
  simp only [Option.isSome_some,true_and,e1,e2]
def kn1 (e:Ev) (k i:Nat):List T:=
 let h:=if i<k then hiF (X6 e i) else M5
 [ti h.p.sg,F8 h.p.dl,ti h.q.sg,F8 h.q.dl,tb (decide (i<k) && (X6 e i).isSome),.sl 0 .nil [],ti 0]
abbrev knB (rows:List (List T)):Blk:={ mode:=.live,elem:=119,size:=7,rows:=toC rows,box:=false }
theorem aG3 {e:Ev} {k i:Nat} (h:i≠k):kn1 e (k+1) i=kn1 e k i:=by
 unfold kn1
 by_cases h1:i<k
 ·simp only [if_pos h1,if_pos (show i<k+1 by omega),h1,show i<k+1 by omega]
 ·simp only [if_neg h1,if_neg (show ¬i<k+1 by omega),h1,show ¬i<k+1 by omega]
theorem aY5 {e:Ev} {k n:Nat} (h:k<n):(toC ((List.range n).map (kn1 e k))).set k ((kn1 e (k+1) k).map C.t)=toC ((List.range n).map (kn1 e (k+1))):=by
 apply List.ext_getElem?
 intro i
 unfold toC
 rw [List.getElem?_set,List.getElem?_map,List.getElem?_map,List.getElem?_map]
 by_cases hi:k=i
 ·subst hi
  rw [if_pos rfl]
  simp [h]
 ·rw [if_neg hi,List.getElem?_map]
  cases hr:(List.range n)[i]? with
  |none=>rfl
  |some j=>
   have:j=i:=by
    obtain ⟨h1,h2⟩:=lg1 hr
    simp at h2;omega
   subst this
   show some ((kn1 e k j).map C.t)=some ((kn1 e (k+1) j).map C.t)
   rw [aG3 (fun h=>hi h.symm)]
theorem aH6 {e:Ev} {k:Nat} (h:X6 e k=none):kn1 e (k+1) k=kn1 e k k:=by
 unfold kn1
 simp only [if_pos (show k<k+1 by omega),if_neg (show ¬k<k by omega),h]
 simp [hiF]
theorem ao3 {e:Ev} {k n:Nat} (h:X6 e k=none):(List.range n).map (kn1 e (k+1))=(List.range n).map (kn1 e k):=List.map_congr_left fun i _=>by
 by_cases hi:i=k
 ·subst hi;exact aH6 h
 ·exact aG3 hi
theorem b4p {e:Ev} {n:Nat} {ρ:List (Option Nat)} {H:Hp}:a39 ρ H (List.replicate n [C.t (ti 0),C.t (.sl 0 .nil []),C.t (ti 0),C.t (.sl 0 .nil []),C.t (tb false),C.t (.sl 0 .nil []),C.t (ti 0)]) (toC ((List.range n).map (kn1 e 0))):=by
 refine a4L (by simp [toC]) fun i x y hx hy=>?_
 have hi:i<n:=by have:=(lg1 hx).1;simpa using this
 rw [List.getElem?_replicate,if_pos hi] at hx
 injection hx with hx
 subst hx
 unfold toC at hy
 rw [List.getElem?_map,List.getElem?_map,List.getElem?_range hi] at hy
 injection hy with hy
 subst hy
 show a2u _ _ _ ((kn1 e 0 i).map C.t)
 unfold kn1
 simp only [if_neg (show ¬i<0 by omega)]
 exact ⟨rfl,rfl,rfl,rfl,rfl,rfl,rfl,trivial⟩
def knA (e:Ev) (i:Nat):List T:=[ti (hiF (X6 e i)).p.sg,F8 (hiF (X6 e i)).p.dl,ti (hiF (X6 e i)).q.sg,F8 (hiF (X6 e i)).q.dl,tb (X6 e i).isSome]
def C6 (t:e7) (kind:Int) (k i:Nat):List Int:=g7 (t.finds.take k) kind i
theorem a6l (l:List L7) (f:L7) (kind:Int) (i:Nat):g7 (l++[f]) kind i=if f.kind=kind∧f.mv=(i:Int) then g7 l kind i++[f.grams] else g7 l kind i:=by
 rw [a60];split<;>simp
theorem R4 {α:Type} {l:List α} {k:Nat} {x:α} (h:l[k]? =some x):l.take (k+1)=l.take k++[x]:=by rw [List.take_add_one,h];rfl
def kn3 (t:e7) (kind:Int) (k i:Nat):List T:=knA t.ev i++F8 (g7 t.finds kind i)::[ti (j1 (t.cleans.take k) kind i)]
theorem b7t (t:e7) (kind:Int) (k i:Nat):j1 (t.cleans.take k) kind i<=t.cleans.length:=Nat.le_trans (List.length_filter_le _ _) (by simp;omega)
theorem b6q {t:e7} {kind:Int} {n:Nat}:(List.range n).map (kn3 t kind t.cleans.length)=(List.range n).map (Q2 t kind):=List.map_congr_left fun i _=>by
 unfold kn3;rw [lg4 (Nat.le_refl _)];rfl
theorem b3o {t:e7} {kind:Int} {n k:Nat} {c:Q6} (h:t.cleans[k]? =some c) (hk:c.kind≠kind):(List.range n).map (kn3 t kind (k+1))=(List.range n).map (kn3 t kind k):=List.map_congr_left fun i _=>by
 unfold kn3
 rw [R4 h,a07,if_neg (fun h=>hk h.1)];rfl
theorem b60 {t:e7} {kind:Int} {n k m:Nat} {c:Q6} (hm:m<n) (h:t.cleans[k]? =some c) (hk:c.kind=kind) (hmv:c.mv=m):
 (toC ((List.range n).map (kn3 t kind k))).set m ((knA t.ev m++F8 (g7 t.finds kind m)::[ti ((j1 (t.cleans.take k) kind m:Int)+1)]).map C.t)=toC ((List.range n).map (kn3 t kind (k+1))):=by
 have key:∀i,i<n->i≠m->kn3 t kind (k+1) i=kn3 t kind k i:=fun i _ hi=>by
  unfold kn3
  rw [R4 h,a07,if_neg (fun h=>hi (by omega))];rfl
 have own:kn3 t kind (k+1) m=knA t.ev m++F8 (g7 t.finds kind m)::[ti ((j1 (t.cleans.take k) kind m:Int)+1)]:=by
  unfold kn3
  rw [R4 h,a07,if_pos ⟨hk,hmv⟩];rfl
 rw [← own]
 unfold toC
 rw [← List.map_set]
 congr 1
 apply List.ext_getElem?
 intro i
 simp only [List.getElem?_set,List.getElem?_map,List.length_map,List.length_range]
 by_cases hi:m=i
 ·subst hi;simp [hm]
 ·rw [if_neg hi]
  by_cases hin:i<n
  ·rw [List.getElem?_range hin]
   show some _=some _
   rw [key i hin (fun h=>hi h.symm)]
  ·rw [List.getElem?_eq_none (by simp;omega)];rfl
theorem b2Y {l:List Int} {x:Int}:List.take l.length (toC (l.map d9))++toC [[ti x]]=toC ((l++[x]).map d9):=by
 rw [lg4 (by simp [toC])]
 simp [toC,d9]
set_option maxHeartbeats 4000000 in
theorem aV2 (t:e7) (kind:Int) (hs:t.Sized) (h0:z6 t.ev=0) (hf:∀f ∈ t.finds,0<=f.mv∧f.mv<t.ev.moves.length) (hc:∀c ∈ t.cleans,0<=c.mv∧c.mv<t.ev.moves.length):
 a9 Tryz.prog 67 [trS t,a7 .i64 kind] [] (.c (.t (a1d t kind))) []:=by
 obtain ⟨b1,b2,b3,b4⟩:=Q5 h0
 have l1:=hs.f
 have l2:=hs.c
 have m0:(t.ev.moves.map p6.row).length=t.ev.moves.length:=by simp
 have m1:(t.finds.map L7.row).length=t.finds.length:=by simp
 have m2:(t.cleans.map Q6.row).length=t.cleans.length:=by simp
 have s3:=hs.ev.s3
 have s4:=hs.ev.s4
 (refine ac Tryz.func67 ?_;(conv=>whnf);repeat ((first|refine b0x ?_|refine zy ?_);conv=>whnf))
 repeat' (first|refine zz ?_|refine a2q (by omega) (by omega) (by omega) (by decide) ?_|refine zd ?_ ?_<;>intro h<;>try omega|refine zy ?_|fail)<;>conv=>whnf
 refine d6 c8 (fun k=>([J,a7 .i64 kind,S.c (C.t (T.ptr (trT t))),J,J,S.c (C.ptr 0 0 0),S.c (C.own 1 0 t.ev.moves.length true),J,J,J,J,J,J,J,J,J,J,J,J,J,S.c (C.t (a0J t.ev.moves)),a7 .i64 t.ev.moves.length,a7 .i64 k,J,J,J,J,J,J,J,J,J,J,J,J,J,J,J,J,J,J,J,J,J,J,J,J,J,J,J,J,J,J,J,J,J,J,J,J,J,J,J,J,J,J,J,J,J,J,J,J,J,J,J,J,J,J,J,J,J,J,J,J,J,J,J,J,J,J,J,J,J,J,J,J,J,J,J,J,J,J,J,J],[evB t.ev,knB ((List.range t.ev.moves.length).map (kn1 t.ev k))])) t.ev.moves.length (fun _=>True) [some 0,some 1] trivial ?_ ?_
 ·refine ⟨rfl,rfl,⟨⟨rfl,rfl,rfl,.inl ⟨rfl,j4 _⟩⟩,⟨rfl,rfl,rfl,.inr ?_⟩,trivial⟩,⟨rfl,rfl,⟨rfl,rfl,rfl⟩,⟨rfl,rfl,?_,fun h=>h⟩,rfl,c6 (by simp),rfl,trivial⟩⟩
  ·have e9:((((t.ev.moves.map p6.row).length:Nat):Int)).toNat=t.ev.moves.length:=by omega
   rw [← e9]
   exact b4p
  ·omega
 intro k hk _
 by_cases hlt:k<t.ev.moves.length
 ·obtain ⟨x,hx⟩:∃x,t.ev.moves[k]? =some x:=⟨_,lg0 hlt⟩
  have iv:=aO7 t.ev.certs t.ev.recalls (by omega) (by omega) x.scale x.reading x.day
  have eK:0+(k:Int).toNat=k:=by omega
  have hk0:(List.range t.ev.moves.length)[0+(k:Int).toNat]? =some k:=by rw [eK,List.getElem?_range hlt]
  have gs:∀c,((knB ((List.range t.ev.moves.length).map (kn1 t.ev k))).rows.set (0+(k:Int).toNat) c)[0+(k:Int).toNat]? =some c:=fun c=>by
   rw [List.getElem?_set_self]
   show _<(toC _).length
   simp [toC];omega
  by_cases hsc:x.scale=-1
  ·have hn:X6 t.ev k=none:=by rw [a5S hx];unfold C3;rw [if_pos hsc]
   have e1:=ao3 (n:=t.ev.moves.length) hn
   conv=>whnf
   repeat' (first|refine zz ?_|refine b8 hx ?_|refine zd ?_ ?_<;>intro h<;>try omega|refine zy ?_|fail)<;>conv=>whnf
   all_goals try omega
   refine ⟨hlt,trivial,[some 0,some 1],rfl,rfl,⟨⟨rfl,rfl,rfl,.inl ⟨rfl,j4 _⟩⟩,a8 rfl rfl rfl ?_ rfl,trivial⟩,⟨rfl,rfl,⟨rfl,rfl,rfl⟩,⟨rfl,rfl,rfl,fun h=>h⟩,rfl,rfl,rfl,trivial⟩⟩
   rw [e1]
  ·have hiv:X6 t.ev k=H6 t.ev.certs t.ev.recalls x.scale x.reading x.day:=by rw [a5S hx];unfold C3;rw [if_neg hsc]
   rw [← hiv] at iv
   cases hi:X6 t.ev k with
   |none=>
    rw [hi] at iv
    have er:(kn1 t.ev (k+1) k).map C.t=frC M5++[C.t (tb false),C.t (.sl 0 .nil []),C.t (ti 0)]:=by rw [aH6 hi];simp [kn1]
    conv=>whnf
    repeat' (first|refine zz ?_|refine qp iv ?_|refine qp (2,3,18) ?_|refine b8 hx ?_|refine j6 hk0 ?_|refine ⟨_,gs _,?_⟩|refine bl0 [2,3,18] ?_|refine zd ?_ ?_<;>intro h<;>try omega|refine zy ?_|fail)<;>conv=>whnf
    all_goals try omega
    refine ⟨hlt,trivial,[some 0,some 1],rfl,rfl,⟨⟨rfl,rfl,rfl,.inl ⟨rfl,j4 _⟩⟩,a8 rfl rfl rfl ?_ rfl,trivial⟩,⟨rfl,rfl,⟨rfl,rfl,rfl⟩,⟨rfl,rfl,rfl,fun h=>h⟩,rfl,rfl,rfl,trivial⟩⟩
    have e2:=aY5 (e:=t.ev) hlt
    rw [er] at e2
    rw [← e2]
    show ((toC _).set (0+(k:Int).toNat) _).set (0+(k:Int).toNat) _=_
    rw [List.set_set,eK]
    rfl
   |some p=>
    obtain ⟨lo,hi'⟩:=p
    rw [hi] at iv
    have er:(kn1 t.ev (k+1) k).map C.t=frC (fz hi')++[C.t (tb true),C.t (.sl 0 .nil []),C.t (ti 0)]:=by simp [kn1,hi,hiF]
    conv=>whnf
    repeat' (first|refine zz ?_|refine qp iv ?_|refine qp (2,3,18) ?_|refine b8 hx ?_|refine j6 hk0 ?_|refine ⟨_,gs _,?_⟩|refine bl0 [2,3,18] ?_|refine zd ?_ ?_<;>intro h<;>try omega|refine zy ?_|fail)<;>conv=>whnf
    all_goals try omega
    refine ⟨hlt,trivial,[some 0,some 1],rfl,rfl,⟨⟨rfl,rfl,rfl,.inl ⟨rfl,j4 _⟩⟩,a8 rfl rfl rfl ?_ rfl,trivial⟩,⟨rfl,rfl,⟨rfl,rfl,rfl⟩,⟨rfl,rfl,rfl,fun h=>h⟩,rfl,rfl,rfl,trivial⟩⟩
    have e2:=aY5 (e:=t.ev) hlt
    rw [er] at e2
    rw [← e2]
    show ((toC _).set (0+(k:Int).toNat) _).set (0+(k:Int).toNat) _=_
    rw [List.set_set,eK]
    rfl
 ·conv=>whnf
  repeat' (first|refine zz ?_|refine zd ?_ ?_<;>intro h<;>try omega|refine zy ?_|fail)<;>conv=>whnf
  all_goals try omega
  have e0:C6 t kind 0=fun _=>[]:=by funext i;simp [C6,g7]
  refine d6 c8 (fun k=>([J,a7 .i64 kind,S.c (C.t (T.ptr (trT t))),J,J,J,S.c (C.own 0 0 t.ev.moves.length true),J,J,J,J,J,J,J,J,J,J,J,J,J,J,J,J,J,J,J,J,J,J,J,J,J,J,J,J,J,J,J,J,J,J,J,J,J,J,J,J,J,J,J,J,J,J,J,J,S.c (C.t (a9R t.finds)),a7 .i64 t.finds.length,a7 .i64 k,J,J,J,J,J,J,J,J,J,J,J,J,J,J,J,J,J,J,J,J,J,J,J,J,J,J,J,J,J,J,J,J,J,J,J,J,J,J,J,J,J,J,J,J,J],X5 119 7 t.ev.moves.length (knA t.ev) (C6 t kind k) (fun _=>[ti 0]))) t.finds.length (fun _=>True) (aK0 1 t.ev.moves.length) trivial ?_ ?_
  ·have hke:k=t.ev.moves.length:=by omega
   subst hke
   refine (?_:Ent 0 (aK0 1 t.ev.moves.length) _ _ _ (X5 119 7 t.ev.moves.length (knA t.ev) (C6 t kind 0) (fun _=>[ti 0])))
   rw [e0]
   refine b5f (k0:=knB ((List.range t.ev.moves.length).map (kn1 t.ev t.ev.moves.length))) (s:=0) rfl ⟨rfl,rfl,rfl,rfl⟩ ?_ ?_
   ·show toC _=_
    unfold toC
    rw [List.map_map]
    refine List.map_congr_left fun i hi=>?_
    have:=List.mem_range.1 hi
    simp [kn1,knA,this]
   ·exact ⟨rfl,rfl,⟨rfl,rfl,rfl,fun h=>h⟩,g9 rfl,c6 (by simp),rfl,trivial⟩
  intro j hj _
  by_cases hjt:j<t.finds.length
  ·obtain ⟨f,hfj⟩:∃f,t.finds[j]? =some f:=⟨_,lg0 hjt⟩
   obtain ⟨f1,f2⟩:=hf f (lg2 hfj)
   obtain ⟨m,hm⟩:∃m:Nat,f.mv=m:=⟨f.mv.toNat,by omega⟩
   have hmn:m<t.ev.moves.length:=by omega
   have eM:0+f.mv.toNat=m:=by omega
   have rL:(List.range t.ev.moves.length).length=t.ev.moves.length:=by simp
   have rG:(List.range t.ev.moves.length)[m]? =some m:=List.getElem?_range hmn
   have gR:(a26 t.ev.moves.length (knA t.ev) (C6 t kind j) (fun _=>[ti 0]))[0+f.mv.toNat]? =some (aA7 (knA t.ev) (C6 t kind j) (fun _=>[ti 0]) (m+1) m):=by rw [eM];exact a23 hmn
   have gl:(C6 t kind j m).length<=t.finds.length:=by
    unfold C6 g7
    rw [List.length_map]
    exact Nat.le_trans (List.length_filter_le _ _) (by simp;omega)
   have hbox:∀(fB:Nat->Blk) (dead nb fb:Blk),(((((List.range t.ev.moves.length).map fB++[fb]).set m dead)++[nb])[t.ev.moves.length]?)=some fb:=fun fB dead nb fb=>by
    rw [List.getElem?_append_left (by simp),List.getElem?_set,if_neg (by omega),List.getElem?_append_right (by simp)]
    simp
   have hnew:∀(fB:Nat->Blk) (dead nb fb:Blk),(((((List.range t.ev.moves.length).map fB++[fb]).set m dead)++[nb])[t.ev.moves.length+1]?)=some nb:=fun fB dead nb fb=>by
    rw [List.getElem?_append_right (by simp)]
    simp
   have hold:∀(fB:Nat->Blk) (dead nb fb:Blk) (p:Nat),p<t.ev.moves.length->p≠m->(((((List.range t.ev.moves.length).map fB++[fb]).set m dead)++[nb])[p]?)=some (fB p):=fun fB dead nb fb p hp hpm=>by
    rw [List.getElem?_append_left (by simp;omega),List.getElem?_set,if_neg (by omega),List.getElem?_append_left (by simpa using hp),List.getElem?_map,List.getElem?_range hp];rfl
   by_cases hkd:f.kind=kind
   ·conv=>whnf
    repeat' (first|refine zz ?_|refine qp toC ?_|refine qp toC ?_|refine qp (0,1,2) ?_|refine b8 hfj ?_|refine j2 rL ?_|refine a3K rL ?_|refine E4 ?_|refine a3c ?_|refine ⟨_,gR,?_⟩|refine a8o (hbox _ _ _ _) ?_|refine U9 rG ?_|refine az7 rG ?_|refine B6 rL ?_|refine g6 rL ?_|refine a6P rL ?_|refine g8 rL ?_|refine au3 ?_|refine o7 (by simp [toC]) (by simp [toC];omega) ?_|refine bl0 [0,1,2] ?_|refine zd ?_ ?_<;>intro h<;>try omega|refine zy ?_|fail)<;>conv=>whnf
    all_goals try omega
    refine ⟨hjt,trivial,a81 t.ev.moves.length m (t.ev.moves.length+2),?_⟩
    refine (?_:Ent 0 (a81 t.ev.moves.length m (t.ev.moves.length+2)) _ _ _ (X5 119 7 t.ev.moves.length (knA t.ev) (C6 t kind (j+1)) (fun _=>[ti 0])))
    have eg:C6 t kind (j+1)=a3X (C6 t kind j) m (C6 t kind j m++[f.grams]):=by
     funext i
     unfold C6 a3X
     rw [R4 hfj,a6l]
     by_cases hi:i=m
     ·subst hi;rw [if_pos ⟨hkd,hm⟩,if_pos rfl]
     ·rw [if_neg (fun h=>hi (by omega)),if_neg hi]
    rw [eg]
    refine b3C hmn (by omega) rfl ⟨rfl,rfl,rfl,rfl⟩ ?_ ?_ ?_ ?_
    ·show (a26 _ _ _ _).set (0+f.mv.toNat) _=_
     rw [eM,List.length_append]
     rfl
    ·intro p hp hpm
     exact hold _ _ _ _ p hp hpm
    ·refine (hnew _ _ _ _).trans ?_
     show some (Blk.mk .live _ 1 (List.take _ (toC ((C6 t kind j m).map d9))++toC [[ti f.grams]]) false false)=_
     rw [b2Y]
    ·exact ⟨rfl,rfl,⟨by rw [U5 (by omega)];rfl,rfl,rfl,fun h=>h⟩,rfl,rfl,rfl,trivial⟩
   ·conv=>whnf
    repeat' (first|refine zz ?_|refine b8 hfj ?_|refine j2 rL ?_|refine a3K rL ?_|refine E4 ?_|refine a3c ?_|refine B6 rL ?_|refine g6 rL ?_|refine a6P rL ?_|refine g8 rL ?_|refine zd ?_ ?_<;>intro h<;>try omega|refine zy ?_|fail)<;>conv=>whnf
    all_goals try omega
    refine ⟨hjt,trivial,idR (t.ev.moves.length+1),?_⟩
    refine (?_:Ent 0 (idR (t.ev.moves.length+1)) _ (X5 119 7 t.ev.moves.length (knA t.ev) (C6 t kind j) (fun _=>[ti 0])++_) _ (X5 119 7 t.ev.moves.length (knA t.ev) (C6 t kind (j+1)) (fun _=>[ti 0])))
    have eg:C6 t kind (j+1)=C6 t kind j:=by
     funext i
     unfold C6
     rw [R4 hfj,a6l,if_neg (fun h=>hkd h.1)]
    rw [eg]
    exact b0U ⟨rfl,rfl,⟨l9 (by omega),rfl,rfl,fun h=>h⟩,rfl,rfl,rfl,trivial⟩
  ·have hje:j=t.finds.length:=by omega
   subst hje
   have rL:(List.range t.ev.moves.length).length=t.ev.moves.length:=by simp
   conv=>whnf
   repeat' (first|refine zz ?_|refine E4 ?_|refine a3c ?_|refine a3K rL ?_|refine zd ?_ ?_<;>intro h<;>try omega|refine zy ?_|fail)<;>conv=>whnf
   all_goals try omega
   have eg:C6 t kind t.finds.length=g7 t.finds kind:=by funext i;unfold C6;rw [lg4 (Nat.le_refl _)]
   rw [eg]
   refine d6 c8 (fun k=>([J,a7 .i64 kind,J,J,J,J,S.c (C.own 0 0 t.ev.moves.length true),J,J,J,J,J,J,J,J,J,J,J,J,J,J,J,J,J,J,J,J,J,J,J,J,J,J,J,J,J,J,J,J,J,J,J,J,J,J,J,J,J,J,J,J,J,J,J,J,J,J,J,J,J,J,J,J,J,J,J,J,J,J,J,J,J,J,J,J,J,J,J,J,J,J,J,S.c (C.t (a1C t.cleans)),a7 .i64 t.cleans.length,a7 .i64 k,J,J,J,J,J,J,J,J,J,J,J,J,J,J,J,J,J,J],[knB ((List.range t.ev.moves.length).map (kn3 t kind k))])) t.cleans.length (fun _=>True) [some 0] trivial ?_ ?_
   ·exact b2G (g:=g7 t.finds kind) ⟨rfl,⟨rfl,rfl,rfl,fun h=>h⟩,g9 rfl,c6 (by simp),rfl,trivial⟩
   intro q hq _
   by_cases hqt:q<t.cleans.length
   ·obtain ⟨c,hcq⟩:∃c,t.cleans[q]? =some c:=⟨_,lg0 hqt⟩
    obtain ⟨g1,g2⟩:=hc c (lg2 hcq)
    obtain ⟨m,hm⟩:∃m:Nat,c.mv=m:=⟨c.mv.toNat,by omega⟩
    have hmn:m<t.ev.moves.length:=by omega
    have eM:0+c.mv.toNat=m:=by omega
    have hk0:(List.range t.ev.moves.length)[0+c.mv.toNat]? =some m:=by rw [eM];exact List.getElem?_range hmn
    have cb:=b7t t kind q m
    by_cases hkd:c.kind=kind
    ·conv=>whnf
     repeat' (first|refine zz ?_|refine b8 hcq ?_|refine j6 hk0 ?_|refine zd ?_ ?_<;>intro h<;>try omega|refine zy ?_|fail)<;>conv=>whnf
     all_goals try omega
     refine ⟨hqt,trivial,[some 0],rfl,rfl,⟨a8 rfl rfl rfl ?_ rfl,trivial⟩,⟨rfl,⟨rfl,rfl,rfl,fun h=>h⟩,rfl,rfl,rfl,trivial⟩⟩
     show (toC _).set (0+c.mv.toNat) _=_
     rw [eM,←b60 hmn hcq hkd hm]
     rfl
    ·have e3:=b3o (t:=t) (kind:=kind) (n:=t.ev.moves.length) hcq hkd
     conv=>whnf
     repeat' (first|refine zz ?_|refine b8 hcq ?_|refine j6 hk0 ?_|refine zd ?_ ?_<;>intro h<;>try omega|refine zy ?_|fail)<;>conv=>whnf
     all_goals try omega
     refine ⟨hqt,trivial,[some 0],rfl,rfl,⟨a8 rfl rfl rfl ?_ rfl,trivial⟩,⟨rfl,⟨rfl,rfl,rfl,fun h=>h⟩,rfl,rfl,rfl,trivial⟩⟩
     rw [e3]
   ·have hqe:q=t.cleans.length:=by omega
    subst hqe
    conv=>whnf
    repeat' (first|refine zz ?_|refine zd ?_ ?_<;>intro h<;>try omega|refine zy ?_|fail)<;>conv=>whnf
    all_goals try omega
    rw [b6q]
    exact Q3 (k:=knB ((List.range t.ev.moves.length).map (Q2 t kind))) rfl (by intro h;cases h) rfl rfl (by simp)
abbrev O8 (l:List (Int × Rat)):Blk:={ mode:=.live,elem:=132,size:=5,rows:=toC (l.map i9),box:=false }
abbrev J2 (l:List B1):Blk:={ mode:=.live,elem:=143,size:=6,rows:=toC (l.map w5),box:=false }
abbrev a21 (n:Int) (id len:Nat):Blk:={ mode:=.live,elem:=70,size:=2,rows:=[[.t (ti n),.own id 0 len true]],box:=true }
abbrev b6F (id len:Nat) (kind:Int):Blk:={ mode:=.live,elem:=143,size:=6,rows:=[.own id 0 len true::.t (ti kind)::frC (fz zR)],box:=true }
abbrev b4V (x:p6):Blk:={ mode:=.live,elem:=79,size:=6,rows:=[x.row.map .t],box:=true }
theorem a2w (x:p6):G4 [x.row.map C.t]:=by simp [G4,p6.row,C.isT]
abbrev b6x:Blk:={ mode:=.live,elem:=143,size:=6,rows:=[.t (a6I [])::.t (ti 0)::frC M5],box:=true }
abbrev b07 (el:TypeId) (size:Nat):Blk:=⟨.dead,el,size,[],false,false⟩
theorem a0F {l:List B1} {w:B1} {n:Nat} (h:n=l.length):List.take n (toC (l.map w5))++toC [w5 w]=toC ((l++[w]).map w5):=by
 rw [lg4 (by simp [toC,h])]
 simp [toC]
set_option maxHeartbeats 4000000 in
theorem b7L (n:Int) (rows:List B1) (hr:rows.length<=1000000) (mv:Nat) (kind:Int) (v:Rat):
 a9 Tryz.prog 128 [a7 .i64 mv,a7 .i64 kind,frS (fz v),.c (.ptr 0 0 0)] [a21 n 1 rows.length,J2 rows] (.tup []) [a21 n 2 (rows.length+1),b07 143 6,J2 (rows++[n6 mv kind v])]:=by
 have i1:=G7 1 (by decide) (by decide)
 (refine ac Tryz.func128 ?_;(conv=>whnf);repeat ((first|refine b0x ?_|refine zy ?_);conv=>whnf))
 repeat' (first|refine zz ?_|refine qp i1 ?_|refine qp toC ?_|refine qp toC ?_|refine a3n.weak ?_|refine o7 (by simp [toC]) (by simp [toC];omega) ?_|refine zd ?_ ?_<;>intro h<;>try omega|refine zy ?_|fail)<;>conv=>whnf
 refine ⟨⟨[some 0,some 1,some 2],rfl,rfl,⟨⟨rfl,rfl,rfl,.inr ⟨⟨rfl,⟨rfl,rfl,rfl,fun h=>h⟩,trivial⟩,trivial⟩⟩,⟨rfl,rfl,rfl,.inl ⟨rfl,by simp [G4]⟩⟩,a8 rfl rfl rfl ?_ rfl,trivial⟩,trivial⟩⟩
 show List.take rows.length (toC (rows.map w5))++toC [w5 (n6 mv kind v)]=_
 exact a0F rfl
theorem b7X {H:Hp} {id:Nat} {n:Int} {rows:List B1} (hs:H[2]? =some (a21 n id rows.length)) (hid:H[id]? =some (J2 rows)) (hne:id≠2) (hr:rows.length<=1000000) (mv:Nat) (kind:Int) (v:Rat):
 a9 Tryz.prog 128 [a7 .i64 mv,a7 .i64 kind,frS (fz v),.c (.ptr 2 0 0)] H (.tup []) (((H.set 2 (a21 n H.length (rows.length+1))).set id (b07 143 6))++[J2 (rows++[n6 mv kind v])]):=by
 have h2:2<H.length:=(lg1 hs).1
 have hi:id<H.length:=(lg1 hid).1
 have ex:a3o [2,id] H.length 1=[2,id,H.length]:=by simp [a3o]
 refine U0 [2,id] (b7L n rows hr mv kind v) rfl rfl rfl (by simp;omega) ?_ ?_ (by simp) rfl rfl (by simp) ?_ ?_
 ·intro i k hk
  match i,hk with
  |0,hk=>
   injection hk with hk
   subst hk
   exact ⟨rfl,rfl,by simp [okL,okC],_,hs,⟨rfl,rfl,rfl,rfl,by simp [a7E,a1i,V6]⟩⟩
  |1,hk=>
   injection hk with hk
   subst hk
   exact ⟨rfl,rfl,a2x _,_,hid,D4 rfl⟩
 ·intro k hk
  simp at hk
  rcases hk with rfl|rfl|rfl<;>(intro h;cases h)
 ·intro i k hk
  show ∃k',_[(a3o [2,id] H.length 1).getD i 0]? =some k'∧aq2 (a3o [2,id] H.length 1) k k'
  rw [ex]
  match i,hk with
  |0,hk=>
   injection hk with hk
   subst hk
   refine ⟨a21 n H.length (rows.length+1),?_,⟨rfl,rfl,rfl,rfl,by simp [a7E,a1i,V6]⟩⟩
   show (_++_)[2]? =_
   rw [List.getElem?_append_left (by simp;omega),List.getElem?_set,if_neg (by omega),List.getElem?_set,if_pos rfl,if_pos h2]
  |1,hk=>
   injection hk with hk
   subst hk
   refine ⟨b07 143 6,?_,⟨rfl,rfl,rfl,rfl,rfl⟩⟩
   show (_++_)[id]? =_
   rw [List.getElem?_append_left (by simp;omega),List.getElem?_set,if_pos rfl,if_pos (by simp;omega)]
  |2,hk=>
   injection hk with hk
   subst hk
   refine ⟨J2 (rows++[n6 mv kind v]),?_,D4 rfl⟩
   show (_++_)[H.length]? =_
   rw [List.getElem?_append_right (by simp)]
   simp
 ·intro j hj hjn
  simp at hjn
  rw [List.getElem?_append_left (by simp;omega),List.getElem?_set,if_neg (by omega),List.getElem?_set,if_neg (by omega)]
theorem a0I {l:List (Int × Rat)} {w:Int × Rat} {n:Nat} (h:n=l.length):List.take n (toC (l.map i9))++toC [i9 w]=toC ((l++[w]).map i9):=by
 rw [lg4 (by simp [toC,h])]
 simp [toC]
theorem Q4 {e:Ev} {p:Int} {k:Nat} {y:p6} (h:e.moves[k]? =some y):i7 e p (k+1)=if y.dst=p then i7 e p k++[((k:Int),((1:Int):Rat))] else if y.src=p then i7 e p k++[((k:Int),((-1:Int):Rat))] else i7 e p k:=by rw [i7,h]
theorem a1B {e:Ev} {p:Int}:∀k,(i7 e p k).length<=k
 |0=>by simp [i7]
 |k+1=>by
  have ih:=a1B (e:=e) (p:=p) k
  unfold i7
  cases e.moves[k]? with
  |none=>simp only;omega
  |some y=>
   simp only
   split
   ·simp;omega
   ·split
    ·simp;omega
    ·omega
set_option maxHeartbeats 4000000 in
theorem b5u (e:Ev) (h0:z6 e=0) {i:Nat} {x:p6} (hx:e.moves[i]? =some x):a9 Tryz.prog 129 [evS e,a7 .i64 i] [] (az2 (s9 e i x)) []:=by
 obtain ⟨b1,b2,b3,b4⟩:=Q5 h0
 have hi:i<e.moves.length:=(lg1 hx).1
 have m0:(e.moves.map p6.row).length=e.moves.length:=by simp
 have i0:=G7 0 (by decide) (by decide)
 have i1:=G7 1 (by decide) (by decide)
 have im:=G7 (-1) (by decide) (by decide)
 have tk:(e.moves.map p6.row).take i=(e.moves.take i).map p6.row:=(List.map_take ..).symm
 have tl:(e.moves.take i).length=i:=by simp;omega
 have mt:((e.moves.take i).map p6.row).length=i:=by simp;omega
 cases hal:x.all
 case' false=>have hK:(s9 e i x).kind=0:=by unfold s9;rw [hal];rfl
 case' true=>have hK:(s9 e i x).kind=2:=by unfold s9;rw [hal];rfl
 all_goals
  (refine ac Tryz.func129 ?_;(conv=>whnf);repeat ((first|refine b0x ?_|refine zy ?_);conv=>whnf))
  repeat' (first|refine zz ?_|refine qp i0 ?_|refine b8 hx ?_|refine a3s (by omega) (by omega) (by omega) ?_|refine zd ?_ ?_<;>intro h<;>try omega|refine zy ?_|fail)<;>conv=>whnf
  all_goals first
   |omega
   |(exfalso;simp_all;done)
   |skip
  refine d6 c8 (fun k=>([J,a7 .i64 i,J,J,S.c (C.ptr 0 0 0),S.c (C.ptr 1 0 0),S.c (C.ptr 2 0 0),J,J,J,J,J,J,J,J,J,J,J,J,J,J,J,S.c (C.t (a0J (e.moves.take i))),a7 .i64 i,a7 .i64 k,J,J,J,J,J,J,J,J,J,J,J,J,J,J,J,J,J,J,J,J,J,J,J,J,J,J,J,J,J,J,J,J,J,J,J,J,J,J,J,J],[b6x,b4V x,b6F 3 (i7 e x.src k).length (s9 e i x).kind,O8 (i7 e x.src k)])) i (fun _=>True) [some 0,some 1,some 2,none] trivial ?_ ?_
  ·rw [hK]
   refine ⟨rfl,rfl,⟨⟨rfl,rfl,rfl,.inr ⟨⟨rfl,rfl,rfl,rfl,rfl,rfl,trivial⟩,trivial⟩⟩,⟨rfl,rfl,rfl,.inl ⟨rfl,a2w x⟩⟩,⟨rfl,rfl,rfl,.inr ⟨⟨⟨rfl,rfl,rfl⟩,rfl,rfl,rfl,rfl,rfl,trivial⟩,trivial⟩⟩,⟨rfl,rfl⟩,trivial⟩,⟨rfl,⟨rfl,rfl,rfl⟩,⟨rfl,rfl,rfl⟩,⟨rfl,rfl,rfl⟩,g9 ?_,c6 ?_,rfl,trivial⟩⟩
   ·show T.sl 6 _ (((e.moves.map p6.row).take ((i:Int)).toNat).drop 0)=_
    rw [Int.toNat_natCast,tk];rfl
   ·show ((((e.moves.map p6.row).take ((i:Int)).toNat).drop 0).length:Int)=i
    rw [Int.toNat_natCast,tk,List.drop_zero,mt]
  intro k hk _
  have kl:=a1B (e:=e) (p:=x.src) k
  by_cases hlt:k<i
  ·obtain ⟨y,hy⟩:∃y,e.moves[k]? =some y:=⟨_,lg0 (by omega)⟩
   have hyt:(e.moves.take i)[k]? =some y:=by rw [List.getElem?_take,if_pos hlt];exact hy
   by_cases c1:y.dst=x.src
   ·have et:i7 e x.src (k+1)=i7 e x.src k++[((k:Int),((1:Int):Rat))]:=by rw [Q4 hy,if_pos c1]
    conv=>whnf
    repeat' (first|refine zz ?_|refine qp i1 ?_|refine qp toC ?_|refine qp toC ?_|refine b8 hyt ?_|refine o7 (by simp [toC]) (by simp [toC];omega) ?_|refine zd ?_ ?_<;>intro h<;>try omega|refine zy ?_|fail)<;>conv=>whnf
    all_goals try omega
    refine ⟨hlt,trivial,[some 0,some 1,some 2,some 5],rfl,rfl,⟨⟨rfl,rfl,rfl,.inr ⟨⟨rfl,rfl,rfl,rfl,rfl,rfl,trivial⟩,trivial⟩⟩,⟨rfl,rfl,rfl,.inl ⟨rfl,a2w x⟩⟩,⟨rfl,rfl,rfl,.inr ⟨⟨⟨rfl,rfl,?_,fun h=>h⟩,rfl,rfl,rfl,rfl,rfl,trivial⟩,trivial⟩⟩,a8 rfl rfl rfl ?_ rfl,trivial⟩,⟨rfl,⟨rfl,rfl,rfl⟩,⟨rfl,rfl,rfl⟩,⟨rfl,rfl,rfl⟩,rfl,rfl,rfl,trivial⟩⟩
    ·rw [et,List.length_append];rfl
    ·rw [et]
     show List.take (i7 e x.src k).length (toC ((i7 e x.src k).map i9))++toC [i9 ((k:Int),((1:Int):Rat))]=_
     exact a0I rfl
   ·by_cases c2:y.src=x.src
    ·have et:i7 e x.src (k+1)=i7 e x.src k++[((k:Int),((-1:Int):Rat))]:=by rw [Q4 hy,if_neg c1,if_pos c2]
     conv=>whnf
     repeat' (first|refine zz ?_|refine qp im ?_|refine qp toC ?_|refine qp toC ?_|refine b8 hyt ?_|refine o7 (by simp [toC]) (by simp [toC];omega) ?_|refine zd ?_ ?_<;>intro h<;>try omega|refine zy ?_|fail)<;>conv=>whnf
     all_goals try omega
     refine ⟨hlt,trivial,[some 0,some 1,some 2,some 5],rfl,rfl,⟨⟨rfl,rfl,rfl,.inr ⟨⟨rfl,rfl,rfl,rfl,rfl,rfl,trivial⟩,trivial⟩⟩,⟨rfl,rfl,rfl,.inl ⟨rfl,a2w x⟩⟩,⟨rfl,rfl,rfl,.inr ⟨⟨⟨rfl,rfl,?_,fun h=>h⟩,rfl,rfl,rfl,rfl,rfl,trivial⟩,trivial⟩⟩,a8 rfl rfl rfl ?_ rfl,trivial⟩,⟨rfl,⟨rfl,rfl,rfl⟩,⟨rfl,rfl,rfl⟩,⟨rfl,rfl,rfl⟩,rfl,rfl,rfl,trivial⟩⟩
     ·rw [et,List.length_append];rfl
     ·rw [et]
      show List.take (i7 e x.src k).length (toC ((i7 e x.src k).map i9))++toC [i9 ((k:Int),((-1:Int):Rat))]=_
      exact a0I rfl
    ·have et:i7 e x.src (k+1)=i7 e x.src k:=by rw [Q4 hy,if_neg c1,if_neg c2]
     conv=>whnf
     repeat' (first|refine zz ?_|refine b8 hyt ?_|refine zd ?_ ?_<;>intro h<;>try omega|refine zy ?_|fail)<;>conv=>whnf
     all_goals try omega
     refine ⟨hlt,trivial,[some 0,some 1,some 2,some 3],rfl,rfl,⟨⟨rfl,rfl,rfl,.inr ⟨⟨rfl,rfl,rfl,rfl,rfl,rfl,trivial⟩,trivial⟩⟩,⟨rfl,rfl,rfl,.inl ⟨rfl,a2w x⟩⟩,⟨rfl,rfl,rfl,.inr ⟨⟨⟨rfl,rfl,?_,fun h=>h⟩,rfl,rfl,rfl,rfl,rfl,trivial⟩,trivial⟩⟩,a8 rfl rfl rfl ?_ rfl,trivial⟩,⟨rfl,⟨rfl,rfl,rfl⟩,⟨rfl,rfl,rfl⟩,⟨rfl,rfl,rfl⟩,rfl,rfl,rfl,trivial⟩⟩
     ·rw [et]
     ·rw [et]
  ·have hke:k=i:=by omega
   subst hke
   conv=>whnf
   repeat' (first|refine zz ?_|refine qp im ?_|refine qp toC ?_|refine qp toC ?_|refine o7 (by simp [toC]) (by simp [toC];omega) ?_|refine zd ?_ ?_<;>intro h<;>try omega|refine zy ?_|fail)<;>conv=>whnf
   all_goals try omega
   refine k5 ⟨show VC _ (fun id=>E1 [] id=true) _ _ from t5 rfl rfl (by intro h;cases h) rfl (rows:=(i7 e x.src k++[((k:Int),((-1:Int):Rat))]).map i9) ?_ ?_,rfl,rfl,rfl,rfl,rfl,trivial⟩
   ·show List.take (i7 e x.src k).length (toC ((i7 e x.src k).map i9))++toC [i9 ((k:Int),((-1:Int):Rat))]=_
    exact a0I rfl
   ·rw [List.length_map,List.length_append];rfl
theorem a3x {e:Ev}:∀{l:List Q6},J4 e l=0->∀c ∈ l,0<=c.mv∧c.mv<e.moves.length
 |[],_,c,hc=>by cases hc
 |g::r,h,c,hc=>by
  unfold J4 at h
  by_cases h1:a0z e g.mv g.kind≠0
  ·rw [if_pos h1] at h;exact absurd h h1
  rw [if_neg h1] at h
  rcases List.mem_cons.1 hc with rfl|hc
  ·unfold a0z at h1
   by_cases h3:c.mv<0∨(e.moves.length:Int)<=c.mv
   ·rw [if_pos h3] at h1;exact absurd (by decide) h1
   omega
  ·exact a3x h c hc
theorem b0i {e:Ev} {Z:List Rat} (hZ:∀v ∈ Z,rl v<=200) (hm:e.moves.length<=200) {k:Nat} (hk:k<=200) (p:Nat):rl (t7 e Z k p)<=50000:=by
 have hB:∀l ∈ col Z,∀x ∈ l,rl x<=200:=fun l hl x hx=>by
  obtain ⟨v,hv,rfl⟩:=List.mem_map.1 hl
  simp at hx
  subst hx
  exact hZ x hv
 have:=aJ4 (e:=e) hB (by decide) k p 0
 have h2:=Nat.mul_le_mul_right (200+1) hk
 unfold t7
 omega
def hiR (o:Option (Rat × Rat)):Rat:=match o with
 |some (_,hi)=>hi
 |none=>0
theorem b3z {o:Option (Rat × Rat)} {lo hi:Rat} (h:o=some (lo,hi)):hi=hiR o:=by rw [h];rfl
theorem a5R {e:Ev} {x:p6} (h:(C3 e x).isSome=true):hiF (C3 e x)=fz (hiR (C3 e x))∧rl (hiR (C3 e x))<=200:=by
 cases hiv:C3 e x with
 |none=>rw [hiv] at h;cases h
 |some p=>
  obtain ⟨lo,hi⟩:=p
  refine ⟨rfl,?_⟩
  show rl hi<=200
  unfold C3 at hiv
  by_cases hs:x.scale=-1
  ·rw [if_pos hs] at hiv;cases hiv
  ·rw [if_neg hs] at hiv
   have:=(aD5 hiv).2
   omega
theorem b3n {t:e7} {kind:Int} {i:Nat} {x:p6} (hx:t.ev.moves[i]? =some x) (ht:J0 t.ev t.finds=0) (hl:t.finds.length<=1000000) (z:Rat) (hz:rl z<=200):
 a9 Tryz.prog 71 [.agg ((Q2 t kind i).map .t),frS (fz z)] [] (a7 .i64 (a03 t kind i x z)) []:=by
 have h:=b1F (hiF (X6 t.ev i)) (X6 t.ev i).isSome (hiR (X6 t.ev i)) (g7 t.finds kind i) (j1 t.cleans kind i) z
  (by rw [a5S hx];exact a5R) hz (fun g hg=>by
    unfold g7 at hg
    obtain ⟨f,hf,rfl⟩:=List.mem_map.1 hg
    have:=A0 ht f (List.mem_filter.1 hf).1
    omega) (by unfold g7;rw [List.length_map];exact Nat.le_trans (List.length_filter_le _ _) hl)
 rw [b2w hx (fun lo hi' h=>(b3z h))] at h
 exact h
theorem ay5 {l:List Fr} {i:Nat} {y:Fr}:(toC (l.map j5)).set i (frC y)=toC ((l.set i y).map j5):=by simp [toC,List.map_set,j5]
theorem aL8 {n:Nat} {ρ:List (Option Nat)} {H:Hp}:a39 ρ H (List.replicate n [C.t (ti 0),C.t (.sl 0 .nil []),C.t (ti 0),C.t (.sl 0 .nil [])]) (toC ((a1H 0 n).map j5)):=by
 rw [aP8]
 refine a4L (by simp [toC]) fun i x y hx hy=>?_
 have hi:i<n:=by have:=(lg1 hx).1;simpa using this
 rw [List.getElem?_replicate,if_pos hi] at hx
 injection hx with hx
 subst hx
 unfold toC at hy
 rw [List.getElem?_map,List.getElem?_map,List.getElem?_replicate,if_pos hi] at hy
 injection hy with hy
 subst hy
 exact ⟨rfl,rfl,rfl,rfl,trivial⟩
theorem b16 {e:Ev} {Z:List Rat} {j k s d:Nat} {x:p6} {v:Rat} (hx:e.moves[j]? =some x) (hv:Z.getD j 0=v) (hs:x.src=s) (hd:x.dst=d) (hsk:s<k) (hdk:d<k) (hsd:s≠d):
 ((a5k k (t7 e Z j)).set s (fz (t7 e Z j s - v))).set d (fz (t7 e Z j d+v))=a5k k (t7 e Z (j+1)):=by
 rw [aB1 hsk,aB1 hdk]
 congr 1
 funext p
 rw [a2e hx,hv]
 have c1:(x.src=(p:Int))↔p=s:=by omega
 have c2:(x.dst=(p:Int))↔p=d:=by omega
 simp only [c1,c2]
 by_cases h1:p=d
 ·subst h1
  rw [if_pos rfl,if_neg (fun h=>hsd h.symm),if_pos rfl]
 ·rw [if_neg h1]
  by_cases h2:p=s
  ·subst h2;rw [if_pos rfl,if_pos rfl]
  ·rw [if_neg h2,if_neg h2,if_neg h1]
theorem b1D {x y:Rat}:Z0 x y=0↔x=y:=by
 have h1:=aX0 (x:=x) (y:=y)
 have h2:=a5E (x:=x) (y:=y)
 constructor
 ·intro h
  have q1:x<=y:=h1.1 (by omega)
  have q2:¬x<y:=fun h'=>by have:=h2.2 h';omega
  grind
 ·intro h
  have q1:Z0 x y<=0:=h1.2 (by grind)
  have q2:¬Z0 x y<0:=fun h'=>by have:=h2.1 h';grind
  omega
set_option maxHeartbeats 4000000 in
theorem b2O (t:e7) (kind:Int) (z:List Fr) (hs:t.Sized) (hl:z.length<=1000000) (hd:∀f ∈ z,f.p.dl.length<=200∧f.q.dl.length<=200):
 a9 Tryz.prog 20 [trS t,a7 .i64 kind,j8 z] [] (a7 .i64 (R8 t kind z)) []:=by
 have ck:=a67 t hs
 have m1:(z.map j5).length=z.length:=by simp
 have m2:(t.ev.moves.map p6.row).length=t.ev.moves.length:=by simp
 have m3:(t.ev.places.map C8.row).length=t.ev.places.length:=by simp
 by_cases h1:o9 t≠0∨kind<0∨8<=kind
 ·have e1:R8 t kind z=1:=by unfold R8;rw [if_pos h1]
  rw [e1]
  (refine ac Tryz.func20 ?_;(conv=>whnf);repeat ((first|refine b0x ?_|refine zy ?_);conv=>whnf))
  repeat' (first|refine zz ?_|refine qp ck ?_|refine zd ?_ ?_<;>intro h<;>try omega|refine zy ?_|fail)<;>conv=>whnf
  all_goals first
   |omega
   |exact i6 rfl
 obtain ⟨k1,k2,k3⟩:o9 t=0∧0<=kind∧kind<8:=by omega
 rw [k1] at ck
 by_cases h2:z.length≠t.ev.moves.length
 ·have e1:R8 t kind z=2:=by unfold R8;rw [if_neg h1,if_pos h2]
  rw [e1]
  (refine ac Tryz.func20 ?_;(conv=>whnf);repeat ((first|refine b0x ?_|refine zy ?_);conv=>whnf))
  repeat' (first|refine zz ?_|refine qp ck ?_|refine zd ?_ ?_<;>intro h<;>try omega|refine zy ?_|fail)<;>conv=>whnf
  all_goals first
   |omega
   |exact i6 rfl
 have h2:z.length=t.ev.moves.length:=by omega
 have e1:R8 t kind z=if z.all B5 then S0 t kind (z.map fv) 0 t.ev.moves else 2:=by unfold R8;rw [if_neg h1,if_neg (by omega)]
 rw [e1]
 clear e1 h1
 obtain ⟨q1,q2,q3,q4,q5⟩:=p8 k1
 obtain ⟨b1,b2,b3,b4⟩:=Q5 q1
 have kn:=aV2 t kind hs q1 (fun f hf=>by have:=A0 q4 f hf;omega) (fun c hc=>a3x q5 c hc)
 have i0:=G7 0 (by decide) (by decide)
 (refine ac Tryz.func20 ?_;(conv=>whnf);repeat ((first|refine b0x ?_|refine zy ?_);conv=>whnf))
 repeat' (first|refine zz ?_|refine qp ck ?_|refine zd ?_ ?_<;>intro h<;>try omega|refine zy ?_|fail)<;>conv=>whnf
 all_goals try omega
 refine d6 c8 (fun k=>([J,a7 .i64 kind,j8 z,S.c (C.t (T.ptr (trT t))),J,J,J,S.c (C.ptr 0 0 0),J,J,J,J,J,J,J,J,J,J,J,J,J,J,J,J,J,J,J,J,J,J,J,J,J,J,J,J,j8 z,a7 .i64 z.length,a7 .i64 k,J,J,J,J,J,J,J,J,J,J,J,J,J,J,J,J,J,J,J,J,J,J,J,J,J,J,J,J,J,J,J,J,J,J,J,J,J,J,J,J,J,J,J,J,J,J,J,J,J,J,J,J,J,J,J,J,J,J,J,J,J,J,J,J,J,J,J,J,J,J,J,J,J,J,J,J,J,J,J,J,J,J,J,J,J,J,J,J,J,J,J,J,J,J,J,J,J,J,J,J,J,J,J,J,J,J,J,J,J,J,J,J],[evB t.ev])) z.length (fun k=>(z.take k).all B5=true) [some 0] rfl
  ⟨rfl,rfl,⟨⟨rfl,rfl,rfl,.inl ⟨rfl,j4 _⟩⟩,trivial⟩,⟨rfl,rfl,rfl,⟨rfl,rfl,rfl⟩,rfl,c6 (by simp),rfl,trivial⟩⟩ ?_
 intro k hk hI
 by_cases hlt:k<z.length
 ·obtain ⟨f,hf⟩:∃f,z[k]? =some f:=⟨_,lg0 hlt⟩
  obtain ⟨d1,d2⟩:=hd f (lg2 hf)
  have r:=a8P f (by omega) (by omega)
  cases hr:B5 f with
  |true=>
   rw [hr] at r
   conv=>whnf
   repeat' (first|refine zz ?_|refine qp r ?_|refine b8 hf ?_|refine zd ?_ ?_<;>intro h<;>try omega|refine zy ?_|fail)<;>conv=>whnf
   all_goals first
    |omega
    |exact ⟨hlt,by rw [p7 hf,hI,hr];rfl,[some 0],rfl,rfl,⟨⟨rfl,rfl,rfl,.inl ⟨rfl,j4 _⟩⟩,trivial⟩,⟨rfl,rfl,rfl,⟨rfl,rfl,rfl⟩,rfl,rfl,rfl,trivial⟩⟩
  |false=>
   rw [hr] at r
   rw [u9 hf hr]
   conv=>whnf
   repeat' (first|refine zz ?_|refine qp r ?_|refine b8 hf ?_|refine zd ?_ ?_<;>intro h<;>try omega|refine zy ?_|fail)<;>conv=>whnf
   all_goals first
    |omega
    |exact i6 rfl
 have hz:z.all B5=true:=by rw [← hI,lg4 (by omega)]
 rw [if_pos hz]
 obtain ⟨Z,rfl⟩:=a8Z hz
 rw [a9D]
 have hZ:∀v ∈ Z,rl v<=200:=fun v hv=>by
  have:=hd (fz v) (List.mem_map.2 ⟨v,hv,rfl⟩)
  exact Nat.max_le.2 this
 have zl:Z.length=t.ev.moves.length:=by simpa using h2
 generalize hN:t.ev.places.length=N at *
 conv=>whnf
 repeat' (first|refine zz ?_|refine a2q (by omega) (by omega) (by omega) (by decide) ?_|refine zd ?_ ?_<;>intro h<;>try omega|refine zy ?_|fail)<;>conv=>whnf
 all_goals try omega
 clear hI hlt hk
 refine d6 c8 (fun k=>([J,a7 .i64 kind,j8 (Z.map fz),S.c (C.t (T.ptr (trT t))),J,J,J,S.c (C.ptr 0 0 0),J,J,S.c (C.own 1 0 N true),J,J,J,J,J,J,J,J,J,J,J,J,J,J,J,J,J,J,J,J,J,J,J,J,J,J,J,J,J,J,J,J,J,J,J,J,J,J,J,J,a7 .i64 N,a7 .i64 k,J,J,J,J,J,J,J,J,J,J,J,J,J,J,J,J,J,J,J,J,J,J,J,J,J,J,J,J,J,J,J,J,J,J,J,J,J,J,J,J,J,J,J,J,J,J,J,J,J,J,J,J,J,J,J,J,J,J,J,J,J,J,J,J,J,J,J,J,J,J,J,J,J,J,J,J,J,J,J,J,J,J,J,J,J,J,J,J,J,J,J,J,J,J,J,J,J,J],[evB t.ev,b5Z (a1H k N)])) N (fun _=>True) [some 0,some 1] trivial ?_ ?_
 ·refine ⟨rfl,rfl,⟨⟨rfl,rfl,rfl,.inl ⟨rfl,j4 _⟩⟩,⟨rfl,rfl,rfl,.inr ?_⟩,trivial⟩,⟨rfl,rfl,rfl,⟨rfl,rfl,rfl⟩,⟨rfl,rfl,?_,fun h=>h⟩,c6 (by omega),rfl,trivial⟩⟩
  ·have e9:((((t.ev.places.map C8.row).length:Nat):Int)).toNat=N:=by omega
   show a39 _ _ (List.replicate ((((t.ev.places.map C8.row).length:Nat):Int)).toNat _) _
   rw [e9]
   exact aL8
  ·omega
 intro k hk _
 by_cases hlt:k<N
 ·have eM:0+(k:Int).toNat=k:=by omega
  obtain ⟨pf,hpf⟩:∃pf,(a1H k N)[k]? =some pf:=⟨_,a4E hlt⟩
  have gp:(a1H k N)[0+(k:Int).toNat]? =some pf:=by rw [eM];exact hpf
  conv=>whnf
  repeat' (first|refine zz ?_|refine qp i0 ?_|refine j6 gp ?_|refine zd ?_ ?_<;>intro h<;>try omega|refine zy ?_|fail)<;>conv=>whnf
  all_goals try omega
  refine ⟨hlt,trivial,[some 0,some 1],rfl,rfl,⟨⟨rfl,rfl,rfl,.inl ⟨rfl,j4 _⟩⟩,a8 rfl rfl rfl ?_ rfl,trivial⟩,⟨rfl,rfl,rfl,⟨rfl,rfl,rfl⟩,⟨rfl,rfl,rfl,fun h=>h⟩,rfl,rfl,trivial⟩⟩
  have e:=b3Z (row:=a1H k N) (y:=fz zR) eM
  rw [b1y hlt] at e
  exact congrArg Blk.rows e
 have hke:k=N:=by omega
 subst hke
 conv=>whnf
 repeat' (first|refine zz ?_|refine qp kn ?_|refine zd ?_ ?_<;>intro h<;>try omega|refine zy ?_|fail)<;>conv=>whnf
 all_goals try omega
 clear hlt hk
 refine d6 c8 (fun j=>([J,J,j8 (Z.map fz),J,J,J,J,S.c (C.ptr 0 0 0),J,J,S.c (C.own 1 0 k true),J,J,J,J,J,J,J,J,J,J,J,J,J,J,J,J,J,J,J,J,J,J,J,J,J,J,J,J,J,J,J,J,J,J,J,J,J,J,J,J,J,J,J,J,J,J,J,J,J,J,J,S.c (C.t (a1d t kind)),a7 .i64 t.ev.moves.length,a7 .i64 j,J,J,J,J,J,J,J,J,J,J,J,J,J,J,J,J,J,J,J,J,J,J,J,J,J,J,J,J,J,J,J,J,J,J,J,J,J,J,J,J,J,J,J,J,J,J,J,J,J,J,J,J,J,J,J,J,J,J,J,J,J,J,J,J,J,J,J,J,J,J,J,J,J,J,J,J,J,J,J,J,J,J,J,J,J,J],[evB t.ev,b5Z (a5k k (t7 t.ev Z j))])) t.ev.moves.length (fun j=>S0 t kind Z j (t.ev.moves.drop j)=S0 t kind Z 0 t.ev.moves) [some 0,some 1] rfl ?_ ?_
 ·refine ⟨rfl,rfl,⟨⟨rfl,rfl,rfl,.inl ⟨rfl,j4 _⟩⟩,a8 rfl rfl rfl ?_ rfl,trivial⟩,⟨rfl,⟨rfl,rfl,rfl⟩,⟨rfl,rfl,rfl,fun h=>h⟩,rfl,c6 (by simp),rfl,trivial⟩⟩
  rw [b0C]
  rfl
 intro j hj hI
 by_cases hlt:j<t.ev.moves.length
 ·obtain ⟨x,hx⟩:∃x,t.ev.moves[j]? =some x:=⟨_,lg0 hlt⟩
  have hmo:=B3 q1 (lg2 hx)
  have ms:=O4 hmo
  have md:=a10 hmo
  have hne:x.src≠x.dst:=by unfold D2 at hmo;simp only [Bool.and_eq_true,decide_eq_true_eq] at hmo;exact hmo.1.1.1.1.1.2
  obtain ⟨s,hsn⟩:∃s:Nat,x.src=s:=⟨x.src.toNat,by omega⟩
  obtain ⟨d,hdn⟩:∃d:Nat,x.dst=d:=⟨x.dst.toNat,by omega⟩
  have hsk:s<k:=by omega
  have hdk:d<k:=by omega
  have hsd:s≠d:=by omega
  obtain ⟨v,hv⟩:∃v,Z[j]? =some v:=⟨_,lg0 (by omega)⟩
  have hvd:Z.getD j 0=v:=by rw [lg3,hv];rfl
  have bv:=hZ v (lg2 hv)
  have bs:=b0i (e:=t.ev) hZ b4 (k:=j) (by omega) s
  have bd:=b0i (e:=t.ev) hZ b4 (k:=j) (by omega) d
  have cm:=a37 v (t7 t.ev Z j s) (by omega) (by omega)
  have sg:=a4y v (by omega)
  have sb:=aO4 (t7 t.ev Z j s) v (by omega) (by omega)
  have ad:=a1P (t7 t.ev Z j d) v (by omega) (by omega)
  have bn:=b6K t.ev q1 hx
  have al:=b3n (kind:=kind) hx q4 hs.f v bv
  have gk:(List.range t.ev.moves.length)[j]? =some j:=List.getElem?_range hlt
  have zk:=a17 Z hv
  have eS:0+x.src.toNat=s:=by omega
  have eD:0+x.dst.toNat=d:=by omega
  have xs:(a5k k (t7 t.ev Z j))[0+x.src.toNat]? =some (fz (t7 t.ev Z j s)):=by rw [eS];exact a6s hsk
  have xd:(a5k k (t7 t.ev Z j))[0+x.dst.toNat]? =some (fz (t7 t.ev Z j d)):=by rw [eD];exact a6s hdk
  have cg:=a6a (x:=v) (y:=t7 t.ev Z j s)
  have cz:=b1D (x:=v) (y:=t7 t.ev Z j s)
  have sn:=aY0 (x:=v)
  rw [X0 hx] at hI
  have hI:(if tAt t kind Z j x≠0 then tAt t kind Z j x else S0 t kind Z (j+1) (t.ev.moves.drop (j+1)))=S0 t kind Z 0 t.ev.moves:=hI
  have hta:tAt t kind Z j x=Y6 t kind j x v (t7 t.ev Z j s):=by unfold tAt;rw [hvd,show x.src.toNat=s by omega]
  rw [hta] at hI
  have fin3:∀(c:Int) (H1:Hp),Y6 t kind j x v (t7 t.ev Z j s)=c->c≠0->Fin 0 (a7 .i64 c) H1 (a7 .i64 (S0 t kind Z 0 t.ev.moves)) []:=fun c H1 h hc=>i6 (by rw [← hI,h,if_pos hc])
  generalize Z0 v (t7 t.ev Z j s)=U at cm cg cz
  generalize sgR v=W at sg sn
  have hse:0+x.src.toNat≠0+x.dst.toNat:=by omega
  have e0:ak4 t.ev x v (t7 t.ev Z j s)=if v<0 then 3 else if m9 t.ev x.src≠0∧t7 t.ev Z j s<v then 4 else if x.all=true∧v≠t7 t.ev Z j s then 7 else 0:=rfl
  by_cases c1:v<0
  ·have e3:Y6 t kind j x v (t7 t.ev Z j s)=3:=by unfold Y6;rw [e0,if_pos c1];rfl
   have w1:W<0:=sn.2 c1
   conv=>whnf
   repeat' (first|refine zz ?_|refine qp cm ?_|refine qp sg ?_|refine qp bn ?_|refine qp al ?_|refine qp sb ?_|refine qp ad ?_|refine qp 15 ?_|refine b8 hx ?_|refine b8 gk ?_|refine b8 zk ?_|refine j6 xs ?_|refine a0g hse xd ?_|refine bl0 [15] ?_|refine zd ?_ ?_<;>intro h<;>try omega|refine zy ?_|fail)<;>conv=>whnf
   all_goals first
    |omega
    |exact fin3 3 _ e3 (by decide)
  have w1:¬W<0:=fun h=>c1 (sn.1 h)
  rw [if_neg c1] at e0
  by_cases c2:m9 t.ev x.src≠0∧t7 t.ev Z j s<v
  ·have e3:Y6 t kind j x v (t7 t.ev Z j s)=4:=by unfold Y6;rw [e0,if_pos c2];rfl
   have w2:U > 0:=cg.2 c2.2
   rw [decide_eq_false c2.1] at bn
   conv=>whnf
   repeat' (first|refine zz ?_|refine qp cm ?_|refine qp sg ?_|refine qp bn ?_|refine qp al ?_|refine qp sb ?_|refine qp ad ?_|refine qp 15 ?_|refine b8 hx ?_|refine b8 gk ?_|refine b8 zk ?_|refine j6 xs ?_|refine a0g hse xd ?_|refine bl0 [15] ?_|refine zd ?_ ?_<;>intro h<;>try omega|refine zy ?_|fail)<;>conv=>whnf
   all_goals first
    |omega
    |exact fin3 4 _ e3 (by decide)
  rw [if_neg c2] at e0
  have w2:m9 t.ev x.src=0∨¬U > 0:=by
   by_cases h:m9 t.ev x.src=0
   ·exact .inl h
   ·exact .inr fun h'=>c2 ⟨h,cg.1 h'⟩
  by_cases c3:x.all=true∧v≠t7 t.ev Z j s
  ·have e3:Y6 t kind j x v (t7 t.ev Z j s)=7:=by unfold Y6;rw [e0,if_pos c3];rfl
   have w3:U≠0:=fun h=>c3.2 (cz.1 h)
   have w4:=c3.1
   by_cases hb:m9 t.ev x.src=0
   ·rw [decide_eq_true hb] at bn
    conv=>whnf
    repeat' (first|refine zz ?_|refine qp cm ?_|refine qp sg ?_|refine qp bn ?_|refine qp al ?_|refine qp sb ?_|refine qp ad ?_|refine qp 15 ?_|refine b8 hx ?_|refine b8 gk ?_|refine b8 zk ?_|refine j6 xs ?_|refine a0g hse xd ?_|refine bl0 [15] ?_|refine zd ?_ ?_<;>intro h<;>try omega|refine zy ?_|fail)<;>conv=>whnf
    all_goals first
     |omega
     |exact fin3 7 _ e3 (by decide)
     |(exfalso;simp_all;done)
   ·rw [decide_eq_false hb] at bn
    conv=>whnf
    repeat' (first|refine zz ?_|refine qp cm ?_|refine qp sg ?_|refine qp bn ?_|refine qp al ?_|refine qp sb ?_|refine qp ad ?_|refine qp 15 ?_|refine b8 hx ?_|refine b8 gk ?_|refine b8 zk ?_|refine j6 xs ?_|refine a0g hse xd ?_|refine bl0 [15] ?_|refine zd ?_ ?_<;>intro h<;>try omega|refine zy ?_|fail)<;>conv=>whnf
    all_goals first
     |omega
     |exact fin3 7 _ e3 (by decide)
     |(exfalso;simp_all;done)
  rw [if_neg c3] at e0
  have w3:x.all=false∨U=0:=by
   cases h:x.all with
   |false=>exact .inl rfl
   |true=>
    refine .inr (cz.2 ?_)
    by_cases h':v=t7 t.ev Z j s
    ·exact h'
    ·exact absurd ⟨h,h'⟩ c3
  have e3:Y6 t kind j x v (t7 t.ev Z j s)=a03 t kind j x v:=by unfold Y6;rw [e0,if_neg (by simp)]
  have er:=b16 hx hvd hsn hdn hsk hdk hsd
  have bnx:a9 Tryz.prog 70 [evS t.ev,a7 .i64 j] [] (f5 (decide (m9 t.ev x.src=0))) []:=bn
  by_cases ha:a03 t kind j x v≠0
  ·have fa:=fun H1=>fin3 _ H1 e3 ha
   generalize a03 t kind j x v=Q at al ha fa
   rcases w3 with w3|w3
   all_goals
    by_cases hb:m9 t.ev x.src=0
    case' pos=>rw [decide_eq_true hb] at bn
    case' neg=>rw [decide_eq_false hb] at bn
    all_goals
     conv=>whnf
     repeat' (first|refine zz ?_|refine qp cm ?_|refine qp sg ?_|refine qp bn ?_|refine qp al ?_|refine qp sb ?_|refine qp ad ?_|refine qp 15 ?_|refine b8 hx ?_|refine b8 gk ?_|refine b8 zk ?_|refine j6 xs ?_|refine a0g hse xd ?_|refine bl0 [15] ?_|refine zd ?_ ?_<;>intro h<;>try omega|refine zy ?_|fail)<;>conv=>whnf
     all_goals first
      |omega
      |exact fa _
      |(exfalso;simp_all;done)
  ·have ha:a03 t kind j x v=0:=by omega
   rw [e3,ha,if_neg (by simp)] at hI
   rw [ha] at al
   have nxt:((toC ((a5k k (t7 t.ev Z j)).map j5)).set (0+x.src.toNat) (frC (fz (t7 t.ev Z j s - v)))).set (0+x.dst.toNat) (frC (fz (t7 t.ev Z j d+v)))=toC ((a5k k (t7 t.ev Z (j+1))).map j5):=by
    rw [ay5,ay5,eS,eD,er]
   rcases w3 with w3|w3
   all_goals
    by_cases hb:m9 t.ev x.src=0
    case' pos=>rw [decide_eq_true hb] at bn
    case' neg=>rw [decide_eq_false hb] at bn
    all_goals
     conv=>whnf
     repeat' (first|refine zz ?_|refine qp cm ?_|refine qp sg ?_|refine qp bn ?_|refine qp al ?_|refine qp sb ?_|refine qp ad ?_|refine qp 15 ?_|refine b8 hx ?_|refine b8 gk ?_|refine b8 zk ?_|refine j6 xs ?_|refine a0g hse xd ?_|refine bl0 [15] ?_|refine zd ?_ ?_<;>intro h<;>try omega|refine zy ?_|fail)<;>conv=>whnf
     all_goals first
      |omega
      |exact ⟨hlt,hI,[some 0,some 1],rfl,rfl,⟨⟨rfl,rfl,rfl,.inl ⟨rfl,j4 _⟩⟩,a8 rfl rfl rfl nxt rfl,trivial⟩,⟨rfl,⟨rfl,rfl,rfl⟩,⟨rfl,rfl,rfl,fun h=>h⟩,rfl,rfl,rfl,trivial⟩⟩
      |(exfalso;simp_all;done)
 ·rw [List.drop_of_length_le (by omega)] at hI
  have hI:0=S0 t kind Z 0 t.ev.moves:=hI
  conv=>whnf
  repeat' (first|refine zz ?_|refine zd ?_ ?_<;>intro h<;>try omega|refine zy ?_|fail)<;>conv=>whnf
  all_goals first
   |omega
   |exact i6 hI
end Go.Proofs.YtdbogogfeffjlaaGreat
