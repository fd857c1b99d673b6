/- Part 11. -/
import Derived.Test.YtaejgdbahjjncaaGreatUj10
namespace Go.Proofs.YtaejgdbahjjncaaGreat
set_option linter.unusedVariables false
set_option linter.unusedSimpArgs false
set_option maxRecDepth 100000
open Go.RowKit
open St1 St2 St3 St4 St5 St6 St7 St8 StA StB
theorem b0i {H:Hp} {ia ir n s:Nat} {a row:Nat->Rat} (hne:ia≠ir) (ga:H[ia]? =some (flB (rF n a))) (gr:H[ir]? =some (flB (rF n row))) (hn:n<=1000) (hs:s<n) (ha:∀j,j<n->rl (a j)<=30000) (hr:∀j,j<n->rl (row j)<=30000):
 b7 Tryz.prog 296 [.c (.own ia 0 n true),.c (.own ir 0 n true),a8 .i64 s] H (.tup []) (H.set ia (flB (rF n (tkA a row s)))):=by
 have la:ia<H.length:=(lbe.1 ga).1
 refine N8 [ia,ir] (b9q n s a row hn hs ha hr) rfl rfl rfl (by simp;exact hne) ?_ ?_ (by simp) rfl rfl (by simp) ?_ ?_
 ·intro i k hk
  match i,hk with
  |0,hk=>injection hk with hk;subst hk;exact ⟨rfl,rfl,J6 _,_,ga,x9 rfl⟩
  |1,hk=>injection hk with hk;subst hk;exact ⟨rfl,rfl,J6 _,_,gr,x9 rfl⟩
 ·intro k hk
  simp at hk
  rcases hk with rfl|rfl<;>(intro h;cases h)
 ·intro i k hk
  match i,hk with
  |0,hk=>
   injection hk with hk;subst hk
   refine ⟨_,?_,x9 rfl⟩
   show (H.set ia _)[ia]? =_
   rw [lbg,if_pos rfl,if_pos la]
  |1,hk=>
   injection hk with hk;subst hk
   refine ⟨_,?_,x9 rfl⟩
   show (H.set ia _)[ir]? =_
   rw [lbg,if_neg hne];exact gr
 ·intro j hj hjn
  simp at hjn
  rw [lbg,if_neg (fun h=>hjn.1 h.symm)]
theorem a2x {b m n i r:Nat} {V:Nat->Rat} {K:List C->Prop} (e:i=r) (h:r<m) (k:K (frC (fz (V r))++[C.own (r+b) 0 n true])):∃row,(Q5 b m n V)[i]? =some row∧K row:=by
 subst e;exact ⟨_,a2R h,k⟩
theorem b0D {rows:List (List C)} {i:Nat} {x:List C} {K:List C->Prop} (h:i<rows.length) (k:K x):∃row,(rows.set i x)[i]? =some row∧K row:=⟨x,List.getElem?_set_self h,k⟩
theorem b82 {rows:List (List C)} {i j:Nat} {x:List C} {K:List C->Prop} (h:i≠j) (k:∃row,rows[j]? =some row∧K row):∃row,(rows.set i x)[j]? =some row∧K row:=by
 rw [List.getElem?_set_ne h];exact k
def a4n (a:Nat->Rat) (p:Rat) (s k:Nat):Nat->Rat:=fun j=>if j<k∧j≠s then a j / p else a j
def A1 (D:Fd) (r s k:Nat):Nat->Nat->Rat:=fun i=>if i=r then a4n (D.A r) (D.A r s) s k else D.A i
theorem be2 {D:Fd} {r s k:Nat}:A1 D r s k r k=D.A r k:=by unfold A1 a4n;rw [if_pos rfl,if_neg (by omega)]
theorem bg4 {D:Fd} {r s k:Nat}:A1 D r s k r s=D.A r s:=by unfold A1 a4n;rw [if_pos rfl,if_neg (by omega)]
theorem b87 {D:Fd} {r s k:Nat} (h:k≠s):(fun i=>if i=r then (fun j=>if j=k then D.A r k / D.A r s else A1 D r s k r j) else A1 D r s k i)=A1 D r s (k+1):=by
 funext i j
 by_cases hi:i=r
 ·subst hi
  simp only [if_true]
  unfold A1 a4n
  simp only [if_true]
  by_cases hj:j=k
  ·subst hj;rw [if_pos rfl,if_pos ⟨by omega,h⟩]
  ·rw [if_neg hj]
   have:(j<k∧j≠s)↔(j<k+1∧j≠s):=by omega
   simp only [this]
 ·rw [if_neg hi];unfold A1;rw [if_neg hi,if_neg hi]
theorem b6s {D:Fd} {r s:Nat}:A1 D r s s=A1 D r s (s+1):=by
 funext i j;unfold A1 a4n
 have:(j<s∧j≠s)↔(j<s+1∧j≠s):=by omega
 split
 ·simp only [this]
 ·rfl
theorem b76 {D:Fd} {r s k:Nat} (h:D.A r k=0):A1 D r s k=A1 D r s (k+1):=by
 funext i j;unfold A1 a4n
 split
 ·show (if j<k∧j≠s then D.A r j / D.A r s else D.A r j)=if j<k+1∧j≠s then D.A r j / D.A r s else D.A r j
  by_cases hj:j=k
  ·subst hj
   rw [if_neg (show ¬(j<j∧j≠s) by omega)]
   split
   ·rw [h];grind
   ·rfl
  ·have:(j<k∧j≠s)↔(j<k+1∧j≠s):=by omega
   simp only [this]
 ·rfl
theorem b1j {m n r:Nat} {A B:Nat->Nat->Rat} {g:Nat->Rat} (h:r<m) (e:(fun i=>if i=r then g else A i)=B):(mF m n A).set r (rF n g)=mF m n B:=by rw [b3K h,e]
def V1 (D:Fd) (r s:Nat):Nat->Rat:=fun i=>if i=r then D.V r / D.A r s else D.V i
def V2 (D:Fd) (r s k:Nat):Nat->Rat:=fun i=>if i=r then D.V r / D.A r s else if i<k then D.V i - D.A i s*(D.V r / D.A r s) else D.V i
def A2 (D:Fd) (r s k:Nat):Nat->Nat->Rat:=fun i=>if i=r then D.pRow r s else if i<k then tkA (D.A i) (D.pRow r s) s else D.A i
theorem aH3 {a row:Nat->Rat} {s:Nat} (h:a s=0):tkA a row s=a:=by
 funext j;unfold tkA
 by_cases hj:j=s
 ·rw [if_pos hj,hj,h];grind
 ·rw [if_neg hj,h];grind
theorem a0X {m i r:Nat} {f:Nat->Nat} {K:List C->Prop} (e:i=r) (h:r<m) (k:K [C.t (ti (f r))]):∃row,(toC (a0S m f))[i]? =some row∧K row:=by
 subst e;exact ⟨_,by simp [toC,a6T h],k⟩
theorem K8 {α β:Type} {f:β->α} {M:List β} {T:List α} {i:Nat} {x:β} (h:M[i]? =some x):(M.map f++T)[i]? =some (f x):=by
 rw [lbb (by simpa using (lbe.1 h).1),lba,h];rfl
theorem b3M {α β:Type} {f:β->α} {M:List β} {T:List α} {i:Nat} {x:β} (h:i<M.length):(M.map f++T).set i (f x)=(M.set i x).map f++T:=by
 rw [List.set_append_left _ _ (by simpa using h),←List.map_set]
theorem b6v {m n:Nat} {D:Fd} {r s:Nat} (hr:r<m) (hs:s<n):(mF m n (A1 D r s n)).set r ((rF n (A1 D r s n r)).set s (fz (((1:Int):Rat) / D.A r s)))=mF m n (A2 D r s 0):=by
 rw [Z0 hs,b3K hr]
 refine aO2 fun i hi j hj=>?_
 unfold A2
 by_cases hir:i=r
 ·rw [if_pos hir,if_pos hir]
  unfold Fd.pRow A1 a4n
  rw [if_pos rfl]
  by_cases hjs:j=s
  ·rw [if_pos hjs,if_pos hjs];rfl
  ·rw [if_neg hjs,if_neg hjs,if_pos ⟨hj,hjs⟩]
 ·rw [if_neg hir,if_neg hir,if_neg (by omega)];unfold A1;rw [if_neg hir]
theorem b6T {D:Fd} {r s:Nat}:V2 D r s 0=V1 D r s:=by
 funext i;unfold V2 V1;split
 ·rfl
 ·rw [if_neg (by omega)]
theorem bd6 {D:Fd} {r s k:Nat}:V2 D r s k r=D.V r / D.A r s:=by unfold V2;rw [if_pos rfl]
theorem b5r {D:Fd} {r s k:Nat} (h:k≠r):V2 D r s k k=D.V k:=by unfold V2;rw [if_neg h,if_neg (by omega)]
theorem bf6 {D:Fd} {r s k:Nat}:A2 D r s k r=D.pRow r s:=by unfold A2;rw [if_pos rfl]
theorem b8m {D:Fd} {r s k:Nat} (h:k≠r):A2 D r s k k=D.A k:=by unfold A2;rw [if_neg h,if_neg (by omega)]
theorem b12 {D:Fd} {r s k:Nat} (h:k≠r):(fun i=>if i=k then D.V k - D.A k s*(D.V r / D.A r s) else V2 D r s k i)=V2 D r s (k+1):=by
 funext i
 by_cases hi:i=k
 ·subst hi;rw [if_pos rfl];unfold V2;rw [if_neg h,if_pos (by omega)]
 ·rw [if_neg hi];unfold V2
  have:(i<k)↔(i<k+1):=by omega
  simp only [this]
theorem b0A {D:Fd} {r s k:Nat} (h:k≠r):(fun i=>if i=k then tkA (D.A k) (D.pRow r s) s else A2 D r s k i)=A2 D r s (k+1):=by
 funext i
 by_cases hi:i=k
 ·subst hi;rw [if_pos rfl];unfold A2;rw [if_neg h,if_pos (by omega)]
 ·rw [if_neg hi];unfold A2
  have:(i<k)↔(i<k+1):=by omega
  simp only [this]
theorem b6D {D:Fd} {r s:Nat}:V2 D r s r=V2 D r s (r+1):=by
 funext i;unfold V2
 by_cases h:i=r
 ·rw [if_pos h,if_pos h]
 ·have:(i<r)↔(i<r+1):=by omega
  simp only [this]
theorem b7L {D:Fd} {r s:Nat}:A2 D r s r=A2 D r s (r+1):=by
 funext i;unfold A2
 by_cases h:i=r
 ·rw [if_pos h,if_pos h]
 ·have:(i<r)↔(i<r+1):=by omega
  simp only [this]
theorem b6O {D:Fd} {r s k:Nat} (h:k≠r) (hz:D.A k s=0):V2 D r s k=V2 D r s (k+1):=by
 rw [← b12 h,hz];funext i
 by_cases hi:i=k
 ·subst hi;rw [if_pos rfl,b5r h];grind
 ·rw [if_neg hi]
theorem b8i {D:Fd} {r s k:Nat} (h:k≠r) (hz:D.A k s=0):A2 D r s k=A2 D r s (k+1):=by
 rw [← b0A h,aH3 hz];funext i
 by_cases hi:i=k
 ·subst hi;rw [if_pos rfl,b8m h]
 ·rw [if_neg hi]
theorem b98 {D:Fd} {r s m i:Nat} (h:i<m):V2 D r s m i=(D.exch r s).V i:=by
 unfold V2 Fd.exch;simp only
 split
 ·rfl
 ·first|rfl|rw [if_pos h]
theorem b8M {D:Fd} {r s m i j:Nat} (h:i<m):A2 D r s m i j=(D.exch r s).A i j:=by
 unfold A2 Fd.exch;simp only
 split
 ·rfl
 ·first|rfl|(rw [if_pos h];rfl)
abbrev J4 (m n:Nat) (fr:List (Nat × Bool)) (V:Nat->Rat) (G:Nat->Rat) (O F:Nat->Nat) (A:Nat->Nat->Rat) (T:Hp):Hp:=
 b04 m n fr.length::a0G 6 m n V::flB (rF n G)::Y1 m O::Y1 n F::a1v fr::((mF m n A).map flB++T)
structure BdD (m n B:Nat) (D:Fd):Prop where
 v:∀i,i<m->rl (D.V i)<=B
 a:∀i,i<m->∀j,j<n->rl (D.A i j)<=B
 g:∀j,j<n->rl (D.G j)<=B
theorem aY5 {b m n r i:Nat} {V:Nat->Rat} {x:List C} {v:Rat} (e:i=r) (h:r<m) (hx:x=frC (fz v)++[C.own (r+b) 0 n true]):(Q5 b m n V).set i x=Q5 b m n (fun i=>if i=r then v else V i):=by
 subst e hx;exact b1L h
theorem aP2 {m n:Nat} {fr:List (Nat × Bool)} {V G:Nat->Rat} {O F:Nat->Nat} {A:Nat->Nat->Rat} {T T':Hp}:J4 m n fr V G O F A (T++T')=J4 m n fr V G O F A T++T':=by
 show b04 m n fr.length::a0G 6 m n V::flB (rF n G)::Y1 m O::Y1 n F::a1v fr::((mF m n A).map flB++(T++T'))=b04 m n fr.length::a0G 6 m n V::flB (rF n G)::Y1 m O::Y1 n F::a1v fr::(((mF m n A).map flB++T)++T')
 rw [lbD]
theorem a6Y {m n:Nat} {fr:List (Nat × Bool)} {V G:Nat->Rat} {O F:Nat->Nat} {A:Nat->Nat->Rat} {T:Hp}:(J4 m n fr V G O F A T).length=m+6+T.length:=by simp [b9];omega
theorem b1c {m n N:Nat} {fr:List (Nat × Bool)} {V G:Nat->Rat} {O F:Nat->Nat} {A:Nat->Nat->Rat} {T:Hp} (h:m+6<=N) (hT:∀k ∈ T,okB N k):∀k ∈ J4 m n fr V G O F A T,okB N k:=by
 intro k hk
 simp only [lbA,lbz] at hk
 rcases hk with rfl|rfl|rfl|rfl|rfl|rfl|hk|hk
 ·exact b1o (by omega)
 ·exact af8 h
 ·exact E1 rfl
 ·exact E1 rfl
 ·exact E1 rfl
 ·exact E1 rfl
 ·obtain ⟨l,_,rfl⟩:=lbx.1 hk
  exact E1 rfl
 ·exact hT k hk
theorem T1 {n0 N m n:Nat} {fr:List (Nat × Bool)} {V G:Nat->Rat} {O F:Nat->Nat} {A:Nat->Nat->Rat} {T T' H:Hp} {env env':Env} (hH:H=J4 m n fr V G O F A (T++T')) (hN:m+6+T.length=N) (h0:n0<=N) (hT:∀k ∈ T,okB N k)
 (hE:a1F (idR N) H env env'):Ent n0 (idR N) env H env' (J4 m n fr V G O F A T):=by
 refine X5 (by rw [a6Y];exact hN) h0 (b1c (by omega) hT) (fun i hi=>?_) hE
 rw [hH,aP2,lbb (by rw [a6Y];omega)]
theorem ac0 {n0 N m n:Nat} {fr:List (Nat × Bool)} {V G:Nat->Rat} {O F:Nat->Nat} {A:Nat->Nat->Rat} {T H:Hp} {r s:S} (hH:H=J4 m n fr V G O F A T) (hN:m+6=N) (h0:n0<=N) (hE:ak9 (idR N) H r s):
 Fin n0 r H s (J4 m n fr V G O F A []):=by
 refine a5B (by rw [a6Y];exact hN) h0 (b1c (by omega) (by simp)) (fun i hi=>?_) hE
 have e:J4 m n fr V G O F A T=J4 m n fr V G O F A []++T:=aP2 (T:=[]) (T':=T)
 rw [hH,e,lbb (by rw [a6Y];simp;omega)]
theorem a11 {b0 b1 b2 b3 b4 b5 c0 c1 c2 c3 c4 c5:Blk} {L L':Hp} (h0:b0=c0) (h1:b1=c1) (h2:b2=c2) (h3:b3=c3) (h4:b4=c4) (h5:b5=c5) (h6:L=L'):b0::b1::b2::b3::b4::b5::L=c0::c1::c2::c3::c4::c5::L':=by
 subst h0 h1 h2 h3 h4 h5 h6;rfl
theorem an5 {b m n r i:Nat} {V V':Nat->Rat} {x:List C} {v:Rat} (e:i=r) (h:r<m) (hx:x=frC (fz v)++[C.own (r+b) 0 n true]) (hV:(fun i=>if i=r then v else V i)=V'):q9 (a0G b m n V) ((a0G b m n V).rows.set i x)=a0G b m n V':=by
 have:=aY5 (V:=V) e h hx
 subst hV
 unfold q9
 simp only [this]
theorem a7r {m r i v:Nat} {O:Nat->Nat} (e:i=r) (h:r<m):q9 (Y1 m O) ((Y1 m O).rows.set i [C.t (ti v)])=Y1 m (fun i=>if i=r then v else O i):=by
 subst e
 have:(toC (a0S m O)).set i [C.t (ti v)]=toC (a0S m (fun j=>if j=i then v else O j)):=by
  rw [← b5S h];simp [toC,List.map_set]
 unfold q9
 simp only [this]
theorem aA0 {N:Nat} {x:Rat}:okB N (frX x):=E1 (rows:=[j5 (fz x)]) rfl
set_option maxHeartbeats 4000000 in
theorem aX7 (m n:Nat) (fr:List (Nat × Bool)) (D:Fd) (r s:Nat) (hm:m<=100000) (hn:n<=1000) (hr:r<m) (hs:s<n) (hp:D.A r s≠0) (hB:BdD m n 30000 D) (hB':BdD m n 30000 (D.exch r s)):
 b7 Tryz.prog 248 [.c (.ptr 0 0 0),a8 .i64 r,a8 .i64 s] (a02 m n fr D) (.tup []) (a02 m n fr (D.exch r s)):=by
 have eR:0+(r:Int).toNat=r:=by omega
 have eS:0+(s:Int).toNat=s:=by omega
 have gA:(mF m n D.A)[r]? =some (rF n (D.A r)):=P5 hr
 have gs:(rF n (D.A r))[0+(s:Int).toNat]? =some (fz (D.A r s)):=by rw [eS,J2 hs]
 have bp:=hB.a r hr s hs
 have ov:=aR7 (D.V r) (D.A r s) hp (by have:=hB.v r hr;omega) (by omega)
 (refine ac Tryz.func248 ?_;(conv=>whnf);repeat (refine zy ?_;conv=>whnf))
 repeat' (first|refine zx ?_|refine qp ov ?_|refine qp D7 ?_|refine P1 (b9 _ _ _) ?_|refine o8 ?_|refine R8 ?_|refine a2x eR hr ?_|refine b4n gA ?_|refine R5 gA ?_|refine w6 (b9 _ _ _) ?_|refine R6 (b9 _ _ _) ?_|refine p4 gs ?_|refine b0D (by show _<(Q5 _ _ _ _).length;rw [D7];omega) ?_|refine zd ?_ ?_<;>intro h<;>try omega|fail)<;>conv=>whnf
 refine f8 c7 (fun k=>([S.c (C.ptr 0 0 0),a8 .i64 r,a8 .i64 s,J,J,J,S.c (C.ptr 1 r 0),S.c (C.ptr (m+6) 0 0)]++Jn 29++[a8 .i64 n,a8 .i64 k]++Jn 144,J4 m n fr (V1 D r s) D.G D.O D.F (A1 D r s k) [frX (D.A r s)])) n (fun _=>True) (idR (m+7)) trivial ?_ ?_
 ·refine T1 (T':=[]) ?_ rfl (by simp [b9]) (by intro k hk;simp at hk;subst hk;exact aA0) ?_
  ·refine a11 rfl (an5 eR hr rfl rfl) rfl rfl rfl rfl ?_
   have:A1 D r s 0=D.A:=by funext i j;unfold A1 a4n;split<;>simp_all
   rw [this];rfl
  ·exact ⟨⟨j4 (by omega),rfl,rfl⟩,rfl,rfl,⟨j4 (by omega),eR,rfl⟩,⟨j4 (by omega),rfl,rfl⟩,c6 (by omega),c6 rfl,trivial⟩
 intro k hk _
 have gA1:(mF m n (A1 D r s k))[r]? =some (rF n (A1 D r s k r)):=P5 hr
 have lA:r<(mF m n (A1 D r s k)).length:=by rw [b9];exact hr
 by_cases hlt:k<n
 ·have eK:0+(k:Int).toNat=k:=by omega
  have gk:(rF n (A1 D r s k r))[0+(k:Int).toNat]? =some (fz (D.A r k)):=by rw [eK,J2 hlt,be2]
  have bk:=hB.a r hr k hlt
  have ze:=ae6 (D.A r k)
  have ovk:=aR7 (D.A r k) (D.A r s) hp (by omega) (by omega)
  by_cases hks:k=s
  ·subst hks
   conv=>whnf
   repeat' (first|refine zx ?_|refine qp ze ?_|refine qp ovk ?_|refine j2 (b9 _ _ _) ?_|refine o8 ?_|refine i8 ?_|refine a2x rfl hr ?_|refine R5 gA1 ?_|refine w6 (b9 _ _ _) ?_|refine p4 gk ?_|refine zd ?_ ?_<;>intro h<;>try omega|fail)<;>conv=>whnf
   all_goals first
    |omega
    |exact ⟨hlt,trivial,idR (m+7),T1 (T':=[]) (a11 rfl rfl rfl rfl rfl rfl (by rw [← b6s];rfl)) rfl (by simp [b9]) (by intro k hk;simp at hk;subst hk;exact aA0) ⟨⟨j4 (by omega),rfl,rfl⟩,rfl,rfl,⟨j4 (by omega),rfl,rfl⟩,⟨j4 (by omega),rfl,rfl⟩,rfl,c6 (by omega),trivial⟩⟩
  ·by_cases hz:D.A r k=0
   ·rw [lbH hz] at ze
    conv=>whnf
    repeat' (first|refine zx ?_|refine qp ze ?_|refine qp ovk ?_|refine j2 (b9 _ _ _) ?_|refine o8 ?_|refine i8 ?_|refine a2x rfl hr ?_|refine R5 gA1 ?_|refine w6 (b9 _ _ _) ?_|refine p4 gk ?_|refine zd ?_ ?_<;>intro h<;>try omega|fail)<;>conv=>whnf
    all_goals first
     |omega
     |exact ⟨hlt,trivial,idR (m+7),T1 (T':=[]) (a11 rfl rfl rfl rfl rfl rfl (by rw [← b76 hz];rfl)) rfl (by simp [b9]) (by intro k hk;simp at hk;subst hk;exact aA0) ⟨⟨j4 (by omega),rfl,rfl⟩,rfl,rfl,⟨j4 (by omega),rfl,rfl⟩,⟨j4 (by omega),rfl,rfl⟩,rfl,c6 (by omega),trivial⟩⟩
   ·rw [lbJ hz] at ze
    conv=>whnf
    repeat' (first|refine zx ?_|refine qp ze ?_|refine qp ovk ?_|refine j2 (b9 _ _ _) ?_|refine o8 ?_|refine i8 ?_|refine a2x rfl hr ?_|refine R5 gA1 ?_|refine w6 (b9 _ _ _) ?_|refine p4 gk ?_|refine a5d lA (M4 (y:=fz (D.A r k / D.A r s)) eK) ?_|refine zd ?_ ?_<;>intro h<;>try omega|fail)<;>conv=>whnf
    all_goals first
     |omega
     |exact ⟨hlt,trivial,idR (m+7),T1 (T':=[]) (a11 rfl rfl rfl rfl rfl rfl (by rw [Z0 hlt,b1j hr (b87 hks)];rfl)) rfl (by simp [b9]) (by intro k hk;simp at hk;subst hk;exact aA0) ⟨⟨j4 (by omega),rfl,rfl⟩,rfl,rfl,⟨j4 (by omega),rfl,rfl⟩,⟨j4 (by omega),rfl,rfl⟩,rfl,c6 (by omega),trivial⟩⟩
 ·have hke:k=n:=by omega
  subst hke
  have gs1:(rF k (A1 D r s k r))[0+(s:Int).toNat]? =some (fz (D.A r s)):=by rw [eS,J2 hs,bg4]
  have i1:=D2 1 (by decide) (by decide)
  have ov1:=aR7 ((1:Int):Rat) (D.A r s) hp (by have:=rl1;show rl 1<=_;omega) (by omega)
  conv=>whnf
  repeat' (first|refine zx ?_|refine qp i1 ?_|refine qp ov1 ?_|refine j2 (b9 _ _ _) ?_|refine o8 ?_|refine i8 ?_|refine a2x rfl hr ?_|refine R5 gA1 ?_|refine w6 (b9 _ _ _) ?_|refine p4 gs1 ?_|refine a5d lA (M4 (y:=fz (((1:Int):Rat) / D.A r s)) eS) ?_|refine zd ?_ ?_<;>intro h<;>try omega|fail)<;>conv=>whnf
  all_goals try omega
  refine f8 c7 (fun q=>([S.c (C.ptr 0 0 0),a8 .i64 r,a8 .i64 s,J,J,J,S.c (C.ptr 1 r 0)]++Jn 77++[a8 .i64 m,a8 .i64 q]++Jn 97,J4 m k fr (V2 D r s q) D.G D.O D.F (A2 D r s q) [])) m (fun _=>True) (idR (m+6)) trivial ?_ ?_
  ·refine T1 (T:=[]) (T':=[frX (D.A r s)]) (a11 rfl (by rw [b6T]) rfl rfl rfl rfl (by rw [b6v hr hs];rfl)) rfl (by simp [b9]) (by simp) ⟨⟨j4 (by omega),rfl,rfl⟩,rfl,rfl,⟨j4 (by omega),rfl,rfl⟩,c6 (by omega),c6 rfl,trivial⟩
  have eP:∀j,(D.exch r s).A r j=D.pRow r s j:=fun j=>by show (if r=r then _ else _)=_;rw [if_pos rfl]
  have har:∀j,j<k->rl (D.pRow r s j)<=30000:=fun j hj=>by rw [← eP];exact hB'.a r hr j hj
  intro q hq _
  have gAr:(mF m k (A2 D r s q))[r]? =some (rF k (D.pRow r s)):=by rw [P5 hr,bf6]
  by_cases hqm:q<m
  ·have eQ:0+(q:Int).toNat=q:=by omega
   have lQ:q<(mF m k (A2 D r s q)).length:=by rw [b9];exact hqm
   have ze:=ae6 (D.A q s)
   by_cases hqr:q=r
   ·subst hqr
    conv=>whnf
    repeat' (first|refine zx ?_|refine j2 (b9 _ _ _) ?_|refine o8 ?_|refine i8 ?_|refine zd ?_ ?_<;>intro h<;>try omega|fail)<;>conv=>whnf
    all_goals first
     |omega
     |exact ⟨hqm,trivial,idR (m+6),T1 (T:=[]) (T':=[]) (a11 rfl (by rw [← b6D]) rfl rfl rfl rfl (by rw [← b7L];rfl)) rfl (by simp [b9]) (by simp) ⟨⟨j4 (by omega),rfl,rfl⟩,rfl,rfl,⟨j4 (by omega),rfl,rfl⟩,rfl,c6 (by omega),trivial⟩⟩
   ·have gAq:(mF m k (A2 D r s q))[q]? =some (rF k (D.A q)):=by rw [P5 hqm,b8m hqr]
    have gqs:(rF k (D.A q))[0+(s:Int).toNat]? =some (fz (D.A q s)):=by rw [eS,J2 hs]
    by_cases hz:D.A q s=0
    ·rw [lbH hz] at ze
     conv=>whnf
     repeat' (first|refine zx ?_|refine qp ze ?_|refine j2 (b9 _ _ _) ?_|refine o8 ?_|refine i8 ?_|refine a2x eQ hqm ?_|refine R5 gAq ?_|refine p4 gqs ?_|refine zd ?_ ?_<;>intro h<;>try omega|fail)<;>conv=>whnf
     all_goals first
      |omega
      |exact ⟨hqm,trivial,idR (m+6),T1 (T:=[]) (T':=[]) (a11 rfl (by rw [← b6O hqr hz]) rfl rfl rfl rfl (by rw [← b8i hqr hz];rfl)) rfl (by simp [b9]) (by simp) ⟨⟨j4 (by omega),rfl,rfl⟩,rfl,rfl,⟨j4 (by omega),rfl,rfl⟩,rfl,c6 (by omega),trivial⟩⟩
    ·rw [lbJ hz] at ze
     have b1:=hB.v q hqm
     have b2:=hB.a q hqm s hs
     have b3:=hB'.v r hr
     have haq:∀j,j<k->rl (D.A q j)<=30000:=hB.a q hqm
     have le:=aX8 (V2 D r s q q) (D.A q s) (V2 D r s q r) (by rw [b5r hqr];omega) (by omega) (by rw [bd6];have e:(D.exch r s).V r=D.V r / D.A r s:=(by show (if r=r then _ else _)=_;rw [if_pos rfl]);rw [← e];omega)
     conv=>whnf
     repeat' (first|refine zx ?_|refine qp ze ?_|refine qp le ?_|refine qp D7 ?_|refine j2 (b9 _ _ _) ?_|refine o8 ?_|refine i8 ?_|refine a2x eQ hqm ?_|refine a2x rfl hr ?_|refine R5 gAq ?_|refine p4 gqs ?_|refine b0D (by show _<(Q5 _ _ _ _).length;rw [D7];omega) ?_|refine b82 (by omega) (a2x rfl hr ?_)|refine .inr ⟨_,_,b0i (ia:=q+6) (ir:=r+6) (by omega) (K8 gAq) (K8 gAr) hn hs haq har,?_⟩|refine zd ?_ ?_<;>intro h<;>try omega|fail)<;>conv=>whnf
     all_goals first
      |omega
      |exact ⟨hqm,trivial,idR (m+6),T1 (T:=[]) (T':=[]) (a11 rfl (an5 (v:=V2 D r s q q - D.A q s*V2 D r s q r) eQ hqm rfl (by rw [b5r hqr,bd6];exact b12 hqr)) rfl rfl rfl rfl (by rw [b3M lQ,b1j hqm (b0A hqr)];rfl)) rfl (by simp [b9]) (by simp) ⟨⟨j4 (by omega),rfl,rfl⟩,rfl,rfl,⟨j4 (by omega),rfl,rfl⟩,rfl,c6 (by omega),trivial⟩⟩
  ·have hqe:q=m:=by omega
   subst hqe
   have ggs:(rF k D.G)[0+(s:Int).toNat]? =some (fz (D.G s)):=by rw [eS,J2 hs]
   have ze:=ae6 (D.G s)
   have eL:a0G 6 q k (V2 D r s q)=a0G 6 q k (D.exch r s).V:=by
    have:Q5 6 q k (V2 D r s q)=Q5 6 q k (D.exch r s).V:=lbp fun i hi=>by rw [b98 (lbB.1 hi)]
    unfold a0G;rw [this]
   have eA:mF q k (A2 D r s q)=mF q k (D.exch r s).A:=aO2 fun i hi j _=>b8M hi
   have eO:a0S q (fun i=>if i=r then D.F s else D.O i)=a0S q (D.exch r s).O:=rfl
   have eF:a0S k (fun j=>if j=s then D.O r else D.F j)=a0S k (D.exch r s).F:=rfl
   have e0:a02 q k fr (D.exch r s)=J4 q k fr (D.exch r s).V (D.exch r s).G (D.exch r s).O (D.exch r s).F (D.exch r s).A []:=by
    show _::_::_::_::_::_::_=_::_::_::_::_::_::(_++[])
    rw [List.append_nil]
   by_cases hz:D.G s=0
   ·have eG:(D.exch r s).G=D.G:=by have:=aH3 (row:=D.pRow r s) hz;exact this
    rw [lbH hz] at ze
    conv=>whnf
    repeat' (first|refine zx ?_|refine qp ze ?_|refine qp 9 ?_|refine j2 (b9 _ _ _) ?_|refine o8 ?_|refine i8 ?_|refine p4 ggs ?_|refine a0X eR hr ?_|refine a0X eS hs ?_|refine bl0 [9] ?_|refine zd ?_ ?_<;>intro h<;>try omega|fail)<;>conv=>whnf
    all_goals first
     |omega
     |(rw [e0];exact ac0 (T:=[]) (a11 rfl eL (by rw [eG]) (a7r eR hr) (a7r eS hs) rfl (by rw [eA])) rfl (by simp [b9]) trivial)
   ·have eG:(D.exch r s).G=tkA D.G (D.pRow r s) s:=rfl
    rw [lbJ hz] at ze
    conv=>whnf
    repeat' (first|refine zx ?_|refine qp ze ?_|refine qp 9 ?_|refine j2 (b9 _ _ _) ?_|refine o8 ?_|refine i8 ?_|refine p4 ggs ?_|refine a2x rfl hr ?_|refine a0X eR hr ?_|refine a0X eS hs ?_|refine bl0 [9] ?_|refine .inr ⟨_,_,b0i (ia:=2) (ir:=r+6) (by omega) rfl (K8 gAr) hn hs hB.g har,?_⟩|refine zd ?_ ?_<;>intro h<;>try omega|fail)<;>conv=>whnf
    all_goals first
     |omega
     |(rw [e0];exact ac0 (T:=[]) (a11 rfl eL (by rw [eG]) (a7r eR hr) (a7r eS hs) rfl (by rw [eA])) rfl (by simp [b9]) trivial)
theorem ax6 {H:Hp} {p:Nat->Prop} {ys:List C} {us:List T} (h2:VYL H p ys us):∀{ts:List T},VYL H p (ts.map C.t++ys) (ts++us)
 |[]=>h2
 |t::r=>⟨a6G,ax6 h2⟩
theorem b6j {m n:Nat} {fr:List (Nat × Bool)} {D:Fd} {X:Hp}:VY (J4 m n fr D.V D.G D.O D.F D.A X) (fun _=>True) (.own 1 0 m true) (.sl 5 .any (a91 m n D)):=by
 refine b4L (k:=a0G 6 m n D.V) trivial rfl (fun h=>h) rfl (a5f m n D) ?_ ?_
 ·intro r hr
  obtain ⟨i,_,rfl⟩:=lbx.1 hr
  rfl
 ·intro i r hi
  have him:i<m:=by have:=(lbe.1 hi).1;rwa [a5f] at this
  rw [a8A him] at hi
  injection hi with hi
  subst hi
  refine ⟨_,a2R him,?_⟩
  show VYL _ _ ((j5 (fz (D.V i))).map C.t++[C.own (i+6) 0 n true]) _
  have hv:VY (J4 m n fr D.V D.G D.O D.F D.A X) (fun _=>True) (C.own (i+6) 0 n true) (T.sl 4 .any ((rF n (D.A i)).map j5)):=
   .vc (t8 (k:=flB (rF n (D.A i))) trivial (K8 (P5 him)) (fun h=>h) rfl rfl (by simp [a0Y]))
  exact ax6 (ys:=[C.own (i+6) 0 n true]) (us:=[T.sl 4 .any ((rF n (D.A i)).map j5)]) (show _∧True from ⟨hv,trivial⟩)
theorem b9G {m n:Nat} {fr:List (Nat × Bool)} {D:Fd} {X:Hp}:VY (J4 m n fr D.V D.G D.O D.F D.A X) (fun _=>True) (.ptr 0 0 0) (.ptr (b88 m n fr D)):=by
 refine a8D (k:=b04 m n fr.length) trivial rfl (fun h=>h) rfl ⟨a6G,b6j,?_,?_,?_,?_,trivial⟩
 ·exact .vc (t8 (k:=flB (rF n D.G)) trivial rfl (fun h=>h) rfl rfl (by simp [a0Y]))
 ·exact .vc (t8 (k:=Y1 m D.O) trivial rfl (fun h=>h) rfl rfl (by simp [x5]))
 ·exact .vc (t8 (k:=Y1 n D.F) trivial rfl (fun h=>h) rfl rfl (by simp [x5]))
 ·exact .vc (t8 (k:=a1v fr) trivial rfl (fun h=>h) rfl rfl (by simp [a0b]))
abbrev bxD:Blk:={ mode:=.live,elem:=314,size:=1,rows:=[[.ptr 0 0 0]],box:=true }
abbrev bxI (i:Int):Blk:={ mode:=.live,elem:=3,size:=1,rows:=[[.t (ti i)]],box:=true }
theorem az2 {m n:Nat} {fr:List (Nat × Bool)} {D:Fd} {X:Hp}:VY (J4 m n fr D.V D.G D.O D.F D.A (bxD::X)) (fun _=>True) (.ptr (m+6) 0 0) (a6m m n fr D):=by
 refine a8D (k:=bxD) trivial ?_ (fun h=>h) rfl ⟨b9G,trivial⟩
 show (((mF m n D.A).map flB)++bxD::X)[m]? =_
 rw [lbc (by simp [b9])]
 simp [b9]
theorem b4p {m n t:Nat} {fr:List (Nat × Bool)} {D:Fd} {X:Hp} {i:Int} (h:X[t]? =some (bxI i)):VY (J4 m n fr D.V D.G D.O D.F D.A X) (fun _=>True) (.ptr (m+6+t) 0 0) (.ptr [ti i]):=by
 refine a8D (k:=bxI i) trivial ?_ (fun h=>h) rfl ⟨a6G,trivial⟩
 show (J4 m n fr D.V D.G D.O D.F D.A X)[m+6+t]? =_
 rw [show m+6+t=m+t+6 by omega]
 show (((mF m n D.A).map flB)++X)[m+t]? =_
 rw [lbc (by simp [b9])]
 simpa [b9] using h
theorem ba9 {m n:Nat} {fr:List (Nat × Bool)} {D:Fd} {X:Hp}:VYS (J4 m n fr D.V D.G D.O D.F D.A X) (fun _=>True) (.c (.own 3 0 m true)) (a6D m D.O):=.vc (t8 (k:=Y1 m D.O) trivial rfl (fun h=>h) rfl rfl (by simp [x5]))
theorem bc5 {m n:Nat} {fr:List (Nat × Bool)} {D:Fd} {X:Hp}:VYS (J4 m n fr D.V D.G D.O D.F D.A X) (fun _=>True) (.c (.own 4 0 n true)) (a6D n D.F):=.vc (t8 (k:=Y1 n D.F) trivial rfl (fun h=>h) rfl rfl (by simp [x5]))
theorem a9I {m n:Nat} {fr:List (Nat × Bool)} {D:Fd} {r s:Nat} (X:Hp) (h:b7 Tryz.prog 248 [.c (.ptr 0 0 0),a8 .i64 r,a8 .i64 s] (a02 m n fr D) (.tup []) (a02 m n fr (D.exch r s))):
 b7 Tryz.prog 248 [.c (.ptr 0 0 0),a8 .i64 r,a8 .i64 s] (J4 m n fr D.V D.G D.O D.F D.A X) (.tup []) (J4 m n fr (D.exch r s).V (D.exch r s).G (D.exch r s).O (D.exch r s).F (D.exch r s).A X):=by
 have hl:∀{D:Fd},∀k ∈ a02 m n fr D,k.mode=.live∧k.app=false:=by
  intro D k hk
  simp only [lbA] at hk
  rcases hk with rfl|rfl|rfl|rfl|rfl|rfl|hk
  ·exact ⟨rfl,rfl⟩
  ·exact ⟨rfl,rfl⟩
  ·exact ⟨rfl,rfl⟩
  ·exact ⟨rfl,rfl⟩
  ·exact ⟨rfl,rfl⟩
  ·exact ⟨rfl,rfl⟩
  ·obtain ⟨l,_,rfl⟩:=lbx.1 hk
   exact ⟨rfl,rfl⟩
 exact a2p (n:=m+6) X h a2Z a2Z (by simp [okS,okC,a8,Nat.blt_eq]) (fun k hk=>⟨(hl k hk).1,(hl k hk).2,a7s k hk⟩) (fun k hk=>⟨(by rw [(hl k hk).1];intro h;cases h),a7s k hk⟩) rfl rfl
def aZ4:b52->Int × Int
 |.best=>(-1,-1)
 |.row r=>(r,-1)
 |.col s=>(-1,s)
 |.next r s=>(r,s)
theorem b55 {N:Nat} (h:0<N):okB N bxD:=by
 intro r hr c hc
 simp at hr;subst hr
 simp at hc;subst hc
 exact h
set_option maxHeartbeats 4000000 in
theorem b4B (m n:Nat) (fr:List (Nat × Bool)) (D0:Fd) (g0:Nat->Rat) (hm:m<=100000) (hn:n<=1000) (h0:a6g m n D0 g0 D0) (hB:∀D,V7 m n D0 D->BdD m n 30000 D):
 b7 Tryz.prog 196 [.c (.ptr 0 0 0)] (a02 m n fr D0) (.tup [a8 .i64 (aZ4 (D5 m n (ai6 m n D0))).1,a8 .i64 (aZ4 (D5 m n (ai6 m n D0))).2]) (a02 m n fr (ai6 m n D0)):=by
 (refine ac Tryz.func196 ?_;(conv=>whnf);repeat (refine zy ?_;conv=>whnf))
 repeat' (first|refine zx ?_|refine P1 (b9 _ _ _) ?_|refine R8 ?_|refine zd ?_ ?_<;>intro h<;>try omega|fail)<;>conv=>whnf
 refine u9 c7 (σ:=Fd) (fun D=>([J,S.c (C.ptr (m+6) 0 0)]++Jn 69,J4 m n fr D.V D.G D.O D.F D.A [bxD])) (fun D=>V7 m n D0 D) (fun D=>a96 m n D) D0 (idR (m+7)) aU8 ?_ ?_
 ·refine T1 (T':=[]) (a11 rfl rfl rfl rfl rfl rfl (by rw [List.append_nil,List.append_nil];rfl)) rfl (by simp [b9]) (by intro k hk;simp at hk;subst hk;exact b55 (by omega)) ⟨⟨j4 (by omega),rfl,rfl⟩,trivial⟩
 intro D hD
 have bd:=hB D hD
 have inv:a6g m n D0 g0 D:=by obtain ⟨k,hk⟩:=hD;exact a31 h0 hk
 have l1:=a5v m hm D.O (fun i=>decide (D.V i<0)) 244 [a6m m n fr D] (fun i hi=>b2X m n fr D i hi)
 have l2:=a5v n (by omega) D.F (fun j=>decide (0<D.G j)) 245 [a6m m n fr D] (fun j hj=>b2s m n fr D j hj)
 have va1:∀X,a2L (J4 m n fr D.V D.G D.O D.F D.A (bxD::X)) (fun _=>True) [.c (.own 3 0 m true),.c (.fn (.func 244) [.ptr (m+6) 0 0])] [a6D m D.O,.c (.t (.fn (.func 244) [a6m m n fr D]))]:=
  fun X=>⟨ba9,b0R (show _∧True from ⟨az2,trivial⟩),trivial⟩
 have va2:∀X,a2L (J4 m n fr D.V D.G D.O D.F D.A (bxD::X)) (fun _=>True) [.c (.own 4 0 n true),.c (.fn (.func 245) [.ptr (m+6) 0 0])] [a6D n D.F,.c (.t (.fn (.func 245) [a6m m n fr D]))]:=
  fun X=>⟨bc5,b0R (show _∧True from ⟨az2,trivial⟩),trivial⟩
 have va3:∀X (r:Nat),a2L (J4 m n fr D.V D.G D.O D.F D.A (bxD::bxI r::X)) (fun _=>True) [.c (.own 4 0 n true),.c (.fn (.func 246) [.ptr (m+6) 0 0,.ptr (m+7) 0 0])] [a6D n D.F,.c (.t (.fn (.func 246) [a6m m n fr D,.ptr [ti r]]))]:=
  fun X r=>⟨bc5,b0R (show _∧_∧True from ⟨az2,b4p (t:=1) rfl,trivial⟩),trivial⟩
 have va4:∀X (x:Int) (s:Nat),a2L (J4 m n fr D.V D.G D.O D.F D.A (bxD::bxI x::bxI s::X)) (fun _=>True) [.c (.own 3 0 m true),.c (.fn (.func 247) [.ptr (m+6) 0 0,.ptr (m+8) 0 0])] [a6D m D.O,.c (.t (.fn (.func 247) [a6m m n fr D,.ptr [ti s]]))]:=
  fun X x s=>⟨ba9,b0R (show _∧_∧True from ⟨az2,b4p (t:=2) rfl,trivial⟩),trivial⟩
 have fin0:∀(X:Hp) (r c:Int),H3 m n D=none->(r,c)=aZ4 (D5 m n D)->Fin (a02 m n fr D0).length (.tup [a8 .i64 r,a8 .i64 c]) (J4 m n fr D.V D.G D.O D.F D.A X) (.tup [a8 .i64 (aZ4 (D5 m n (ai6 m n D0))).1,a8 .i64 (aZ4 (D5 m n (ai6 m n D0))).2]) (a02 m n fr (ai6 m n D0)):=by
  intro X r c hn ho
  have e:=b9n h0 hD hn
  rw [← e,←ho]
  have e0:a02 m n fr D=J4 m n fr D.V D.G D.O D.F D.A []:=by
   show _::_::_::_::_::_::_=_::_::_::_::_::_::(_++[])
   rw [List.append_nil]
  rw [e0]
  exact ac0 (N:=m+6) rfl rfl (by simp [b9]) ⟨rfl,rfl,trivial⟩
 have go:∀(X:Hp) (env:Env) (r s:Nat),D5 m n D=.next r s->a1F (idR (m+7)) (J4 m n fr (D.exch r s).V (D.exch r s).G (D.exch r s).O (D.exch r s).F (D.exch r s).A (bxD::X)) env ([J,S.c (C.ptr (m+6) 0 0)]++Jn 69)->
  ∃ρ x',Ent (a02 m n fr D0).length ρ env (J4 m n fr (D.exch r s).V (D.exch r s).G (D.exch r s).O (D.exch r s).F (D.exch r s).A (bxD::X)) ([J,S.c (C.ptr (m+6) 0 0)]++Jn 69) (J4 m n fr x'.V x'.G x'.O x'.F x'.A [bxD])∧V7 m n D0 x'∧a96 m n x'<a96 m n D:=by
  intro X env r s hs hE
  have hnx:H3 m n D=some (D.exch r s):=by unfold H3;rw [hs]
  exact ⟨idR (m+7),D.exch r s,T1 (T:=[bxD]) (T':=X) rfl rfl (by simp [b9]) (by intro k hk;simp at hk;subst hk;exact b55 (by omega)) hE,ae4 hD hnx,aZ2 (b8v inv.p inv.g) hnx⟩
 have exc:∀r s:Nat,D5 m n D=.next r s->b7 Tryz.prog 248 [.c (.ptr 0 0 0),a8 .i64 r,a8 .i64 s] (a02 m n fr D) (.tup []) (a02 m n fr (D.exch r s)):=fun r s hs=>by
  obtain ⟨q1,q2,q3⟩:=a5p hs
  exact aX7 m n fr D r s hm hn q1 q2 (a7a q3) bd (hB _ (ae4 hD (by unfold H3;rw [hs])))
 cases hR:U1 D.O (fun i=>decide (D.V i<0)) m with
 |none=>
  rw [hR,show leI none=-1 from rfl] at l1
  cases hS:U1 D.F (fun j=>decide (0<D.G j)) n with
  |none=>
   rw [hS,show leI none=-1 from rfl] at l2
   have hst:D5 m n D=.best:=by unfold D5;rw [hR,hS]
   conv=>whnf
   repeat' (first|refine zx ?_|refine .inl ⟨_,_,k8 l1 (va1 _) rfl,?_⟩|refine .inl ⟨_,_,k8 l2 (va2 _) rfl,?_⟩|refine j2 (b9 _ _ _) ?_|refine i8 ?_|refine w6 (b9 _ _ _) ?_|refine g7 (t:=1) (b9 _ _ _) ?_|refine g7 (t:=2) (b9 _ _ _) ?_|refine g9 (t:=1) (b9 _ _ _) ?_|refine g9 (t:=2) (b9 _ _ _) ?_|refine zd ?_ ?_<;>intro h<;>try omega|fail)<;>conv=>whnf
   all_goals first
    |omega
    |exact fin0 _ _ _ (by unfold H3;rw [hst]) (by rw [hst];rfl)
  |some ss=>
   rw [hS,show leI (some ss)=ss from rfl] at l2
   have hss:=(H8 hS).1
   have l4:=a5v m hm D.O (fun i=>decide (0<D.A i ss)) 247 [a6m m n fr D,T.ptr [ti ss]] (fun i hi=>ao8 m n fr D i ss hi hss)
   cases hC:U1 D.O (fun i=>decide (0<D.A i ss)) m with
   |none=>
    rw [hC,show leI none=-1 from rfl] at l4
    have hst:D5 m n D=.col ss:=by unfold D5;rw [hR,hS];show a17 m D ss=_;unfold a17;rw [hC]
    conv=>whnf
    repeat' (first|refine zx ?_|refine .inl ⟨_,_,k8 l1 (va1 _) rfl,?_⟩|refine .inl ⟨_,_,k8 l2 (va2 _) rfl,?_⟩|refine .inl ⟨_,_,k8 l4 (va4 _ _ ss) rfl,?_⟩|refine j2 (b9 _ _ _) ?_|refine i8 ?_|refine w6 (b9 _ _ _) ?_|refine g7 (t:=1) (b9 _ _ _) ?_|refine g7 (t:=2) (b9 _ _ _) ?_|refine g9 (t:=1) (b9 _ _ _) ?_|refine g9 (t:=2) (b9 _ _ _) ?_|refine zd ?_ ?_<;>intro h<;>try omega|fail)<;>conv=>whnf
    all_goals first
     |omega
     |exact fin0 _ _ _ (by unfold H3;rw [hst]) (by rw [hst];rfl)
   |some rq=>
    rw [hC,show leI (some rq)=rq from rfl] at l4
    have hst:D5 m n D=.next rq ss:=by unfold D5;rw [hR,hS];show a17 m D ss=_;unfold a17;rw [hC]
    have exr:=exc _ _ hst
    conv=>whnf
    repeat' (first|refine zx ?_|refine .inl ⟨_,_,k8 l1 (va1 _) rfl,?_⟩|refine .inl ⟨_,_,k8 l2 (va2 _) rfl,?_⟩|refine .inl ⟨_,_,k8 l4 (va4 _ _ ss) rfl,?_⟩|refine .inr ⟨_,_,a9I _ exr,?_⟩|refine j2 (b9 _ _ _) ?_|refine i8 ?_|refine w6 (b9 _ _ _) ?_|refine g7 (t:=1) (b9 _ _ _) ?_|refine g7 (t:=2) (b9 _ _ _) ?_|refine g9 (t:=1) (b9 _ _ _) ?_|refine g9 (t:=2) (b9 _ _ _) ?_|refine zd ?_ ?_<;>intro h<;>try omega|fail)<;>conv=>whnf
    all_goals first
     |omega
     |exact go _ _ _ _ hst ⟨⟨j4 (by omega),rfl,rfl⟩,trivial⟩
 |some rr=>
  rw [hR,show leI (some rr)=rr from rfl] at l1
  cases hS:U1 D.F (fun j=>decide (0<D.G j)) n with
  |none=>
   rw [hS,show leI none=-1 from rfl] at l2
   have hrr:=(H8 hR).1
   have l3:=a5v n (by omega) D.F (fun j=>decide (D.A rr j<0)) 246 [a6m m n fr D,T.ptr [ti rr]] (fun j hj=>ap0 m n fr D rr j hrr hj)
   cases hC:U1 D.F (fun j=>decide (D.A rr j<0)) n with
   |none=>
    rw [hC,show leI none=-1 from rfl] at l3
    have hst:D5 m n D=.row rr:=by unfold D5;rw [hR,hS];show a15 n D rr=_;unfold a15;rw [hC]
    conv=>whnf
    repeat' (first|refine zx ?_|refine .inl ⟨_,_,k8 l1 (va1 _) rfl,?_⟩|refine .inl ⟨_,_,k8 l2 (va2 _) rfl,?_⟩|refine .inl ⟨_,_,k8 l3 (va3 _ rr) rfl,?_⟩|refine j2 (b9 _ _ _) ?_|refine i8 ?_|refine w6 (b9 _ _ _) ?_|refine g7 (t:=1) (b9 _ _ _) ?_|refine g7 (t:=2) (b9 _ _ _) ?_|refine g9 (t:=1) (b9 _ _ _) ?_|refine g9 (t:=2) (b9 _ _ _) ?_|refine zd ?_ ?_<;>intro h<;>try omega|fail)<;>conv=>whnf
    all_goals first
     |omega
     |exact fin0 _ _ _ (by unfold H3;rw [hst]) (by rw [hst];rfl)
   |some sq=>
    rw [hC,show leI (some sq)=sq from rfl] at l3
    have hst:D5 m n D=.next rr sq:=by unfold D5;rw [hR,hS];show a15 n D rr=_;unfold a15;rw [hC]
    have exr:=exc _ _ hst
    conv=>whnf
    repeat' (first|refine zx ?_|refine .inl ⟨_,_,k8 l1 (va1 _) rfl,?_⟩|refine .inl ⟨_,_,k8 l2 (va2 _) rfl,?_⟩|refine .inl ⟨_,_,k8 l3 (va3 _ rr) rfl,?_⟩|refine .inr ⟨_,_,a9I _ exr,?_⟩|refine j2 (b9 _ _ _) ?_|refine i8 ?_|refine w6 (b9 _ _ _) ?_|refine g7 (t:=1) (b9 _ _ _) ?_|refine g7 (t:=2) (b9 _ _ _) ?_|refine g9 (t:=1) (b9 _ _ _) ?_|refine g9 (t:=2) (b9 _ _ _) ?_|refine zd ?_ ?_<;>intro h<;>try omega|fail)<;>conv=>whnf
    all_goals first
     |omega
     |exact go _ _ _ _ hst ⟨⟨j4 (by omega),rfl,rfl⟩,trivial⟩
  |some ss=>
   rw [hS,show leI (some ss)=ss from rfl] at l2
   have hrr:=(H8 hR).1
   have hss:=(H8 hS).1
   by_cases hlt:D.O rr<D.F ss
   ·skip
    have l3:=a5v n (by omega) D.F (fun j=>decide (D.A rr j<0)) 246 [a6m m n fr D,T.ptr [ti rr]] (fun j hj=>ap0 m n fr D rr j hrr hj)
    cases hC:U1 D.F (fun j=>decide (D.A rr j<0)) n with
    |none=>
     rw [hC,show leI none=-1 from rfl] at l3
     have hst:D5 m n D=.row rr:=by unfold D5 a15;rw [hR,hS];simp only [if_pos hlt];rw [hC]
     conv=>whnf
     repeat' (first|refine zx ?_|refine .inl ⟨_,_,k8 l1 (va1 _) rfl,?_⟩|refine .inl ⟨_,_,k8 l2 (va2 _) rfl,?_⟩|refine .inl ⟨_,_,k8 l3 (va3 _ rr) rfl,?_⟩|refine j2 (b9 _ _ _) ?_|refine i8 ?_|refine w6 (b9 _ _ _) ?_|refine g7 (t:=1) (b9 _ _ _) ?_|refine g7 (t:=2) (b9 _ _ _) ?_|refine g9 (t:=1) (b9 _ _ _) ?_|refine g9 (t:=2) (b9 _ _ _) ?_|refine a0X (r:=rr) (by omega) hrr ?_|refine a0X (r:=ss) (by omega) hss ?_|refine zd ?_ ?_<;>intro h<;>try omega|fail)<;>conv=>whnf
     all_goals first
      |omega
      |exact fin0 _ _ _ (by unfold H3;rw [hst]) (by rw [hst];rfl)
    |some sq=>
     rw [hC,show leI (some sq)=sq from rfl] at l3
     have hst:D5 m n D=.next rr sq:=by unfold D5 a15;rw [hR,hS];simp only [if_pos hlt];rw [hC]
     have exr:=exc _ _ hst
     conv=>whnf
     repeat' (first|refine zx ?_|refine .inl ⟨_,_,k8 l1 (va1 _) rfl,?_⟩|refine .inl ⟨_,_,k8 l2 (va2 _) rfl,?_⟩|refine .inl ⟨_,_,k8 l3 (va3 _ rr) rfl,?_⟩|refine .inr ⟨_,_,a9I _ exr,?_⟩|refine j2 (b9 _ _ _) ?_|refine i8 ?_|refine w6 (b9 _ _ _) ?_|refine g7 (t:=1) (b9 _ _ _) ?_|refine g7 (t:=2) (b9 _ _ _) ?_|refine g9 (t:=1) (b9 _ _ _) ?_|refine g9 (t:=2) (b9 _ _ _) ?_|refine a0X (r:=rr) (by omega) hrr ?_|refine a0X (r:=ss) (by omega) hss ?_|refine zd ?_ ?_<;>intro h<;>try omega|fail)<;>conv=>whnf
     all_goals first
      |omega
      |exact go _ _ _ _ hst ⟨⟨j4 (by omega),rfl,rfl⟩,trivial⟩
   ·skip
    have l4:=a5v m hm D.O (fun i=>decide (0<D.A i ss)) 247 [a6m m n fr D,T.ptr [ti ss]] (fun i hi=>ao8 m n fr D i ss hi hss)
    cases hC:U1 D.O (fun i=>decide (0<D.A i ss)) m with
    |none=>
     rw [hC,show leI none=-1 from rfl] at l4
     have hst:D5 m n D=.col ss:=by unfold D5 a17;rw [hR,hS];simp only [if_neg hlt];rw [hC]
     conv=>whnf
     repeat' (first|refine zx ?_|refine .inl ⟨_,_,k8 l1 (va1 _) rfl,?_⟩|refine .inl ⟨_,_,k8 l2 (va2 _) rfl,?_⟩|refine .inl ⟨_,_,k8 l4 (va4 _ _ ss) rfl,?_⟩|refine j2 (b9 _ _ _) ?_|refine i8 ?_|refine w6 (b9 _ _ _) ?_|refine g7 (t:=1) (b9 _ _ _) ?_|refine g7 (t:=2) (b9 _ _ _) ?_|refine g9 (t:=1) (b9 _ _ _) ?_|refine g9 (t:=2) (b9 _ _ _) ?_|refine a0X (r:=rr) (by omega) hrr ?_|refine a0X (r:=ss) (by omega) hss ?_|refine zd ?_ ?_<;>intro h<;>try omega|fail)<;>conv=>whnf
     all_goals first
      |omega
      |exact fin0 _ _ _ (by unfold H3;rw [hst]) (by rw [hst];rfl)
    |some rq=>
     rw [hC,show leI (some rq)=rq from rfl] at l4
     have hst:D5 m n D=.next rq ss:=by unfold D5 a17;rw [hR,hS];simp only [if_neg hlt];rw [hC]
     have exr:=exc _ _ hst
     conv=>whnf
     repeat' (first|refine zx ?_|refine .inl ⟨_,_,k8 l1 (va1 _) rfl,?_⟩|refine .inl ⟨_,_,k8 l2 (va2 _) rfl,?_⟩|refine .inl ⟨_,_,k8 l4 (va4 _ _ ss) rfl,?_⟩|refine .inr ⟨_,_,a9I _ exr,?_⟩|refine j2 (b9 _ _ _) ?_|refine i8 ?_|refine w6 (b9 _ _ _) ?_|refine g7 (t:=1) (b9 _ _ _) ?_|refine g7 (t:=2) (b9 _ _ _) ?_|refine g9 (t:=1) (b9 _ _ _) ?_|refine g9 (t:=2) (b9 _ _ _) ?_|refine a0X (r:=rr) (by omega) hrr ?_|refine a0X (r:=ss) (by omega) hss ?_|refine zd ?_ ?_<;>intro h<;>try omega|fail)<;>conv=>whnf
     all_goals first
      |omega
      |exact go _ _ _ _ hst ⟨⟨j4 (by omega),rfl,rfl⟩,trivial⟩
theorem a1n {P:Program} {g:FuncId} {args:List S} {H:Hp} {b:Blk} {n:Nat} {app:Bool} (h:b7 P g args [] (.c (.own 0 0 n app)) [b]) (ha:args.all S.isT=true) (hm:b.mode=.live) (hb:E5 b.rows):
 Q6 P g args H (.c (.own H.length 0 n app)) [b]:=by
 refine ⟨h.1,fun w ι M vals hl hv hH hM hf=>?_⟩
 have:=h.2 w (fun _=>none) M vals hl (fun j s hj=>(hv j s hj).tree (lbv.1 ha s (lbm hj)))
  ⟨by simp,by simp,by simp,by simp,by simp⟩ hM (fun _ _=>rfl)
 refine Calls.mono this ?_
 rintro e w' ⟨v,rfl,ι',M',h1,h2,h3,h4,h5⟩
 have hnl:∀x,¬a24 (fun _=>none) ([]:Hp) x:=by rintro x ⟨id,k,_,_,hk,_⟩;simp at hk
 obtain ⟨l,hl0⟩:∃l,ι' 0=some l:=by
  cases h1 with
  |c h1=>cases h1 with
   |own hi=>exact ⟨_,hi⟩
   |nil hi=>exact ⟨_,hi⟩
 have hnew:B7 ι H.length [b].length (fun _=>l) H.length=some l:=by unfold B7;simp
 have hMM:∀x,a5T M [b].length (fun _=>l) x->M' x:=by
  intro x hx
  rcases hx with hx|⟨k,hk,cap,size,he⟩
  ·rcases h5.mold x hx with h|h
   ·exact h
   ·exact absurd h (hnl x)
  ·have he:l=.blk x cap size:=he
   subst he
   exact h2.liv 0 b rfl hm x cap size hl0
 refine ⟨v,rfl,fun _=>l,?_,⟨h5.os,h5.tape,h5.output,h5.size,fun x hx=>h5.keep x hx (hnl x)⟩,?_,?_,?_⟩
 ·cases h1 with
  |c h1=>cases h1 with
   |own hi q1 q2 q3 q4 q5=>
    rw [hl0] at hi;injection hi with hi
    subst hi
    exact .c (.own hnew q1 q2 q3 q4 q5)
   |nil hi=>
    rw [hl0] at hi;injection hi with hi
    subst hi
    exact .c (.nil hnew)
 ·intro k blk hk
  cases k with
  |succ k=>simp at hk
  |zero=>
   simp at hk
   subst hk
   refine ⟨hm,?_⟩
   have hbr:=h2.blk 0 b rfl (by rw [hm];intro h;cases h) l hl0
   cases l with
   |nil=>exact hbr
   |blk x cap size=>
    obtain ⟨r1,r2,r3,r4,r5,cur,r6,r7,r8⟩:=hbr
    refine ⟨r1,r2,r3,r4,r5,cur,r6,r7,fun i j c hc=>?_⟩
    obtain ⟨u,u1,u2⟩:=r8 i j c hc
    exact ⟨u,u1,aP4 hMM hb hc u2⟩
 ·intro k x cap size hk he
  have he:l=.blk x cap size:=he
  subst he
  refine ⟨?_,h3 x (h2.liv 0 b rfl hm x cap size hl0)⟩
  rcases h5.live x ⟨0,b,cap,size,rfl,hm,hl0⟩ with h|h
  ·exact absurd h (hnl x)
  ·exact h
 ·intro k k' x cap size cap' size' hk hk' _ _
  simp at hk hk'
  omega
theorem b2h (H:Hp) (n:Nat) (hn:n<=1000):Q6 Tryz.prog 241 [a8 .i64 n] H (.c (.own H.length 0 n true)) [flB (rF n fun _=>0)]:=
 a1n (b7o n hn) rfl rfl (c8 _)
def a4B (l:List (Int × Rat)):Nat->Nat->Rat
 |0=>C6 l
 |k+1=>match l[k]? with
  |none=>a4B l k
  |some t=>fun j=>if j=t.1.toNat then -t.2 else a4B l k j
theorem ar9 {l:List (Int × Rat)} {k:Nat} {t:Int × Rat} (h:l[k]? =some t):a4B l (k+1)=fun j=>if j=t.1.toNat then -t.2 else a4B l k j:=by rw [a4B,h]
theorem b1n (l:List (Int × Rat)) (j:Nat):∀k,k<=l.length->a4B l k j=-(L8 l k j)∨(L8 l k j=0∧a4B l k j=C6 l j)
 |0,_=>.inr ⟨rfl,rfl⟩
 |k+1,hk=>by
  obtain ⟨t,ht⟩:∃t,l[k]? =some t:=⟨_,lbf (by omega)⟩
  rw [ar9 ht,K4 ht]
  simp only
  by_cases hj:j=t.1.toNat
  ·rw [if_pos hj,if_pos hj];exact .inl rfl
  ·rw [if_neg hj,if_neg hj];exact b1n l j k (by omega)
theorem b4z (l:List (Int × Rat)):a4B l l.length=fun j=>-(C6 l j):=by
 funext j
 rcases b1n l j l.length (lbQ _) with h|⟨h1,h2⟩
 ·exact h
 ·rw [h2]
  have:C6 l j=0:=h1
  rw [this];decide
def sgF (b:Bool) (l:List (Int × Rat)):Nat->Rat:=fun j=>V3 b (C6 l j)
theorem a0r {H:Hp} {N n:Nat} (hN:H.length=N) (hn:n<=1000):Q6 Tryz.prog 241 [a8 .i64 n] H (.c (.own N 0 n true)) [flB (rF n fun _=>0)]:=by subst hN;exact b2h H n hn
abbrev pB (n k l i f:Nat):Blk:={ mode:=.live,elem:=364,size:=6,rows:=[[C.t (ti n),.own l 0 k true,.own 2 0 n true,.own i 0 k true,.t (.sl 0 .nil []),.own f 0 k true]],box:=true }
abbrev a9X (t:TypeId) (s:Nat):Blk:=⟨.dead,t,s,[],false,false⟩
abbrev a6b (n k:Nat) (V G:Nat->Rat) (O:Nat->Nat) (fr:List (Nat × Bool)) (A:Nat->Nat->Rat) (X:Hp):Hp:=
 pB n k 1 3 4::a0G 5 k n V::flB (rF n G)::Y1 k O::a1v fr::((mF k n A).map flB++X)
abbrev lnX (k n:Nat) (v:Rat):Blk:={ mode:=.live,elem:=367,size:=5,rows:=[frC (fz v)++[C.own (k+6) 0 n true]],box:=true }
abbrev b1D (n k:Nat) (v:Rat) (a V G:Nat->Rat) (O:Nat->Nat) (fr:List (Nat × Bool)) (f:Nat × Bool) (A:Nat->Nat->Rat) (bx:Blk):Hp:=
 pB n (k+1) (k+8) (k+7) (k+9)::a9X 367 5::flB (rF n G)::a9X 3 1::a9X 413 2::((mF k n A).map flB++
  [bx,flB (rF n a),Y1 (k+1) O,{ mode:=.live,elem:=367,size:=5,rows:=Q5 5 k n V++[frC (fz v)++[C.own (k+6) 0 n true]],box:=false },a1v (fr++[f])])
theorem aA8 {k n N:Nat} {v:Rat} (h:k+6<N):okB N (lnX k n v):=by
 intro r hr c hc
 simp at hr;subst hr
 simp [frC] at hc
 rcases hc with rfl|rfl|rfl|rfl|rfl<;>first|trivial|exact h
theorem bd0 {n k N l i f:Nat} (h1:l<N) (h2:i<N) (h3:f<N) (h4:2<N):okB N (pB n k l i f):=by
 intro r hr c hc
 simp at hr;subst hr
 simp at hc
 rcases hc with rfl|rfl|rfl|rfl|rfl|rfl<;>first|trivial|assumption
theorem aM7 {n k:Nat} {V G:Nat->Rat} {O:Nat->Nat} {fr:List (Nat × Bool)} {A:Nat->Nat->Rat} {X:Hp}:(a6b n k V G O fr A X).length=k+5+X.length:=by simp [b9];omega
theorem b7d {n k N:Nat} {V G:Nat->Rat} {O:Nat->Nat} {fr:List (Nat × Bool)} {A:Nat->Nat->Rat} {X:Hp} (h:k+5<=N) (hX:∀b ∈ X,okB N b):∀b ∈ a6b n k V G O fr A X,okB N b:=by
 intro b hb
 simp only [lbA,lbz] at hb
 rcases hb with rfl|rfl|rfl|rfl|rfl|hb|hb
 ·exact bd0 (by omega) (by omega) (by omega) (by omega)
 ·exact af8 h
 ·exact E1 rfl
 ·exact E1 rfl
 ·exact E1 rfl
 ·obtain ⟨l,_,rfl⟩:=lbx.1 hb
  exact E1 rfl
 ·exact hX b hb
theorem b4t {n k:Nat} {V G:Nat->Rat} {O:Nat->Nat} {fr:List (Nat × Bool)} {A:Nat->Nat->Rat} {X X':Hp}:a6b n k V G O fr A (X++X')=a6b n k V G O fr A X++X':=by
 show _::_::_::_::_::(_++(X++X'))=_::_::_::_::_::((_++X)++X')
 rw [lbD]
theorem a01 {n0 N n k:Nat} {V G:Nat->Rat} {O:Nat->Nat} {fr:List (Nat × Bool)} {A:Nat->Nat->Rat} {X X' H:Hp} {env env':Env} (hH:H=a6b n k V G O fr A (X++X')) (hN:k+5+X.length=N) (h0:n0<=N) (hX:∀b ∈ X,okB N b)
 (hE:a1F (idR N) H env env'):Ent n0 (idR N) env H env' (a6b n k V G O fr A X):=by
 refine X5 (by rw [aM7];exact hN) h0 (b7d (by omega) hX) (fun i hi=>?_) hE
 rw [hH,b4t,lbb (by rw [aM7];omega)]
theorem a1T {b0 b1 b2 b3 b4 c0 c1 c2 c3 c4:Blk} {L L':Hp} (h0:b0=c0) (h1:b1=c1) (h2:b2=c2) (h3:b3=c3) (h4:b4=c4) (h6:L=L'):b0::b1::b2::b3::b4::L=c0::c1::c2::c3::c4::L':=by
 subst h0 h1 h2 h3 h4 h6;rfl
def fR (N:Nat) (f:Nat->Nat):List (Option Nat):=(List.range N).map fun i=>some (f i)
theorem x7 {N i:Nat} {f:Nat->Nat} (h:i<N):(fR N f)[i]? =some (some (f i)):=by simp [fR,h]
theorem b9M (N:Nat) (f:Nat->Nat):(fR N f).length=N:=by simp [fR]
theorem b3H {N i j:Nat} {f:Nat->Nat} (h:(fR N f)[i]? =some (some j)):i<N∧f i=j:=by
 obtain ⟨h1,h2⟩:=lbe.1 h
 simp [fR] at h1 h2
 exact ⟨h1,h2⟩
theorem ag8 {ρ:List (Option Nat)}:∀{m:Nat},(∀ i:Nat,i<m->ρ[i]? =some (some i))->a1M ρ m=true
 |0,_=>rfl
 |m+1,h=>by
  unfold a1M
  rw [h m (by omega),ag8 fun i hi=>h i (by omega)]
  simp
theorem b1i {N:Nat} {f:Nat->Nat} {H H':Hp} (hn:H'.length=N) (hB:∀(i:Nat) (k':Blk),H'[i]? =some k'->∃k:Blk,H[f i]? =some k∧a1f (fR N f) H k k'):a35 (fR N f) H (fR N f) H':=
 a5t (by rw [b9M,hn]) fun i k' hk=>by
  have hi:i<N:=by rw [← hn];exact (lbe.1 hk).1
  obtain ⟨k,h1,h2⟩:=hB i k' hk
  exact ⟨f i,k,x7 hi,h1,h2⟩
theorem aL7 {N:Nat} {f:Nat->Nat} {H:Hp} (hinj:∀i j,i<N->j<N->f i=f j->i=j):V5 (fR N f) H=true:=a2V fun i j n h1 h2=>by
 obtain ⟨a1,a2⟩:=b3H h1
 obtain ⟨b1,b2⟩:=b3H h2
 exact hinj i j a1 b1 (by omega)
theorem aV0 {n0 N:Nat} {f:Nat->Nat} {env env':Env} {H H':Hp} (hn:H'.length=N) (h0:n0<=N) (hk:∀i,i<n0->f i=i) (hinj:∀i j,i<N->j<N->f i=f j->i=j)
 (hB:∀(i:Nat) (k':Blk),H'[i]? =some k'->∃k:Blk,H[f i]? =some k∧a1f (fR N f) H k k') (hE:a1F (fR N f) H env env'):Ent n0 (fR N f) env H env' H':=
 ⟨ag8 fun i hi=>by rw [x7 (by omega),hk i hi],aL7 hinj,b1i hn hB,hE⟩
theorem b9I {n0 N:Nat} {f:Nat->Nat} {r s:S} {H H':Hp} (hn:H'.length=N) (h0:n0<=N) (hk:∀i,i<n0->f i=i) (hinj:∀i j,i<N->j<N->f i=f j->i=j)
 (hB:∀(i:Nat) (k':Blk),H'[i]? =some k'->∃k:Blk,H[f i]? =some k∧a1f (fR N f) H k k') (hE:ak9 (fR N f) H r s):Fin n0 r H s H':=
 ⟨fR N f,ag8 fun i hi=>by rw [x7 (by omega),hk i hi],aL7 hinj,b1i hn hB,hE⟩
theorem b81 (k:Blk):a2A k k=true:=by unfold a2A;cases k.mode<;>simp
theorem i6 {ρ:List (Option Nat)} {H:Hp} {k:Blk} (h:E5 k.rows):a1f ρ H k k:=⟨b81 k,rfl,rfl,.inl ⟨rfl,h⟩⟩
theorem b0r {ρ:List (Option Nat)} {H:Hp} {l l':List C} (h:a9m ρ H l l'):∀ts:List T,a9m ρ H (ts.map C.t++l) (ts.map C.t++l')
 |[]=>h
 |t::r=>⟨X7 t,b0r h r⟩
theorem a1W {ρ:List (Option Nat)} {H:Hp} {m n:Nat} {V:Nat->Rat} {h h':Nat->Nat} (hh:∀i,i<m->ρ[h' i]? =some (some (h i))):
 a1f ρ H { mode:=.live,elem:=367,size:=5,rows:=(List.range m).map fun i=>frC (fz (V i))++[C.own (h i) 0 n true],box:=false } { mode:=.live,elem:=367,size:=5,rows:=(List.range m).map fun i=>frC (fz (V i))++[C.own (h' i) 0 n true],box:=false }:=by
 refine ⟨rfl,rfl,rfl,.inr (a4E (by simp) fun i x y hx hy=>?_)⟩
 have hi:i<m:=by have:=(lbe.1 hx).1;simpa using this
 simp [hi] at hx hy
 subst hx hy
 exact b0r (ts:=j5 (fz (V i))) (l:=[C.own (h i) 0 n true]) (l':=[C.own (h' i) 0 n true]) ⟨⟨hh i hi,rfl,rfl,fun h=>h⟩,trivial⟩
theorem b0B {a b:Nat} {K:Prop} (h:a<=b) (k:K):a<=b∧K:=⟨h,k⟩
theorem a4z {N:Nat} {b:Blk} (h:E5 b.rows):okB N b:=by
 intro r hr c hc
 have:=h r hr c hc
 cases c<;>first|trivial|cases this
def aD2 (k n:Nat) (v:Rat) (V:Nat->Rat):Nat->Rat:=fun i=>if i=k then v else V i
def hnd (k:Nat):Nat->Nat:=fun i=>if i=k then k+6 else i+5
theorem a9U {k n:Nat} {v:Rat} {V:Nat->Rat}:Q5 5 k n V++[frC (fz v)++[C.own (k+6) 0 n true]]=(List.range (k+1)).map fun i=>frC (fz (aD2 k n v V i))++[C.own (hnd k i) 0 n true]:=by
 rw [List.range_succ,lbC]
 congr 1
 ·refine lbp fun i hi=>?_
  have:=lbB.1 hi
  unfold aD2 hnd
  rw [if_neg (by omega),if_neg (by omega)]
 ·unfold aD2 hnd;simp
abbrev bb2 (n k:Nat) (v:Rat) (a V G:Nat->Rat) (O:Nat->Nat) (fr:List (Nat × Bool)) (f:Nat × Bool) (A:Nat->Nat->Rat) (bx lx lit:Blk):Hp:=
 pB n (k+1) (k+10) (k+8) (k+11)::a9X 367 5::flB (rF n G)::a9X 3 1::a9X 413 2::((mF k n A).map flB++
  [bx,flB (rF n a),lx,Y1 (k+1) O,lit,{ mode:=.live,elem:=367,size:=5,rows:=Q5 5 k n V++[frC (fz v)++[C.own (k+6) 0 n true]],box:=false },a1v (fr++[f])])
def ae7 (k:Nat):Nat->Nat:=fun i=>if i<k+7 then i else if i=k+7 then k+8 else if i=k+8 then k+10 else k+11
theorem a1B {α β:Type} {f:β->α} {M:List β} {X:List α} {N t:Nat} (h:M.length=N):(M.map f++X)[N+t]? =X[t]?:=by
 rw [lbc (by simp [h])];simp [h]
theorem b8z {n0 n:Nat} {r s:S} {H H':Hp} (e:n0=n) (h:Fin n r H s H'):Fin n0 r H s H':=by subst e;exact h
theorem b14 {n k:Nat} {v:Rat} {a V G:Nat->Rat} {O:Nat->Nat} {fr:List (Nat × Bool)} {f:Nat × Bool} {A:Nat->Nat->Rat} {bx lx lit:Blk} {H:Hp} (hbx:E5 bx.rows) (hH:H=bb2 n k v a V G O fr f A bx lx lit):
 Fin (k+6) (.tup []) H (.tup []) (b1D n k v a V G O fr f A bx):=by
 subst hH
 refine b9I (N:=k+10) (f:=ae7 k) (by simp [b9]) (by omega) (fun i hi=>by unfold ae7;rw [if_pos (by omega)]) (fun i j hi hj h=>by unfold ae7 at h;(repeat' split at h)<;>omega) ?_ trivial
 have r7:ae7 k (k+7)=k+8:=by unfold ae7;rw [if_neg (by omega),if_pos rfl]
 have r8:ae7 k (k+8)=k+10:=by unfold ae7;rw [if_neg (by omega),if_neg (by omega),if_pos rfl]
 have r9:ae7 k (k+9)=k+11:=by unfold ae7;rw [if_neg (by omega),if_neg (by omega),if_neg (by omega)]
 have rl:∀i,i<k+7->ae7 k i=i:=fun i hi=>by unfold ae7;rw [if_pos hi]
 intro i k' hk
 rcases i with _|_|_|_|_|i
 ·injection hk with hk;subst hk
  rw [rl 0 (by omega)]
  exact ⟨_,rfl,rfl,rfl,rfl,.inr ⟨⟨rfl,⟨by rw [x7 (by omega),r8],rfl,rfl,fun h=>h⟩,⟨by rw [x7 (by omega),rl 2 (by omega)],rfl,rfl,fun h=>h⟩,⟨by rw [x7 (by omega),r7],rfl,rfl,fun h=>h⟩,rfl,⟨by rw [x7 (by omega),r9],rfl,rfl,fun h=>h⟩,trivial⟩,trivial⟩⟩
 ·injection hk with hk;subst hk;rw [rl 1 (by omega)];exact ⟨_,rfl,i6 (by simp [E5])⟩
 ·injection hk with hk;subst hk;rw [rl 2 (by omega)];exact ⟨_,rfl,i6 (c8 _)⟩
 ·injection hk with hk;subst hk;rw [rl 3 (by omega)];exact ⟨_,rfl,i6 (by simp [E5])⟩
 ·injection hk with hk;subst hk;rw [rl 4 (by omega)];exact ⟨_,rfl,i6 (by simp [E5])⟩
 ·have hk:((mF k n A).map flB++[bx,flB (rF n a),Y1 (k+1) O,{ mode:=.live,elem:=367,size:=5,rows:=Q5 5 k n V++[frC (fz v)++[C.own (k+6) 0 n true]],box:=false },a1v (fr++[f])])[i]? =some k':=hk
  by_cases hi:i<k
  ·rw [K8 (P5 hi)] at hk
   injection hk with hk;subst hk
   rw [rl (i+5) (by omega)]
   exact ⟨_,K8 (P5 hi),i6 (c8 _)⟩
  ·obtain ⟨t,rfl⟩:∃t,i=k+t:=⟨i - k,by omega⟩
   rw [a1B (b9 _ _ _)] at hk
   have lk:∀j,(bb2 n k v a V G O fr f A bx lx lit)[k+j+5]? =([bx,flB (rF n a),lx,Y1 (k+1) O,lit,{ mode:=.live,elem:=367,size:=5,rows:=Q5 5 k n V++[frC (fz v)++[C.own (k+6) 0 n true]],box:=false },a1v (fr++[f])]:Hp)[j]?:=fun j=>a1B (b9 _ _ _)
   rcases t with _|_|_|_|_|t
   ·injection hk with hk;subst hk
    rw [rl (k+0+5) (by omega)]
    exact ⟨_,lk 0,i6 hbx⟩
   ·injection hk with hk;subst hk
    rw [rl (k+1+5) (by omega)]
    exact ⟨_,lk 1,i6 (c8 _)⟩
   ·injection hk with hk;subst hk
    rw [show k+2+5=k+7 by omega,r7]
    exact ⟨_,lk 3,i6 (c8 _)⟩
   ·injection hk with hk;subst hk
    rw [show k+3+5=k+8 by omega,r8]
    refine ⟨_,lk 5,?_⟩
    rw [a9U]
    refine a1W fun j hj=>?_
    have:hnd k j<k+7:=by unfold hnd;split<;>omega
    rw [x7 (by omega),rl _ this]
   ·injection hk with hk;subst hk
    rw [show k+4+5=k+9 by omega,r9]
    exact ⟨_,lk 6,i6 (c8 _)⟩
   ·simp at hk
theorem l7 {a0 a1 a2 a3 a4 a5 a6 b0 b1 b2 b3 b4 b5 b6:Blk} (h0:a0=b0) (h1:a1=b1) (h2:a2=b2) (h3:a3=b3) (h4:a4=b4) (h5:a5=b5) (h6:a6=b6):([a0,a1,a2,a3,a4,a5,a6]:Hp)=[b0,b1,b2,b3,b4,b5,b6]:=by
 subst h0 h1 h2 h3 h4 h5 h6;rfl
theorem a8I {k:Nat} {O:Nat->Nat} {x:Int} (h:x=O k):(toC (a0S k O)).take k++toC [[ti x]]=toC (a0S (k+1) O):=by
 rw [lbn (by simp [toC,x5])]
 unfold a0S
 rw [List.range_succ,lbC,h]
 simp [toC]
theorem ag5 {fr:List (Nat × Bool)} {k:Nat} (h:fr.length=k) (f:Nat × Bool):(toC (a0b fr)).take k++toC [[ti f.1,tb f.2]]=toC (a0b (fr++[f])):=by
 rw [lbn (by simp [toC,a0b,h])]
 unfold a0b
 simp [toC]
set_option maxHeartbeats 4000000 in
theorem bd2 (n k row:Nat) (w:k7) (b:Bool) (V G:Nat->Rat) (fr:List (Nat × Bool)) (hfr:fr.length=k) (A:Nat->Nat->Rat) (bx:Blk) (hbx:E5 bx.rows) (hn:n<=1000) (hk:k<=10000) (hrow:row<=100000)
 (hr:d8 (-1) n w.terms=true) (hl:w.terms.length<=1000) (hb:∀t ∈ w.terms,rl t.2<=60000) (hv:rl w.value<=60000):
 b7 Tryz.prog 242 [.c (.ptr 0 0 0),a8 .i64 row,b74 w,f7 b] (a6b n k V G (fun i=>n+i) fr A [bx]) (.tup []) (b1D n k (V3 b w.value) (sgF b w.terms) V G (fun i=>n+i) fr (row,b) A bx):=by
 have m1:(w.terms.map j9).length=w.terms.length:=by simp
 (refine ac Tryz.func242 ?_;(conv=>whnf);repeat ((first|refine b0x ?_|refine zy ?_);conv=>whnf))
 repeat' (first|refine zz ?_|refine qp b9 ?_|refine b0x ?_|refine .inl ⟨_,_,a0r (N:=k+6) (by simp [b9]) hn,?_⟩|refine j2 (b9 _ _ _) ?_|refine i8 ?_|refine g7 (t:=1) (b9 _ _ _) ?_|refine g7 (t:=2) (b9 _ _ _) ?_|refine g7 (t:=3) (b9 _ _ _) ?_|refine g9 (t:=1) (b9 _ _ _) ?_|refine g9 (t:=2) (b9 _ _ _) ?_|refine g9 (t:=3) (b9 _ _ _) ?_|refine zd ?_ ?_<;>intro h<;>try omega|refine zy ?_|fail)<;>conv=>whnf
 refine f8 c7 (fun q=>([S.c (C.ptr 0 0 0),a8 .i64 row,J,f7 b,J,J,S.c (C.t (T.ptr (C8 w))),J,S.c (C.ptr (k+7) 0 0)]++Jn 13++[k9 w.terms,a8 .i64 w.terms.length,a8 .i64 q]++Jn 73,a6b n k V G (fun i=>n+i) fr A [bx,flB (rF n (L8 w.terms q)),lnX k n w.value])) w.terms.length (fun _=>True) (idR (k+8)) trivial ?_ ?_
 ·refine a01 (X':=[]) (a1T rfl rfl rfl rfl rfl ?_) rfl (by simp [b9]) ?_ ?_
  ·rfl
  ·intro b hb;simp at hb;rcases hb with rfl|rfl|rfl
   ·exact a4z hbx
   ·exact E1 rfl
   ·exact aA8 (by omega)
  ·exact ⟨⟨j4 (by omega),rfl,rfl⟩,rfl,rfl,i5 rfl,⟨j4 (by omega),rfl,rfl⟩,i5 rfl,c6 (by omega),c6 rfl,trivial⟩
 intro q hq _
 by_cases hlt:q<w.terms.length
 ·obtain ⟨t,ht⟩:∃t,w.terms[q]? =some t:=⟨_,lbf hlt⟩
  obtain ⟨t0,t1,t2⟩:=p6 hr t (lbm ht)
  have gp:(rF n (L8 w.terms q))[0+t.1.toNat]? =some (fz (L8 w.terms q t.1.toNat)):=by rw [Nat.zero_add,J2 (by omega)]
  have eV:0+t.1.toNat=t.1.toNat:=by omega
  have e:q9 (flB (rF n (L8 w.terms q))) ((flB (rF n (L8 w.terms q))).rows.set (0+t.1.toNat) (frC (fz t.2)))=flB (rF n (L8 w.terms (q+1))):=by
   have e1:=M4 (row:=rF n (L8 w.terms q)) (y:=fz t.2) eV
   rw [Z0 (by omega),←K4 ht] at e1
   exact e1
  conv=>whnf
  repeat' (first|refine zx ?_|refine d7 ht ?_|refine p4 gp ?_|refine j2 (b9 _ _ _) ?_|refine i8 ?_|refine g7 (t:=1) (b9 _ _ _) ?_|refine g7 (t:=2) (b9 _ _ _) ?_|refine g7 (t:=3) (b9 _ _ _) ?_|refine g9 (t:=1) (b9 _ _ _) ?_|refine g9 (t:=2) (b9 _ _ _) ?_|refine g9 (t:=3) (b9 _ _ _) ?_|refine zd ?_ ?_<;>intro h<;>try omega|fail)<;>conv=>whnf
  all_goals first
   |omega
   |(refine ⟨hlt,trivial,idR (k+8),a01 (X:=[bx,flB (rF n (L8 w.terms (q+1))),lnX k n w.value]) (a1T rfl rfl rfl rfl rfl (congrArg (fun z=>(mF k n A).map flB++(bx::z::lnX k n w.value::[_])) e)) rfl (by simp [b9]) ?_ ⟨⟨j4 (by omega),rfl,rfl⟩,rfl,rfl,rfl,⟨j4 (by omega),rfl,rfl⟩,rfl,rfl,c6 (by omega),trivial⟩⟩
     intro b hb;simp at hb;rcases hb with rfl|rfl|rfl
     ·exact a4z hbx
     ·exact E1 rfl
     ·exact aA8 (by omega))
 ·have hqe:q=w.terms.length:=by omega
  subst hqe
  cases b with
  |false=>
   conv=>whnf
   repeat' (first|refine aK5 [0,1,2,3,4,5,6,7,9,10,11,12,13,14,15,16,8,17,18,19,20,21,22,23] (by decide +kernel) (by decide +kernel) ?_|refine zz ?_|refine zz ?_|refine zz ?_|refine zz ?_|refine zz ?_|refine zz ?_|refine qp (0,1,2,3,4,5,6,7,9,10,11,12,13,14,15,16,8,17,18,19,20,21,22,23) ?_|refine qp (toC,x5,D7,a0b,hfr) ?_|refine qp (toC,x5,D7,a0b) ?_|refine qp 0 ?_|refine qp (0,1,8,9,10,11,12,13,14,15) ?_|refine qp (0,1) ?_|refine qp 1 ?_|refine y9 (by simp [toC,x5,D7,a0b,hfr]) (by simp [toC,x5,D7,a0b];omega) ?_|refine bl0 [0] ?_|refine bl0 [0,1,8,9,10,11,12,13,14,15] ?_|refine bl0 [0,1] ?_|refine bl0 [1] ?_|refine j2 (b9 _ _ _) ?_|refine i8 ?_|refine g7 (t:=1) (b9 _ _ _) ?_|refine g7 (t:=2) (b9 _ _ _) ?_|refine g7 (t:=3) (b9 _ _ _) ?_|refine g9 (t:=1) (b9 _ _ _) ?_|refine g9 (t:=2) (b9 _ _ _) ?_|refine g9 (t:=3) (b9 _ _ _) ?_|refine g7 (t:=4) (b9 _ _ _) ?_|refine b0B (lbQ 1) ?_|refine zd ?_ ?_<;>intro h<;>try omega|refine zy ?_|fail)<;>conv=>whnf
   all_goals try omega
   all_goals refine b8z (n:=k+6) (by simp [b9]) (b14 (lit:=_) hbx (a1T rfl rfl rfl rfl rfl (congrArg (fun z=>(mF k n A).map flB++z) (l7 rfl rfl rfl ?_ rfl ?_ ?_))))
   ·exact congrArg (fun z=>({ mode:=.live,elem:=3,size:=1,rows:=z,box:=false }:Blk)) (a8I (x:=(n:Int)+k) (by simp))
   ·exact congrArg (fun z=>({ mode:=.live,elem:=367,size:=5,rows:=z,box:=false }:Blk)) (congrArg (fun z=>z++[frC (fz w.value)++[C.own (k+6) 0 n true]]) (lbn (by simp [D7])))
   ·exact congrArg (fun z=>({ mode:=.live,elem:=413,size:=2,rows:=z,box:=false }:Blk)) (ag5 hfr (row,false))
  |true=>
   have nv:=a0Z w.value hv
   conv=>whnf
   repeat' (first|refine zx ?_|refine qp nv ?_|refine j2 (b9 _ _ _) ?_|refine i8 ?_|refine g7 (t:=1) (b9 _ _ _) ?_|refine g7 (t:=2) (b9 _ _ _) ?_|refine g7 (t:=3) (b9 _ _ _) ?_|refine g9 (t:=1) (b9 _ _ _) ?_|refine g9 (t:=2) (b9 _ _ _) ?_|refine g9 (t:=3) (b9 _ _ _) ?_|refine zd ?_ ?_<;>intro h<;>try omega|fail)<;>conv=>whnf
   all_goals try omega
   refine f8 c7 (fun q=>([S.c (C.ptr 0 0 0),a8 .i64 row,J,f7 true,J,J,J,J,S.c (C.ptr (k+7) 0 0)]++Jn 33++[k9 w.terms,a8 .i64 w.terms.length,a8 .i64 q]++Jn 53,a6b n k V G (fun i=>n+i) fr A [bx,flB (rF n (a4B w.terms q)),lnX k n (-w.value)])) w.terms.length (fun _=>True) (idR (k+8)) trivial ?_ ?_
   ·refine a01 (X':=[]) (a1T rfl rfl rfl rfl rfl rfl) rfl (by simp [b9]) ?_ ?_
    ·intro b hb;simp at hb;rcases hb with rfl|rfl|rfl
     ·exact a4z hbx
     ·exact E1 rfl
     ·exact aA8 (by omega)
    ·exact ⟨⟨j4 (by omega),rfl,rfl⟩,rfl,rfl,⟨j4 (by omega),rfl,rfl⟩,i5 rfl,c6 (by omega),c6 rfl,trivial⟩
   intro q hq _
   by_cases hlt:q<w.terms.length
   ·obtain ⟨t,ht⟩:∃t,w.terms[q]? =some t:=⟨_,lbf hlt⟩
    obtain ⟨t0,t1,t2⟩:=p6 hr t (lbm ht)
    have nt:=a0Z t.2 (hb t (lbm ht))
    have gp:(rF n (a4B w.terms q))[0+t.1.toNat]? =some (fz (a4B w.terms q t.1.toNat)):=by rw [Nat.zero_add,J2 (by omega)]
    have eV:0+t.1.toNat=t.1.toNat:=by omega
    have e:q9 (flB (rF n (a4B w.terms q))) ((flB (rF n (a4B w.terms q))).rows.set (0+t.1.toNat) (frC (fz (-t.2))))=flB (rF n (a4B w.terms (q+1))):=by
     have e1:=M4 (row:=rF n (a4B w.terms q)) (y:=fz (-t.2)) eV
     rw [Z0 (by omega),←ar9 ht] at e1
     exact e1
    conv=>whnf
    repeat' (first|refine zx ?_|refine qp nt ?_|refine d7 ht ?_|refine p4 gp ?_|refine j2 (b9 _ _ _) ?_|refine i8 ?_|refine g7 (t:=1) (b9 _ _ _) ?_|refine g7 (t:=2) (b9 _ _ _) ?_|refine g7 (t:=3) (b9 _ _ _) ?_|refine g9 (t:=1) (b9 _ _ _) ?_|refine g9 (t:=2) (b9 _ _ _) ?_|refine g9 (t:=3) (b9 _ _ _) ?_|refine zd ?_ ?_<;>intro h<;>try omega|fail)<;>conv=>whnf
    all_goals first
     |omega
     |(refine ⟨hlt,trivial,idR (k+8),a01 (X:=[bx,flB (rF n (a4B w.terms (q+1))),lnX k n (-w.value)]) (a1T rfl rfl rfl rfl rfl (congrArg (fun z=>(mF k n A).map flB++(bx::z::lnX k n (-w.value)::[_])) e)) rfl (by simp [b9]) ?_ ⟨⟨j4 (by omega),rfl,rfl⟩,rfl,rfl,⟨j4 (by omega),rfl,rfl⟩,rfl,rfl,c6 (by omega),trivial⟩⟩
       intro b hb;simp at hb;rcases hb with rfl|rfl|rfl
       ·exact a4z hbx
       ·exact E1 rfl
       ·exact aA8 (by omega))
   ·have hqe:q=w.terms.length:=by omega
    subst hqe
    have ea:a4B w.terms w.terms.length=sgF true w.terms:=b4z w.terms
    conv=>whnf
    repeat' (first|refine aK5 [0,1,2,3,4,5,6,7,9,10,11,12,13,14,15,16,8,17,18,19,20,21,22,23] (by decide +kernel) (by decide +kernel) ?_|refine zz ?_|refine zz ?_|refine zz ?_|refine zz ?_|refine zz ?_|refine zz ?_|refine qp (0,1,2,3,4,5,6,7,9,10,11,12,13,14,15,16,8,17,18,19,20,21,22,23) ?_|refine qp (toC,x5,D7,a0b,hfr) ?_|refine qp (toC,x5,D7,a0b) ?_|refine qp 0 ?_|refine qp (0,1,8,9,10,11,12,13,14,15) ?_|refine qp (0,1) ?_|refine qp 1 ?_|refine y9 (by simp [toC,x5,D7,a0b,hfr]) (by simp [toC,x5,D7,a0b];omega) ?_|refine bl0 [0] ?_|refine bl0 [0,1,8,9,10,11,12,13,14,15] ?_|refine bl0 [0,1] ?_|refine bl0 [1] ?_|refine j2 (b9 _ _ _) ?_|refine i8 ?_|refine g7 (t:=1) (b9 _ _ _) ?_|refine g7 (t:=2) (b9 _ _ _) ?_|refine g7 (t:=3) (b9 _ _ _) ?_|refine g9 (t:=1) (b9 _ _ _) ?_|refine g9 (t:=2) (b9 _ _ _) ?_|refine g9 (t:=3) (b9 _ _ _) ?_|refine g7 (t:=4) (b9 _ _ _) ?_|refine b0B (lbQ 1) ?_|refine zd ?_ ?_<;>intro h<;>try omega|refine zy ?_|fail)<;>conv=>whnf
    all_goals try omega
    all_goals refine b8z (n:=k+6) (by simp [b9]) (b14 (lit:=_) hbx (a1T rfl rfl rfl rfl rfl (congrArg (fun z=>(mF k n A).map flB++z) (l7 rfl (by rw [ea]) rfl ?_ rfl ?_ ?_))))
    ·exact congrArg (fun z=>({ mode:=.live,elem:=3,size:=1,rows:=z,box:=false }:Blk)) (a8I (x:=(n:Int)+k) (by simp))
    ·exact congrArg (fun z=>({ mode:=.live,elem:=367,size:=5,rows:=z,box:=false }:Blk)) (congrArg (fun z=>z++[frC (fz (-w.value))++[C.own (k+6) 0 n true]]) (lbn (by simp [D7])))
    ·exact congrArg (fun z=>({ mode:=.live,elem:=413,size:=2,rows:=z,box:=false }:Blk)) (ag5 hfr (row,true))
def gR (N:Nat) (f:Nat->Option Nat):List (Option Nat):=(List.range N).map f
theorem a3j {N i:Nat} {f:Nat->Option Nat} (h:i<N):(gR N f)[i]? =some (f i):=by simp [gR,h]
theorem b46 {N i:Nat} {x:Option Nat} {f:Nat->Option Nat} (h:(gR N f)[i]? =some x):i<N∧f i=x:=by
 obtain ⟨h1,h2⟩:=lbe.1 h
 simp [gR] at h1 h2
 exact ⟨h1,h2⟩
theorem aK4 {ρ:List (Option Nat)} {H:Hp}:∀{r:List (Option Nat)} {H':Hp},r.length=H'.length->(∀ (i:Nat) (k':Blk),H'[i]? =some k'->(r[i]? =some none∧k'.rows=[]∧k'.mode=.live)∨∃(j:Nat) (k:Blk),r[i]? =some (some j)∧H[j]? =some k∧a1f ρ H k k')->a35 ρ H r H'
 |[],[],_,_=>trivial
 |[],_::_,h,_=>by simp at h
 |_::_,[],h,_=>by simp at h
 |x::r,k'::H',hl,h=>by
  refine ⟨?_,aK4 (by simpa using hl) fun i k1 hk=>by simpa using h (i+1) k1 (by simpa using hk)⟩
  rcases h 0 k' rfl with ⟨h1,h2,h3⟩|⟨j,k,h1,h2,h3⟩
  ·simp at h1;subst h1;exact ⟨h2,h3⟩
  ·simp at h1;subst h1
   simp only [h2]
   exact h3
theorem b44 {N:Nat} {f:Nat->Option Nat} {env env':Env} {H H':Hp} (hn:H'.length=N) (hinj:∀i j x,i<N->j<N->f i=some x->f j=some x->i=j)
 (hB:∀(i:Nat) (k':Blk),H'[i]? =some k'->(f i=none∧k'.rows=[]∧k'.mode=.live)∨∃(j:Nat) (k:Blk),f i=some j∧H[j]? =some k∧a1f (gR N f) H k k') (hE:a1F (gR N f) H env env'):Ent 0 (gR N f) env H env' H':=
 ⟨rfl,a2V fun i j n h1 h2=>by
   obtain ⟨a1,a2⟩:=b46 h1
   obtain ⟨b1,b2⟩:=b46 h2
   exact hinj i j n a1 b1 a2 b2,aK4 (by simp [gR,hn]) fun i k' hk=>by
   have hi:i<N:=by rw [← hn];exact (lbe.1 hk).1
   rcases hB i k' hk with ⟨h1,h2⟩|⟨j,k,h1,h2⟩
   ·exact .inl ⟨by rw [a3j hi,h1],h2⟩
   ·exact .inr ⟨j,k,by rw [a3j hi,h1],h2⟩,hE⟩
theorem a68 {s:g6} (k:Nat):L0 s (k+1)=match s.rows[k]? with
 |none=>L0 s k
 |some w=>L0 s k++(if w.kind≠0 then [(k,false)] else [])++(if w.kind≠1 then [(k,true)] else []):=rfl
theorem aq5 {s:g6} {i:Nat}:∀d,∃rest,L0 s (i+d)=L0 s i++rest
 |0=>⟨[],by simp⟩
 |d+1=>by
  obtain ⟨r,hr⟩:=aq5 (s:=s) (i:=i) d
  rw [show i+(d+1)=(i+d)+1 by omega,a68]
  cases s.rows[i+d]? with
  |none=>exact ⟨r,hr⟩
  |some w=>exact ⟨r++((if w.kind≠0 then [(i+d,false)] else [])++(if w.kind≠1 then [(i+d,true)] else [])),by simp only;rw [hr,lbD,lbD]⟩
theorem ar7 {s:g6} {i k:Nat} {f:Nat × Bool} (hi:i<=s.rows.length) (h:(L0 s i)[k]? =some f):(d6 s).getD k (0,false)=f:=by
 obtain ⟨r,hr⟩:=aq5 (s:=s) (i:=i) (s.rows.length - i)
 rw [show i+(s.rows.length - i)=s.rows.length by omega] at hr
 unfold d6
 rw [hr,lbl,lbb (lbe.1 h).1,h];rfl
theorem a5C {s:g6}:∀i,(L0 s i).length<=2*i
 |0=>by simp [L0]
 |i+1=>by
  have ih:=a5C (s:=s) i
  rw [a68]
  cases s.rows[i]? with
  |none=>simp only;omega
  |some w=>
   simp only [lbq]
   split<;>split<;>simp<;>omega
theorem ac2 {s:g6} {i:Nat} {w:k7} (h:s.rows[i]? =some w):L0 s (i+1)=(L0 s i++if w.kind≠0 then [(i,false)] else [])++if w.kind≠1 then [(i,true)] else []:=by
 rw [a68,h]
def T7 (k:Nat):Nat->Nat:=fun i=>if i=0 then 0 else if i=1 then k+8 else if i=2 then 2 else if i=3 then k+7 else if i=4 then k+9 else if i<k+5 then i else if i=k+5 then k+6 else k+5
theorem af0 {k:Nat} (i:Nat) (hi:i<k+7):(i=0∧T7 k i=0)∨(i=1∧T7 k i=k+8)∨(i=2∧T7 k i=2)∨(i=3∧T7 k i=k+7)∨(i=4∧T7 k i=k+9)∨(5<=i∧i<k+5∧T7 k i=i)∨(5<=i∧i=k+5∧T7 k i=k+6)∨(5<=i∧i=k+6∧T7 k i=k+5):=by
 unfold T7
 by_cases h0:i=0
 ·rw [if_pos h0];omega
 ·rw [if_neg h0]
  by_cases h1:i=1
  ·rw [if_pos h1];omega
  ·rw [if_neg h1]
   by_cases h2:i=2
   ·rw [if_pos h2];omega
   ·rw [if_neg h2]
    by_cases h3:i=3
    ·rw [if_pos h3];omega
    ·rw [if_neg h3]
     by_cases h4:i=4
     ·rw [if_pos h4];omega
     ·rw [if_neg h4]
      by_cases h5:i<k+5
      ·rw [if_pos h5];omega
      ·rw [if_neg h5]
       by_cases h6:i=k+5
       ·rw [if_pos h6];omega
       ·rw [if_neg h6];omega
theorem b6p {k:Nat}:T7 k (k+6)=k+5:=by
 have:=af0 (k:=k) (k+6) (by omega)
 omega
theorem b0a {n k:Nat} {a V G:Nat->Rat} {v:Rat} {O:Nat->Nat} {fr:List (Nat × Bool)} {f:Nat × Bool} {A:Nat->Nat->Rat} {bx:Blk} {env env':Env} (hbx:E5 bx.rows) (hv:v=V k) (ha:a=A k)
 (hE:a1F (fR (k+7) (T7 k)) (b1D n k v a V G O fr f A bx) env env'):Ent 0 (fR (k+7) (T7 k)) env (b1D n k v a V G O fr f A bx) env' (a6b n (k+1) V G O (fr++[f]) A [bx]):=by
 subst hv ha
 have r1:T7 k 1=k+8:=rfl
 have r3:T7 k 3=k+7:=rfl
 have r4:T7 k 4=k+9:=rfl
 have ra:∀i,i<k->T7 k (i+5)=i+5:=fun i hi=>by
  unfold T7
  rw [if_neg (by omega),if_neg (by omega),if_neg (by omega),if_neg (by omega),if_neg (by omega),if_pos (by omega)]
 have rk:T7 k (k+5)=k+6:=by
  unfold T7
  rw [if_neg (by omega),if_neg (by omega),if_neg (by omega),if_neg (by omega),if_neg (by omega),if_neg (by omega),if_pos rfl]
 have rb:T7 k (k+6)=k+5:=by
  unfold T7
  rw [if_neg (by omega),if_neg (by omega),if_neg (by omega),if_neg (by omega),if_neg (by omega),if_neg (by omega),if_neg (by omega)]
 have lk:∀j,(b1D n k (V k) (A k) V G O fr f A bx)[k+j+5]? =([bx,flB (rF n (A k)),Y1 (k+1) O,{ mode:=.live,elem:=367,size:=5,rows:=Q5 5 k n V++[frC (fz (V k))++[C.own (k+6) 0 n true]],box:=false },a1v (fr++[f])]:Hp)[j]?:=fun j=>a1B (b9 _ _ _)
 have eV:aD2 k n (V k) V=V:=by funext i;unfold aD2;split<;>simp_all
 refine aV0 (by simp [b9]) (by omega) (fun i hi=>by omega) (fun i j hi hj h=>by have:=af0 i hi;have:=af0 j hj;omega) ?_ hE
 intro i k' hk
 rcases i with _|_|_|_|_|i
 ·injection hk with hk;subst hk
  exact ⟨_,rfl,rfl,rfl,rfl,.inr ⟨⟨rfl,⟨by rw [x7 (by omega),r1],rfl,rfl,fun h=>h⟩,⟨by rw [x7 (by omega)];rfl,rfl,rfl,fun h=>h⟩,⟨by rw [x7 (by omega),r3],rfl,rfl,fun h=>h⟩,rfl,⟨by rw [x7 (by omega),r4],rfl,rfl,fun h=>h⟩,trivial⟩,trivial⟩⟩
 ·injection hk with hk;subst hk
  refine ⟨_,lk 3,?_⟩
  rw [a9U,eV]
  refine a1W (h':=fun i=>i+5) fun j hj=>?_
  rw [x7 (by omega)]
  unfold hnd
  by_cases hjk:j=k
  ·subst hjk;rw [if_pos rfl,rk]
  ·rw [if_neg hjk,ra j (by omega)]
 ·injection hk with hk;subst hk;exact ⟨_,rfl,i6 (c8 _)⟩
 ·injection hk with hk;subst hk;exact ⟨_,lk 2,i6 (c8 _)⟩
 ·injection hk with hk;subst hk;exact ⟨_,lk 4,i6 (c8 _)⟩
 ·have hk:((mF (k+1) n A).map flB++[bx])[i]? =some k':=hk
  by_cases hi:i<k+1
  ·rw [K8 (P5 hi)] at hk
   injection hk with hk;subst hk
   by_cases hik:i=k
   ·subst hik;rw [rk];exact ⟨_,lk 1,i6 (c8 _)⟩
   ·rw [ra i (by omega)]
    exact ⟨_,K8 (P5 (by omega)),i6 (c8 _)⟩
  ·obtain ⟨t,rfl⟩:∃t,i=(k+1)+t:=⟨i - (k+1),by omega⟩
   rw [a1B (b9 _ _ _)] at hk
   rcases t with _|t
   ·injection hk with hk;subst hk
    rw [show k+1+0+5=k+6 by omega,rb]
    exact ⟨_,lk 0,i6 hbx⟩
   ·simp at hk
theorem b6r {b0 b1 b2 b3 b4 b5 c0 c1 c2 c3 c4 c5:Blk} {L L':Hp} (h0:b0=c0) (h1:b1=c1) (h2:b2=c2) (h3:b3=c3) (h4:b4=c4) (h5:b5=c5) (h6:L=L'):b0::b1::b2::b3::b4::b5::L=c0::c1::c2::c3::c4::c5::L':=a11 h0 h1 h2 h3 h4 h5 h6
theorem D3:∀{last n:Int} {l:List (Int × Rat)},d8 last n l=true->l.length=0∨(l.length:Int)<=n - last - 1
 |_,_,[],_=>.inl rfl
 |last,n,a::r,h=>by
  unfold d8 at h
  simp only [lbM,lbI] at h
  have ih:=D3 h.2
  have h1:=h.1.1.1
  have h2:=h.1.1.2
  right
  rw [lbu]
  rcases ih with h0|h0
  ·rw [h0];omega
  ·omega
structure b8j (s:g6) (g:List (Int × Rat)) (n:Nat):Prop where
 r:i9 s=true
 tg:d8 (-1) n g=true
 en:s.n=n
 n1:n<=1000
 b:∀w ∈ s.rows,rl w.value<=60000∧∀t ∈ w.terms,rl t.2<=60000
 bg:∀t ∈ g,rl t.2<=60000
 l:s.rows.length<=4000
abbrev rbx (w:k7):Blk:={ mode:=.live,elem:=192,size:=6,rows:=[(C8 w).map C.t],box:=true }
theorem aE6 (w:k7):E5 (rbx w).rows:=c8 [C8 w]
def a1H (s:g6):List T:=[ti s.n,S6 s.rows]
def pF1:Nat->Option Nat:=fun i=>if i=0 then some 1 else if i=2 then some 0 else none
theorem b0m {s:g6} {g:List (Int × Rat)} {k:Nat} {b:Bool} {i:Nat} {w:k7} (h:(d6 s).getD k (0,false)=(i,b)) (hw:s.rows[i]? =some w):V3 b w.value=(f9 s g).V k:=by
 show _=a3M s ((d6 s).getD k (0,false))
 rw [h];unfold a3M;simp only [hw]
theorem b1B {s:g6} {g:List (Int × Rat)} {k:Nat} {b:Bool} {i:Nat} {w:k7} (h:(d6 s).getD k (0,false)=(i,b)) (hw:s.rows[i]? =some w):sgF b w.terms=(f9 s g).A k:=by
 funext j
 show _=a3H s ((d6 s).getD k (0,false)) j
 rw [h];unfold a3H;simp only [hw];rfl
abbrev dF (m n j q:Nat):Blk:={ mode:=.live,elem:=364,size:=6,rows:=[[C.t (ti n),.own 1 0 m true,.own 2 0 n true,.own 3 0 m true,.own 4 0 j true,.own 5 0 q true]],box:=true }
abbrev b7s (m n j:Nat) (V G:Nat->Rat) (O:Nat->Nat) (fr:List (Nat × Bool)) (A:Nat->Nat->Rat) (X:Hp):Hp:=
 dF m n j fr.length::a0G 6 m n V::flB (rF n G)::Y1 m O::Y1 j (fun j=>j)::a1v fr::((mF m n A).map flB++X)
def fF1:Nat->Option Nat:=fun i=>if i=4 then none else if i<4 then some i else some (i - 1)
theorem b6e {m n:Nat} {V G:Nat->Rat} {O:Nat->Nat} {fr:List (Nat × Bool)} {A:Nat->Nat->Rat} {env env':Env} {H:Hp} (hm:fr.length=m) (hH:H=a6b n m V G O fr A []) (hE:a1F (gR (m+6) fF1) H env env'):
 Ent 0 (gR (m+6) fF1) env H env' (b7s m n 0 V G O fr A []):=by
 subst hH
 refine b44 (by simp [b9]) (fun i j x hi hj h1 h2=>by unfold fF1 at h1 h2;(repeat' split at h1)<;>(repeat' split at h2)<;>first|(cases h1;done)|(cases h2;done)|(injection h1 with h1;injection h2 with h2;omega)) ?_ hE
 intro i k' hk
 have fa:∀i,fF1 (i+6)=some (i+5):=fun i=>by unfold fF1;rw [if_neg (by omega),if_neg (by omega)];rfl
 rcases i with _|_|_|_|_|_|i
 ·injection hk with hk;subst hk
  exact .inr ⟨0,_,rfl,rfl,rfl,rfl,rfl,.inr ⟨⟨rfl,⟨by rw [a3j (by omega)];rfl,rfl,rfl,fun h=>h⟩,⟨by rw [a3j (by omega)];rfl,rfl,rfl,fun h=>h⟩,⟨by rw [a3j (by omega)];rfl,rfl,rfl,fun h=>h⟩,⟨by rw [a3j (by omega)];rfl,rfl,rfl⟩,⟨by rw [a3j (by omega)];rfl,rfl,hm.symm,fun h=>h⟩,trivial⟩,trivial⟩⟩
 ·injection hk with hk;subst hk
  refine .inr ⟨1,_,rfl,rfl,a1W (h:=fun i=>i+5) (h':=fun i=>i+6) fun j hj=>?_⟩
  rw [a3j (by omega),fa]
 ·injection hk with hk;subst hk;exact .inr ⟨2,_,rfl,rfl,i6 (c8 _)⟩
 ·injection hk with hk;subst hk;exact .inr ⟨3,_,rfl,rfl,i6 (c8 _)⟩
 ·injection hk with hk;subst hk;exact .inl ⟨rfl,rfl,rfl⟩
 ·injection hk with hk;subst hk;exact .inr ⟨4,_,rfl,rfl,i6 (c8 _)⟩
 ·have hk:((mF m n A).map flB++[])[i]? =some k':=hk
  have hi:i<m:=by have:=(lbe.1 hk).1;simpa [b9] using this
  rw [K8 (P5 hi)] at hk
  injection hk with hk;subst hk
  exact .inr ⟨i+5,_,fa i,K8 (P5 hi),i6 (c8 _)⟩
abbrev bg9 (m n j:Nat) (V G:Nat->Rat) (O:Nat->Nat) (fr:List (Nat × Bool)) (A:Nat->Nat->Rat):Hp:=
 { mode:=.live,elem:=364,size:=6,rows:=[[C.t (ti n),.own 1 0 m true,.own 2 0 n true,.own 3 0 m true,.own (m+6) 0 (j+1) true,.own 5 0 fr.length true]],box:=true }::
   a0G 6 m n V::flB (rF n G)::Y1 m O::a9X 3 1::a1v fr::((mF m n A).map flB++[Y1 (j+1) (fun j=>j)])
def fF2 (m:Nat):Nat->Nat:=fun i=>if i=4 then m+6 else i
theorem b7u {m n j:Nat} {V G:Nat->Rat} {O:Nat->Nat} {fr:List (Nat × Bool)} {A:Nat->Nat->Rat} {env env':Env} {H:Hp} (hH:H=bg9 m n j V G O fr A) (hE:a1F (fR (m+6) (fF2 m)) H env env'):
 Ent 0 (fR (m+6) (fF2 m)) env H env' (b7s m n (j+1) V G O fr A []):=by
 subst hH
 have fa:∀i,i≠4->fF2 m i=i:=fun i hi=>by unfold fF2;rw [if_neg hi]
 refine aV0 (by simp [b9]) (by omega) (fun i hi=>by omega) (fun i j hi hj h=>by unfold fF2 at h;(repeat' split at h)<;>omega) ?_ hE
 intro i k' hk
 rcases i with _|_|_|_|_|_|i
 ·injection hk with hk;subst hk
  exact ⟨_,rfl,rfl,rfl,rfl,.inr ⟨⟨rfl,⟨by rw [x7 (by omega)];rfl,rfl,rfl,fun h=>h⟩,⟨by rw [x7 (by omega)];rfl,rfl,rfl,fun h=>h⟩,⟨by rw [x7 (by omega)];rfl,rfl,rfl,fun h=>h⟩,⟨by rw [x7 (by omega)];rfl,rfl,rfl,fun h=>h⟩,⟨by rw [x7 (by omega)];rfl,rfl,rfl,fun h=>h⟩,trivial⟩,trivial⟩⟩
 ·injection hk with hk;subst hk
  refine ⟨_,rfl,a1W (h:=fun i=>i+6) (h':=fun i=>i+6) fun j hj=>?_⟩
  rw [x7 (by omega),fa _ (by omega)]
 ·injection hk with hk;subst hk;exact ⟨_,rfl,i6 (c8 _)⟩
 ·injection hk with hk;subst hk;exact ⟨_,rfl,i6 (c8 _)⟩
 ·injection hk with hk;subst hk
  refine ⟨_,a1B (t:=0) (b9 _ _ _),i6 (c8 _)⟩
 ·injection hk with hk;subst hk;exact ⟨_,rfl,i6 (c8 _)⟩
 ·have hk:((mF m n A).map flB++[])[i]? =some k':=hk
  have hi:i<m:=by have:=(lbe.1 hk).1;simpa [b9] using this
  rw [K8 (P5 hi)] at hk
  injection hk with hk;subst hk
  rw [fa _ (by omega)]
  exact ⟨_,K8 (P5 hi),i6 (c8 _)⟩
set_option maxHeartbeats 4000000 in
theorem a8b (s:g6) (g:List (Int × Rat)) (n:Nat) (h:b8j s g n):
 b7 Tryz.prog 195 [S7 s,k9 g] [] (.c (.ptr 0 0 0)) (a02 (d6 s).length n (d6 s) (f9 s g)):=by
 have m1:(s.rows.map C8).length=s.rows.length:=by simp
 have m2:(g.map j9).length=g.length:=by simp
 have z0:∀H:Hp,H.length=0->Q6 Tryz.prog 241 [a8 .i64 s.n] H (.c (.own 0 0 n true)) [flB (rF n fun _=>0)]:=fun H hH=>by rw [h.en];exact a0r hH h.n1
 have hsl:=h.l
 have htg:=h.tg
 have hbg:=h.bg
 have hgl:=D3 htg
 have hn1:=h.n1
 have hen:=h.en
 have put0:∀(K i:Nat) (w:k7) (b:Bool) (F:List (Nat × Bool)) (bx:Blk),s.rows[i]? =some w->F.length=K->E5 bx.rows->K<=10000->i<=100000->
  b7 Tryz.prog 242 [.c (.ptr 0 0 0),a8 .i64 i,b74 w,f7 b] (a6b n K (f9 s g).V (fun _=>0) (fun i=>n+i) F (f9 s g).A [bx]) (.tup []) (b1D n K (V3 b w.value) (sgF b w.terms) (f9 s g).V (fun _=>0) (fun i=>n+i) F (i,b) (f9 s g).A bx):=by
  intro K i w b F bx hw hF hbx hK hi
  have hn:=O7 h.r
  have hrw:=(a00 h.r hw).1
  rw [hn,h.en] at hrw
  have hl:=D3 hrw
  have hb:=h.b w (lbm hw)
  exact bd2 n K i w b _ _ F hF _ bx hbx h.n1 hK hi hrw (by have:=h.n1;omega) hb.2 hb.1
 (refine ac Tryz.func195 ?_;(conv=>whnf);repeat ((first|refine b0x ?_|refine zy ?_);conv=>whnf))
 repeat' (first|refine zz ?_|refine b0x ?_|refine .inl ⟨_,_,z0 _ rfl,?_⟩|refine zd ?_ ?_<;>intro h<;>try omega|refine zy ?_|fail)<;>conv=>whnf
 refine aG9 (fun i=>([J,k9 g,S.c (C.t (T.ptr (a1H s))),J,J,S.c (C.ptr 0 0 0)]++Jn 13++[S.c (C.t (S6 s.rows)),a8 .i64 s.rows.length,a8 .i64 i]++Jn 53,a6b n (L0 s i).length (f9 s g).V (fun _=>0) (fun i=>n+i) (L0 s i) (f9 s g).A [])) s.rows.length (fun _=>True) (gR 5 pF1) trivial ?_ ?_
 ·refine b44 rfl (fun i j x hi hj h1 h2=>by unfold pF1 at h1 h2;(repeat' split at h1)<;>(repeat' split at h2)<;>first|(cases h1;done)|(cases h2;done)|(injection h1 with h1;injection h2 with h2;omega)) ?_ ?_
  ·intro i k' hk
   rcases i with _|_|_|_|_|i
   ·injection hk with hk;subst hk
    exact .inr ⟨1,_,rfl,rfl,rfl,rfl,rfl,.inr ⟨⟨b0P (by rw [h.en]),⟨rfl,rfl,rfl⟩,⟨rfl,rfl,rfl,fun h=>h⟩,⟨rfl,rfl,rfl⟩,rfl,⟨rfl,rfl,rfl⟩,trivial⟩,trivial⟩⟩
   ·injection hk with hk;subst hk;exact .inl ⟨rfl,rfl,rfl⟩
   ·injection hk with hk;subst hk;exact .inr ⟨0,_,rfl,rfl,i6 (c8 _)⟩
   ·injection hk with hk;subst hk;exact .inl ⟨rfl,rfl,rfl⟩
   ·injection hk with hk;subst hk;exact .inl ⟨rfl,rfl,rfl⟩
   ·simp [mF,L0] at hk
  ·exact ⟨rfl,i5 rfl,⟨rfl,rfl,rfl⟩,i5 rfl,c6 (by omega),c6 rfl,trivial⟩
 intro i hi _
 refine B6 c7 ?_
 conv=>whnf
 repeat' (first|refine zx ?_|refine i8 ?_|refine zd ?_ ?_<;>intro h<;>try omega|fail)<;>conv=>whnf
 ·have hlt:i<s.rows.length:=by omega
  obtain ⟨w,hw⟩:∃w,s.rows[i]? =some w:=⟨_,lbf hlt⟩
  obtain ⟨K,hK⟩:∃K,K=(L0 s i).length:=⟨_,rfl⟩
  rw [← hK]
  obtain ⟨K1,hK1⟩:∃K1,K1=(L0 s i++if w.kind≠0 then [(i,false)] else []).length:=⟨_,rfl⟩
  obtain ⟨F1,hF1⟩:∃F1,F1=(L0 s i++if w.kind≠0 then [(i,false)] else []):=⟨_,rfl⟩
  have hKb:K<=10000:=by have:=a5C (s:=s) i;omega
  refine B6 c7 ?_
  conv=>whnf
  refine a4w (a6A ?_)
  refine B6 c7 ?_
  conv=>whnf
  repeat' (first|refine zx ?_|refine d7 hw ?_|refine j2 (b9 _ _ _) ?_|refine i8 ?_|refine g7 (t:=0) (b9 _ _ _) ?_|refine g9 (t:=0) (b9 _ _ _) ?_|refine zd ?_ ?_<;>intro h<;>try omega|fail)<;>conv=>whnf
  refine a1a c7 ([J,k9 g,S.c (C.t (T.ptr (a1H s))),J,J,S.c (C.ptr 0 0 0),a8 .i64 i,S.c (C.ptr (K1+5) 0 0)]++Jn 11++[S.c (C.t (S6 s.rows)),a8 .i64 s.rows.length,a8 .i64 i]++Jn 53) (a6b n K1 (f9 s g).V (fun _=>0) (fun i=>n+i) F1 (f9 s g).A [rbx w]) ?_ ?_
  ·by_cases hk:w.kind=0
   ·have e1:F1=L0 s i:=by rw [hF1,if_neg (by simp [hk]),List.append_nil]
    have e2:K1=K:=by rw [hK1,if_neg (by simp [hk]),List.append_nil,hK]
    subst e1 e2
    conv=>whnf
    repeat' (first|refine zx ?_|refine j2 (b9 _ _ _) ?_|refine i8 ?_|refine g7 (t:=0) (b9 _ _ _) ?_|refine g9 (t:=0) (b9 _ _ _) ?_|refine zd ?_ ?_<;>intro h<;>try omega|fail)<;>conv=>whnf
    all_goals first
     |omega
     |exact ⟨idR (K1+6),a01 (X:=[rbx w]) (X':=[]) (a1T rfl rfl rfl rfl rfl rfl) rfl (Nat.zero_le _) (by intro b hb;simp at hb;subst hb;exact a4z (aE6 w)) ⟨rfl,rfl,⟨j4 (by omega),rfl,rfl⟩,rfl,⟨j4 (by omega),rfl,rfl⟩,rfl,rfl,rfl,trivial⟩⟩
   ·have e1:F1=L0 s i++[(i,false)]:=by rw [hF1,if_pos hk]
    have e2:K1=K+1:=by rw [hK1,if_pos hk,lbq,←hK];rfl
    have hg:(d6 s).getD K (0,false)=(i,false):=by
     refine ar7 (i:=i+1) (by omega) ?_
     rw [ac2 hw,if_pos hk,lbD,lbc (by omega),hK];simp
    subst e1 e2
    have pu:=put0 K i w false (L0 s i) (rbx w) hw hK.symm (aE6 w) hKb (by omega)
    conv=>whnf
    repeat' (first|refine zx ?_|refine .inr ⟨_,_,pu,?_⟩|refine j2 (b9 _ _ _) ?_|refine i8 ?_|refine g7 (t:=0) (b9 _ _ _) ?_|refine g9 (t:=0) (b9 _ _ _) ?_|refine zd ?_ ?_<;>intro h<;>try omega|fail)<;>conv=>whnf
    all_goals first
     |omega
     |exact ⟨_,b0a (aE6 w) (b0m hg hw) (b1B hg hw) ⟨rfl,rfl,⟨by rw [x7 (by omega)];rfl,rfl,rfl⟩,rfl,⟨by rw [x7 (by omega),b6p],rfl,rfl⟩,rfl,rfl,rfl,trivial⟩⟩
  ·have hl1:F1.length=K1:=by rw [hF1,hK1]
   have eF:L0 s (i+1)=F1++if w.kind≠1 then [(i,true)] else []:=by rw [ac2 hw,hF1]
   have hK1b:K1<=10000:=by
    have:=a5C (s:=s) i
    rw [hK1,lbq]
    split<;>simp<;>omega
   by_cases hk:w.kind=1
   ·have e1:L0 s (i+1)=F1:=by rw [eF,if_neg (by simp [hk]),List.append_nil]
    refine n9 c7 _ ?_
    conv=>whnf
    repeat' (first|refine zx ?_|refine j2 (b9 _ _ _) ?_|refine i8 ?_|refine g7 (t:=0) (b9 _ _ _) ?_|refine g9 (t:=0) (b9 _ _ _) ?_|refine zd ?_ ?_<;>intro h<;>try omega|fail)<;>conv=>whnf
    all_goals try omega
    refine n9 c7 _ ?_
    conv=>whnf
    repeat' (first|refine zx ?_|refine j2 (b9 _ _ _) ?_|refine i8 ?_|refine g7 (t:=0) (b9 _ _ _) ?_|refine g9 (t:=0) (b9 _ _ _) ?_|refine zd ?_ ?_<;>intro h<;>try omega|fail)<;>conv=>whnf
    refine ⟨hlt,trivial,idR (K1+5),?_⟩
    rw [e1,hl1]
    exact a01 (X:=[]) (X':=[rbx w]) (a1T rfl rfl rfl rfl rfl rfl) rfl (Nat.zero_le _) (by simp) ⟨rfl,rfl,⟨j4 (by omega),rfl,rfl⟩,rfl,rfl,c6 (by omega),trivial⟩
   ·have e1:L0 s (i+1)=F1++[(i,true)]:=by rw [eF,if_pos hk]
    have hg:(d6 s).getD K1 (0,false)=(i,true):=by
     refine ar7 (i:=i+1) (by omega) ?_
     rw [e1,lbc (by omega),hl1];simp
    have pu:=put0 K1 i w true F1 (rbx w) hw hl1 (aE6 w) hK1b (by omega)
    refine n9 c7 _ ?_
    conv=>whnf
    repeat' (first|refine zx ?_|refine .inr ⟨_,_,pu,?_⟩|refine j2 (b9 _ _ _) ?_|refine i8 ?_|refine g7 (t:=0) (b9 _ _ _) ?_|refine g9 (t:=0) (b9 _ _ _) ?_|refine zd ?_ ?_<;>intro h<;>try omega|fail)<;>conv=>whnf
    all_goals try omega
    refine b6y (env':=[J,k9 g,S.c (C.t (T.ptr (a1H s))),J,J,S.c (C.ptr 0 0 0)]++Jn 13++[S.c (C.t (S6 s.rows)),a8 .i64 s.rows.length,a8 .i64 i]++Jn 53) _ (b0a (aE6 w) (b0m hg hw) (b1B hg hw) ⟨rfl,rfl,⟨by rw [x7 (by omega)];rfl,rfl,rfl⟩,rfl,rfl,rfl,trivial⟩) ?_
    refine n9 c7 _ ?_
    conv=>whnf
    repeat' (first|refine zx ?_|refine j2 (b9 _ _ _) ?_|refine i8 ?_|refine g7 (t:=0) (b9 _ _ _) ?_|refine g9 (t:=0) (b9 _ _ _) ?_|refine zd ?_ ?_<;>intro h<;>try omega|fail)<;>conv=>whnf
    refine ⟨hlt,trivial,idR (K1+1+5),?_⟩
    rw [e1,show (F1++[(i,true)]).length=K1+1 by simp [hl1]]
    exact a01 (X:=[]) (X':=[rbx w]) (a1T rfl rfl rfl rfl rfl rfl) rfl (Nat.zero_le _) (by simp) ⟨rfl,rfl,⟨j4 (by omega),rfl,rfl⟩,rfl,rfl,c6 (by omega),trivial⟩
 ·have hie:i=s.rows.length:=by omega
  subst hie
  refine n9 c7 _ ?_
  conv=>whnf
  repeat' (first|refine zx ?_|refine j2 (b9 _ _ _) ?_|refine i8 ?_|refine g7 (t:=0) (b9 _ _ _) ?_|refine g9 (t:=0) (b9 _ _ _) ?_|refine zd ?_ ?_<;>intro h<;>try omega|fail)<;>conv=>whnf
  all_goals try omega
  refine f8 c7 (fun q=>([J,J,S.c (C.t (T.ptr (a1H s))),J,J,S.c (C.ptr 0 0 0)]++Jn 35++[k9 g,a8 .i64 g.length,a8 .i64 q]++Jn 31,a6b n (d6 s).length (f9 s g).V (fun j=>-(L8 g q j)) (fun i=>n+i) (d6 s) (f9 s g).A [])) g.length (fun _=>True) (idR ((d6 s).length+5)) trivial ?_ ?_
  ·refine a01 (X:=[]) (X':=[]) (a1T rfl rfl ?_ rfl rfl rfl) rfl (Nat.zero_le _) (by simp) ⟨i5 rfl,⟨j4 (by omega),rfl,rfl⟩,i5 rfl,c6 (by omega),c6 rfl,trivial⟩
   rw [H9 (g:=fun _=>0) (h:=fun j=>-(L8 g 0 j)) fun j hj=>by show (0:Rat)=-0;decide]
  intro q hq _
  by_cases hlt:q<g.length
  ·obtain ⟨t,ht⟩:∃t,g[q]? =some t:=⟨_,lbf hlt⟩
   obtain ⟨t0,t1,t2⟩:=p6 htg t (lbm ht)
   have nt:=a0Z t.2 (hbg t (lbm ht))
   have gp:(rF n (fun j=>-(L8 g q j)))[0+t.1.toNat]? =some (fz (-(L8 g q t.1.toNat))):=by rw [Nat.zero_add,J2 (by omega)]
   have eV:0+t.1.toNat=t.1.toNat:=by omega
   have e:q9 (flB (rF n (fun j=>-(L8 g q j)))) ((flB (rF n (fun j=>-(L8 g q j)))).rows.set (0+t.1.toNat) (frC (fz (-t.2))))=flB (rF n (fun j=>-(L8 g (q+1) j))):=by
    have e1:=M4 (row:=rF n (fun j=>-(L8 g q j))) (y:=fz (-t.2)) eV
    rw [Z0 (by omega)] at e1
    refine e1.trans ?_
    rw [K4 ht]
    refine congrArg flB ?_
    exact H9 fun j hj=>by show (if j=t.1.toNat then -t.2 else -(L8 g q j))=-(if j=t.1.toNat then t.2 else L8 g q j);split<;>rfl
   conv=>whnf
   repeat' (first|refine zx ?_|refine qp nt ?_|refine d7 ht ?_|refine p4 gp ?_|refine j2 (b9 _ _ _) ?_|refine i8 ?_|refine g7 (t:=0) (b9 _ _ _) ?_|refine g9 (t:=0) (b9 _ _ _) ?_|refine zd ?_ ?_<;>intro h<;>try omega|fail)<;>conv=>whnf
   all_goals first
    |omega
    |exact ⟨hlt,trivial,idR ((d6 s).length+5),a01 (X:=[]) (X':=[_]) (a1T rfl rfl e rfl rfl rfl) rfl (Nat.zero_le _) (by simp) ⟨rfl,⟨j4 (by omega),rfl,rfl⟩,rfl,rfl,c6 (by omega),trivial⟩⟩
  ·have hqe:q=g.length:=by omega
   subst hqe
   conv=>whnf
   repeat' (first|refine zx ?_|refine j2 (b9 _ _ _) ?_|refine i8 ?_|refine g7 (t:=0) (b9 _ _ _) ?_|refine g9 (t:=0) (b9 _ _ _) ?_|refine zd ?_ ?_<;>intro h<;>try omega|fail)<;>conv=>whnf
   all_goals try omega
   refine f8 c7 (fun q=>([J,J,J,J,J,S.c (C.ptr 0 0 0)]++Jn 53++[a8 .i64 n,a8 .i64 q]++Jn 14,b7s (d6 s).length n q (f9 s g).V (f9 s g).G (fun i=>n+i) (d6 s) (f9 s g).A [])) n (fun _=>True) (gR ((d6 s).length+6) fF1) trivial ?_ ?_
   ·exact b6e rfl rfl ⟨⟨by rw [a3j (by omega)];rfl,rfl,rfl⟩,c6 hen,c6 rfl,trivial⟩
   intro q hq _
   by_cases hlt:q<n
   ·conv=>whnf
    repeat' (first|refine zx ?_|refine qp (toC,x5) ?_|refine qp (toC,x5) ?_|refine qp 0 ?_|refine y9 (by simp [toC,x5]) (by simp [toC,x5];omega) ?_|refine bl0 [0] ?_|refine j2 (b9 _ _ _) ?_|refine i8 ?_|refine g7 (t:=0) (b9 _ _ _) ?_|refine g9 (t:=0) (b9 _ _ _) ?_|refine zd ?_ ?_<;>intro h<;>try omega|fail)<;>conv=>whnf
    all_goals first
     |omega
     |(refine ⟨hlt,trivial,fR ((d6 s).length+6) (fF2 (d6 s).length),b7u (b6r rfl rfl rfl rfl rfl rfl (congrArg (fun z=>(mF (d6 s).length n (f9 s g).A).map flB++[z]) ?_)) ⟨⟨by rw [x7 (by omega)];rfl,rfl,rfl⟩,rfl,c6 (by omega),trivial⟩⟩
       exact congrArg (fun z=>({ mode:=.live,elem:=3,size:=1,rows:=z,box:=false }:Blk)) (a8I (O:=fun j=>j) (x:=(q:Int)) rfl))
   ·have hqe:q=n:=by omega
    subst hqe
    conv=>whnf
    repeat' (first|refine zx ?_|refine j2 (b9 _ _ _) ?_|refine i8 ?_|refine g7 (t:=0) (b9 _ _ _) ?_|refine g9 (t:=0) (b9 _ _ _) ?_|refine zd ?_ ?_<;>intro h<;>try omega|fail)<;>conv=>whnf
    all_goals try omega
    refine a5B (n:=(d6 s).length+6) a2Z (Nat.zero_le _) a7s (fun i _=>?_) ⟨j4 (by omega),rfl,rfl⟩
    have e0:a02 (d6 s).length q (d6 s) (f9 s g)=b7s (d6 s).length q q (f9 s g).V (f9 s g).G (fun i=>q+i) (d6 s) (f9 s g).A []:=by
     have eO:(f9 s g).O=fun i=>q+i:=by funext i;show s.n.toNat+i=_;rw [hen];rfl
     show _::_::_::Y1 _ (f9 s g).O::_::_::_=_::_::_::_::_::_::(_++[])
     rw [List.append_nil,eO];rfl
    rw [e0]
def ptK (n:Nat) (O:Nat->Nat) (v x0:Nat->Rat):Nat->Nat->Rat
 |0=>x0
 |k+1=>fun j=>if O k<n∧j=O k then v k else ptK n O v x0 k j
theorem S9 {n:Nat} {O:Nat->Nat} {v x0:Nat->Rat} {k:Nat}:ptK n O v x0 (k+1)=fun j=>if O k<n∧j=O k then v k else ptK n O v x0 k j:=rfl
theorem aj0 {n:Nat} {O:Nat->Nat} {v x0:Nat->Rat} {j:Nat}:∀{k:Nat},(∀ i,i<k->O i≠j)->ptK n O v x0 k j=x0 j
 |0,_=>rfl
 |k+1,h=>by rw [S9];simp only;rw [if_neg (fun e=>h k (by omega) e.2.symm),aj0 fun i hi=>h i (by omega)]
theorem ai3 {n:Nat} {O:Nat->Nat} {v x0:Nat->Rat} {i:Nat}:∀{k:Nat},i<k->O i<n->(∀ a,a<k->O a=O i->a=i)->ptK n O v x0 k (O i)=v i
 |0,h,_,_=>by omega
 |k+1,h,hn,hu=>by
  rw [S9];simp only
  by_cases he:O k=O i
  ·have:=hu k (by omega) he
   subst this
   rw [if_pos ⟨hn,rfl⟩]
  ·rw [if_neg (fun e=>he e.2.symm)]
   have:i≠k:=fun e=>he (by rw [e])
   exact ai3 (by omega) hn fun a ha=>hu a (by omega)
theorem b3Y {m n:Nat} {D:Fd} (hP:a0U m n D) {j:Nat} (hj:j<n):ptK n D.O D.V (fun _=>0) m j=a27 m n D 1 (fun _=>0) j:=by
 rcases hP.all j (by omega) with ⟨i,hi,rfl⟩|⟨q,hq,rfl⟩
 ·rw [ai3 hi hj fun a ha he=>hP.oi a i ha hi he,a5O hP hi,s7 fun j _=>by grind];grind
 ·rw [aj0 fun i hi=>hP.of i q hi hq,a12 hP hq]
theorem b0z {m n c:Nat} {D:Fd} (hP:a0U m n D) (hc:c<n) {j:Nat} (hj:j<n):ptK n D.O (fun i=>-(D.A i c)) (fun j=>if D.F c<n∧j=D.F c then 1 else 0) m j=a27 m n D 0 (fun q=>if q=c then 1 else 0) j:=by
 rcases hP.all j (by omega) with ⟨i,hi,rfl⟩|⟨q,hq,rfl⟩
 ·rw [ai3 hi hj fun a ha he=>hP.oi a i ha hi he,a5O hP hi,d9 (g:=fun q=>(if c=q then (1:Rat) else 0)*D.A i q) fun q _=>by
   by_cases h:q=c
   ·subst h;simp only [if_true];grind
   ·rw [if_neg h,if_neg (fun e=>h e.symm)];grind,a6J hc]
  grind
 ·rw [aj0 fun i hi=>hP.of i q hi hq,a12 hP hq]
  by_cases h:q=c
  ·subst h;rw [if_pos rfl,if_pos ⟨hj,rfl⟩]
  ·rw [if_neg h,if_neg (fun e=>h (hP.fi q c hq hc e.2))]
theorem ad6 (n:Nat) (y:Nat->Rat):(zOf n y).map fz=rF n y:=by unfold zOf rF;rw [List.map_map];rfl
abbrev dT (m n:Nat) (fr:List (Nat × Bool)) (D:Fd):S:=.c (.t (.ptr (b88 m n fr D)))
set_option maxHeartbeats 2000000 in
theorem b61 (m n:Nat) (fr:List (Nat × Bool)) (D:Fd) (hP:a0U m n D) (hm:m<=100000) (hn:n<=1000):b7 Tryz.prog 197 [dT m n fr D] [] (j7 ((zOf n (a27 m n D 1 (fun _=>0))).map fz)) []:=by
 have m1:(a0S m D.O).length=m:=x5 _ _
 have z0:∀H:Hp,H.length=0->Q6 Tryz.prog 241 [a8 .i64 n] H (.c (.own 0 0 n true)) [flB (rF n fun _=>0)]:=fun H hH=>a0r hH hn
 rw [ad6,←H9 (g:=ptK n D.O D.V (fun _=>0) m) fun j hj=>b3Y hP hj]
 (refine ac Tryz.func197 ?_;(conv=>whnf);repeat ((first|refine b0x ?_|refine zy ?_);conv=>whnf))
 repeat' (first|refine zx ?_|refine .inl ⟨_,_,z0 _ rfl,?_⟩|refine zd ?_ ?_<;>intro h<;>try omega|fail)<;>conv=>whnf
 refine f8 c7 (fun k=>([dT m n fr D,J,J,S.c (C.own 0 0 n true)]++Jn 10++[a6D m D.O,a8 .i64 m,a8 .i64 k]++Jn 23,[flB (rF n (ptK n D.O D.V (fun _=>0) k))])) m (fun _=>True) [some 0] trivial
  ⟨rfl,rfl,⟨i6 (c8 _),trivial⟩,⟨i5 rfl,⟨rfl,rfl,rfl,fun h=>h⟩,i5 rfl,c6 (by omega),c6 rfl,trivial⟩⟩ ?_
 intro k hk _
 by_cases hlt:k<m
 ·by_cases ho:D.O k<n
  ·have gp:(rF n (ptK n D.O D.V (fun _=>0) k))[0+((D.O k:Nat):Int).toNat]? =some (fz (ptK n D.O D.V (fun _=>0) k (D.O k))):=by rw [show 0+((D.O k:Nat):Int).toNat=D.O k by omega,J2 ho]
   have e:q9 (flB (rF n (ptK n D.O D.V (fun _=>0) k))) ((flB (rF n (ptK n D.O D.V (fun _=>0) k))).rows.set (0+((D.O k:Nat):Int).toNat) (frC (fz (D.V k))))=flB (rF n (ptK n D.O D.V (fun _=>0) (k+1))):=by
    rw [M4 (show 0+((D.O k:Nat):Int).toNat=D.O k by omega),Z0 ho,S9]
    refine congrArg flB (H9 fun j hj=>?_)
    simp only [ho,true_and]
   conv=>whnf
   repeat' (first|refine zx ?_|refine F9 rfl hlt ?_|refine a0Q rfl hlt ?_|refine p4 gp ?_|refine zd ?_ ?_<;>intro h<;>try omega|fail)<;>conv=>whnf
   all_goals first
    |omega
    |exact ⟨hlt,trivial,[some 0],rfl,rfl,⟨⟨rfl,rfl,rfl,.inl ⟨congrArg Blk.rows e,(congrArg Blk.rows e) ▸ c8 _⟩⟩,trivial⟩,⟨rfl,⟨rfl,rfl,rfl,fun h=>h⟩,rfl,rfl,c6 (by omega),trivial⟩⟩
  ·have e:ptK n D.O D.V (fun _=>0) (k+1)=ptK n D.O D.V (fun _=>0) k:=by rw [S9];funext j;rw [if_neg (fun h=>ho h.1)]
   conv=>whnf
   repeat' (first|refine zx ?_|refine F9 rfl hlt ?_|refine zd ?_ ?_<;>intro h<;>try omega|fail)<;>conv=>whnf
   all_goals first
    |omega
    |exact ⟨hlt,trivial,[some 0],rfl,rfl,⟨b8 (rows:=(rF n (ptK n D.O D.V (fun _=>0) k)).map j5) rfl rfl rfl rfl (by rw [e]),trivial⟩,⟨rfl,⟨rfl,rfl,rfl,fun h=>h⟩,rfl,rfl,c6 (by omega),trivial⟩⟩
 ·have hke:k=m:=by omega
  subst hke
  conv=>whnf
  repeat' (first|refine zx ?_|refine zd ?_ ?_<;>intro h<;>try omega|fail)<;>conv=>whnf
  all_goals first
   |omega
   |exact J7 rfl (fun h=>h) rfl rfl (by simp [a0Y])
set_option maxHeartbeats 2000000 in
theorem b9a (m n:Nat) (fr:List (Nat × Bool)) (D:Fd) (c:Nat) (hc:c<n) (hP:a0U m n D) (hm:m<=100000) (hn:n<=1000) (hB:∀i,i<m->rl (D.A i c)<=60000):
 b7 Tryz.prog 198 [dT m n fr D,a8 .i64 c] [] (j7 ((zOf n (a27 m n D 0 (fun q=>if q=c then 1 else 0))).map fz)) []:=by
 have m1:(a0S m D.O).length=m:=x5 _ _
 have z0:∀H:Hp,H.length=0->Q6 Tryz.prog 241 [a8 .i64 n] H (.c (.own 0 0 n true)) [flB (rF n fun _=>0)]:=fun H hH=>a0r hH hn
 have i1:=D2 1 (by decide) (by decide)
 obtain ⟨x0,hx0⟩:∃x0:Nat->Rat,x0=fun j=>if D.F c<n∧j=D.F c then 1 else 0:=⟨_,rfl⟩
 rw [ad6,←H9 (g:=ptK n D.O (fun i=>-(D.A i c)) x0 m) fun j hj=>by rw [hx0];exact b0z hP hc hj]
 by_cases hf:D.F c<n
 ·have gp0:(rF n (fun _=>(0:Rat)))[0+((D.F c:Nat):Int).toNat]? =some (fz 0):=by rw [show 0+((D.F c:Nat):Int).toNat=D.F c by omega,J2 hf]
  have e0:q9 (flB (rF n (fun _=>(0:Rat)))) ((flB (rF n (fun _=>(0:Rat)))).rows.set (0+((D.F c:Nat):Int).toNat) (frC (fz ((1:Int):Rat))))=flB (rF n x0):=by
   rw [M4 (show 0+((D.F c:Nat):Int).toNat=D.F c by omega),Z0 hf,hx0]
   refine congrArg flB (H9 fun j hj=>?_)
   simp only [hf,true_and];rfl
  (refine ac Tryz.func198 ?_;(conv=>whnf);repeat ((first|refine b0x ?_|refine zy ?_);conv=>whnf))
  repeat' (first|refine zx ?_|refine qp i1 ?_|refine .inl ⟨_,_,z0 _ rfl,?_⟩|refine F9 rfl hc ?_|refine p4 gp0 ?_|refine zd ?_ ?_<;>intro h<;>try omega|fail)<;>conv=>whnf
  all_goals try omega
  refine f8 c7 (fun k=>([dT m n fr D,a8 .i64 c,J,J,J,S.c (C.own 0 0 n true)]++Jn 28++[a6D m D.O,a8 .i64 m,a8 .i64 k]++Jn 27,[flB (rF n (ptK n D.O (fun i=>-(D.A i c)) x0 k))])) m (fun _=>True) [some 0] trivial
   ⟨rfl,rfl,⟨⟨rfl,rfl,rfl,.inl ⟨congrArg Blk.rows e0,(congrArg Blk.rows e0) ▸ c8 _⟩⟩,trivial⟩,⟨i5 rfl,c6 rfl,⟨rfl,rfl,rfl,fun h=>h⟩,i5 rfl,c6 (by omega),c6 rfl,trivial⟩⟩ ?_
  intro k hk _
  by_cases hlt:k<m
  ·have ng:=a0Z (D.A k c) (hB k hlt)
   by_cases ho:D.O k<n
   ·have gp:(rF n (ptK n D.O (fun i=>-(D.A i c)) x0 k))[0+((D.O k:Nat):Int).toNat]? =some (fz (ptK n D.O (fun i=>-(D.A i c)) x0 k (D.O k))):=by rw [show 0+((D.O k:Nat):Int).toNat=D.O k by omega,J2 ho]
    have e:q9 (flB (rF n (ptK n D.O (fun i=>-(D.A i c)) x0 k))) ((flB (rF n (ptK n D.O (fun i=>-(D.A i c)) x0 k))).rows.set (0+((D.O k:Nat):Int).toNat) (frC (fz (-(D.A k c)))))=flB (rF n (ptK n D.O (fun i=>-(D.A i c)) x0 (k+1))):=by
     rw [M4 (show 0+((D.O k:Nat):Int).toNat=D.O k by omega),Z0 ho,S9]
     refine congrArg flB (H9 fun j hj=>?_)
     simp only [ho,true_and]
    conv=>whnf
    repeat' (first|refine zx ?_|refine qp ng ?_|refine F9 rfl hlt ?_|refine a0Q rfl hlt ?_|refine a4H rfl hc ?_|refine p4 gp ?_|refine zd ?_ ?_<;>intro h<;>try omega|fail)<;>conv=>whnf
    all_goals first
     |omega
     |exact ⟨hlt,trivial,[some 0],rfl,rfl,⟨⟨rfl,rfl,rfl,.inl ⟨congrArg Blk.rows e,(congrArg Blk.rows e) ▸ c8 _⟩⟩,trivial⟩,⟨rfl,rfl,⟨rfl,rfl,rfl,fun h=>h⟩,rfl,rfl,c6 (by omega),trivial⟩⟩
   ·have e:ptK n D.O (fun i=>-(D.A i c)) x0 (k+1)=ptK n D.O (fun i=>-(D.A i c)) x0 k:=by rw [S9];funext j;rw [if_neg (fun h=>ho h.1)]
    conv=>whnf
    repeat' (first|refine zx ?_|refine F9 rfl hlt ?_|refine zd ?_ ?_<;>intro h<;>try omega|fail)<;>conv=>whnf
    all_goals first
     |omega
     |exact ⟨hlt,trivial,[some 0],rfl,rfl,⟨b8 (rows:=(rF n (ptK n D.O (fun i=>-(D.A i c)) x0 k)).map j5) rfl rfl rfl rfl (by rw [e]),trivial⟩,⟨rfl,rfl,⟨rfl,rfl,rfl,fun h=>h⟩,rfl,rfl,c6 (by omega),trivial⟩⟩
  ·have hke:k=m:=by omega
   subst hke
   conv=>whnf
   repeat' (first|refine zx ?_|refine zd ?_ ?_<;>intro h<;>try omega|fail)<;>conv=>whnf
   all_goals first
    |omega
    |exact J7 rfl (fun h=>h) rfl rfl (by simp [a0Y])
 ·have e0:x0=fun _=>0:=by rw [hx0];funext j;rw [if_neg (fun h=>hf h.1)]
  (refine ac Tryz.func198 ?_;(conv=>whnf);repeat ((first|refine b0x ?_|refine zy ?_);conv=>whnf))
  repeat' (first|refine zx ?_|refine qp i1 ?_|refine .inl ⟨_,_,z0 _ rfl,?_⟩|refine F9 rfl hc ?_|refine zd ?_ ?_<;>intro h<;>try omega|fail)<;>conv=>whnf
  all_goals try omega
  refine f8 c7 (fun k=>([dT m n fr D,a8 .i64 c,J,J,J,S.c (C.own 0 0 n true)]++Jn 28++[a6D m D.O,a8 .i64 m,a8 .i64 k]++Jn 27,[flB (rF n (ptK n D.O (fun i=>-(D.A i c)) x0 k))])) m (fun _=>True) [some 0] trivial
   ⟨rfl,rfl,⟨b8 (rows:=(rF n (fun _=>0)).map j5) rfl rfl rfl rfl (by rw [e0];rfl),trivial⟩,⟨i5 rfl,c6 rfl,⟨rfl,rfl,rfl,fun h=>h⟩,i5 rfl,c6 (by omega),c6 rfl,trivial⟩⟩ ?_
  intro k hk _
  by_cases hlt:k<m
  ·have ng:=a0Z (D.A k c) (hB k hlt)
   by_cases ho:D.O k<n
   ·have gp:(rF n (ptK n D.O (fun i=>-(D.A i c)) x0 k))[0+((D.O k:Nat):Int).toNat]? =some (fz (ptK n D.O (fun i=>-(D.A i c)) x0 k (D.O k))):=by rw [show 0+((D.O k:Nat):Int).toNat=D.O k by omega,J2 ho]
    have e:q9 (flB (rF n (ptK n D.O (fun i=>-(D.A i c)) x0 k))) ((flB (rF n (ptK n D.O (fun i=>-(D.A i c)) x0 k))).rows.set (0+((D.O k:Nat):Int).toNat) (frC (fz (-(D.A k c)))))=flB (rF n (ptK n D.O (fun i=>-(D.A i c)) x0 (k+1))):=by
     rw [M4 (show 0+((D.O k:Nat):Int).toNat=D.O k by omega),Z0 ho,S9]
     refine congrArg flB (H9 fun j hj=>?_)
     simp only [ho,true_and]
    conv=>whnf
    repeat' (first|refine zx ?_|refine qp ng ?_|refine F9 rfl hlt ?_|refine a0Q rfl hlt ?_|refine a4H rfl hc ?_|refine p4 gp ?_|refine zd ?_ ?_<;>intro h<;>try omega|fail)<;>conv=>whnf
    all_goals first
     |omega
     |exact ⟨hlt,trivial,[some 0],rfl,rfl,⟨⟨rfl,rfl,rfl,.inl ⟨congrArg Blk.rows e,(congrArg Blk.rows e) ▸ c8 _⟩⟩,trivial⟩,⟨rfl,rfl,⟨rfl,rfl,rfl,fun h=>h⟩,rfl,rfl,c6 (by omega),trivial⟩⟩
   ·have e:ptK n D.O (fun i=>-(D.A i c)) x0 (k+1)=ptK n D.O (fun i=>-(D.A i c)) x0 k:=by rw [S9];funext j;rw [if_neg (fun h=>ho h.1)]
    conv=>whnf
    repeat' (first|refine zx ?_|refine F9 rfl hlt ?_|refine zd ?_ ?_<;>intro h<;>try omega|fail)<;>conv=>whnf
    all_goals first
     |omega
     |exact ⟨hlt,trivial,[some 0],rfl,rfl,⟨b8 (rows:=(rF n (ptK n D.O (fun i=>-(D.A i c)) x0 k)).map j5) rfl rfl rfl rfl (by rw [e]),trivial⟩,⟨rfl,rfl,⟨rfl,rfl,rfl,fun h=>h⟩,rfl,rfl,c6 (by omega),trivial⟩⟩
  ·have hke:k=m:=by omega
   subst hke
   conv=>whnf
   repeat' (first|refine zx ?_|refine zd ?_ ?_<;>intro h<;>try omega|fail)<;>conv=>whnf
   all_goals first
    |omega
    |exact J7 rfl (fun h=>h) rfl rfl (by simp [a0Y])
end Go.Proofs.YtaejgdbahjjncaaGreat
