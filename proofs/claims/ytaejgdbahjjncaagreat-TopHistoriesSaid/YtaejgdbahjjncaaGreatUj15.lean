/- Part 15. -/
import Derived.ProofKit
import Derived.OpenShut
import Derived.Deep.Slices
import Derived.Deep.Fields
import Derived.Test.YtaejgdbahjjncaaGreatRows
import Derived.Deep.DeepMust
import Derived.BigQuiet
import Derived.Deep.Light
import Derived.Test.YtaejgdbahjjncaaGreatUj14
namespace Go.Proofs.YtaejgdbahjjncaaGreat
set_option linter.unusedVariables false
set_option linter.unusedSimpArgs false
set_option maxRecDepth 100000
open Go.RowKit
open St1 St2 St3 St4 St5 St6 St7 St8 StA StB
theorem a7M {H:Hp} {p:Nat->Prop} {id:Nat} {l:List Int} (hp:p id) (hk:H[id]? =some (n7 l)):VC H p (.own id 0 l.length true) (N3 l):=
 t8 (k:=n7 l) hp hk (fun h=>h) rfl rfl (by simp)
def a7n (q:Int->Bool) (xs:List Int) (i0:Nat):Nat->List Int × Nat
 |0=>(xs,i0)
 |m+1=>if q (xs.getD (i0+1+m) 0)=true then a7n q xs i0 m else ((a7n q xs i0 m).1.set (a7n q xs i0 m).2 (xs.getD (i0+1+m) 0),(a7n q xs i0 m).2+1)
structure bf7 (q:Int->Bool) (xs:List Int) (j:Nat) (r:List Int) (i:Nat):Prop where
 len:r.length=xs.length
 lt:i<j
 tk:r.take i=(xs.take j).filter fun x=>!q x
 dr:r.drop j=xs.drop j
theorem an7 {q:Int->Bool} {xs:List Int} {i0:Nat} (h0:i0<xs.length) (h1:(xs.take i0).filter (fun x=>!q x)=xs.take i0) (h2:q (xs.getD i0 0)=true):
 ∀m,i0+1+m<=xs.length->bf7 q xs (i0+1+m) (a7n q xs i0 m).1 (a7n q xs i0 m).2
 |0,hm=>by
  refine ⟨rfl,by show i0<_;omega,?_,rfl⟩
  show xs.take i0=_
  rw [Nat.add_zero,lbG,lb8,h1,lbf h0]
  rw [lbl,lbf h0] at h2
  simp at h2
  simp [h2]
 |m+1,hm=>by
  have ih:=an7 h0 h1 h2 m (by omega)
  obtain ⟨a1,a2,a3,a4⟩:=ih
  unfold a7n
  generalize hj:i0+1+m=j at *
  have ej:i0+1+(m+1)=j+1:=by omega
  rw [ej]
  have hjl:j<xs.length:=by omega
  generalize a7n q xs i0 m=p at *
  obtain ⟨r,i⟩:=p
  simp only at a1 a2 a3 a4 ⊢
  have hx:xs.getD j 0=xs[j]:=by rw [lbl,lbf hjl];rfl
  rw [hx]
  have ht:xs.take (j+1)=xs.take j++[xs[j]]:=by rw [lbG,lbf hjl];rfl
  by_cases hq:q xs[j]=true
  ·rw [if_pos hq]
   refine ⟨a1,by show i<_;omega,?_,?_⟩
   ·show r.take i=_
    rw [a3,ht,lb8];simp [hq]
   ·show r.drop (j+1)=_
    rw [← List.drop_drop,a4,List.drop_drop]
  ·rw [if_neg hq]
   refine ⟨by simp [a1],by show i+1<_;omega,?_,?_⟩
   ·show (r.set i xs[j]).take (i+1)=_
    rw [lbG,List.take_set_of_le (lbQ _),List.getElem?_set_self (by omega),a3,ht,lb8]
    have:q xs[j]=false:=by simpa using hq
    simp [this]
   ·show (r.set i xs[j]).drop (j+1)=_
    rw [List.drop_set_of_lt (by omega),←List.drop_drop,a4,List.drop_drop]
theorem a97 {q:Int->Bool}:∀(xs:List Int) (k:Nat),(F7 q xs k=-1∧xs.filter (fun x=>!q x)=xs)∨∃i,F7 q xs k=((k+i:Nat):Int)∧i<xs.length∧(xs.take i).filter (fun x=>!q x)=xs.take i∧q (xs.getD i 0)=true
 |[],k=>.inl ⟨rfl,rfl⟩
 |x::r,k=>by
  unfold F7
  cases h:q x with
  |true=>exact .inr ⟨0,by simp,by simp,rfl,by simpa using h⟩
  |false=>
   rcases a97 (q:=q) r (k+1) with ⟨h1,h2⟩|⟨i,h1,h2,h3,h4⟩
   ·exact .inl ⟨by simpa using h1,by simp [h,h2]⟩
   ·refine .inr ⟨i+1,?_,by simp;omega,by simp [h,h3],by simpa using h4⟩
    show (if false=true then (k:Int) else F7 q r (k+1))=_
    rw [if_neg (by decide),h1];congr 1;omega
theorem aU2 (xs:List Int) (hl:xs.length<=1000000) (fg:FuncId) (caps:List T) (q:Int->Bool) (hg:∀x ∈ xs,b7 Tryz.prog fg (a8 .i64 x::caps.map fun x=>.c (.t x)) [] (f7 (q x)) []):
 b7 Tryz.prog 239 [g8 xs,.c (.t (.fn (.func fg) caps))] [] (a8 .i64 (F7 q xs 0)) []:=by
 have l1:(xs.map e8).length=xs.length:=by simp
 (refine ac Tryz.func239 ?_;(conv=>whnf);repeat (refine zy ?_;conv=>whnf))
 repeat' (first|refine zx ?_|refine zd ?_ ?_<;>intro h<;>try omega|fail)<;>conv=>whnf
 refine f8 c7 (fun k=>([g8 xs,S.c (C.t (T.fn (.func fg) caps)),J,J,J,J,J,a8 .i64 xs.length,a8 .i64 k]++Jn 10,[])) xs.length (fun k=>F7 q (xs.drop k) k=F7 q xs 0) [] rfl
  ⟨rfl,rfl,trivial,⟨i5 rfl,i5 rfl,c6 (by simp),rfl,trivial⟩⟩ ?_
 intro k hk hI
 by_cases hlt:k<xs.length
 ·obtain ⟨r,hr⟩:∃r,xs[k]? =some r:=⟨_,lbf hlt⟩
  have hd:xs.drop k=r::xs.drop (k+1):=by
   rw [List.drop_eq_getElem_cons hlt]
   rw [lbf hlt] at hr
   injection hr with hr
   rw [hr]
  have hgr:=hg r (lbm hr)
  have ha:(a8 .i64 r::caps.map fun x=>S.c (C.t x)).all S.isT=true:=by simp [S.isT,C.isT,a8]
  rw [hd] at hI
  have hI:(if q r then (k:Int) else F7 q (xs.drop (k+1)) (k+1))=F7 q xs 0:=hI
  cases hq:q r with
  |true=>
   rw [hq] at hgr hI
   conv=>whnf
   repeat' (first|refine zx ?_|refine .inl ⟨_,_,G5 hgr ha rfl,?_⟩|refine d7 hr ?_|refine zd ?_ ?_<;>intro h<;>try omega|fail)<;>conv=>whnf
   all_goals first
    |omega
    |exact v8 hI
  |false=>
   rw [hq] at hgr hI
   conv=>whnf
   repeat' (first|refine zx ?_|refine .inl ⟨_,_,G5 hgr ha rfl,?_⟩|refine d7 hr ?_|refine zd ?_ ?_<;>intro h<;>try omega|fail)<;>conv=>whnf
   all_goals first
    |omega
    |exact ⟨hlt,by simpa using hI,[],rfl,rfl,trivial,⟨rfl,rfl,rfl,rfl,trivial⟩⟩
 ·have hke:k=xs.length:=by omega
  subst hke
  rw [lbo (lbQ _)] at hI
  conv=>whnf
  repeat' (first|refine zx ?_|refine zd ?_ ?_<;>intro h<;>try omega|fail)<;>conv=>whnf
  all_goals first
   |omega
   |exact v8 hI
theorem a9A {l:List Int} {n:Nat} {v:Int} {K:List C->Prop} (h:l[n]? =some v) (k:K [C.t (ti v)]):∃row,(n7 l).rows[n]? =some row∧K row:=⟨_,by show (toC (l.map e8))[n]? =_;simp [toC,e8,h],k⟩
theorem am9 {l:List Int} {i n:Nat} {v:Int} (h:n=i):q9 (n7 l) ((n7 l).rows.set n [C.t (ti v)])=n7 (l.set i v):=by
 subst h
 unfold q9
 show ({ mode:=_,elem:=_,size:=_,rows:=(toC (l.map e8)).set n _,box:=_,app:=_ }:Blk)=_
 have:(toC (l.map e8)).set n [C.t (ti v)]=toC ((l.set n v).map e8):=by
  unfold toC
  rw [List.map_set,List.map_set];rfl
 rw [this]
set_option maxHeartbeats 8000000 in
theorem aR5 (xs:List Int) (hl:xs.length<=1000000) (fg:FuncId) (caps:List T) (q:Int->Bool) (hg:∀x ∈ xs,b7 Tryz.prog fg (a8 .i64 x::caps.map fun x=>.c (.t x)) [] (f7 (q x)) []):
 ∃zs,zs.take (xs.filter fun x=>!q x).length=(xs.filter fun x=>!q x)∧zs.length=xs.length∧b7 Tryz.prog 183 [.c (.own 0 0 xs.length true),.c (.t (.fn (.func fg) caps))] [n7 xs] (.c (.own 0 0 (xs.filter fun x=>!q x).length true)) [n7 zs]:=by
 have ix:=aU2 xs hl fg caps q hg
 have ha:(caps.map fun x=>S.c (C.t x)).all S.isT=true:=by simp [S.isT,C.isT]
 rcases a97 (q:=q) xs 0 with ⟨h1,h2⟩|⟨i0,h1,h2,h3,h4⟩
 ·rw [h1] at ix
  rw [h2]
  refine ⟨xs,lbn (lbQ _),rfl,?_⟩
  (refine ac Tryz.func183 ?_;(conv=>whnf);repeat (refine zy ?_;conv=>whnf))
  repeat' (first|refine zx ?_|refine .inl ⟨_,_,ac4 ix ⟨a3p (a7M trivial rfl),a8M,trivial⟩ rfl,?_⟩|refine zd ?_ ?_<;>intro h<;>try omega|fail)<;>conv=>whnf
  all_goals first
   |omega
   |exact ⟨⟨[some 0],rfl,rfl,⟨i6 (c8 _),trivial⟩,⟨rfl,rfl,rfl,fun h=>h⟩⟩⟩
 ·rw [h1,Nat.zero_add] at ix
  have hD:=an7 h2 h3 h4
  obtain ⟨n,hn⟩:∃n,i0+1+n=xs.length:=⟨xs.length - (i0+1),by omega⟩
  have hE:=hD n (by omega)
  generalize hF:a7n q xs i0 n=rn at hE
  obtain ⟨rs,i⟩:=rn
  obtain ⟨e1,e2,e3,e4⟩:=hE
  simp only at e1 e2 e3 e4
  rw [hn,lbn (lbQ _)] at e3
  have e5:(rs.take i).length=i:=by rw [lbs];omega
  have hz:rs.take i++List.replicate (xs.length - i) (0:Int)=rs.take i++List.replicate (xs.length - i) (0:Int):=rfl
  refine ⟨rs.take i++List.replicate (xs.length - i) 0,?_,by rw [lbq,e5,List.length_replicate];omega,?_⟩
  ·rw [← e3,List.take_append_of_le_length (by omega),e5,List.take_take,Nat.min_self]
  have eC:E0 (0+(i:Int).toNat) ((xs.length:Int) - (i:Int)).toNat (toC (rs.map e8)) (List.replicate ((xs.length:Int) - (i:Int)).toNat [C.t (ti 0)])=toC ((rs.take i++List.replicate (xs.length - i) 0).map e8):=by
   have x1:0+(i:Int).toNat=i:=by omega
   have x2:((xs.length:Int) - (i:Int)).toNat=xs.length - i:=by omega
   rw [x1,x2]
   unfold E0 toC
   rw [lbn (l:=List.replicate _ _) (by simp),List.length_replicate,lbo (by simp;omega)]
   simp [e8,List.map_take]
  have eL:(xs.filter fun x=>!q x).length=i:=by rw [← e3];exact e5
  rw [eL]
  have hcl:=fun x hx=>hg x hx
  (refine ac Tryz.func183 ?_;(conv=>whnf);repeat (refine zy ?_;conv=>whnf))
  repeat' (first|refine zx ?_|refine .inl ⟨_,_,ac4 ix ⟨a3p (a7M trivial rfl),a8M,trivial⟩ rfl,?_⟩|refine zd ?_ ?_<;>intro h<;>try omega|fail)<;>conv=>whnf
  refine f8 c7 (fun m=>([S.c (C.own 0 0 xs.length true),S.c (C.t (T.fn (.func fg) caps)),J,J,J,a8 .i64 (a7n q xs i0 m).2,a8 .i64 (i0+1+m)]++Jn 35,[n7 (a7n q xs i0 m).1])) n (fun _=>True) [some 0] trivial
   ⟨rfl,rfl,⟨i6 (c8 _),trivial⟩,⟨⟨rfl,rfl,rfl,fun h=>h⟩,i5 rfl,rfl,c6 (by omega),trivial⟩⟩ ?_
  intro m hm _
  have hDm:=hD m (by omega)
  generalize hG:a7n q xs i0 m=p at hDm
  obtain ⟨r,k⟩:=p
  obtain ⟨d1,d2,d3,d4⟩:=hDm
  simp only at d1 d2 d3 d4 ⊢
  by_cases hlt:m<n
  ·obtain ⟨v,hv⟩:∃v,xs[i0+1+m]? =some v:=⟨_,lbf (by omega)⟩
   have hvd:xs.getD (i0+1+m) 0=v:=by rw [lbl,hv];rfl
   have hrv:r[i0+1+m]? =some v:=by
    have:=congrArg (fun l=>l[0]?) d4
    simpa [lbj,hv] using this
   have gv:r[0+((i0+1+m:Nat):Int).toNat]? =some v:=by rw [Nat.zero_add,lbX];exact hrv
   have hgv:=hg v (lbm hv)
   have ha2:(a8 .i64 v::caps.map fun x=>S.c (C.t x)).all S.isT=true:=by simp [S.isT,C.isT,a8]
   have eG:a7n q xs i0 (m+1)=if q v=true then (r,k) else (r.set k v,k+1):=by
    conv=>lhs;unfold a7n
    rw [hG,hvd]
   rw [eG]
   cases hq:q v with
   |true=>
    rw [hq] at hgv
    rw [if_pos rfl]
    conv=>whnf
    repeat' (first|refine zx ?_|refine .inl ⟨_,_,G5 hgv ha2 rfl,?_⟩|refine a9A gv ?_|refine zd ?_ ?_<;>intro h<;>try omega|fail)<;>conv=>whnf
    all_goals first
     |omega
     |exact ⟨hlt,trivial,[some 0],rfl,rfl,⟨i6 (c8 _),trivial⟩,⟨⟨rfl,rfl,rfl,fun h=>h⟩,rfl,rfl,c6 (by omega),trivial⟩⟩
   |false=>
    rw [hq] at hgv
    rw [if_neg (by decide)]
    have eB:=am9 (l:=r) (v:=v) (show 0+(k:Int).toNat=k by omega)
    obtain ⟨u,hu⟩:∃u,r[0+(k:Int).toNat]? =some u:=⟨_,lbf (by omega)⟩
    conv=>whnf
    repeat' (first|refine zx ?_|refine .inl ⟨_,_,G5 hgv ha2 rfl,?_⟩|refine a9A gv ?_|refine a9A hu ?_|refine zd ?_ ?_<;>intro h<;>try omega|fail)<;>conv=>whnf
    all_goals first
     |omega
     |exact ⟨hlt,trivial,[some 0],rfl,rfl,⟨⟨rfl,rfl,rfl,.inl ⟨congrArg Blk.rows eB,(congrArg Blk.rows eB) ▸ c8 _⟩⟩,trivial⟩,⟨⟨rfl,rfl,rfl,fun h=>h⟩,rfl,c6 (by omega),c6 (by omega),trivial⟩⟩
  ·have hme:m=n:=by omega
   subst hme
   rw [hG] at hF
   injection hF with f1 f2
   subst f1 f2
   have rl2:(toC (r.map e8)).length=xs.length:=by simp [toC,d1]
   have s1:(0:Int)<=(k:Int)∧(k:Int)<=(xs.length:Int)∧(xs.length:Int)<=(xs.length:Int):=by omega
   have s2:(0:Int)<=0∧(0:Int)<=(k:Int)∧(k:Int)<=(xs.length:Int):=by omega
   have s3:0+(k:Int).toNat+((xs.length:Int) - (k:Int)).toNat<=(n7 r).rows.length:=by show _<=(toC (r.map e8)).length;omega
   conv=>whnf
   repeat' (first|refine zx ?_|refine ⟨s1,?_⟩|refine ⟨s2,?_⟩|refine ⟨s3,?_⟩|refine zd ?_ ?_<;>intro h<;>try omega|fail)<;>conv=>whnf
   all_goals first
    |omega
    |exact ⟨⟨[some 0],rfl,rfl,⟨b8 (rows:=(r.take k++List.replicate (xs.length - k) (0:Int)).map e8) rfl rfl rfl eC rfl,trivial⟩,⟨rfl,rfl,by show ((k:Int) - 0).toNat=k;omega,fun h=>h⟩⟩⟩
theorem b0v {H:Hp} {p:Nat->Prop} {id n:Nat} {l m:List Int} (hp:p id) (hk:H[id]? =some (n7 l)) (hm:l.take n=m) (hn:m.length=n):VC H p (.own id 0 n true) (N3 m):=by
 refine ⟨hp,n7 l,hk,fun h=>h,rfl,?_,?_⟩
 ·show 0+n<=(toC (l.map e8)).length
  have:=lbs (i:=n) (l:=l)
  rw [hm] at this
  simp [toC];omega
 ·show ((toC (l.map e8)).drop 0).take n=toC (m.map e8)
  rw [List.drop_zero,←hm]
  simp [toC,List.map_take]
def nI (L:List Nat):List Int:=L.map fun i=>((i:Nat):Int)
theorem a67 (L:List Nat):(nI L).length=L.length:=by simp [nI]
theorem az4 {L:List Nat} {k i:Nat} (h:L[k]? =some i):(nI L)[k]? =some (i:Int):=by simp [nI,h]
theorem aC7 (x:Rat) (hx:rl x<=60000):b7 Tryz.prog 315 [frS (fz x)] [] (frS (fz x)) []:=by
 have c1:=a58 (fz x).p.dl (by have:=J3 x;show bl x.num<=_;omega)
 have c2:=a58 (fz x).q.dl (by have:=K0 x;show bl x.den<=_;omega)
 (refine ac Tryz.func315 ?_;(conv=>whnf);repeat (refine zy ?_;conv=>whnf))
 repeat' (first|refine zx ?_|refine qp c1 ?_|refine qp c2 ?_|refine qp 6 ?_|refine qp 7 ?_|refine qp 3 ?_|refine bl0 [6] ?_|refine bl0 [7] ?_|refine bl0 [3] ?_|refine zd ?_ ?_<;>intro h<;>try omega|fail)<;>conv=>whnf
 all_goals first
  |exact b0V rfl
def aF2 (L:List Nat) (k:Nat):Int:=if k=0 then -1 else ((L.getD (k - 1) 0:Nat):Int)
theorem b3u (L:List Nat) (n:Nat) (hp:L.Pairwise (·<·)) (hn:∀i ∈ L,i<n) (hl:L.length<=100000):b7 Tryz.prog 291 [g8 (nI L),a8 .i64 n] [] (f7 true) []:=by
 have m1:((nI L).map e8).length=L.length:=by simp [nI]
 (refine ac Tryz.func291 ?_;(conv=>whnf);repeat ((first|refine b0x ?_|refine zy ?_);conv=>whnf))
 repeat' (first|refine zx ?_|refine zd ?_ ?_<;>intro h<;>try omega|fail)<;>conv=>whnf
 refine f8 c7 (fun k=>([J,a8 .i64 n,J,J,J,a8 .i64 (aF2 L k),J,J,g8 (nI L),a8 .i64 L.length,a8 .i64 k]++Jn 13,[])) L.length (fun _=>True) [] trivial
  ⟨rfl,rfl,trivial,⟨rfl,rfl,rfl,c6 (by rw [m1]),rfl,trivial⟩⟩ ?_
 intro k hk _
 by_cases hlt:k<L.length
 ·obtain ⟨x,hx⟩:∃x,L[k]? =some x:=⟨_,lbf hlt⟩
  have h1:=hn x (lbm hx)
  have h2:aF2 L k<x:=by
   unfold aF2
   split
   ·omega
   ·have hk1:k - 1<L.length:=by omega
    have:=List.pairwise_iff_getElem.1 hp (k - 1) k hk1 hlt (by omega)
    rw [lbf hlt] at hx
    injection hx with hx
    rw [lbl,lbf hk1,←hx]
    show ((L[k - 1]:Nat):Int)<_
    omega
  have h3:aF2 L (k+1)=x:=by
   unfold aF2
   rw [if_neg (by omega),lbl,Nat.add_sub_cancel,hx];rfl
  conv=>whnf
  repeat' (first|refine zx ?_|refine d7 (az4 hx) ?_|refine zd ?_ ?_<;>intro h<;>try omega|fail)<;>conv=>whnf
  all_goals first
   |omega
   |exact ⟨hlt,trivial,[],rfl,rfl,trivial,⟨rfl,c6 h3.symm,rfl,rfl,c6 (by omega),trivial⟩⟩
 ·have hke:k=L.length:=by omega
  subst hke
  conv=>whnf
  repeat' (first|refine zx ?_|refine zd ?_ ?_<;>intro h<;>try omega|fail)<;>conv=>whnf
  all_goals first
   |omega
   |exact c9 rfl
open Go.RowKit Go.Shelf
theorem b8f (l:List Int) (hl:l.length<=100000):b7 Tryz.prog 179 [.c (.own 0 0 l.length true)] [n7 l] (.tup []) [n7 (B2 l)]:=
 aR2 a8y ⟨_,Tryz.func179,rfl,by decide⟩ l hl
theorem ba1 (l:List Int) (hl:l.length<=100000) (hcl:(Lib.compact l).length<=l.length):b7 Tryz.prog 180 [.c (.own 0 0 l.length true)] [n7 l] (.c (.own 0 0 (Lib.compact l).length true)) [n7 (aw5 l)]:=
 aj9 aG7 ⟨_,Tryz.func180,rfl,by decide⟩ l hl hcl
theorem a1p (r:Int):(exW r).Sized:=⟨by simp [exW],by simp [exW],by simp [exW],by simp [exW],by simp [exW]⟩
theorem aS6:aR6.Sized:=⟨by decide,by decide,by decide,by decide,by decide⟩
theorem b8U:B2 [0,0]=[0,0]:=ag9 (by decide)
theorem bf0:∀k,k<2->∃x,(exW 25).moves[k]? =some x∧x.scale=0:=fun k hk=>by
 match k,hk with
 |0,_=>exact ⟨_,rfl,rfl⟩
 |1,_=>exact ⟨_,rfl,rfl⟩
set_option maxHeartbeats 4000000 in
theorem b5C:b7 Tryz.prog 108 [evS (exW 25)] [] (g8 [0]) []:=by
 have ck:=S1 (exW 25) (a1p 25)
 rw [K2.2.1] at ck
 have so:=b8f [0,0] (by decide)
 rw [b8U] at so
 have co:=ba1 [0,0] (by decide) (by decide)
 have so:b7 Tryz.prog 179 [.c (.own 0 0 2 true)] [n7 [0,0]] (.tup []) [n7 [0,0]]:=so
 have co:b7 Tryz.prog 180 [.c (.own 0 0 2 true)] [n7 [0,0]] (.c (.own 0 0 1 true)) [n7 [0,0]]:=co
 (refine ac Tryz.func108 ?_;(conv=>whnf);repeat ((first|refine b0x ?_|refine zy ?_);conv=>whnf))
 repeat' (first|refine zx ?_|refine qp ck ?_|refine zd ?_ ?_<;>intro h<;>try omega|fail)<;>conv=>whnf
 all_goals try omega
 refine f8 c7 (fun k=>([J,J,J,S.c (C.own 0 0 k true),J,J,J,J,J,J,S.c (C.t (Q7 (exW 25).moves)),a8 .i64 2,a8 .i64 k]++Jn 16,[n7 (([0,0]:List Int).take k)])) 2 (fun _=>True) [none] trivial
  ⟨rfl,rfl,⟨⟨rfl,rfl⟩,trivial⟩,⟨⟨rfl,rfl,rfl⟩,rfl,rfl,rfl,trivial⟩⟩ ?_
 intro k hk _
 by_cases hlt:k<2
 ·obtain ⟨x,hx,hx0⟩:=bf0 k hlt
  have lA:k<=(n7 (([0,0]:List Int).take k)).rows.length:=by show k<=(toC _).length;simp [toC];omega
  have e1:([0,0]:List Int).take (k+1)=([0,0]:List Int).take k++[x.scale]:=by
   rw [hx0]
   match k,hlt with
   |0,_=>rfl
   |1,_=>rfl
  have lk:(([0,0]:List Int).take k).length=k:=by simp;omega
  conv=>whnf
  repeat' (first|refine zx ?_|refine qp toC ?_|refine d7 hx ?_|refine y9 lA (by simp [toC];omega) ?_|refine zd ?_ ?_<;>intro h<;>try omega|fail)<;>conv=>whnf
  all_goals first
   |omega
   |(refine ⟨hlt,trivial,[some 2],rfl,rfl,⟨b8 (rows:=(([0,0]:List Int).take (k+1)).map e8) rfl rfl rfl ?_ rfl,trivial⟩,⟨⟨rfl,rfl,rfl,fun h=>h⟩,rfl,rfl,c6 (by omega),trivial⟩⟩
     rw [e1]
     exact (congrArg (fun n'=>List.take n' (toC ((([0,0]:List Int).take k).map e8))++toC [e8 x.scale]) lk.symm).trans ax7)
 ·have hke:k=2:=by omega
  subst hke
  conv=>whnf
  repeat' (first|refine zx ?_|refine .inr ⟨_,_,so,?_⟩|refine .inr ⟨_,_,co,?_⟩|refine zd ?_ ?_<;>intro h<;>try omega|fail)<;>conv=>whnf
  all_goals first
   |omega
   |exact j3 (show VC _ (fun id=>G3 [] id=true) _ _ from b0v (l:=[0,0]) rfl rfl rfl rfl)
abbrev evX (e:Ev) (id len:Nat):Blk:={ mode:=.live,elem:=28,size:=8,rows:=[[.t (ti e.mats),.t (ti e.hhs),.t (ti e.scs),.t (a2r e.places),.own id 0 len true,.t (a0W e.certs),.t (N4 e.recalls),.t (P4 e.purities)]],box:=true }
abbrev bc8:Blk:={ mode:=.live,elem:=28,size:=8,rows:=[[.t (ti 0),.t (ti 0),.t (ti 0),.t (.sl 0 .nil []),.t (.sl 0 .nil []),.t (.sl 0 .nil []),.t (.sl 0 .nil []),.t (.sl 0 .nil [])]],box:=true }
def mvW (k:Nat):List j6:=if k=0 then (exW 25).moves else if k=1 then [⟨3,0,1,-1,0,false⟩,⟨5,1,2,0,25,true⟩] else aR6.moves
theorem b6Q:∀k,k<2->∃x,(mvW k)[k]? =some x∧x.scale=0∧(mvW k).set k { x with scale:=-1,reading:=0 }=mvW (k+1):=fun k hk=>by
 match k,hk with
 |0,_=>exact ⟨_,rfl,rfl,rfl⟩
 |1,_=>exact ⟨_,rfl,rfl,rfl⟩
theorem b7e:∀k,k<3->(mvW k).length=2:=by decide
theorem b1t {ρ:List (Option Nat)} {H:Hp} {e:Ev} {r r' len:Nat} (h1:ρ[r']? =some (some r)):a1f ρ H (evX e r len) (evX e r' len):=
 ⟨rfl,rfl,rfl,.inr ⟨⟨rfl,rfl,rfl,rfl,⟨h1,rfl,rfl,fun h=>h⟩,rfl,rfl,rfl,trivial⟩,trivial⟩⟩
theorem b7b {l:List j6} {n m:Nat} {x:j6} {K:List C->Prop} (e:n=m) (h:l[m]? =some x) (k:K (x.row.map C.t)):∃row,(toC (l.map j6.row))[n]? =some row∧K row:=by
 subst e;exact ⟨_,by simp [toC,h],k⟩
theorem b4x:E5 bc8.rows:=by simp [E5,C.isT]
theorem b4w {rows:List (List C)} {n m:Nat} {v:List C} {K:List C->Prop} (e:n=m) (hl:m<rows.length) (h:K v):∃row,(rows.set n v)[n]? =some row∧K row:=by
 subst e;exact ⟨v,by simp [hl],h⟩
theorem b0j (l:List j6) (n:Nat) (y:j6):q9 (a2g l) ((a2g l).rows.set n (y.row.map C.t))=a2g (l.set n y):=by
 show ({ mode:=_,elem:=_,size:=_,rows:=(toC (l.map j6.row)).set n _,box:=_,app:=_ }:Blk)=_
 have:(toC (l.map j6.row)).set n (y.row.map C.t)=toC ((l.set n y).map j6.row):=by simp [toC,List.map_set]
 rw [this]
set_option maxHeartbeats 8000000 in
theorem aI8:b7 Tryz.prog 181 [evS (exW 25),g8 [0]] [] (evS aR6) []:=by
 have ck:=S1 (exW 25) (a1p 25)
 rw [K2.2.1] at ck
 have c1:=ai4 (exW 25).places (by decide)
 have c2:=am7 (exW 25).moves (by decide)
 have c3:=ar3 (exW 25).certs (by decide)
 have c4:=a8V (exW 25).recalls (by decide)
 have c5:=a8R (exW 25).purities (by decide)
 have c2:b7 Tryz.prog 187 [.c (.t (Q7 (exW 25).moves))] [] (.c (.own 0 0 2 true)) [a2g (exW 25).moves]:=c2
 have cn:=a93 [0] 0 (by decide)
 (refine ac Tryz.func181 ?_;(conv=>whnf);repeat (refine zy ?_;conv=>whnf))
 repeat' (first|refine zx ?_|refine qp ck ?_|refine qp c1 ?_|refine qp c3 ?_|refine qp c4 ?_|refine qp c5 ?_|refine qp (5,8) ?_|refine qp 8 ?_|refine qp 5 ?_|refine .inl ⟨_,_,a1n c2 rfl rfl (c8 _),?_⟩|refine bl0 [5,8] ?_|refine bl0 [8] ?_|refine bl0 [5] ?_|refine zd ?_ ?_<;>intro h<;>try omega|fail)<;>conv=>whnf
 all_goals try omega
 refine f8 c7 (fun k=>([J,g8 [0],S.c (C.ptr 0 0 0),J,S.c (C.ptr 1 0 0)]++Jn 27++[S.c (C.own 2 0 2 true),a8 .i64 2,a8 .i64 k]++Jn 25,[evX (exW 25) 2 2,bc8,a2g (mvW k)])) 2 (fun _=>True) [some 0,some 1,some 2] trivial
  ⟨rfl,rfl,⟨b1t rfl,⟨rfl,rfl,rfl,.inl ⟨rfl,b4x⟩⟩,i6 (c8 _),trivial⟩,⟨rfl,⟨rfl,rfl,rfl⟩,⟨rfl,rfl,rfl⟩,⟨rfl,rfl,rfl,fun h=>h⟩,rfl,rfl,trivial⟩⟩ ?_
 intro k hk _
 by_cases hlt:k<2
 ·obtain ⟨x,hx,hx0,hx1⟩:=b6Q k hlt
  have ml:=b7e k (by omega)
  have cx:b7 Tryz.prog 185 [g8 [0],a8 .i64 x.scale] [] (f7 true) []:=by rw [hx0];exact cn
  have i0:0+(k:Int).toNat=k:=by omega
  have il:k<(toC ((mvW k).map j6.row)).length:=by simp [toC];omega
  have eB:=(congrArg (fun B:Blk=>q9 B (B.rows.set (0+(k:Int).toNat) (({ x with scale:=-1,reading:=0 }:j6).row.map C.t))) (b0j (mvW k) (0+(k:Int).toNat) { x with scale:=-1 })).trans
   ((b0j ((mvW k).set (0+(k:Int).toNat) { x with scale:=-1 }) (0+(k:Int).toNat) { x with scale:=-1,reading:=0 }).trans (congrArg a2g (show ((mvW k).set (0+(k:Int).toNat) { x with scale:=-1 }).set (0+(k:Int).toNat) { x with scale:=-1,reading:=0 }=mvW (k+1) by rw [List.set_set,i0];exact hx1)))
  conv=>whnf
  repeat' (first|refine zx ?_|refine qp cx ?_|refine b7b i0 hx ?_|refine b4w i0 il ?_|refine B4 _ (by decide +kernel) rfl ?_|refine zd ?_ ?_<;>intro h<;>try omega|fail)<;>conv=>whnf
  all_goals first
   |omega
   |exact ⟨hlt,trivial,[some 0,some 1,some 2],rfl,rfl,⟨b1t rfl,⟨rfl,rfl,rfl,.inl ⟨rfl,b4x⟩⟩,⟨rfl,rfl,rfl,.inl ⟨congrArg Blk.rows eB,Eq.mpr (congrArg (fun b=>E5 (Blk.rows b)) eB) (c8 _)⟩⟩,trivial⟩,⟨rfl,⟨rfl,rfl,rfl⟩,⟨rfl,rfl,rfl⟩,⟨rfl,rfl,rfl,fun h=>h⟩,rfl,c6 (by omega),trivial⟩⟩
 ·have hke:k=2:=by omega
  subst hke
  conv=>whnf
  repeat' (first|refine zx ?_|refine zd ?_ ?_<;>intro h<;>try omega|fail)<;>conv=>whnf
  all_goals first
   |omega
   |exact j3 ⟨rfl,rfl,rfl,rfl,show VC _ (fun id=>G3 [] id=true) _ _ from t8 rfl rfl (by intro h;cases h) rfl rfl (by rfl),rfl,rfl,rfl,trivial⟩
abbrev cpB (id:Nat) (w:k7):Blk:={ mode:=.live,elem:=192,size:=6,rows:=[.own id 0 w.terms.length true::.t (ti w.kind)::frC (fz w.value)],box:=true }
abbrev cpZ:Blk:={ mode:=.live,elem:=192,size:=6,rows:=[.t (.sl 0 .nil [])::.t (ti 0)::frC I3],box:=true }
theorem bc3:E5 cpZ.rows:=by simp [E5,C.isT]
theorem b5Q {ρ:List (Option Nat)} {H:Hp} {w:k7} {r r':Nat} (h1:ρ[r']? =some (some r)):a1f ρ H (cpB r w) (cpB r' w):=
 ⟨rfl,rfl,rfl,.inr ⟨⟨⟨h1,rfl,rfl,fun h=>h⟩,rfl,rfl,rfl,rfl,rfl,trivial⟩,trivial⟩⟩
theorem aN8 {l:List (Int × Rat)} {n k:Nat} {t:Int × Rat} {row:List C} (e:n=k) (h:l[k]? =some t) (hr:row=(j9 t).map C.t):q9 (H6 l) ((H6 l).rows.set n row)=H6 l:=by
 subst e hr
 unfold q9
 have:(toC (l.map j9)).set n ((j9 t).map C.t)=toC (l.map j9):=b59 (by simp [toC,h])
 show ({ mode:=_,elem:=_,size:=_,rows:=(toC (l.map j9)).set n _,box:=_,app:=_ }:Blk)=_
 rw [this]
set_option maxHeartbeats 4000000 in
theorem b3X (w:k7) (hl:w.terms.length<=100) (hb:∀t ∈ w.terms,rl t.2<=200) (hv:rl w.value<=200):b7 Tryz.prog 292 [b74 w] [] (b74 w) []:=by
 have cl:=b24 w.terms (by omega)
 have m1:(w.terms.map j9).length=w.terms.length:=by simp
 have fv:=aC7 w.value (by omega)
 (refine ac Tryz.func292 ?_;(conv=>whnf);repeat (refine zy ?_;conv=>whnf))
 repeat' (first|refine zx ?_|refine .inl ⟨_,_,a1n cl rfl rfl (c8 _),?_⟩|refine zd ?_ ?_<;>intro h<;>try omega|fail)<;>conv=>whnf
 all_goals try omega
 refine f8 c7 (fun k=>([J,S.c (C.ptr 0 0 0),S.c (C.ptr 1 0 0),J,J,J,J,J,J,J,S.c (C.own 2 0 w.terms.length true),a8 .i64 w.terms.length,a8 .i64 k]++Jn 18,[cpB 2 w,cpZ,H6 w.terms])) w.terms.length (fun _=>True) [some 0,some 1,some 2] trivial
  ⟨rfl,rfl,⟨b5Q rfl,⟨rfl,rfl,rfl,.inr ⟨⟨rfl,rfl,rfl,rfl,rfl,rfl,trivial⟩,trivial⟩⟩,i6 (c8 _),trivial⟩,⟨⟨rfl,rfl,rfl⟩,⟨rfl,rfl,rfl⟩,⟨rfl,rfl,rfl,fun h=>h⟩,c6 (by omega),rfl,trivial⟩⟩ ?_
 intro k hk _
 by_cases hlt:k<w.terms.length
 ·obtain ⟨t,ht⟩:∃t,w.terms[k]? =some t:=⟨_,lbf hlt⟩
  have ft:=aC7 t.2 (by have:=hb t (lbm ht);omega)
  have gt:w.terms[0+(k:Int).toNat]? =some t:=by rw [Nat.zero_add,lbX];exact ht
  have eB:=aN8 (l:=w.terms) (n:=0+(k:Int).toNat) (k:=k) (t:=t) (row:=(j9 t).map C.t) (by omega) ht rfl
  conv=>whnf
  repeat' (first|refine zx ?_|refine qp ft ?_|refine a6W (m:=0+(k:Int).toNat) rfl gt ?_|refine zd ?_ ?_<;>intro h<;>try omega|fail)<;>conv=>whnf
  all_goals first
   |omega
   |exact ⟨hlt,trivial,[some 0,some 1,some 2],rfl,rfl,⟨b5Q rfl,⟨rfl,rfl,rfl,.inl ⟨rfl,bc3⟩⟩,⟨rfl,rfl,rfl,.inl ⟨congrArg Blk.rows eB,Eq.mpr (congrArg (fun b=>E5 (Blk.rows b)) eB) (c8 _)⟩⟩,trivial⟩,⟨⟨rfl,rfl,rfl⟩,⟨rfl,rfl,rfl⟩,⟨rfl,rfl,rfl,fun h=>h⟩,rfl,c6 (by omega),trivial⟩⟩
 ·have hke:k=w.terms.length:=by omega
  subst hke
  conv=>whnf
  repeat' (first|refine zx ?_|refine qp fv ?_|refine zd ?_ ?_<;>intro h<;>try omega|fail)<;>conv=>whnf
  all_goals first
   |omega
   |exact j3 ⟨show VC _ (fun id=>G3 [] id=true) _ _ from t8 rfl rfl (by intro h;cases h) rfl rfl (by simp),rfl,rfl,rfl,rfl,rfl,trivial⟩
abbrev b8r:Blk:={ mode:=.live,elem:=48,size:=2,rows:=[[.t (ti 0),.t (.sl 0 .nil [])]],box:=true }
theorem b0g:E5 b8r.rows:=by simp [E5,C.isT]
def a3I (s:g6) (L:List Nat):g6:=⟨s.n,L.map (p9 s)⟩
theorem aZ1 {s:g6} {L:List Nat} {k i:Nat} (h:L[k]? =some i):(a3I s (L.take (k+1))).rows=(a3I s (L.take k)).rows++[p9 s i]:=by
 unfold a3I;rw [lbG,h];simp
set_option maxHeartbeats 4000000 in
theorem b8B (s:g6) (hT:I6 s) (L:List Nat) (hp:L.Pairwise (·<·)) (hn:∀i ∈ L,i<s.rows.length) (hl:L.length<=1000):b7 Tryz.prog 238 [S7 s,g8 (nI L)] [] (S7 (a3I s L)) []:=by
 have sb:=a2U hT
 have lr:=T3 s sb
 rw [hT.r] at lr
 have m1:((nI L).map e8).length=L.length:=by simp [nI]
 have m2:(s.rows.map C8).length=s.rows.length:=by simp
 have cr:=b3u L s.rows.length hp hn (by omega)
 have cr2:b7 Tryz.prog 291 [g8 (nI L),a8 .i64 ((s.rows.map C8).length:Nat)] [] (f7 true) []:=by rw [m2];exact cr
 (refine ac Tryz.func238 ?_;(conv=>whnf);repeat ((first|refine b0x ?_|refine zy ?_);conv=>whnf))
 repeat' (first|refine zx ?_|refine qp lr ?_|refine qp cr ?_|refine qp cr2 ?_|refine zd ?_ ?_<;>intro h<;>try omega|fail)<;>conv=>whnf
 all_goals try omega
 refine f8 c7 (fun k=>([J,J,S.c (C.t (T.ptr (a1H s))),J,S.c (C.ptr 0 0 0),S.c (C.ptr 1 0 0)]++Jn 17++[g8 (nI L),a8 .i64 L.length,a8 .i64 k]++Jn 16,[b8r,bg7 s.n 2 k,b8y (a3I s (L.take k)).rows])) L.length (fun _=>True) [some 0,some 1,none] trivial
  ⟨rfl,rfl,⟨⟨rfl,rfl,rfl,.inl ⟨rfl,b0g⟩⟩,⟨rfl,rfl,rfl,.inr ⟨⟨rfl,⟨rfl,rfl,rfl⟩,trivial⟩,trivial⟩⟩,⟨rfl,rfl⟩,trivial⟩,⟨rfl,⟨rfl,rfl,rfl⟩,⟨rfl,rfl,rfl⟩,rfl,c6 (by omega),rfl,trivial⟩⟩ ?_
 intro k hk _
 by_cases hlt:k<L.length
 ·obtain ⟨i,hi⟩:∃i,L[k]? =some i:=⟨_,lbf hlt⟩
  have hin:=hn i (lbm hi)
  obtain ⟨w,hw⟩:∃w,s.rows[i]? =some w:=⟨_,lbf hin⟩
  have ew:p9 s i=w:=by unfold p9;rw [lbl,hw];rfl
  obtain ⟨b1,b2,b3⟩:=X4 hT w (lbm hw)
  have cp:=b3X w b1 b2 b3
  have lk:(a3I s (L.take k)).rows.length=k:=by simp [a3I];omega
  have lA:k<=(b8y (a3I s (L.take k)).rows).rows.length:=by show k<=(toC _).length;simp only [toC,lbr];omega
  conv=>whnf
  repeat' (first|refine zx ?_|refine qp cp ?_|refine qp toC ?_|refine d7 (az4 hi) ?_|refine F3 (by omega) hw ?_|refine y9 lA (by simp [toC];omega) ?_|refine zd ?_ ?_<;>intro h<;>try omega|fail)<;>conv=>whnf
  all_goals first
   |omega
   |(refine ⟨hlt,trivial,[some 0,some 1,some 3],rfl,rfl,⟨⟨rfl,rfl,rfl,.inl ⟨rfl,b0g⟩⟩,⟨rfl,rfl,rfl,.inr ⟨⟨rfl,⟨rfl,rfl,rfl,fun h=>h⟩,trivial⟩,trivial⟩⟩,b8 (rows:=(a3I s (L.take (k+1))).rows.map C8) rfl rfl rfl ?_ rfl,trivial⟩,⟨rfl,⟨rfl,rfl,rfl⟩,⟨rfl,rfl,rfl⟩,rfl,rfl,c6 (by omega),trivial⟩⟩
     rw [aZ1 hi,ew]
     exact b2v lk.symm)
 ·have hke:k=L.length:=by omega
  subst hke
  rw [lbn (lbQ _)]
  have lk:(a3I s L).rows.length=L.length:=by simp [a3I]
  conv=>whnf
  repeat' (first|refine zx ?_|refine zd ?_ ?_<;>intro h<;>try omega|fail)<;>conv=>whnf
  all_goals first
   |omega
   |exact j3 ⟨rfl,show VC _ (fun id=>G3 [] id=true) _ _ from t8 rfl rfl (by intro h;cases h) rfl rfl (by simp only [lbr];omega),trivial⟩
def T9 (L:List Nat) (Y:List Rat):Nat->List Int
 |0=>[]
 |k+1=>if yN Y k=0 then T9 L Y k else T9 L Y k++[((L.getD k 0:Nat):Int)]
theorem a81 (L:List Nat) (Y:List Rat):∀k,(T9 L Y k).length<=k
 |0=>lbQ _
 |k+1=>by
  have:=a81 L Y k
  unfold T9
  split
  ·omega
  ·rw [lbq];simp;omega
theorem am6 {L:List Nat} {Y:List Rat} {c k:Nat} (h:L[k]? =some c) (hy:yN Y k≠0):∀n,k<n->(c:Int) ∈ T9 L Y n
 |0,hn=>by omega
 |n+1,hn=>by
  unfold T9
  rcases Nat.lt_or_ge k n with hk|hk
  ·have:=am6 h hy n hk
   split
   ·exact this
   ·exact List.mem_append_left _ this
  ·have:k=n:=by omega
   subst this
   rw [if_neg hy]
   refine List.mem_append_right _ ?_
   rw [lbl,h];simp
theorem b9U {L:List Nat} (h:∀i ∈ L,i<5):a3I (P8 [0,1,2,3,4]) L=P8 L:=
 congrArg (g6.mk 2) (lbp fun i hi=>by
  have:=h i hi
  match i,this with
  |0,_=>rfl
  |1,_=>rfl
  |2,_=>rfl
  |3,_=>rfl
  |4,_=>rfl)
theorem b5Y {L:List Nat} {Y:List Rat} {k:Nat} (h:yN Y k=0):T9 L Y (k+1)=T9 L Y k:=by
 show (if _ then _ else _)=_
 rw [if_pos h]
theorem b2t {L:List Nat} {Y:List Rat} {k:Nat} (h:yN Y k≠0):T9 L Y (k+1)=T9 L Y k++[((L.getD k 0:Nat):Int)]:=by
 show (if _ then _ else _)=_
 rw [if_neg h]
theorem a3U {L:List Nat} (h:∀i ∈ L,i<5) (hl:L.length<=5):I6 (P8 L) where
 r:=a4g h hl
 i:=fun w hw=>by
  obtain ⟨i,hi,rfl⟩:=lbx.1 hw
  have h5:=h i hi
  have hs:=aE9.i
  rw [b8n] at hs
  refine hs _ (lbx.2 ⟨i,?_,rfl⟩)
  simp;omega
 n:=by show (2:Int)<=10;decide
 l:=by show (L.map b2G).length<=999;rw [lbr];omega
set_option maxHeartbeats 8000000 in
theorem an0 (L:List Nat) (hp:L.Pairwise (·<·)) (h5:∀i ∈ L,i<5) (hl:L.length<=5):
 ((∃ z,i4 (P8 L) z=true)∧b7 Tryz.prog 182 [S7 (P8 [0,1,2,3,4]),g8 (nI L)] [] (.tup [.c (.t (.sl 0 .nil [])),f7 false]) [])∨
 ∃Y,aV4 (P8 L) Y=true∧Y.length=L.length∧b7 Tryz.prog 182 [S7 (P8 [0,1,2,3,4]),g8 (nI L)] [] (.tup [g8 (T9 L Y L.length),f7 true]) []:=by
 have hP:=b8B (P8 [0,1,2,3,4]) (a3U (by decide) (by decide)) L hp (fun i hi=>h5 i hi) (by omega)
 rw [b9U h5] at hP
 have hS:=a3U h5 hl
 have hle:=a1L (g:=[]) hS rfl a0j
 rcases b6x hS.r with ho|⟨r,ho⟩
 ·have so:=aa1 _ _ _ hle ho (fun v hv=>by have:=aE7 hS rfl a0j v hv;omega)
  refine .inl ⟨⟨_,(a2X hS.r rfl ho).1⟩,?_⟩
  (refine ac Tryz.func182 ?_;(conv=>whnf);repeat ((first|refine b0x ?_|refine zy ?_);conv=>whnf))
  repeat' (first|refine zx ?_|refine qp hP ?_|refine qp so ?_|refine qp 8 ?_|refine bl0 [8] ?_|refine zd ?_ ?_<;>intro h<;>try omega|fail)<;>conv=>whnf
  all_goals first
   |omega
   |exact j3 ⟨rfl,rfl,trivial⟩
 ·have so:=al5 _ _ _ r hle ho
  have ot:=a9R (g:=[]) (g':=[]) hS rfl a0j ho
  obtain ⟨_,_,_,_,hB⟩:=ot.none rfl
  have hy:=ot.by'
  simp only at hB hy
  rw [← ad6] at so
  have zl:(zOf (P8 L).rows.length (Z6 (P8 L) (o9 (P8 L) []) r)).length=L.length:=by rw [a5m];simp [P8]
  generalize zOf (P8 L).rows.length (Z6 (P8 L) (o9 (P8 L) []) r)=Y at *
  refine .inr ⟨Y,hB,zl,?_⟩
  have m1:((Y.map fz).map j5).length=L.length:=by simp [zl]
  have m2:((nI L).map e8).length=L.length:=by simp [nI]
  (refine ac Tryz.func182 ?_;(conv=>whnf);repeat ((first|refine b0x ?_|refine zy ?_);conv=>whnf))
  repeat' (first|refine zx ?_|refine qp hP ?_|refine qp so ?_|refine qp 8 ?_|refine bl0 [8] ?_|refine zd ?_ ?_<;>intro h<;>try omega|fail)<;>conv=>whnf
  all_goals try omega
  refine f8 c7 (fun k=>([J,g8 (nI L),J,J,J,J,J,J,J,S.c (C.own 0 0 (T9 L Y k).length true)]++Jn 11++[j7 (Y.map fz),a8 .i64 L.length,a8 .i64 k]++Jn 16,[n7 (T9 L Y k)])) L.length (fun _=>True) [none] trivial
   ⟨rfl,rfl,⟨⟨rfl,rfl⟩,trivial⟩,⟨rfl,⟨rfl,rfl,rfl⟩,rfl,c6 (by omega),rfl,trivial⟩⟩ ?_
  intro k hk _
  by_cases hlt:k<L.length
  ·obtain ⟨i,hi⟩:∃i,L[k]? =some i:=⟨_,lbf hlt⟩
   obtain ⟨y,hyk⟩:∃y,Y[k]? =some y:=⟨_,lbf (by omega)⟩
   have ey:yN Y k=y:=by unfold yN;rw [lbl,hyk];rfl
   have ei:L.getD k 0=i:=by rw [lbl,hi];rfl
   have sg:=Y8 y (by have:=hy y (lbm hyk);omega)
   have sz:=a4C (x:=y)
   by_cases h0:y=0
   ·have e1:T9 L Y (k+1)=T9 L Y k:=b5Y (by rw [ey];exact h0)
    have h9:=sz.2 h0
    rw [e1]
    conv=>whnf
    repeat' (first|refine zx ?_|refine qp sg ?_|refine d7 (I1 Y hyk) ?_|refine F3 (by omega) (az4 hi) ?_|refine zd ?_ ?_<;>intro h<;>try omega|fail)<;>conv=>whnf
    all_goals first
     |omega
     |exact ⟨hlt,trivial,[some 0],rfl,rfl,⟨i6 (c8 _),trivial⟩,⟨rfl,⟨rfl,rfl,rfl,fun h=>h⟩,rfl,rfl,c6 (by omega),trivial⟩⟩
   ·have e1:T9 L Y (k+1)=T9 L Y k++[(i:Int)]:=by rw [b2t (by rw [ey];exact h0),ei]
    have h9:sgR y≠0:=fun h=>h0 (sz.1 h)
    have ul:=a81 L Y k
    have lA:(T9 L Y k).length<=(n7 (T9 L Y k)).rows.length:=by show _<=(toC _).length;simp [toC]
    rw [e1]
    conv=>whnf
    repeat' (first|refine zx ?_|refine qp sg ?_|refine qp toC ?_|refine d7 (I1 Y hyk) ?_|refine F3 (by omega) (az4 hi) ?_|refine y9 lA (by simp [toC];omega) ?_|refine zd ?_ ?_<;>intro h<;>try omega|fail)<;>conv=>whnf
    all_goals first
     |omega
     |exact ⟨hlt,trivial,[some 2],rfl,rfl,⟨b8 (rows:=(T9 L Y k++[(i:Int)]).map e8) rfl rfl rfl ax7 rfl,trivial⟩,⟨rfl,⟨rfl,rfl,by rw [lbq];rfl,fun h=>h⟩,rfl,rfl,c6 (by omega),trivial⟩⟩
  ·have hke:k=L.length:=by omega
   subst hke
   conv=>whnf
   repeat' (first|refine zx ?_|refine zd ?_ ?_<;>intro h<;>try omega|fail)<;>conv=>whnf
   all_goals first
    |omega
    |exact j3 ⟨show VC _ (fun id=>G3 [] id=true) _ _ from t8 rfl rfl (by intro h;cases h) rfl rfl (by simp),rfl,trivial⟩
def N7 (k:Nat):List Nat:=if k=0 then [0,1,2,3,4] else if k<5 then [1,2,3,4] else [1,2,3]
def a3J (k:Nat):List Nat:=(N7 k).filter fun i=>decide (i≠k)
theorem a71:∀k,k<6->(N7 k).Pairwise (·<·)∧(∀ i ∈ N7 k,i<5)∧(N7 k).length<=5∧1 ∈ N7 k∧2 ∈ N7 k∧3 ∈ N7 k:=by decide
theorem b4Y:∀k,k<5->(a3J k).Pairwise (·<·)∧(∀ i ∈ a3J k,i<5)∧(a3J k).length<=5:=by decide
theorem b3a:∀k,k<5->(k=0∨k=4)->N7 (k+1)=a3J k∧1 ∈ a3J k∧2 ∈ a3J k∧3 ∈ a3J k:=by decide
theorem b3h:∀k,k<5->(k=1∨k=2∨k=3)->N7 (k+1)=N7 k∧¬(k ∈ a3J k):=by decide
theorem b2U (L:List Nat) (k:Nat):((nI L).filter fun x=>!decide (x=(k:Int)))=nI (L.filter fun i=>decide (i≠k)):=by
 unfold nI
 rw [List.filter_map]
 congr 1
 refine List.filter_congr fun i _=>?_
 simp
 omega
theorem b8G {L:List Nat} {Y:List Rat} (h5:∀i ∈ L,i<5) (hl:L.length<=5) (hB:aV4 (P8 L) Y=true) (hY:Y.length=L.length):∀c:Nat,1<=c->c<4->(c:Int) ∈ T9 L Y L.length:=fun c c0 c1=>by
 obtain ⟨k,h1,h2⟩:=b5K h5 hl hB c0 c1
 exact am6 h1 h2 _ (lbe.1 h1).1
theorem b0Y {L:List Nat} (hp:L.Pairwise (·<·)) (h5:∀i ∈ L,i<5) (hl:L.length<=5) (h1:1 ∈ L) (h2:2 ∈ L) (h3:3 ∈ L):
 ∃U,U.length<=5∧(∀ c:Nat,1<=c->c<4->(c:Int) ∈ U)∧b7 Tryz.prog 182 [S7 (P8 [0,1,2,3,4]),g8 (nI L)] [] (.tup [g8 U,f7 true]) []:=by
 rcases an0 L hp h5 hl with ⟨⟨z,hz⟩,_⟩|⟨Y,hB,hY,h⟩
 ·rw [aB2 h1 h2 h3] at hz;cases hz
 ·exact ⟨_,by have:=a81 L Y L.length;omega,b8G h5 hl hB hY,h⟩
theorem b9K {L:List Nat} (hp:L.Pairwise (·<·)) (h5:∀i ∈ L,i<5) (hl:L.length<=5) {c:Nat} (c0:1<=c) (c1:c<4) (hc:c ∉ L):
 b7 Tryz.prog 182 [S7 (P8 [0,1,2,3,4]),g8 (nI L)] [] (.tup [.c (.t (.sl 0 .nil [])),f7 false]) []:=by
 rcases an0 L hp h5 hl with ⟨_,h⟩|⟨Y,hB,hY,_⟩
 ·exact h
 ·obtain ⟨k,h1,_⟩:=b5K h5 hl hB c0 c1
  exact absurd (lbm h1) hc
theorem be9 (k:Nat) (x:Int):b7 Tryz.prog 184 (a8 .i64 x::[aX0 k].map fun x=>.c (.t x)) [] (f7 (decide (x=(k:Int)))) []:=by
 (refine ac Tryz.func184 ?_;(conv=>whnf);repeat ((first|refine b0x ?_|refine zy ?_);conv=>whnf))
 repeat' (first|refine zx ?_|refine zd ?_ ?_<;>intro h<;>try omega|fail)<;>conv=>whnf
 all_goals first
  |(refine c9 ?_;simp_all;done)
theorem b8S (k:Nat) (hk:k<5):∃zs,zs.take (a3J k).length=nI (a3J k)∧b7 Tryz.prog 183 [.c (.own 0 0 (N7 k).length true),.c (.t (.fn (.func 184) [aX0 k]))] [n7 (nI (N7 k))] (.c (.own 0 0 (a3J k).length true)) [n7 zs]:=by
 obtain ⟨zs,z1,_,h⟩:=aR5 (nI (N7 k)) (by rw [a67];have:=(a71 k (by omega)).2.2.1;omega) 184 [aX0 k] (fun x=>decide (x=(k:Int))) (fun x _=>be9 k x)
 rw [b2U] at z1 h
 rw [a67,a67] at h
 rw [a67] at z1
 exact ⟨zs,z1,h⟩
def aJ0 (k:Nat):List Int:=(List.range 5).map fun i=>if i<k then (i:Int) else 0
theorem b5i:∀k,k<5->(aJ0 k).set k (k:Int)=aJ0 (k+1):=by decide
theorem b3g:∀k,k<5->(aJ0 k)[k]? =some 0:=by decide
theorem b4m:aJ0 5=nI (N7 0):=by decide
abbrev w5:g6:=P8 [0,1,2,3,4]
structure b6b (U:List Int):Prop where
 l:U.length<=5
 m:∀c:Nat,1<=c->c<4->(c:Int) ∈ U
set_option maxHeartbeats 16000000 in
theorem aW9:b7 Tryz.prog 110 [S7 w5] [] (.tup [g8 [1,2,3],a8 .i64 0]) []:=by
 have hS:I6 w5:=a3U (by decide) (by decide)
 have lr:=T3 w5 (a2U hS)
 rw [hS.r] at lr
 obtain ⟨U0,u1,u2,r0⟩:=b0Y (a71 0 (by decide)).1 (a71 0 (by decide)).2.1 (a71 0 (by decide)).2.2.1 (by decide) (by decide) (by decide)
 have rS:∀k,b7 Tryz.prog 164 [g8 (nI (N7 k))] [] (.c (.own 0 0 (N7 k).length true)) [n7 (nI (N7 k))]:=fun k=>by
  have:=aP0 (nI (N7 k)) (by rw [a67];unfold N7;split<;>(try split)<;>decide)
  rwa [a67] at this
 (refine ac Tryz.func110 ?_;conv=>whnf)
 refine b0x ?_
 conv=>whnf
 repeat' (first|refine zx ?_|refine qp lr ?_|refine ⟨by decide,?_⟩|refine zd ?_ ?_<;>intro h<;>try omega|fail)<;>conv=>whnf
 all_goals try omega
 refine f8 c7 (fun k=>([J,S.c (C.t (T.ptr (a1H w5))),J,J,S.c (C.own 0 0 5 true)]++Jn 15++[a8 .i64 5,a8 .i64 k]++Jn 41,[n7 (aJ0 k)])) 5 (fun _=>True) [some 0] trivial
  ⟨rfl,rfl,⟨b8 (rows:=(aJ0 0).map e8) rfl rfl rfl rfl rfl,trivial⟩,⟨rfl,⟨rfl,rfl,rfl,fun h=>h⟩,rfl,rfl,trivial⟩⟩ ?_
 intro k hk _
 by_cases hlt:k<5
 ·have gv:(aJ0 k)[0+(k:Int).toNat]? =some 0:=by rw [Nat.zero_add,lbX];exact b3g k hlt
  have eB:=(am9 (l:=aJ0 k) (v:=(k:Int)) (show 0+(k:Int).toNat=k by omega)).trans (congrArg n7 (b5i k hlt))
  conv=>whnf
  repeat' (first|refine zx ?_|refine a9A gv ?_|refine zd ?_ ?_<;>intro h<;>try omega|fail)<;>conv=>whnf
  all_goals first
   |omega
   |exact ⟨hlt,trivial,[some 0],rfl,rfl,⟨⟨rfl,rfl,rfl,.inl ⟨congrArg Blk.rows eB,Eq.mpr (congrArg (fun b=>E5 (Blk.rows b)) eB) (c8 _)⟩⟩,trivial⟩,⟨rfl,⟨rfl,rfl,rfl,fun h=>h⟩,rfl,c6 (by omega),trivial⟩⟩
 ·have hke:k=5:=by omega
  subst hke
  rw [b4m]
  conv=>whnf
  repeat' (first|refine zx ?_|refine qp 0 ?_|refine .inr ⟨_,_,C7 [0] r0 ⟨ad8 (a1H w5),a3p (a7M (l:=nI (N7 0)) (by simp) rfl),trivial⟩ rfl,?_⟩|refine B4 _ (by decide +kernel) rfl ?_|refine zd ?_ ?_<;>intro h<;>try omega|fail)<;>conv=>whnf
  all_goals try omega
  refine a4V (σ:={x:Nat × List Int // x.1<=5∧b6b x.2}) (fun x=>([J,S.c (C.t (T.ptr (a1H w5))),J,J,g8 (nI (N7 x.1.1)),J,g8 x.1.2]++Jn 32++[a8 .i64 5,a8 .i64 x.1.1]++Jn 22,[])) (fun x=>5 - x.1.1) ⟨(0,U0),Nat.zero_le _,u1,u2⟩ []
   ⟨rfl,rfl,trivial,⟨rfl,ae8 rfl rfl (fun h=>h) rfl rfl rfl,rfl,rfl,rfl,trivial⟩⟩ ?_
  rintro ⟨⟨k,U⟩,hk,hU⟩
  have hk:k<=5:=hk
  have hU:b6b U:=hU
  refine B6 c7 ?_
  conv=>whnf
  repeat' (first|refine zx ?_|refine zd ?_ ?_<;>intro h<;>try omega|fail)<;>conv=>whnf
  ·have h:(k:Int)<5:=h
   have hlt:k<5:=by omega
   obtain ⟨zs,z1,de⟩:=b8S k hlt
   have cl:=rS k
   have cn:=a93 U k (by have:=hU.l;omega)
   obtain ⟨l1,l2,l3⟩:=b4Y k hlt
   refine B6 c7 ?_
   conv=>whnf
   refine a4w (a6A ?_)
   refine a0L c7 ([J,S.c (C.t (T.ptr (a1H w5))),J,J,g8 (nI (N7 k)),J,g8 U,J,S.c (C.t (T.ptr [ti k]))]++Jn 30++[a8 .i64 5,a8 .i64 k]++Jn 22) [] ?_ ?_
   ·conv=>whnf
    repeat' (first|refine zx ?_|refine zd ?_ ?_<;>intro h<;>try omega|fail)<;>conv=>whnf
    all_goals first
     |exact ⟨[],rfl,rfl,trivial,⟨.inl rfl,.inl rfl,.inl rfl,.inr (a8D (r:=0) rfl rfl (fun h=>h) rfl (b67 [ti (k:Int)])),.inl rfl,.inl rfl,trivial⟩⟩
   refine a0L c7 ([J,S.c (C.t (T.ptr (a1H w5))),J,J,g8 (nI (N7 k)),J,g8 U,J,S.c (C.t (T.ptr [ti k])),g8 (nI (a3J k))]++Jn 29++[a8 .i64 5,a8 .i64 k]++Jn 22) [] ?_ ?_
   ·conv=>whnf
    repeat' (first|refine zx ?_|refine .inl ⟨_,_,a1n cl rfl rfl (c8 _),?_⟩|refine .inr ⟨_,_,de,?_⟩|refine zd ?_ ?_<;>intro h<;>try omega|fail)<;>conv=>whnf
    all_goals first
     |exact ⟨[],rfl,rfl,trivial,⟨.inl rfl,.inl rfl,.inl rfl,.inl rfl,.inr (.vc (b0v rfl rfl z1 (by rw [a67]))),.inl rfl,.inl rfl,trivial⟩⟩
   refine n9 c7 _ ?_
   by_cases hk1:k=0∨k=4
   ·obtain ⟨o1,o2,o3,o4⟩:=b3a k hlt hk1
    cases hb:(U.any fun x=>decide (x=(k:Int))) with
    |false=>
     rw [hb] at cn
     conv=>whnf
     repeat' (first|refine zx ?_|refine qp cn ?_|refine zd ?_ ?_<;>intro h<;>try omega|fail)<;>conv=>whnf
     all_goals try omega
     all_goals try (exfalso;contradiction)
     all_goals first
     |(refine n9 c7 _ ?_
       (conv=>whnf)
       repeat' (first|refine zx ?_|refine zd ?_ ?_<;>intro h<;>try omega|fail)<;>conv=>whnf
       exact ⟨[],⟨(k+1,U),by show k+1<=5;omega,hU⟩,⟨rfl,rfl,trivial,⟨rfl,i5 (by show _=N3 (nI (N7 (k+1)));rw [o1]),rfl,rfl,c6 (by show _=((k+1:Nat):Int);omega),trivial⟩⟩,by show 5 - (k+1)<5 - k;omega⟩)
    |true=>
     rw [hb] at cn
     obtain ⟨U2,v1,v2,rf⟩:=b0Y l1 l2 l3 o2 o3 o4
     have hU2:b6b U2:=⟨v1,v2⟩
     conv=>whnf
     repeat' (first|refine zx ?_|refine qp cn ?_|refine qp rf ?_|refine B4 _ (by decide +kernel) rfl ?_|refine zd ?_ ?_<;>intro h<;>try omega|fail)<;>conv=>whnf
     all_goals try omega
     all_goals try (exfalso;contradiction)
     all_goals first
     |(refine n9 c7 _ ?_
       (conv=>whnf)
       repeat' (first|refine zx ?_|refine zd ?_ ?_<;>intro h<;>try omega|fail)<;>conv=>whnf
       exact ⟨[],⟨(k+1,U2),by show k+1<=5;omega,hU2⟩,⟨rfl,rfl,trivial,⟨rfl,i5 (by show _=N3 (nI (N7 (k+1)));rw [o1]),rfl,rfl,c6 (by show _=((k+1:Nat):Int);omega),trivial⟩⟩,by show 5 - (k+1)<5 - k;omega⟩)
   ·obtain ⟨o1,o2⟩:=b3h k hlt (by omega)
    have hb:(U.any fun x=>decide (x=(k:Int)))=true:=lbw.2 ⟨k,hU.m k (by omega) (by omega),by simp⟩
    rw [hb] at cn
    have rf:=b9K l1 l2 l3 (c:=k) (by omega) (by omega) o2
    conv=>whnf
    repeat' (first|refine zx ?_|refine qp cn ?_|refine qp rf ?_|refine B4 _ (by decide +kernel) rfl ?_|refine zd ?_ ?_<;>intro h<;>try omega|fail)<;>conv=>whnf
    all_goals try omega
    all_goals try (exfalso;contradiction)
    all_goals first
     |(refine n9 c7 _ ?_
       (conv=>whnf)
       repeat' (first|refine zx ?_|refine zd ?_ ?_<;>intro h<;>try omega|fail)<;>conv=>whnf
       exact ⟨[],⟨(k+1,U),by show k+1<=5;omega,hU⟩,⟨rfl,rfl,trivial,⟨rfl,i5 (by show _=N3 (nI (N7 (k+1)));rw [o1]),rfl,rfl,c6 (by show _=((k+1:Nat):Int);omega),trivial⟩⟩,by show 5 - (k+1)<5 - k;omega⟩)
  ·have h:¬(k:Int)<5:=h
   have hke:k=5:=by omega
   subst hke
   refine n9 c7 _ ?_
   conv=>whnf
   repeat' (first|refine zx ?_|refine zd ?_ ?_<;>intro h<;>try omega|fail)<;>conv=>whnf
   all_goals first
    |omega
    |exact j3 ⟨rfl,rfl,trivial⟩
open Go.RowKit Go.Shelf
theorem b3L {e:Ev} (hs:e.Sized) (h1:e.mats=1) (hm:e.moves.length=2) (hp:e.purities=[]) (hsrc:∀x ∈ e.moves,0<=x.src∧x.src<e.places.length):EvT e:=
 ⟨hs,fun _=>⟨hs,by omega,by omega,by omega,by rw [hp];decide,hsrc,by rw [hp];intro p h;cases h⟩,by rw [hm,h1];decide⟩
theorem b3T (r:Int):EvT (exW r):=b3L (a1p r) rfl rfl rfl (by simp [exW])
theorem b8N:EvT aR6:=b3L aS6 rfl rfl rfl (by decide)
abbrev b5F:T:=.sl 1 .any [[N3 [0]]]
theorem b4q:b7 Tryz.prog 164 [.c (.t (.sl 0 .nil []))] [] (.c (.t (.sl 0 .nil []))) []:=by
 (refine ac Tryz.func164 ?_;(conv=>whnf);repeat (refine zy ?_;conv=>whnf))
 repeat' (first|refine zx ?_|refine zd ?_ ?_<;>intro h<;>try omega|fail)<;>conv=>whnf
 all_goals first
  |exact j3 rfl
theorem aT1 (x:T):b7 Tryz.prog 109 [evS (exW 25),g8 [0],.c (.t x),a8 .i64 0] [] (.c (.t b5F)) []:=by
 have wo:=aI8
 have po:=a4a aR6 b8N K2.2.2 ⟨_,b4k⟩
 have cl:=b54 [0] (by decide)
 (refine ac Tryz.func109 ?_;(conv=>whnf);repeat ((first|refine b0x ?_|refine zy ?_);conv=>whnf))
 repeat' (first|refine zx ?_|refine qp wo ?_|refine qp po ?_|refine qp cl ?_|refine zd ?_ ?_<;>intro h<;>try omega|fail)<;>conv=>whnf
 all_goals first
  |omega
  |exact j3 rfl
abbrev bh0 (l:List (List Int)):Blk:={ mode:=.live,elem:=31,size:=1,rows:=toC (l.map fun x=>[N3 x]),box:=false }
theorem aS2:b7 Tryz.prog 109 [evS (exW 25),.c (.t (.sl 0 .nil [])),g8 [0],a8 .i64 1] [] (.c (.t b5F)) []:=by
 have cn:=b4q
 (refine ac Tryz.func109 ?_;(conv=>whnf);repeat ((first|refine b0x ?_|refine zy ?_);conv=>whnf))
 repeat' (first|refine zx ?_|refine zd ?_ ?_<;>intro h<;>try omega|fail)<;>conv=>whnf
 all_goals try omega
 refine f8 c7 (fun k=>([J,S.c (C.t (T.sl 0 .nil [])),g8 [0],a8 .i64 1,S.c (C.t (T.ptr (evT (exW 25)))),J,J,J,J,S.c (C.own 0 0 k true)]++Jn 11++[g8 [0],a8 .i64 1,a8 .i64 k]++Jn 21,[bh0 (([[0]]:List (List Int)).take k)])) 1 (fun _=>True) [none] trivial
  ⟨rfl,rfl,⟨⟨rfl,rfl⟩,trivial⟩,⟨rfl,rfl,rfl,rfl,⟨rfl,rfl,rfl⟩,rfl,rfl,rfl,trivial⟩⟩ ?_
 intro k hk _
 by_cases hlt:k<1
 ·have hk0:k=0:=by omega
  subst hk0
  conv=>whnf
  repeat' (first|refine zx ?_|refine qp cn ?_|refine qp 0 ?_|refine qp 0 ?_|refine qp 1 ?_|refine qp 0 ?_|refine d7 (show ([0]:List Int)[0]? =some 0 from rfl) ?_|refine ⟨show _*(8+1)<=_ by decide,?_⟩|refine ⟨⟨by decide,by decide,by decide⟩,?_⟩|refine F0 rfl (by decide) ?_|refine y9 (Nat.zero_le _) (by decide) ?_|refine .inr ⟨_,_,C7 [1] (aT1 _) ⟨ad8 (evT (exW 25)),a3p (a7M (l:=[0]) (by simp) rfl),a8M,a8M,trivial⟩ rfl,?_⟩|refine B4 _ (by decide +kernel) rfl ?_|refine zd ?_ ?_<;>intro h<;>try omega|fail)<;>conv=>whnf
  all_goals first
   |omega
   |exact ⟨by decide,trivial,[some 2],rfl,rfl,⟨b8 (rows:=[[N3 [0]]]) rfl rfl rfl rfl rfl,trivial⟩,⟨rfl,rfl,rfl,rfl,⟨rfl,rfl,rfl,fun h=>h⟩,rfl,rfl,c6 (by decide),trivial⟩⟩
 ·have hke:k=1:=by omega
  subst hke
  conv=>whnf
  repeat' (first|refine zx ?_|refine zd ?_ ?_<;>intro h<;>try omega|fail)<;>conv=>whnf
  all_goals first
   |omega
   |exact j3 (show VC _ (fun id=>G3 [] id=true) _ _ from t8 rfl rfl (by intro h;cases h) rfl rfl rfl)
theorem au4:b7 Tryz.prog 40 [evS (exW 25)] [] (.tup [.c (.t b5F),a8 .i64 0]) []:=by
 have us:=b5C
 have ck:=S1 (exW 25) (a1p 25)
 rw [K2.2.1] at ck
 have po:=a5L (exW 25) (b3T 25) (.inr aS1)
 have s1:=aS2
 have m1:(([0]:List Int).map e8).length=1:=rfl
 have m2:([[N3 [0]]]:List (List T)).length=1:=rfl
 (refine ac Tryz.func40 ?_;(conv=>whnf);repeat ((first|refine b0x ?_|refine zy ?_);conv=>whnf))
 repeat' (first|refine zx ?_|refine qp us ?_|refine qp ck ?_|refine qp po ?_|refine zd ?_ ?_<;>intro h<;>try omega|fail)<;>conv=>whnf
 all_goals try omega
 refine f8 c7 (fun k=>([J,S.c (C.t (T.ptr (evT (exW 25)))),J,J,g8 [0],a8 .i64 ((k:Int)+1)]++Jn 28,[])) 1 (fun k=>k=0) [] rfl
  ⟨rfl,rfl,trivial,⟨rfl,rfl,c6 (by omega),trivial⟩⟩ ?_
 intro k hk hk0
 subst hk0
 conv=>whnf
 repeat' (first|refine zx ?_|refine qp s1 ?_|refine zd ?_ ?_<;>intro h<;>try omega|fail)<;>conv=>whnf
 all_goals first
  |omega
  |exact j3 ⟨rfl,rfl,trivial⟩
def orW:List OrP:=[(af9 (exW 25) 1).getD orZ,(af9 (exW 25) 2).getD orZ,(af9 (exW 25) 3).getD orZ]
theorem b70:∀k:Nat,k<3->([1,2,3]:List Int)[k]? =some ((k:Int)+1)∧orW.take (k+1)=orW.take k++[(af9 (exW 25) ((k:Int)+1)).getD orZ]:=fun k hk=>by
 match k,hk with
 |0,_=>exact ⟨rfl,rfl⟩
 |1,_=>exact ⟨rfl,rfl⟩
 |2,_=>exact ⟨rfl,rfl⟩
abbrev bb5 (l:List OrP):Blk:={ mode:=.live,elem:=114,size:=4,rows:=toC (l.map a3P),box:=false }
abbrev bh1 (l:List OrP):T:=.sl 4 .any (l.map a3P)
theorem b2V:b7 Tryz.prog 41 [evS (exW 25)] [] (.tup [.c (.t (bh1 orW)),a8 .i64 0]) []:=by
 have sy:=a7V (exW 25) (a1p 25) (b3T 25).sm
 rw [EvT.r K2.2.1,K2.2.1,b8n] at sy
 have co:=aW9
 (refine ac Tryz.func41 ?_;(conv=>whnf);repeat ((first|refine b0x ?_|refine zy ?_);conv=>whnf))
 repeat' (first|refine zx ?_|refine qp sy ?_|refine qp co ?_|refine B4 _ (by decide +kernel) rfl ?_|refine zd ?_ ?_<;>intro h<;>try omega|fail)<;>conv=>whnf
 all_goals try omega
 refine f8 c7 (fun k=>([J,S.c (C.t (T.ptr (evT (exW 25)))),J,J,J,J,J,S.c (C.own 0 0 k true)]++Jn 19++[g8 [1,2,3],a8 .i64 3,a8 .i64 k]++Jn 15,[bb5 (orW.take k)])) 3 (fun _=>True) [none] trivial
  ⟨rfl,rfl,⟨⟨rfl,rfl⟩,trivial⟩,⟨rfl,⟨rfl,rfl,rfl⟩,rfl,rfl,rfl,trivial⟩⟩ ?_
 intro k hk _
 by_cases hlt:k<3
 ·obtain ⟨g1,g2⟩:=b70 k hlt
  have og:=b22 (exW 25) (a1p 25) (b3T 25).sm ((k:Int)+1)
  have lk:(orW.take k).length=k:=by rw [lbs];show min k 3=k;omega
  have lA:k<=(bb5 (orW.take k)).rows.length:=by show k<=(toC _).length;rw [toC,lbr,lbr,lk];exact lbQ _
  conv=>whnf
  repeat' (first|refine zx ?_|refine qp og ?_|refine qp toC ?_|refine d7 g1 ?_|refine y9 lA (by simp [toC];omega) ?_|refine B4 _ (by decide +kernel) rfl ?_|refine zd ?_ ?_<;>intro h<;>try omega|fail)<;>conv=>whnf
  all_goals first
   |omega
   |(refine ⟨hlt,trivial,[some 2],rfl,rfl,⟨b8 (rows:=(orW.take (k+1)).map a3P) rfl rfl rfl ?_ rfl,trivial⟩,⟨rfl,⟨rfl,rfl,rfl,fun h=>h⟩,rfl,rfl,c6 (by omega),trivial⟩⟩
     rw [g2]
     exact a1A (f:=a3P) (x:=(af9 (exW 25) ((k:Int)+1)).getD orZ) lk.symm)
 ·have hke:k=3:=by omega
  subst hke
  conv=>whnf
  repeat' (first|refine zx ?_|refine zd ?_ ?_<;>intro h<;>try omega|fail)<;>conv=>whnf
  all_goals first
   |omega
   |exact j3 ⟨show VC _ (fun id=>G3 [] id=true) _ _ from t8 (rows:=orW.map a3P) rfl rfl (by intro h;cases h) rfl rfl rfl,rfl,trivial⟩
theorem b6S:EqS Tryz.prog 114 4:=by
 refine ⟨by kernel_rfl,fun us vs w h1 h2=>?_⟩
 match us,vs,h1,h2 with
 |[a,b,c,d],[a',b',c',d'],_,_=>
  have u3:=Tryz.underlying3
  have a3:=Tryz.isAgg3
  have z3:=Tryz.sizeOf3
  have hS:Tryz.prog.underlying 114=some (.struct (Tryz.prog.fieldsOf 114)):=by kernel_rfl
  have hp:Tryz.prog.stoodInHeld 114=false:=by kernel_rfl
  show (Op.equalIn 10000 114 (.agg #[.int .i64 a,.int .i64 b,.int .i64 c,.int .i64 d]) (.agg #[.int .i64 a',.int .i64 b',.int .i64 c',.int .i64 d'])).run Tryz.prog w=_
  rw [show (10000:Nat)=9999+1 from rfl,run_equalIn_agg w 9999 114 _ _ hS hp]
  simp only [Program.fieldsOf,Tryz.underlying114]
  go_simp
  by_cases h1:a=a'<;>by_cases h2:b=b'<;>by_cases h3:c=c'<;>by_cases h4:d=d'<;>simp [h1,h2,h3,h4]
theorem b7Z:[N3 [0]][0]? =some (N3 [0]):=rfl
theorem bc1:orW[0]? =some ⟨2,0,-1,-1⟩:=by rfl
set_option maxHeartbeats 16000000 in
theorem a9H:b7 Tryz.prog 6 [] [] (f7 true) []:=by
 have e3:=af1 23
 have e5:=af1 25
 obtain ⟨lo,hi,hr,_,_,so,sb⟩:=am8
 have su:=au4
 have bl:=b2V
 have ne:=b93
 have ra:=b1X b3x
 have pr:=aP1 (exW 23) a7t pk1 (by decide) ae5 (by rw [a8d];decide) lo hi hr
 have i1:b7 Tryz.prog 17 [a8 .i64 21] [] (frS (fz 21)) []:=D2 21 (by decide) (by decide)
 have i2:b7 Tryz.prog 17 [a8 .i64 22] [] (frS (fz 22)) []:=D2 22 (by decide) (by decide)
 have s1:=a7g (fz 21) (by decide +kernel) (by decide +kernel)
 have s2:=a7g (fz 22) (by decide +kernel) (by decide +kernel)
 have r1:=b0K (fz 21) (by decide +kernel) (by decide +kernel)
 have r2:=b0K (fz 22) (by decide +kernel) (by decide +kernel)
 have sB:=b2j (fz 21) (fz 22) true true (by decide +kernel) (by decide +kernel) (by decide +kernel) (by decide +kernel) r1 r2
 have sI:=aX2 [0] [0] (by decide) (by decide)
 rw [lbH rfl] at sI
 have l1:([[N3 [0]]]:List (List T)).length=1:=rfl
 have l2:(orW.map a3P).length=3:=rfl
 have l3:([Z1]:List (List T)).length=1:=rfl
 have hu:Tryz.prog.underlying 105=some (.pointer (Tryz.prog.pointee 105)):=by kernel_rfl
 refine ac Tryz.func6 ?_
 conv=>whnf
 repeat' (first|refine zz ?_|refine qp e3 ?_|refine qp e5 ?_|refine qp so ?_|refine qp sb ?_|refine qp su ?_|refine qp bl ?_|refine qp ne ?_|refine qp ra ?_|refine qp pr ?_|refine qp i1 ?_|refine qp i2 ?_|refine qp s1 ?_|refine qp s2 ?_|refine qp sB ?_|refine qp sI ?_|refine qp x ?_|refine b1s b6S rfl ?_|refine ⟨hu,?_⟩|refine d7 (f:=fun x:List T=>x) b0q ?_|refine d7 (f:=fun x:T=>[x]) b7Z ?_|refine d7 bc1 ?_|refine a9u.weak ?_|refine B4 _ (by decide +kernel) rfl ?_|refine zd ?_ ?_<;>intro h<;>try omega|refine zy ?_|fail)<;>conv=>whnf
 all_goals first
  |omega
  |exact c9 rfl
def a0c (e:Ev) (G:List (List Rat)) (m k:Nat):Rat:=i7 (fun i=>match e.moves[i]? with
 |some x=>if C4 e x.src=true then hAt G i m else 0
 |none=>0) k
theorem aL4 {e:Ev} (h0:m8 e=0) (G:List (List Rat)) (m:Nat):∀k,i7 (fun p=>if C4 e p=true then stk e G k p m else 0) e.places.length=-(a0c e G m k)
 |0=>by
  have:∀n,i7 (fun p=>if C4 e p=true then stk e G 0 p m else 0) n=0:=fun n=>by
   induction n with
   |zero=>rfl
   |succ n ih=>
    show i7 _ n+_=0
    rw [ih]
    show (0:Rat)+(if C4 e n=true then (((0:Int):Rat)) else 0)=0
    have e1:((0:Int):Rat)=0:=rfl
    rw [e1];split<;>grind
  rw [this]
  show (0:Rat)=-((0:Int):Rat)
  have:((0:Int):Rat)=0:=rfl
  rw [this];grind
 |k+1=>by
  have ih:=aL4 h0 G m k
  have el:a0c e G m (k+1)=a0c e G m k+(match e.moves[k]? with
   |some x=>if C4 e x.src=true then hAt G k m else 0
   |none=>0):=rfl
  rw [el]
  cases hx:e.moves[k]? with
  |none=>
   have:stk e G (k+1)=stk e G k:=by conv=>lhs;unfold stk
                                    rw [hx]
   rw [this,ih];grind
  |some x=>
   have hmo:=O2 h0 (lbm hx)
   have hs:=a0i hmo
   have hd:C4 e x.dst=false:=by
    unfold O0 at hmo
    simp only [lbM,lbI] at hmo
    unfold C4
    rw [lbJ hmo.1.2,Bool.and_false]
   have st:∀p:Nat,stk e G (k+1) p m=if x.src=(p:Int) then stk e G k p m - hAt G k m else if x.dst=(p:Int) then stk e G k p m+hAt G k m else stk e G k p m:=fun p=>by
    conv=>lhs;unfold stk
    rw [hx];rfl
   obtain ⟨d,hd'⟩:∃d:Nat,x.src=d:=⟨x.src.toNat,by omega⟩
   simp only
   by_cases hsrc:C4 e x.src=true
   ·have e2:i7 (fun p=>if C4 e p=true then stk e G (k+1) p m else 0) e.places.length=i7 (fun p=>if p=d then (fun p:Nat=>if C4 e p=true then stk e G k p m else 0) p+-(hAt G k m) else (fun p:Nat=>if C4 e p=true then stk e G k p m else 0) p) e.places.length:=d9 fun p hp=>by
     dsimp only
     by_cases h:p=d
     ·subst h
      rw [if_pos rfl,←hd',if_pos hsrc,if_pos hsrc,st,if_pos hd'];grind
     ·rw [if_neg h]
      by_cases hp:C4 e (p:Int)=true
      ·rw [if_pos hp,if_pos hp,st,if_neg (by omega),if_neg (fun h2=>by rw [h2,hp] at hd;cases hd)]
      ·rw [if_neg hp,if_neg hp]
    rw [e2,a7p,ih,if_pos hsrc,if_pos (by omega)];grind
   ·have e2:i7 (fun p=>if C4 e p=true then stk e G (k+1) p m else 0) e.places.length=i7 (fun p=>if C4 e p=true then stk e G k p m else 0) e.places.length:=d9 fun p hp=>by
     by_cases hp:C4 e (p:Int)=true
     ·rw [if_pos hp,if_pos hp,st,if_neg (fun h2=>by rw [h2] at hsrc;exact hsrc hp),if_neg (fun h2=>by rw [h2,hp] at hd;cases hd)]
     ·rw [if_neg hp,if_neg hp]
    rw [e2,ih,if_neg hsrc];grind
theorem b5R {e:Ev} (h0:m8 e=0) (G:List (List Rat)) (m k:Nat):i7 (fun p=>if C4 e p=true then 0 else stk e G k p m) e.places.length=a0c e G m k:=by
 have h1:=aL4 h0 G m k
 have h2:=ay9 h0 G m k
 have h3:i7 (fun p=>stk e G k p m) e.places.length=i7 (fun p=>(if C4 e p=true then 0 else stk e G k p m)+(if C4 e p=true then stk e G k p m else 0)) e.places.length:=d9 fun p hp=>by
  by_cases hs:C4 e (p:Int)=true
  ·rw [if_pos hs,if_pos hs];grind
  ·rw [if_neg hs,if_neg hs];grind
 rw [h3,S0,h1] at h2
 grind
theorem a1t {x y:List Rat} {t:Rat}:(V9 x y t).length=x.length:=by simp [V9]
theorem ah7 {X Y:List Rat} {t x y:Rat} {k:Nat} (hx:X[k]? =some x) (hy:Y[k]? =some y):(V9 Y X t)[k]? =some (t*x+(((1:Int):Rat) - t)*y):=by
 have hk:=(lbe.1 hy).1
 unfold V9
 rw [lba,lbh hk]
 show some (Y.getD k 0+t*(X.getD k 0 - Y.getD k 0))=some _
 congr 1
 rw [lbl,hy,lbl,hx]
 show y+t*(x - y)=_
 have:((1:Int):Rat)=1:=rfl
 rw [this];grind
set_option maxHeartbeats 4000000 in
theorem b0h (X Y:List Rat) (t:Rat) (hl:X.length=Y.length) (hn:Y.length<=100) (hx:∀v ∈ X,rl v<=10000) (hy:∀v ∈ Y,rl v<=10000) (ht:rl t<=100):
 b7 Tryz.prog 24 [j7 (X.map fz),j7 (Y.map fz),frS (fz t)] [] (j7 ((V9 Y X t).map fz)) []:=by
 have i1:=D2 1 (by decide) (by decide)
 have b1:rl ((1:Int):Rat)<=5:=by decide +kernel
 have su:=aA1 ((1:Int):Rat) t (by omega) (by omega)
 have bs:=a8m ((1:Int):Rat) t
 have m1:((X.map fz).map j5).length=Y.length:=by simp [hl]
 have m2:((Y.map fz).map j5).length=Y.length:=by simp
 (refine ac Tryz.func24 ?_;(conv=>whnf);repeat ((first|refine b0x ?_|refine zy ?_);conv=>whnf))
 repeat' (first|refine zx ?_|refine qp i1 ?_|refine qp su ?_|refine B4 _ (by decide +kernel) rfl ?_|refine zd ?_ ?_<;>intro h<;>try omega|fail)<;>conv=>whnf
 all_goals try omega
 refine f8 c7 (fun k=>([j7 (X.map fz),j7 (Y.map fz),J,J,J,S.c (C.t (T.ptr (j5 (fz t)))),J,S.c (C.ptr 0 0 0),J,S.c (C.own 1 0 k true),a8 .i64 k]++Jn 53,[frB (fz (((1:Int):Rat) - t)),flB (((V9 Y X t).take k).map fz)])) Y.length (fun _=>True) [some 0,none] trivial
  ⟨rfl,rfl,⟨⟨rfl,rfl,rfl,.inl ⟨rfl,m9 _⟩⟩,⟨rfl,rfl⟩,trivial⟩,⟨rfl,rfl,rfl,⟨rfl,rfl,rfl⟩,⟨rfl,rfl,rfl⟩,rfl,trivial⟩⟩ ?_
 intro k hk _
 by_cases hlt:k<Y.length
 ·obtain ⟨x,hxk⟩:∃x,X[k]? =some x:=⟨_,lbf (by omega)⟩
  obtain ⟨y,hyk⟩:∃y,Y[k]? =some y:=⟨_,lbf hlt⟩
  have bx:=hx x (lbm hxk)
  have by':=hy y (lbm hyk)
  have mu1:=a3t t x (by omega) (by omega)
  have mu2:=a3t (((1:Int):Rat) - t) y (by omega) (by omega)
  have c1:=V8 t x
  have c2:=V8 (((1:Int):Rat) - t) y
  have ad:=a0y (t*x) ((((1:Int):Rat) - t)*y) (by omega) (by omega)
  have lk:(((V9 Y X t).take k).map fz).length=k:=by rw [lbr,lbs,a1t];omega
  have lA:k<=(flB (((V9 Y X t).take k).map fz)).rows.length:=by show k<=(toC _).length;rw [toC,lbr,lbr,lk];exact lbQ _
  conv=>whnf
  repeat' (first|refine zx ?_|refine qp mu1 ?_|refine qp mu2 ?_|refine qp ad ?_|refine qp toC ?_|refine d7 (I1 X hxk) ?_|refine d7 (I1 Y hyk) ?_|refine y9 lA (by simp [toC];omega) ?_|refine B4 _ (by decide +kernel) rfl ?_|refine zd ?_ ?_<;>intro h<;>try omega|fail)<;>conv=>whnf
  all_goals first
   |omega
   |(refine ⟨hlt,trivial,[some 0,some 5],rfl,rfl,⟨⟨rfl,rfl,rfl,.inl ⟨rfl,m9 _⟩⟩,b8 (rows:=(((V9 Y X t).take (k+1)).map fz).map j5) rfl rfl rfl ?_ rfl,trivial⟩,⟨rfl,rfl,rfl,⟨rfl,rfl,rfl⟩,⟨rfl,rfl,rfl,fun h=>h⟩,c6 (by omega),trivial⟩⟩
     rw [lbG,ah7 hxk hyk,Option.toList_some,lbC]
     exact a1A (f:=j5) (x:=fz (t*x+(((1:Int):Rat) - t)*y)) lk.symm)
 ·have hke:k=Y.length:=by omega
  subst hke
  rw [lbn (by rw [a1t];exact lbQ _)]
  conv=>whnf
  repeat' (first|refine zx ?_|refine zd ?_ ?_<;>intro h<;>try omega|fail)<;>conv=>whnf
  all_goals first
   |omega
   |exact J7 rfl (fun h=>h) rfl rfl (by simp [a1t])
theorem b2L {e:Ev} {G:List (List Rat)} (h0:m8 e=0) (sG:a2n e G) {p u:Nat} (hp:p<e.places.length) (hu:u<=e.moves.length):a1U e (hz G) p u=T6 e.mats.toNat (stk e G u p):=by
 unfold a1U
 rw [if_pos ⟨h0,b5s sG,by omega,by omega,by omega,by have:=sG.len;simp [hz];omega⟩,b5P]
 rfl
def a7X (e:Ev) (G:List (List Rat)) (m n:Nat):Rat:=i7 (fun p=>if C4 e p=true then 0 else stk e G e.moves.length p m) n
set_option maxHeartbeats 8000000 in
theorem b9k (e:Ev) (G:List (List Rat)) (hs:e.Sized) (h0:m8 e=0) (sG:a2n e G) (hS:a6a 200 (hz G)) (hm:e.moves.length<=8) (hp:e.places.length<=14):b7 Tryz.prog 27 [evS e,Z9 (hz G)] [] (f7 true) []:=by
 have i0:=D2 0 (by decide) (by decide)
 have hb:=a19 h0
 have gl:(hz G).length=e.moves.length:=by simp [hz,sG.len]
 have m1:((hz G).map L3).length=e.moves.length:=by rw [lbr,gl]
 have m2:(e.moves.map j6.row).length=e.moves.length:=by simp
 have m3:(e.places.map G2.row).length=e.places.length:=by simp
 have rG:=a6E hS
 have bG:∀i m,rl (hAt G i m)<=200:=b4s rG (by decide)
 have bL:∀m k,k<=8->rl (a0c e G m k)<=2000:=fun m k hk=>by
  have:=a0B (f:=fun i=>match e.moves[i]? with|some x=>if C4 e x.src=true then hAt G i m else 0|none=>0) (B:=200) k fun i hi=>by
   show rl (match e.moves[i]? with|some x=>if C4 e x.src=true then hAt G i m else 0|none=>0)<=200
   have h0:=rl0
   split
   ·split
    ·exact bG i m
    ·omega
   ·omega
  have h2:=lbT (200+1) hk
  exact lbR this (by omega)
 have bS:∀p m,rl (stk e G e.moves.length p m)<=2000:=fun p m=>by
  have:=aw8 (e:=e) rG (by decide) e.moves.length p m
  have h2:=lbT (200+1) hm
  omega
 have bT:∀m k,k<=14->rl (a7X e G m k)<=40000:=fun m k hk=>by
  have:=a0B (f:=fun p=>if C4 e p=true then 0 else stk e G e.moves.length p m) (B:=2000) k fun i hi=>by
   show rl (if C4 e i=true then 0 else stk e G e.moves.length i m)<=2000
   have h0:=rl0
   split
   ·omega
   ·exact bS i m
  have h2:=lbT (2000+1) hk
  exact lbR this (by omega)
 have kp:∀m,a7X e G m e.places.length=a0c e G m e.moves.length:=fun m=>b5R h0 G m e.moves.length
 (refine ac Tryz.func27 ?_;(conv=>whnf);repeat ((first|refine b0x ?_|refine zy ?_);conv=>whnf))
 repeat' (first|refine zx ?_|refine zd ?_ ?_<;>intro h<;>try omega|fail)<;>conv=>whnf
 refine f8 c7 (fun m=>([J,Z9 (hz G),S.c (C.t (T.ptr (evT e))),J,J,a8 .i64 m]++Jn 76,[])) e.mats.toNat (fun _=>True) [] trivial
  ⟨rfl,rfl,trivial,⟨rfl,rfl,rfl,trivial⟩⟩ ?_
 intro m hmm _
 by_cases hlt:m<e.mats.toNat
 ·conv=>whnf
  repeat' (first|refine zx ?_|refine qp i0 ?_|refine zd ?_ ?_<;>intro h<;>try omega|fail)<;>conv=>whnf
  all_goals try omega
  refine f8 c7 (fun i=>([J,Z9 (hz G),S.c (C.t (T.ptr (evT e))),J,J,a8 .i64 m,S.c (C.ptr 0 0 0),a8 .i64 i]++Jn 74,[frB (fz (a0c e G m i))])) e.moves.length (fun _=>True) [some 0] trivial
   ⟨rfl,rfl,⟨⟨rfl,rfl,rfl,.inl ⟨rfl,m9 _⟩⟩,trivial⟩,⟨rfl,rfl,rfl,⟨rfl,rfl,rfl⟩,rfl,trivial⟩⟩ ?_
  intro i hi _
  by_cases hil:i<e.moves.length
  ·obtain ⟨x,hx⟩:∃x,e.moves[i]? =some x:=⟨_,lbf hil⟩
   obtain ⟨l,hl⟩:∃l,G[i]? =some l:=⟨_,lbf (by have:=sG.len;omega)⟩
   have sr:=aN2 e hs x.src
   have eL:a0c e G m (i+1)=a0c e G m i+(match e.moves[i]? with|some x=>if C4 e x.src=true then hAt G i m else 0|none=>0):=rfl
   rw [hx] at eL
   have eL:a0c e G m (i+1)=a0c e G m i+(if C4 e x.src=true then hAt G i m else 0):=eL
   cases hsrc:C4 e x.src with
   |true=>
    rw [hsrc] at sr
    rw [hsrc,if_pos rfl] at eL
    obtain ⟨g,hg⟩:∃g,l[m]? =some g:=⟨_,lbf (by have:=sG.wid l (lbm hl);omega)⟩
    have el:G.getD i []=l:=by rw [lbl,hl];rfl
    have eg:hAt G i m=g:=by unfold hAt;rw [el,lbl,hg];rfl
    rw [eg] at eL
    have bg:=bG i m
    rw [eg] at bg
    have ad:=a0y (a0c e G m i) g (by have:=bL m i (by omega);omega) (by omega)
    rw [← eL] at ad
    have hl':(hz G)[i]? =some (l.map fz):=by unfold hz;rw [lba,hl];rfl
    conv=>whnf
    repeat' (first|refine zx ?_|refine qp sr ?_|refine qp ad ?_|refine d7 hx ?_|refine d7 hl' ?_|refine d7 (I1 l hg) ?_|refine B4 _ (by decide +kernel) rfl ?_|refine zd ?_ ?_<;>intro h<;>try omega|fail)<;>conv=>whnf
    all_goals first
     |omega
     |(exfalso;contradiction)
     |exact ⟨hil,trivial,[some 0],rfl,rfl,⟨⟨rfl,rfl,rfl,.inl ⟨rfl,m9 _⟩⟩,trivial⟩,⟨rfl,rfl,rfl,⟨rfl,rfl,rfl⟩,c6 (by omega),trivial⟩⟩
   |false=>
    rw [hsrc] at sr
    rw [hsrc,if_neg (by decide),Rat.add_zero] at eL
    conv=>whnf
    repeat' (first|refine zx ?_|refine qp sr ?_|refine d7 hx ?_|refine B4 _ (by decide +kernel) rfl ?_|refine zd ?_ ?_<;>intro h<;>try omega|fail)<;>conv=>whnf
    all_goals first
     |omega
     |(exfalso;contradiction)
     |exact ⟨hil,trivial,[some 0],rfl,rfl,⟨⟨rfl,rfl,rfl,.inl ⟨by rw [eL],m9 _⟩⟩,trivial⟩,⟨rfl,rfl,rfl,⟨rfl,rfl,rfl⟩,c6 (by omega),trivial⟩⟩
  ·have hie:i=e.moves.length:=by omega
   subst hie
   conv=>whnf
   repeat' (first|refine zx ?_|refine qp i0 ?_|refine zd ?_ ?_<;>intro h<;>try omega|fail)<;>conv=>whnf
   all_goals try omega
   refine f8 c7 (fun p=>([J,Z9 (hz G),S.c (C.t (T.ptr (evT e))),J,J,a8 .i64 m,S.c (C.ptr 0 0 0),J,S.c (C.ptr 1 0 0),a8 .i64 p]++Jn 72,[frB (fz (a0c e G m e.moves.length)),frB (fz (a7X e G m p))])) e.places.length (fun _=>True) [some 0,some 1] trivial
    ⟨rfl,rfl,⟨⟨rfl,rfl,rfl,.inl ⟨rfl,m9 _⟩⟩,⟨rfl,rfl,rfl,.inl ⟨rfl,m9 _⟩⟩,trivial⟩,⟨rfl,rfl,rfl,⟨rfl,rfl,rfl⟩,⟨rfl,rfl,rfl⟩,rfl,trivial⟩⟩ ?_
   intro p hp' _
   by_cases hpl:p<e.places.length
   ·have st:=b64 e (hz G) p e.moves.length hs hS
    rw [b2L h0 sG hpl (lbQ _)] at st
    have st2:b7 Tryz.prog 79 [evS e,Z9 (hz G),a8 .i64 p,a8 .i64 ((e.moves.map j6.row).length:Nat)] [] (j7 (T6 e.mats.toNat (stk e G e.moves.length p))) []:=by rw [m2];exact st
    have sr:=aN2 e hs p
    have rfl':((T6 e.mats.toNat (stk e G e.moves.length p)).map j5).length=e.mats.toNat:=by simp [T6]
    have gp:(T6 e.mats.toNat (stk e G e.moves.length p))[m]? =some (fz (stk e G e.moves.length p m)):=by unfold T6;rw [lba,lbh hlt];rfl
    have eT:a7X e G m (p+1)=a7X e G m p+(if C4 e p=true then 0 else stk e G e.moves.length p m):=rfl
    cases hsrc:C4 e p with
    |true=>
     rw [hsrc] at sr
     rw [hsrc,if_pos rfl,Rat.add_zero] at eT
     conv=>whnf
     repeat' (first|refine zx ?_|refine qp st ?_|refine qp st2 ?_|refine qp sr ?_|refine B4 _ (by decide +kernel) rfl ?_|refine zd ?_ ?_<;>intro h<;>try omega|fail)<;>conv=>whnf
     all_goals first
      |omega
      |(exfalso;contradiction)
      |exact ⟨hpl,trivial,[some 0,some 1],rfl,rfl,⟨⟨rfl,rfl,rfl,.inl ⟨rfl,m9 _⟩⟩,⟨rfl,rfl,rfl,.inl ⟨by rw [eT],m9 _⟩⟩,trivial⟩,⟨rfl,rfl,rfl,⟨rfl,rfl,rfl⟩,⟨rfl,rfl,rfl⟩,c6 (by omega),trivial⟩⟩
    |false=>
     rw [hsrc] at sr
     rw [hsrc,if_neg (by decide)] at eT
     have ad:=a0y (a7X e G m p) (stk e G e.moves.length p m) (by have:=bT m p (by omega);omega) (by have:=bS p m;omega)
     rw [← eT] at ad
     conv=>whnf
     repeat' (first|refine zx ?_|refine qp st ?_|refine qp st2 ?_|refine qp sr ?_|refine qp ad ?_|refine d7 gp ?_|refine B4 _ (by decide +kernel) rfl ?_|refine zd ?_ ?_<;>intro h<;>try omega|fail)<;>conv=>whnf
     all_goals first
      |omega
      |(exfalso;contradiction)
      |exact ⟨hpl,trivial,[some 0,some 1],rfl,rfl,⟨⟨rfl,rfl,rfl,.inl ⟨rfl,m9 _⟩⟩,⟨rfl,rfl,rfl,.inl ⟨rfl,m9 _⟩⟩,trivial⟩,⟨rfl,rfl,rfl,⟨rfl,rfl,rfl⟩,⟨rfl,rfl,rfl⟩,c6 (by omega),trivial⟩⟩
   ·have hpe:p=e.places.length:=by omega
    subst hpe
    rw [kp m]
    have sm:=a7g (fz (a0c e G m e.moves.length)) (by have:=bL m e.moves.length hm;have:=J3 (a0c e G m e.moves.length);show bl (a0c e G m e.moves.length).num<=_;omega) (by have:=bL m e.moves.length hm;have:=K0 (a0c e G m e.moves.length);show bl (a0c e G m e.moves.length).den<=_;omega)
    conv=>whnf
    repeat' (first|refine zx ?_|refine qp sm ?_|refine zd ?_ ?_<;>intro h<;>try omega|fail)<;>conv=>whnf
    all_goals first
     |omega
     |(exfalso;contradiction)
     |exact ⟨hlt,trivial,[],rfl,rfl,trivial,⟨rfl,rfl,c6 (by omega),trivial⟩⟩
 ·have hke:m=e.mats.toNat:=by omega
  subst hke
  conv=>whnf
  repeat' (first|refine zx ?_|refine zd ?_ ?_<;>intro h<;>try omega|fail)<;>conv=>whnf
  all_goals first
   |omega
   |exact c9 rfl
def a4T (e:Ev) (hh:List (List Fr)):Bool:=decide (hh.length=e.moves.length) && hh.all fun l=>decide ((l.length:Int)=e.mats)
theorem ax4 {e:Ev} {hh:List (List Fr)} (hc:m8 e=0) (h:a4T e hh=true):aW8 e hh=hh.flatten:=by
 unfold a4T at h
 simp only [lbM,lbI,lbv] at h
 unfold aW8
 rw [if_neg]
 rintro (h1|h1|h1)
 ·exact h1 hc
 ·exact h1 h.1
 ·obtain ⟨l,hl,hn⟩:=lbw.1 h1
  simp only [lbI] at hn
  exact hn (h.2 l hl)
theorem aX1 {e:Ev} {hh:List (List Fr)} (h:a4T e hh=true):P9 e hh=hh.flatten.all C9:=by
 unfold a4T at h
 simp only [lbM,lbI,lbv] at h
 unfold P9
 rw [h.1,Bool.eq_iff_iff]
 simp only [lbM,lbI,lbv,List.mem_flatten]
 constructor
 ·rintro ⟨_,h2⟩ f ⟨l,hl,hf⟩
  exact (h2 l hl).2 f hf
 ·intro h2
  exact ⟨by simp,fun l hl=>⟨h.2 l hl,fun f hf=>h2 f ⟨l,hl,hf⟩⟩⟩
theorem b5l {e:Ev} {hh:List (List Fr)} (hc:m8 e=0) (hm:e.moves.length<=8) (hp:e.purities.length<=20) (h:a4T e hh=true):W6 e hh=0↔b6K (C3 e) hh.flatten=true:=by
 have hs:=aX1 h
 unfold W6
 rw [if_neg (by omega)]
 cases hr:hh.flatten.all C9 with
 |false=>
  rw [hr] at hs
  rw [hs]
  unfold b6K
  rw [hr]
  simp
 |true=>
  rw [hr] at hs
  rw [hs,if_pos rfl]
  unfold b6K
  rw [hr,Bool.true_and]
  have hf:hh.flatten.map fv=(hh.map (·.map fv)).flatten:=by rw [List.map_flatten]
  rw [hf]
  unfold a4T at h
  simp only [lbM,lbI,lbv] at h
  refine (ba4 hc ⟨by rw [lbr];exact h.1,fun l hl=>?_⟩ hm hp).symm
  obtain ⟨l',hl',rfl⟩:=lbx.1 hl
  rw [lbr];exact h.2 l' hl'
theorem aD6 (c N:Nat) (x:List Fr):F8 c (N+1) x=x.take c::F8 c N (x.drop c):=by
 unfold F8
 rw [List.range_succ_eq_map,List.map_cons,List.map_map,Nat.zero_mul,List.drop_zero]
 congr 1
 refine lbp fun i _=>?_
 show ((x.drop ((i+1)*c)).take c)=_
 rw [List.drop_drop,lbU,Nat.add_comm c (i*c)]
theorem a47 {c:Nat}:∀{N:Nat} {x:List Fr},x.length=N*c->(F8 c N x).flatten=x
 |0,x,h=>by
  have:x=[]:=lbF (by omega)
  subst this;rfl
 |N+1,x,h=>by
  rw [aD6,List.flatten_cons,a47 (by rw [List.length_drop,h,lbU];omega),lb7]
theorem ab3 {c N:Nat} {x:List Fr} (h:x.length=N*c):∀l ∈ F8 c N x,l.length=c:=by
 intro l hl
 obtain ⟨i,hi,rfl⟩:=lbx.1 (show l ∈ (List.range N).map _ from hl)
 exact aq2 h (lbB.1 hi)
theorem a6K {e:Ev} {x:List Fr} (h0:0<=e.mats) (h:x.length=e.moves.length*e.mats.toNat):a4T e (F8 e.mats.toNat e.moves.length x)=true:=by
 unfold a4T
 simp only [lbM,lbI,lbv]
 exact ⟨aa7 _ _ _,fun l hl=>by have:=ab3 h l hl;omega⟩
theorem aO5 {n m:Nat} {c:Int} (h0:0<=c) (h:(n:Int)=(m:Int)*c):n=m*c.toNat:=by
 obtain ⟨k,rfl⟩:=Int.eq_ofNat_of_zero_le h0
 rw [lbX]
 exact_mod_cast h
theorem aQ7 {e:Ev} {x:List Fr} (hc:m8 e=0) (h0:0<=e.mats) (h:(x.length:Int)=(e.moves.length:Int)*e.mats):a9c e x=F8 e.mats.toNat e.moves.length x∧(a9c e x).length=e.moves.length∧aW8 e (a9c e x)=x:=by
 have hx:=aO5 h0 h
 have e1:a9c e x=F8 e.mats.toNat e.moves.length x:=by
  unfold a9c;rw [if_neg (by omega)]
 rw [e1]
 refine ⟨rfl,aa7 _ _ _,?_⟩
 rw [ax4 hc (a6K h0 hx),a47 hx]
theorem b3O {e:Ev} {z:List Rat} (hm:0<=e.mats) (hl:(z.length:Int)=(e.moves.length:Int)*e.mats) {p:D8} (hp:a0u e p=true):U7 (F8 e.mats.toNat e.moves.length (z.map fz)) p=some (z.getD (O8 e p).toNat 0):=by
 have hv:=b1f hp hm
 unfold a0u at hp
 simp only [lbM,lbI] at hp
 obtain ⟨i,hi⟩:∃i:Nat,p.mv=i:=⟨p.mv.toNat,by omega⟩
 obtain ⟨m,hm'⟩:∃m:Nat,p.mat=m:=⟨p.mat.toNat,by omega⟩
 obtain ⟨c,hc⟩:∃c:Nat,e.mats=c:=⟨e.mats.toNat,by omega⟩
 unfold O8 at hv ⊢
 rw [hi,hm',hc] at hv ⊢
 have e1:((i:Int)*(c:Int)+(m:Int)).toNat=i*c+m:=by
  have:(i:Int)*(c:Int)+(m:Int)=((i*c+m:Nat):Int):=by simp
  rw [this];rfl
 have hlt:i*c+m<z.length:=by
  have h1:((i*c+m:Nat):Int)<(z.length:Int):=by rw [hl,hc];simpa using hv.2
  omega
 have g1:(F8 c e.moves.length (z.map fz)).getD i []=((z.map fz).drop (i*c)).take c:=by
  unfold F8
  rw [lbl,lba,lbh (by omega)];rfl
 have g2:(((z.map fz).drop (i*c)).take c)[m]? =some (fz (z.getD (i*c+m) 0)):=by
  rw [lbi,if_pos (by omega),lbj,lba,lbf hlt,lbl,lbf hlt];rfl
 unfold U7
 rw [hi,hm',if_pos (by omega),e1]
 simp only [lbX]
 rw [g1,g2]
 simp only
 rw [if_pos (a2P _),b4I]
theorem aF9 {e:Ev} {z:List Rat} (hm:0<=e.mats) (hl:(z.length:Int)=(e.moves.length:Int)*e.mats):∀(ps:List D8) (a:Rat),ps.all (a0u e)=true->a1y (F8 e.mats.toNat e.moves.length (z.map fz)) a ps=some (a+b5z z (ps.map (O8 e)))
 |[],a,_=>by show some a=some (a+0);congr 1;grind
 |p::r,a,h=>by
  rw [List.all_cons,lbM] at h
  unfold a1y
  rw [b3O hm hl h.1]
  simp only
  rw [aF9 hm hl r _ h.2]
  show some _=some (a+(_+_))
  congr 1;grind
theorem b2Q {e:Ev} {ps:List D8} {z:List Rat} (h:G7 e ps=true) (hl:(z.length:Int)=(e.moves.length:Int)*e.mats):a1y (F8 e.mats.toNat e.moves.length (z.map fz)) 0 ps=some (j1 (x8 e ps) z):=by
 have h2:=h
 unfold G7 at h2
 simp only [lbM,lbI] at h2
 rw [b3y h,aF9 (by have:=(B5 h2.1.1).1;omega) hl ps 0 h2.1.2]
 congr 1;grind

theorem a9x {e:Ev} {ps:List D8} {m:Int} (h:a5M e ps m 2=true) (hm:m<=5):EvT e∧e.places.length<=12∧(e.moves.length:Int)<=m∧ps.length<=20∧e.purities.length<=3:=by
 unfold a5M a73 at h
 simp only [lbM,lbI] at h
 have hs:e.Sized:=⟨by omega,by omega,by omega,by omega,by omega⟩
 refine ⟨⟨hs,fun hc=>?_,?_⟩,by omega,by omega,by omega,by omega⟩
 ·obtain ⟨b1,b2,b3,b4⟩:=B5 hc
  refine ⟨hs,b1,b2,by omega,by omega,fun x hx=>?_,fun p hp=>?_⟩
  ·have:=O2 hc hx
   unfold O0 idx at this
   simp only [lbM,lbI] at this
   omega
  ·have hs:=(V6 hc).2.2.2.2.2.2
   unfold V4 at hs
   simp only [lbM] at hs
   have:=lbv.1 hs.2 p hp
   unfold Y6 idx at this
   simp only [lbM,lbI] at this
   omega
 ·have h1:e.mats<=2:=by omega
  have h2:=lbV h1 (show (0:Int)<=(e.moves.length:Int) by omega)
  omega
theorem b8Y {p q:Int} (p0:0<=p) (q1:q<=65535) (hq:0<q) (hpq:p<=q):rl (Rat.divInt p q)<=1∧0<=Rat.divInt p q∧Rat.divInt p q<=1:=by
 refine ⟨lbR (a1l (by omega)) (Nat.max_le.2 ⟨Q3 (by omega) (by omega),Q3 (by omega) (by omega)⟩),?_,?_⟩
 ·exact Rat.divInt_nonneg p0 (by omega)
 ·have h1:=Rat.divInt_nonneg (show 0<=q - p by omega) (show 0<=q by omega)
  have h0:((q:Int):Rat)≠0:=by
   intro h0
   have:q=0:=by exact_mod_cast h0
   omega
  have h2:=Rat.mul_inv_cancel _ h0
  rw [Rat.divInt_eq_div,Rat.div_def,Rat.intCast_sub] at h1
  rw [Rat.divInt_eq_div,Rat.div_def]
  grind
theorem ba5 {X Y:List Rat} {t:Rat} (hl:X.length=Y.length) (hx:∀v ∈ X,rl v<=15) (hy:∀v ∈ Y,rl v<=15) (ht:rl t<=1):∀v ∈ V9 Y X t,rl v<=50:=by
 intro v hv
 obtain ⟨k,hk⟩:=List.getElem?_of_mem hv
 have hk':=(lbe.1 hk).1
 rw [a1t] at hk'
 obtain ⟨x,hxk⟩:∃x,X[k]? =some x:=⟨_,lbf (by omega)⟩
 obtain ⟨y,hyk⟩:∃y,Y[k]? =some y:=⟨_,lbf hk'⟩
 rw [ah7 hxk hyk] at hk
 injection hk with hk
 subst hk
 have b1:=hx x (lbm hxk)
 have b2:=hy y (lbm hyk)
 have b3:rl ((1:Int):Rat)<=5:=by decide +kernel
 have h1:=V8 t x
 have h2:=a8m ((1:Int):Rat) t
 have h3:=V8 (((1:Int):Rat) - t) y
 have h4:=a0q (t*x) ((((1:Int):Rat) - t)*y)
 omega
theorem b3R {x y t:Rat}:V9 [y] [x] t=[t*x+(1 - t)*y]:=by
 have h:=ah7 (X:=[x]) (Y:=[y]) (t:=t) (k:=0) rfl rfl
 have hl:=a1t (x:=[y]) (y:=[x]) (t:=t)
 match he:V9 [y] [x] t,hl with
 |[a],_=>
  rw [he] at h
  have h:a=_:=Option.some.inj h
  rw [h];rfl
theorem b5H {e:Ev} {ps:List D8} {z:List Rat} (hE:EvT e) (hg:G7 e ps=true) (hm:e.moves.length<=4) (hv:i4 (C3 e) z=true) (hb:∀v ∈ z,rl v<=50):
 ∃G,a9c e (z.map fz)=hz G∧a2n e G∧a6a 200 (hz G)∧W6 e (hz G)=0∧a1y (hz G) zR ps=some (j1 (x8 e ps) z):=by
 have hc:=a3o hg
 have hcb:=B5 hc
 have hs:=hE.sm hc
 have hn:=O7 (F5 hv).1
 have hl:=(F5 hv).2
 have hlz:(z.length:Int)=(e.moves.length:Int)*e.mats:=by
  have:(C3 e).n=(e.moves.length:Int)*e.mats:=rfl
  omega
 have hlx:((z.map fz).length:Int)=(e.moves.length:Int)*e.mats:=by rw [lbr];exact hlz
 obtain ⟨e1,_,_⟩:=aQ7 hc (by omega) hlx
 have hx:=aO5 (by omega) hlx
 have sh:=a6K (e:=e) (by omega) hx
 have fl:=a47 hx
 have hk:W6 e (F8 e.mats.toNat e.moves.length (z.map fz))=0:=by
  rw [b5l hc hs.mv hs.pu sh,fl]
  unfold b6K
  rw [b9i,hv,Bool.and_true]
  rw [lbv]
  intro f hf
  obtain ⟨v,_,rfl⟩:=lbx.1 hf
  exact a2P v
 obtain ⟨_,sp,_⟩:=ab7 hk
 obtain ⟨G,eG,sG⟩:=a3V sp
 have ms:=b2Q hg hlz
 rw [e1]
 rw [eG] at hk ms sh ⊢
 refine ⟨G,rfl,sG,⟨?_,?_,?_⟩,hk,ms⟩
 ·have:(hz G).length=e.moves.length:=by simp [hz,sG.len]
  omega
 ·intro l hl
  have h1:=ab3 hx l (by rw [eG];exact hl)
  omega
 ·intro l hl f hf
  have h1:f ∈ z.map fz:=by rw [← fl,eG];exact List.mem_flatten.2 ⟨l,hl,hf⟩
  obtain ⟨v,hv',rfl⟩:=lbx.1 h1
  have b:=hb v hv'
  have n1:=J3 v
  have n2:=K0 v
  exact ⟨by show bl v.num<=_;omega,by show bl v.den<=_;omega⟩
theorem aW7 {x y t:Rat} (hx:rl x<=5000) (hy:rl (-y)<=5000) (ht:rl t<=1):rl (t*x+(1 - t)*y)<=11000:=by
 rw [S8] at hy
 have b3:rl (1:Rat)<=5:=by decide +kernel
 have h1:=V8 t x
 have h2:=a8m 1 t
 have h3:=V8 (1 - t) y
 have h4:=a0q (t*x) ((1 - t)*y)
 omega
abbrev b21:C:=E3 (Value.slice none 0 0)
abbrev be4:List C:=[E3 (Value.int .i64 0),E3 (Value.int .i64 0),b21,E3 (Value.int .i64 0),b21,b21,b21,b21]
theorem T0 {n:Nat}:a5X b21 (.t (.sl n .any [])):=fun w M v hr=>hr.weak rfl
theorem a5u {P:Program} {g:FuncId} {H H':Hp} {r a b c d:S} (h:b7 P g [a,b,a07 a89 a89,c,d] H r H'):b7 P g [a,b,.agg (be4++be4),c,d] H r H':=
 a6l h ⟨a1o a,a1o b,⟨X0 _,X0 _,T0,X0 _,T0,T0,T0,T0,X0 _,X0 _,T0,X0 _,T0,T0,T0,T0,trivial⟩,a1o c,a1o d,trivial⟩
theorem b3v {P:Program} {g:FuncId} {H H':Hp} {r c:S} {x y:Fr} (h:b7 P g [j7 [x],j7 [y],c] H r H'):b7 P g [.c (.t (.sl 4 .full [j5 x])),.c (.t (.sl 4 .full [j5 y])),c] H r H':=
 a6l h ⟨fun w M v hr=>hr.weak rfl,fun w M v hr=>hr.weak rfl,a1o c,trivial⟩
set_option maxHeartbeats 4000000 in
theorem a9F (e:Ev) (ps:List D8) (p q:Int) (hf:a5M e ps 4 2=false∨e.purities.length > 2∨q=0∨p > q):b7 Tryz.prog 4 [evS e,F6 ps,a8 .u16 p,a8 .u16 q] [] (f7 true) []:=by
 have wl:=a9H
 have fw:=a5u (aw4 e ps 4 2)
 have l5:(e.purities.map s9.row).length=e.purities.length:=by simp
 cases hk:a5M e ps 4 2 with
 |false=>
  rw [hk] at fw
  (refine ac Tryz.func4 ?_;(conv=>whnf);repeat ((first|refine b0x ?_|refine zy ?_);conv=>whnf))
  repeat' (first|refine zx ?_|refine qp wl ?_|refine qp fw ?_|refine zd ?_ ?_<;>intro h<;>try omega|fail)<;>conv=>whnf
  all_goals first
   |exact c9 rfl
 |true=>
  rw [hk] at fw
  have hf:e.purities.length > 2∨q=0∨p > q:=by
   rcases hf with hf|hf
   ·rw [hk] at hf;cases hf
   ·exact hf
  (refine ac Tryz.func4 ?_;(conv=>whnf);repeat ((first|refine b0x ?_|refine zy ?_);conv=>whnf))
  repeat' (first|refine zx ?_|refine qp wl ?_|refine qp fw ?_|refine zd ?_ ?_<;>intro h<;>try omega|fail)<;>conv=>whnf
  all_goals first
   |exact c9 rfl
   |(exfalso;(try dsimp only at *);omega)
set_option maxHeartbeats 4000000 in
theorem b6E (e:Ev) (ps:List D8) (p q:Int) (hk:a5M e ps 4 2=true) (hp:e.purities.length<=2) (p0:0<=p) (q1:q<=65535) (hq:0<q) (hpq:p<=q) (hg:G7 e ps=false):b7 Tryz.prog 4 [evS e,F6 ps,a8 .u16 p,a8 .u16 q] [] (f7 true) []:=by
 have wl:=a9H
 have fw:=a5u (aw4 e ps 4 2)
 have l5:(e.purities.map s9.row).length=e.purities.length:=by simp
 obtain ⟨hE,_,hm,hps,_⟩:=a9x hk (by decide)
 rw [hk] at fw
 have wr:=a7k e hE ps (by omega) hg
 (refine ac Tryz.func4 ?_;(conv=>whnf);repeat ((first|refine b0x ?_|refine zy ?_);conv=>whnf))
 repeat' (first|refine zx ?_|refine qp wl ?_|refine qp fw ?_|refine qp wr ?_|refine zd ?_ ?_<;>intro h<;>try omega|fail)<;>conv=>whnf
 all_goals first
  |exact c9 rfl
  |(exfalso;(try dsimp only at *);omega)
set_option maxHeartbeats 4000000 in
theorem b7B (e:Ev) (ps:List D8) (p q:Int) (hk:a5M e ps 4 2=true) (hp:e.purities.length<=2) (p0:0<=p) (q1:q<=65535) (hq:0<q) (hpq:p<=q) (hg:G7 e ps=true) (hn:∀z,i4 (C3 e) z=false)
 (wr:b7 Tryz.prog 18 [evS e,F6 ps] [] (.tup [a07 a89 a89,a8 .i64 15]) []):b7 Tryz.prog 4 [evS e,F6 ps,a8 .u16 p,a8 .u16 q] [] (f7 true) []:=by
 have wl:=a9H
 have fw:=a5u (aw4 e ps 4 2)
 have l5:(e.purities.map s9.row).length=e.purities.length:=by simp
 obtain ⟨hE,_,hm,hps,_⟩:=a9x hk (by decide)
 rw [hk] at fw
 have po:=a5L e hE (.inr hn)
 (refine ac Tryz.func4 ?_;(conv=>whnf);repeat ((first|refine b0x ?_|refine zy ?_);conv=>whnf))
 repeat' (first|refine zx ?_|refine qp wl ?_|refine qp fw ?_|refine qp wr ?_|refine qp po ?_|refine zd ?_ ?_<;>intro h<;>try omega|fail)<;>conv=>whnf
 all_goals first
  |exact c9 rfl
  |(exfalso;(try dsimp only at *);omega)
set_option maxHeartbeats 8000000 in
theorem b83 (e:Ev) (ps:List D8) (p q:Int) (hk:a5M e ps 4 2=true) (hp:e.purities.length<=2) (p0:0<=p) (q1:q<=65535) (hq:0<q) (hpq:p<=q) (hg:G7 e ps=true) (lo hi:a26) (hr:a3n (C3 e) (x8 e ps) lo hi)
 (wr:b7 Tryz.prog 18 [evS e,F6 ps] [] (.tup [a07 lo hi,a8 .i64 0]) []):b7 Tryz.prog 4 [evS e,F6 ps,a8 .u16 p,a8 .u16 q] [] (f7 true) []:=by
 have wl:=a9H
 have fw:=a5u (aw4 e ps 4 2)
 have l5:(e.purities.map s9.row).length=e.purities.length:=by simp
 obtain ⟨hE,hpl,hm,hps,_⟩:=a9x hk (by decide)
 rw [hk] at fw
 have hc:=a3o hg
 have hT:=hE.t hc
 have gr:=ay0 hE hc (ps:=ps)
 have gw:=a3G e ps
 have gp:∀t ∈ x8 e ps,0<=t.2:=aF1 e ps
 have hsn:=O7 hT.r
 have h10:=hT.n
 have bd:=aE4 hT gr gw hr
 have fo:=b8w p q (by omega) (by omega) (by omega) (by omega) (by omega)
 obtain ⟨t1,t0,t2⟩:=b8Y p0 q1 hq hpq
 obtain ⟨mh,k0,mle,mv⟩:=b2F hr gr gp t0 t2
 have ll:=(F5 (a1N hr.lo hr.l1)).2
 have lh:=(F5 (a1N hr.hi hr.h1)).2
 have mx:=b0h lo.X hi.X (Rat.divInt p q) (by omega) (by omega) (fun v hv=>by have:=hr.lo.bx v hv;omega) (fun v hv=>by have:=hr.hi.bx v hv;omega) (by omega)
 have mb:=ba5 (X:=lo.X) (Y:=hi.X) (by omega) hr.lo.bx hr.hi.bx t1
 obtain ⟨G,eh,sG,smG,ck,ms⟩:=b5H hE hg (by omega) mh mb
 have eH:=b7C e hE.sz hE.sm ((V9 hi.X lo.X (Rat.divInt p q)).map fz) (by rw [lbr,a1t];omega)
 rw [eh] at eH
 have hcb:=B5 hc
 have hlr:(C3 e).rows.length<=78:=by
  have h2:=a4l hcb.2.1 e.moves.length
  have h3:e.moves.length*(8+2*e.purities.length)<=4*12:=lbS (by omega) (by omega)
  show ((a0M e e.moves.length).map Prod.fst).length<=78
  rw [lbr];omega
 have pr:=aP1 e hE ps (by omega) hg hlr lo hi hr
 have cH:=b4e e (hz G) hE.sz smG
 rw [ck] at cH
 have kp:=b9k e G hE.sz hc sG smG (by omega) (by omega)
 have hM:=b6G (hz G) ps smG (by omega)
 rw [ms] at hM
 obtain ⟨r1,r2⟩:=aO1 hT gr gw hr
 have ev:aj8 (x8 e ps) lo=some (j1 (x8 e ps) lo.X):=by unfold aj8;rw [if_pos k0]
 rw [ev] at bd
 rw [a0J (s:=C3 e) (g:=x8 e ps)] at r2
 have rv:=aW7 r1 r2 t1
 rw [← mv] at rv
 have cm:=G6 (j1 (x8 e ps) (V9 hi.X lo.X (Rat.divInt p q))) (j1 (x8 e ps) lo.X) (by omega) (by omega)
 have cg:a1j (j1 (x8 e ps) (V9 hi.X lo.X (Rat.divInt p q))) (j1 (x8 e ps) lo.X)≥0:=by
  rcases Int.lt_or_le (a1j (j1 (x8 e ps) (V9 hi.X lo.X (Rat.divInt p q))) (j1 (x8 e ps) lo.X)) 0 with hlt|hle
  ·have:=a5j.1 hlt;grind
  ·exact hle
 by_cases kh:hi.kind=0
 ·rw [aI1 hr kh] at bd
  have mx2:=b0h [j1 (x8 e ps) lo.X] [j1 (x8 e ps) hi.X] (Rat.divInt p q) rfl (show 1<=100 by decide) (fun v hv=>by rw [List.mem_singleton.1 hv];omega) (fun v hv=>by rw [List.mem_singleton.1 hv];rw [S8] at r2;omega) (by omega)
  rw [b3R,←mv] at mx2
  have mx3:=b3v mx2
  have sa:=a7g (fz (j1 (x8 e ps) (V9 hi.X lo.X (Rat.divInt p q)))) (by have:=J3 (j1 (x8 e ps) (V9 hi.X lo.X (Rat.divInt p q)));show bl _<=_;omega) (by have:=K0 (j1 (x8 e ps) (V9 hi.X lo.X (Rat.divInt p q)));show bl ((_:Nat):Int)<=_;omega)
  (refine ac Tryz.func4 ?_;(conv=>whnf);repeat ((first|refine b0x ?_|refine zy ?_);conv=>whnf))
  repeat' (first|refine zx ?_|refine qp wl ?_|refine qp fw ?_|refine qp wr ?_|refine qp bd ?_|refine qp fo ?_|refine qp mx ?_|refine qp eH ?_|refine qp pr ?_|refine qp cH ?_|refine qp kp ?_|refine qp hM ?_|refine qp cm ?_|refine qp sa ?_|refine qp mx3 ?_|refine ⟨j5 (fz (j1 (x8 e ps) (V9 hi.X lo.X (Rat.divInt p q)))),by decide,rfl,?_⟩|refine B4 _ (by decide +kernel) rfl ?_|refine zd ?_ ?_<;>intro h<;>try omega|fail)<;>conv=>whnf
  all_goals first
   |exact c9 rfl
   |(exfalso;(try dsimp only at *);omega)
   |(exfalso;cases h;done)
   |(exfalso;exact h rfl)
 ·have hv:a7j (x8 e ps) hi=none:=by unfold a7j aj8;rw [if_neg kh];rfl
  rw [hv] at bd
  (refine ac Tryz.func4 ?_;(conv=>whnf);repeat ((first|refine b0x ?_|refine zy ?_);conv=>whnf))
  repeat' (first|refine zx ?_|refine qp wl ?_|refine qp fw ?_|refine qp wr ?_|refine qp bd ?_|refine qp fo ?_|refine qp mx ?_|refine qp eH ?_|refine qp pr ?_|refine qp cH ?_|refine qp kp ?_|refine qp hM ?_|refine qp cm ?_|refine B4 _ (by decide +kernel) rfl ?_|refine zd ?_ ?_<;>intro h<;>try omega|fail)<;>conv=>whnf
  all_goals first
   |exact c9 rfl
   |(exfalso;(try dsimp only at *);omega)
   |(exfalso;cases h;done)
theorem a9T (e:Ev) (ps:List D8) (p q:Int) (p0:0<=p) (p1:p<=65535) (q0:0<=q) (q1:q<=65535):b7 Tryz.prog 4 [evS e,F6 ps,a8 .u16 p,a8 .u16 q] [] (f7 true) []:=by
 by_cases hk:a5M e ps 4 2=true
 ·by_cases hp:e.purities.length<=2
  ·by_cases hq:q=0
   ·exact a9F e ps p q (.inr (.inr (.inl hq)))
   ·by_cases hpq:p<=q
    ·cases hg:G7 e ps with
     |false=>exact b6E e ps p q hk hp p0 q1 (by omega) hpq hg
     |true=>
      obtain ⟨hE,_,_,hps,_⟩:=a9x hk (by decide)
      rcases a6X e hE ps (by omega) hg with ⟨hn,wr⟩|⟨lo,hi,hr,wr⟩
      ·exact b7B e ps p q hk hp p0 q1 (by omega) hpq hg hn wr
      ·exact b83 e ps p q hk hp p0 q1 (by omega) hpq hg lo hi hr wr
    ·exact a9F e ps p q (.inr (.inr (.inr (by omega))))
  ·exact a9F e ps p q (.inr (.inl (by omega)))
 ·exact a9F e ps p q (.inl (by simpa using hk))
section
open Go.RowKit Go.ChangeShapes Go.WideShapes Go.Deep
section
variable {H:Type} {enc:TypeId × Value->H} {P:Program}
theorem al4 (hl:laidOutB P=true) {W W':World} {sp:Nat->Bool}:∀{ts:List TypeId} {vs:List Value} {ds:List (DataW H)} {ps:List MemPlace},(∀ t ∈ ts,P.readableRec t=true∧t<P.types.size)->
 DataW.TrodAll enc P W 0 (fun _=>true) true ts vs ds ps->(∀ p ∈ ps,W.sameAt W' p)->(∀ p ∈ ps,sp p.block=true)->DataW.TrodAll enc P W' 0 sp true ts vs ds ps:=by
 intro ts
 induction ts with
 |nil=>
  intro vs ds ps _ h _ _
  obtain ⟨rfl,rfl,rfl⟩:=trodAll_nil h
  exact trodAll_mk0
 |cons t ts ih=>
  intro vs ds ps hr h hsame hs
  obtain ⟨v,vs',d,ds',p,q,rfl,rfl,rfl,h1,h2⟩:=trodAll_cons h
  obtain ⟨ht,hlt⟩:=hr t (by simp)
  exact trodAll_cons_mk (WideElems.Trod_stays hl ht hlt h1 (fun x hx=>hsame x (by simp [hx])) (fun x hx=>hs x (by simp [hx]))) (ih (fun t ht=>hr t (by simp [ht])) h2 (fun x hx=>hsame x (by simp [hx])) (fun x hx=>hs x (by simp [hx])))
theorem b5j {f:Func} {s:ChangeSpec} {fresh handsOn:Bool} {W W':World} {args:Array Value} {ds gs:List (DataW H)} {before:List MemPlace} {tb:TypeId}
 (hW:DataW.Whole enc P f.params.toList s.vars false W args.toList ds gs before) (hl:laidOutB P=true) (hr:∀t ∈ f.params.toList,P.readableRec t=true∧t<P.types.size) (hv:s.vars=[])
 (hfn:s.fn H (ds++gs)={ results:=[.lit (.bool true)],args:=ds }) (hres:f.resultTypes=#[tb]) (hbool:P.underlying tb=some .bool) (hb:Below W.heap.size W W'):
 s.post enc P f false fresh handsOn false W args (.bool true) W':=by
 have hW':=hW
 obtain ⟨p,q,hA,hV,rfl,hfz,hnd⟩:=hW
 rw [hv] at hV
 obtain ⟨rfl,rfl⟩:=trodVars_none hV
 have hlt:∀x ∈ p,x.block<W.heap.size:=fun x hx=>by have:=hW'.lt x (by simpa using hx);simpa using this
 refine ⟨ds,[],p++[],[],p,[],hW',?_,?_,?_,hb.frame _,fun h=>by cases h⟩
 ·rw [hfn,hres]
  exact trodAll_mk1 (shut_bool hbool true)
 ·rw [hfn]
  exact al4 hl hr hA (fun x hx=>hb.same (hlt x hx)) (fun x hx=>by simpa using hlt x hx)
 ·rw [hv,hfn]
  exact rfl
theorem Rd.of_each {α:Type} {k:Nat} {f:α->List Value} {w:World} {b off:Nat}:∀(n:Nat),(∀ i,i<n->∃x:α,∀j u,(f x)[j]? =some u->w.cell? ⟨b,off+(i*k+j),none⟩=some u)->∃xs,Rd k f w (some ⟨b,off,none⟩) n xs:=by
 intro n
 induction n with
 |zero=>intro _;exact ⟨[],Rd.nil _⟩
 |succ n ih=>
  intro h
  obtain ⟨xs,hx⟩:=ih (fun i hi=>h i (by omega))
  obtain ⟨x,hxn⟩:=h n (by omega)
  have hl:=hx.len
  refine ⟨xs++[x],by simp [← hl],fun _=>⟨b,off,rfl,fun i y hy j u hu=>?_⟩⟩
  by_cases hi:i<xs.length
  ·rw [lbb hi] at hy
   obtain ⟨b',off',e,hc⟩:=hx.2 (by omega)
   injection e with e
   injection e with e1 e2
   subst e1 e2
   exact hc i y hy j u hu
  ·have hi2:i=n:=by
    have:=(lbe.1 hy).1
    simp at this
    omega
   subst hi2
   have hy2:x=y:=by
    rw [lbc (by omega),←hl] at hy
    simpa using hy
   subst hy2
   exact hxn j u hu
variable {w:World} {base:Nat} {spare:Nat->Bool} {held:Bool}
theorem Y4 {α:Type} (f:α->List Value) {t e:TypeId} {fs:Array Field} {fuel:Nat} {v:Value} {x:DataW H × List MemPlace} (ht:P.underlying t=some (.slice e)) (he:P.underlying e=some (.struct fs))
 (hone:oneCellFields P fs=true) (hC:P.cellsOf e=fs.size) (hpos:0<fs.size)
 (hdec:∀vs:Nat->Value,(∀ j fld,fs[j]? =some fld->∃y n,DataW.trod enc P w base spare held n fld.type [vs j]=some y)->∃x:α,∀j u,(f x)[j]? =some u->vs j=u∧j<fs.size)
 (h:DataW.trod enc P w base spare held fuel t [v]=some x):∃A n c xs,v=.slice A n c∧Rd fs.size f w A n xs∧n<=c∧c<=maxLen:=by
 rcases open_slice ht h with ⟨h0,_⟩|⟨a,len,cap,m,n,D,Pl,hcs,hb,hl,hm,hmm,hx,hi⟩
 ·injection h0 with h0
  exact ⟨none,0,0,[],h0,Rd.nil _,lbQ _,by unfold maxLen;omega⟩
 ·injection hcs with hv
  by_cases hz:len=0
  ·subst hz
   exact ⟨some a,0,cap,[],hv,Rd.nil _,hl,hm⟩
  have hlm:len<=m:=by rw [hmm];split<;>omega
  have key:∀i,i<m->∀j fld,fs[j]? =some fld->∃u y n,w.cell? (a.add (i*fs.size+j))=some u∧DataW.trod enc P w base spare held n fld.type [u]=some y:=by
   intro i him j fld hj
   obtain ⟨cs',hc,ht'⟩:=hi i him
   rw [hC] at hc
   obtain ⟨ys,n',hn',hy,hlen,hyl,hf⟩:=DataW.trod_struct he ht'
   obtain ⟨_,hcl,hat⟩:=World.cells?_some hc
   obtain ⟨ho,hk⟩:=hone_of hone j fld hj
   have hjl:j<fs.size:=(lb4.1 hj).1
   have hcell:=hat j hjl
   have hv:cs'[j]? =some (cs'[j]'(by omega)):=lbf (by omega)
   have h1:=hf j fld hj
   rw [ho,hk] at h1
   have hone':(cs'.drop j).take 1=[cs'[j]'(by omega)]:=by
    rw [List.drop_eq_getElem_cons (by omega)]
    rfl
   rw [hone'] at h1
   have hys:ys[j]? =some (ys[j]'(by omega)):=lbf (by omega)
   exact ⟨_,_,_,by rw [← Go.Deep.add_add,hcell,hv],h1.trans hys⟩
  obtain ⟨f0,hf0⟩:∃f0,fs[0]? =some f0:=⟨_,Array.getElem?_eq_getElem hpos⟩
  obtain ⟨u0,_,_,hu0,_⟩:=key 0 (by omega) 0 f0 hf0
  have hspot:a.spot=none:=by
   have:=World.cell?_spot hu0
   simpa [Addr.add] using this
  obtain ⟨b,off,sp⟩:=a
  simp only at hspot
  subst hspot
  have hadd:∀k,(⟨b,off,none⟩:Addr).add k=⟨b,off+k,none⟩:=by
   intro k
   unfold Addr.add
   split
   ·subst_vars;rfl
   ·rfl
  obtain ⟨xs,hxs⟩:=Rd.of_each (k:=fs.size) (f:=f) (w:=w) (b:=b) (off:=off) len (fun i hil=>by
   have hsel:∀j,∃u,∀fld,fs[j]? =some fld->w.cell? ⟨b,off+(i*fs.size+j),none⟩=some u∧∃y n,DataW.trod enc P w base spare held n fld.type [u]=some y:=by
    intro j
    by_cases hj:j<fs.size
    ·obtain ⟨u,y,n,hu,hy⟩:=key i (by omega) j fs[j] (Array.getElem?_eq_getElem hj)
     rw [hadd] at hu
     refine ⟨u,fun fld hfld=>?_⟩
     rw [Array.getElem?_eq_getElem hj] at hfld
     injection hfld with hfld
     subst hfld
     exact ⟨hu,y,n,hy⟩
    ·exact ⟨.nilFunc,fun fld hfld=>absurd (lb4.1 hfld).1 hj⟩
   let vs:Nat->Value:=fun j=>Classical.choose (hsel j)
   obtain ⟨x,hx⟩:=hdec vs (fun j fld hj=>(Classical.choose_spec (hsel j) fld hj).2)
   refine ⟨x,fun j u hu=>?_⟩
   obtain ⟨hvu,hjl⟩:=hx j u hu
   rw [← hvu]
   exact (Classical.choose_spec (hsel j) fs[j] (Array.getElem?_eq_getElem hjl)).1)
  exact ⟨_,len,cap,xs,hv,hxs,hl,hm⟩
end
end
section
open Go.RowKit Go.ChangeShapes Go.WideShapes Go.Deep
section
variable {H:Type} {enc:TypeId × Value->H} {w:World} {base:Nat} {spare:Nat->Bool} {held:Bool}
theorem E8 {k:TypeId} (hk:Tryz.prog.underlying k=some (.int .i64)) {u:Value} (h:∃y n,DataW.trod enc Tryz.prog w base spare held n k [u]=some y):∃a:Int,u=.int .i64 a:=by
 obtain ⟨y,n,h⟩:=h
 obtain ⟨a,e,_,_⟩:=DataW.trod_int hk h
 injection e with e
 exact ⟨a,e⟩
theorem b6h {k:TypeId} (hk:Tryz.prog.underlying k=some .bool) {u:Value} (h:∃y n,DataW.trod enc Tryz.prog w base spare held n k [u]=some y):∃a:Bool,u=.bool a:=by
 obtain ⟨y,n,h⟩:=h
 obtain ⟨a,e,_⟩:=DataW.trod_bool hk h
 injection e with e
 exact ⟨a,e⟩
theorem b6P {r:Reach} {b0:Nat} {v:Value} {d:DataW H} {p:List MemPlace} (hv:Value.okWide Tryz.prog w r b0 28 v) (h:DataW.Trod enc Tryz.prog w base spare held 28 v d p):
 ∃m h s A1 n1 c1 A2 n2 c2 A3 n3 c3 A4 n4 c4 A5 n5 c5 e,v=.agg #[.int .i64 m,.int .i64 h,.int .i64 s,.slice A1 n1 c1,.slice A2 n2 c2,.slice A3 n3 c3,.slice A4 n4 c4,.slice A5 n5 c5]∧EvR w m h s A1 n1 A2 n2 A3 n3 A4 n4 A5 n5 e∧n1<=c1∧n2<=c2∧n3<=c3∧n4<=c4∧n5<=c5∧c1<=maxLen∧c2<=maxLen∧c3<=maxLen∧c4<=maxLen∧c5<=maxLen:=by
 obtain ⟨fs,hs,hone,hC,hty⟩:∃fs:Array Field,Tryz.prog.underlying 28=some (.struct fs)∧oneCellFields Tryz.prog fs=true∧Tryz.prog.cellsOf 28=8∧fs.map (·.type)=#[3,3,3,22,23,24,25,26]:=
  ⟨_,Tryz.underlying28,by kernel_rfl,by kernel_rfl,by kernel_rfl⟩
 obtain ⟨cs,rfl,hsz⟩:=okWide_struct hs hv
 obtain ⟨l⟩:=cs
 obtain ⟨fuel,hf⟩:=h
 obtain ⟨xs,n,_,hx,_,hlen,hg⟩:=DataW.trod_struct hs hf
 have hl8:l.length=8:=by simpa [hC] using hsz
 have hfs:fs.size=8:=by have:=congrArg Array.size hty;simpa using this
 have hfld:∀j,j<8->∃u y m,l[j]? =some u∧DataW.trod enc Tryz.prog w base spare held m ((#[3,3,3,22,23,24,25,26]:Array TypeId).getD j 0) [u]=some y:=by
  intro j hj
  have hjf:fs[j]? =some (fs[j]'(by omega)):=Array.getElem?_eq_getElem (by omega)
  obtain ⟨ho,hk⟩:=hone_of hone j _ hjf
  have h1:=hg j _ hjf
  rw [ho,hk] at h1
  have hone':((Value.agg ⟨l⟩).cells.toList.drop j).take 1=[l[j]'(by omega)]:=by
   show (l.drop j).take 1=_
   rw [List.drop_eq_getElem_cons (by omega)]
   rfl
  rw [hone'] at h1
  have hxl:j<xs.length:=by omega
  rw [lbf hxl] at h1
  have htj:(#[3,3,3,22,23,24,25,26]:Array TypeId).getD j 0=(fs[j]'(by omega)).type:=by
   rw [← hty,Array.getD_eq_getD_getElem?,Array.getElem?_map,hjf]
   rfl
  rw [htj]
  exact ⟨_,_,n,lbf (by omega),h1⟩
 match l,hl8 with
 |[v0,v1,v2,v3,v4,v5,v6,v7],_=>
  obtain ⟨u0,y0,m0,e0,t0⟩:=hfld 0 (by omega)
  obtain ⟨u1,y1,m1,e1,t1⟩:=hfld 1 (by omega)
  obtain ⟨u2,y2,m2,e2,t2⟩:=hfld 2 (by omega)
  obtain ⟨u3,y3,m3,e3,t3⟩:=hfld 3 (by omega)
  obtain ⟨u4,y4,m4,e4,t4⟩:=hfld 4 (by omega)
  obtain ⟨u5,y5,m5,e5,t5⟩:=hfld 5 (by omega)
  obtain ⟨u6,y6,m6,e6,t6⟩:=hfld 6 (by omega)
  obtain ⟨u7,y7,m7,e7,t7⟩:=hfld 7 (by omega)
  simp at e0 e1 e2 e3 e4 e5 e6 e7
  subst e0 e1 e2 e3 e4 e5 e6 e7
  obtain ⟨a0,rfl⟩:=E8 Tryz.underlying3 ⟨_,_,t0⟩
  obtain ⟨a1,rfl⟩:=E8 Tryz.underlying3 ⟨_,_,t1⟩
  obtain ⟨a2,rfl⟩:=E8 Tryz.underlying3 ⟨_,_,t2⟩
  obtain ⟨A1,n1,c1,ps,rfl,r1,l1,g1⟩:=Y4 G2.cells Tryz.underlying22 Tryz.underlying121 (by kernel_rfl) (by kernel_rfl) (by decide)
   (fun vs hd=>by
     obtain ⟨b0,h0⟩:=E8 Tryz.underlying3 (hd 0 _ rfl)
     obtain ⟨b1,h1⟩:=E8 Tryz.underlying3 (hd 1 _ rfl)
     obtain ⟨b2,h2⟩:=E8 Tryz.underlying3 (hd 2 _ rfl)
     refine ⟨⟨b0,b1,b2⟩,fun j u hu=>?_⟩
     match j,hu with
     |0,hu=>exact ⟨h0.trans (by simpa [G2.cells] using hu),by decide⟩
     |1,hu=>exact ⟨h1.trans (by simpa [G2.cells] using hu),by decide⟩
     |2,hu=>exact ⟨h2.trans (by simpa [G2.cells] using hu),by decide⟩
     |n+3,hu=>simp [G2.cells] at hu) t3
  obtain ⟨A2,n2,c2,ms,rfl,r2,l2,g2⟩:=Y4 j6.cells Tryz.underlying23 Tryz.underlying45 (by kernel_rfl) (by kernel_rfl) (by decide)
   (fun vs hd=>by
     obtain ⟨b0,h0⟩:=E8 Tryz.underlying3 (hd 0 _ rfl)
     obtain ⟨b1,h1⟩:=E8 Tryz.underlying3 (hd 1 _ rfl)
     obtain ⟨b2,h2⟩:=E8 Tryz.underlying3 (hd 2 _ rfl)
     obtain ⟨b3,h3⟩:=E8 Tryz.underlying3 (hd 3 _ rfl)
     obtain ⟨b4,h4⟩:=E8 Tryz.underlying3 (hd 4 _ rfl)
     obtain ⟨b5,h5⟩:=b6h Tryz.underlying4 (hd 5 _ rfl)
     refine ⟨⟨b0,b1,b2,b3,b4,b5⟩,fun j u hu=>?_⟩
     match j,hu with
     |0,hu=>exact ⟨h0.trans (by simpa [j6.cells] using hu),by decide⟩
     |1,hu=>exact ⟨h1.trans (by simpa [j6.cells] using hu),by decide⟩
     |2,hu=>exact ⟨h2.trans (by simpa [j6.cells] using hu),by decide⟩
     |3,hu=>exact ⟨h3.trans (by simpa [j6.cells] using hu),by decide⟩
     |4,hu=>exact ⟨h4.trans (by simpa [j6.cells] using hu),by decide⟩
     |5,hu=>exact ⟨h5.trans (by simpa [j6.cells] using hu),by decide⟩
     |n+6,hu=>simp [j6.cells] at hu) t4
  obtain ⟨A3,n3,c3,cts,rfl,r3,l3,g3⟩:=Y4 E6.cells Tryz.underlying24 Tryz.underlying211 (by kernel_rfl) (by kernel_rfl) (by decide)
   (fun vs hd=>by
     obtain ⟨b0,h0⟩:=E8 Tryz.underlying3 (hd 0 _ rfl)
     obtain ⟨b1,h1⟩:=E8 Tryz.underlying3 (hd 1 _ rfl)
     obtain ⟨b2,h2⟩:=E8 Tryz.underlying3 (hd 2 _ rfl)
     obtain ⟨b3,h3⟩:=E8 Tryz.underlying3 (hd 3 _ rfl)
     obtain ⟨b4,h4⟩:=E8 Tryz.underlying3 (hd 4 _ rfl)
     obtain ⟨b5,h5⟩:=E8 Tryz.underlying3 (hd 5 _ rfl)
     refine ⟨⟨b0,b1,b2,b3,b4,b5⟩,fun j u hu=>?_⟩
     match j,hu with
     |0,hu=>exact ⟨h0.trans (by simpa [E6.cells] using hu),by decide⟩
     |1,hu=>exact ⟨h1.trans (by simpa [E6.cells] using hu),by decide⟩
     |2,hu=>exact ⟨h2.trans (by simpa [E6.cells] using hu),by decide⟩
     |3,hu=>exact ⟨h3.trans (by simpa [E6.cells] using hu),by decide⟩
     |4,hu=>exact ⟨h4.trans (by simpa [E6.cells] using hu),by decide⟩
     |5,hu=>exact ⟨h5.trans (by simpa [E6.cells] using hu),by decide⟩
     |n+6,hu=>simp [E6.cells] at hu) t5
  obtain ⟨A4,n4,c4,rcs,rfl,r4,l4,g4⟩:=Y4 w7.cells Tryz.underlying25 Tryz.underlying307 (by kernel_rfl) (by kernel_rfl) (by decide)
   (fun vs hd=>by
     obtain ⟨b0,h0⟩:=E8 Tryz.underlying3 (hd 0 _ rfl)
     obtain ⟨b1,h1⟩:=E8 Tryz.underlying3 (hd 1 _ rfl)
     refine ⟨⟨b0,b1⟩,fun j u hu=>?_⟩
     match j,hu with
     |0,hu=>exact ⟨h0.trans (by simpa [w7.cells] using hu),by decide⟩
     |1,hu=>exact ⟨h1.trans (by simpa [w7.cells] using hu),by decide⟩
     |n+2,hu=>simp [w7.cells] at hu) t6
  obtain ⟨A5,n5,c5,pus,rfl,r5,l5,g5⟩:=Y4 s9.cells Tryz.underlying26 Tryz.underlying252 (by kernel_rfl) (by kernel_rfl) (by decide)
   (fun vs hd=>by
     obtain ⟨b0,h0⟩:=E8 Tryz.underlying3 (hd 0 _ rfl)
     obtain ⟨b1,h1⟩:=E8 Tryz.underlying3 (hd 1 _ rfl)
     obtain ⟨b2,h2⟩:=E8 Tryz.underlying3 (hd 2 _ rfl)
     obtain ⟨b3,h3⟩:=E8 Tryz.underlying3 (hd 3 _ rfl)
     refine ⟨⟨b0,b1,b2,b3⟩,fun j u hu=>?_⟩
     match j,hu with
     |0,hu=>exact ⟨h0.trans (by simpa [s9.cells] using hu),by decide⟩
     |1,hu=>exact ⟨h1.trans (by simpa [s9.cells] using hu),by decide⟩
     |2,hu=>exact ⟨h2.trans (by simpa [s9.cells] using hu),by decide⟩
     |3,hu=>exact ⟨h3.trans (by simpa [s9.cells] using hu),by decide⟩
     |n+4,hu=>simp [s9.cells] at hu) t7
  exact ⟨a0,a1,a2,A1,n1,c1,A2,n2,c2,A3,n3,c3,A4,n4,c4,A5,n5,c5,⟨a0,a1,a2,ps,ms,cts,rcs,pus⟩,rfl,⟨rfl,rfl,rfl,r1,r2,r3,r4,r5⟩,l1,l2,l3,l4,l5,g1,g2,g3,g4,g5⟩
end
theorem b7E:ownKnob Tryz.prog.godebug=none:=by kernel_rfl
theorem b3D:laidOutB Tryz.prog=true:=by kernel_rfl
end
end Go.Proofs.YtaejgdbahjjncaaGreat
