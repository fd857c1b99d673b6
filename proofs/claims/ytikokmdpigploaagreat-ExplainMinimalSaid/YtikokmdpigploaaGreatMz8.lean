/- Chapter 21 in plain Lean: the system of a kind of foreign matter, and its solutions. No program is in sight. -/
import Derived.Test.YtikokmdpigploaaGreatMz7
namespace Go.Proofs.YtikokmdpigploaaGreat
set_option linter.unusedVariables false
set_option linter.unusedSimpArgs false
set_option maxRecDepth 100000
set_option maxHeartbeats 8000000
open Go.RowKit
open St1 St2 St3 St4 St5 St6 St7 St8 StA StB
theorem a8O {e:Ev} {f:L1}:∀{l:List L1},N9 e (l++[f])=0->N9 e l=0
 |[],_=>rfl
 |a::r,h=>by
  rw [List.cons_append,N9] at h
  rw [N9]
  by_cases h1:a2f e a.mv a.kind≠0
  ·rw [if_pos h1] at h;exact absurd h h1
  rw [if_neg h1] at h ⊢
  by_cases h2:a.grams<1∨1099511627776<a.grams
  ·rw [if_pos h2] at h;cases h
  rw [if_neg h2] at h ⊢
  exact a8O h
theorem a6H {e:Ev} {f:F2}:∀{l:List F2},P6 e (l++[f])=0->P6 e l=0
 |[],_=>rfl
 |a::r,h=>by
  rw [List.cons_append,P6] at h
  rw [P6]
  by_cases h1:a2f e a.mv a.kind≠0
  ·rw [if_pos h1] at h;exact absurd h h1
  rw [if_neg h1] at h ⊢
  exact a6H h
theorem aa7 {t:g7} {f:L1} {c:F2} {cl:Bool} (h:s6 (I0 t f c cl)=0):s6 t=0:=by
 obtain ⟨h1,h2,h3,h4,h5⟩:=B4 h
 cases cl with
 |true=>
  have h3:(t.cleans++[c]).length<=50:=h3
  rw [lbq] at h3
  exact a7C h1 h2 (by omega) h4 (a6H h5)
 |false=>
  have h2:(t.finds++[f]).length<=20:=h2
  rw [lbq] at h2
  exact a7C h1 (by omega) h3 (a8O h4) h5
theorem aY2 {t:g7} {f:L1} {c:F2} {cl:Bool} {kind:Int} {set:List Int} (hs:t.Sized) (hs2:(I0 t f c cl).Sized) (hm:t.ev.moves.length<=8) (hh:t.ev.hhs<=6) (hf:(I0 t f c cl).finds.length<=20) (h:V8 (I0 t f c cl) kind set=true):V8 t kind set=true:=by
 unfold V8 at h ⊢
 rw [lbN,lbN] at h
 obtain ⟨⟨h1,h2⟩,h3⟩:=h
 have h1:=lbM h1
 rcases aN7 (t:=I0 t f c cl) (kind:=kind) hs2 (by rw [a1g];exact hm) (by rw [a1g];exact hh) hf with hx|⟨hx,r,hr⟩|⟨n,hE,hx⟩
 ·exact absurd h1 hx
 ·obtain ⟨z,hz,_⟩:=a2g.1 h3
  rw [a3j hr z] at hz;cases hz
 ·have h0:=aa7 hE.e
  have hP:=aP3 hs h0 hE
  have e1:=hP.h
  rw [a1g] at h2 h3
  rw [lbI (L6.2 ⟨h0,hE.k0,hE.k1⟩),h2,Bool.true_and,Bool.true_and]
  have e2:t.ev.hhs.toNat=n:=by omega
  rw [e2] at h3 ⊢
  exact ap4 hP hE h3
theorem b2U {t:g7} {f:L1} {c:F2} {cl:Bool} {kind:Int} (hs:t.Sized) (hs2:(I0 t f c cl).Sized) (hm:t.ev.moves.length<=8) (hh:t.ev.hhs<=3) (hf:(I0 t f c cl).finds.length<=20) (h:a3m (I0 t f c cl) kind=0):
 a3m t kind=0∧∃a b:List Int,(a1O t kind true)[0]? =some a∧(a1O (I0 t f c cl) kind true)[0]? =some b∧a.length<=b.length∧b.length<=3∧(a1O t kind true).length<=32∧(a1O (I0 t f c cl) kind true).length<=32:=by
 rcases aN7 (t:=I0 t f c cl) (kind:=kind) hs2 (by rw [a1g];exact hm) (by rw [a1g];omega) hf with hx|⟨hx,r,hr⟩|⟨n,hE,hx⟩
 ·rw [a2X hx] at h;cases h
 ·rw [a0p hx hr] at h;cases h
 have hP:=aP3 hs (aa7 hE.e) hE
 have e1:=hP.h
 rw [a0T hP,a0T hE]
 refine ⟨a3e hP,?_⟩
 obtain ⟨r1,w1,w2,_⟩:=b3E hP
 obtain ⟨r2,v1,v2,_⟩:=b3E hE
 have mf:∀a ∈ J0 t kind n true,∀b ∈ J0 (I0 t f c cl) kind n true,a.length<=b.length:=fun a ha b hb=>b3f hP hE ha hb
 have l1:=a6D (t:=t) (kind:=kind) (short:=true) (show n<=3 by omega)
 have l2:=a6D (t:=I0 t f c cl) (kind:=kind) (short:=true) (show n<=3 by omega)
 have le:∀b ∈ J0 (I0 t f c cl) kind n true,b.length<=3:=fun b hb=>lbS (a7w (by rw [v1];exact List.mem_append_left _ hb)) (by omega)
 generalize J0 t kind n true=A at *
 generalize J0 (I0 t f c cl) kind n true=B at *
 match A,B,w2,v2 with
 |a::A',b::B',_,_=>exact ⟨a,b,rfl,rfl,mf a (by simp) b (by simp),le b (by simp),l1,l2⟩
 |[],_,w2,_=>exact absurd rfl w2
 |_::_,[],_,v2=>exact absurd rfl v2
def aM1 (m:Int) (s:List Int × Bool) (x:Int):List Int × Bool:=if !s.2 && decide (x > m) then (s.1++[m]++[x],true) else (s.1++[x],s.2)
def wK (m:Int) (l:List Int) (k:Nat):List Int × Bool:=(l.take k).foldl (aM1 m) ([],false)
theorem aA7 {m:Int} {l:List Int} {k:Nat} {x:Int} (h:l[k]? =some x):wK m l (k+1)=aM1 m (wK m l k) x:=by
 unfold wK
 rw [H7 h,List.foldl_append];rfl
theorem aU4 {m:Int} {l:List Int}:∀{k:Nat},k<=l.length->(wK m l k).1.length<=2*k
 |0,_=>by simp [wK]
 |k+1,h=>by
  obtain ⟨x,hx⟩:∃x,l[k]? =some x:=⟨_,lbf (by omega)⟩
  have ih:=aU4 (m:=m) (l:=l) (k:=k) (by omega)
  rw [aA7 hx]
  unfold aM1
  split<;>simp<;>omega
theorem b3g {m:Int} {l:List Int} (hp:l.Pairwise (·<·)) (hm:m ∉ l):∀{k:Nat},k<=l.length->
 ((wK m l k).2=false->(wK m l k).1=l.take k∧∀x ∈ l.take k,x<m)∧
 ((wK m l k).2=true->(wK m l k).1.Pairwise (·<·)∧(∀ x,x ∈ (wK m l k).1↔x=m∨x ∈ l.take k)∧∃y ∈ l.take k,m<y)
 |0,_=>⟨fun _=>⟨rfl,fun x hx=>by simp at hx⟩,fun h=>by cases h⟩
 |k+1,h=>by
  obtain ⟨x,hx⟩:∃x,l[k]? =some x:=⟨_,lbf (by omega)⟩
  have hxl:=lbm hx
  have hxm:x≠m:=by rintro rfl;exact hm hxl
  obtain ⟨i1,i2⟩:=b3g hp hm (k:=k) (by omega)
  have hlt:∀y ∈ l.take k,y<x:=by
   have hp2:(l.take (k+1)).Pairwise (·<·):=hp.sublist (List.take_sublist _ _)
   rw [H7 hx,aq8] at hp2
   exact fun y hy=>hp2.2.2 y hy x (by simp)
  rw [aA7 hx]
  unfold aM1
  cases hd:(wK m l k).2 with
  |false=>
   obtain ⟨j1,j2⟩:=i1 hd
   by_cases hgt:x > m
   ·rw [if_pos (by simp [hgt])]
    refine ⟨fun h=>(by cases h),fun _=>⟨?_,?_,x,by rw [H7 hx];simp,hgt⟩⟩
    ·show ((wK m l k).1++[m]++[x]).Pairwise (·<·)
     rw [j1,lbE,aq8]
     refine ⟨hp.sublist (List.take_sublist _ _),by simp [hgt],?_⟩
     intro y hy z hz
     simp at hz
     rcases hz with rfl|rfl
     ·exact j2 y hy
     ·exact hlt y hy
    ·intro y
     show y ∈ (wK m l k).1++[m]++[x]↔_
     rw [j1,H7 hx]
     simp
     grind
   ·rw [if_neg (by simp [hgt])]
    refine ⟨fun _=>⟨?_,?_⟩,fun h=>by cases h⟩
    ·rw [H7 hx,←j1]
    ·intro y hy
     rw [H7 hx] at hy
     rcases lbA.1 hy with hy|hy
     ·exact j2 y hy
     ·have:y=x:=by simpa using hy
      omega
  |true=>
   obtain ⟨j1,j2,y0,j3,j4⟩:=i2 hd
   have hmx:m<x:=Int.lt_trans j4 (hlt y0 j3)
   rw [if_neg (by simp)]
   refine ⟨fun h=>(by cases h),fun _=>⟨?_,?_,y0,by rw [H7 hx];exact List.mem_append_left _ j3,j4⟩⟩
   ·show ((wK m l k).1++[x]).Pairwise (·<·)
    rw [aq8]
    refine ⟨j1,by simp,?_⟩
    intro y hy z hz
    have:z=x:=by simpa using hz
    subst this
    rcases (j2 y).1 hy with rfl|hy
    ·exact hmx
    ·exact hlt y hy
   ·intro y
    show y ∈ (wK m l k).1++[x]↔_
    rw [lbA,j2,H7 hx]
    simp
    grind
def wF (m:Int) (l:List Int):List Int:=if (wK m l l.length).2 then (wK m l l.length).1 else (wK m l l.length).1++[m]
theorem b9V {m:Int} {l:List Int} (hp:l.Pairwise (·<·)) (hm:m ∉ l):(wF m l).Pairwise (·<·)∧∀x,x ∈ wF m l↔x=m∨x ∈ l:=by
 obtain ⟨i1,i2⟩:=b3g hp hm (lbR l.length)
 rw [lbn (lbR _)] at i1 i2
 unfold wF
 cases hd:(wK m l l.length).2 with
 |true=>
  obtain ⟨j1,j2,_⟩:=i2 hd
  exact ⟨j1,j2⟩
 |false=>
  obtain ⟨j1,j2⟩:=i1 hd
  rw [j1]
  refine ⟨?_,fun x=>by simp [or_comm]⟩
  show (l++[m]).Pairwise (·<·)
  rw [aq8]
  exact ⟨hp,by simp,fun y hy z hz=>by have:z=m:=by simpa using hz
                                      subst this;exact j2 y hy⟩
theorem aV8 {t:g7} {kind m:Int} {set:List Int} (h:V8 t kind set=true) (h0:0<=m) (h1:m<t.ev.hhs) (hm:C7 set m=false):V8 t kind (wF m set)=true:=by
 have hn:m ∉ set:=fun h=>by rw [a0D.2 h] at hm;cases hm
 unfold V8 at h ⊢
 rw [lbN,lbN] at h ⊢
 obtain ⟨⟨q1,q2⟩,q3⟩:=h
 obtain ⟨s1,s2⟩:=a5Q.1 q2
 obtain ⟨w1,w2⟩:=b9V s1 hn
 refine ⟨⟨q1,a5Q.2 ⟨w1,fun x hx=>?_⟩⟩,a7g (fun x hx=>(w2 x).2 (.inr hx)) q3⟩
 rcases (w2 x).1 hx with rfl|hx
 ·exact ⟨h0,h1⟩
 ·exact s2 x hx

theorem Q0 (t:g7):K7 [(trT t).map .t]:=by simp [K7,trT,C.isT]
theorem ab4 (t:g7) (kind:Int) (set:List Int) (more:Int) (f:L1) (c:F2) (w:Bool):e7 Tryz.prog 4 [trS t,b7 .i64 kind,i6 set,b7 .i64 more,.agg (f.row.map .t),.agg (c.row.map .t),i8 w] [] (i8 true) []:=by
 have sa:=a85
 have sm:=af5 t 6
 have m1:(t.finds.map L1.row).length=t.finds.length:=by simp
 have m2:(t.cleans.map F2.row).length=t.cleans.length:=by simp
 have m3:(set.map i5).length=set.length:=by simp
 cases hsm:a3x t 6 with
 |false=>
  rw [hsm] at sm
  (refine ac Tryz.func4 ?_;(conv=>whnf);repeat ((first|refine b0x ?_|refine zy ?_);conv=>whnf))
  repeat' (first|refine zx ?_|refine qp sa ?_|refine qp sm ?_|refine zd ?_ ?_<;>intro h<;>try omega|fail)<;>conv=>whnf
  all_goals first
   |omega
   |(exfalso;contradiction)
   |exact i3 rfl
 |true=>
 rw [hsm] at sm
 obtain ⟨s1,s2,s3,s4,s5⟩:=a2l (by decide) hsm
 by_cases g:5<t.finds.length∨5<t.cleans.length∨6<set.length
 ·(refine ac Tryz.func4 ?_;(conv=>whnf);repeat ((first|refine b0x ?_|refine zy ?_);conv=>whnf))
  repeat' (first|refine zx ?_|refine qp sa ?_|refine qp sm ?_|refine zd ?_ ?_<;>intro h<;>try omega|fail)<;>conv=>whnf
  all_goals first
   |omega
   |(exfalso;contradiction)
   |exact i3 rfl
 have z2:(I0 t f c (!w)).Sized:=by
  cases w with
  |true=>exact ⟨s1.1,by show (t.finds++[f]).length<=_;simp;omega,s1.3⟩
  |false=>exact ⟨s1.1,s1.2,by show (t.cleans++[c]).length<=_;simp;omega⟩
 (refine a1t e8 Tryz.func4 rfl (by decide) ?_;refine D3 e8 ?_;(conv=>whnf);repeat ((first|refine b0x ?_|refine zy ?_);conv=>whnf))
 (refine D3 e8 ?_;conv=>whnf)
 repeat' (first|refine zx ?_|refine qp sa ?_|refine zd ?_ ?_<;>intro h<;>try omega|fail)<;>conv=>whnf
 (refine D3 e8 ?_;conv=>whnf)
 repeat' (first|refine zx ?_|refine qp sm ?_|refine zd ?_ ?_<;>intro h<;>try omega|fail)<;>conv=>whnf
 all_goals try omega
 (refine D3 e8 ?_;conv=>whnf)
 repeat' (first|refine zx ?_|refine zd ?_ ?_<;>intro h<;>try omega|fail)<;>conv=>whnf
 refine a02 e8 ([J,b7 .i64 kind,i6 set,b7 .i64 more,J,J,J,S.c (C.t (T.ptr (trT t))),J,J,J,J,J,J,J,i8 true,S.c (C.ptr 0 0 0)]++Jn 162) [b5K (I0 t f c (!w))] ?_ ?_
 ·cases w with
  |false=>
   conv=>whnf
   repeat' (first|refine zx ?_|refine qp toC ?_|refine qp (toC,B6) ?_|refine qp toC ?_|refine Y0 rfl (by simp [toC];omega) ?_|refine E4 (by simp [toC,B6]) (by simp [toC];omega) ?_|refine zd ?_ ?_<;>intro h<;>try omega|fail)<;>conv=>whnf
   all_goals first
    |omega
    |(exfalso;contradiction)
    |exact ⟨[some 0],rfl,rfl,⟨⟨rfl,rfl,rfl,.inr ⟨⟨rfl,rfl,rfl,rfl,rfl,rfl,rfl,rfl,rfl,show aY4 [some 0] _ _ _ from show VC _ (fun id=>Q2 [some 0] id=true) _ _ from D6 (rows:=(t.cleans++[c]).map F2.row) rfl rfl (by intro h;cases h) rfl (by simp [toC,B6];exact ⟨lbn (by simp),rfl⟩) (by simp [toC]),trivial⟩,trivial⟩⟩,trivial⟩,⟨rfl,rfl,rfl,rfl,rfl,⟨rfl,rfl,rfl⟩,trivial⟩⟩
  |true=>
   conv=>whnf
   repeat' (first|refine zx ?_|refine qp toC ?_|refine qp (toC,B6) ?_|refine qp toC ?_|refine Y0 rfl (by simp [toC];omega) ?_|refine E4 (by simp [toC,B6]) (by simp [toC];omega) ?_|refine zd ?_ ?_<;>intro h<;>try omega|fail)<;>conv=>whnf
   all_goals first
    |omega
    |(exfalso;contradiction)
    |exact ⟨[some 0],rfl,rfl,⟨⟨rfl,rfl,rfl,.inr ⟨⟨rfl,rfl,rfl,rfl,rfl,rfl,rfl,rfl,show aY4 [some 0] _ _ _ from show VC _ (fun id=>Q2 [some 0] id=true) _ _ from D6 (rows:=(t.finds++[f]).map L1.row) rfl rfl (by intro h;cases h) rfl (by simp [toC,B6];exact ⟨lbn (by simp),rfl⟩) (by simp [toC]),rfl,trivial⟩,trivial⟩⟩,trivial⟩,⟨rfl,rfl,rfl,rfl,rfl,⟨rfl,rfl,rfl⟩,trivial⟩⟩
 have ev2:(I0 t f c (!w)).ev=t.ev:=a1g
 have hf2:(I0 t f c (!w)).finds.length<=20:=by
  cases w with
  |true=>show (t.finds++[f]).length<=_;simp;omega
  |false=>show t.finds.length<=_;omega
 have xa:=M9 t kind s1 s2 (by omega) (by omega) set (by omega)
 have xb:=M9 (I0 t f c (!w)) kind z2 (by rw [ev2];exact s2) (by rw [ev2];omega) hf2 set (by omega)
 have fa:=a6E t kind s1 s2 (by omega) (by omega)
 have fb:=a6E (I0 t f c (!w)) kind z2 (by rw [ev2];exact s2) (by rw [ev2];omega) hf2
 have hm:=aY2 (t:=t) (f:=f) (c:=c) (cl:=!w) (kind:=kind) (set:=set) s1 z2 s2 (by omega) hf2
 have hw:=aV8 (t:=t) (kind:=kind) (m:=more) (set:=set)
 have hfw:=b2U (t:=t) (f:=f) (c:=c) (cl:=!w) (kind:=kind) s1 z2 s2 s3 hf2
 have hb:=b08 set more (by omega)
 generalize I0 t f c (!w)=u at *
 refine a02 e8 ([J,b7 .i64 kind,i6 set,b7 .i64 more,J,J,J,S.c (C.t (T.ptr (trT t))),J,J,J,J,J,J,J,i8 true,S.c (C.ptr 0 0 0),i8 (V8 t kind set)]++Jn 161) [b5K u] ?_ ?_
 ·cases hp:V8 t kind set<;>rw [hp] at xa<;>
  ·conv=>whnf
   repeat' (first|refine zx ?_|refine qp xa ?_|refine zd ?_ ?_<;>intro h<;>try omega|fail)<;>conv=>whnf
   all_goals first
    |exact ⟨[some 0],rfl,rfl,⟨⟨rfl,rfl,rfl,.inl ⟨rfl,Q0 u⟩⟩,trivial⟩,⟨rfl,rfl,rfl,rfl,rfl,⟨rfl,rfl,rfl⟩,rfl,trivial⟩⟩
 refine a02 e8 ([J,b7 .i64 kind,i6 set,b7 .i64 more,J,J,J,S.c (C.t (T.ptr (trT t))),J,J,J,J,J,J,J,i8 true,S.c (C.ptr 0 0 0),i8 (V8 t kind set)]++Jn 161) [b5K u] ?_ ?_
 ·cases hq:V8 u kind set with
  |true=>
   have hp:=hm hq
   rw [hp,hq] at *
   conv=>whnf
   repeat' (first|refine zx ?_|refine qp xb ?_|refine zd ?_ ?_<;>intro h<;>try omega|fail)<;>conv=>whnf
   all_goals first
    |exact ⟨[some 0],rfl,rfl,⟨⟨rfl,rfl,rfl,.inl ⟨rfl,Q0 u⟩⟩,trivial⟩,⟨rfl,rfl,rfl,rfl,rfl,⟨rfl,rfl,rfl⟩,rfl,trivial⟩⟩
  |false=>
   rw [hq] at xb
   cases hp:V8 t kind set<;>
   ·conv=>whnf
    repeat' (first|refine zx ?_|refine qp xb ?_|refine zd ?_ ?_<;>intro h<;>try omega|fail)<;>conv=>whnf
    all_goals first
     |exact ⟨[some 0],rfl,rfl,⟨⟨rfl,rfl,rfl,.inl ⟨rfl,Q0 u⟩⟩,trivial⟩,⟨rfl,rfl,rfl,rfl,rfl,⟨rfl,rfl,rfl⟩,rfl,trivial⟩⟩
 refine a02 e8 ([J,b7 .i64 kind,J,J,J,J,J,S.c (C.t (T.ptr (trT t))),J,J,J,J,J,J,J,i8 true,S.c (C.ptr 0 0 0)]++Jn 162) [b5K u] ?_ ?_
 ·cases hp:V8 t kind set with
  |false=>
   conv=>whnf
   repeat' (first|refine zx ?_|refine zd ?_ ?_<;>intro h<;>try omega|fail)<;>conv=>whnf
   all_goals first
    |exact ⟨[some 0],rfl,rfl,⟨⟨rfl,rfl,rfl,.inl ⟨rfl,Q0 u⟩⟩,trivial⟩,⟨rfl,rfl,rfl,⟨rfl,rfl,rfl⟩,trivial⟩⟩
  |true=>
  by_cases ho:more<0∨t.ev.hhs<=more
  ·conv=>whnf
   repeat' (first|refine zx ?_|refine zd ?_ ?_<;>intro h<;>try omega|fail)<;>conv=>whnf
   all_goals first
    |omega
    |exact ⟨[some 0],rfl,rfl,⟨⟨rfl,rfl,rfl,.inl ⟨rfl,Q0 u⟩⟩,trivial⟩,⟨rfl,rfl,rfl,⟨rfl,rfl,rfl⟩,trivial⟩⟩
  cases hi:C7 set more with
  |true=>
   rw [hi] at hb
   conv=>whnf
   repeat' (first|refine zx ?_|refine qp hb ?_|refine zd ?_ ?_<;>intro h<;>try omega|fail)<;>conv=>whnf
   all_goals first
    |omega
    |exact ⟨[some 0],rfl,rfl,⟨⟨rfl,rfl,rfl,.inl ⟨rfl,Q0 u⟩⟩,trivial⟩,⟨rfl,rfl,rfl,⟨rfl,rfl,rfl⟩,trivial⟩⟩
  |false=>
  rw [hi] at hb
  have hw:=hw hp (by omega) (by omega) hi
  have xw:=M9 t kind s1 s2 (by omega) (by omega) (wF more set) (by
   have:=aU4 (m:=more) (l:=set) (lbR _)
   unfold wF
   split
   ·omega
   ·simp;omega)
  rw [hw] at xw
  conv=>whnf
  repeat' (first|refine zx ?_|refine qp hb ?_|refine zd ?_ ?_<;>intro h<;>try omega|fail)<;>conv=>whnf
  all_goals try omega
  refine j5 e8 (fun k=>([J,b7 .i64 kind,i6 set,b7 .i64 more,J,J,J,S.c (C.t (T.ptr (trT t))),J,J,J,J,J,J,J,i8 true,S.c (C.ptr 0 0 0),J,a2q 1 (wK more set k).1,i8 (wK more set k).2,b7 .i64 k]++Jn 158,[b5K u,C0 (wK more set k).1])) set.length (fun _=>True) [some 0,none] trivial
   ⟨rfl,rfl,⟨⟨rfl,rfl,rfl,.inl ⟨rfl,Q0 u⟩⟩,⟨rfl,rfl⟩,trivial⟩,⟨rfl,rfl,rfl,rfl,rfl,⟨rfl,rfl,rfl⟩,⟨rfl,rfl,rfl⟩,rfl,rfl,trivial⟩⟩ ?_
  intro k hk _
  have hl:=aU4 (m:=more) (l:=set) hk
  by_cases hlt:k<set.length
  ·obtain ⟨x,hx⟩:∃x,set[k]? =some x:=⟨_,lbf hlt⟩
   have hsu:=aA7 (m:=more) hx
   unfold aM1 at hsu
   rcases hk8:wK more set k with ⟨o,d⟩
   rw [hk8] at hsu hl
   have hl:o.length<=2*k:=hl
   cases d with
   |true=>
    have hsu:wK more set (k+1)=(o++[x],true):=hsu
    conv=>whnf
    repeat' (first|refine zx ?_|refine qp (toC,B6) ?_|refine qp toC ?_|refine g6 hx ?_|refine zz ?_|refine E4 (by simp [toC,B6]) (by simp [toC];omega) ?_|refine zd ?_ ?_<;>intro h<;>try omega|fail)<;>conv=>whnf
    all_goals try omega
    refine ⟨hlt,trivial,[some 0,some 2],rfl,rfl,⟨⟨rfl,rfl,rfl,.inl ⟨rfl,Q0 u⟩⟩,b8 rfl rfl rfl ?_ rfl,trivial⟩,⟨rfl,rfl,rfl,rfl,rfl,⟨rfl,rfl,rfl⟩,s7 rfl ?_,by rw [hsu];rfl,rfl,trivial⟩⟩
    ·rw [hsu]
     show _=toC ((o++[x]).map i5)
     rw [lbD]
     exact (congrArg (fun n=>List.take n (toC (o.map i5))++toC [[ti x]]) (by simp)).trans a73
    ·rw [hsu];simp [toC]
   |false=>
    by_cases hgt:x > more
    ·have hsu:wK more set (k+1)=(o++[more]++[x],true):=by rw [hsu,if_pos (by simp [hgt])]
     conv=>whnf
     repeat' (first|refine zx ?_|refine qp (toC,B6) ?_|refine qp toC ?_|refine g6 hx ?_|refine zz ?_|refine E4 (by simp [toC,B6]) (by simp [toC];omega) ?_|refine zd ?_ ?_<;>intro h<;>try omega|fail)<;>conv=>whnf
     all_goals try omega
     refine ⟨hlt,trivial,[some 0,some 3],rfl,rfl,⟨⟨rfl,rfl,rfl,.inl ⟨rfl,Q0 u⟩⟩,b8 rfl rfl rfl ?_ rfl,trivial⟩,⟨rfl,rfl,rfl,rfl,rfl,⟨rfl,rfl,rfl⟩,s7 rfl ?_,by rw [hsu];rfl,rfl,trivial⟩⟩
     ·rw [hsu]
      show _=toC ((o++[more]++[x]).map i5)
      simp [toC,B6]
      rw [lbn (i:=o.length) (by simp),lbn (by simp)]
      simp
      exact ⟨rfl,rfl⟩
     ·rw [hsu];simp [toC]
    ·have hsu:wK more set (k+1)=(o++[x],false):=by rw [hsu,if_neg (by simp [hgt])]
     conv=>whnf
     repeat' (first|refine zx ?_|refine qp (toC,B6) ?_|refine qp toC ?_|refine g6 hx ?_|refine zz ?_|refine E4 (by simp [toC,B6]) (by simp [toC];omega) ?_|refine zd ?_ ?_<;>intro h<;>try omega|fail)<;>conv=>whnf
     all_goals try omega
     refine ⟨hlt,trivial,[some 0,some 2],rfl,rfl,⟨⟨rfl,rfl,rfl,.inl ⟨rfl,Q0 u⟩⟩,b8 rfl rfl rfl ?_ rfl,trivial⟩,⟨rfl,rfl,rfl,rfl,rfl,⟨rfl,rfl,rfl⟩,s7 rfl ?_,by rw [hsu];rfl,rfl,trivial⟩⟩
     ·rw [hsu]
      show _=toC ((o++[x]).map i5)
      rw [lbD]
      exact (congrArg (fun n=>List.take n (toC (o.map i5))++toC [[ti x]]) (by simp)).trans a73
     ·rw [hsu];simp [toC]
  ·have hke:k=set.length:=by omega
   subst hke
   have hwF:wF more set=if (wK more set set.length).2 then (wK more set set.length).1 else (wK more set set.length).1++[more]:=rfl
   rcases hk8:wK more set set.length with ⟨o,d⟩
   rw [hk8] at hwF hl
   have hl:o.length<=2*set.length:=hl
   cases d with
   |true=>
    have hwF:wF more set=o:=hwF
    rw [hwF] at xw
    conv=>whnf
    repeat' (first|refine zx ?_|refine .inl ⟨_,_,aa2 xw ⟨ap1 (trT t),a10 (a5X rfl),a10 (D6 trivial rfl (by intro h;cases h) rfl rfl (by simp)),trivial⟩ rfl,?_⟩|refine zd ?_ ?_<;>intro h<;>try omega|fail)<;>conv=>whnf
    all_goals first
     |omega
     |exact ⟨[some 0],rfl,rfl,⟨⟨rfl,rfl,rfl,.inl ⟨rfl,Q0 u⟩⟩,trivial⟩,⟨rfl,rfl,rfl,⟨rfl,rfl,rfl⟩,trivial⟩⟩
   |false=>
    have hwF:wF more set=o++[more]:=hwF
    rw [hwF] at xw
    conv=>whnf
    repeat' (first|refine zx ?_|refine qp (toC,B6) ?_|refine qp toC ?_|refine qp (toC,B6) ?_|refine qp toC ?_|refine zz ?_|refine E4 (by simp [toC,B6]) (by simp [toC];omega) ?_|refine .inl ⟨_,_,aa2 xw ⟨ap1 (trT t),a10 (a5X rfl),a10 (D6 trivial rfl (by intro h;cases h) rfl (by simp [toC,B6];exact ⟨lbn (by simp),rfl⟩) (by simp [toC])),trivial⟩ rfl,?_⟩|refine zd ?_ ?_<;>intro h<;>try omega|fail)<;>conv=>whnf
    all_goals first
     |omega
     |exact ⟨[some 0],rfl,rfl,⟨⟨rfl,rfl,rfl,.inl ⟨rfl,Q0 u⟩⟩,trivial⟩,⟨rfl,rfl,rfl,⟨rfl,rfl,rfl⟩,trivial⟩⟩
 refine A8 e8 _ ?_
 by_cases he:a3m u kind≠0
 ·rw [a1q he] at fb
  conv=>whnf
  repeat' (first|refine zx ?_|refine qp fa ?_|refine qp fb ?_|refine zd ?_ ?_<;>intro h<;>try omega|fail)<;>conv=>whnf
  all_goals first
   |omega
   |(exfalso;contradiction)
   |exact i3 rfl
 have he:a3m u kind=0:=by omega
 obtain ⟨h0,a,b,ha,hb,hab,hb3,lA,lB⟩:=hfw he
 rw [h0] at fa
 rw [he] at fb
 generalize a1O t kind true=A at *
 generalize a1O u kind true=B at *
 have l1:(A.map U7).length=A.length:=by simp
 have l2:(B.map U7).length=B.length:=by simp
 have l3:(a.map i5).length=a.length:=by simp
 have l4:(b.map i5).length=b.length:=by simp
 have hA:0<A.length:=by obtain ⟨i1,_⟩:=lbe.1 ha;exact i1
 have hB:0<B.length:=by obtain ⟨i1,_⟩:=lbe.1 hb;exact i1
 conv=>whnf
 repeat' (first|refine zx ?_|refine qp fa ?_|refine qp fb ?_|refine g6 ha ?_|refine g6 hb ?_|refine zd ?_ ?_<;>intro h<;>try omega|fail)<;>conv=>whnf
 all_goals first
  |omega
  |(exfalso;contradiction)
  |exact i3 rfl
section
open Go.RowKit Go.ChangeShapes Go.WideShapes Go.Deep
section
variable {H:Type} {enc:TypeId × Value->H} {w:World} {base:Nat} {spare:Nat->Bool} {held:Bool}
theorem open_ints {r:Reach} {b0:Nat} {v:Value} {d:DataW H} {p:List MemPlace} (hv:Value.okWide Tryz.prog w r b0 33 v) (h:DataW.Trod enc Tryz.prog w base spare held 33 v d p):
 ∃A n c xs,v=.slice A n c∧Rd 1 (fun x=>[Value.int .i64 x]) w A n xs∧n<=c∧c<=maxLen:=by
 obtain ⟨a,len,cap,rfl⟩:=okWide_slice Tryz.underlying33 hv
 obtain ⟨fuel,hf⟩:=h
 exact b33 (f:=Value.int .i64) Tryz.underlying33 (by kernel_rfl) (fun u y n hy=>b6J Tryz.underlying3 ⟨y,n,hy⟩) hf
end
theorem b7v {w:World} {A:Option Addr} {n c:Nat} {xs:List Int} (h:Rd 1 (fun x=>[Value.int .i64 x]) w A n xs) (h1:n<=c) (h2:c<=maxLen):RS w (fun _=>none) (fun _=>False) (i6 xs) (.slice A n c):=
 .c (.t (b3L (k:=1) (f:=fun x=>[Value.int .i64 x]) (row:=i5) (fun _=>rfl) (by intro x v hv;simp at hv;subst hv;rfl) (fun _=>rfl) h h1 h2))
end
open Go.RowKit Go.ChangeShapes Go.WideShapes Go.ChangeAt
set_option maxRecDepth 100000 in
theorem a5v (os:Os) (started:os.Started) (H:Type) (enc:TypeId × Value->H):
 ReturnsInHanded {} Tryz.checked os 4 .any (Rows.explainGrowsSpec.pre6 enc Tryz.prog Tryz.f4 Rows.explainGrowsRow.domain false) (Rows.explainGrowsSpec.post enc Tryz.prog Tryz.f4 false true false false):=by
 refine returnsInHanded_of_change (C:=Tryz.checked) aB4 started (by kernel_rfl) Tryz.func4
  (ChangeSpec.witness6 (enc:=enc) (C:=Tryz.checked) false ⟨#[],#[.agg #[.int .i64 0,.int .i64 0,.int .i64 0,.slice none 0 0,.slice none 0 0,.slice none 0 0,.slice none 0 0,.slice none 0 0,.slice none 0 0,.slice none 0 0],.int .i64 0,.slice none 0 0,.int .i64 0,.agg #[.int .i64 0,.int .i64 0,.int .i64 0],.agg #[.int .i64 0,.int .i64 0],.bool false],[]⟩ 12 (by kernel_rfl) (by kernel_rfl) (by kernel_rfl) (by kernel_rfl)) ?_
 intro W base args ds gs before hval0 hW hcnd _
 have hval:∀(j:Nat) t v,Tryz.f4.params[j]? =some t->args[j]? =some v->Value.okWide Tryz.prog W .any base t v:=hval0
 have hW':=hW
 obtain ⟨p,q,hA0,hV,rfl,hfz,hnd⟩:=hW
 have hA:DataW.TrodAll enc Tryz.prog W 0 (fun _=>true) true Tryz.f4.params.toList args.toList ds p:=hA0
 rw [Tryz.params4] at hA hval
 obtain ⟨v0,vs0,d0,ds0,p0,q0,hargs,rfl,rfl,h0,r0⟩:=trodAll_cons hA
 obtain ⟨v1,vs1,d1,ds1,p1,q1,rfl,rfl,rfl,h1,r1⟩:=trodAll_cons r0
 obtain ⟨v2,vs2,d2,ds2,p2,q2,rfl,rfl,rfl,h2,r2⟩:=trodAll_cons r1
 obtain ⟨v3,vs3,d3,ds3,p3,q3,rfl,rfl,rfl,h3,r3⟩:=trodAll_cons r2
 obtain ⟨v4,vs4,d4,ds4,p4,q4,rfl,rfl,rfl,h4,r4⟩:=trodAll_cons r3
 obtain ⟨v5,vs5,d5,ds5,p5,q5,rfl,rfl,rfl,h5,r5⟩:=trodAll_cons r4
 obtain ⟨v6,vs6,d6,ds6,p6,q6,rfl,rfl,rfl,h6,r6⟩:=trodAll_cons r5
 obtain ⟨rfl,rfl,rfl⟩:=trodAll_nil r6
 obtain rfl:args=#[v0,v1,v2,v3,v4,v5,v6]:=by cases args;simp_all
 obtain ⟨rfl,rfl⟩:=trodVars_none hV
 obtain ⟨a0,t0⟩:=Go.Proofs.YtikokmdpigploaaGreat.open_trace (hval 0 32 v0 rfl rfl) h0
 obtain ⟨a1,rfl,rfl,rfl,w1⟩:=open_int Tryz.underlying3 (hval 1 3 v1 rfl rfl) h1
 obtain ⟨A2,n2,c2,a2,rfl,s2,k2,l2⟩:=Go.Proofs.YtikokmdpigploaaGreat.open_ints (hval 2 33 v2 rfl rfl) h2
 obtain ⟨a3,rfl,rfl,rfl,w3⟩:=open_int Tryz.underlying3 (hval 3 3 v3 rfl rfl) h3
 obtain ⟨a4,t4⟩:=Go.Proofs.YtikokmdpigploaaGreat.open_find (hval 4 43 v4 rfl rfl) h4
 obtain ⟨a5,t5⟩:=Go.Proofs.YtikokmdpigploaaGreat.open_clean (hval 5 45 v5 rfl rfl) h5
 obtain ⟨a6,rfl,rfl,rfl⟩:=open_bool Tryz.underlying4 (hval 6 4 v6 rfl rfl) h6
 refine (a3o (ab4 a0 a1 a2 a3 a4 a5 a6) (.cons (t0) (.cons (av9) (.cons (b7v s2 k2 l2) (.cons (av9) (.cons (t4) (.cons (t5) (.cons (b7i) (.nil))))))))).mono fun ee W' ⟨he,hg⟩=>?_
 subst he
 exact ⟨_,rfl,af6 hW' a9G (by rw [Tryz.params4];intro t ht;simp at ht;first|(rcases ht with rfl|rfl|rfl|rfl|rfl|rfl|rfl<;>exact ⟨by kernel_rfl,lbM (by kernel_rfl)⟩)|(rcases ht with rfl|rfl|rfl|rfl|rfl|rfl<;>exact ⟨by kernel_rfl,lbM (by kernel_rfl)⟩)) rfl rfl (by kernel_rfl) Tryz.underlying4 hg⟩
theorem a65:(Rows.explainGrowsRow.inPlace == Tryz.pinned.checked.prog.inPlace 4)=true:=by kernel_rfl
theorem a8o:(Rows.explainGrowsRow.unfollowed == Tryz.pinned.checked.prog.unfollowed 4)=true:=by kernel_rfl
theorem a7T:(Rows.explainGrowsRow.recurses == Tryz.pinned.checked.prog.recurses 4)=true:=by kernel_rfl
theorem a5W:(Rows.explainGrowsRow.named == Tryz.pinned.checked.prog.varsNamed 4)=true:=by kernel_rfl
theorem a5M:(Rows.explainGrowsRow.loops == (Tryz.f4.params.toList++Rows.explainGrowsSpec.plain.varTypes Tryz.pinned.checked.prog).any (Tryz.pinned.checked.prog.loopsFrom ·))=true:=by kernel_rfl
set_option maxRecDepth 100000 in
theorem a5u:joinedFacts Tryz.pinned.checked.prog 4 Tryz.f4 (Rows.explainGrowsSpec) Rows.explainGrowsRow=true:=a8n (by kernel_rfl) aC9 au7 (by kernel_rfl) (by kernel_rfl) (by kernel_rfl) (by kernel_rfl) (by kernel_rfl) (by kernel_rfl) a65 a8o a7T a5W (by kernel_rfl) (by kernel_rfl) (by kernel_rfl) a5M (by kernel_rfl) (by kernel_rfl) (by kernel_rfl) (by kernel_rfl) (by kernel_rfl) aD0 (by kernel_rfl) ab7 ad7 az3 ax4 (by kernel_rfl) (by kernel_rfl) (by kernel_rfl) (by kernel_rfl) (by kernel_rfl)
theorem explainGrows_holds:Rows.ExplainGrowsSaid:=
 OpenClaim.holds_of_wide 4 Tryz.f4 rfl rfl rfl rfl rfl rfl rfl ⟨rfl,rfl,rfl,rfl,rfl⟩ rfl rfl rfl rfl rfl (by kernel_rfl) Tryz.func4 a5u
  (lbM (by kernel_rfl)) (by unfold Func.isWrapper;first|(rw [if_pos (by decide +kernel)];kernel_rfl)|(rw [if_neg (by decide +kernel)];exact ⟨rfl,rfl⟩))
  (fun os started H enc _=>a5v os started H enc)
theorem b2A (l:List Int) (k:Nat) (hk:k<l.length) (hl:l.length<=100000):e7 Tryz.prog 53 [i6 l,b7 .i64 k] [] (i6 (l.take k++l.drop (k+1))) []:=by
 have m1:(l.map i5).length=l.length:=by simp
 (refine ac Tryz.func53 ?_;(conv=>whnf);repeat ((first|refine b0x ?_|refine zy ?_);conv=>whnf))
 repeat' (first|refine zx ?_|refine qp toC ?_|refine qp (toC,B6) ?_|refine qp toC ?_|refine aJ4 (by omega) (by omega) (by omega) ?_|refine zz ?_|refine Y0 rfl (by simp [toC];omega) ?_|refine E4 (by simp [toC,B6]) (by simp [toC];omega) ?_|refine zd ?_ ?_<;>intro h<;>try omega|fail)<;>conv=>whnf
 have e1:((k:Int)+1).toNat=k+1:=by omega
 refine X5 (rows:=(l.take k++l.drop (k+1)).map i5) rfl (by intro h;cases h) rfl ?_ ?_
 ·simp only [B6,e1]
  simp [toC,List.map_take,List.map_drop]
  rw [lbn (i:=l.length) (by simp),lbn (i:=min k l.length) (by simp)]
 ·rw [e1]
  simp [toC]
def a3l (t:g7) (z:List Rat) (n:Nat):List Int:=((List.range n).filter fun i:Nat=>(Y5 t ((i:Nat):Int)).any fun j=>decide (0<z.getD j.toNat 0)).map fun i=>((i:Nat):Int)
theorem b2w (t:g7) (z:List Rat) (n:Nat):a3l t z (n+1)=a3l t z n++if ((Y5 t (n:Int)).any fun j=>decide (0<z.getD j.toNat 0)) then [(n:Int)] else []:=by
 unfold a3l
 rw [List.range_succ,lb9,lbD]
 congr 1
 by_cases h:((Y5 t (n:Int)).any fun j=>decide (0<z.getD j.toNat 0))=true
 ·rw [if_pos h,List.filter_cons,if_pos h];rfl
 ·rw [if_neg h,List.filter_cons,if_neg h];rfl
theorem aN8 (t:g7) (z:List Rat) (n:Nat):(a3l t z n).length<=n:=by
 unfold a3l
 rw [lbr]
 exact lbS (lbt _ _) (by rw [lbv];exact lbR _)
theorem b0w {t:g7} {z:List Rat} (hz:∀v ∈ z,0<=v) (n:Nat):a3l t z n=ay5 t n z:=by
 unfold a3l ay5
 congr 1
 refine List.filter_congr fun i _=>?_
 rw [Bool.eq_iff_iff,lbJ,lbx]
 show _↔0<m6 (a4t _) z
 rw [a7r hz]
 simp only [lbJ]
 rfl
theorem b6q {x:Rat} (h:0<x):sgR x=1:=by unfold sgR;rw [if_neg (by grind),if_pos h]
theorem b80 {x:Rat} (h:¬0<x):sgR x<=0:=by unfold sgR;split<;>simp_all
theorem b26 (t:g7) (hs:t.Sized) (n:Nat) (hn:t.ev.hhs=(n:Nat)) (h3:n<=1000) (z:List Rat) (hl:z.length=t.ev.moves.length) (hz:∀v ∈ z,rl v<=60000):e7 Tryz.prog 51 [trS t,F3 (z.map fz)] [] (i6 (a3l t z n)) []:=by
 have m1:((z.map fz).map q9).length=z.length:=by simp
 have hm:=hs.ev.s2
 (refine ac Tryz.func51 ?_;(conv=>whnf);repeat ((first|refine b0x ?_|refine zy ?_);conv=>whnf))
 repeat' (first|refine zx ?_|refine zd ?_ ?_<;>intro h<;>try omega|fail)<;>conv=>whnf
 refine j5 e8 (fun k=>([J,F3 (z.map fz),S.c (C.t (T.ptr (trT t))),J,J,a2q 0 (a3l t z k),b7 .i64 k]++Jn 38,[C0 (a3l t z k)])) n (fun _=>True) [none] trivial
  ⟨rfl,rfl,⟨⟨rfl,rfl⟩,trivial⟩,⟨rfl,rfl,⟨rfl,rfl,rfl⟩,rfl,trivial⟩⟩ ?_
 intro k hk _
 have hle:=aN8 t z k
 by_cases hlt:k<n
 ·have li:=au5 t.ev hs.ev (k:Int) (-1) 0 100000
  have hL:=a3H (t:=t) (h:=(k:Int))
  have hin:∀i ∈ L2 t.ev (k:Int) (-1) 0 100000,0<=i∧i<t.ev.moves.length:=fun i hi=>a7n hi
  have hsu:=b2w t z k
  unfold Y5 at hsu
  generalize L2 t.ev (k:Int) (-1) 0 100000=l at *
  have m2:(l.map i5).length=l.length:=by simp
  conv=>whnf
  repeat' (first|refine zx ?_|refine qp li ?_|refine zd ?_ ?_<;>intro h<;>try omega|fail)<;>conv=>whnf
  all_goals try omega
  refine j5 e8 (fun j=>([J,F3 (z.map fz),S.c (C.t (T.ptr (trT t))),J,J,a2q 0 (a3l t z k),b7 .i64 k,i6 l,i8 ((l.take j).any fun j=>decide (0<z.getD j.toNat 0)),b7 .i64 j]++Jn 35,[C0 (a3l t z k)])) l.length (fun _=>True) [some 0] trivial
   ⟨rfl,rfl,⟨b8 rfl rfl rfl rfl rfl,trivial⟩,⟨rfl,rfl,s7 rfl rfl,rfl,rfl,rfl,rfl,trivial⟩⟩ ?_
  intro j hj _
  by_cases hjl:j<l.length
  ·obtain ⟨i,hi⟩:∃i,l[j]? =some i:=⟨_,lbf hjl⟩
   obtain ⟨i0,i1⟩:=hin i (lbm hi)
   have hv:z[i.toNat]? =some (z.getD i.toNat 0):=getD_some (by omega)
   have hf:(z.map fz)[i.toNat]? =some (fz (z.getD i.toNat 0)):=by rw [lba,hv];rfl
   have sg:=X7 (z.getD i.toNat 0) (hz _ (lbm hv))
   have sk:((l.take (j+1)).any fun j=>decide (0<z.getD j.toNat 0))=(((l.take j).any fun j=>decide (0<z.getD j.toNat 0)) || decide (0<z.getD i.toNat 0)):=by rw [lbH,hi,List.any_append];simp
   cases hk8:(l.take j).any fun j=>decide (0<z.getD j.toNat 0) with
   |true=>
    rw [hk8,Bool.true_or] at sk
    conv=>whnf
    repeat' (first|refine zx ?_|refine g6 hi ?_|refine zd ?_ ?_<;>intro h<;>try omega|fail)<;>conv=>whnf
    all_goals first
     |omega
     |exact ⟨hjl,trivial,[some 0],rfl,rfl,⟨b8 rfl rfl rfl rfl rfl,trivial⟩,⟨rfl,rfl,s7 rfl rfl,rfl,rfl,by rw [sk];rfl,rfl,trivial⟩⟩
   |false=>
    rw [hk8,Bool.false_or] at sk
    by_cases hp:0<z.getD i.toNat 0
    ·rw [lbI hp] at sk
     rw [b6q hp] at sg
     conv=>whnf
     repeat' (first|refine zx ?_|refine qp sg ?_|refine g6 hi ?_|refine N6 i0 hf ?_|refine zd ?_ ?_<;>intro h<;>try omega|fail)<;>conv=>whnf
     all_goals first
      |omega
      |exact ⟨hjl,trivial,[some 0],rfl,rfl,⟨b8 rfl rfl rfl rfl rfl,trivial⟩,⟨rfl,rfl,s7 rfl rfl,rfl,rfl,by rw [sk];rfl,rfl,trivial⟩⟩
    ·rw [lbK hp] at sk
     have sl:=b80 hp
     generalize sgR (z.getD i.toNat 0)=sv at sg sl
     conv=>whnf
     repeat' (first|refine zx ?_|refine qp sg ?_|refine g6 hi ?_|refine N6 i0 hf ?_|refine zd ?_ ?_<;>intro h<;>try omega|fail)<;>conv=>whnf
     all_goals first
      |omega
      |exact ⟨hjl,trivial,[some 0],rfl,rfl,⟨b8 rfl rfl rfl rfl rfl,trivial⟩,⟨rfl,rfl,s7 rfl rfl,rfl,rfl,by rw [sk];rfl,rfl,trivial⟩⟩
  ·have hje:j=l.length:=by omega
   subst hje
   rw [lbn (lbR _)]
   generalize a3l t z k=o at *
   cases hq:l.any fun j=>decide (0<z.getD j.toNat 0) with
   |true=>
    rw [hq] at hsu
    have hsu:a3l t z (k+1)=o++[(k:Int)]:=hsu
    conv=>whnf
    repeat' (first|refine zx ?_|refine qp toC ?_|refine qp toC ?_|refine zz ?_|refine E4 (by simp [toC]) (by simp [toC];omega) ?_|refine zd ?_ ?_<;>intro h<;>try omega|fail)<;>conv=>whnf
    all_goals try omega
    all_goals refine ⟨hlt,trivial,[some 1],rfl,rfl,⟨b8 rfl rfl rfl ?_ rfl,trivial⟩,⟨rfl,rfl,s7 rfl ?_,rfl,trivial⟩⟩
    ·rw [hsu,lbD]
     exact (congrArg (fun n=>List.take n (toC (o.map i5))++toC [[ti k]]) (by simp)).trans a73
    ·rw [hsu];simp [toC]
   |false=>
    rw [hq] at hsu
    have hsu:a3l t z (k+1)=o:=by rw [hsu];simp
    conv=>whnf
    repeat' (first|refine zx ?_|refine zd ?_ ?_<;>intro h<;>try omega|fail)<;>conv=>whnf
    all_goals try omega
    all_goals exact ⟨hlt,trivial,[some 0],rfl,rfl,⟨b8 rfl rfl rfl rfl (by rw [hsu]),trivial⟩,⟨rfl,rfl,s7 rfl (by rw [hsu]),rfl,trivial⟩⟩
 ·have hke:k=n:=by omega
  subst hke
  conv=>whnf
  repeat' (first|refine zx ?_|refine zd ?_ ?_<;>intro h<;>try omega|fail)<;>conv=>whnf
  all_goals first
   |omega
   |exact X5 rfl (by intro h;cases h) rfl rfl (by simp)
theorem aR9 {t:g7} {kind:Int} {z:List Fr} (hs:t.Sized) (hm8:t.ev.moves.length<=8) (hm:Q9 t kind z=0):a16 t kind=0∧∃Z:List Rat,z=Z.map fz∧i7 (m7 t kind) Z=true:=by
 have hm0:=hm
 rw [aP0] at hm0
 obtain ⟨Z,rfl,hZ⟩:=hm0
 have hk:s6 t=0∧0<=kind∧kind<8:=by
  unfold Q9 at hm
  by_cases h1:s6 t≠0∨kind<0∨8<=kind
  ·rw [if_pos h1] at hm;cases hm
  ·omega
 obtain ⟨k1,k2,k3⟩:=hk
 exact ⟨L6.2 ⟨k1,k2,k3⟩,Z,rfl,(sys_holds k1 k2 k3 (by omega)).2 hZ⟩
structure bb5 (t:g7) (kind:Int) (n:Nat) (L:List (List Int)):Prop where
 l32:L.length<=32
 pos:0<L.length
 each:∀s ∈ L,s.length<=3
 ex:∀s ∈ L,V8 t kind s=true
 no:∀s ∈ L,∀k,k<s.length->V8 t kind (s.take k++s.drop (k+1))=false
 apart:∀(i k:Nat) (a b:List Int),L[i]? =some a->L[k]? =some b->k≠i->C5 a b=false
 must:∀h:Nat,h<n->(I3 t kind h=2↔(L.all fun s=>C7 s (h:Int))=true)
 cannot:∀h:Nat,I3 t kind h=0->(L.any fun s=>C7 s (h:Int))=false
 src:∀Z,i7 (m7 t kind) Z=true->(∃ (i:Nat) (c:List Int),L[i]? =some c∧C5 c (a3l t Z n)=true)∧V8 t kind (a3l t Z n)=true
theorem bb7 {t:g7} {kind:Int} {n:Nat} (h:ExP t kind n) (h3:n<=3):bb5 t kind n (J0 t kind n false):=by
 have hh:=h.h
 have en:t.ev.hhs.toNat=n:=by omega
 have hsy:a16 t kind=0:=L6.2 ⟨h.e,h.k0,h.k1⟩
 have w9:∀s ∈ J0 t kind n false,s.length<=n:=fun s=>a7w
 have hset:∀s:List Int,s.Sublist (D8 t kind n)->a0n t.ev.hhs s=true:=fun s hs=>a5Q.2 ⟨a71 (X0 t kind n) hs,fun x hx=>by
  obtain ⟨i,rfl,hi,_⟩:=a4O.1 (hs.subset hx)
  omega⟩
 have hex:∀s:List Int,a0n t.ev.hhs s=true->V8 t kind s=pX t kind n s:=fun s hs=>by
  unfold V8
  rw [lbI hsy,hs,en];rfl
 have hasc:=aP6 (t:=t) (kind:=kind) (n:=n)
 refine ⟨a6D h3,?_,fun s hs=>lbS (w9 s hs) h3,fun s hs=>?_,fun s hs k hk=>?_,fun i k a b ha hb hne=>?_,fun i hi=>?_,fun i h0=>?_,fun Z hZ=>⟨?_,?_⟩⟩
 ·have:=b0r h
  exact List.length_pos_iff.2 this
 ·obtain ⟨q1,q2,_⟩:=a08.1 hs
  rw [hex s (hset s q1)];exact q2
 ·obtain ⟨q1,q2,q3⟩:=a08.1 hs
  have hsub:(s.take k++s.drop (k+1)).Sublist s:=by
   conv=>rhs;rw [← lb8 k s]
   refine List.Sublist.append (List.Sublist.refl _) ?_
   rw [show s.drop (k+1)=(s.drop k).drop 1 by rw [List.drop_drop]]
   exact List.drop_sublist _ _
  have hne:s.take k++s.drop (k+1)≠s:=fun he=>by
   have:=congrArg List.length he
   simp at this
   omega
  rw [hex _ (hset _ (hsub.trans q1))]
  exact q3 _ hsub hne
 ·refine aV5 (lbm ha) (lbm hb) fun he=>?_
  subst he
  obtain ⟨i1,e1⟩:=lbe.1 ha
  obtain ⟨i2,e2⟩:=lbe.1 hb
  rcases Nat.lt_or_ge i k with hlt|hge
  ·have:=List.pairwise_iff_getElem.1 hasc i k i1 i2 hlt
   rw [e1,e2,a67] at this;cases this
  ·have:=List.pairwise_iff_getElem.1 hasc k i i2 i1 (by omega)
   rw [e1,e2,a67] at this;cases this
 ·rw [b4M h hi,lbw]
  exact ⟨fun hA s hs=>a0D.2 (hA s hs),fun hA s hs=>a0D.1 (hA s hs)⟩
 ·rw [← lbQ,lbx]
  rintro ⟨s,hs,hq⟩
  exact aO1 h0 s hs (a0D.1 hq)
 ·obtain ⟨c,hc,hcs⟩:=ah9 h hZ
  obtain ⟨i,hi,e⟩:=List.getElem_of_mem hc
  refine ⟨i,c,by rw [lbf hi,e],?_⟩
  rw [b0w (a1u hZ)]
  exact a1m.2 fun x hx=>hcs.subset hx
 ·rw [b0w (a1u hZ),hex _ (hset _ (aL2 h hZ))]
  exact aq5 h hZ
theorem a7N (t:g7) (kind:Int) (z:List Fr):e7 Tryz.prog 10 [trS t,b7 .i64 kind,F3 z] [] (i8 true) []:=by
 have sa:=a85
 have sm:=af5 t 6
 have fp:=aY7 z 6 4 (by decide)
 cases hsm:a3x t 6 with
 |false=>
  rw [hsm] at sm
  (refine ac Tryz.func10 ?_;(conv=>whnf);repeat ((first|refine b0x ?_|refine zy ?_);conv=>whnf))
  repeat' (first|refine zx ?_|refine qp sa ?_|refine qp sm ?_|refine zd ?_ ?_<;>intro h<;>try omega|fail)<;>conv=>whnf
  all_goals first
   |omega
   |(exfalso;contradiction)
   |exact i3 rfl
 |true=>
 rw [hsm] at sm
 cases hfp:ag7 z 6 4 with
 |false=>
  rw [hfp] at fp
  (refine ac Tryz.func10 ?_;(conv=>whnf);repeat ((first|refine b0x ?_|refine zy ?_);conv=>whnf))
  repeat' (first|refine zx ?_|refine qp sa ?_|refine qp sm ?_|refine qp fp ?_|refine zd ?_ ?_<;>intro h<;>try omega|fail)<;>conv=>whnf
  all_goals first
   |omega
   |(exfalso;contradiction)
   |exact i3 rfl
 |true=>
 rw [hfp] at fp
 obtain ⟨s1,s2,s3,s4,s5⟩:=a2l (by decide) hsm
 obtain ⟨f1,f2⟩:=aG6 hfp
 have ma:=b5g t kind z s1 (by omega) (fun f hf=>by have:=f2 f hf;omega)
 have mi:=a33 t kind s1 s2 (by omega) (by omega)
 have hms:=aR9 (t:=t) (kind:=kind) (z:=z) s1 s2
 rcases aN7 (kind:=kind) s1 s2 (by omega) (by omega) with h|⟨h,r,hr⟩|⟨n,hE,hx⟩
 ·rw [a1q (by rw [a2X h];decide),a2X h] at mi
  (refine ac Tryz.func10 ?_;(conv=>whnf);repeat ((first|refine b0x ?_|refine zy ?_);conv=>whnf))
  repeat' (first|refine zx ?_|refine qp sa ?_|refine qp sm ?_|refine qp fp ?_|refine qp mi ?_|refine qp ma ?_|refine zd ?_ ?_<;>intro h<;>try omega|fail)<;>conv=>whnf
  all_goals first
   |omega
   |(exfalso;contradiction)
   |exact i3 rfl
 ·rw [a1q (by rw [a0p h hr];decide),a0p h hr] at mi
  have hne:Q9 t kind z≠0:=fun h0=>by
   obtain ⟨_,Z,_,hZ⟩:=hms h0
   rw [a3j hr Z] at hZ;cases hZ
  generalize Q9 t kind z=me at ma hne
  (refine ac Tryz.func10 ?_;(conv=>whnf);repeat ((first|refine b0x ?_|refine zy ?_);conv=>whnf))
  repeat' (first|refine zx ?_|refine qp sa ?_|refine qp sm ?_|refine qp fp ?_|refine qp mi ?_|refine qp ma ?_|refine zd ?_ ?_<;>intro h<;>try omega|fail)<;>conv=>whnf
  all_goals first
   |omega
   |(exfalso;contradiction)
   |exact i3 rfl
 rw [a0T hE,a3e hE] at mi
 have hh:=hE.h
 have hn3:n<=3:=by omega
 have W:=bb7 hE hn3
 have ve:=a5A t kind s1 hE.e hE.k0 hE.k1 hE.m n hE.h (by omega) hE.z
 have vl:=a1N t kind n
 have m1:((O9 t kind n).map a3k.row).length=n:=by simp [vl]
 generalize J0 t kind n false=L at mi W
 have lL:(L.map U7).length=L.length:=by simp
 have hL32:=W.l32
 have hLp:=W.pos
 (refine a1t e8 Tryz.func10 rfl (by decide) ?_;refine D3 e8 ?_;(conv=>whnf);repeat ((first|refine b0x ?_|refine zy ?_);conv=>whnf))
 (refine D3 e8 ?_;conv=>whnf)
 repeat' (first|refine zx ?_|refine qp sa ?_|refine zd ?_ ?_<;>intro h<;>try omega|fail)<;>conv=>whnf
 (refine D3 e8 ?_;conv=>whnf)
 repeat' (first|refine zx ?_|refine qp sm ?_|refine qp fp ?_|refine zd ?_ ?_<;>intro h<;>try omega|fail)<;>conv=>whnf
 all_goals try omega
 (refine D3 e8 ?_;conv=>whnf)
 repeat' (first|refine zx ?_|refine qp mi ?_|refine qp 4 ?_|refine qp 5 ?_|refine bl0 [4] ?_|refine bl0 [5] ?_|refine zd ?_ ?_<;>intro h<;>try omega|fail)<;>conv=>whnf
 (refine D3 e8 ?_;conv=>whnf)
 repeat' (first|refine zx ?_|refine zd ?_ ?_<;>intro h<;>try omega|fail)<;>conv=>whnf
 all_goals try omega
 refine a02 e8 ([J,b7 .i64 kind,J,S.c (C.t (T.ptr (trT t))),J,J,J,i8 true,a0X L]++Jn 198) [] ?_ ?_
 ·by_cases hmz:Q9 t kind z=0
  ·obtain ⟨_,Z,rfl,hZ⟩:=hms hmz
   have hl:Z.length=t.ev.moves.length:=by have:=(Z2 hZ).2;have:(m7 t kind).n=t.ev.moves.length:=rfl;omega
   have so:=b26 t s1 n hh (by omega) Z hl (fun v hv=>by have:=f2 (fz v) (lby.2 ⟨v,hv,rfl⟩);exact Nat.max_le.2 ⟨by have:=this.1;show bl v.num<=_;exact lbS (show (fz v).p.dl.length<=4 by omega) (by decide),by have:=this.2;exact lbS (show (fz v).q.dl.length<=4 by omega) (by decide)⟩)
   obtain ⟨⟨i0,c0,hi0,hc0⟩,hxs⟩:=W.src Z hZ
   have hsl:=aN8 t Z n
   have xs:=M9 t kind s1 s2 (by omega) (by omega) (a3l t Z n) (by omega)
   rw [hxs] at xs
   rw [hmz] at ma
   generalize a3l t Z n=s at *
   conv=>whnf
   repeat' (first|refine zx ?_|refine qp ma ?_|refine qp so ?_|refine zd ?_ ?_<;>intro h<;>try omega|fail)<;>conv=>whnf
   all_goals try omega
   refine j5 e8 (fun k=>([J,b7 .i64 kind,J,S.c (C.t (T.ptr (trT t))),J,J,J,i8 true,a0X L,J,i6 s,i8 ((L.take k).any fun c=>C5 c s),b7 .i64 k]++Jn 194,[])) L.length (fun _=>True) [] trivial
    ⟨rfl,rfl,trivial,⟨rfl,rfl,rfl,rfl,rfl,rfl,rfl,trivial⟩⟩ ?_
   intro k hk _
   by_cases hlt:k<L.length
   ·obtain ⟨c,hc⟩:∃c,L[k]? =some c:=⟨_,lbf hlt⟩
    have hc3:=W.each c (lbm hc)
    have pa:=b11 c s (by omega) (by omega)
    have sk:((L.take (k+1)).any fun c=>C5 c s)=(((L.take k).any fun c=>C5 c s) || C5 c s):=by rw [lbH,hc,List.any_append];simp
    cases hk8:(L.take k).any fun c=>C5 c s with
    |true=>
     rw [hk8,Bool.true_or] at sk
     conv=>whnf
     repeat' (first|refine zx ?_|refine g6 hc ?_|refine zd ?_ ?_<;>intro h<;>try omega|fail)<;>conv=>whnf
     all_goals first
      |omega
      |exact ⟨hlt,trivial,[],rfl,rfl,trivial,⟨rfl,rfl,rfl,rfl,rfl,by rw [sk];rfl,rfl,trivial⟩⟩
    |false=>
     rw [hk8,Bool.false_or] at sk
     cases hq:C5 c s<;>rw [hq] at pa sk<;>
     ·conv=>whnf
      repeat' (first|refine zx ?_|refine qp pa ?_|refine g6 hc ?_|refine zd ?_ ?_<;>intro h<;>try omega|fail)<;>conv=>whnf
      all_goals first
       |omega
       |exact ⟨hlt,trivial,[],rfl,rfl,trivial,⟨rfl,rfl,rfl,rfl,rfl,by rw [sk];rfl,rfl,trivial⟩⟩
   ·have hke:k=L.length:=by omega
    subst hke
    have hany:(L.any fun c=>C5 c s)=true:=lbx.2 ⟨c0,lbm hi0,hc0⟩
    rw [lbn (lbR _),hany]
    conv=>whnf
    repeat' (first|refine zx ?_|refine qp xs ?_|refine zd ?_ ?_<;>intro h<;>try omega|fail)<;>conv=>whnf
    all_goals first
     |omega
     |exact ⟨[],rfl,rfl,trivial,⟨rfl,rfl,rfl,rfl,trivial⟩⟩
  ·conv=>whnf
   repeat' (first|refine zx ?_|refine qp ma ?_|refine zd ?_ ?_<;>intro h<;>try omega|fail)<;>conv=>whnf
   all_goals first
    |omega
    |(exfalso;contradiction)
    |exact ⟨[],rfl,rfl,trivial,⟨rfl,rfl,rfl,rfl,trivial⟩⟩
 refine a02 e8 ([J,b7 .i64 kind,J,S.c (C.t (T.ptr (trT t))),J,J,J,i8 true,a0X L]++Jn 198) [] ?_ ?_
 ·conv=>whnf
  repeat' (first|refine zx ?_|refine zd ?_ ?_<;>intro h<;>try omega|fail)<;>conv=>whnf
  refine j5 e8 (fun i=>([J,b7 .i64 kind,J,S.c (C.t (T.ptr (trT t))),J,J,J,i8 true,a0X L,J,J,J,J,b7 .i64 i]++Jn 193,[])) L.length (fun _=>True) [] trivial
   ⟨rfl,rfl,trivial,⟨rfl,rfl,rfl,rfl,rfl,trivial⟩⟩ ?_
  intro i hi _
  by_cases hlt:i<L.length
  ·obtain ⟨a,ha⟩:∃a,L[i]? =some a:=⟨_,lbf hlt⟩
   have ham:=lbm ha
   have ha3:=W.each a ham
   have la:(a.map i5).length=a.length:=by simp
   have xa:=M9 t kind s1 s2 (by omega) (by omega) a (by omega)
   rw [W.ex a ham] at xa
   conv=>whnf
   repeat' (first|refine zx ?_|refine qp xa ?_|refine g6 ha ?_|refine zd ?_ ?_<;>intro h<;>try omega|fail)<;>conv=>whnf
   all_goals try omega
   refine j5 e8 (fun k=>([J,b7 .i64 kind,J,S.c (C.t (T.ptr (trT t))),J,J,J,i8 true,a0X L,J,J,J,J,b7 .i64 i,b7 .i64 k]++Jn 192,[])) a.length (fun _=>True) [] trivial
    ⟨rfl,rfl,trivial,⟨rfl,rfl,rfl,rfl,rfl,rfl,trivial⟩⟩ ?_
   intro k hk _
   by_cases hka:k<a.length
   ·have wi:=b2A a k hka (by omega)
    have xn:=M9 t kind s1 s2 (by omega) (by omega) (a.take k++a.drop (k+1)) (by simp;omega)
    rw [W.no a ham k hka] at xn
    generalize a.take k++a.drop (k+1)=b at wi xn
    conv=>whnf
    repeat' (first|refine zx ?_|refine qp wi ?_|refine qp xn ?_|refine g6 ha ?_|refine zd ?_ ?_<;>intro h<;>try omega|fail)<;>conv=>whnf
    all_goals first
     |omega
     |exact ⟨hka,trivial,[],rfl,rfl,trivial,⟨rfl,rfl,rfl,rfl,rfl,rfl,trivial⟩⟩
   ·conv=>whnf
    repeat' (first|refine zx ?_|refine g6 ha ?_|refine zd ?_ ?_<;>intro h<;>try omega|fail)<;>conv=>whnf
    all_goals try omega
    refine j5 e8 (fun k=>([J,b7 .i64 kind,J,S.c (C.t (T.ptr (trT t))),J,J,J,i8 true,a0X L,J,J,J,J,b7 .i64 i,J,b7 .i64 k]++Jn 191,[])) L.length (fun _=>True) [] trivial
     ⟨rfl,rfl,trivial,⟨rfl,rfl,rfl,rfl,rfl,rfl,trivial⟩⟩ ?_
    intro k hk _
    by_cases hkl:k<L.length
    ·obtain ⟨b,hb⟩:∃b,L[k]? =some b:=⟨_,lbf hkl⟩
     have hb3:=W.each b (lbm hb)
     by_cases hki:k=i
     ·subst hki
      conv=>whnf
      repeat' (first|refine zx ?_|refine zd ?_ ?_<;>intro h<;>try omega|fail)<;>conv=>whnf
      all_goals first
       |omega
       |exact ⟨hkl,trivial,[],rfl,rfl,trivial,⟨rfl,rfl,rfl,rfl,rfl,rfl,trivial⟩⟩
     ·have pa:=b11 a b (by omega) (by omega)
      rw [W.apart i k a b ha hb hki] at pa
      conv=>whnf
      repeat' (first|refine zx ?_|refine qp pa ?_|refine g6 ha ?_|refine g6 hb ?_|refine zd ?_ ?_<;>intro h<;>try omega|fail)<;>conv=>whnf
      all_goals first
       |omega
       |exact ⟨hkl,trivial,[],rfl,rfl,trivial,⟨rfl,rfl,rfl,rfl,rfl,rfl,trivial⟩⟩
    ·conv=>whnf
     repeat' (first|refine zx ?_|refine zd ?_ ?_<;>intro h<;>try omega|fail)<;>conv=>whnf
     all_goals first
      |omega
      |exact ⟨hlt,trivial,[],rfl,rfl,trivial,⟨rfl,rfl,rfl,rfl,rfl,trivial⟩⟩
  ·conv=>whnf
   repeat' (first|refine zx ?_|refine zd ?_ ?_<;>intro h<;>try omega|fail)<;>conv=>whnf
   all_goals first
    |omega
    |exact ⟨[],rfl,rfl,trivial,⟨rfl,rfl,rfl,rfl,trivial⟩⟩
 refine A8 e8 _ ?_
 conv=>whnf
 repeat' (first|refine zx ?_|refine qp ve ?_|refine qp 4 ?_|refine qp 5 ?_|refine bl0 [4] ?_|refine bl0 [5] ?_|refine zd ?_ ?_<;>intro h<;>try omega|fail)<;>conv=>whnf
 all_goals try omega
 refine j5 e8 (fun u=>(Jn 7++[i8 true,a0X L,J,J,J,J,J,J,J,ao5 (O9 t kind n),J,b7 .i64 u]++Jn 188,[])) n (fun _=>True) [] trivial
  ⟨rfl,rfl,trivial,⟨rfl,rfl,rfl,rfl,trivial⟩⟩ ?_
 intro u hk _
 by_cases hlt:u<n
 ·have hv:(O9 t kind n)[u]? =some (W7 (m7 t kind) (E9 t (u:Int)) (u:Int)):=by unfold O9;simp [hlt]
  have hmu:=W.must u hlt
  have hca:=W.cannot u
  unfold I3 at hmu hca
  generalize W7 (m7 t kind) (E9 t (u:Int)) (u:Int)=v at hv hmu hca
  conv=>whnf
  repeat' (first|refine zx ?_|refine zd ?_ ?_<;>intro h<;>try omega|fail)<;>conv=>whnf
  all_goals try omega
  refine j5 e8 (fun i=>(Jn 7++[i8 true,a0X L,J,J,J,J,J,J,J,ao5 (O9 t kind n),J,b7 .i64 u,i8 ((L.take i).all fun s=>C7 s (u:Int)),i8 ((L.take i).any fun s=>C7 s (u:Int)),b7 .i64 i]++Jn 185,[])) L.length (fun _=>True) [] trivial
   ⟨rfl,rfl,trivial,⟨rfl,rfl,rfl,rfl,rfl,rfl,rfl,trivial⟩⟩ ?_
  intro i hi _
  by_cases hil:i<L.length
  ·obtain ⟨a,ha⟩:∃a,L[i]? =some a:=⟨_,lbf hil⟩
   have ha3:=W.each a (lbm ha)
   have ho:=b08 a (u:Int) (by omega)
   have k1:((L.take (i+1)).all fun s=>C7 s (u:Int))=(((L.take i).all fun s=>C7 s (u:Int)) && C7 a (u:Int)):=by rw [lbH,ha,List.all_append];simp
   have k2:((L.take (i+1)).any fun s=>C7 s (u:Int))=(((L.take i).any fun s=>C7 s (u:Int)) || C7 a (u:Int)):=by rw [lbH,ha,List.any_append];simp
   cases hq:C7 a (u:Int)<;>cases h1:(L.take i).all fun s=>C7 s (u:Int)<;>cases h2:(L.take i).any fun s=>C7 s (u:Int)<;>rw [hq] at ho k1 k2<;>rw [h1] at k1<;>rw [h2] at k2<;>
   ·conv=>whnf
    repeat' (first|refine zx ?_|refine qp ho ?_|refine g6 ha ?_|refine zd ?_ ?_<;>intro h<;>try omega|fail)<;>conv=>whnf
    all_goals first
     |omega
     |exact ⟨hil,trivial,[],rfl,rfl,trivial,⟨rfl,rfl,rfl,rfl,by rw [k1];rfl,by rw [k2];rfl,rfl,trivial⟩⟩
  ·have hie:i=L.length:=by omega
   subst hie
   rw [lbn (lbR _)]
   cases h1:L.all fun s=>C7 s (u:Int)<;>cases h2:L.any fun s=>C7 s (u:Int)<;>rw [h1] at hmu<;>rw [h2] at hca<;>
   ·have hmu:v.state=2↔_:=hmu
    have hca:v.state=0->_:=hca
    conv=>whnf
    repeat' (first|refine zx ?_|refine g6 hv ?_|refine zd ?_ ?_<;>intro h<;>try omega|fail)<;>conv=>whnf
    all_goals first
     |omega
     |(exfalso;simp_all;done)
     |exact ⟨hlt,trivial,[],rfl,rfl,trivial,⟨rfl,rfl,rfl,rfl,trivial⟩⟩
 ·conv=>whnf
  repeat' (first|refine zx ?_|refine zd ?_ ?_<;>intro h<;>try omega|fail)<;>conv=>whnf
  all_goals first
   |omega
   |exact i3 rfl
open Go.RowKit Go.ChangeShapes Go.WideShapes Go.ChangeAt
set_option maxRecDepth 100000 in
theorem a3X (os:Os) (started:os.Started) (H:Type) (enc:TypeId × Value->H):
 ReturnsInHanded {} Tryz.checked os 10 .any (Rows.explainMinimalSpec.pre6 enc Tryz.prog Tryz.f10 Rows.explainMinimalRow.domain false) (Rows.explainMinimalSpec.post enc Tryz.prog Tryz.f10 false true false false):=by
 refine returnsInHanded_of_change (C:=Tryz.checked) aB4 started (by kernel_rfl) Tryz.func10
  (ChangeSpec.witness6 (enc:=enc) (C:=Tryz.checked) false ⟨#[],#[.agg #[.int .i64 0,.int .i64 0,.int .i64 0,.slice none 0 0,.slice none 0 0,.slice none 0 0,.slice none 0 0,.slice none 0 0,.slice none 0 0,.slice none 0 0],.int .i64 0,.slice none 0 0],[]⟩ 12 (by kernel_rfl) (by kernel_rfl) (by kernel_rfl) (by kernel_rfl)) ?_
 intro W base args ds gs before hval0 hW hcnd _
 have hval:∀(j:Nat) t v,Tryz.f10.params[j]? =some t->args[j]? =some v->Value.okWide Tryz.prog W .any base t v:=hval0
 have hW':=hW
 obtain ⟨p,q,hA0,hV,rfl,hfz,hnd⟩:=hW
 have hA:DataW.TrodAll enc Tryz.prog W 0 (fun _=>true) true Tryz.f10.params.toList args.toList ds p:=hA0
 rw [Tryz.params10] at hA hval
 obtain ⟨v0,vs0,d0,ds0,p0,q0,hargs,rfl,rfl,h0,r0⟩:=trodAll_cons hA
 obtain ⟨v1,vs1,d1,ds1,p1,q1,rfl,rfl,rfl,h1,r1⟩:=trodAll_cons r0
 obtain ⟨v2,vs2,d2,ds2,p2,q2,rfl,rfl,rfl,h2,r2⟩:=trodAll_cons r1
 obtain ⟨rfl,rfl,rfl⟩:=trodAll_nil r2
 obtain rfl:args=#[v0,v1,v2]:=by cases args;simp_all
 obtain ⟨rfl,rfl⟩:=trodVars_none hV
 obtain ⟨a0,t0⟩:=Go.Proofs.YtikokmdpigploaaGreat.open_trace (hval 0 32 v0 rfl rfl) h0
 obtain ⟨a1,rfl,rfl,rfl,w1⟩:=open_int Tryz.underlying3 (hval 1 3 v1 rfl rfl) h1
 obtain ⟨a2,t2⟩:=Go.Proofs.YtikokmdpigploaaGreat.open_fracs (hval 2 49 v2 rfl rfl) h2
 refine (a3o (a7N a0 a1 a2) (.cons (t0) (.cons (av9) (.cons (t2) (.nil))))).mono fun ee W' ⟨he,hg⟩=>?_
 subst he
 exact ⟨_,rfl,af6 hW' a9G (by rw [Tryz.params10];intro t ht;simp at ht;first|(rcases ht with rfl|rfl|rfl<;>exact ⟨by kernel_rfl,lbM (by kernel_rfl)⟩)|(rcases ht with rfl|rfl|rfl<;>exact ⟨by kernel_rfl,lbM (by kernel_rfl)⟩)) rfl rfl (by kernel_rfl) Tryz.underlying4 hg⟩
theorem a4N:(Rows.explainMinimalRow.inPlace == Tryz.pinned.checked.prog.inPlace 10)=true:=by kernel_rfl
theorem a6a:(Rows.explainMinimalRow.unfollowed == Tryz.pinned.checked.prog.unfollowed 10)=true:=by kernel_rfl
theorem a6e:(Rows.explainMinimalRow.recurses == Tryz.pinned.checked.prog.recurses 10)=true:=by kernel_rfl
theorem a47:(Rows.explainMinimalRow.named == Tryz.pinned.checked.prog.varsNamed 10)=true:=by kernel_rfl
theorem a48:(Rows.explainMinimalRow.loops == (Tryz.f10.params.toList++Rows.explainMinimalSpec.plain.varTypes Tryz.pinned.checked.prog).any (Tryz.pinned.checked.prog.loopsFrom ·))=true:=by kernel_rfl
set_option maxRecDepth 100000 in
theorem a3W:joinedFacts Tryz.pinned.checked.prog 10 Tryz.f10 (Rows.explainMinimalSpec) Rows.explainMinimalRow=true:=a8n (by kernel_rfl) aC9 au7 (by kernel_rfl) (by kernel_rfl) (by kernel_rfl) (by kernel_rfl) (by kernel_rfl) (by kernel_rfl) a4N a6a a6e a47 (by kernel_rfl) (by kernel_rfl) (by kernel_rfl) a48 (by kernel_rfl) (by kernel_rfl) (by kernel_rfl) (by kernel_rfl) (by kernel_rfl) aD0 (by kernel_rfl) ab7 ad7 az3 ax4 (by kernel_rfl) (by kernel_rfl) (by kernel_rfl) (by kernel_rfl) (by kernel_rfl)
theorem explainMinimal_holds:Rows.ExplainMinimalSaid:=
 OpenClaim.holds_of_wide 10 Tryz.f10 rfl rfl rfl rfl rfl rfl rfl ⟨rfl,rfl,rfl,rfl,rfl⟩ rfl rfl rfl rfl rfl (by kernel_rfl) Tryz.func10 a3W
  (lbM (by kernel_rfl)) (by unfold Func.isWrapper;first|(rw [if_pos (by decide +kernel)];kernel_rfl)|(rw [if_neg (by decide +kernel)];exact ⟨rfl,rfl⟩))
  (fun os started H enc _=>a3X os started H enc)
end Go.Proofs.YtikokmdpigploaaGreat
