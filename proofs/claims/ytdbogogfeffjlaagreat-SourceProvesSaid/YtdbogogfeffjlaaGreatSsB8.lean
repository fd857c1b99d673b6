/- Chapter 21 in plain Lean: the system of a kind of foreign matter, and its solutions. No program is in sight. -/
import Derived.Test.YtdbogogfeffjlaaGreatSsB7
namespace Go.Proofs.YtdbogogfeffjlaaGreat
set_option linter.unusedVariables false
set_option linter.unusedSimpArgs false
set_option maxRecDepth 100000
open St1 St2 St3 St4 St5 St6
section
open Go.RowKit
theorem aq4 {P:Program} {g:FuncId} {n:Nat} {H H':Hp} {r:S} (h1:b9 P g [.c (.t (.sl n .nul []))] H r H') (h2:b9 P g [.c (.t (.sl n .non []))] H r H'):b9 P g [.c (.t (.sl n .any []))] H r H':=by
 refine ⟨h1.1,fun w ι M vals hl hv hH hM hf=>?_⟩
 have h0:=hv 0 _ rfl
 have key:RS w ι M (.c (.t (.sl n .nul []))) (vals.getD 0 undef)∨RS w ι M (.c (.t (.sl n .non []))) (vals.getD 0 undef):=by
  generalize vals.getD 0 undef=v at h0
  cases h0 with
  |c h=>cases h with
   |t h=>cases h with
    |@sl _ _ _ b off cap A f hrow hcap hmax hk hn hA hc hr hx=>
     cases A with
     |none=>exact .inl (.c (.t (.sl (b:=b) (off:=off) f hrow hcap hmax (fun h=>nomatch h) (fun h=>nomatch h) hA hc hr ⟨fun _=>⟨rfl,rfl⟩,fun h=>nomatch h⟩)))
     |some a=>exact .inr (.c (.t (.sl (b:=b) (off:=off) f hrow hcap hmax (fun h=>nomatch h) (fun h=>nomatch h) hA hc hr ⟨(fun h=>nomatch h),fun _=>(fun h=>nomatch h)⟩)))
 have one:∀s,RS w ι M s (vals.getD 0 undef)→∀j s',[s][j]? =some s'→RS w ι M s' (vals.getD j undef):=fun s hs j s' hj=>by
  cases j with
  |zero=>injection hj with hj;subst hj;exact hs
  |succ j=>simp at hj
 rcases key with k|k
 ·exact h1.2 w ι M vals hl (one _ k) hH hM hf
 ·exact h2.2 w ι M vals hl (one _ k) hH hM hf
theorem aO2:b9 Tryz.prog 159 [.c (.t (.sl 6 .any []))] [] (.c (.own 0 0 0 true)) [P4 []]:=by
 refine aq4 ?_ ?_
 ·(refine a8 a7 Tryz.func159 rfl (by decide) ?_;(conv=>whnf);repeat (refine zy ?_;conv=>whnf))
  repeat' first|(refine zd ?_ ?_<;>intro h<;>first|exact zc h|(exfalso;omega)|conv=>whnf)|((first|refine zz ?_|refine zy ?_);conv=>whnf)
  all_goals first
   |exact ⟨[none],rfl,rfl,⟨⟨rfl,rfl⟩,trivial⟩,⟨rfl,rfl,rfl⟩⟩
 ·(refine a8 a7 Tryz.func159 rfl (by decide) ?_;(conv=>whnf);repeat (refine zy ?_;conv=>whnf))
  repeat' first|(refine zd ?_ ?_<;>intro h<;>first|exact zc h|(exfalso;omega)|conv=>whnf)|((first|refine zz ?_|refine a0X rfl (by decide) ?_|refine zy ?_);conv=>whnf)
  all_goals first
   |exact ⟨[some 0],rfl,rfl,⟨b8 (rows:=([]:List x7).map s7) rfl rfl rfl rfl rfl,trivial⟩,⟨rfl,rfl,rfl,fun h=>h⟩⟩
theorem aU4 (l:List x7) (h1:l.length≤100000):b9 Tryz.prog 159 [.c (.t (B2 l))] [] (.c (.own 0 0 l.length true)) [P4 l]:=by
 have m1:(l.map s7).length=l.length:=by simp
 by_cases h0:l.length=0
 ·have:l=[]:=List.length_eq_zero_iff.1 h0
  subst this
  exact aO2
 have hl:0<(l.map s7).length:=by omega
 (refine a8 a7 Tryz.func159 rfl (by decide) ?_;(conv=>whnf);repeat (refine zy ?_;conv=>whnf))
 repeat' first|(refine zd ?_ ?_<;>intro h<;>first|exact zc h|(exfalso;omega)|conv=>whnf)|((first|refine zz ?_|refine qp (toC,List.length_map,List.length_nil) ?_|refine qp (toC,List.length_map) ?_|refine ⟨hl,?_⟩|refine zz ?_|refine a0X rfl (by simp only [toC,List.length_map,List.length_nil];omega) ?_|refine t9 (Nat.zero_le _) (by simp only [toC,List.length_map];omega) ?_|refine zy ?_);conv=>whnf)
 all_goals first
  |(exfalso;omega)
  |exact ⟨[some 0],rfl,rfl,⟨b8 (rows:=l.map s7) rfl rfl rfl rfl rfl,trivial⟩,⟨rfl,rfl,by simp [toC],fun h=>h⟩⟩
set_option maxHeartbeats 2000000 in
theorem b1p (s:f5) (g:List (Int × Rat)) (hl:s.rows.length≤100000):b9 Tryz.prog 89 [F0 s,j2 g] [] (F0 (v6 s g)) []:=by
 have m1:(s.rows.map s7).length=s.rows.length:=by simp
 have i0:=E4 0 (by decide) (by decide)
 have cl:=fun H:Hp=>a3Q (H:=H) (aU4 s.rows hl) rfl rfl (g4 _)
 (refine a8 a7 Tryz.func89 rfl (by decide) ?_;(conv=>whnf);repeat (refine zy ?_;conv=>whnf))
 repeat' first|(refine zd ?_ ?_<;>intro h<;>first|exact zc h|(exfalso;omega)|conv=>whnf)|((first|refine zz ?_|refine qp i0 ?_|refine qp toC ?_|refine qp toC ?_|refine qp (0,1) ?_|refine .inl ⟨_,_,cl _,?_⟩|refine t9 (by simp [toC]) (by simp [toC];omega) ?_|refine bl0 [0,1] ?_|refine zy ?_);conv=>whnf)
 all_goals first
  |(refine j5 ⟨rfl,?_,trivial⟩
    show VC _ (fun id=>I9 [] id=true) (C.own 2 0 _ true) (B2 (v6 s g).rows)
    refine t8 (rows:=(s.rows++[(⟨g,2,((0:Int):Rat)⟩:x7)]).map s7) rfl rfl (fun h=>h) rfl ?_ ?_
    ·exact U5 (f:=s7) (x:=(⟨g,2,((0:Int):Rat)⟩:x7)) rfl
    ·simp [toC])
theorem b0C:b9 Tryz.prog 69 [frS C2] [] (a9 .i64 0) []:=by
 have rr:=a5G C2 (by decide) (by decide)
 have e:t6 C2=false:=by decide +kernel
 rw [e] at rr
 (refine a8 a7 Tryz.func69 rfl (by decide) ?_;(conv=>whnf);repeat ((first|refine b0x ?_|refine zy ?_);conv=>whnf))
 repeat' first|(refine zd ?_ ?_<;>intro h<;>first|exact zc h|(exfalso;omega)|conv=>whnf)|((first|refine zz ?_|refine qp rr ?_|refine zy ?_);conv=>whnf)
 all_goals exact j8 rfl
theorem a6K (l:List (Int × Rat)) (z:List Fr) (hl:l.length≤1000000) (h1:∀t ∈ l,rl t.2≤200) (hz:a94 z) (hr:(e7 (-1) z.length l && z.all t6)=false):
 b9 Tryz.prog 158 [j2 l,k7 z] [] (.tup [frS C2,e6 false]) []:=by
 have m2:(z.map j7).length=z.length:=by simp
 have rt:=I0 l z.length hl h1
 rw [decide_eq_true (by omega),Bool.true_and] at rt
 have rt2:b9 Tryz.prog 161 [j2 l,a9 .i64 ((z.map j7).length:Nat)] [] (e6 (e7 (-1) z.length l)) []:=by rw [m2];exact rt
 have pt:=a7f z hz.l hz.d
 cases h1:e7 (-1) z.length l<;>cases h2:z.all t6<;>rw [h1] at rt2<;>rw [h2] at pt<;>
 ·first
   |(exfalso;rw [h1,h2] at hr;cases hr;done)
   |((refine a8 a7 Tryz.func158 rfl (by decide) ?_;(conv=>whnf);repeat ((first|refine b0x ?_|refine zy ?_);conv=>whnf))
     repeat' first|(refine zd ?_ ?_<;>intro h<;>first|exact zc h|(exfalso;omega)|conv=>whnf)|((first|refine zz ?_|refine qp rt2 ?_|refine qp pt ?_|refine zy ?_);conv=>whnf)
     all_goals first
      |(exfalso;simp_all;done)
      |exact j5 ⟨⟨rfl,rfl,rfl,rfl,trivial⟩,rfl,trivial⟩)
theorem aB8 (s:f5) (hb:U7 s) (hr:f9 s=true) (z:List Fr) (hz:a94 z) (h:z.all t6=false):
 b9 Tryz.prog 43 [F0 s,k7 z] [] (e6 false) []:=by
 have m2:(z.map j7).length=z.length:=by simp
 have l1:=hb.n0
 have lr:=a1D s hb
 rw [hr] at lr
 have pt:=a7f z hz.l hz.d
 rw [h] at pt
 (refine a8 a7 Tryz.func43 rfl (by decide) ?_;(conv=>whnf);repeat ((first|refine b0x ?_|refine zy ?_);conv=>whnf))
 repeat' first|(refine zd ?_ ?_<;>intro h<;>first|exact zc h|(exfalso;omega)|conv=>whnf)|((first|refine zz ?_|refine qp lr ?_|refine qp pt ?_|refine zy ?_);conv=>whnf)
 all_goals first
  |(exfalso;omega)
  |exact c6 rfl
def inF (s:f5) (g:List (Int × Rat)) (x:List Fr) (is:Bool):Bool:=x.all t6 && a0R s g (x.map fv) is
structure PtF (s:f5) (g:List (Int × Rat)) (x:List Fr):Prop where
 r:a94 x
 p:x.all t6=true→PtB s (x.map fv)
 g:x.all t6=true→∀k,rl (j3 (g.take k) (x.map fv))≤50000
set_option maxHeartbeats 2000000 in
theorem b69 (s:f5) (hb:U7 s) (hr:f9 s=true) (g:List (Int × Rat)) (hg:e7 (-1) s.n g=true) (hgb:∀t ∈ g,rl t.2≤200) (x:List Fr) (hp:PtF s g x) (is:Bool):
 b9 Tryz.prog 87 [F0 s,j2 g,k7 x,e6 is] [] (e6 (inF s g x is)) []:=by
 have hn:=a2v hr
 have hnn:s.n≤1500:=by
  unfold f9 at hr
  simp only [Bool.and_eq_true,decide_eq_true_eq] at hr
  exact hr.1.1.2
 have hgl:g.length≤1500:=by have:=w6 hg;omega
 have sz:=b0C
 unfold inF
 cases hx:x.all t6 with
 |false=>
  rw [Bool.false_and]
  have ho:=aB8 s hb hr x hp.r hx
  have va:=a6K g x (by omega) hgb hp.r (by rw [hx,Bool.and_false])
  (refine a8 a7 Tryz.func87 rfl (by decide) ?_;(conv=>whnf);repeat ((first|refine b0x ?_|refine zy ?_);conv=>whnf))
  repeat' first|(refine zd ?_ ?_<;>intro h<;>first|exact zc h|(exfalso;omega)|conv=>whnf)|((first|refine zz ?_|refine qp va ?_|refine qp ho ?_|refine qp 5 ?_|refine bl0 [5] ?_|refine zy ?_);conv=>whnf)
  all_goals first
   |(exfalso;contradiction)
   |exact c6 rfl
 |true=>
  rw [Bool.true_and]
  have pp:=hp.p hx
  have pg:=hp.g hx
  obtain ⟨X,rfl⟩:=W4 hx
  rw [a00] at pp pg ⊢
  have ho:=b0u s hb hr X pp
  unfold a0R
  cases hh:i7 s X with
  |true=>
   rw [hh] at ho
   have hnx:=(S6 hh).2
   have va:=a8d g X (by omega) hgb pp.v (fun k=>by have:=pg k;omega) pp.l (by rw [hnx];exact hg)
   have bv:=pg g.length
   rw [lg4 (Nat.le_refl _)] at bv
   have sg:=K9 (j3 g X) (by omega)
   have sp:=a1d (x:=j3 g X)
   have e:decide (0<j3 g X)=decide (sgR (j3 g X) > 0):=by rw [decide_eq_decide];exact sp.symm
   rw [e]
   generalize sgR (j3 g X)=U at sg
   clear sp e
   cases is<;>
   ·(refine a8 a7 Tryz.func87 rfl (by decide) ?_;(conv=>whnf);repeat ((first|refine b0x ?_|refine zy ?_);conv=>whnf))
    repeat' first|(refine zd ?_ ?_<;>intro h<;>first|exact zc h|(exfalso;omega)|conv=>whnf)|((first|refine zz ?_|refine qp va ?_|refine qp ho ?_|refine qp sg ?_|refine qp 5 ?_|refine bl0 [5] ?_|refine zy ?_);conv=>whnf)
    all_goals first
     |(exfalso;contradiction)
     |(have hd:decide (U > 0)=true:=decide_eq_true (by omega)
       refine c6 ?_;rw [hd];rfl)
     |(have hd:decide (U > 0)=false:=decide_eq_false (by omega)
       refine c6 ?_;rw [hd];rfl)
  |false=>
   rw [hh] at ho
   cases hrt:e7 (-1) X.length g with
   |true=>
    have va:=a8d g X (by omega) hgb pp.v (fun k=>by have:=pg k;omega) pp.l hrt
    (refine a8 a7 Tryz.func87 rfl (by decide) ?_;(conv=>whnf);repeat ((first|refine b0x ?_|refine zy ?_);conv=>whnf))
    repeat' first|(refine zd ?_ ?_<;>intro h<;>first|exact zc h|(exfalso;omega)|conv=>whnf)|((first|refine zz ?_|refine qp va ?_|refine qp ho ?_|refine qp 5 ?_|refine bl0 [5] ?_|refine zy ?_);conv=>whnf)
    all_goals first
     |(exfalso;contradiction)
     |exact c6 rfl
   |false=>
    have va:=a6K g (X.map fz) (by omega) hgb hp.r (by rw [List.length_map,hrt];rfl)
    (refine a8 a7 Tryz.func87 rfl (by decide) ?_;(conv=>whnf);repeat ((first|refine b0x ?_|refine zy ?_);conv=>whnf))
    repeat' first|(refine zd ?_ ?_<;>intro h<;>first|exact zc h|(exfalso;omega)|conv=>whnf)|((first|refine zz ?_|refine qp va ?_|refine qp ho ?_|refine qp 5 ?_|refine bl0 [5] ?_|refine zy ?_);conv=>whnf)
    all_goals first
     |(exfalso;contradiction)
     |exact c6 rfl
end

section
open Go.RowKit
structure a33 where
 hh:Int
 state:Int
 w:List Fr
 wo:List Fr
 pr:List Fr
def a33.row (v:a33):List T:=[ti v.hh,ti v.state,M8 v.w,M8 v.wo,M8 v.pr]
abbrev a6H (v:a33):S:=.agg (v.row.map C.t)
def Z9.raw (v:Z9):a33:=⟨v.hh,v.state,v.w.map fz,v.wo.map fz,v.pr.map fz⟩
def a33.val (v:a33):Z9:=⟨v.hh,v.state,v.w.map fv,v.wo.map fv,v.pr.map fv⟩
def ax6 (s:f5) (y:List Fr):Bool:=(decide (y.length=s.rows.length) && y.all t6) && a5f s (y.map fv)
def aD6 (s:f5) (g:List (Int × Rat)) (y:List Fr):Bool:=(decide (y.length=s.rows.length) && y.all t6) && (U8 s g (y.map fv) && decide (J4 s (yN (y.map fv))=0))
def a1T (s:f5) (g:List (Int × Rat)) (v:a33):Bool:=
 if v.state=2 then decide (v.wo.length=0) && inF s g v.w true && ax6 (v6 s g) v.pr
 else if v.state=0 then decide (v.w.length=0) && inF s g v.wo false && aD6 s (u7 g) v.pr
 else if v.state=1 then decide (v.pr.length=0) && inF s g v.w true && inF s g v.wo false
 else false
structure aB0 (s:f5) (y:List Fr):Prop where
 r:a94 y
 m:y.length=s.rows.length→y.all t6=true→a4u s (y.map fv)
theorem b4m (s:f5) (hb:U7 s) (hr:f9 s=true) (hn1:s.n≤1000) (y:List Fr) (hy:aB0 s y):
 b9 Tryz.prog 88 [F0 s,k7 y] [] (e6 (ax6 s y)) []:=by
 unfold ax6
 cases h:(decide (y.length=s.rows.length) && y.all t6) with
 |false=>rw [Bool.false_and];exact a9c s hb hr y hy.r h
 |true=>
  rw [Bool.true_and]
  rw [Bool.and_eq_true,decide_eq_true_eq] at h
  have hm:=hy.m h.1 h.2
  obtain ⟨Y,rfl⟩:=W4 h.2
  rw [a00] at hm ⊢
  exact aE3 s hb hr hn1 Y hm.y (by have:=hm.l;have:=hm.m;omega) (fun _=>hm)
def am4 (s:f5) (g:List (Int × Rat)) (y:List Fr):S:=if (decide (y.length=s.rows.length) && y.all t6)=true then a1F s g (y.map fv) else .tup [frS C2,e6 false]
theorem b4v (s:f5) (hb:U7 s) (hr:f9 s=true) (hn1:s.n≤1000) (g:List (Int × Rat)) (hg:g.length≤1000000) (hgb:∀t ∈ g,rl t.2≤200) (y:List Fr) (hy:aB0 s y):
 b9 Tryz.prog 90 [F0 s,j2 g,k7 y] [] (am4 s g y) []:=by
 unfold am4
 cases h:(decide (y.length=s.rows.length) && y.all t6) with
 |false=>rw [if_neg (by decide)];exact a6F s hb hr g y hy.r h
 |true=>
  rw [if_pos rfl]
  rw [Bool.and_eq_true,decide_eq_true_eq] at h
  have hm:=hy.m h.1 h.2
  obtain ⟨Y,rfl⟩:=W4 h.2
  rw [a00] at hm ⊢
  exact ao4 s hb hr hn1 g hg hgb Y hm.y (by have:=hm.l;have:=hm.m;omega) (fun _=>hm)
theorem an4 (s:f5) (g:List (Int × Rat)) (y:List Fr) (hy:aB0 s y):(am4 s g y=.tup [frS C2,e6 false]∧aD6 s g y=false)∨∃x,rl x≤50000∧am4 s g y=.tup [frS (fz x),e6 true]∧aD6 s g y=decide (x=0):=by
 unfold am4 aD6
 cases h:(decide (y.length=s.rows.length) && y.all t6) with
 |false=>exact .inl ⟨by rw [if_neg (by decide)],rfl⟩
 |true=>
  rw [if_pos rfl,Bool.true_and]
  unfold a1F
  cases hB:U8 s g (y.map fv) with
  |false=>exact .inl ⟨by rw [if_neg (by decide)],rfl⟩
  |true=>
   rw [if_pos rfl,Bool.true_and]
   rw [Bool.and_eq_true,decide_eq_true_eq] at h
   exact .inr ⟨_,(hy.m h.1 h.2).v s.rows.length,rfl,rfl⟩
structure aV2 (s:f5) (g:List (Int × Rat)) (v:a33):Prop where
 w:PtF s g v.w
 wo:PtF s g v.wo
 m1:aB0 (v6 s g) v.pr
 m0:aB0 s v.pr
set_option maxHeartbeats 8000000 in
theorem aq0 (t:l9) (kind:Int) (hs:t.Sized) (ht:p6 t=0) (k0:0≤kind) (k1:kind<8) (v:a33) (h0:0≤v.hh) (h1:v.hh<t.ev.hhs) (hm:t.ev.moves.length≤100) (hl:(e8 t kind).rows.length<6000)
 (hb:U7 (e8 t kind)) (hr:f9 (e8 t kind)=true) (hv:aV2 (e8 t kind) (o9 t v.hh) v):
 b9 Tryz.prog 30 [trS t,a9 .i64 kind,a6H v] [] (e6 (a1T (e8 t kind) (o9 t v.hh) v)) []:=by
 have sy:=a30 t kind hs
 have hc:¬(p6 t≠0∨kind<0∨8≤kind):=by omega
 have e1:a19 t kind=0:=if_neg hc
 have e2:a5p t kind=e8 t kind:=if_neg hc
 rw [e1,e2] at sy
 have go:=a7n t hs v.hh (by have:=a4n (t:=t) (h:=v.hh);omega)
 have eg:a2J t v.hh=o9 t v.hh:=if_pos ⟨ht,h0,h1⟩
 rw [eg] at go
 have hgr:e7 (-1) (e8 t kind).n (o9 t v.hh)=true:=K7 t v.hh
 have hgb:∀u ∈ o9 t v.hh,rl u.2≤200:=fun u hu=>by have:=P8 (S2 t v.hh) u hu;omega
 have hsn:(e8 t kind).n=t.ev.moves.length:=rfl
 have hn1:(e8 t kind).n≤1000:=by omega
 have hgl:(o9 t v.hh).length≤100:=by
  have:=w6 hgr
  omega
 generalize o9 t v.hh=g at go hgr hgb hgl hv
 have m1:(v.w.map j7).length=v.w.length:=by simp
 have m2:(v.wo.map j7).length=v.wo.length:=by simp
 have m3:(v.pr.map j7).length=v.pr.length:=by simp
 have i1:=b69 _ hb hr g hgr hgb v.w hv.w true
 have i2:=b69 _ hb hr g hgr hgb v.wo hv.wo false
 unfold a1T
 by_cases s2:v.state=2
 ·rw [if_pos s2]
  have ne:=b1p (e8 t kind) g (by omega)
  have rf:=b4m (v6 (e8 t kind) g) (aI3 hb hl hgl hgb) (a18 hr hl hgr) hn1 v.pr hv.m1
  generalize inF (e8 t kind) g v.w true=I1 at i1
  generalize ax6 (v6 (e8 t kind) g) v.pr=R1 at rf
  cases I1<;>cases R1<;>
  ·(refine a8 a7 Tryz.func30 rfl (by decide) ?_;(conv=>whnf);repeat ((first|refine b0x ?_|refine zy ?_);conv=>whnf))
   repeat' first|(refine zd ?_ ?_<;>intro h<;>first|exact zc h|(exfalso;omega)|conv=>whnf)|((first|refine zz ?_|refine qp sy ?_|refine qp go ?_|refine qp i1 ?_|refine qp ne ?_|refine qp rf ?_|refine qp 5 ?_|refine bl0 [5] ?_|refine zy ?_);conv=>whnf)
   all_goals first
    |(exfalso;omega)
    |(exfalso;contradiction)
    |(have hd:decide (v.wo.length=0)=true:=decide_eq_true (by omega)
      refine c6 ?_;rw [hd];rfl)
    |(have hd:decide (v.wo.length=0)=false:=decide_eq_false (by omega)
      refine c6 ?_;rw [hd];rfl)
 rw [if_neg s2]
 by_cases s0:v.state=0
 ·rw [if_pos s0]
  have op:=a1Q g (a2O (by omega) hgr) hgb
  have lo:=b4v _ hb hr hn1 (u7 g) (by rw [a11];omega) (b16 hgb) v.pr hv.m0
  generalize inF (e8 t kind) g v.wo false=I2 at i2
  rcases an4 (e8 t kind) (u7 g) v.pr hv.m0 with ⟨e3,e4⟩|⟨x,bx,e3,e4⟩
  ·rw [e3] at lo
   rw [e4,Bool.and_false]
   cases I2<;>
   ·(refine a8 a7 Tryz.func30 rfl (by decide) ?_;(conv=>whnf);repeat ((first|refine b0x ?_|refine zy ?_);conv=>whnf))
    repeat' first|(refine zd ?_ ?_<;>intro h<;>first|exact zc h|(exfalso;omega)|conv=>whnf)|((first|refine zz ?_|refine qp sy ?_|refine qp go ?_|refine qp i2 ?_|refine qp op ?_|refine qp lo ?_|refine qp 5 ?_|refine qp 8 ?_|refine bl0 [5] ?_|refine bl0 [8] ?_|refine zy ?_);conv=>whnf)
    all_goals first
     |(exfalso;omega)
     |(exfalso;contradiction)
     |exact c6 rfl
  ·rw [e3] at lo
   rw [e4]
   have sg:=K9 x (by omega)
   have sz:=a0M (x:=x)
   have e:decide (x=0)=decide (sgR x=0):=by rw [decide_eq_decide];exact sz.symm
   rw [e]
   generalize sgR x=U at sg
   clear sz e
   cases I2<;>
   ·(refine a8 a7 Tryz.func30 rfl (by decide) ?_;(conv=>whnf);repeat ((first|refine b0x ?_|refine zy ?_);conv=>whnf))
    repeat' first|(refine zd ?_ ?_<;>intro h<;>first|exact zc h|(exfalso;omega)|conv=>whnf)|((first|refine zz ?_|refine qp sy ?_|refine qp go ?_|refine qp i2 ?_|refine qp op ?_|refine qp lo ?_|refine qp sg ?_|refine qp 5 ?_|refine qp 8 ?_|refine bl0 [5] ?_|refine bl0 [8] ?_|refine zy ?_);conv=>whnf)
    all_goals first
     |(exfalso;omega)
     |(exfalso;contradiction)
     |(refine c6 ?_
       first
        |(rw [show decide (v.w.length=0)=true from decide_eq_true (by omega)];first|rfl|(rw [show decide (U=0)=true from decide_eq_true (by omega)];rfl)|(rw [show decide (U=0)=false from decide_eq_false (by omega)];rfl))
        |(rw [show decide (v.w.length=0)=false from decide_eq_false (by omega)];rfl))
 rw [if_neg s0]
 by_cases s1:v.state=1
 ·rw [if_pos s1]
  generalize inF (e8 t kind) g v.w true=I1 at i1
  generalize inF (e8 t kind) g v.wo false=I2 at i2
  cases I1<;>cases I2<;>
  ·(refine a8 a7 Tryz.func30 rfl (by decide) ?_;(conv=>whnf);repeat ((first|refine b0x ?_|refine zy ?_);conv=>whnf))
   repeat' first|(refine zd ?_ ?_<;>intro h<;>first|exact zc h|(exfalso;omega)|conv=>whnf)|((first|refine zz ?_|refine qp sy ?_|refine qp go ?_|refine qp i1 ?_|refine qp i2 ?_|refine qp 5 ?_|refine bl0 [5] ?_|refine zy ?_);conv=>whnf)
   all_goals first
    |(exfalso;omega)
    |(exfalso;contradiction)
    |(have hd:decide (v.pr.length=0)=true:=decide_eq_true (by omega)
      refine c6 ?_;rw [hd];rfl)
    |(have hd:decide (v.pr.length=0)=false:=decide_eq_false (by omega)
      refine c6 ?_;rw [hd];rfl)
 ·rw [if_neg s1]
  (refine a8 a7 Tryz.func30 rfl (by decide) ?_;(conv=>whnf);repeat ((first|refine b0x ?_|refine zy ?_);conv=>whnf))
  repeat' first|(refine zd ?_ ?_<;>intro h<;>first|exact zc h|(exfalso;omega)|conv=>whnf)|((first|refine zz ?_|refine qp sy ?_|refine qp go ?_|refine qp 5 ?_|refine bl0 [5] ?_|refine zy ?_);conv=>whnf)
  all_goals first
   |(exfalso;omega)
   |(exfalso;contradiction)
   |exact c6 rfl
set_option maxHeartbeats 2000000 in
theorem a3j (t:l9) (kind:Int) (hs:t.Sized) (v:a33) (h:a19 t kind≠0∨v.hh<0∨t.ev.hhs≤v.hh):
 b9 Tryz.prog 30 [trS t,a9 .i64 kind,a6H v] [] (e6 false) []:=by
 have sy:=a30 t kind hs
 (refine a8 a7 Tryz.func30 rfl (by decide) ?_;(conv=>whnf);repeat ((first|refine b0x ?_|refine zy ?_);conv=>whnf))
 repeat' first|(refine zd ?_ ?_<;>intro h<;>first|exact zc h|(exfalso;omega)|conv=>whnf)|((first|refine zz ?_|refine qp sy ?_|refine qp 5 ?_|refine bl0 [5] ?_|refine zy ?_);conv=>whnf)
 all_goals first
  |(exfalso;omega)
  |(exfalso;contradiction)
  |exact c6 rfl
end
section
open Go.RowKit
theorem aF1 {s:f5} {g:List (Int × Rat)} {Y:List Rat} (hr:f9 s=true) (h:U8 s g Y=true):aV0 s (u3 g) (yN Y) (J4 s (yN Y)):=by
 unfold U8 N8 at h
 simp only [Bool.and_eq_true,decide_eq_true_eq,List.all_eq_true] at h
 obtain ⟨⟨⟨h1,h2⟩,h3⟩,h4⟩:=h
 refine ⟨fun i w hw=>?_,fun l hl=>?_,rfl⟩
 ·have:=h2 i (List.mem_range.2 (lg1 hw).1)
  unfold sgB at this
  rw [F9 hw] at this
  simp only [Bool.not_eq_true',Bool.or_eq_false_iff,Bool.and_eq_false_iff,decide_eq_false_iff_not] at this
  obtain ⟨a,b⟩:=this
  exact ⟨fun hk=>by
   rcases a with a|a
   ·exact absurd hk a
   ·exact Rat.not_lt.1 a,fun hk=>by
   rcases b with b|b
   ·exact absurd hk b
   ·exact Rat.not_lt.1 b⟩
 ·exact h4 l (List.mem_range.2 hl)
theorem never_holds {s:f5} {g:List (Int × Rat)} {z:List Rat} (hr:f9 s=true) (hl:s.rows.length<6000) (hg:e7 (-1) s.n g=true) (hz:i7 s z=true) (h0:j3 g z=0):i7 (v6 s g) z=true:=by
 obtain ⟨h1,h2,h3,h4⟩:=W9.1 hz
 refine W9.2 ⟨a18 hr hl hg,h2,h3,fun w hw=>?_⟩
 rcases List.mem_append.1 hw with h|h
 ·exact h4 w h
 ·have h:=List.mem_singleton.1 h
  subst h
  have e1:((0:Int):Rat)=0:=rfl
  simp only
  rw [h0,e1]
  exact ⟨fun _=>Rat.le_refl,fun _=>Rat.le_refl⟩
theorem b0s {s:f5} {Y:List Rat} (hr:f9 s=true) (h:a5f s Y=true) (z:List Rat):i7 s z=false:=by
 cases hz:i7 s z with
 |false=>rfl
 |true=>
  exfalso
  unfold a5f at h
  rw [Bool.and_eq_true,decide_eq_true_eq] at h
  have hb:=aa1 (g:=[]) (aF1 hr h.1) hz
  rw [u6 fun j hj=>by show (0:Rat)*_=0;grind] at hb
  have:=h.2
  grind
theorem a2E {s:f5} {g:List (Int × Rat)} {x:List Fr} {is:Bool} (h:inF s g x is=true):∃z,i7 s z=true∧(0<j3 g z↔is=true):=by
 unfold inF a0R at h
 simp only [Bool.and_eq_true,beq_iff_eq] at h
 refine ⟨_,h.2.1,?_⟩
 have:=h.2.2
 cases is with
 |true=>exact ⟨fun _=>rfl,fun _=>of_decide_eq_true this⟩
 |false=>exact ⟨fun h=>absurd h (of_decide_eq_false this),fun h=>by cases h⟩
theorem av3 {s:f5} {g:List (Int × Rat)} (h:VdP s g) (hl:s.rows.length<6000) {v:a33} (hv:a1T s g v=true) (hh:Int):v.state=(w8 s g hh).state:=by
 have hn:=a2v h.r
 have hg:e7 (-1) s.n g=true:=by have:=h.g;rwa [hn] at this
 unfold a1T at hv
 by_cases s2:v.state=2
 ·rw [if_pos s2] at hv
  simp only [Bool.and_eq_true] at hv
  obtain ⟨⟨_,h1⟩,h2⟩:=hv
  obtain ⟨z,hz,hp⟩:=a2E h1
  have hp:=hp.2 rfl
  unfold ax6 at h2
  rw [Bool.and_eq_true] at h2
  have none:∀y,i7 s y=true→j3 g y≠0:=fun y hy e=>by
   have:=never_holds h.r hl hg hy e
   rw [b0s (a18 h.r hl hg) h2.2] at this;cases this
  rcases W1 h hh with ⟨e,_⟩|⟨_,e⟩|⟨_,_,⟨y,hy,e⟩⟩
  ·rw [e,s2]
  ·exact absurd (e z hz) (none z hz)
  ·exact absurd e (none y hy)
 rw [if_neg s2] at hv
 by_cases s0:v.state=0
 ·rw [if_pos s0] at hv
  simp only [Bool.and_eq_true] at hv
  obtain ⟨⟨_,h1⟩,h2⟩:=hv
  obtain ⟨z,hz,hp⟩:=a2E h1
  have hp:¬0<j3 g z:=fun h=>by have:=hp.1 h;cases this
  unfold aD6 at h2
  simp only [Bool.and_eq_true,decide_eq_true_eq] at h2
  have all:∀y,i7 s y=true→¬0<j3 g y:=fun y hy hpy=>by
   have hb:=aa1 (g:=u7 g) (aF1 h.r h2.2.1) hy
   have e:g8 (fun l=>u3 (u7 g) l*y.getD l 0) s.n.toNat=j3 (u7 g) y:=(Y4 h.og y).symm
   rw [e,Y2 (s:=s) (g:=g),h2.2.2] at hb
   grind
  rcases W1 h hh with ⟨_,e⟩|⟨e,_⟩|⟨_,⟨y,hy,e⟩,_⟩
  ·exact absurd (e z hz) hp
  ·rw [e,s0]
  ·exact absurd e (all y hy)
 rw [if_neg s0] at hv
 by_cases s1:v.state=1
 ·rw [if_pos s1] at hv
  simp only [Bool.and_eq_true] at hv
  obtain ⟨⟨_,h1⟩,h2⟩:=hv
  obtain ⟨z,hz,hp⟩:=a2E h1
  obtain ⟨y,hy,hq⟩:=a2E h2
  have hp:=hp.2 rfl
  have hq:¬0<j3 g y:=fun h=>by have:=hq.1 h;cases this
  rcases W1 h hh with ⟨_,e⟩|⟨_,e⟩|⟨e,_⟩
  ·exact absurd (e y hy) hq
  ·have:=e z hz;rw [this] at hp;exact absurd hp (by decide +kernel)
  ·rw [e,s1]
 ·rw [if_neg s1] at hv;cases hv
theorem am0 {s:f5} {g:List (Int × Rat)} (h:∀z,i7 s z=false) (v:a33):a1T s g v=false:=by
 have hi:∀x is,inF s g x is=false:=fun x is=>by
  cases hx:inF s g x is with
  |false=>rfl
  |true=>
   obtain ⟨z,hz,_⟩:=a2E hx
   rw [h z] at hz;cases hz
 unfold a1T
 rw [hi,hi]
 split
 ·simp
 ·split
  ·simp
  ·split
   ·simp
   ·rfl
theorem aN6 {s:f5} {g:List (Int × Rat)} (v:Z9):a8S s g v=true→a1T s g v.raw=true:=by
 intro h
 have hi:∀X is,inF s g (X.map fz) is=a0R s g X is:=fun X is=>by unfold inF;rw [V7,a00,Bool.true_and]
 have hrf:∀s Y,a5f s Y=true→ax6 s (Y.map fz)=true:=fun s Y hY=>by
  unfold ax6
  rw [V7,a00,Bool.and_true,List.length_map,hY,Bool.and_true]
  unfold a5f U8 N8 at hY
  simp only [Bool.and_eq_true,decide_eq_true_eq] at hY
  exact decide_eq_true hY.1.1.1.1
 have hlf:∀s g Y,(U8 s g Y && decide (J4 s (yN Y)=0))=true→aD6 s g (Y.map fz)=true:=fun s g Y hY=>by
  unfold aD6
  rw [V7,a00,Bool.and_true,List.length_map,hY,Bool.and_true]
  unfold U8 N8 at hY
  simp only [Bool.and_eq_true,decide_eq_true_eq] at hY
  exact decide_eq_true hY.1.1.1.1
 unfold a8S at h
 unfold a1T
 show (if v.state=2 then _ else _)=true
 by_cases s2:v.state=2
 ·rw [if_pos s2] at h ⊢
  simp only [Bool.and_eq_true] at h ⊢
  refine ⟨⟨?_,by show inF s g (v.w.map fz) true=true;rw [hi];exact h.1.2⟩,hrf _ _ h.2⟩
  have:=h.1.1
  show decide ((v.wo.map fz).length=0)=true
  rw [List.length_map];exact this
 rw [if_neg s2] at h ⊢
 by_cases s0:v.state=0
 ·have s0':v.raw.state=0:=s0
  rw [if_pos s0']
  rw [if_pos s0] at h
  rw [Bool.and_eq_true,Bool.and_eq_true] at h ⊢
  refine ⟨⟨?_,by show inF s g (v.wo.map fz) false=true;rw [hi];exact h.1.2⟩,hlf _ _ _ h.2⟩
  have:=h.1.1
  show decide ((v.w.map fz).length=0)=true
  rw [List.length_map];exact this
 have s0':¬v.raw.state=0:=s0
 rw [if_neg s0']
 rw [if_neg s0] at h
 by_cases s1:v.state=1
 ·have s1':v.raw.state=1:=s1
  rw [if_pos s1']
  rw [if_pos s1] at h
  simp only [Bool.and_eq_true] at h ⊢
  refine ⟨⟨?_,by show inF s g (v.w.map fz) true=true;rw [hi];exact h.1.2⟩,by show inF s g (v.wo.map fz) false=true;rw [hi];exact h.2⟩
  have:=h.1.1
  show decide ((v.pr.map fz).length=0)=true
  rw [List.length_map];exact this
 ·rw [if_neg s1] at h;cases h
theorem aK4 {s:f5} {g:List (Int × Rat)} {X:List Rat} (h:PtB s X) (hg:∀k,rl (j3 (g.take k) X)≤50000):PtF s g (X.map fz):=
 ⟨ah4 h.l (fun v hv=>by have:=h.v v hv;omega),fun _=>by rw [a00];exact h,fun _=>by rw [a00];exact hg⟩
theorem au7 {s:f5} {Y:List Rat} (hl:Y.length≤1000000) (hy:∀v ∈ Y,rl v≤40000) (h:Y.length=s.rows.length→a4u s Y):aB0 s (Y.map fz):=
 ⟨ah4 hl (fun v hv=>by have:=hy v hv;omega),fun h1 _=>by rw [a00];exact h (by simpa using h1)⟩
theorem aR0 {s:f5} {g:List (Int × Rat)} {v:Z9} (h:b3t s g v):aV2 s g v.raw:=
 ⟨aK4 h.w h.wg,aK4 h.wo h.og,au7 h.yl h.y h.m1,au7 h.yl h.y h.m0⟩
theorem aI6 {f:Nat→Rat} {B N:Nat} (h:∀i,rl (f i)≤B) (h0:∀i,N≤i→f i=0):∀k,rl (g8 f k)≤N*(B+1)+1:=by
 intro k
 by_cases hk:k≤N
 ·have h1:=a3H (f:=f) (B:=B) k fun j _=>h j
  have h2:=Nat.mul_le_mul_right (B+1) hk
  omega
 ·obtain ⟨d,rfl⟩:∃d,k=N+d:=⟨k - N,by omega⟩
  have e:g8 f (N+d)=g8 f N:=by
   clear hk
   induction d with
   |zero=>rfl
   |succ d ih=>show g8 f (N+d)+f (N+d)=_;rw [h0 _ (by omega),ih];grind
  rw [e]
  exact a3H (f:=f) (B:=B) N fun j _=>h j
theorem b05 {s:f5} {Y:List Rat} {B C N:Nat} (hl:Y.length=s.rows.length) (hN:Y.length≤N) (hB:1≤B) (hy:∀v ∈ Y,rl v≤B) (hc:∀w ∈ s.rows,(∀ t ∈ w.terms,rl t.2≤C)∧rl w.value≤C) (hC:1≤C) (hn:N*(B+C+1)+1≤40000) (hm:N≤1000000):a4u s Y:=by
 have hyi:∀i,rl (yN Y i)≤B:=fun i=>by
  unfold yN
  by_cases h:i<Y.length
  ·rw [lg3,lg0 h];exact hy _ (List.getElem_mem _)
  ·rw [lg3,List.getElem?_eq_none (by omega)];have:=rl0;show rl 0≤B;omega
 have hy0:∀i,N≤i→yN Y i=0:=fun i hi=>by unfold yN;rw [lg3,List.getElem?_eq_none (by omega)];rfl
 have hrow:∀i,(∀ t ∈ (o7 s i).terms,rl t.2≤C)∧rl (o7 s i).value≤C:=fun i=>by
  by_cases h:i<s.rows.length
  ·rw [F9 (lg0 h)];exact hc _ (List.getElem_mem _)
  ·have e:o7 s i=⟨[],2,0⟩:=by unfold o7;rw [lg3,List.getElem?_eq_none (by omega)];rfl
   rw [e]
   exact ⟨fun (t:Int × Rat) (ht:t ∈ [])=>by simp at ht,by have:=rl0;show rl 0≤C;omega⟩
 have hcof:∀i l,rl (u3 (o7 s i).terms l)≤C:=fun i l=>by
  have key:∀k,rl (G6 (o7 s i).terms k l)≤C:=by
   intro k
   induction k with
   |zero=>have:=rl0;show rl 0≤C;omega
   |succ k ih=>
    cases hk:(o7 s i).terms[k]? with
    |none=>rw [G6,hk];exact ih
    |some t=>
     rw [E5 hk]
     simp only
     split
     ·exact (hrow i).1 t (lg2 hk)
     ·exact ih
  exact key _
 refine ⟨fun v hv=>by
  have h1:=hy v hv
  by_cases h2:N=0
  ·have:Y=[]:=List.length_eq_zero_iff.1 (by omega)
   subst this;cases hv
  ·have:1*(B+C+1)≤N*(B+C+1):=Nat.mul_le_mul_right _ (by omega)
   omega,fun l k=>?_,fun k=>?_,hl,by omega⟩
 ·have:=aI6 (f:=fun i=>yN Y i*u3 (o7 s i).terms l) (B:=B+C) (N:=N) (fun i=>by have:=a1f (yN Y i) (u3 (o7 s i).terms l);have:=hyi i;have:=hcof i l;omega) (fun i hi=>by rw [hy0 i hi];grind) k
  have e:rl (K3 s (yN Y) l k)≤N*(B+C+1)+1:=this
  omega
 ·have:=aI6 (f:=fun i=>yN Y i*(o7 s i).value) (B:=B+C) (N:=N) (fun i=>by have:=a1f (yN Y i) (o7 s i).value;have:=hyi i;have:=(hrow i).2;omega) (fun i hi=>by rw [hy0 i hi];grind) k
  have e:rl (Q1 s (yN Y) k)≤N*(B+C+1)+1:=this
  omega
theorem aL9 {x:List Fr} {d:Int} {n:Nat} (h:x.length≤n∧∀f ∈ x,(f.p.dl.length:Int)≤d∧(f.q.dl.length:Int)≤d) (hn:n≤1000000) (hd:d≤200000):a94 x:=⟨by omega,fun f hf=>by have:=h.2 f hf;omega⟩
theorem aw0 {X:List Rat} {d:Nat} (h:∀f ∈ X.map fz,(f.p.dl.length:Int)≤d∧(f.q.dl.length:Int)≤d):∀v ∈ X,rl v≤d:=fun v hv=>by
 have:=h (fz v) (List.mem_map.2 ⟨v,hv,rfl⟩)
 have h1:(bl v.num:Int)≤d:=this.1
 have h2:(bl v.den:Int)≤d:=this.2
 show max (bl v.num) (bl v.den)≤d
 omega
theorem av6 {t:l9} {kind:Int} (ht:p6 t=0) (hm:t.ev.moves.length≤8) {g:List (Int × Rat)} (hg:e7 (-1) (t.ev.moves.length:Nat) g=true) (hw:D4 g) {v:a33}
 (h1:a05 v.w 40 4=true) (h2:a05 v.wo 40 4=true) (h3:a05 v.pr 40 4=true):aV2 (e8 t kind) g v:=by
 have p:=w5 (kind:=kind) ht hm hg hw
 have hI:=b0J (kind:=kind) ht
 have hr:=p.o.r
 have hn:(e8 t kind).n.toNat=t.ev.moves.length:=rfl
 have pt:∀x:List Fr,a05 x 40 4=true→PtF (e8 t kind) g x:=fun x hx=>by
  have hf:=a6A hx
  refine ⟨aL9 hf (by decide) (by decide),fun h=>?_,fun h=>?_⟩
  ·obtain ⟨X,rfl⟩:=W4 h
   have hX:=aw0 (d:=4) hf.2
   rw [a00]
   exact ae2 hr hI (B:=4) (by decide) (by omega) (by have:=hf.1;rw [List.length_map] at this;omega) hX
  ·obtain ⟨X,rfl⟩:=W4 h
   have hX:=aw0 (d:=4) hf.2
   rw [a00]
   exact ap9 hg hw (by omega) hX
 have rows:∀w ∈ (e8 t kind).rows,(∀ t ∈ w.terms,rl t.2≤11)∧rl w.value≤11:=fun w hw=>⟨fun t ht=>by have:=P8 (hI w hw).1 t ht;omega,(hI w hw).2⟩
 have ml:∀s:f5,(∀ w ∈ s.rows,(∀ t ∈ w.terms,rl t.2≤11)∧rl w.value≤11)→aB0 s v.pr:=fun s hs=>by
  have hf:=a6A h3
  refine ⟨aL9 hf (by decide) (by decide),fun hl h=>?_⟩
  obtain ⟨Y,hY⟩:=W4 h
  rw [hY] at hf hl ⊢
  have hX:=aw0 (d:=4) hf.2
  rw [a00]
  rw [List.length_map] at hl
  exact b05 (B:=4) (C:=11) (N:=40) hl (by have:=hf.1;rw [List.length_map] at this;omega) (by decide) hX hs (by decide) (by decide) (by decide)
 refine ⟨pt _ h1,pt _ h2,ml _ fun w hww=>?_,ml _ rows⟩
 rcases List.mem_append.1 hww with h|h
 ·exact rows w h
 ·have h:=List.mem_singleton.1 h
  subst h
  exact ⟨fun t ht=>by have:=P8 hw t ht;omega,by have:=rl0;show rl 0≤11;omega⟩
def ad6 (v:a33):Bool:=a05 v.w 40 4 && a05 v.wo 40 4 && a05 v.pr 40 4
theorem aO4 (v:a33):b9 Tryz.prog 25 [a6H v] [] (e6 (ad6 v)) []:=by
 have f1:=a4h v.w 40 4 (by decide)
 have f2:=a4h v.wo 40 4 (by decide)
 have f3:=a4h v.pr 40 4 (by decide)
 unfold ad6
 generalize a05 v.w 40 4=b1 at f1
 generalize a05 v.wo 40 4=b2 at f2
 generalize a05 v.pr 40 4=b3 at f3
 cases b1<;>cases b2<;>cases b3<;>
 ·(refine a8 a7 Tryz.func25 rfl (by decide) ?_;(conv=>whnf);repeat ((first|refine b0x ?_|refine zy ?_);conv=>whnf))
  repeat' first|(refine zd ?_ ?_<;>intro h<;>first|exact zc h|(exfalso;omega)|conv=>whnf)|((first|refine zz ?_|refine qp f1 ?_|refine qp f2 ?_|refine qp f3 ?_|refine zy ?_);conv=>whnf)
  all_goals exact c6 rfl
theorem a6v {t:l9} {kind:Int} {n:Nat} (h:ExP t kind n) (i:Nat) (hi:i<n):b9 Tryz.prog 30 [trS t,a9 .i64 kind,av7 (w8 (e8 t kind) (o9 t (i:Int)) (i:Int))] [] (e6 true) []:=by
 have p:=w5 (kind:=kind) h.e h.m (g:=[]) rfl (fun t ht=>by cases ht)
 have e:(w8 (e8 t kind) (o9 t (i:Int)) (i:Int)).hh=i:=a7o _
 have e2:(w8 (e8 t kind) (o9 t (i:Int)) (i:Int)).raw.hh=i:=e
 have hn:=h.h
 have r:=aq0 t kind h.s h.e h.k0 h.k1 (w8 (e8 t kind) (o9 t (i:Int)) (i:Int)).raw (by rw [e2];omega) (by rw [e2];omega) (by have:=h.m;omega) (by have:=p.r;omega) p.sb p.o.r
  (by rw [e2];exact aR0 (aX6 h.e h.m (K7 t _) (S2 t _) h.z _))
 rw [e2,aN6 _ (a8g (h.vd _) _)] at r
 exact r
set_option maxHeartbeats 8000000 in
theorem a8r (t:l9) (kind:Int) (v:a33):b9 Tryz.prog 8 [trS t,a9 .i64 kind,a6H v] [] (e6 true) []:=by
 have sa:=aU6
 have sm:=aZ0 t 8
 have sv:=aO4 v
 cases hsm:a5y t 8 with
 |false=>
  rw [hsm] at sm
  (refine a8 a7 Tryz.func8 rfl (by decide) ?_;(conv=>whnf);repeat ((first|refine b0x ?_|refine zy ?_);conv=>whnf))
  repeat' first|(refine zd ?_ ?_<;>intro h<;>first|exact zc h|(exfalso;omega)|conv=>whnf)|((first|refine zz ?_|refine qp sa ?_|refine qp sm ?_|refine zy ?_);conv=>whnf)
  all_goals first
   |(exfalso;omega)
   |(exfalso;contradiction)
   |exact c6 rfl
 |true=>
 rw [hsm] at sm
 cases hsv:ad6 v with
 |false=>
  rw [hsv] at sv
  (refine a8 a7 Tryz.func8 rfl (by decide) ?_;(conv=>whnf);repeat ((first|refine b0x ?_|refine zy ?_);conv=>whnf))
  repeat' first|(refine zd ?_ ?_<;>intro h<;>first|exact zc h|(exfalso;omega)|conv=>whnf)|((first|refine zz ?_|refine qp sa ?_|refine qp sm ?_|refine qp sv ?_|refine zy ?_);conv=>whnf)
  all_goals first
   |(exfalso;omega)
   |(exfalso;contradiction)
   |exact c6 rfl
 |true=>
 rw [hsv] at sv
 unfold ad6 at hsv
 rw [Bool.and_eq_true,Bool.and_eq_true] at hsv
 obtain ⟨⟨v1,v2⟩,v3⟩:=hsv
 obtain ⟨s1,s2,s3⟩:=a8V (by decide) hsm
 by_cases he:a19 t kind≠0
 ·have ve:=a3e t kind s1 he
  have ck:=a3j t kind s1 v (.inl he)
  (refine a8 a7 Tryz.func8 rfl (by decide) ?_;(conv=>whnf);repeat ((first|refine b0x ?_|refine zy ?_);conv=>whnf))
  repeat' first|(refine zd ?_ ?_<;>intro h<;>first|exact zc h|(exfalso;omega)|conv=>whnf)|((first|refine zz ?_|refine qp sa ?_|refine qp sm ?_|refine qp sv ?_|refine qp ve ?_|refine qp ck ?_|refine qp 5 ?_|refine bl0 [5] ?_|refine zy ?_);conv=>whnf)
  all_goals first
   |(exfalso;omega)
   |(exfalso;contradiction)
   |exact c6 rfl
 have he:a19 t kind=0:=by omega
 have hk:p6 t=0∧0≤kind∧kind<8:=by
  unfold a19 at he
  by_cases h:p6 t≠0∨kind<0∨8≤kind
  ·rw [if_pos h] at he;cases he
  ·omega
 obtain ⟨k1,k2,k3⟩:=hk
 have p:=w5 (kind:=kind) k1 (by omega) (g:=[]) rfl (fun t ht=>by cases ht)
 have sck:0≤v.hh→v.hh<t.ev.hhs→b9 Tryz.prog 30 [trS t,a9 .i64 kind,a6H v] [] (e6 (a1T (e8 t kind) (o9 t v.hh) v)) []:=fun h0 h1=>
  aq0 t kind s1 k1 k2 k3 v h0 h1 (by omega) (by have:=p.r;omega) p.sb p.o.r (av6 k1 (by omega) (K7 t _) (S2 t _) v1 v2 v3)
 rcases b2X (kind:=kind) s1 k1 (by omega) s3 with he2|⟨r,_,_,hr⟩|⟨n,hE,hn4⟩
 ·exact absurd he he2
 ·have ve:=a1t t kind s1 k1 k2 k3 (by omega) r hr
  have ck:b9 Tryz.prog 30 [trS t,a9 .i64 kind,a6H v] [] (e6 false) []:=by
   by_cases hh:0≤v.hh∧v.hh<t.ev.hhs
   ·have:=sck hh.1 hh.2
    rwa [am0 (a7h hr) v] at this
   ·exact a3j t kind s1 v (.inr (by omega))
  (refine a8 a7 Tryz.func8 rfl (by decide) ?_;(conv=>whnf);repeat ((first|refine b0x ?_|refine zy ?_);conv=>whnf))
  repeat' first|(refine zd ?_ ?_<;>intro h<;>first|exact zc h|(exfalso;omega)|conv=>whnf)|((first|refine zz ?_|refine qp sa ?_|refine qp sm ?_|refine qp sv ?_|refine qp ve ?_|refine qp ck ?_|refine qp 5 ?_|refine bl0 [5] ?_|refine zy ?_);conv=>whnf)
  all_goals first
   |(exfalso;omega)
   |(exfalso;contradiction)
   |exact c6 rfl
 have ve:=a47 t kind s1 hE.e hE.k0 hE.k1 hE.m n hE.h (by omega) hE.z
 have hhs:=hE.h
 have vl:=a2i t kind n
 have m1:((K0 t kind n).map Z9.row).length=n:=by simp [vl]
 obtain ⟨acc,hck,hacc⟩:∃acc:Bool,b9 Tryz.prog 30 [trS t,a9 .i64 kind,a6H v] [] (e6 acc) []∧(acc=true→0≤v.hh∧v.hh<n∧(w8 (e8 t kind) (o9 t v.hh) v.hh).state=v.state):=by
  by_cases hh:0≤v.hh∧v.hh<t.ev.hhs
  ·refine ⟨_,sck hh.1 hh.2,fun hc=>⟨hh.1,by omega,?_⟩⟩
   exact (av3 (hE.vd _) (by have:=p.r;omega) hc _).symm
  ·exact ⟨false,a3j t kind s1 v (.inr (by omega)),fun h=>by cases h⟩
 cases acc with
 |false=>
  (refine a8 a7 Tryz.func8 rfl (by decide) ?_;(conv=>whnf);repeat ((first|refine b0x ?_|refine zy ?_);conv=>whnf))
  repeat' first|(refine zd ?_ ?_<;>intro h<;>first|exact zc h|(exfalso;omega)|conv=>whnf)|((first|refine zz ?_|refine qp sa ?_|refine qp sm ?_|refine qp sv ?_|refine qp ve ?_|refine qp hck ?_|refine qp 5 ?_|refine bl0 [5] ?_|refine zy ?_);conv=>whnf)
  all_goals try (exfalso;omega)
  refine f6 a7 (fun k=>([J,a9 .i64 kind,J,S.c (C.t (T.ptr (trT t))),J,S.c (C.t (T.ptr v.row)),J,e6 true,al0 (K0 t kind n),J,e6 false,a9 .i64 k,J,J,J,J,J,J,J,J,J,J,J,J,J,J,J,J,J,J,J,J,J,J,J,J,J,J,J,J,J,J,J,J,J,J,J,J,J,J,J,J,J,J,J,J,J,J,J,J,J,J,J,J,J,J,J,J,J,J,J,J,J,J,J,J,J,J,J,J,J,J,J,J,J,J,J,J,J,J,J,J,J,J,J,J,J,J,J,J,J,J,J,J,J],[])) n (fun _=>True) [] trivial
   ⟨rfl,rfl,trivial,⟨rfl,rfl,rfl,rfl,rfl,rfl,rfl,trivial⟩⟩ ?_
  intro k hk _
  by_cases hlt:k<n
  ·have hv:(K0 t kind n)[k]? =some (w8 (e8 t kind) (o9 t (k:Int)) (k:Int)):=by unfold K0;simp [hlt]
   have kc:=a6v hE k hlt
   have kh:(w8 (e8 t kind) (o9 t (k:Int)) (k:Int)).hh=k:=a7o _
   generalize w8 (e8 t kind) (o9 t (k:Int)) (k:Int)=x at hv kc kh
   conv=>whnf
   repeat' first|(refine zd ?_ ?_<;>intro h<;>first|exact zc h|(exfalso;omega)|conv=>whnf)|((first|refine zz ?_|refine qp kc ?_|refine d7 hv ?_|refine zy ?_);conv=>whnf)
   all_goals first
    |(exfalso;omega)
    |(exfalso;contradiction)
    |exact ⟨hlt,trivial,[],rfl,rfl,trivial,⟨rfl,rfl,rfl,rfl,rfl,rfl,rfl,trivial⟩⟩
  ·conv=>whnf
   repeat' first|(refine zd ?_ ?_<;>intro h<;>first|exact zc h|(exfalso;omega)|conv=>whnf)|((first|refine zz ?_|refine zy ?_);conv=>whnf)
   all_goals first
    |(exfalso;omega)
    |(exfalso;contradiction)
    |exact c6 rfl
 |true=>
  (refine a8 a7 Tryz.func8 rfl (by decide) ?_;(conv=>whnf);repeat ((first|refine b0x ?_|refine zy ?_);conv=>whnf))
  repeat' first|(refine zd ?_ ?_<;>intro h<;>first|exact zc h|(exfalso;omega)|conv=>whnf)|((first|refine zz ?_|refine qp sa ?_|refine qp sm ?_|refine qp sv ?_|refine qp ve ?_|refine qp hck ?_|refine qp 5 ?_|refine bl0 [5] ?_|refine zy ?_);conv=>whnf)
  all_goals try (exfalso;omega)
  refine f6 a7 (fun k=>([J,a9 .i64 kind,J,S.c (C.t (T.ptr (trT t))),J,S.c (C.t (T.ptr v.row)),J,e6 true,al0 (K0 t kind n),J,e6 true,a9 .i64 k,J,J,J,J,J,J,J,J,J,J,J,J,J,J,J,J,J,J,J,J,J,J,J,J,J,J,J,J,J,J,J,J,J,J,J,J,J,J,J,J,J,J,J,J,J,J,J,J,J,J,J,J,J,J,J,J,J,J,J,J,J,J,J,J,J,J,J,J,J,J,J,J,J,J,J,J,J,J,J,J,J,J,J,J,J,J,J,J,J,J,J,J,J],[])) n (fun _=>True) [] trivial
   ⟨rfl,rfl,trivial,⟨rfl,rfl,rfl,rfl,rfl,rfl,rfl,trivial⟩⟩ ?_
  intro k hk _
  by_cases hlt:k<n
  ·have hv:(K0 t kind n)[k]? =some (w8 (e8 t kind) (o9 t (k:Int)) (k:Int)):=by unfold K0;simp [hlt]
   have kc:=a6v hE k hlt
   have kh:(w8 (e8 t kind) (o9 t (k:Int)) (k:Int)).hh=k:=a7o _
   generalize w8 (e8 t kind) (o9 t (k:Int)) (k:Int)=x at hv kc kh
   conv=>whnf
   repeat' first|(refine zd ?_ ?_<;>intro h<;>first|exact zc h|(exfalso;omega)|conv=>whnf)|((first|refine zz ?_|refine qp kc ?_|refine d7 hv ?_|refine zy ?_);conv=>whnf)
   all_goals first
    |(exfalso;omega)
    |(exfalso;contradiction)
    |exact ⟨hlt,trivial,[],rfl,rfl,trivial,⟨rfl,rfl,rfl,rfl,rfl,rfl,rfl,trivial⟩⟩
  ·obtain ⟨a1,a2,a3⟩:=hacc rfl
   have hv:(K0 t kind n)[v.hh.toNat]? =some (w8 (e8 t kind) (o9 t v.hh) v.hh):=by
    unfold K0
    have e:((v.hh.toNat:Nat):Int)=v.hh:=by omega
    rw [List.getElem?_map,a9Y (by omega)]
    show some (w8 (e8 t kind) (o9 t ((v.hh.toNat:Nat):Int)) ((v.hh.toNat:Nat):Int))=_
    rw [e]
   generalize w8 (e8 t kind) (o9 t v.hh) v.hh=x at hv a3
   conv=>whnf
   repeat' first|(refine zd ?_ ?_<;>intro h<;>first|exact zc h|(exfalso;omega)|conv=>whnf)|((first|refine zz ?_|refine qp (cond_true,cond_false) ?_|refine x3 (k:=v.hh.toNat) (by simp only [cond_true,cond_false];repeat' split;all_goals omega) hv ?_|refine zy ?_);conv=>whnf)
   all_goals first
    |(exfalso;omega)
    |(exfalso;contradiction)
    |exact c6 rfl
end
section
open Go.RowKit
def aH2 (base:Nat) (w w':World):Prop:=w.heap.size≤w'.heap.size∧∀(w0:World) (B:Nat),Below B w0 w→B≤base→Below B w0 w'
theorem aH2.below {base B:Nat} {w w' w0:World} (h:aH2 base w w') (hb:Below B w0 w) (hB:B≤base):Below B w0 w':=h.2 w0 B hb hB
theorem aH2.size {base:Nat} {w w':World} (h:aH2 base w w'):w.heap.size≤w'.heap.size:=h.1
end
section
open Go.RowKit
structure a4c (w:World) (b:Nat) (m h s:Int) (A1:Option Addr) (n1 c1:Nat) (A2:Option Addr) (n2 c2:Nat) (A3:Option Addr) (n3 c3:Nat) (A4:Option Addr) (n4 c4:Nat) (A5:Option Addr) (n5 c5:Nat):Prop where
 b0:w.cell? ⟨b,0,none⟩=some (vi m)
 b1:w.cell? ⟨b,1,none⟩=some (vi h)
 b2:w.cell? ⟨b,2,none⟩=some (vi s)
 b3:w.cell? ⟨b,3,none⟩=some (.slice A1 n1 c1)
 b4:w.cell? ⟨b,4,none⟩=some (.slice A2 n2 c2)
 b5:w.cell? ⟨b,5,none⟩=some (.slice A3 n3 c3)
 b6:w.cell? ⟨b,6,none⟩=some (.slice A4 n4 c4)
 b7:w.cell? ⟨b,7,none⟩=some (.slice A5 n5 c5)
section
variable {w w':World} {b:Nat} {m h s:Int} {A1 A2 A3 A4 A5:Option Addr} {n1 n2 n3 n4 n5 c1 c2 c3 c4 c5:Nat}
theorem a4c.lt (h0:a4c w b m h s A1 n1 c1 A2 n2 c2 A3 n3 c3 A4 n4 c4 A5 n5 c5):b<w.heap.size:=a4s h0.b0
theorem a4c.keep {B:Nat} (h0:a4c w b m h s A1 n1 c1 A2 n2 c2 A3 n3 c3 A4 n4 c4 A5 n5 c5) (hb:Below B w w') (hB:b<B):a4c w' b m h s A1 n1 c1 A2 n2 c2 A3 n3 c3 A4 n4 c4 A5 n5 c5:=
 ⟨(hb.cell (p:=⟨b,0,none⟩) hB).trans h0.b0,(hb.cell (p:=⟨b,1,none⟩) hB).trans h0.b1,(hb.cell (p:=⟨b,2,none⟩) hB).trans h0.b2,(hb.cell (p:=⟨b,3,none⟩) hB).trans h0.b3,
  (hb.cell (p:=⟨b,4,none⟩) hB).trans h0.b4,(hb.cell (p:=⟨b,5,none⟩) hB).trans h0.b5,(hb.cell (p:=⟨b,6,none⟩) hB).trans h0.b6,(hb.cell (p:=⟨b,7,none⟩) hB).trans h0.b7⟩
theorem a4c.later (h0:a4c w b m h s A1 n1 c1 A2 n2 c2 A3 n3 c3 A4 n4 c4 A5 n5 c5) (hb:Below w.heap.size w w'):a4c w' b m h s A1 n1 c1 A2 n2 c2 A3 n3 c3 A4 n4 c4 A5 n5 c5:=h0.keep hb h0.lt
theorem a4c.new (w:World) (m h s:Int) (A1:Option Addr) (n1 c1:Nat) (A2:Option Addr) (n2 c2:Nat) (A3:Option Addr) (n3 c3:Nat) (A4:Option Addr) (n4 c4:Nat) (A5:Option Addr) (n5 c5:Nat) (t:TypeId):
 a4c (w.alloc (.cells #[.int .i64 m,.int .i64 h,.int .i64 s,.slice A1 n1 c1,.slice A2 n2 c2,.slice A3 n3 c3,.slice A4 n4 c4,.slice A5 n5 c5] t)) w.heap.size m h s A1 n1 c1 A2 n2 c2 A3 n3 c3 A4 n4 c4 A5 n5 c5:=by
 have hc:=fun i=>cell_of_row (w.alloc (.cells #[.int .i64 m,.int .i64 h,.int .i64 s,.slice A1 n1 c1,.slice A2 n2 c2,.slice A3 n3 c3,.slice A4 n4 c4,.slice A5 n5 c5] t)) w.heap.size i _ t (0,0) (heap_alloc_new w _)
 exact ⟨hc 0,hc 1,hc 2,hc 3,hc 4,hc 5,hc 6,hc 7⟩
end
end
section
open Go.RowKit Go.ChangeShapes Go.WideShapes Go.Deep
section
variable {H:Type} {enc:TypeId × Value→H} {P:Program}
theorem a9d (hl:laidOutB P=true) {W W':World} {sp:Nat→Bool}:∀{ts:List TypeId} {vs:List Value} {ds:List (DataW H)} {ps:List MemPlace},(∀ t ∈ ts,P.readableRec t=true∧t<P.types.size)→
 DataW.TrodAll enc P W 0 (fun _=>true) true ts vs ds ps→(∀ p ∈ ps,W.sameAt W' p)→(∀ p ∈ ps,sp p.block=true)→DataW.TrodAll enc P W' 0 sp true ts vs ds ps:=by
 intro ts
 induction ts with
 |nil=>
  intro vs ds ps _ h _ _
  obtain ⟨rfl,rfl,rfl⟩:=trodAll_nil h
  exact trodAll_mk0
 |cons t ts ih=>
  intro vs ds ps hr h hsame hs
  obtain ⟨v,vs',d,ds',p,q,rfl,rfl,rfl,h1,h2⟩:=trodAll_cons h
  obtain ⟨ht,hlt⟩:=hr t (by simp)
  exact trodAll_cons_mk (WideElems.Trod_stays hl ht hlt h1 (fun x hx=>hsame x (by simp [hx])) (fun x hx=>hs x (by simp [hx]))) (ih (fun t ht=>hr t (by simp [ht])) h2 (fun x hx=>hsame x (by simp [hx])) (fun x hx=>hs x (by simp [hx])))
theorem aT7 {f:Func} {s:ChangeSpec} {fresh handsOn:Bool} {W W':World} {args:Array Value} {ds gs:List (DataW H)} {before:List MemPlace} {tb:TypeId}
 (hW:DataW.Whole enc P f.params.toList s.vars false W args.toList ds gs before) (hl:laidOutB P=true) (hr:∀t ∈ f.params.toList,P.readableRec t=true∧t<P.types.size) (hv:s.vars=[])
 (hfn:s.fn H (ds++gs)={ results:=[.lit (.bool true)],args:=ds }) (hres:f.resultTypes=#[tb]) (hbool:P.underlying tb=some .bool) (hb:Below W.heap.size W W'):
 s.post enc P f false fresh handsOn false W args (.bool true) W':=by
 have hW':=hW
 obtain ⟨p,q,hA,hV,rfl,hfz,hnd⟩:=hW
 rw [hv] at hV
 obtain ⟨rfl,rfl⟩:=trodVars_none hV
 have hlt:∀x ∈ p,x.block<W.heap.size:=fun x hx=>by have:=hW'.lt x (by simpa using hx);simpa using this
 refine ⟨ds,[],p++[],[],p,[],hW',?_,?_,?_,hb.frame _,fun h=>by cases h⟩
 ·rw [hfn,hres]
  exact trodAll_mk1 (shut_bool hbool true)
 ·rw [hfn]
  exact a9d hl hr hA (fun x hx=>hb.same (hlt x hx)) (fun x hx=>by simpa using hlt x hx)
 ·rw [hv,hfn]
  exact rfl
variable {w:World} {base:Nat} {spare:Nat→Bool} {held:Bool}
end
end
section
open Go.RowKit Go.ChangeShapes Go.WideShapes Go.Deep
section
variable {H:Type} {enc:TypeId × Value→H} {w:World} {base:Nat} {spare:Nat→Bool} {held:Bool}
end
theorem b1h:ownKnob Tryz.prog.godebug=none:=by kernel_rfl
theorem aU8:laidOutB Tryz.prog=true:=by kernel_rfl
end
section
open Go.RowKit
theorem b40 {w:World} {n:Int}:RS w (fun _=>none) (fun _=>False) (a9 .i64 n) (.int .i64 n):=RS.int
inductive a9K (w:World):List S→List Value→Prop
 |nil:a9K w [] []
 |cons {s:S} {v:Value} {ss:List S} {vs:List Value} (h:RS w (fun _=>none) (fun _=>False) s v) (hs:a9K w ss vs):a9K w (s::ss) (v::vs)
theorem a9K.get {w:World} {ss:List S} {vs:List Value} (h:a9K w ss vs):vs.length=ss.length∧∀(j:Nat) (s:S),ss[j]? =some s→RS w (fun _=>none) (fun _=>False) s (vs.getD j undef):=by
 induction h with
 |nil=>exact ⟨rfl,by simp⟩
 |cons h hs ih=>
  refine ⟨by simp [ih.1],fun j s hj=>?_⟩
  cases j with
  |zero=>simp at hj;subst hj;exact h
  |succ j=>simpa using ih.2 j s (by simpa using hj)
theorem af4 {P:Program} {g:FuncId} {ss:List S} {b:Bool} (h:b9 P g ss [] (e6 b) []) {w:World} {vs:List Value} (ha:a9K w ss vs):
 Calls P g vs.toArray w fun e w'=>e=.returned (.bool b)∧Below w.heap.size w w':=by
 obtain ⟨h1,h2⟩:=ha.get
 refine Calls.mono (h.2 w (fun _=>none) (fun _=>False) vs h1 h2 ⟨by simp,by simp,by simp,by simp,by simp⟩ (fun _ h=>h.elim) (fun _ _=>rfl)) ?_
 rintro e w' ⟨v,rfl,ι',M',q1,q2,q3,q4,q5⟩
 rw [q1.inv_atm]
 exact ⟨rfl,q5.os,q5.tape,q5.output,q5.size,fun k hk=>q5.keep k hk (by rintro ⟨id,k,_,_,hk,_⟩;simp at hk)⟩
end
section
open Go.RowKit Go.ChangeShapes Go.WideShapes Go.ChangeAt
theorem aP0 {P:Program} {f:FuncId} {fn:Func} {s:ChangeSpec} {c:OpenClaim}
 (h1:c.wf (OpenSpec.ofChange s)=true) (h2:laidOutB P=true) (h3:mapsRowed P=true) (h4:fn.params.all (P.readableRec ·)=true) (h5:namedTie P c.named s.vars=true)
 (h6:(c.stops == [])=true) (h7:(P.stops == [])=true) (h8:(c.knobs == [])=true) (h9:(P.stopKnobs == [])=true)
 (h10:(c.inPlace == P.inPlace f)=true) (h11:(c.unfollowed == P.unfollowed f)=true) (h12:(c.recurses == P.recurses f)=true) (h13:(c.named == P.varsNamed f)=true)
 (h14:(c.maps == (fn.params.toList++s.plain.varTypes P).any (P.mapsRec ·))=true) (h15:(c.ifaces == (fn.params.toList++s.plain.varTypes P).any (P.ifacesRec ·))=true) (h16:(c.mapsOut == P.mapsAmong fn.resultTypes.toList)=true)
 (h17:(c.loops == (fn.params.toList++s.plain.varTypes P).any (P.loopsFrom ·))=true) (h18:(c.wideKeys == (fn.params.toList++s.plain.varTypes P++fn.resultTypes.toList).any (P.wideKeysFrom ·))=true)
 (h19:s.vars.all (P.varReadable ·)=true) (h20:fn.resultTypes.all (fun t=>P.readableRec t && decide (t<P.types.size))=true) (h21:(c.ifacesOut == fn.resultTypes.toList.any (P.ifacesRec ·))=true) (h22:(c.loopsOut == fn.resultTypes.toList.any (P.loopsFrom ·))=true)
 (h23:(c.plainKeys == P.plainKeys)=true) (h24:c.shortTexts.isNone=true) (h25:P.stopsHeard=true) (h26:P.mayEnter=true) (h27:(c.lifted == P.liftsFinal)=true) (h28:(P.make == some c.make)=true)
 (h29:c.domain.isEmpty=true) (h29b:(c.kinds == [])=true) (h30:(c.pinned == c.pinnedBy)=true)
 (h31:(c.veiled == (fn.params.toList++s.plain.varTypes P++fn.resultTypes.toList).any (P.veiledRec ·))=true) (h32:c.veiledFits P fn.params.toList (fn.params.toList++s.plain.varTypes P++fn.resultTypes.toList)=true):
 joinedFacts P f fn s c=true:=by
 unfold joinedFacts
 rw [h1,h2,h3,h4,h5,h6,h7,h8,h9,h10,h11,h12,h13,h14,h15,h16,h17,h18,h19,h20,h21,h22,h23,h24,h25,h26,h27,h28,if_pos h29,h29b,h30,h31,h32]
 rfl
theorem b2j:laidOutB Tryz.pinned.checked.prog=true:=by kernel_rfl
theorem b1X:mapsRowed Tryz.pinned.checked.prog=true:=by kernel_rfl
theorem b1T:Tryz.pinned.checked.prog.plainKeys=true:=by kernel_rfl
theorem b00:Tryz.pinned.checked.prog.stopsHeard=true:=by kernel_rfl
theorem b12:Tryz.pinned.checked.prog.mayEnter=true:=by kernel_rfl
theorem b1M:(Rows.sourceTrueRow.lifted == Tryz.pinned.checked.prog.liftsFinal)=true:=by kernel_rfl
theorem b2u:(Tryz.pinned.checked.prog.make == some Rows.sourceTrueRow.make)=true:=by kernel_rfl
end
section
open Go.RowKit Go.ChangeShapes Go.WideShapes Go.Deep
inductive Sh where
 |int (k:IntKind)
 |bool
 |sl (row:List Sh)
inductive Fit:Sh→T→Prop
 |int {k:IntKind} {n:Int} (h:(Lit.int k n).wf=true):Fit (.int k) (.atm (.int k n))
 |bool {b:Bool}:Fit .bool (.atm (.bool b))
 |sl {row:List Sh} {rows:List (List T)} (hl:∀r ∈ rows,r.length=row.length) (h:∀r ∈ rows,∀(j:Nat) (s:Sh) (t:T),row[j]? =some s→r[j]? =some t→Fit s t):Fit (.sl row) (.sl row.length .any rows)
inductive A9 (P:Program):TypeId→List Sh→Prop
 |int {t:TypeId} {k:IntKind} (h:P.underlying t=some (.int k)):A9 P t [.int k]
 |bool {t:TypeId} (h:P.underlying t=some .bool):A9 P t [.bool]
 |sl {t e:TypeId} {row:List Sh} (h:P.underlying t=some (.slice e)) (hc:P.cellsOf e=row.length) (hp:0<row.length) (he:A9 P e row):A9 P t [.sl row]
 |struct {t:TypeId} {fs:Array Field} (parts:List (List Sh)) (h:P.underlying t=some (.struct fs)) (hl:parts.length=fs.size)
   (ho:∀(i:Nat) (f:Field) (p:List Sh),fs[i]? =some f→parts[i]? =some p→f.offset=(parts.take i).flatten.length∧P.cellsOf f.type=p.length)
   (hc:P.cellsOf t=parts.flatten.length)
   (he:∀(i:Nat) (f:Field) (p:List Sh),fs[i]? =some f→parts[i]? =some p→A9 P f.type p):A9 P t parts.flatten
section
variable {H:Type} {enc:TypeId × Value→H} {P:Program} {w:World} {base:Nat} {spare:Nat→Bool} {held:Bool}
def aj6 (w:World) (shs:List Sh) (cs:List Value):Prop:=
 cs.length=shs.length∧∃ts:List T,ts.length=shs.length∧∀(j:Nat) (s:Sh),shs[j]? =some s→∃u t,cs[j]? =some u∧ts[j]? =some t∧RT w (fun _=>False) t u∧Fit s t
theorem a8L {α:Type}:∀(parts:List (List α)) (j:Nat) (x:α),parts.flatten[j]? =some x→∃i p k,parts[i]? =some p∧p[k]? =some x∧j=(parts.take i).flatten.length+k
 |[],j,x,h=>by simp at h
 |p::r,j,x,h=>by
  rw [List.flatten_cons] at h
  by_cases hj:j<p.length
  ·rw [List.getElem?_append_left hj] at h
   exact ⟨0,p,j,rfl,h,by simp⟩
  ·rw [List.getElem?_append_right (by omega)] at h
   obtain ⟨i,q,k,h1,h2,h3⟩:=a8L r _ x h
   exact ⟨i+1,q,k,by simpa using h1,h2,by rw [List.take_succ_cons,List.flatten_cons,List.length_append];omega⟩
theorem a0d {α:Type} {p:Nat→α→Prop}:∀(n:Nat),(∀ i,i<n→∃x,p i x)→∃xs:List α,xs.length=n∧∀i x,xs[i]? =some x→p i x
 |0,_=>⟨[],rfl,by simp⟩
 |n+1,h=>by
  obtain ⟨xs,h1,h2⟩:=a0d n fun i hi=>h i (by omega)
  obtain ⟨x,hx⟩:=h n (by omega)
  refine ⟨xs++[x],by simp [h1],fun i y hy=>?_⟩
  by_cases hi:i<xs.length
  ·rw [List.getElem?_append_left hi] at hy;exact h2 i y hy
  ·rw [List.getElem?_append_right (by omega)] at hy
   have:i=n:=by
    have:=(lg1 hy).1
    simp at this;omega
   subst this
   rw [h1] at hy
   simp at hy
   subst hy
   exact hx
theorem aL3 {t:TypeId} {shs:List Sh} (h:A9 P t shs):∀(n:Nat) (cs:List Value) (x:DataW H × List MemPlace),DataW.trod enc P w base spare held n t cs=some x→aj6 w shs cs:=by
 induction h with
 |int h=>
  intro n cs x hx
  obtain ⟨a,rfl,_,hw⟩:=DataW.trod_int h hx
  exact ⟨rfl,[.atm (.int _ a)],rfl,fun j s hj=>by
   match j,hj with
   |0,hj=>simp at hj;subst hj;exact ⟨_,_,rfl,rfl,.atm rfl,.int hw⟩⟩
 |bool h=>
  intro n cs x hx
  obtain ⟨a,rfl,_⟩:=DataW.trod_bool h hx
  exact ⟨rfl,[.atm (.bool a)],rfl,fun j s hj=>by
   match j,hj with
   |0,hj=>simp at hj;subst hj;exact ⟨_,_,rfl,rfl,.atm rfl,.bool⟩⟩
 |@sl t e row h hc hp he ih=>
  intro n cs x hx
  have key:∀(rows:List (List T)) (u:Value),cs=[u]→RT w (fun _=>False) (.sl row.length .any rows) u→(∀ r ∈ rows,r.length=row.length)→(∀ r ∈ rows,∀(j:Nat) (s:Sh) (t:T),row[j]? =some s→r[j]? =some t→Fit s t)→aj6 w [.sl row] cs:=by
   rintro rows u rfl hu h1 h2
   exact ⟨rfl,[.sl row.length .any rows],rfl,fun j s hj=>by
    match j,hj with
    |0,hj=>simp at hj;subst hj;exact ⟨_,_,rfl,rfl,hu,.sl h1 h2⟩⟩
  rcases open_slice h hx with ⟨h0,_⟩|⟨a,len,cap,m,n,D,Pl,hcs,hb,hl,hm,hmm,hx,hi⟩
  ·exact key [] _ h0 (.sl (b:=0) (off:=0) (fun _ _=>undef) (by simp) (by simp) (by unfold maxLen;omega) (by intro h;cases h) (by intro h;cases h) (by simp) (by simp [at2]) (by simp [at2])) (by simp) (by simp)
  ·by_cases hz:len=0
   ·subst hz
    exact key [] _ hcs (.sl (b:=0) (off:=0) (fun _ _=>undef) (by simp) (by simp) hm (by intro h;cases h) (by intro h;cases h) (by simp) (by simp [at2]) (by simp [at2])) (by simp) (by simp)
   have hlm:len≤m:=by rw [hmm];split<;>omega
   have each:∀i,i<len→∃cs':List Value,(∀ j,j<row.length→w.cell? (a.add (i*row.length+j))=cs'[j]?)∧aj6 w row cs':=by
    intro i hil
    obtain ⟨cs',hc',ht'⟩:=hi i (by omega)
    rw [hc] at hc'
    obtain ⟨_,hcl,hat⟩:=World.cells?_some hc'
    exact ⟨cs',fun j hj=>by rw [← Go.Deep.add_add];exact hat j hj,ih n cs' _ ht'⟩
   obtain ⟨css,hcl,hcs2⟩:=a0d len each
   obtain ⟨rows,hrl,hrows⟩:=a0d (α:=List T) (p:=fun i ts=>ts.length=row.length∧∀(j:Nat) (s:Sh),row[j]? =some s→∃u t,(css.getD i [])[j]? =some u∧ts[j]? =some t∧RT w (fun _=>False) t u∧Fit s t) len (fun i hi=>by
    have hg:css[i]? =some (css[i]'(by omega)):=lg0 (by omega)
    obtain ⟨_,_,ts,h1,h2⟩:=hcs2 i _ hg
    refine ⟨ts,h1,?_⟩
    rw [lg3,hg]
    exact h2)
   have hcell:∀i j,i<len→j<row.length→w.cell? (a.add (i*row.length+j))=some ((css.getD i []).getD j undef):=by
    intro i j hi hj
    have hg:css[i]? =some (css[i]'(by omega)):=lg0 (by omega)
    obtain ⟨h1,h2,_⟩:=hcs2 i _ hg
    rw [h1 j hj]
    have hgd:css.getD i []=css[i]'(by omega):=by rw [lg3,hg];rfl
    rw [hgd,lg3,lg0 (by omega)];rfl
   have hspot:a.spot=none:=by
    have:=World.cell?_spot (hcell 0 0 (by omega) hp)
    simpa [Addr.add] using this
   obtain ⟨b,off,sp⟩:=a
   simp only at hspot
   subst hspot
   have hadd:∀k,(⟨b,off,none⟩:Addr).add k=⟨b,off+k,none⟩:=by
    intro k
    unfold Addr.add
    split
    ·subst_vars;rfl
    ·rfl
   have hat:∀i j c,at2 rows i j=some c→i<len∧j<row.length∧∃r s,rows[i]? =some r∧r[j]? =some c∧row[j]? =some s:=by
    intro i j c hc
    obtain ⟨r,q1,q2⟩:=A0 hc
    have hil:i<len:=by rw [← hrl];exact (lg1 q1).1
    have hjl:j<row.length:=by rw [← (hrows i r q1).1];exact (lg1 q2).1
    exact ⟨hil,hjl,r,_,q1,q2,lg0 hjl⟩
   refine key rows (.slice (some ⟨b,off,none⟩) len cap) hcs ?_ ?_ ?_
   ·rw [← hrl]
    refine .sl (b:=b) (off:=off) (fun i j=>(css.getD i []).getD j undef) ?_ (by omega) hm (by intro h;cases h) (by intro h;cases h) (fun _=>rfl) ?_ ?_
    ·intro r hr
     obtain ⟨i,hi⟩:=List.mem_iff_getElem?.1 hr
     exact (hrows i r hi).1
    ·intro i j c hc
     obtain ⟨hil,hjl,_⟩:=hat i j c hc
     have:=hcell i j hil hjl
     rw [hadd] at this
     exact ⟨this,fun h=>h⟩
    ·intro i j c hc
     obtain ⟨hil,hjl,r,s,q1,q2,q3⟩:=hat i j c hc
     obtain ⟨u,t,h1,h2,h3,h4⟩:=(hrows i r q1).2 j s q3
     rw [q2] at h2
     injection h2 with h2
     subst h2
     rw [lg3 (l:=css.getD i []),h1]
     exact h3
   ·intro r hr
    obtain ⟨i,hi⟩:=List.mem_iff_getElem?.1 hr
    exact (hrows i r hi).1
   ·intro r hr j s t hs ht
    obtain ⟨i,hi⟩:=List.mem_iff_getElem?.1 hr
    obtain ⟨u,t',h1,h2,h3,h4⟩:=(hrows i r hi).2 j s hs
    rw [ht] at h2
    injection h2 with h2
    subst h2
    exact h4
 |@struct t fs parts h hl ho hc he ih=>
  intro n cs x hx
  obtain ⟨xs,n',hn',hy,hlen,hyl,hf⟩:=DataW.trod_struct h hx
  have hlen':cs.length=parts.flatten.length:=by rw [hlen,hc]
  have each:∀j,j<parts.flatten.length→∃t,∀s,parts.flatten[j]? =some s→∃u,cs[j]? =some u∧RT w (fun _=>False) t u∧Fit s t:=by
   intro j hj
   obtain ⟨i,p,k,q1,q2,q3⟩:=a8L parts j _ (lg0 hj)
   have hi:i<fs.size:=by rw [← hl];exact (lg1 q1).1
   have hfi:fs[i]? =some fs[i]:=Array.getElem?_eq_getElem hi
   obtain ⟨o1,o2⟩:=ho i _ p hfi q1
   have h1:=hf i _ hfi
   have hxi:xs[i]? =some (xs[i]'(by omega)):=lg0 (by omega)
   obtain ⟨r1,ts,r2,r3⟩:=ih i _ p hfi q1 n' _ _ (h1.trans hxi)
   obtain ⟨u,t,e1,e2,e3,e4⟩:=r3 k _ q2
   refine ⟨t,fun s hs=>⟨u,?_,e3,?_⟩⟩
   ·have hk:k<p.length:=(lg1 q2).1
    rw [List.getElem?_take,o2,if_pos hk,List.getElem?_drop,o1,←q3] at e1
    exact e1
   ·rw [lg0 hj] at hs
    injection hs with hs
    rw [← hs];exact e4
  obtain ⟨ts,t1,t2⟩:=a0d parts.flatten.length each
  refine ⟨hlen',ts,t1,fun j s hj=>?_⟩
  have hjl:=(lg1 hj).1
  have htj:ts[j]? =some (ts[j]'(by omega)):=lg0 (by omega)
  obtain ⟨u,h1,h2,h3⟩:=t2 j _ htj s hj
  exact ⟨u,_,h1,htj,h2,h3⟩
end
theorem Fit.int_inv {k:IntKind} {t:T} (h:Fit (.int k) t):∃n,t=.atm (.int k n)∧(Lit.int k n).wf=true:=by cases h with|int h=>exact ⟨_,rfl,h⟩
theorem Fit.bool_inv {t:T} (h:Fit .bool t):∃b,t=.atm (.bool b):=by cases h with|bool=>exact ⟨_,rfl⟩
theorem ao9 {α:Type} {f:α→List T} {p:α→Prop}:∀{rows:List (List T)},(∀ r ∈ rows,∃x,r=f x∧p x)→∃xs:List α,rows=xs.map f∧∀x ∈ xs,p x
 |[],_=>⟨[],rfl,by simp⟩
 |r::rs,h=>by
  obtain ⟨x,rfl,hx⟩:=h r (by simp)
  obtain ⟨xs,rfl,hxs⟩:=ao9 (rows:=rs) (f:=f) (p:=p) fun r hr=>h r (List.mem_cons_of_mem _ hr)
  exact ⟨x::xs,rfl,fun y hy=>by rcases List.mem_cons.1 hy with rfl|hy;exact hx;exact hxs y hy⟩
theorem Fit.sl_inv {α:Type} (f:α→List T) (p:α→Prop) {row:List Sh} {t:T} (h:Fit (.sl row) t)
 (hrow:∀r:List T,r.length=row.length→(∀ (j:Nat) (s:Sh) (t:T),row[j]? =some s→r[j]? =some t→Fit s t)→∃x,r=f x∧p x):
 ∃xs:List α,t=.sl row.length .any (xs.map f)∧∀x ∈ xs,p x:=by
 cases h with
 |sl hl h=>
  obtain ⟨xs,rfl,hx⟩:=ao9 (f:=f) (p:=p) (fun r hr=>hrow r (hl r hr) (h r hr))
  exact ⟨xs,rfl,hx⟩
end
section
open Go.RowKit Go.ChangeShapes Go.WideShapes Go.Deep
abbrev d9:Sh:=.int .i64
abbrev b04:List Sh:=[d9,.sl [d9]]
abbrev a1p:List Sh:=[d9,.sl [d9],d9,.sl [d9]]
theorem v5:A9 Tryz.prog 3 [d9]:=.int Tryz.underlying3
theorem b0l:A9 Tryz.prog 55 [.sl [d9]]:=.sl Tryz.underlying55 (by kernel_rfl) (by decide) v5
theorem a2L {P:Program} {t:TypeId} {fs:Array Field} {p0 p1:List Sh} (h:P.underlying t=some (.struct fs)) (hl:fs.size=2)
 (h0:∃f,fs[0]? =some f∧f.offset=0∧P.cellsOf f.type=p0.length∧A9 P f.type p0) (h1:∃f,fs[1]? =some f∧f.offset=p0.length∧P.cellsOf f.type=p1.length∧A9 P f.type p1)
 (hc:P.cellsOf t=p0.length+p1.length):A9 P t (p0++p1):=by
 obtain ⟨f0,a1,a2,a3,a4⟩:=h0
 obtain ⟨f1,b1,b2,b3,b4⟩:=h1
 have:=A9.struct (P:=P) (t:=t) (fs:=fs) [p0,p1] h (by simp [hl]) (fun i f p hf hp=>by
  match i,hp with
  |0,hp=>simp at hp;subst hp;rw [a1] at hf;injection hf with hf;subst hf;exact ⟨by simp [a2],a3⟩
  |1,hp=>simp at hp;subst hp;rw [b1] at hf;injection hf with hf;subst hf;exact ⟨by simp [b2],b3⟩
  |n+2,hp=>simp at hp) (by simp [hc]) (fun i f p hf hp=>by
  match i,hp with
  |0,hp=>simp at hp;subst hp;rw [a1] at hf;injection hf with hf;subst hf;exact a4
  |1,hp=>simp at hp;subst hp;rw [b1] at hf;injection hf with hf;subst hf;exact b4
  |n+2,hp=>simp at hp)
 simpa using this
theorem aL6:A9 Tryz.prog 81 b04:=
 a2L (p0:=[d9]) (p1:=[.sl [d9]]) Tryz.underlying81 (by kernel_rfl) ⟨_,rfl,rfl,by kernel_rfl,v5⟩ ⟨_,rfl,rfl,by kernel_rfl,b0l⟩ (by kernel_rfl)
theorem aW4:A9 Tryz.prog 83 a1p:=
 a2L (p0:=b04) (p1:=b04) Tryz.underlying83 (by kernel_rfl) ⟨_,rfl,rfl,by kernel_rfl,aL6⟩ ⟨_,rfl,rfl,by kernel_rfl,aL6⟩ (by kernel_rfl)
theorem a6p:A9 Tryz.prog 44 [.sl a1p]:=.sl Tryz.underlying44 (by kernel_rfl) (by decide) aW4
theorem aA4:A9 Tryz.prog 54 [d9,d9]:=
 a2L (p0:=[d9]) (p1:=[d9]) Tryz.underlying54 (by kernel_rfl) ⟨_,rfl,rfl,by kernel_rfl,v5⟩ ⟨_,rfl,rfl,by kernel_rfl,v5⟩ (by kernel_rfl)
theorem ar7 {t:T} (h:Fit (.sl [d9]) t):∃l:List Int,t=I8 l:=by
 obtain ⟨xs,rfl,_⟩:=h.sl_inv g9 (fun _=>True) (fun r hl hr=>by
  match r,hl with
  |[u],_=>
   obtain ⟨n,rfl,_⟩:=(hr 0 _ _ rfl rfl).int_inv
   exact ⟨n,rfl,trivial⟩)
 exact ⟨xs,rfl⟩
theorem an3 {r:List T} (hl:r.length=4) (hr:∀(j:Nat) (s:Sh) (t:T),a1p[j]? =some s→r[j]? =some t→Fit s t):∃f:Fr,r=j7 f:=by
 match r,hl with
 |[a,b,c,d],_=>
  obtain ⟨n,rfl,_⟩:=(hr 0 _ _ rfl rfl).int_inv
  obtain ⟨l,rfl⟩:=ar7 (hr 1 _ _ rfl rfl)
  obtain ⟨m,rfl,_⟩:=(hr 2 _ _ rfl rfl).int_inv
  obtain ⟨k,rfl⟩:=ar7 (hr 3 _ _ rfl rfl)
  exact ⟨⟨⟨n,l⟩,⟨m,k⟩⟩,rfl⟩
theorem a5L {t:T} (h:Fit (.sl a1p) t):∃l:List Fr,t=M8 l:=by
 obtain ⟨xs,rfl,_⟩:=h.sl_inv j7 (fun _=>True) (fun r hl hr=>by
  obtain ⟨f,rfl⟩:=an3 hl hr
  exact ⟨f,rfl,trivial⟩)
 exact ⟨xs,rfl⟩
section
variable {H:Type} {enc:TypeId × Value→H} {w:World} {base:Nat} {spare:Nat→Bool} {held:Bool}
theorem ao2 {shs:List Sh} {l:List Value} (h:aj6 w shs l):∃ts:List T,ts.length=shs.length∧(∀ (j:Nat) (s:Sh) (t:T),shs[j]? =some s→ts[j]? =some t→Fit s t)∧RS w (fun _=>none) (fun _=>False) (.agg (ts.map C.t)) (.agg ⟨l⟩):=by
 obtain ⟨h0,ts,h1,h2⟩:=h
 refine ⟨ts,h1,fun j s t hs ht=>?_,?_⟩
 ·obtain ⟨u,t',e1,e2,e3,e4⟩:=h2 j s hs
  rw [ht] at e2;injection e2 with e2;subst e2;exact e4
 ·refine .agg l (by simp [h0,h1]) fun j c hc=>?_
  rw [List.getElem?_map] at hc
  obtain ⟨t,ht,rfl⟩:=Option.map_eq_some_iff.1 hc
  have hj:j<shs.length:=by rw [← h1];exact (lg1 ht).1
  obtain ⟨u,t',e1,e2,e3,e4⟩:=h2 j _ (lg0 hj)
  rw [ht] at e2;injection e2 with e2;subst e2
  rw [lg3,e1]
  exact .t e3
end
end
section
open Go.RowKit Go.ChangeShapes Go.WideShapes Go.Deep
def at8 (P:Program):List Field→List (List Sh)→Nat→Prop
 |[],[],_=>True
 |f::fs,p::ps,o=>(f.offset=o∧P.cellsOf f.type=p.length∧A9 P f.type p)∧at8 P fs ps (o+p.length)
 |_,_,_=>False
theorem at8.get {P:Program}:∀{fs:List Field} {ps:List (List Sh)} {o:Nat},at8 P fs ps o→ps.length=fs.length∧∀(i:Nat) (f:Field) (p:List Sh),fs[i]? =some f→ps[i]? =some p→f.offset=o+(ps.take i).flatten.length∧P.cellsOf f.type=p.length∧A9 P f.type p
 |[],[],o,_=>⟨rfl,by simp⟩
 |f::fs,p::ps,o,h=>by
  obtain ⟨⟨h1,h2,h3⟩,h4⟩:=h
  obtain ⟨l,g⟩:=at8.get h4
  refine ⟨by simp [l],fun i f' p' hf hp=>?_⟩
  cases i with
  |zero=>simp at hf hp;subst hf hp;exact ⟨by simp [h1],h2,h3⟩
  |succ i=>
   obtain ⟨g1,g2,g3⟩:=g i f' p' (by simpa using hf) (by simpa using hp)
   exact ⟨by rw [g1];simp;omega,g2,g3⟩
 |[],_::_,_,h=>h.elim
 |_::_,[],_,h=>h.elim
theorem L1 {P:Program} {t:TypeId} {fs:Array Field} (parts:List (List Sh)) (h:P.underlying t=some (.struct fs)) (hf:at8 P fs.toList parts 0) (hc:P.cellsOf t=parts.flatten.length):A9 P t parts.flatten:=by
 obtain ⟨l,g⟩:=hf.get
 refine A9.struct parts h (by simpa using l) (fun i f p hi hp=>?_) hc (fun i f p hi hp=>?_)
 ·obtain ⟨g1,g2,g3⟩:=g i f p (by simpa using hi) hp
  exact ⟨by rw [g1];simp,g2⟩
 ·exact (g i f p (by simpa using hi) hp).2.2
theorem aU9:A9 Tryz.prog 4 [.bool]:=.bool Tryz.underlying4
theorem aR1:A9 Tryz.prog 77 [d9,d9,d9]:=
 L1 [[d9],[d9],[d9]] Tryz.underlying77 ⟨⟨by kernel_rfl,by kernel_rfl,v5⟩,⟨by kernel_rfl,by kernel_rfl,v5⟩,⟨by kernel_rfl,by kernel_rfl,v5⟩,trivial⟩ (by kernel_rfl)
theorem b02:A9 Tryz.prog 79 [d9,d9,d9,d9,d9,.bool]:=
 L1 [[d9],[d9],[d9],[d9],[d9],[.bool]] Tryz.underlying79 ⟨⟨by kernel_rfl,by kernel_rfl,v5⟩,⟨by kernel_rfl,by kernel_rfl,v5⟩,⟨by kernel_rfl,by kernel_rfl,v5⟩,⟨by kernel_rfl,by kernel_rfl,v5⟩,⟨by kernel_rfl,by kernel_rfl,v5⟩,⟨by kernel_rfl,by kernel_rfl,aU9⟩,trivial⟩ (by kernel_rfl)
theorem aU5:A9 Tryz.prog 209 [d9,d9,d9,d9,d9,d9]:=
 L1 [[d9],[d9],[d9],[d9],[d9],[d9]] Tryz.underlying209 ⟨⟨by kernel_rfl,by kernel_rfl,v5⟩,⟨by kernel_rfl,by kernel_rfl,v5⟩,⟨by kernel_rfl,by kernel_rfl,v5⟩,⟨by kernel_rfl,by kernel_rfl,v5⟩,⟨by kernel_rfl,by kernel_rfl,v5⟩,⟨by kernel_rfl,by kernel_rfl,v5⟩,trivial⟩ (by kernel_rfl)
theorem aE5:A9 Tryz.prog 216 [d9,d9,d9,d9]:=
 L1 [[d9],[d9],[d9],[d9]] Tryz.underlying216 ⟨⟨by kernel_rfl,by kernel_rfl,v5⟩,⟨by kernel_rfl,by kernel_rfl,v5⟩,⟨by kernel_rfl,by kernel_rfl,v5⟩,⟨by kernel_rfl,by kernel_rfl,v5⟩,trivial⟩ (by kernel_rfl)
theorem b0W:A9 Tryz.prog 34 [d9,d9,d9]:=
 L1 [[d9],[d9],[d9]] Tryz.underlying34 ⟨⟨by kernel_rfl,by kernel_rfl,v5⟩,⟨by kernel_rfl,by kernel_rfl,v5⟩,⟨by kernel_rfl,by kernel_rfl,v5⟩,trivial⟩ (by kernel_rfl)
theorem aM8:A9 Tryz.prog 36 [d9,d9]:=
 L1 [[d9],[d9]] Tryz.underlying36 ⟨⟨by kernel_rfl,by kernel_rfl,v5⟩,⟨by kernel_rfl,by kernel_rfl,v5⟩,trivial⟩ (by kernel_rfl)
theorem aD0:A9 Tryz.prog 22 [.sl [d9,d9,d9]]:=.sl Tryz.underlying22 (by kernel_rfl) (by decide) aR1
theorem aP1:A9 Tryz.prog 23 [.sl [d9,d9,d9,d9,d9,.bool]]:=.sl Tryz.underlying23 (by kernel_rfl) (by decide) b02
theorem aQ1:A9 Tryz.prog 24 [.sl [d9,d9,d9,d9,d9,d9]]:=.sl Tryz.underlying24 (by kernel_rfl) (by decide) aU5
theorem ap7:A9 Tryz.prog 25 [.sl [d9,d9]]:=.sl Tryz.underlying25 (by kernel_rfl) (by decide) aA4
theorem ad7:A9 Tryz.prog 26 [.sl [d9,d9,d9,d9]]:=.sl Tryz.underlying26 (by kernel_rfl) (by decide) aE5
theorem aM7:A9 Tryz.prog 29 [.sl [d9,d9,d9]]:=.sl Tryz.underlying29 (by kernel_rfl) (by decide) b0W
theorem aC1:A9 Tryz.prog 30 [.sl [d9,d9]]:=.sl Tryz.underlying30 (by kernel_rfl) (by decide) aM8
abbrev b3F:List Sh:=[d9,d9,d9,.sl [d9,d9,d9],.sl [d9,d9,d9,d9,d9,.bool],.sl [d9,d9,d9,d9,d9,d9],.sl [d9,d9],.sl [d9,d9,d9,d9]]
theorem b4o:A9 Tryz.prog 28 b3F:=
 L1 [[d9],[d9],[d9],[.sl [d9,d9,d9]],[.sl [d9,d9,d9,d9,d9,.bool]],[.sl [d9,d9,d9,d9,d9,d9]],[.sl [d9,d9]],[.sl [d9,d9,d9,d9]]] Tryz.underlying28
  ⟨⟨by kernel_rfl,by kernel_rfl,v5⟩,⟨by kernel_rfl,by kernel_rfl,v5⟩,⟨by kernel_rfl,by kernel_rfl,v5⟩,⟨by kernel_rfl,by kernel_rfl,aD0⟩,⟨by kernel_rfl,by kernel_rfl,aP1⟩,⟨by kernel_rfl,by kernel_rfl,aQ1⟩,⟨by kernel_rfl,by kernel_rfl,ap7⟩,⟨by kernel_rfl,by kernel_rfl,ad7⟩,trivial⟩ (by kernel_rfl)
abbrev b9f:List Sh:=b3F++[.sl [d9,d9,d9],.sl [d9,d9]]
theorem b4y:A9 Tryz.prog 32 b9f:=
 L1 [b3F,[.sl [d9,d9,d9]],[.sl [d9,d9]]] Tryz.underlying32
  ⟨⟨by kernel_rfl,by kernel_rfl,b4o⟩,⟨by kernel_rfl,by kernel_rfl,aM7⟩,⟨by kernel_rfl,by kernel_rfl,aC1⟩,trivial⟩ (by kernel_rfl)
theorem z6 {t:T} (h:Fit d9 t):∃n,t=ti n:=by obtain ⟨n,h,_⟩:=h.int_inv;exact ⟨n,h⟩
section
variable {α:Type} {t:T}
theorem aw5 (h:Fit (.sl [d9,d9,d9]) t):∃l:List J7,t=a3N l:=by
 obtain ⟨xs,rfl,_⟩:=h.sl_inv J7.row (fun _=>True) (fun r hl hr=>by
  match r,hl with
  |[a,b,c],_=>
   obtain ⟨a,rfl⟩:=z6 (hr 0 _ _ rfl rfl)
   obtain ⟨b,rfl⟩:=z6 (hr 1 _ _ rfl rfl)
   obtain ⟨c,rfl⟩:=z6 (hr 2 _ _ rfl rfl)
   exact ⟨⟨a,b,c⟩,rfl,trivial⟩)
 exact ⟨xs,rfl⟩
theorem aR8 (h:Fit (.sl [d9,d9,d9]) t):∃l:List T1,t=a8j l:=by
 obtain ⟨xs,rfl,_⟩:=h.sl_inv T1.row (fun _=>True) (fun r hl hr=>by
  match r,hl with
  |[a,b,c],_=>
   obtain ⟨a,rfl⟩:=z6 (hr 0 _ _ rfl rfl)
   obtain ⟨b,rfl⟩:=z6 (hr 1 _ _ rfl rfl)
   obtain ⟨c,rfl⟩:=z6 (hr 2 _ _ rfl rfl)
   exact ⟨⟨a,b,c⟩,rfl,trivial⟩)
 exact ⟨xs,rfl⟩
theorem aB6 (h:Fit (.sl [d9,d9]) t):∃l:List K2,t=a5s l:=by
 obtain ⟨xs,rfl,_⟩:=h.sl_inv K2.row (fun _=>True) (fun r hl hr=>by
  match r,hl with
  |[a,b],_=>
   obtain ⟨a,rfl⟩:=z6 (hr 0 _ _ rfl rfl)
   obtain ⟨b,rfl⟩:=z6 (hr 1 _ _ rfl rfl)
   exact ⟨⟨a,b⟩,rfl,trivial⟩)
 exact ⟨xs,rfl⟩
theorem ar3 (h:Fit (.sl [d9,d9]) t):∃l:List x9,t=H7 l:=by
 obtain ⟨xs,rfl,_⟩:=h.sl_inv x9.row (fun _=>True) (fun r hl hr=>by
  match r,hl with
  |[a,b],_=>
   obtain ⟨a,rfl⟩:=z6 (hr 0 _ _ rfl rfl)
   obtain ⟨b,rfl⟩:=z6 (hr 1 _ _ rfl rfl)
   exact ⟨⟨a,b⟩,rfl,trivial⟩)
 exact ⟨xs,rfl⟩
theorem af3 (h:Fit (.sl [d9,d9,d9,d9]) t):∃l:List O0,t=a0i l:=by
 obtain ⟨xs,rfl,_⟩:=h.sl_inv O0.row (fun _=>True) (fun r hl hr=>by
  match r,hl with
  |[a,b,c,d],_=>
   obtain ⟨a,rfl⟩:=z6 (hr 0 _ _ rfl rfl)
   obtain ⟨b,rfl⟩:=z6 (hr 1 _ _ rfl rfl)
   obtain ⟨c,rfl⟩:=z6 (hr 2 _ _ rfl rfl)
   obtain ⟨d,rfl⟩:=z6 (hr 3 _ _ rfl rfl)
   exact ⟨⟨a,b,c,d⟩,rfl,trivial⟩)
 exact ⟨xs,rfl⟩
theorem aP8 (h:Fit (.sl [d9,d9,d9,d9,d9,d9]) t):∃l:List E7,t=W7 l:=by
 obtain ⟨xs,rfl,_⟩:=h.sl_inv E7.row (fun _=>True) (fun r hl hr=>by
  match r,hl with
  |[a,b,c,d,e,f],_=>
   obtain ⟨a,rfl⟩:=z6 (hr 0 _ _ rfl rfl)
   obtain ⟨b,rfl⟩:=z6 (hr 1 _ _ rfl rfl)
   obtain ⟨c,rfl⟩:=z6 (hr 2 _ _ rfl rfl)
   obtain ⟨d,rfl⟩:=z6 (hr 3 _ _ rfl rfl)
   obtain ⟨e,rfl⟩:=z6 (hr 4 _ _ rfl rfl)
   obtain ⟨f,rfl⟩:=z6 (hr 5 _ _ rfl rfl)
   exact ⟨⟨a,b,c,d,e,f⟩,rfl,trivial⟩)
 exact ⟨xs,rfl⟩
theorem aO0 (h:Fit (.sl [d9,d9,d9,d9,d9,.bool]) t):∃l:List p7,t=a20 l:=by
 obtain ⟨xs,rfl,_⟩:=h.sl_inv p7.row (fun _=>True) (fun r hl hr=>by
  match r,hl with
  |[a,b,c,d,e,f],_=>
   obtain ⟨a,rfl⟩:=z6 (hr 0 _ _ rfl rfl)
   obtain ⟨b,rfl⟩:=z6 (hr 1 _ _ rfl rfl)
   obtain ⟨c,rfl⟩:=z6 (hr 2 _ _ rfl rfl)
   obtain ⟨d,rfl⟩:=z6 (hr 3 _ _ rfl rfl)
   obtain ⟨e,rfl⟩:=z6 (hr 4 _ _ rfl rfl)
   obtain ⟨f,rfl⟩:=(hr 5 _ _ rfl rfl).bool_inv
   exact ⟨⟨a,b,c,d,e,f⟩,rfl,trivial⟩)
 exact ⟨xs,rfl⟩
end
section
variable {H:Type} {enc:TypeId × Value→H} {w:World} {base:Nat} {spare:Nat→Bool} {held:Bool}
theorem open_trace {v:Value} {d:DataW H} {p:List MemPlace} {r:Reach} {b0:Nat} (hv:Value.okWide Tryz.prog w r b0 32 v) (h:DataW.Trod enc Tryz.prog w base spare held 32 v d p):∃t:l9,RS w (fun _=>none) (fun _=>False) (trS t) v:=by
 obtain ⟨⟨l⟩,rfl,_⟩:=okWide_struct Tryz.underlying32 hv
 obtain ⟨fuel,hf⟩:=h
 obtain ⟨ts,h1,h2,h3⟩:=ao2 (aL3 b4y fuel _ _ hf)
 match ts,h1 with
 |[a,b,c,d,e,f,g,h,i,j],_=>
  obtain ⟨a,rfl⟩:=z6 (h2 0 _ _ rfl rfl)
  obtain ⟨b,rfl⟩:=z6 (h2 1 _ _ rfl rfl)
  obtain ⟨c,rfl⟩:=z6 (h2 2 _ _ rfl rfl)
  obtain ⟨d,rfl⟩:=aw5 (h2 3 _ _ rfl rfl)
  obtain ⟨e,rfl⟩:=aO0 (h2 4 _ _ rfl rfl)
  obtain ⟨f,rfl⟩:=aP8 (h2 5 _ _ rfl rfl)
  obtain ⟨g,rfl⟩:=ar3 (h2 6 _ _ rfl rfl)
  obtain ⟨h,rfl⟩:=af3 (h2 7 _ _ rfl rfl)
  obtain ⟨i,rfl⟩:=aR8 (h2 8 _ _ rfl rfl)
  obtain ⟨j,rfl⟩:=aB6 (h2 9 _ _ rfl rfl)
  exact ⟨⟨⟨a,b,c,d,e,f,g,h⟩,i,j⟩,h3⟩
end
end
section
open Go.RowKit Go.ChangeShapes Go.WideShapes Go.Deep
theorem as6:A9 Tryz.prog 46 [d9,d9,.sl a1p,.sl a1p,.sl a1p]:=
 L1 [[d9],[d9],[.sl a1p],[.sl a1p],[.sl a1p]] Tryz.underlying46 ⟨⟨by kernel_rfl,by kernel_rfl,v5⟩,⟨by kernel_rfl,by kernel_rfl,v5⟩,⟨by kernel_rfl,by kernel_rfl,a6p⟩,⟨by kernel_rfl,by kernel_rfl,a6p⟩,⟨by kernel_rfl,by kernel_rfl,a6p⟩,trivial⟩ (by kernel_rfl)
section
variable {H:Type} {enc:TypeId × Value→H} {w:World} {base:Nat} {spare:Nat→Bool} {held:Bool}
theorem open_verdict {v:Value} {d:DataW H} {p:List MemPlace} {r:Reach} {b0:Nat} (hv:Value.okWide Tryz.prog w r b0 46 v) (h:DataW.Trod enc Tryz.prog w base spare held 46 v d p):∃x:a33,RS w (fun _=>none) (fun _=>False) (a6H x) v:=by
 obtain ⟨⟨l⟩,rfl,_⟩:=okWide_struct Tryz.underlying46 hv
 obtain ⟨fuel,hf⟩:=h
 obtain ⟨ts,h1,h2,h3⟩:=ao2 (aL3 as6 fuel _ _ hf)
 match ts,h1 with
 |[a,b,c,d,e],_=>
  obtain ⟨a,rfl⟩:=z6 (h2 0 _ _ rfl rfl)
  obtain ⟨b,rfl⟩:=z6 (h2 1 _ _ rfl rfl)
  obtain ⟨c,rfl⟩:=a5L (h2 2 _ _ rfl rfl)
  obtain ⟨d,rfl⟩:=a5L (h2 3 _ _ rfl rfl)
  obtain ⟨e,rfl⟩:=a5L (h2 4 _ _ rfl rfl)
  exact ⟨⟨a,b,c,d,e⟩,h3⟩
end
end
section
open Go.RowKit Go.ChangeShapes Go.WideShapes Go.ChangeAt
set_option maxRecDepth 100000 in
theorem a3V (os:Os) (started:os.Started) (H:Type) (enc:TypeId × Value→H):
 ReturnsInHanded {} Tryz.checked os 8 .any (Rows.sourceProvesSpec.pre6 enc Tryz.prog Tryz.f8 Rows.sourceProvesRow.domain false) (Rows.sourceProvesSpec.post enc Tryz.prog Tryz.f8 false true false false):=by
 refine returnsInHanded_of_change (C:=Tryz.checked) b1h started (by kernel_rfl) Tryz.func8
  (ChangeSpec.witness6 (enc:=enc) (C:=Tryz.checked) false ⟨#[],#[.agg #[.int .i64 0,.int .i64 0,.int .i64 0,.slice none 0 0,.slice none 0 0,.slice none 0 0,.slice none 0 0,.slice none 0 0,.slice none 0 0,.slice none 0 0],.int .i64 0,.agg #[.int .i64 0,.int .i64 0,.slice none 0 0,.slice none 0 0,.slice none 0 0]],[]⟩ 12 (by kernel_rfl) (by kernel_rfl) (by kernel_rfl) (by kernel_rfl)) ?_
 intro W base args ds gs before hval0 hW hcnd _
 have hval:∀(j:Nat) t v,Tryz.f8.params[j]? =some t→args[j]? =some v→Value.okWide Tryz.prog W .any base t v:=hval0
 have hW':=hW
 obtain ⟨p,q,hA0,hV,rfl,hfz,hnd⟩:=hW
 have hA:DataW.TrodAll enc Tryz.prog W 0 (fun _=>true) true Tryz.f8.params.toList args.toList ds p:=hA0
 rw [Tryz.params8] at hA hval
 obtain ⟨v0,vs0,d0,ds0,p0,q0,hargs,rfl,rfl,h0,r0⟩:=trodAll_cons hA
 obtain ⟨v1,vs1,d1,ds1,p1,q1,rfl,rfl,rfl,h1,r1⟩:=trodAll_cons r0
 obtain ⟨v2,vs2,d2,ds2,p2,q2,rfl,rfl,rfl,h2,r2⟩:=trodAll_cons r1
 obtain ⟨rfl,rfl,rfl⟩:=trodAll_nil r2
 obtain rfl:args=#[v0,v1,v2]:=by cases args;simp_all
 obtain ⟨rfl,rfl⟩:=trodVars_none hV
 obtain ⟨a0,t0⟩:=Go.Proofs.YtdbogogfeffjlaaGreat.open_trace (hval 0 32 v0 rfl rfl) h0
 obtain ⟨a1,rfl,rfl,rfl,w1⟩:=open_int Tryz.underlying3 (hval 1 3 v1 rfl rfl) h1
 obtain ⟨a2,t2⟩:=Go.Proofs.YtdbogogfeffjlaaGreat.open_verdict (hval 2 46 v2 rfl rfl) h2
 refine (af4 (a8r a0 a1 a2) (.cons (t0) (.cons (b40) (.cons (t2) (.nil))))).mono fun ee W' ⟨he,hg⟩=>?_
 subst he
 exact ⟨_,rfl,aT7 hW' aU8 (by rw [Tryz.params8];intro t ht;simp at ht;first|(rcases ht with rfl|rfl|rfl<;>exact ⟨by kernel_rfl,of_decide_eq_true (by kernel_rfl)⟩)|(rcases ht with rfl|rfl|rfl<;>exact ⟨by kernel_rfl,of_decide_eq_true (by kernel_rfl)⟩)) rfl rfl (by kernel_rfl) Tryz.underlying4 hg⟩
theorem a4x:(Rows.sourceProvesRow.inPlace == Tryz.pinned.checked.prog.inPlace 8)=true:=by kernel_rfl
theorem a6u:(Rows.sourceProvesRow.unfollowed == Tryz.pinned.checked.prog.unfollowed 8)=true:=by kernel_rfl
theorem a6g:(Rows.sourceProvesRow.recurses == Tryz.pinned.checked.prog.recurses 8)=true:=by kernel_rfl
theorem a4J:(Rows.sourceProvesRow.named == Tryz.pinned.checked.prog.varsNamed 8)=true:=by kernel_rfl
theorem a4A:(Rows.sourceProvesRow.loops == (Tryz.f8.params.toList++Rows.sourceProvesSpec.plain.varTypes Tryz.pinned.checked.prog).any (Tryz.pinned.checked.prog.loopsFrom ·))=true:=by kernel_rfl
set_option maxRecDepth 100000 in
theorem a3W:joinedFacts Tryz.pinned.checked.prog 8 Tryz.f8 (Rows.sourceProvesSpec) Rows.sourceProvesRow=true:=aP0 (by kernel_rfl) b2j b1X (by kernel_rfl) (by kernel_rfl) (by kernel_rfl) (by kernel_rfl) (by kernel_rfl) (by kernel_rfl) a4x a6u a6g a4J (by kernel_rfl) (by kernel_rfl) (by kernel_rfl) a4A (by kernel_rfl) (by kernel_rfl) (by kernel_rfl) (by kernel_rfl) (by kernel_rfl) b1T (by kernel_rfl) b00 b12 b1M b2u (by kernel_rfl) (by kernel_rfl) (by kernel_rfl) (by kernel_rfl) (by kernel_rfl)
theorem sourceProves_holds:Rows.SourceProvesSaid:=
 OpenClaim.holds_of_wide 8 Tryz.f8 rfl rfl rfl rfl rfl rfl rfl ⟨rfl,rfl,rfl,rfl,rfl⟩ rfl rfl rfl rfl rfl (by kernel_rfl) Tryz.func8 a3W
  (of_decide_eq_true (by kernel_rfl)) (by unfold Func.isWrapper;first|(rw [if_pos (by decide +kernel)];kernel_rfl)|(rw [if_neg (by decide +kernel)];exact ⟨rfl,rfl⟩))
  (fun os started H enc _=>a3V os started H enc)
end
end Go.Proofs.YtdbogogfeffjlaaGreat
