/- Part 7. -/
import Derived.ProofKit
import Derived.OpenShut
import Derived.Deep.Slices
import Derived.Deep.Fields
import Derived.Test.YtpjgpclheebhkaaGreatRows
import Derived.Deep.DeepMust
import Derived.BigQuiet
import Derived.Deep.Light
import Derived.Test.YtpjgpclheebhkaaGreatAj6
namespace Go.Proofs.YtpjgpclheebhkaaGreat
set_option linter.unusedVariables false
set_option linter.unusedSimpArgs false
set_option maxRecDepth 100000
open Go.RowKit
open St1 St2 St3 St4 St5 St6 St7 St8 StA StB
theorem aJ2 {P:Program} {g:FuncId} {n:Nat} {H H':Hp} {r:S} (h1:a8 P g [.c (.t (.sl n .nul []))] H r H') (h2:a8 P g [.c (.t (.sl n .non []))] H r H'):a8 P g [.c (.t (.sl n .any []))] H r H':=by
 refine ⟨h1.1,fun w ι M vals hl hv hH hM hf=>?_⟩
 have h0:=hv 0 _ rfl
 have key:RS w ι M (.c (.t (.sl n .nul []))) (vals.getD 0 undef)∨RS w ι M (.c (.t (.sl n .non []))) (vals.getD 0 undef):=by
  generalize vals.getD 0 undef=v at h0
  cases h0 with
  |c h=>cases h with
   |t h=>cases h with
    |@sl _ _ _ b off cap A f hrow hcap hmax hk hn hA hc hr hx=>
     cases A with
     |none=>exact .inl (.c (.t (.sl (b:=b) (off:=off) f hrow hcap hmax (fun h=>nomatch h) (fun h=>nomatch h) hA hc hr ⟨fun _=>⟨rfl,rfl⟩,fun h=>nomatch h⟩)))
     |some a=>exact .inr (.c (.t (.sl (b:=b) (off:=off) f hrow hcap hmax (fun h=>nomatch h) (fun h=>nomatch h) hA hc hr ⟨(fun h=>nomatch h),fun _=>(fun h=>nomatch h)⟩)))
 have one:∀s,RS w ι M s (vals.getD 0 undef)->∀j s',[s][j]? =some s'->RS w ι M s' (vals.getD j undef):=fun s hs j s' hj=>by
  cases j with
  |zero=>injection hj with hj;subst hj;exact hs
  |succ j=>simp at hj
 rcases key with k|k
 ·exact h1.2 w ι M vals hl (one _ k) hH hM hf
 ·exact h2.2 w ι M vals hl (one _ k) hH hM hf
theorem b3B:a8 Tryz.prog 22 [.c (.t (.sl 6 .any []))] [] (.c (.own 0 0 0 true)) [X8 []]:=by
 refine aJ2 ?_ ?_
 ·(refine ac Tryz.func22 ?_;(conv=>whnf);repeat (refine zy ?_;conv=>whnf))
  repeat' (first|refine zx ?_|refine zd ?_ ?_<;>intro h<;>try omega|fail)<;>conv=>whnf
  all_goals first
   |exact ⟨[none],rfl,rfl,⟨⟨rfl,rfl⟩,trivial⟩,⟨rfl,rfl,rfl⟩⟩
 ·(refine ac Tryz.func22 ?_;(conv=>whnf);repeat (refine zy ?_;conv=>whnf))
  repeat' (first|refine zx ?_|refine a35 rfl (by decide) ?_|refine zd ?_ ?_<;>intro h<;>try omega|fail)<;>conv=>whnf
  all_goals first
   |exact ⟨[some 0],rfl,rfl,⟨b8 (rows:=([]:List B8).map u0) rfl rfl rfl rfl rfl,trivial⟩,⟨rfl,rfl,rfl,fun h=>h⟩⟩
theorem aU1 (l:List B8) (h1:l.length<=100000):a8 Tryz.prog 22 [.c (.t (K0 l))] [] (.c (.own 0 0 l.length true)) [X8 l]:=by
 have m1:(l.map u0).length=l.length:=by simp
 by_cases h0:l.length=0
 ·have:l=[]:=a22.1 h0
  subst this
  exact b3B
 have hl:0<(l.map u0).length:=by omega
 (refine ac Tryz.func22 ?_;(conv=>whnf);repeat (refine zy ?_;conv=>whnf))
 repeat' (first|refine zx ?_|refine qp (toC,lbr,a5n) ?_|refine qp (toC,lbr) ?_|refine ⟨hl,?_⟩|refine zz ?_|refine a35 rfl (by simp only [toC,lbr,a5n];omega) ?_|refine D7 (D5 _) (by simp only [toC,lbr];omega) ?_|refine zd ?_ ?_<;>intro h<;>try omega|fail)<;>conv=>whnf
 all_goals first
  |omega
  |exact ⟨[some 0],rfl,rfl,⟨b8 (rows:=l.map u0) rfl rfl rfl rfl rfl,trivial⟩,⟨rfl,rfl,by simp [toC],fun h=>h⟩⟩
set_option maxHeartbeats 2000000 in
theorem b7z (s:d7) (g:List (Int × Rat)) (hl:s.rows.length<=100000):a8 Tryz.prog 29 [K3 s,j4 g] [] (K3 (n9 s g)) []:=by
 have m1:(s.rows.map u0).length=s.rows.length:=by simp
 have i0:=B3 0 (by decide) (by decide)
 have cl:=fun H:Hp=>a2l (H:=H) (aU1 s.rows hl) rfl rfl (f5 _)
 (refine ac Tryz.func29 ?_;(conv=>whnf);repeat (refine zy ?_;conv=>whnf))
 repeat' (first|refine zx ?_|refine qp i0 ?_|refine qp toC ?_|refine qp toC ?_|refine qp (0,1) ?_|refine .inl ⟨_,_,cl _,?_⟩|refine D7 (by simp [toC]) (by simp [toC];omega) ?_|refine bl0 [0,1] ?_|refine zd ?_ ?_<;>intro h<;>try omega|fail)<;>conv=>whnf
 all_goals first
  |(refine l9 ⟨rfl,?_,trivial⟩
    show VC _ (fun id=>N2 [] id=true) (C.own 2 0 _ true) (K0 (n9 s g).rows)
    refine y0 (rows:=(s.rows++[(⟨g,2,((0:Int):Rat)⟩:B8)]).map u0) rfl rfl (fun h=>h) rfl ?_ ?_
    ·exact a01 (f:=u0) (x:=(⟨g,2,((0:Int):Rat)⟩:B8)) rfl
    ·simp [toC])
theorem ai8:a8 Tryz.prog 32 [frS J3] [] (a7 .i64 0) []:=by
 have rr:=a4k J3 (by decide) (by decide)
 have e:o6 J3=false:=by decide +kernel
 rw [e] at rr
 (refine ac Tryz.func32 ?_;(conv=>whnf);repeat ((first|refine b0x ?_|refine zy ?_);conv=>whnf))
 repeat' (first|refine zx ?_|refine qp rr ?_|refine zd ?_ ?_<;>intro h<;>try omega|fail)<;>conv=>whnf
 all_goals exact n6 rfl
theorem a1n (l:List (Int × Rat)) (z:List Fr) (hl:l.length<=1000000) (h1:∀t ∈ l,rl t.2<=200) (hz:am3 z) (hr:(d8 (-1) z.length l && z.all o6)=false):
 a8 Tryz.prog 68 [j4 l,k8 z] [] (.tup [frS J3,d9 false]) []:=by
 have m2:(z.map j0).length=z.length:=by simp
 have rt:=I0 l z.length hl h1
 rw [lbI (by omega),F7] at rt
 have rt2:a8 Tryz.prog 72 [j4 l,a7 .i64 ((z.map j0).length:Nat)] [] (d9 (d8 (-1) z.length l)) []:=by rw [m2];exact rt
 have pt:=a9x z hz.l hz.d
 cases h1:d8 (-1) z.length l<;>cases h2:z.all o6<;>rw [h1] at rt2<;>rw [h2] at pt<;>
 ·first
   |(exfalso;rw [h1,h2] at hr;cases hr;done)
   |((refine ac Tryz.func68 ?_;(conv=>whnf);repeat ((first|refine b0x ?_|refine zy ?_);conv=>whnf))
     repeat' (first|refine zx ?_|refine qp rt2 ?_|refine qp pt ?_|refine zd ?_ ?_<;>intro h<;>try omega|fail)<;>conv=>whnf
     all_goals first
      |(exfalso;simp_all;done)
      |exact l9 ⟨⟨rfl,rfl,rfl,rfl,trivial⟩,rfl,trivial⟩)
theorem ab8 (s:d7) (hb:a0K s) (hr:g7 s=true) (z:List Fr) (hz:am3 z) (h:z.all o6=false):
 a8 Tryz.prog 69 [K3 s,k8 z] [] (d9 false) []:=by
 have m2:(z.map j0).length=z.length:=by simp
 have l1:=hb.n0
 have lr:=a2p s hb
 rw [hr] at lr
 have pt:=a9x z hz.l hz.d
 rw [h] at pt
 (refine ac Tryz.func69 ?_;(conv=>whnf);repeat ((first|refine b0x ?_|refine zy ?_);conv=>whnf))
 repeat' (first|refine zx ?_|refine qp lr ?_|refine qp pt ?_|refine zd ?_ ?_<;>intro h<;>try omega|fail)<;>conv=>whnf
 all_goals first
  |omega
  |exact b9 rfl
def inF (s:d7) (g:List (Int × Rat)) (x:List Fr) (is:Bool):Bool:=x.all o6 && a3v s g (x.map fv) is
structure PtF (s:d7) (g:List (Int × Rat)) (x:List Fr):Prop where
 r:am3 x
 p:x.all o6=true->PtB s (x.map fv)
 g:x.all o6=true->∀k,rl (i9 (g.take k) (x.map fv))<=50000
set_option maxHeartbeats 2000000 in
theorem bj6 (s:d7) (hb:a0K s) (hr:g7 s=true) (g:List (Int × Rat)) (hg:d8 (-1) s.n g=true) (hgb:∀t ∈ g,rl t.2<=200) (x:List Fr) (hp:PtF s g x) (is:Bool):
 a8 Tryz.prog 28 [K3 s,j4 g,k8 x,d9 is] [] (d9 (inF s g x is)) []:=by
 have hn:=a0S hr
 have hnn:s.n<=1500:=by
  unfold g7 at hr
  simp only [lbO,lbJ] at hr
  exact hr.1.1.2
 have hgl:g.length<=1500:=by have:=s6 hg;omega
 have sz:=ai8
 unfold inF
 cases hx:x.all o6 with
 |false=>
  rw [a8r]
  have ho:=ab8 s hb hr x hp.r hx
  have va:=a1n g x (by omega) hgb hp.r (by rw [hx,aA2])
  (refine ac Tryz.func28 ?_;(conv=>whnf);repeat ((first|refine b0x ?_|refine zy ?_);conv=>whnf))
  repeat' (first|refine zx ?_|refine qp va ?_|refine qp ho ?_|refine qp 5 ?_|refine bl0 [5] ?_|refine zd ?_ ?_<;>intro h<;>try omega|fail)<;>conv=>whnf
  all_goals first
   |(exfalso;contradiction)
   |exact b9 rfl
 |true=>
  rw [F7]
  have pp:=hp.p hx
  have pg:=hp.g hx
  obtain ⟨X,rfl⟩:=L5 hx
  rw [O7] at pp pg ⊢
  have ho:=aM1 s hb hr X pp
  unfold a3v
  cases hh:j2 s X with
  |true=>
   rw [hh] at ho
   have hnx:=(P7 hh).2
   have va:=a4n g X (by omega) hgb pp.v (fun k=>by have:=pg k;omega) pp.l (by rw [hnx];exact hg)
   have bv:=pg g.length
   rw [lbn (lbS _)] at bv
   have sg:=D9 (i9 g X) (by omega)
   have sp:=a2S (x:=i9 g X)
   have e:decide (0<i9 g X)=decide (sgR (i9 g X) > 0):=by rw [decide_eq_decide];exact sp.symm
   rw [e]
   generalize sgR (i9 g X)=U at sg
   clear sp e
   cases is<;>
   ·(refine ac Tryz.func28 ?_;(conv=>whnf);repeat ((first|refine b0x ?_|refine zy ?_);conv=>whnf))
    repeat' (first|refine zx ?_|refine qp va ?_|refine qp ho ?_|refine qp sg ?_|refine qp 5 ?_|refine bl0 [5] ?_|refine zd ?_ ?_<;>intro h<;>try omega|fail)<;>conv=>whnf
    all_goals first
     |(exfalso;contradiction)
     |(have hd:decide (U > 0)=true:=lbI (by omega)
       refine b9 ?_;rw [hd];rfl)
     |(have hd:decide (U > 0)=false:=lbK (by omega)
       refine b9 ?_;rw [hd];rfl)
  |false=>
   rw [hh] at ho
   cases hrt:d8 (-1) X.length g with
   |true=>
    have va:=a4n g X (by omega) hgb pp.v (fun k=>by have:=pg k;omega) pp.l hrt
    (refine ac Tryz.func28 ?_;(conv=>whnf);repeat ((first|refine b0x ?_|refine zy ?_);conv=>whnf))
    repeat' (first|refine zx ?_|refine qp va ?_|refine qp ho ?_|refine qp 5 ?_|refine bl0 [5] ?_|refine zd ?_ ?_<;>intro h<;>try omega|fail)<;>conv=>whnf
    all_goals first
     |(exfalso;contradiction)
     |exact b9 rfl
   |false=>
    have va:=a1n g (X.map fz) (by omega) hgb hp.r (by rw [lbr,hrt];rfl)
    (refine ac Tryz.func28 ?_;(conv=>whnf);repeat ((first|refine b0x ?_|refine zy ?_);conv=>whnf))
    repeat' (first|refine zx ?_|refine qp va ?_|refine qp ho ?_|refine qp 5 ?_|refine bl0 [5] ?_|refine zd ?_ ?_<;>intro h<;>try omega|fail)<;>conv=>whnf
    all_goals first
     |(exfalso;contradiction)
     |exact b9 rfl
structure a2r where
 hh:Int
 state:Int
 w:List Fr
 wo:List Fr
 pr:List Fr
def a2r.row (v:a2r):List T:=[ti v.hh,ti v.state,M8 v.w,M8 v.wo,M8 v.pr]
abbrev a6q (v:a2r):S:=.agg (v.row.map C.t)
def a0t.raw (v:a0t):a2r:=⟨v.hh,v.state,v.w.map fz,v.wo.map fz,v.pr.map fz⟩
def a2r.val (v:a2r):a0t:=⟨v.hh,v.state,v.w.map fv,v.wo.map fv,v.pr.map fv⟩
def aA4 (s:d7) (y:List Fr):Bool:=(decide (y.length=s.rows.length) && y.all o6) && ad9 s (y.map fv)
def am4 (s:d7) (g:List (Int × Rat)) (y:List Fr):Bool:=(decide (y.length=s.rows.length) && y.all o6) && (a2q s g (y.map fv) && decide (a0k s (yN (y.map fv))=0))
def T5 (s:d7) (g:List (Int × Rat)) (v:a2r):Bool:=
 if v.state=2 then decide (v.wo.length=0) && inF s g v.w true && aA4 (n9 s g) v.pr
 else if v.state=0 then decide (v.w.length=0) && inF s g v.wo false && am4 s (p6 g) v.pr
 else if v.state=1 then decide (v.pr.length=0) && inF s g v.w true && inF s g v.wo false
 else false
structure aK0 (s:d7) (y:List Fr):Prop where
 r:am3 y
 m:y.length=s.rows.length->y.all o6=true->a9f s (y.map fv)
theorem b7e (s:d7) (hb:a0K s) (hr:g7 s=true) (hn1:s.n<=1000) (y:List Fr) (hy:aK0 s y):
 a8 Tryz.prog 25 [K3 s,k8 y] [] (d9 (aA4 s y)) []:=by
 unfold aA4
 cases h:(decide (y.length=s.rows.length) && y.all o6) with
 |false=>rw [a8r];exact al9 s hb hr y hy.r h
 |true=>
  rw [F7]
  rw [lbO,lbJ] at h
  have hm:=hy.m h.1 h.2
  obtain ⟨Y,rfl⟩:=L5 h.2
  rw [O7] at hm ⊢
  exact b17 s hb hr hn1 Y hm.y (by have:=hm.l;have:=hm.m;omega) (fun _=>hm)
def aP7 (s:d7) (g:List (Int × Rat)) (y:List Fr):S:=if (decide (y.length=s.rows.length) && y.all o6)=true then aA5 s g (y.map fv) else .tup [frS J3,d9 false]
theorem b4B (s:d7) (hb:a0K s) (hr:g7 s=true) (hn1:s.n<=1000) (g:List (Int × Rat)) (hg:g.length<=1000000) (hgb:∀t ∈ g,rl t.2<=200) (y:List Fr) (hy:aK0 s y):
 a8 Tryz.prog 30 [K3 s,j4 g,k8 y] [] (aP7 s g y) []:=by
 unfold aP7
 cases h:(decide (y.length=s.rows.length) && y.all o6) with
 |false=>rw [if_neg (by decide)];exact a8Y s hb hr g y hy.r h
 |true=>
  rw [if_pos rfl]
  rw [lbO,lbJ] at h
  have hm:=hy.m h.1 h.2
  obtain ⟨Y,rfl⟩:=L5 h.2
  rw [O7] at hm ⊢
  exact aP3 s hb hr hn1 g hg hgb Y hm.y (by have:=hm.l;have:=hm.m;omega) (fun _=>hm)
theorem a8W (s:d7) (g:List (Int × Rat)) (y:List Fr) (hy:aK0 s y):(aP7 s g y=.tup [frS J3,d9 false]∧am4 s g y=false)∨∃x,rl x<=50000∧aP7 s g y=.tup [frS (fz x),d9 true]∧am4 s g y=decide (x=0):=by
 unfold aP7 am4
 cases h:(decide (y.length=s.rows.length) && y.all o6) with
 |false=>exact .inl ⟨by rw [if_neg (by decide)],rfl⟩
 |true=>
  rw [if_pos rfl,F7]
  unfold aA5
  cases hB:a2q s g (y.map fv) with
  |false=>exact .inl ⟨by rw [if_neg (by decide)],rfl⟩
  |true=>
   rw [if_pos rfl,F7]
   rw [lbO,lbJ] at h
   exact .inr ⟨_,(hy.m h.1 h.2).v s.rows.length,rfl,rfl⟩
structure b26 (s:d7) (g:List (Int × Rat)) (v:a2r):Prop where
 w:PtF s g v.w
 wo:PtF s g v.wo
 m1:aK0 (n9 s g) v.pr
 m0:aK0 s v.pr
set_option maxHeartbeats 8000000 in
theorem b4o (t:j9) (kind:Int) (hs:t.Sized) (ht:q9 t=0) (k0:0<=kind) (k1:kind<8) (v:a2r) (h0:0<=v.hh) (h1:v.hh<t.ev.hhs) (hm:t.ev.moves.length<=100) (hl:(g4 t kind).rows.length<6000)
 (hb:a0K (g4 t kind)) (hr:g7 (g4 t kind)=true) (hv:b26 (g4 t kind) (v8 t v.hh) v):
 a8 Tryz.prog 8 [trS t,a7 .i64 kind,a6q v] [] (d9 (T5 (g4 t kind) (v8 t v.hh) v)) []:=by
 have sy:=a0V t kind hs
 have hc:¬(q9 t≠0∨kind<0∨8<=kind):=by omega
 have e1:a2P t kind=0:=if_neg hc
 have e2:aF6 t kind=g4 t kind:=if_neg hc
 rw [e1,e2] at sy
 have go:=b2q t hs v.hh (by have:=ak1 (t:=t) (h:=v.hh);omega)
 have eg:aS4 t v.hh=v8 t v.hh:=if_pos ⟨ht,h0,h1⟩
 rw [eg] at go
 have hgr:d8 (-1) (g4 t kind).n (v8 t v.hh)=true:=K6 t v.hh
 have hgb:∀u ∈ v8 t v.hh,rl u.2<=200:=fun u hu=>by have:=S3 (a0b t v.hh) u hu;omega
 have hsn:(g4 t kind).n=t.ev.moves.length:=rfl
 have hn1:(g4 t kind).n<=1000:=by omega
 have hgl:(v8 t v.hh).length<=100:=by
  have:=s6 hgr
  omega
 generalize v8 t v.hh=g at go hgr hgb hgl hv
 have m1:(v.w.map j0).length=v.w.length:=by simp
 have m2:(v.wo.map j0).length=v.wo.length:=by simp
 have m3:(v.pr.map j0).length=v.pr.length:=by simp
 have i1:=bj6 _ hb hr g hgr hgb v.w hv.w true
 have i2:=bj6 _ hb hr g hgr hgb v.wo hv.wo false
 unfold T5
 by_cases s2:v.state=2
 ·rw [if_pos s2]
  have ne:=b7z (g4 t kind) g (by omega)
  have rf:=b7e (n9 (g4 t kind) g) (b2o hb hl hgl hgb) (a05 hr hl hgr) hn1 v.pr hv.m1
  generalize inF (g4 t kind) g v.w true=I1 at i1
  generalize aA4 (n9 (g4 t kind) g) v.pr=R1 at rf
  cases I1<;>cases R1<;>
  ·(refine ac Tryz.func8 ?_;(conv=>whnf);repeat ((first|refine b0x ?_|refine zy ?_);conv=>whnf))
   repeat' (first|refine zx ?_|refine qp sy ?_|refine qp go ?_|refine qp i1 ?_|refine qp ne ?_|refine qp rf ?_|refine qp 5 ?_|refine bl0 [5] ?_|refine zd ?_ ?_<;>intro h<;>try omega|fail)<;>conv=>whnf
   all_goals first
    |omega
    |(exfalso;contradiction)
    |(have hd:decide (v.wo.length=0)=true:=lbI (by omega)
      refine b9 ?_;rw [hd];rfl)
    |(have hd:decide (v.wo.length=0)=false:=lbK (by omega)
      refine b9 ?_;rw [hd];rfl)
 rw [if_neg s2]
 by_cases s0:v.state=0
 ·rw [if_pos s0]
  have op:=a2V g (a1C (by omega) hgr) hgb
  have lo:=b4B _ hb hr hn1 (p6 g) (by rw [a9m];omega) (b6K hgb) v.pr hv.m0
  generalize inF (g4 t kind) g v.wo false=I2 at i2
  rcases a8W (g4 t kind) (p6 g) v.pr hv.m0 with ⟨e3,e4⟩|⟨x,bx,e3,e4⟩
  ·rw [e3] at lo
   rw [e4,aA2]
   cases I2<;>
   ·(refine ac Tryz.func8 ?_;(conv=>whnf);repeat ((first|refine b0x ?_|refine zy ?_);conv=>whnf))
    repeat' (first|refine zx ?_|refine qp sy ?_|refine qp go ?_|refine qp i2 ?_|refine qp op ?_|refine qp lo ?_|refine qp 5 ?_|refine qp 8 ?_|refine bl0 [5] ?_|refine bl0 [8] ?_|refine zd ?_ ?_<;>intro h<;>try omega|fail)<;>conv=>whnf
    all_goals first
     |omega
     |(exfalso;contradiction)
     |exact b9 rfl
  ·rw [e3] at lo
   rw [e4]
   have sg:=D9 x (by omega)
   have sz:=a16 (x:=x)
   have e:decide (x=0)=decide (sgR x=0):=by rw [decide_eq_decide];exact sz.symm
   rw [e]
   generalize sgR x=U at sg
   clear sz e
   cases I2<;>
   ·(refine ac Tryz.func8 ?_;(conv=>whnf);repeat ((first|refine b0x ?_|refine zy ?_);conv=>whnf))
    repeat' (first|refine zx ?_|refine qp sy ?_|refine qp go ?_|refine qp i2 ?_|refine qp op ?_|refine qp lo ?_|refine qp sg ?_|refine qp 5 ?_|refine qp 8 ?_|refine bl0 [5] ?_|refine bl0 [8] ?_|refine zd ?_ ?_<;>intro h<;>try omega|fail)<;>conv=>whnf
    all_goals first
     |omega
     |(exfalso;contradiction)
     |(refine b9 ?_
       first
        |(rw [show decide (v.w.length=0)=true from lbI (by omega)];first|rfl|(rw [show decide (U=0)=true from lbI (by omega)];rfl)|(rw [show decide (U=0)=false from lbK (by omega)];rfl))
        |(rw [show decide (v.w.length=0)=false from lbK (by omega)];rfl))
 rw [if_neg s0]
 by_cases s1:v.state=1
 ·rw [if_pos s1]
  generalize inF (g4 t kind) g v.w true=I1 at i1
  generalize inF (g4 t kind) g v.wo false=I2 at i2
  cases I1<;>cases I2<;>
  ·(refine ac Tryz.func8 ?_;(conv=>whnf);repeat ((first|refine b0x ?_|refine zy ?_);conv=>whnf))
   repeat' (first|refine zx ?_|refine qp sy ?_|refine qp go ?_|refine qp i1 ?_|refine qp i2 ?_|refine qp 5 ?_|refine bl0 [5] ?_|refine zd ?_ ?_<;>intro h<;>try omega|fail)<;>conv=>whnf
   all_goals first
    |omega
    |(exfalso;contradiction)
    |(have hd:decide (v.pr.length=0)=true:=lbI (by omega)
      refine b9 ?_;rw [hd];rfl)
    |(have hd:decide (v.pr.length=0)=false:=lbK (by omega)
      refine b9 ?_;rw [hd];rfl)
 ·rw [if_neg s1]
  (refine ac Tryz.func8 ?_;(conv=>whnf);repeat ((first|refine b0x ?_|refine zy ?_);conv=>whnf))
  repeat' (first|refine zx ?_|refine qp sy ?_|refine qp go ?_|refine qp 5 ?_|refine bl0 [5] ?_|refine zd ?_ ?_<;>intro h<;>try omega|fail)<;>conv=>whnf
  all_goals first
   |omega
   |(exfalso;contradiction)
   |exact b9 rfl
set_option maxHeartbeats 2000000 in
theorem aN3 (t:j9) (kind:Int) (hs:t.Sized) (v:a2r) (h:a2P t kind≠0∨v.hh<0∨t.ev.hhs<=v.hh):
 a8 Tryz.prog 8 [trS t,a7 .i64 kind,a6q v] [] (d9 false) []:=by
 have sy:=a0V t kind hs
 (refine ac Tryz.func8 ?_;(conv=>whnf);repeat ((first|refine b0x ?_|refine zy ?_);conv=>whnf))
 repeat' (first|refine zx ?_|refine qp sy ?_|refine qp 5 ?_|refine bl0 [5] ?_|refine zd ?_ ?_<;>intro h<;>try omega|fail)<;>conv=>whnf
 all_goals first
  |omega
  |(exfalso;contradiction)
  |exact b9 rfl
theorem aI5 {s:d7} {g:List (Int × Rat)} {Y:List Rat} (hr:g7 s=true) (h:a2q s g Y=true):b76 s (w7 g) (yN Y) (a0k s (yN Y)):=by
 unfold a2q a1K at h
 simp only [lbO,lbJ,lbw] at h
 obtain ⟨⟨⟨h1,h2⟩,h3⟩,h4⟩:=h
 refine ⟨fun i w hw=>?_,fun l hl=>?_,rfl⟩
 ·have:=h2 i (lbC.2 (lbe.1 hw).1)
  unfold sgB at this
  rw [O3 hw] at this
  simp only [a2T,a5l,lbQ,lbL] at this
  obtain ⟨a,b⟩:=this
  exact ⟨fun hk=>by
   rcases a with a|a
   ·exact absurd hk a
   ·exact lb3.1 a,fun hk=>by
   rcases b with b|b
   ·exact absurd hk b
   ·exact lb3.1 b⟩
 ·exact h4 l (lbC.2 hl)
theorem never_holds {s:d7} {g:List (Int × Rat)} {z:List Rat} (hr:g7 s=true) (hl:s.rows.length<6000) (hg:d8 (-1) s.n g=true) (hz:j2 s z=true) (h0:i9 g z=0):j2 (n9 s g) z=true:=by
 obtain ⟨h1,h2,h3,h4⟩:=a2w.1 hz
 refine a2w.2 ⟨a05 hr hl hg,h2,h3,fun w hw=>?_⟩
 rcases lbA.1 hw with h|h
 ·exact h4 w h
 ·have h:=az5.1 h
  subst h
  have e1:((0:Int):Rat)=0:=rfl
  simp only
  rw [h0,e1]
  exact ⟨fun _=>lb2,fun _=>lb2⟩
theorem aO8 {s:d7} {Y:List Rat} (hr:g7 s=true) (h:ad9 s Y=true) (z:List Rat):j2 s z=false:=by
 cases hz:j2 s z with
 |false=>rfl
 |true=>
  exfalso
  unfold ad9 at h
  rw [lbO,lbJ] at h
  have hb:=a7E (g:=[]) (aI5 hr h.1) hz
  rw [s7 fun j hj=>by show (0:Rat)*_=0;grind] at hb
  have:=h.2
  grind
theorem a3T {s:d7} {g:List (Int × Rat)} {x:List Fr} {is:Bool} (h:inF s g x is=true):∃z,j2 s z=true∧(0<i9 g z↔is=true):=by
 unfold inF a3v at h
 simp only [lbO,beq_iff_eq] at h
 refine ⟨_,h.2.1,?_⟩
 have:=h.2.2
 cases is with
 |true=>exact ⟨fun _=>rfl,fun _=>lbM this⟩
 |false=>exact ⟨fun h=>absurd h (lbN this),fun h=>by cases h⟩
theorem aL2 {s:d7} {g:List (Int × Rat)} (h:VdP s g) (hl:s.rows.length<6000) {v:a2r} (hv:T5 s g v=true) (hh:Int):v.state=(E5 s g hh).state:=by
 have hn:=a0S h.r
 have hg:d8 (-1) s.n g=true:=by have:=h.g;rwa [hn] at this
 unfold T5 at hv
 by_cases s2:v.state=2
 ·rw [if_pos s2] at hv
  simp only [lbO] at hv
  obtain ⟨⟨_,h1⟩,h2⟩:=hv
  obtain ⟨z,hz,hp⟩:=a3T h1
  have hp:=hp.2 rfl
  unfold aA4 at h2
  rw [lbO] at h2
  have none:∀y,j2 s y=true->i9 g y≠0:=fun y hy e=>by
   have:=never_holds h.r hl hg hy e
   rw [aO8 (a05 h.r hl hg) h2.2] at this;cases this
  rcases a5G h hh with ⟨e,_⟩|⟨_,e⟩|⟨_,_,⟨y,hy,e⟩⟩
  ·rw [e,s2]
  ·exact absurd (e z hz) (none z hz)
  ·exact absurd e (none y hy)
 rw [if_neg s2] at hv
 by_cases s0:v.state=0
 ·rw [if_pos s0] at hv
  simp only [lbO] at hv
  obtain ⟨⟨_,h1⟩,h2⟩:=hv
  obtain ⟨z,hz,hp⟩:=a3T h1
  have hp:¬0<i9 g z:=fun h=>by have:=hp.1 h;cases this
  unfold am4 at h2
  simp only [lbO,lbJ] at h2
  have all:∀y,j2 s y=true->¬0<i9 g y:=fun y hy hpy=>by
   have hb:=a7E (g:=p6 g) (aI5 h.r h2.2.1) hy
   have e:f8 (fun l=>w7 (p6 g) l*y.getD l 0) s.n.toNat=i9 (p6 g) y:=(V3 h.og y).symm
   rw [e,V6 (s:=s) (g:=g),h2.2.2] at hb
   grind
  rcases a5G h hh with ⟨_,e⟩|⟨e,_⟩|⟨_,⟨y,hy,e⟩,_⟩
  ·exact absurd (e z hz) hp
  ·rw [e,s0]
  ·exact absurd e (all y hy)
 rw [if_neg s0] at hv
 by_cases s1:v.state=1
 ·rw [if_pos s1] at hv
  simp only [lbO] at hv
  obtain ⟨⟨_,h1⟩,h2⟩:=hv
  obtain ⟨z,hz,hp⟩:=a3T h1
  obtain ⟨y,hy,hq⟩:=a3T h2
  have hp:=hp.2 rfl
  have hq:¬0<i9 g y:=fun h=>by have:=hq.1 h;cases this
  rcases a5G h hh with ⟨_,e⟩|⟨_,e⟩|⟨e,_⟩
  ·exact absurd (e y hy) hq
  ·have:=e z hz;rw [this] at hp;exact absurd hp (by decide +kernel)
  ·rw [e,s1]
 ·rw [if_neg s1] at hv;cases hv
theorem aR4 {s:d7} {g:List (Int × Rat)} (h:∀z,j2 s z=false) (v:a2r):T5 s g v=false:=by
 have hi:∀x is,inF s g x is=false:=fun x is=>by
  cases hx:inF s g x is with
  |false=>rfl
  |true=>
   obtain ⟨z,hz,_⟩:=a3T hx
   rw [h z] at hz;cases hz
 unfold T5
 rw [hi,hi]
 split
 ·simp
 ·split
  ·simp
  ·split
   ·simp
   ·rfl
theorem b46 {s:d7} {g:List (Int × Rat)} (v:a0t):b00 s g v=true->T5 s g v.raw=true:=by
 intro h
 have hi:∀X is,inF s g (X.map fz) is=a3v s g X is:=fun X is=>by unfold inF;rw [a0D,O7,F7]
 have hrf:∀s Y,ad9 s Y=true->aA4 s (Y.map fz)=true:=fun s Y hY=>by
  unfold aA4
  rw [a0D,O7,a2F,lbr,hY,a2F]
  unfold ad9 a2q a1K at hY
  simp only [lbO,lbJ] at hY
  exact lbI hY.1.1.1.1
 have hlf:∀s g Y,(a2q s g Y && decide (a0k s (yN Y)=0))=true->am4 s g (Y.map fz)=true:=fun s g Y hY=>by
  unfold am4
  rw [a0D,O7,a2F,lbr,hY,a2F]
  unfold a2q a1K at hY
  simp only [lbO,lbJ] at hY
  exact lbI hY.1.1.1.1
 unfold b00 at h
 unfold T5
 show (if v.state=2 then _ else _)=true
 by_cases s2:v.state=2
 ·rw [if_pos s2] at h ⊢
  simp only [lbO] at h ⊢
  refine ⟨⟨?_,by show inF s g (v.w.map fz) true=true;rw [hi];exact h.1.2⟩,hrf _ _ h.2⟩
  have:=h.1.1
  show decide ((v.wo.map fz).length=0)=true
  rw [lbr];exact this
 rw [if_neg s2] at h ⊢
 by_cases s0:v.state=0
 ·have s0':v.raw.state=0:=s0
  rw [if_pos s0']
  rw [if_pos s0] at h
  rw [lbO,lbO] at h ⊢
  refine ⟨⟨?_,by show inF s g (v.wo.map fz) false=true;rw [hi];exact h.1.2⟩,hlf _ _ _ h.2⟩
  have:=h.1.1
  show decide ((v.w.map fz).length=0)=true
  rw [lbr];exact this
 have s0':¬v.raw.state=0:=s0
 rw [if_neg s0']
 rw [if_neg s0] at h
 by_cases s1:v.state=1
 ·have s1':v.raw.state=1:=s1
  rw [if_pos s1']
  rw [if_pos s1] at h
  simp only [lbO] at h ⊢
  refine ⟨⟨?_,by show inF s g (v.w.map fz) true=true;rw [hi];exact h.1.2⟩,by show inF s g (v.wo.map fz) false=true;rw [hi];exact h.2⟩
  have:=h.1.1
  show decide ((v.pr.map fz).length=0)=true
  rw [lbr];exact this
 ·rw [if_neg s1] at h;cases h
theorem b1C {s:d7} {g:List (Int × Rat)} {X:List Rat} (h:PtB s X) (hg:∀k,rl (i9 (g.take k) X)<=50000):PtF s g (X.map fz):=
 ⟨aA7 h.l (fun v hv=>by have:=h.v v hv;omega),fun _=>by rw [O7];exact h,fun _=>by rw [O7];exact hg⟩
theorem aW8 {s:d7} {Y:List Rat} (hl:Y.length<=1000000) (hy:∀v ∈ Y,rl v<=40000) (h:Y.length=s.rows.length->a9f s Y):aK0 s (Y.map fz):=
 ⟨aA7 hl (fun v hv=>by have:=hy v hv;omega),fun h1 _=>by rw [O7];exact h (by simpa using h1)⟩
theorem b4c {s:d7} {g:List (Int × Rat)} {v:a0t} (h:bg9 s g v):b26 s g v.raw:=
 ⟨b1C h.w h.wg,b1C h.wo h.og,aW8 h.yl h.y h.m1,aW8 h.yl h.y h.m0⟩
theorem b2T {f:Nat->Rat} {B N:Nat} (h:∀i,rl (f i)<=B) (h0:∀i,N<=i->f i=0):∀k,rl (f8 f k)<=N*(B+1)+1:=by
 intro k
 by_cases hk:k<=N
 ·have h1:=a4Q (f:=f) (B:=B) k fun j _=>h j
  have h2:=lbU (B+1) hk
  omega
 ·obtain ⟨d,rfl⟩:∃d,k=N+d:=⟨k - N,by omega⟩
  have e:f8 f (N+d)=f8 f N:=by
   clear hk
   induction d with
   |zero=>rfl
   |succ d ih=>show f8 f (N+d)+f (N+d)=_;rw [h0 _ (by omega),ih];grind
  rw [e]
  exact a4Q (f:=f) (B:=B) N fun j _=>h j
theorem b6M {s:d7} {Y:List Rat} {B C N:Nat} (hl:Y.length=s.rows.length) (hN:Y.length<=N) (hB:1<=B) (hy:∀v ∈ Y,rl v<=B) (hc:∀w ∈ s.rows,(∀ t ∈ w.terms,rl t.2<=C)∧rl w.value<=C) (hC:1<=C) (hn:N*(B+C+1)+1<=40000) (hm:N<=1000000):a9f s Y:=by
 have hyi:∀i,rl (yN Y i)<=B:=fun i=>by
  unfold yN
  by_cases h:i<Y.length
  ·rw [lbl,lbf h];exact hy _ (lbF _)
  ·rw [lbl,lbd (by omega)];have:=rl0;show rl 0<=B;omega
 have hy0:∀i,N<=i->yN Y i=0:=fun i hi=>by unfold yN;rw [lbl,lbd (by omega)];rfl
 have hrow:∀i,(∀ t ∈ (m6 s i).terms,rl t.2<=C)∧rl (m6 s i).value<=C:=fun i=>by
  by_cases h:i<s.rows.length
  ·rw [O3 (lbf h)];exact hc _ (lbF _)
  ·have e:m6 s i=⟨[],2,0⟩:=by unfold m6;rw [lbl,lbd (by omega)];rfl
   rw [e]
   exact ⟨fun (t:Int × Rat) (ht:t ∈ [])=>by simp at ht,by have:=rl0;show rl 0<=C;omega⟩
 have hcof:∀i l,rl (w7 (m6 s i).terms l)<=C:=fun i l=>by
  have key:∀k,rl (J0 (m6 s i).terms k l)<=C:=by
   intro k
   induction k with
   |zero=>have:=rl0;show rl 0<=C;omega
   |succ k ih=>
    cases hk:(m6 s i).terms[k]? with
    |none=>rw [J0,hk];exact ih
    |some t=>
     rw [G6 hk]
     simp only
     split
     ·exact (hrow i).1 t (lbm hk)
     ·exact ih
  exact key _
 refine ⟨fun v hv=>by
  have h1:=hy v hv
  by_cases h2:N=0
  ·have:Y=[]:=a22.1 (by omega)
   subst this;cases hv
  ·have:1*(B+C+1)<=N*(B+C+1):=lbU _ (by omega)
   omega,fun l k=>?_,fun k=>?_,hl,by omega⟩
 ·have:=b2T (f:=fun i=>yN Y i*w7 (m6 s i).terms l) (B:=B+C) (N:=N) (fun i=>by have:=a4x (yN Y i) (w7 (m6 s i).terms l);have:=hyi i;have:=hcof i l;omega) (fun i hi=>by rw [hy0 i hi];grind) k
  have e:rl (S1 s (yN Y) l k)<=N*(B+C+1)+1:=this
  omega
 ·have:=b2T (f:=fun i=>yN Y i*(m6 s i).value) (B:=B+C) (N:=N) (fun i=>by have:=a4x (yN Y i) (m6 s i).value;have:=hyi i;have:=(hrow i).2;omega) (fun i hi=>by rw [hy0 i hi];grind) k
  have e:rl (a19 s (yN Y) k)<=N*(B+C+1)+1:=this
  omega
theorem b25 {x:List Fr} {d:Int} {n:Nat} (h:x.length<=n∧∀f ∈ x,(f.p.dl.length:Int)<=d∧(f.q.dl.length:Int)<=d) (hn:n<=1000000) (hd:d<=200000):am3 x:=⟨by omega,fun f hf=>by have:=h.2 f hf;omega⟩
theorem aE5 {X:List Rat} {d:Nat} (h:∀f ∈ X.map fz,(f.p.dl.length:Int)<=d∧(f.q.dl.length:Int)<=d):∀v ∈ X,rl v<=d:=fun v hv=>by
 have:=h (fz v) (lby.2 ⟨v,hv,rfl⟩)
 have h1:(bl v.num:Int)<=d:=this.1
 have h2:(bl v.den:Int)<=d:=this.2
 show max (bl v.num) (bl v.den)<=d
 omega
theorem b9A (e:Ev) (hs:e.Sized) (hh:Int):a8 Tryz.prog 21 [evS e,a7 .i64 hh] [] (j1 (E6 e hh (-1) 0 100000)) []:=by
 have li:=ay1 e hs hh (-1) 0 100000
 (refine ac Tryz.func21 ?_;(conv=>whnf);repeat ((first|refine b0x ?_|refine zy ?_);conv=>whnf))
 repeat' (first|refine zx ?_|refine qp li ?_|refine zd ?_ ?_<;>intro h<;>try omega|fail)<;>conv=>whnf
 all_goals exact l9 rfl
theorem b7f (l:List (Int × Rat)) (hr:d8 (-1) 1500 l=true) (hb:∀t ∈ l,rl t.2<=200):a8 Tryz.prog 70 [j4 l] [] (j4 (p6 l)) []:=by
 have i1:=B3 (-1) (by decide) (by decide)
 have ti:=b2h l ((-1:Int):Rat) (by decide) hr hb (by have:=b5X;omega)
 (refine ac Tryz.func70 ?_;(conv=>whnf);repeat ((first|refine b0x ?_|refine zy ?_);conv=>whnf))
 repeat' (first|refine zx ?_|refine qp i1 ?_|refine qp ti ?_|refine zd ?_ ?_<;>intro h<;>try omega|fail)<;>conv=>whnf
 all_goals exact l9 rfl
theorem b86 (g:List (Int × Rat)):a8 Tryz.prog 23 [j4 g] [] (.agg ((u0 (⟨g,2,((0:Int):Rat)⟩:B8)).map C.t)) []:=by
 have i0:=B3 0 (by decide) (by decide)
 (refine ac Tryz.func23 ?_;(conv=>whnf);repeat ((first|refine b0x ?_|refine zy ?_);conv=>whnf))
 repeat' (first|refine zx ?_|refine qp i0 ?_|refine zd ?_ ?_<;>intro h<;>try omega|fail)<;>conv=>whnf
 all_goals first
  |exact l9 rfl
  |exact l9 ⟨rfl,rfl,rfl,rfl,rfl,rfl,trivial⟩
set_option maxHeartbeats 2000000 in
theorem aS9 (s:d7) (hb:a0K s) (hr:g7 s=true) (g:List (Int × Rat)) (hg:d8 (-1) s.n g=true) (hgb:∀t ∈ g,rl t.2<=200) (x:List Fr) (hp:PtF s g x) (is:Bool):
 a8 Tryz.prog 24 [K3 s,j4 g,k8 x,d9 is] [] (d9 (inF s g x is)) []:=by
 have hn:=a0S hr
 have hnn:s.n<=1500:=by
  unfold g7 at hr
  simp only [lbO,lbJ] at hr
  exact hr.1.1.2
 have hgl:g.length<=1500:=by have:=s6 hg;omega
 have sz:=ai8
 unfold inF
 cases hx:x.all o6 with
 |false=>
  rw [a8r]
  have ho:=ab8 s hb hr x hp.r hx
  have va:=a1n g x (by omega) hgb hp.r (by rw [hx,aA2])
  (refine ac Tryz.func24 ?_;(conv=>whnf);repeat ((first|refine b0x ?_|refine zy ?_);conv=>whnf))
  repeat' (first|refine zx ?_|refine qp va ?_|refine qp ho ?_|refine qp 5 ?_|refine bl0 [5] ?_|refine zd ?_ ?_<;>intro h<;>try omega|fail)<;>conv=>whnf
  all_goals first
   |(exfalso;contradiction)
   |exact b9 rfl
 |true=>
  rw [F7]
  have pp:=hp.p hx
  have pg:=hp.g hx
  obtain ⟨X,rfl⟩:=L5 hx
  rw [O7] at pp pg ⊢
  have ho:=aM1 s hb hr X pp
  unfold a3v
  cases hh:j2 s X with
  |true=>
   rw [hh] at ho
   have hnx:=(P7 hh).2
   have va:=a4n g X (by omega) hgb pp.v (fun k=>by have:=pg k;omega) pp.l (by rw [hnx];exact hg)
   have bv:=pg g.length
   rw [lbn (lbS _)] at bv
   have sg:=D9 (i9 g X) (by omega)
   have sp:=a2S (x:=i9 g X)
   have e:decide (0<i9 g X)=decide (sgR (i9 g X) > 0):=by rw [decide_eq_decide];exact sp.symm
   rw [e]
   generalize sgR (i9 g X)=U at sg
   clear sp e
   cases is<;>
   ·(refine ac Tryz.func24 ?_;(conv=>whnf);repeat ((first|refine b0x ?_|refine zy ?_);conv=>whnf))
    repeat' (first|refine zx ?_|refine qp va ?_|refine qp ho ?_|refine qp sg ?_|refine qp 5 ?_|refine bl0 [5] ?_|refine zd ?_ ?_<;>intro h<;>try omega|fail)<;>conv=>whnf
    all_goals first
     |(exfalso;contradiction)
     |(have hd:decide (U > 0)=true:=lbI (by omega)
       refine b9 ?_;rw [hd];rfl)
     |(have hd:decide (U > 0)=false:=lbK (by omega)
       refine b9 ?_;rw [hd];rfl)
  |false=>
   rw [hh] at ho
   cases hrt:d8 (-1) X.length g with
   |true=>
    have va:=a4n g X (by omega) hgb pp.v (fun k=>by have:=pg k;omega) pp.l hrt
    (refine ac Tryz.func24 ?_;(conv=>whnf);repeat ((first|refine b0x ?_|refine zy ?_);conv=>whnf))
    repeat' (first|refine zx ?_|refine qp va ?_|refine qp ho ?_|refine qp 5 ?_|refine bl0 [5] ?_|refine zd ?_ ?_<;>intro h<;>try omega|fail)<;>conv=>whnf
    all_goals first
     |(exfalso;contradiction)
     |exact b9 rfl
   |false=>
    have va:=a1n g (X.map fz) (by omega) hgb hp.r (by rw [lbr,hrt];rfl)
    (refine ac Tryz.func24 ?_;(conv=>whnf);repeat ((first|refine b0x ?_|refine zy ?_);conv=>whnf))
    repeat' (first|refine zx ?_|refine qp va ?_|refine qp ho ?_|refine qp 5 ?_|refine bl0 [5] ?_|refine zd ?_ ?_<;>intro h<;>try omega|fail)<;>conv=>whnf
    all_goals first
     |(exfalso;contradiction)
     |exact b9 rfl
set_option maxHeartbeats 2000000 in
theorem b6v (s:d7) (hb:a0K s) (hr:g7 s=true) (hn1:s.n<=1000) (g:List (Int × Rat)) (hg:d8 (-1) s.n g=true) (hgb:∀t ∈ g,rl t.2<=200) (y:List Fr) (hy:aK0 s y):
 a8 Tryz.prog 26 [K3 s,j4 g,k8 y] [] (d9 (am4 s (p6 g) y)) []:=by
 have hgl:g.length<=1500:=by have:=s6 hg;omega
 have op:=b7f g (a1C (by omega) hg) hgb
 have lo:=b4B _ hb hr hn1 (p6 g) (by rw [a9m];omega) (b6K hgb) y hy
 have sz:=ai8
 rcases a8W s (p6 g) y hy with ⟨e3,e4⟩|⟨x,bx,e3,e4⟩
 ·rw [e3] at lo
  rw [e4]
  (refine ac Tryz.func26 ?_;(conv=>whnf);repeat ((first|refine b0x ?_|refine zy ?_);conv=>whnf))
  repeat' (first|refine zx ?_|refine qp op ?_|refine qp lo ?_|refine qp 7 ?_|refine bl0 [7] ?_|refine zd ?_ ?_<;>intro h<;>try omega|fail)<;>conv=>whnf
  all_goals first
   |omega
   |(exfalso;contradiction)
   |exact b9 rfl
 ·rw [e3] at lo
  rw [e4]
  have sg:=D9 x (by omega)
  have sz:=a16 (x:=x)
  have e:decide (x=0)=decide (sgR x=0):=by rw [decide_eq_decide];exact sz.symm
  rw [e]
  generalize sgR x=U at sg
  clear sz e
  (refine ac Tryz.func26 ?_;(conv=>whnf);repeat ((first|refine b0x ?_|refine zy ?_);conv=>whnf))
  repeat' (first|refine zx ?_|refine qp op ?_|refine qp lo ?_|refine qp sg ?_|refine qp 7 ?_|refine bl0 [7] ?_|refine zd ?_ ?_<;>intro h<;>try omega|fail)<;>conv=>whnf
  all_goals first
   |omega
   |(exfalso;contradiction)
   |(refine b9 ?_;first|(rw [show decide (U=0)=true from lbI (by omega)];done)|(rw [show decide (U=0)=false from lbK (by omega)];done))
open Go.RowKit Go.Shelf
theorem b7X {w:World} {M:Ms} {b0:Nat} {v:Value} {ss:List Int} (h:w.ownsRow b0 3 1 v ss.length (ss.map (Value.int .i64))) (hM:∀k,M k->k<b0):RT w M (I3 ss) v:=by
 have at1:∀i j t,at2 (ss.map i5) i j=some t->∃x,ss[i]? =some x∧j=0∧t=ti x:=fun i j t h=>by
  rw [b1y] at h
  cases hx:ss[i]? with
  |none=>rw [hx] at h;simp at h
  |some x=>
   rw [hx] at h
   cases j with
   |zero=>simp [i5] at h;exact ⟨x,rfl,rfl,h.symm⟩
   |succ j=>simp [i5] at h
 have ml:(ss.map i5).length=ss.length:=by simp
 have size1:∀r ∈ ss.map i5,r.length=1:=by
  intro r hr'
  obtain ⟨q,hq,rfl⟩:=lby.1 hr'
  rfl
 rcases h.2 with ⟨rfl,h0⟩|⟨g,cap1,cur,rfl,hg,hcur,hcap1,hcm,hcs,htake⟩
 ·have e1:Value.slice none 0 0=.slice none (ss.map i5).length 0:=by rw [ml,h0]
  rw [e1]
  refine .sl (b:=0) (off:=0) (fun _ _=>undef) size1 (by rw [ml];omega) (D5 _) (fun h=>by cases h) (fun h=>by cases h) (fun h=>absurd (lbG (ml.trans h0)) h) (fun i j t h=>?_) (fun i j t h=>?_)
  ·obtain ⟨x,hx,_⟩:=at1 i j t h
   have:=(lbe.1 hx).1;omega
  ·obtain ⟨x,hx,_⟩:=at1 i j t h
   have:=(lbe.1 hx).1;omega
 ·have e1:Value.slice (some ⟨g,0,none⟩) ss.length cap1=.slice (some ⟨g,0,none⟩) (ss.map i5).length cap1:=by rw [ml]
  rw [e1]
  refine .sl (b:=g) (off:=0) (fun i _=>.int .i64 (ss.getD i 0)) size1 (by rw [ml];exact hcap1) hcm (fun h=>by cases h) (fun h=>by cases h) (fun _=>rfl) (fun i j t h=>?_) (fun i j t h=>?_)
  ·obtain ⟨x,hx,rfl,rfl⟩:=at1 i j t h
   have hi:=(lbe.1 hx).1
   refine ⟨?_,fun h=>by have:=hM _ h;omega⟩
   have h5:cur[i]? =some (.int .i64 (ss.getD i 0)):=by
    have:=congrArg (·[i]?) htake
    simp only [lbi,lba,Nat.mul_one] at this
    rw [if_pos hi,hx] at this
    rw [lbl,hx]
    simpa using this
   simp [World.cell?,hcur,h5]
  ·obtain ⟨x,hx,rfl,rfl⟩:=at1 i j t h
   have e:ss.getD i 0=x:=by rw [lbl,hx];rfl
   show RT _ _ _ (.int .i64 (ss.getD i 0))
   rw [e]
   exact .atm rfl
set_option maxHeartbeats 4000000 in
theorem aM7 (b off cap:Nat) (A:Option Addr) (xs:List Int) (hl:xs.length<=1000) (hcap:xs.length<=cap) (Bs Bo:Nat) (w:World) (hBs:Bs<w.heap.size) (hb:xs≠[]->b<w.heap.size∧A=some ⟨b,off,none⟩) (h1:w.cell? ⟨Bs,Bo,none⟩=some (.slice A xs.length cap)) (hc:∀i x,xs[i]? =some x->w.cell? ⟨b,off+i,none⟩=some (.int .i64 x)):
 Calls Tryz.prog 66 #[.func (.func 110) #[] #[.pointer (some ⟨Bs,Bo,none⟩)]] w fun ee w'=>∃v,ee=.returned v∧w'.ownsRow w.heap.size 3 1 v (a4t xs).length ((a4t xs).map (Value.int .i64))∧Below w.heap.size w w':=by
 have hcol:Calls Tryz.prog 108 #[.func (.func 110) #[] #[.pointer (some ⟨Bs,Bo,none⟩)]] w fun ee w'=>∃v,ee=.returned v∧w'.ownsRow w.heap.size 3 1 v xs.length (xs.map (Value.int .i64))∧Below w.heap.size w w':=by
  have hap:=a9J b off cap A xs hl hcap Bs Bo w hBs hb h1 hc
  go_enter Tryz.func108,Tryz.ntmps108
  go_wp2_with (go_at_call 156;refine hap.mono ?_;rintro e w' ⟨v,rfl,hrow,hB⟩)
  go_ret
  exact ⟨v,rfl,hrow,hB⟩
 go_enter Tryz.func66,Tryz.ntmps66
 go_wp2_with (go_at_call 108;refine hcol.mono ?_;rintro e W ⟨v,rfl,hrow,hB⟩)
 rcases hrow.2 with ⟨rfl,hz⟩|⟨gb,cap1,cur,rfl,hbase,hgb,r1,r2,r3,r4⟩
 ·have hss:xs=[]:=lbG hz
  subst hss
  have cN:=Any.slices_Sort_int_none au7 none 0 W
  change Calls Tryz.prog 109 _ _ _ at cN
  go_wp2_with (go_at_call 109;refine cN.mono ?_;rintro e w' ⟨rfl,rfl⟩)
  go_ret
  exact ⟨_,rfl,by rw [show a4t []=[] by simp [a4t]];exact hrow,hB⟩
 ·have hH:=holds_of_block_i hgb (by simpa using r4)
  have hgl:gb<W.heap.size:=(lb5.1 hgb).1
  have cS:=Any.slices_Sort_int au7 gb 0 cap1 xs W hH hgl (by omega)
  change Calls Tryz.prog 109 _ _ _ at cS
  go_wp2_with (go_at_call 109;refine cS.mono ?_;rintro e w' ⟨rfl,nn,os,rfl⟩)
  go_ret
  refine ⟨_,rfl,?_,hB.grown (grownBy_sorted_i _) hB.size (fun j hj=>by cases hj;exact hbase)⟩
  rw [a7D]
  exact ownsRow_sorted_i (a7D xs) hbase hgb r1 r2 r3
theorem b4N (xs:List Int) (hl:xs.length<=1000):a8 Tryz.prog 66 [.c (.t (T.fn (Fn.func 110) [T.ptr [I3 xs]]))] [] (j1 (a4t xs)) []:=by
 refine ⟨⟨_,Tryz.func66,rfl,by decide⟩,fun w ι M vals hlen hv hH hMB hF=>?_⟩
 obtain ⟨x,rfl⟩:∃x,vals=[x]:=by
  match vals,hlen with
  |[x],_=>exact ⟨x,rfl⟩
 have hx:=hv 0 _ rfl
 simp only [List.getD_cons_zero] at hx
 cases hx with|c hx=>cases hx with|t hx=>cases hx with|@fn _ _ vs hl' hr=>
 obtain ⟨p,rfl⟩:∃p,vs=[p]:=by
  match vs,hl' with
  |[p],_=>exact ⟨p,rfl⟩
 have hp:=hr 0 _ rfl
 simp only [List.getD_cons_zero] at hp
 cases hp with|@ptr _ b0 o0 f hc0 hr0=>
 have c0:=(hc0 0 _ rfl).1
 have r0:=hr0 0 _ rfl
 rw [at7] at c0
 generalize f 0=sv at c0 r0
 cases r0 with|@sl _ _ _ b off cap A f' hrow hcap hmax hk hn hA hcc hr' hx'=>
 have ml:(xs.map i5).length=xs.length:=by simp
 rw [ml] at c0 hcap
 have cells:∀i x,xs[i]? =some x->w.cell? ⟨b,off+i,none⟩=some (.int .i64 x):=fun i x hx=>by
  have h1:at2 (xs.map i5) i 0=some (ti x):=by rw [b1y,hx];rfl
  have h2:=(hcc i 0 _ h1).1
  have h3:=hr' i 0 _ h1
  rw [show off+(i*1+0)=off+i by omega] at h2
  rw [h2]
  generalize f' i 0=u at h3
  cases h3;rfl
 refine (aM7 b off cap A xs hl hcap b0 o0 w (a9F c0) (fun hne=>⟨?_,hA (by simpa using hne)⟩) c0 cells).mono ?_
 ·obtain ⟨x,r,rfl⟩:=List.exists_cons_of_ne_nil hne
  exact a9F (cells 0 x rfl)
 ·rintro ee w' ⟨v,rfl,hrow',hB⟩
  exact ⟨v,rfl,aN7 (.c (.t (b7X hrow' (fun k h=>hMB k h)))) hB hMB hF⟩
theorem b57 (l:List Int):a8 Tryz.prog 67 [j1 l] [] (.c (.t (T.fn (Fn.func 110) [T.ptr [I3 l]]))) []:=by
 (refine ac Tryz.func67 ?_;(conv=>whnf);repeat ((first|refine b0x ?_|refine zy ?_);conv=>whnf))
 repeat' (first|refine zx ?_|refine zd ?_ ?_<;>intro h<;>try omega|fail)<;>conv=>whnf
 all_goals first
  |exact l9 rfl
set_option maxHeartbeats 4000000 in
theorem bd0 (l:List Int) (hl:l.length<=1000):a8 Tryz.prog 20 [j1 l] [] (j4 (a5i (a4t l))) []:=by
 have va:=b57 l
 have so:=b4N l hl
 have i1:=B3 1 (by decide) (by decide)
 have sl:=a7D l
 have m1:((a4t l).map i5).length=l.length:=by rw [lbr,sl]
 (refine ac Tryz.func20 ?_;(conv=>whnf);repeat ((first|refine b0x ?_|refine zy ?_);conv=>whnf))
 repeat' (first|refine zx ?_|refine qp va ?_|refine qp so ?_|refine zd ?_ ?_<;>intro h<;>try omega|fail)<;>conv=>whnf
 generalize hv:a4t l=v at *
 refine i3 c9 (fun k=>([J,J,J,S.c (C.own 0 0 k true),J,J,J,J,J,j1 v,a7 .i64 l.length,a7 .i64 k]++Jn 11,[a1X (a5i (v.take k))])) l.length (fun _=>True) [none] trivial
  ⟨rfl,rfl,⟨⟨rfl,rfl⟩,trivial⟩,⟨⟨rfl,rfl,rfl⟩,rfl,c7 (by omega),rfl,trivial⟩⟩ ?_
 intro k hk _
 by_cases hlt:k<l.length
 ·obtain ⟨x,hx⟩:∃x,v[k]? =some x:=⟨_,lbf (by omega)⟩
  have ek:(a5i (v.take k)).length=k:=by simp [a5i];omega
  have lA:k<=(a1X (a5i (v.take k))).rows.length:=by show k<=(toC _).length;rw [toC,lbr,lbr,ek];exact lbS _
  have sn:a5i (v.take (k+1))=a5i (v.take k)++[(x,((1:Int):Rat))]:=by rw [lbH,hx];simp [a5i]
  conv=>whnf
  repeat' (first|refine zx ?_|refine qp i1 ?_|refine qp toC ?_|refine d6 hx ?_|refine D7 lA (by simp [toC];omega) ?_|refine zd ?_ ?_<;>intro h<;>try omega|fail)<;>conv=>whnf
  all_goals first
   |omega
   |(refine ⟨hlt,trivial,[some 1],rfl,rfl,⟨b8 (rows:=(a5i (v.take (k+1))).map u6) rfl rfl rfl ?_ rfl,trivial⟩,⟨⟨rfl,rfl,rfl,fun h=>h⟩,rfl,rfl,c7 (by omega),trivial⟩⟩
     rw [sn]
     exact a01 (f:=u6) (x:=(x,((1:Int):Rat))) ek.symm)
 ·have hke:k=l.length:=by omega
  subst hke
  rw [lbn (by omega)]
  conv=>whnf
  repeat' (first|refine zx ?_|refine zd ?_ ?_<;>intro h<;>try omega|fail)<;>conv=>whnf
  all_goals first
   |omega
   |exact V5 rfl (fun h=>h) rfl rfl (by simp [a5i];omega)
theorem b3f {l:List Int} (h:l.Pairwise (·<·)):a4t l=l:=List.mergeSort_of_pairwise (h.imp fun h=>by simp only [lbJ];omega)
theorem b1T:∀{l:List Int},(∀ (i:Nat) (x y:Int),l[i]? =some x->l[i+1]? =some y->x<y)->l.Pairwise (·<·)
 |[],_=>.nil
 |[x],_=>List.pairwise_singleton _ _
 |x::y::r,h=>by
  have ih:=b1T (l:=y::r) fun i a b h1 h2=>h (i+1) a b h1 h2
  have hxy:=h 0 x y rfl rfl
  refine .cons (fun z hz=>?_) ih
  rcases lbB.1 hz with rfl|hz
  ·exact hxy
  ·have:=List.rel_of_pairwise_cons ih hz;omega
theorem b1d (e:Ev) (h mat lo hi:Int):(E6 e h mat lo hi).Pairwise (·<·):=b1T (a7S e h mat lo hi).2
theorem b2x (t:j9) (h:Int) (hl:(E6 t.ev h (-1) 0 100000).length<=1000):a8 Tryz.prog 20 [j1 (E6 t.ev h (-1) 0 100000)] [] (j4 (v8 t h)) []:=by
 have:=bd0 _ hl
 rwa [b3f (b1d _ _ _ _ _)] at this
theorem aZ0 {s:d7} {g:List (Int × Rat)} {H:Hp} {len:Nat} {k:Blk} (hk:H[3]? =some k) (hm:¬k.mode.gone) (hs:k.size=6) (hr:k.rows=toC ((n9 s g).rows.map u0)) (hl:len=((n9 s g).rows.map u0).length) (hmp:k.mp=false) (y:List Fr):
 a2A H (fun _=>True) [.agg [.t (ti s.n),.own 3 0 len true],k8 y] [K3 (n9 s g),k8 y]:=
 ⟨⟨[ti s.n,K0 (n9 s g).rows],rfl,a1v (aD0 (U4 _)) (a1v (y0 trivial hk hm hs hr hl hmp) b1p)⟩,b1o,trivial⟩
def bi5:List Nat:=[0,1,2,3,4,5,6,7,10,8,9,11]
set_option maxHeartbeats 8000000 in
theorem ax3 (t:j9) (kind:Int) (hs:t.Sized) (ht:q9 t=0) (k0:0<=kind) (k1:kind<8) (v:a2r) (h0:0<=v.hh) (h1:v.hh<t.ev.hhs) (hm:t.ev.moves.length<=100) (hl:(g4 t kind).rows.length<6000)
 (hb:a0K (g4 t kind)) (hr:g7 (g4 t kind)=true) (hv:b26 (g4 t kind) (v8 t v.hh) v)
 (sm:a8 Tryz.prog 20 [j1 (E6 t.ev v.hh (-1) 0 100000)] [] (j4 (v8 t v.hh)) []):
 a8 Tryz.prog 7 [trS t,a7 .i64 kind,a6q v] [] (d9 (T5 (g4 t kind) (v8 t v.hh) v)) []:=by
 have sy:=a0V t kind hs
 have hc:¬(q9 t≠0∨kind<0∨8<=kind):=by omega
 have e1:a2P t kind=0:=if_neg hc
 have e2:aF6 t kind=g4 t kind:=if_neg hc
 rw [e1,e2] at sy
 have ow:=b9A t.ev hs.ev v.hh
 have hgr:d8 (-1) (g4 t kind).n (v8 t v.hh)=true:=K6 t v.hh
 have hgb:∀u ∈ v8 t v.hh,rl u.2<=200:=fun u hu=>by have:=S3 (a0b t v.hh) u hu;omega
 have hsn:(g4 t kind).n=t.ev.moves.length:=rfl
 have hn1:(g4 t kind).n<=1000:=by omega
 have hgl:(v8 t v.hh).length<=100:=by
  have:=s6 hgr
  omega
 generalize v8 t v.hh=g at sm hgr hgb hgl hv
 have m1:(v.w.map j0).length=v.w.length:=by simp
 have m2:(v.wo.map j0).length=v.wo.length:=by simp
 have m3:(v.pr.map j0).length=v.pr.length:=by simp
 have i1:=aS9 _ hb hr g hgr hgb v.w hv.w true
 have i2:=aS9 _ hb hr g hgr hgb v.wo hv.wo false
 unfold T5
 by_cases s2:v.state=2
 ·rw [if_pos s2]
  have ze:=b86 g
  have hrl:(g4 t kind).rows.length<=100000:=by omega
  have cl:=fun H:Hp=>a2l (H:=H) (aU1 (g4 t kind).rows hrl) rfl rfl (f5 _)
  have rf:=b7e (n9 (g4 t kind) g) (b2o hb hl hgl hgb) (a05 hr hl hgr) hn1 v.pr hv.m1
  generalize inF (g4 t kind) g v.w true=I1 at i1
  generalize aA4 (n9 (g4 t kind) g) v.pr=R1 at rf
  cases I1<;>cases R1<;>
  ·(refine ac Tryz.func7 ?_;(conv=>whnf);repeat ((first|refine b0x ?_|refine zy ?_);conv=>whnf))
   repeat' (first|refine a4j bi5 (by decide +kernel) (by decide +kernel) ?_|refine zz ?_|refine zz ?_|refine zz ?_|refine zz ?_|refine zz ?_|refine zz ?_|refine qp sy ?_|refine qp ow ?_|refine qp sm ?_|refine qp i1 ?_|refine qp ze ?_|refine qp toC ?_|refine qp toC ?_|refine qp (toC,n9) ?_|refine a26 _ (by decide +kernel) rfl ?_|refine .inl ⟨_,_,cl _,?_⟩|refine D7 (by simp [toC]) (by simp [toC];omega) ?_|refine b51 rfl rfl ⟨_,rfl,rfl,rfl⟩ ?_|refine .inl ⟨_,_,b0d rf (aZ0 (s:=g4 t kind) (g:=g) (by rfl) (by exact fun h=>h) (by rfl) (by exact a01 (f:=u0) (x:=(⟨g,2,((0:Int):Rat)⟩:B8)) rfl) (by simp [toC,n9]) (by rfl) v.pr) rfl,?_⟩|refine zd ?_ ?_<;>intro h<;>try omega|refine zy ?_|fail)<;>conv=>whnf
   all_goals first
    |omega
    |(exfalso;contradiction)
    |(have hd:decide (v.wo.length=0)=true:=lbI (by omega)
      refine b9 ?_;rw [hd];rfl)
    |(have hd:decide (v.wo.length=0)=false:=lbK (by omega)
      refine b9 ?_;rw [hd];rfl)
 rw [if_neg s2]
 by_cases s0:v.state=0
 ·rw [if_pos s0]
  have nv:=b6v _ hb hr hn1 g hgr hgb v.pr hv.m0
  generalize inF (g4 t kind) g v.wo false=I2 at i2
  generalize am4 (g4 t kind) (p6 g) v.pr=L1 at nv
  cases I2<;>cases L1<;>
  ·(refine ac Tryz.func7 ?_;(conv=>whnf);repeat ((first|refine b0x ?_|refine zy ?_);conv=>whnf))
   repeat' (first|refine zx ?_|refine qp sy ?_|refine qp ow ?_|refine qp sm ?_|refine qp i2 ?_|refine qp nv ?_|refine a26 _ (by decide +kernel) rfl ?_|refine zd ?_ ?_<;>intro h<;>try omega|fail)<;>conv=>whnf
   all_goals first
    |omega
    |(exfalso;contradiction)
    |(have hd:decide (v.w.length=0)=true:=lbI (by omega)
      refine b9 ?_;rw [hd];rfl)
    |(have hd:decide (v.w.length=0)=false:=lbK (by omega)
      refine b9 ?_;rw [hd];rfl)
 rw [if_neg s0]
 by_cases s1:v.state=1
 ·rw [if_pos s1]
  generalize inF (g4 t kind) g v.w true=I1 at i1
  generalize inF (g4 t kind) g v.wo false=I2 at i2
  cases I1<;>cases I2<;>
  ·(refine ac Tryz.func7 ?_;(conv=>whnf);repeat ((first|refine b0x ?_|refine zy ?_);conv=>whnf))
   repeat' (first|refine zx ?_|refine qp sy ?_|refine qp ow ?_|refine qp sm ?_|refine qp i1 ?_|refine qp i2 ?_|refine a26 _ (by decide +kernel) rfl ?_|refine zd ?_ ?_<;>intro h<;>try omega|fail)<;>conv=>whnf
   all_goals first
    |omega
    |(exfalso;contradiction)
    |(have hd:decide (v.pr.length=0)=true:=lbI (by omega)
      refine b9 ?_;rw [hd];rfl)
    |(have hd:decide (v.pr.length=0)=false:=lbK (by omega)
      refine b9 ?_;rw [hd];rfl)
 ·rw [if_neg s1]
  (refine ac Tryz.func7 ?_;(conv=>whnf);repeat ((first|refine b0x ?_|refine zy ?_);conv=>whnf))
  repeat' (first|refine zx ?_|refine qp sy ?_|refine qp ow ?_|refine qp sm ?_|refine a26 _ (by decide +kernel) rfl ?_|refine zd ?_ ?_<;>intro h<;>try omega|fail)<;>conv=>whnf
  all_goals first
   |omega
   |(exfalso;contradiction)
   |exact b9 rfl
set_option maxHeartbeats 2000000 in
theorem aH0 (t:j9) (kind:Int) (hs:t.Sized) (v:a2r) (h:a2P t kind≠0∨v.hh<0∨t.ev.hhs<=v.hh):
 a8 Tryz.prog 7 [trS t,a7 .i64 kind,a6q v] [] (d9 false) []:=by
 have sy:=a0V t kind hs
 (refine ac Tryz.func7 ?_;(conv=>whnf);repeat ((first|refine b0x ?_|refine zy ?_);conv=>whnf))
 repeat' (first|refine zx ?_|refine qp sy ?_|refine a26 _ (by decide +kernel) rfl ?_|refine zd ?_ ?_<;>intro h<;>try omega|fail)<;>conv=>whnf
 all_goals first
  |omega
  |(exfalso;contradiction)
  |exact b9 rfl
theorem b0C {s:d7} {g:List (Int × Rat)} (h:VdP s g) (hl:s.rows.length<6000) {v:a2r} (hv:T5 s g v=true) (s2:v.state=2):∀y,j2 s y=true->0<i9 g y:=by
 have hn:=a0S h.r
 have hg:d8 (-1) s.n g=true:=by have:=h.g;rwa [hn] at this
 unfold T5 at hv
 rw [if_pos s2] at hv
 simp only [lbO] at hv
 obtain ⟨⟨_,h1⟩,h2⟩:=hv
 unfold aA4 at h2
 rw [lbO] at h2
 intro y hy
 have h0:=h.pos hy
 have hne:i9 g y≠0:=fun e=>by
  have:=never_holds h.r hl hg hy e
  rw [aO8 (a05 h.r hl hg) h2.2] at this;cases this
 grind
theorem aF2 {s:d7} {g:List (Int × Rat)} (h:VdP s g) {v:a2r} (hv:T5 s g v=true) (s0:v.state=0):∀y,j2 s y=true->¬0<i9 g y:=by
 have hn:=a0S h.r
 unfold T5 at hv
 rw [if_neg (by omega),if_pos s0] at hv
 simp only [lbO] at hv
 obtain ⟨⟨_,h1⟩,h2⟩:=hv
 unfold am4 at h2
 simp only [lbO,lbJ] at h2
 intro y hy hpy
 have hb:=a7E (g:=p6 g) (aI5 h.r h2.2.1) hy
 have e:f8 (fun l=>w7 (p6 g) l*y.getD l 0) s.n.toNat=i9 (p6 g) y:=(V3 h.og y).symm
 rw [e,V6 (s:=s) (g:=g),h2.2.2] at hb
 grind
theorem aO7 {Z:List Rat} (hz:∀i:Nat,0<=Z.getD i 0):∀(l:List Int) (a:Rat),0<=a->(0<(a3A l).foldl (fun a t=>a+t.2*Z.getD t.1.toNat 0) a↔0<a∨∃i ∈ l,0<Z.getD i.toNat 0)
 |[],a,ha=>by simp [a3A]
 |x::l,a,ha=>by
  have h1:=hz x.toNat
  have e:(a3A (x::l)).foldl (fun a t=>a+t.2*Z.getD t.1.toNat 0) a=(a3A l).foldl (fun a t=>a+t.2*Z.getD t.1.toNat 0) (a+((1:Int):Rat)*Z.getD x.toNat 0):=rfl
  have e1:((1:Int):Rat)=1:=rfl
  have e2:a+((1:Int):Rat)*Z.getD x.toNat 0=a+Z.getD x.toNat 0:=by rw [e1];grind
  rw [e,e2,aO7 hz l _ (by grind)]
  constructor
  ·rintro (h|⟨i,hi,h⟩)
   ·by_cases h2:0<Z.getD x.toNat 0
    ·exact .inr ⟨x,by simp,h2⟩
    ·exact .inl (by grind)
   ·exact .inr ⟨i,by simp [hi],h⟩
  ·rintro (h|⟨i,hi,h⟩)
   ·exact .inl (by grind)
   ·rcases lbB.1 hi with rfl|hi
    ·exact .inl (by grind)
    ·exact .inr ⟨i,hi,h⟩
def a9h (l:List Int) (Z:List Rat):Bool:=l.any fun i=>decide (0<Z.getD i.toNat 0)
theorem b5f {t:j9} {hh:Int} {Z:List Rat} (hz:∀i:Nat,0<=Z.getD i 0):a9h (E6 t.ev hh (-1) 0 100000) Z=true↔0<i9 (v8 t hh) Z:=by
 have e0:((0:Int):Rat)=0:=rfl
 unfold v8 i9
 rw [aO7 hz _ _ (by rw [e0];exact lb2)]
 unfold a9h
 rw [lbx,e0]
 constructor
 ·rintro ⟨i,hi,h⟩;exact .inr ⟨i,hi,lbM h⟩
 ·rintro (h|⟨i,hi,h⟩)
  ·exact absurd h (by decide +kernel)
  ·exact ⟨i,hi,lbI h⟩
set_option maxHeartbeats 4000000 in
theorem b3I (e:Ev) (hs:e.Sized) (hh:Int) (Z:List Rat) (hl:Z.length=e.moves.length) (hd:∀v ∈ Z,rl v<=200) (hll:(E6 e hh (-1) 0 100000).length<=1000000):
 a8 Tryz.prog 10 [evS e,k8 (Z.map fz),a7 .i64 hh] [] (d9 (a9h (E6 e hh (-1) 0 100000) Z)) []:=by
 have li:=ay1 e hs hh (-1) 0 100000
 obtain ⟨hasc,_⟩:=a7S e hh (-1) 0 100000
 have hsz:=hs.s2
 generalize E6 e hh (-1) 0 100000=l at li hasc hll
 have m1:(l.map i5).length=l.length:=by simp
 have m2:((Z.map fz).map j0).length=Z.length:=by simp
 have e0:((0:Int):Rat)=0:=rfl
 (refine ac Tryz.func10 ?_;(conv=>whnf);repeat ((first|refine b0x ?_|refine zy ?_);conv=>whnf))
 repeat' (first|refine zx ?_|refine qp li ?_|refine zd ?_ ?_<;>intro h<;>try omega|fail)<;>conv=>whnf
 refine i3 c9 (fun k=>([J,k8 (Z.map fz),J,J,J,J,J,j1 l,a7 .i64 k]++Jn 32,[])) l.length (fun k=>a9h (l.take k) Z=false) [] rfl ⟨rfl,rfl,trivial,⟨rfl,rfl,rfl,trivial⟩⟩ ?_
 intro k hk hI
 by_cases hlt:k<l.length
 ·obtain ⟨x,hx⟩:∃x,l[k]? =some x:=⟨_,lbf hlt⟩
  obtain ⟨b0,b1⟩:=hasc k x hx
  obtain ⟨v,hv⟩:∃v,Z[x.toNat]? =some v:=⟨_,lbf (by omega)⟩
  have hfz:(Z.map fz)[x.toNat]? =some (fz v):=by rw [lba,hv];rfl
  have hrv:=hd v (lbm hv)
  have sg:=D9 v (by omega)
  have sp:=a2S (x:=v)
  have hgd:Z.getD x.toNat 0=v:=by rw [lbl,hv];rfl
  have sn:a9h (l.take (k+1)) Z=(a9h (l.take k) Z || decide (0<v)):=by
   unfold a9h
   rw [lbH,hx]
   simp only [Option.toList_some,List.any_append,aG0,List.any_nil,a9I,hgd]
  have hall:a9h (l.take (k+1)) Z=true->a9h l Z=true:=fun h=>by
   unfold a9h at h ⊢
   rw [lbx] at h ⊢
   obtain ⟨y,hy,h⟩:=h
   exact ⟨y,a8x hy,h⟩
  rw [hI,aH2] at sn
  generalize sgR v=U at sg sp
  conv=>whnf
  repeat' (first|refine zx ?_|refine qp sg ?_|refine qp (cond_true,cond_false) ?_|refine d6 hx ?_|refine G1 (k:=x.toNat) (by simp only [cond_true,cond_false];repeat' split;all_goals omega) hfz ?_|refine zd ?_ ?_<;>intro h<;>try omega|fail)<;>conv=>whnf
  all_goals first
   |omega
   |(exfalso;contradiction)
   |exact b9 (by symm;apply hall;rw [sn];exact lbI (sp.1 (by omega)))
   |exact ⟨hlt,by rw [sn];exact lbK (fun h=>by have:=sp.2 h;omega),[],rfl,rfl,trivial,⟨rfl,rfl,rfl,trivial⟩⟩
 ·have hke:k=l.length:=by omega
  subst hke
  rw [lbn (lbS _)] at hI
  conv=>whnf
  repeat' (first|refine zx ?_|refine zd ?_ ?_<;>intro h<;>try omega|fail)<;>conv=>whnf
  all_goals first
   |omega
   |(refine b9 ?_;rw [hI])
section
open Go.RowKit
section
variable {α β γ:Type}
noncomputable def getX (d:α) (n:Nat) (l:List β) (k:β->α):α:=
 List.rec (motive:=fun _=>Nat->α) (fun _=>d) (fun x _ ih n=>Nat.rec (motive:=fun _=>α) (k x) (fun n _=>ih n) n) l n
noncomputable def setX (n:Nat) (v:β) (l:List β) (k:List β->α):α:=
 List.rec (motive:=fun _=>Nat->(List β->α)->α) (fun _ k=>k []) (fun x r ih n k=>Nat.rec (motive:=fun _=>α) (k (v::r)) (fun n _=>ih n fun q=>k (x::q)) n) l n k
noncomputable def ai2 (l r:List β) (k:List β->α):α:=
 List.rec (motive:=fun _=>(List β->α)->α) (fun k=>k r) (fun x _ ih k=>ih fun q=>k (x::q)) l k
noncomputable def a1k (f:β->γ) (l:List β) (k:List γ->α):α:=
 List.rec (motive:=fun _=>(List γ->α)->α) (fun k=>k []) (fun x _ ih k=>ih fun q=>k (f x::q)) l k
noncomputable def a3l (n:Nat) (l:List β) (k:List β->α):α:=
 List.rec (motive:=fun _=>Nat->(List β->α)->α) (fun _ k=>k []) (fun x r ih n k=>Nat.rec (motive:=fun _=>α) (k []) (fun n _=>ih n fun q=>k (x::q)) n) l n k
noncomputable def a3o (n:Nat) (l:List β) (k:List β->α):α:=
 List.rec (motive:=fun _=>Nat->α) (fun _=>k []) (fun x r ih n=>Nat.rec (motive:=fun _=>α) (k (x::r)) (fun n _=>ih n) n) l n
noncomputable def a65 (n:Nat) (k:Nat->α):α:=Nat.rec (motive:=fun _=>α) (k 0) (fun m _=>k (m+1)) n
noncomputable def bf9 (n:Int) (k:Int->α):α:=Int.rec (motive:=fun _=>α) (fun m=>a65 m fun m=>k (.ofNat m)) (fun m=>a65 m fun m=>k (.negSucc m)) n
noncomputable def lenX (l:List β) (k:Nat->α):α:=
 List.rec (motive:=fun _=>Nat->α) (fun n=>k n) (fun _ _ ih n=>a65 (n+1) ih) l 0
noncomputable def b7n (n:Nat) (v:β) (k:List β->α):α:=Nat.rec (motive:=fun _=>List β->α) (fun l=>k l) (fun _ ih l=>ih (v::l)) n []
theorem getX_iff {n:Nat} {l:List β} {k:β->Bool}:getX false n l k=true↔∃x,l[n]? =some x∧k x=true:=by
 induction l generalizing n with
 |nil=>exact ⟨fun h=>(nomatch h),fun ⟨x,h,_⟩=>(nomatch h)⟩
 |cons y l ih=>
  cases n with
  |zero=>exact ⟨fun h=>⟨y,rfl,h⟩,fun ⟨x,h,hk⟩=>by simp at h;subst h;exact hk⟩
  |succ n=>
   show getX false n l k=true↔_
   rw [ih];simp
theorem b2A {n:Nat} {v:β} {l:List β} {k:List β->α}:setX n v l k=k (l.set n v):=by
 induction l generalizing n k with
 |nil=>rfl
 |cons y l ih=>cases n with
  |zero=>rfl
  |succ n=>exact ih
theorem a39 {l r:List β} {k:List β->α}:ai2 l r k=k (l++r):=by
 induction l generalizing k with
 |nil=>rfl
 |cons y l ih=>exact ih
theorem J7 {f:β->γ} {l:List β} {k:List γ->α}:a1k f l k=k (l.map f):=by
 induction l generalizing k with
 |nil=>rfl
 |cons y l ih=>exact ih
theorem S4 {n:Nat} {l:List β} {k:List β->α}:a3l n l k=k (l.take n):=by
 induction l generalizing n k with
 |nil=>show k []=_;simp
 |cons y l ih=>cases n with
  |zero=>rfl
  |succ n=>exact ih
theorem P8 {n:Nat} {l:List β} {k:List β->α}:a3o n l k=k (l.drop n):=by
 induction l generalizing n with
 |nil=>show k []=_;simp
 |cons y l ih=>cases n with
  |zero=>rfl
  |succ n=>exact ih
theorem W9 {n:Nat} {k:Nat->α}:a65 n k=k n:=by cases n<;>rfl
theorem b8B {n:Int} {k:Int->α}:bf9 n k=k n:=by
 cases n with
 |ofNat m=>exact W9 (k:=fun m=>k (.ofNat m))
 |negSucc m=>exact W9 (k:=fun m=>k (.negSucc m))
theorem b8v {l:List β} {k:Nat->α}:∀{n:Nat},List.rec (motive:=fun _=>Nat->α) (fun n=>k n) (fun _ _ ih n=>a65 (n+1) ih) l n=k (n+l.length):=by
 induction l with
 |nil=>intro n;rfl
 |cons y l ih=>
  intro n
  show a65 (n+1) _=_
  rw [W9,ih,lbu]
  congr 1;omega
theorem a2H {l:List β} {k:Nat->α}:lenX l k=k l.length:=by
 unfold lenX
 rw [b8v,y3]
theorem b1v {v:β} {k:List β->α}:∀(n:Nat) (l:List β),Nat.rec (motive:=fun _=>List β->α) (fun l=>k l) (fun _ ih l=>ih (v::l)) n l=k (List.replicate n v++l)
 |0,l=>rfl
 |n+1,l=>by
  show Nat.rec (motive:=fun _=>List β->α) (fun l=>k l) (fun _ ih l=>ih (v::l)) n (v::l)=_
  rw [b1v n,ak5,lbE];rfl
theorem b2a {n:Nat} {v:β} {k:List β->α}:b7n n v k=k (List.replicate n v):=by
 unfold b7n
 rw [b1v,a1p]
end
def leX (a b:Int):Bool:=match b - a with
 |.ofNat _=>true
 |.negSucc _=>false
theorem T2 {a b:Int}:leX a b=true↔a<=b:=by
 unfold leX
 split
 ·rename_i n hn
  exact ⟨fun _=>by have:(0:Int)<=Int.ofNat n:=Int.natCast_nonneg n;omega,fun _=>rfl⟩
 ·rename_i n hn
  refine ⟨fun h=>(nomatch h),fun h=>?_⟩
  have:Int.negSucc n<0:=Int.negSucc_lt_zero n
  omega
def eqI (a b:Int):Bool:=match b - a with
 |.ofNat n=>Nat.beq n 0
 |.negSucc _=>false
theorem a9t {a b:Int}:eqI a b=true↔a=b:=by
 unfold eqI
 split
 ·rename_i n hn
  constructor
  ·intro h
   have:=n7 h
   subst this
   have hn:b - a=0:=hn
   omega
  ·intro h
   subst h
   rw [Int.sub_self] at hn
   have hn:(0:Int)=(n:Int):=hn
   have:n=0:=by omega
   subst this
   rfl
 ·rename_i n hn
  refine ⟨fun h=>(nomatch h),fun h=>?_⟩
  have:Int.negSucc n<0:=Int.negSucc_lt_zero n
  omega
theorem a4Z {a b:Int}:eqI a b=false↔a≠b:=by
 rw [← lbR,a9t]
theorem a0C {a b:Int}:leX a b=false↔b<a:=by
 rw [← lbR,T2];omega
inductive BT (β:Type) where
 |tip (i:Nat) (x:β)
 |bin (m:Nat) (l r:BT β)
section
variable {α β:Type}
def BT.get (d:β) (t:Nat):BT β->β
 |.tip i x=>cond (Nat.beq i t) x d
 |.bin m l r=>cond (Nat.ble m t) (get d t r) (get d t l)
def BT.mk0 (d:β):Nat->Nat->BT β
 |0,lo=>.tip lo d
 |k+1,lo=>.bin (lo+2 ^ k) (mk0 d k lo) (mk0 d k (lo+2 ^ k))
noncomputable def BT.getX (d:β) (t:Nat) (T:BT β) (k:β->α):α:=
 BT.rec (motive:=fun _=>α) (fun i x=>cond (Nat.beq i t) (k x) (k d)) (fun m _ _ l r=>cond (Nat.ble m t) r l) T
noncomputable def BT.setX (er:α) (t:Nat) (v:β) (T:BT β) (k:BT β->α):α:=
 BT.rec (motive:=fun _=>(BT β->α)->α) (fun i _ k=>cond (Nat.beq i t) (k (.tip i v)) er) (fun m l r ihl ihr k=>cond (Nat.ble m t) (ihr fun r'=>k (.bin m l r')) (ihl fun l'=>k (.bin m l' r))) T k
theorem BT.getX_eq {d:β} {t:Nat} {T:BT β} {k:β->α}:T.getX d t k=k (T.get d t):=by
 induction T with
 |tip i x=>show cond (Nat.beq i t) (k x) (k d)=_;unfold BT.get;cases Nat.beq i t<;>rfl
 |bin m l r ihl ihr=>show cond (Nat.ble m t) (r.getX d t k) (l.getX d t k)=_;unfold BT.get;rw [ihl,ihr];cases Nat.ble m t<;>rfl
theorem BT.setX_to {d:β} {t:Nat} {v:β} {T:BT β}:∀{k:BT β->Bool},T.setX false t v k=true->∃T',k T'=true∧T'.get d t=v∧∀t',t'≠t->T'.get d t'=T.get d t':=by
 induction T with
 |tip i x=>
  intro k h
  have h:cond (Nat.beq i t) (k (.tip i v)) false=true:=h
  cases hi:Nat.beq i t with
  |true=>
   rw [hi] at h
   refine ⟨_,h,by unfold BT.get;rw [hi];rfl,fun t' ht=>?_⟩
   have:=n7 hi
   have hn:Nat.beq i t'=false:=by
    cases hb:Nat.beq i t' with
    |false=>rfl
    |true=>have:=n7 hb;omega
   unfold BT.get
   rw [hn];rfl
  |false=>rw [hi] at h;cases h
 |bin m l r ihl ihr=>
  intro k h
  have h:cond (Nat.ble m t) (r.setX false t v fun r'=>k (.bin m l r')) (l.setX false t v fun l'=>k (.bin m l' r))=true:=h
  cases hm:Nat.ble m t with
  |true=>
   rw [hm] at h
   obtain ⟨r',h1,h2,h3⟩:=ihr h
   refine ⟨_,h1,by unfold BT.get;rw [hm];exact h2,fun t' ht=>?_⟩
   unfold BT.get
   rw [h3 t' ht]
  |false=>
   rw [hm] at h
   obtain ⟨l',h1,h2,h3⟩:=ihl h
   refine ⟨_,h1,by unfold BT.get;rw [hm];exact h2,fun t' ht=>?_⟩
   unfold BT.get
   rw [h3 t' ht]
end
theorem F3 {β:Type} {n:Nat} {f:Nat->β} {i:Nat}:((List.range n).map f)[i]? =if i<n then some (f i) else none:=by
 rw [lba]
 split
 ·rename_i h;rw [lbh h];rfl
 ·rename_i h;rw [lbd (by simp;omega)];rfl
structure HT where
 n:Nat
 t:BT Blk
abbrev aD7:Blk:=⟨.dead,0,0,[],false,false,false⟩
def HT.toL (H:HT):Hp:=(List.range H.n).map fun i=>H.t.get aD7 i
section
variable {α:Type}
noncomputable def HT.getX (er:α) (id:Nat) (H:HT) (k:Blk->α):α:=match H with
 |⟨n,t⟩=>cond (Nat.blt id n) (t.getX aD7 id k) er
noncomputable def HT.setX (er:α) (id:Nat) (v:Blk) (H:HT) (k:HT->α):α:=match H with
 |⟨n,t⟩=>t.setX er id v fun t'=>k ⟨n,t'⟩
noncomputable def HT.pushX (er:α) (v:Blk) (H:HT) (k:HT->α):α:=match H with
 |⟨n,t⟩=>t.setX er n v fun t'=>a65 (n+1) fun m=>k ⟨m,t'⟩
noncomputable def HT.lenX (H:HT) (k:Nat->α):α:=match H with
 |⟨n,_⟩=>k n
end
theorem HT.len (H:HT):H.toL.length=H.n:=by simp [HT.toL]
theorem HT.lenX_to {α:Type} {H:HT} {k:Nat->α}:H.lenX k=k H.toL.length:=by rw [HT.len];rfl
theorem HT.getX_iff {id:Nat} {H:HT} {k:Blk->Bool}:HT.getX false id H k=true↔∃b,H.toL[id]? =some b∧k b=true:=by
 obtain ⟨n,t⟩:=H
 show cond (Nat.blt id n) (t.getX aD7 id k) false=true↔_
 rw [BT.getX_eq]
 unfold HT.toL
 rw [F3]
 cases hb:Nat.blt id n with
 |true=>
  have:id<n:=by simpa using hb
  rw [if_pos this]
  exact ⟨fun h=>⟨_,rfl,h⟩,fun ⟨b,h,hk⟩=>by injection h with h;subst h;exact hk⟩
 |false=>
  have hno:¬id<n:=fun h=>by
   rw [show Nat.blt id n=true by simpa using h] at hb;cases hb
  rw [if_neg hno]
  exact ⟨fun h=>(nomatch h),fun ⟨b,h,hk⟩=>(nomatch h)⟩
theorem HT.setX_to {id:Nat} {v:Blk} {H:HT} {k:HT->Bool} (h:HT.setX false id v H k=true):∃H',k H'=true∧H'.toL=H.toL.set id v:=by
 obtain ⟨n,t⟩:=H
 obtain ⟨t',h1,h2,h3⟩:=BT.setX_to (d:=aD7) (T:=t) h
 refine ⟨_,h1,?_⟩
 apply I6
 intro i
 unfold HT.toL
 rw [F3,lbg,F3]
 by_cases hi:id=i
 ·subst hi
  rw [if_pos rfl]
  simp only [lbr,lbv]
  rw [h2]
 ·rw [if_neg hi,h3 i (Ne.symm hi)]
theorem HT.pushX_to {v:Blk} {H:HT} {k:HT->Bool} (h:HT.pushX false v H k=true):∃H',k H'=true∧H'.toL=H.toL++[v]:=by
 obtain ⟨n,t⟩:=H
 obtain ⟨t',h1,h2,h3⟩:=BT.setX_to (d:=aD7) (T:=t) h
 rw [W9] at h1
 refine ⟨_,h1,?_⟩
 unfold HT.toL
 simp only [a5M,lbD,a3q,List.map_nil,h2]
 congr 1
 exact lbp fun i hi=>h3 i (by have:=lbC.1 hi;omega)
end
section
open Go.RowKit
structure XC where
 tab:Tab
 fns:FuncId->Option Func
 maps:TypeId->Option (TypeId × TypeId × Value × Nat)
 eqs:TypeId->Nat->Bool
 meth:TypeId->String->Option (FuncId × Bool × TypeId)
 nilp:TypeId->Bool
 nifc:TypeId->Bool
 clip:FuncId->Bool
 orc:FuncId->List (List S × S)
section
variable {α:Type} (X:XC) (er:Nat->α)
noncomputable def a7A (s:S) (k:List C->α):α:=match s with
 |.c x=>k [x]
 |.agg cs=>k cs
 |_=>er 1
noncomputable def ar1 (b:Blk) (k:α):α:=match b.mode,b.mp with
 |.dead,_=>er 2
 |_,true=>er 3
 |_,false=>k
noncomputable def aL9 (b:Blk) (k:α):α:=match b.mode,b.app,b.mp with
 |.live,false,false=>k
 |_,_,_=>er 4
noncomputable def b9d (b:Blk) (r:Nat) (k:List C->α):α:=match b.box with
 |true=>match b.rows,r with
  |[row],0=>k row
  |_,_=>er 5
 |false=>getX (er 6) r b.rows k
noncomputable def ai5 (td:TD) (row:List C) (o:Nat) (K:S->α):α:=
 cond (Nat.ble o row.length) (a3o o row fun r=>cond td.agg (cond (Nat.ble td.size r.length) (a3l td.size r fun cs=>K (.agg cs)) (er 7)) (getX (er 8) 0 r fun c=>K (.c c))) (er 9)
noncomputable def a8j (td:TD) (row:List T) (K:S->α):α:=
 cond td.agg (cond (Nat.ble td.size row.length) (a3l td.size row fun cs=>a1k C.t cs fun cs=>K (.agg cs)) (er 10)) (getX (er 11) 0 row fun c=>K (.c (.t c)))
noncomputable def aP9 (ev:Operand->S) (H:HT) (t:TypeId) (x:Operand) (K:S->α):α:=
 match X.tab t with
 |none=>er (1000+t)
 |some d=>match ev x with
  |.c (.ptr id r o)=>HT.getX (er 13) id H fun b=>ar1 er b (b9d er b r fun row=>ai5 er d row o K)
  |.c (.t (.ptr cells))=>a8j er d cells K
  |_=>er 14
noncomputable def aV3 (o:Nat) (xs l:List C) (k:List C->α):α:=
 cond (Nat.ble (o+xs.length) l.length && Nat.ble 1 xs.length) (a3l o l fun p=>a3o (o+xs.length) l fun q=>ai2 xs q fun y=>ai2 p y k) (er 15)
noncomputable def b1s (ev:Operand->S) (H:HT) (t:TypeId) (x v:Operand) (K:HT->α):α:=
 match X.tab t with
 |none=>er (2000+t)
 |some d=>match ev x with
  |.c (.ptr id r o)=>HT.getX (er 17) id H fun b=>aL9 er b <| a7A er (ev v) fun cs=>cond (Nat.beq cs.length d.size)
    (b9d er b r fun row=>aV3 er o cs row fun row'=>
      match b with
      |⟨m,e,s,rows,bx,ap,mp⟩=>match bx with
       |true=>HT.setX (er 140) id ⟨m,e,s,[row'],true,ap,mp⟩ H K
       |false=>setX r row' rows fun rows'=>HT.setX (er 141) id ⟨m,e,s,rows',false,ap,mp⟩ H K) (er 18)
  |_=>er 19
noncomputable def a5E (ev:Operand->S) (s:TypeId) (x:Operand) (f:Nat) (K:S->α):α:=
 match X.tab s with
 |some ⟨.struct fs,_,_,_,_⟩=>getX (er 20) f fs fun y=>cond (Nat.beq y.2.1 0) (er 21) (match ev x with
  |.c (.ptr id r o)=>a65 (o+y.1) fun o=>K (.c (.ptr id r o))
  |.c (.t (.ptr cells))=>cond (Nat.ble y.1 cells.length) (a3o y.1 cells fun cs=>K (.c (.t (.ptr cs)))) (er 22)
  |_=>er 23)
 |_=>er 24
noncomputable def a6Z (e:TypeId) (k:Nat->α):α:=match X.tab e with
 |some d=>k d.size
 |none=>er 25
noncomputable def a6g (ev:Operand->S) (H:HT) (t:TypeId) (x i:Operand) (K:S->α):α:=
 match ev i with
 |.c (.t (.atm (.int _ n)))=>cond (leX 0 n) (match X.tab t with
  |some ⟨.slice e,_,_,_,_⟩=>match ev x with
   |.c (.t (.sl size k rows))=>a6Z X er e fun s=>cond (Nat.beq s size) (getX (er 26) n.toNat rows fun row=>K (.c (.t (.ptr row)))) (er 27)
   |.c (.own id lo len app)=>a6Z X er e fun s=>HT.getX (er 28) id H fun b=>ar1 er b (cond (Nat.beq s b.size) (cond (leX len n) (er 29) (a65 (lo+n.toNat) fun r=>K (.c (.ptr id r 0)))) (er 30))
   |_=>er 31
  |some ⟨.arr m e,_,_,_,_⟩=>cond (leX m n) (er 32) (a6Z X er e fun s=>match ev x with
   |.c (.ptr id r o)=>a65 (o+n.toNat*s) fun o=>K (.c (.ptr id r o))
   |.c (.t (.ptr cells))=>cond (Nat.ble (n.toNat*s) cells.length) (a3o (n.toNat*s) cells fun cs=>K (.c (.t (.ptr cs)))) (er 33)
   |_=>er 34)
  |_=>er 35) (er 36)
 |_=>er 37
noncomputable def a1N (ev:Operand->S) (x:Option Operand) (dflt:Int) (k:Int->α):α:=
 match x with
 |none=>k dflt
 |some x=>match ev x with
  |.c (.t (.atm (.int _ n)))=>k n
  |_=>er 38
noncomputable def b0o (ev:Operand->S) (H:HT) (t:TypeId) (x:Operand) (lo hi max:Option Operand) (K:S->α):α:=
 match X.tab t with
 |some ⟨.slice e,_,_,_,_⟩=>match max with
  |none=>match ev x with
   |.c (.t (.sl 0 .nil _))=>a1N er ev lo 0 fun l=>a1N er ev hi 0 fun h=>a6Z X er e fun s=>cond (leX 0 l && leX l h && leX h 0) (K (.c (.t (.sl 0 .nil [])))) (er 39)
   |.c (.t (.sl size k rows))=>a1N er ev lo 0 fun l=>lenX rows fun n=>a1N er ev hi n fun h=>a6Z X er e fun s=>
     cond (Nat.beq s size && leX 0 l && leX l h && leX h n) (a3l h.toNat rows fun rs=>a3o l.toNat rs fun rs=>K (.c (.t (.sl size (Q3 k hi none) rs)))) (er 40)
   |.c (.own id l0 len app)=>a1N er ev lo 0 fun l=>a1N er ev hi len fun h=>
     a6Z X er e fun s=>HT.getX (er 41) id H fun b=>ar1 er b <| cond (Nat.beq s b.size && leX 0 l && leX l h && leX h len) (a65 (l0+l.toNat) fun l1=>a65 (h - l).toNat fun n=>cond (app && lo.isNone) (K (.c (.own id l1 n true))) (K (.c (.own id l1 n false)))) (er 42)
   |_=>er 43
  |some y=>er 44
 |_=>er 45
noncomputable def a3E (b:Bool) (K:S->α):α:=cond b (K (.c (.t (.atm (.bool true))))) (K (.c (.t (.atm (.bool false)))))
noncomputable def a6e (k:IntKind) (n:Int) (K:S->α):α:=bf9 n fun n=>K (.c (.t (.atm (.int k n))))
noncomputable def b7a (op:BinOp) (k k':IntKind) (a b:Int) (K:S->α):α:=
 match op with
 |.shl=>cond (leX 0 b) (a6e k (k.wrap (a*2 ^ min b.toNat k.bits)) K) (er 46)
 |.shr=>cond (leX 0 b) (a6e k (a.fdiv (2 ^ min b.toNat k.bits)) K) (er 47)
 |op=>cond (decide (k=k')) (match op with
  |.add=>a6e k (k.wrap (a+b)) K
  |.sub=>a6e k (k.wrap (a - b)) K
  |.mul=>a6e k (k.wrap (a*b)) K
  |.quo=>cond (eqI b 0) (er 48) (a6e k (k.wrap (a.tdiv b)) K)
  |.rem=>cond (eqI b 0) (er 49) (a6e k (a.tmod b) K)
  |.eql=>a3E (eqI a b) K
  |.neq=>a3E (!(eqI a b)) K
  |.lss=>a3E (!(leX b a)) K
  |.leq=>a3E (leX a b) K
  |.gtr=>a3E (!(leX a b)) K
  |.geq=>a3E (leX b a) K
  |.and=>a6e k (k.wrap (BitVec.ofInt k.bits a &&& BitVec.ofInt k.bits b).toNat) K
  |.or=>a6e k (k.wrap (BitVec.ofInt k.bits a ||| BitVec.ofInt k.bits b).toNat) K
  |.xor=>a6e k (k.wrap (BitVec.ofInt k.bits a ^^^ BitVec.ofInt k.bits b).toNat) K
  |.andNot=>a6e k (k.wrap (BitVec.ofInt k.bits a &&& ~~~ BitVec.ofInt k.bits b).toNat) K
  |_=>er 50) (er 51)
noncomputable def b66 (x:C) (k:Bool->α):α:=
 match x with
 |.t (.sl _ .nil _)=>k true
 |.t (.sl _ .nul _)=>k true
 |.t (.sl _ .non _)=>k false
 |.t (.sl _ _ rows)=>cond (Nat.ble 1 rows.length) (k false) (er 52)
 |.own _ _ len _=>cond (Nat.ble 1 len) (k false) (er 53)
 |_=>er 54
noncomputable def ap5:List C->(List Int->α)->α
 |[],k=>k []
 |.t (.atm (.int .i64 a))::cs,k=>ap5 cs fun l=>k (a::l)
 |_,_=>er 55
def eqL:List Int->List Int->Bool
 |[],[]=>true
 |a::l,b::r=>eqI a b && eqL l r
 |_,_=>false
noncomputable def af5 (op:BinOp) (b:Bool) (K:S->α):α:=match op with
 |.eql=>a3E b K
 |.neq=>a3E (!b) K
 |_=>er 56
noncomputable def bc2 (op:BinOp) (t:TypeId) (x y:S) (K:S->α):α:=
 match x,y with
 |.c (.t (.atm (.int k a))),.c (.t (.atm (.int k' b)))=>b7a er op k k' a b K
 |.c (.t (.atm (.bool a))),.c (.t (.atm (.bool b)))=>match X.tab t with
  |some ⟨.bool,_,_,_,_⟩=>af5 er op (cond a b (!b)) K
  |_=>er 57
 |.c x,.c (.t (.sl _ .nil []))=>match X.tab t with
  |some ⟨.slice _,_,_,_,_⟩=>b66 er x fun b=>af5 er op b K
  |_=>er 58
 |.c (.t (.ptr _)),.c (.t (.atm (.pointer none)))=>cond (X.nilp t) (af5 er op false K) (er 59)
 |.c (.ptr _ _ _),.c (.t (.atm (.pointer none)))=>cond (X.nilp t) (af5 er op false K) (er 60)
 |.c (.t (.atm (.pointer none))),.c (.t (.atm (.pointer none)))=>cond (X.nilp t) (af5 er op true K) (er 61)
 |.agg cs,.agg ds=>ap5 er cs fun ul=>ap5 er ds fun bs=>cond (X.eqs t ul.length && Nat.beq bs.length ul.length) (af5 er op (eqL ul bs) K) (er 62)
 |_,_=>er 63
noncomputable def xun (op:UnOp) (x:S) (K:S->α):α:=
 match op,x with
 |.neg,.c (.t (.atm (.int k a)))=>a6e k (k.wrap (0 - a)) K
 |.not,.c (.t (.atm (.bool b)))=>a3E (!b) K
 |_,_=>er 64
noncomputable def b4D (src dst:TypeId) (x:S) (K:S->α):α:=
 match x,X.tab src,X.tab dst with
 |.c (.t (.atm (.int _ a))),some _,some ⟨.int k,_,_,_,_⟩=>a6e k (k.wrap a) K
 |_,_,_=>er 65
noncomputable def b71 (ev:Operand->S) (n:Nat) (t:TypeId) (l c:Operand) (K:S->List Blk->α):α:=
 match ev l,ev c,X.tab t with
 |.c (.t (.atm (.int _ a))),.c (.t (.atm (.int _ b))),some ⟨.slice e,_,_,_,_⟩=>match X.tab e with
  |some d=>cond (Nat.beq d.size 0) (er 66) (cond (leX 0 a && leX a b && leX (b*(d.bytes+1)) 140737488355328)
    (a1k t6 d.zero fun z=>a65 a.toNat fun m=>b7n m z fun rows=>K (.c (.own n 0 m true)) [⟨.live,e,d.size,rows,false,false,false⟩]) (er 67))
  |none=>er 68
 |_,_,_=>er 69
noncomputable def ak6 (fs:List (Nat × Nat × Bool)) (i:Nat) (cs:List C) (k:Nat->α):α:=
 getX (er 70) i fs fun y=>cond (Nat.beq cs.length y.2.1 && Nat.blt 0 y.2.1) (k y.1) (er 71)
noncomputable def ay3 (fs:List (Nat × Nat × Bool)) (cells:List C):List (Nat × S)->(List C->α)->α
 |[],k=>k cells
 |(i,s)::rest,k=>a7A er s fun cs=>ak6 er fs i cs fun off=>aV3 er off cs cells fun cells'=>ay3 fs cells' rest k
noncomputable def aC1 (size:Nat) (cells:List C):List (Nat × S)->(List C->α)->α
 |[],k=>k cells
 |(i,s)::rest,k=>a7A er s fun cs=>cond (Nat.beq cs.length size && Nat.blt 0 size) (aV3 er (i*size) cs cells fun cells'=>aC1 size cells' rest k) (er 72)
noncomputable def aZ1 (ev:Operand->S) (t:TypeId) (parts:List (Nat × Operand)) (K:S->α):α:=
 match X.tab t with
 |some ⟨.struct fs,_,_,_,z⟩=>a1k t6 z fun z=>a1k (fun p=>(p.1,ev p.2)) parts fun ps=>ay3 er fs z ps fun cs=>K (.agg cs)
 |some ⟨.arr _ e,_,_,_,z⟩=>a6Z X er e fun s=>a1k t6 z fun z=>a1k (fun p=>(p.1,ev p.2)) parts fun ps=>aC1 er s z ps fun cs=>K (.agg cs)
 |_=>er 73
noncomputable def aG8 (size:Nat) (rows:List (List C)):List (Nat × S)->(List (List C)->α)->α
 |[],k=>k rows
 |(i,s)::rest,k=>a7A er s fun cs=>cond (Nat.beq cs.length size && Nat.blt i rows.length) (setX i cs rows fun rows'=>aG8 size rows' rest k) (er 74)
noncomputable def b2B:List C->(List T->α)->α->α
 |[],k,_=>k []
 |.t x::r,k,d=>b2B r (fun l=>k (x::l)) d
 |_::_,_,d=>d
noncomputable def ab6:List (List C)->(List (List T)->α)->α->α
 |[],k,_=>k []
 |x::r,k,d=>b2B x (fun a=>ab6 r (fun l=>k (a::l)) d) d
noncomputable def a4p (lit:Bool) (ev:Operand->S) (n:Nat) (t:TypeId) (len:Nat) (parts:List (Nat × Operand)) (K:S->List Blk->α):α:=
 match X.tab t with
 |some ⟨.slice e,_,_,_,_⟩=>match X.tab e with
  |some d=>cond (Nat.beq d.size 0 || Nat.ble 16777216 (len*d.size)) (er 75) (a1k t6 d.zero fun z=>b7n len z fun rows=>a1k (fun p=>(p.1,ev p.2)) parts fun ps=>aG8 er d.size rows ps fun rows=>
    cond (lit || Nat.beq rows.length 0) (ab6 rows (fun rs=>K (.c (.t (.sl d.size .full rs))) []) (K (.c (.own n 0 len true)) [⟨.live,e,d.size,rows,false,false,false⟩]))
     (K (.c (.own n 0 len true)) [⟨.live,e,d.size,rows,false,false,false⟩]))
  |none=>er 76
 |_=>er 77
noncomputable def b9Y (ev:Operand->S) (n:Nat) (t:TypeId) (x:Operand) (K:S->List Blk->α):α:=
 a7A er (ev x) fun cs=>lenX cs fun m=>cond (Nat.beq m 0) (er 78) (K (.c (.ptr n 0 0)) [⟨.live,t,m,[cs],true,false,false⟩])
noncomputable def b0J (n:Nat) (t:TypeId) (K:S->List Blk->α):α:=
 match X.tab t with
 |some d=>a1k t6 d.zero fun z=>lenX z fun m=>cond (Nat.beq m 0) (er 79) (K (.c (.ptr n 0 0)) [⟨.live,t,m,[z],true,false,false⟩])
 |none=>er 80
noncomputable def b9Q (t:TypeId) (x:S) (K:S->α):α:=
 match X.tab t with
 |some ⟨.slice _,_,_,_,_⟩=>match x with
  |.c (.t (.sl _ _ rows))=>lenX rows fun n=>K (.c (.t (.atm (.int .i64 n))))
  |.c (.own _ _ len _)=>K (.c (.t (.atm (.int .i64 len))))
  |_=>er 81
 |some ⟨.arr n _,_,_,_,_⟩=>K (.c (.t (.atm (.int .i64 n))))
 |_=>er 82
noncomputable def b7G (size:Nat) (H:HT) (x:S) (k:List (List C)->α):α:=
 match x with
 |.c (.t (.sl s _ rows))=>cond (Nat.beq rows.length 0 || Nat.beq s size) (a1k (fun r=>r.map C.t) rows k) (er 83)
 |.c (.own id lo len _)=>HT.getX (er 84) id H fun b=>ar1 er b (cond (Nat.beq b.size size && Nat.ble (lo+len) b.rows.length) (a3o lo b.rows fun rs=>a3l len rs k) (er 85))
 |_=>er 86
noncomputable def aB7 (ev:Operand->S) (H:HT) (n:Nat) (t:TypeId) (s x:Operand) (Kq:S->List Blk->α) (Kg:S->HT->α):α:=
 match X.tab t with
 |some ⟨.slice e,_,_,_,_⟩=>match X.tab e with
  |some d=>cond (Nat.beq d.size 0) (er 87) (b7G er d.size H (ev x) fun xr=>lenX xr fun xn=>
    match ev s with
    |.c (.t (.sl _ .nil _))=>cond (Nat.ble (xn*(d.bytes+1)) 140737488355328) (Kq (.c (.own n 0 xn true)) [⟨.live,e,d.size,xr,false,false,false⟩]) (er 88)
    |.c (.t (.sl sz .full rows))=>lenX rows fun rn=>cond ((Nat.beq rn 0 || (Nat.blt 0 xn && Nat.beq sz d.size)) && Nat.ble ((rn+xn)*(d.bytes+1)) 140737488355328)
      (a65 (rn+xn) fun m=>a1k (fun r=>r.map C.t) rows fun rs=>ai2 rs xr fun rs=>Kq (.c (.own n 0 m true)) [⟨.live,e,d.size,rs,false,false,false⟩]) (er 89)
    |.c (.own id _ len true)=>HT.getX (er 90) id H fun b=>aL9 er b (cond (Nat.beq b.size d.size && Nat.beq b.elem e && Nat.ble len b.rows.length && Nat.ble ((len+xn)*(d.bytes+1)) 140737488355328)
      (a65 (len+xn) fun m=>a3l len b.rows fun rs=>ai2 rs xr fun rs=>HT.setX (er 142) id ⟨.dead,e,d.size,[],false,false,false⟩ H fun H1=>HT.pushX (er 143) ⟨.live,e,d.size,rs,false,false,false⟩ H1 fun H'=>Kg (.c (.own n 0 m true)) H') (er 91))
    |_=>er 92)
  |none=>er 93
 |_=>er 94
noncomputable def b5v (ev:Operand->S) (H:HT) (t:TypeId) (x s:Operand) (Kg:S->HT->α):α:=
 match X.tab t with
 |some ⟨.slice e,_,_,_,_⟩=>match X.tab e with
  |some d=>cond (Nat.beq d.size 0) (er 95) (b7G er d.size H (ev s) fun xr=>
    match ev x with
    |.c (.own id lo len _)=>HT.getX (er 96) id H fun b=>aL9 er b (cond (Nat.beq b.size d.size && Nat.beq b.elem e && Nat.ble (lo+len) b.rows.length)
      (a3l len xr fun xr=>lenX xr fun m=>a3l lo b.rows fun p=>a3o (lo+m) b.rows fun q=>ai2 xr q fun q=>ai2 p q fun rs=>
        match b with
        |⟨bm,be,bs,_,bx,ba,bp⟩=>HT.setX (er 144) id ⟨bm,be,bs,rs,bx,ba,bp⟩ H fun H'=>Kg (.c (.t (.atm (.int .i64 m)))) H') (er 97))
    |_=>er 98)
  |none=>er 99
 |_=>er 100
noncomputable def b81 (max:Bool) (l:List S) (K:S->α):α:=match l with
 |[.c (.t (.atm (.int k a))),.c (.t (.atm (.int _ b)))]=>cond max (cond (leX b a) (K (.c (.t (.atm (.int k a))))) (K (.c (.t (.atm (.int k b)))))) (cond (leX a b) (K (.c (.t (.atm (.int k a))))) (K (.c (.t (.atm (.int k b))))))
 |_=>er 101
noncomputable def b8H (s:S) (k:List Int->α):α:=match s with
 |.c (.t (.atm (.int .i64 a)))=>k [a]
 |.agg cs=>ap5 er cs fun l=>cond (Nat.ble 2 l.length) (k l) (er 102)
 |_=>er 103
noncomputable def b2f (id:Nat) (H:HT) (k:Blk->α):α:=HT.getX (er 104) id H fun b=>match b.mode,b.mp,b.app with
 |.live,true,false=>k b
 |_,_,_=>er 105
noncomputable def aj6:List C->(List Int->C->α)->α
 |[],_=>er 106
 |[c],k=>k [] c
 |c::d::r,k=>match c with
  |.t (.atm (.int .i64 a))=>aj6 (d::r) fun l c=>k (a::l) c
  |_=>er 107
noncomputable def ad7 (ks:List Int):List (List C)->(C->α)->α->α
 |[],_,d=>d
 |r::rs,k,d=>aj6 er r fun l c=>cond (eqL ks l) (xall rs (k c)) (ad7 ks rs k d)
where
 xall:List (List C)->α->α
 |[],k=>k
 |r::rs,k=>aj6 er r fun _ _=>xall rs k
noncomputable def aH7 (H:HT) (t:TypeId) (ok:Bool) (x key:S) (K:S->α):α:=match x with
 |.c (.mp id)=>b8H er key fun ks=>b2f er id H fun b=>match X.maps t with
  |some (kt,e,z,m)=>cond (Nat.beq m ks.length && Nat.beq b.size (m+1)) (ad7 er ks b.rows (fun c=>match ok with
    |true=>K (.tup [.c c,.c (.t (.atm (.bool true)))])
    |false=>K (.c c)) (match ok with
    |true=>K (.tup [.c (t6 z),.c (.t (.atm (.bool false)))])
    |false=>K (.c (t6 z)))) (er 108)
  |none=>er 109
 |_=>er 110
noncomputable def aI9 (H:HT) (t:TypeId) (x key v:S) (Kg:S->HT->α):α:=match x,v with
 |.c (.mp id),.c c=>b8H er key fun ks=>b2f er id H fun b=>match X.maps t with
  |some (kt,e,z,m)=>cond (Nat.beq m ks.length && Nat.beq b.size (m+1) && Nat.blt b.rows.length 1000000) (ad7 er ks b.rows (fun _=>er 111)
    (a1k a6h ks fun kc=>ai2 kc [c] fun row=>match b with
      |⟨bm,be,bs,rows,bx,ba,bp⟩=>ai2 rows [row] fun rows=>HT.setX (er 145) id ⟨bm,be,bs,rows,bx,ba,bp⟩ H fun H'=>Kg .junk H')) (er 112)
  |none=>er 113
 |_,_=>er 114
noncomputable def b5A:List S->(List C->α)->α
 |[],k=>k []
 |.c x::r,k=>b5A r fun l=>k (x::l)
 |_::_,_=>er 115
noncomputable def xop (call:FuncId->List S->HT->(S->List Blk->α)->(S->HT->α)->α) (lit:Bool) (ev:Operand->S) (H:HT) (op:Op) (Kq:S->List Blk->α) (Kg:S->HT->α):α:=
 match op with
 |.move x|.assign x=>Kq (ev x) []
 |.pick c a b=>match ev c with
  |.c (.t (.atm (.bool t)))=>cond t (Kq (ev a) []) (Kq (ev b) [])
  |_=>er 116
 |.load t x=>aP9 X er ev H t x fun s=>Kq s []
 |.store t x v=>b1s X er ev H t x v fun H'=>Kg .junk H'
 |.fieldAddr s x f=>a5E X er ev s x f fun s=>Kq s []
 |.indexAddr t x i=>a6g X er ev H t x i fun s=>Kq s []
 |.slice t x lo hi max=>b0o X er ev H t x lo hi max fun s=>Kq s []
 |.binOp op t x y _=>bc2 X er op t (ev x) (ev y) fun s=>Kq s []
 |.unOp op _ x=>xun er op (ev x) fun s=>Kq s []
 |.convert src dst x=>b4D X er src dst (ev x) fun s=>Kq s []
 |.makeSlice t l c=>HT.lenX H fun n=>b71 X er ev n t l c Kq
 |.build t parts=>aZ1 X er ev t parts.toList fun s=>Kq s []
 |.buildSlice t n parts=>HT.lenX H fun m=>a4p X er lit ev m t n parts.toList Kq
 |.box t x=>HT.lenX H fun n=>b9Y er ev n t x Kq
 |.alloc t=>HT.lenX H fun n=>b0J X er n t Kq
 |.extract x i=>match ev x with
  |.tup ss=>getX (er 117) i ss fun s=>Kq s []
  |_=>er 118
 |.makeFunc fn first caps=>match first.toList with
  |[]=>a1k ev caps.toList fun ss=>b5A er ss fun cs=>b2B cs (fun ts=>Kq (.c (.t (.fn fn ts))) []) (Kq (.c (.fn fn cs)) [])
  |_=>er 119
 |.call c=>match c.callee with
  |.builtin .len=>match c.argTypes.toList,c.args.toList with
   |t::_,x::_=>b9Q X er t (ev x) fun s=>Kq s []
   |_,_=>er 120
  |.builtin .append=>match c.argTypes.toList,c.args.toList with
   |[t,t'],[s,x]=>cond (Nat.beq t t') (HT.lenX H fun n=>aB7 X er ev H n t s x Kq Kg) (er 121)
   |_,_=>er 122
  |.builtin .copy=>match c.argTypes.toList,c.args.toList with
   |[t,t'],[x,s]=>cond (Nat.beq t t') (b5v X er ev H t x s Kg) (er 123)
   |_,_=>er 124
  |.builtin .min=>a1k ev c.args.toList fun l=>b81 er false l fun s=>Kq s []
  |.builtin .max=>a1k ev c.args.toList fun l=>b81 er true l fun s=>Kq s []
  |.value f=>match ev f with
   |.c (.t (.fn (.func g) caps))=>a1k ev c.args.toList fun xsa=>a1k (fun x=>S.c (.t x)) caps fun cs=>ai2 xsa cs fun l=>call g l H Kq Kg
   |.c (.fn (.func g) caps)=>a1k ev c.args.toList fun xsa=>a1k S.c caps fun cs=>ai2 xsa cs fun l=>call g l H Kq Kg
   |_=>er 125
  |.invoke r name=>match ev r with
   |.ifc t s=>match X.meth t name with
    |some (f,b,e)=>a1k ev c.args.toList fun xsa=>match b with
     |true=>call f (s::xsa) H Kq Kg
     |false=>aP9 X er (b6Z s) H e (.tmp 0) fun r=>call f (r::xsa) H Kq Kg
    |none=>er 126
   |_=>er 127
  |_=>er 128
 |.nilCheck x=>match ev x with
  |.c (.ptr id r o)=>Kq (.c (.ptr id r o)) []
  |.c (.t (.ptr cs))=>Kq (.c (.t (.ptr cs))) []
  |_=>er 129
 |.makeInterface t x=>cond (X.nifc t) (Kq (.ifc t (ev x)) []) (er 130)
 |.typeAssert x _ t ok=>match ev x with
  |.ifc d s=>cond (X.nifc t && Nat.beq d t) (match ok with
   |true=>Kq (.tup [s,.c (.t (.atm (.bool true)))]) []
   |false=>Kq s []) (er 131)
  |_=>er 132
 |.makeMap t none=>HT.lenX H fun n=>match X.maps t with
  |some (kt,e,z,m)=>Kq (.c (.mp n)) [⟨.live,t,m+1,[],false,false,true⟩]
  |none=>er 133
 |.lookup t x k ok=>aH7 X er H t ok (ev x) (ev k) fun s=>Kq s []
 |.mapUpdate t x k v=>aI9 X er H t (ev x) (ev k) (ev v) Kg
 |_=>er 134
end
end
section
open Go.RowKit
structure XOK (P:Program) (X:XC):Prop where
 tab:v6 P X.tab
 fns : ∀ g fn, X.fns g = some fn -> P.funcs[g]? = some fn ∧ fn.name ≠ "runtime.NumGoroutine"
 maps:∀t kt e z m,X.maps t=some (kt,e,z,m)->b0t P t kt e z m
 eqs:∀t n,X.eqs t n=true->EqS P t n
 meth:∀t name f b e,X.meth t name=some (f,b,e)->a92 P t name f b e=true
 nilp:∀t,X.nilp t=true->P.underlying t=some (.pointer (P.pointee t))
 nifc:∀t,X.nifc t=true->a8d P t=true
 clip:∀g,X.clip g=true->∀rows:List (List T),(∀ r ∈ rows,r.length=1)->a8 P g [.c (.t (.sl 1 .any rows))] [] (.c (.t (.sl 1 .full rows))) []
 orc:∀g args r,(args,r) ∈ X.orc g->a8 P g args [] r []∧r.isT=true
abbrev noE:Nat->Bool:=fun _=>false
theorem f6 {p:Prop} (h:false=true):p:=absurd h Bool.false_ne_true
section
variable {β:Type}
theorem T3 {n:Nat} {l:List β} {x:β} {k:β->Prop} (h:l[n]? =some x) (hk:k x):a1l n l k:=by
 induction n generalizing l with
 |zero=>cases l with
  |nil=>cases h
  |cons y l=>simp at h;subst h;exact hk
 |succ n ih=>cases l with
  |nil=>cases h
  |cons y l=>exact ih (l:=l) (by simpa using h)
theorem aT6 {n:Nat} {l:List β} {k:List β->Prop} (h:n<=l.length) (hk:k (l.take n)):ah9 n l k:=by
 induction n generalizing l k with
 |zero=>simpa [ah9] using hk
 |succ n ih=>cases l with
  |nil=>simp at h
  |cons x l=>exact ih (by simpa using h) (by simpa using hk)
theorem a7e {n:Nat} {l:List β} {k:List β->Prop} (h:n<=l.length) (hk:k (l.drop n)):a8w n l k:=by
 induction n generalizing l with
 |zero=>cases l<;>simpa [a8w] using hk
 |succ n ih=>cases l with
  |nil=>simp at h
  |cons x l=>exact ih (l:=l) (by simpa using h) (by simpa using hk)
theorem m7 {c a:Bool} (h:cond c a false=true):c=true∧a=true:=by cases c<;>first|exact ⟨rfl,h⟩|cases h
theorem a4B {c a:Bool} (h:cond c false a=true):c=false∧a=true:=by cases c<;>first|exact ⟨rfl,h⟩|cases h
theorem u9 {c:Bool} {a:Prop} (h:c=true) (ha:a):cond c a False:=by rw [h];exact ha
theorem a0d {c:Bool} {a:Prop} (h:c=false) (ha:a):cond c False a:=by rw [h];exact ha
end
theorem a6T {s:S} {k:S->Prop} (h:k s):as6 s k:=by
 cases s with
 |c x=>cases x with
  |t y=>cases y with
   |atm v=>cases v<;>first|exact h|(rename_i b;exact ⟨fun e=>by rw [← e];exact h,fun e=>by rw [← e];exact h⟩)
   |_=>exact h
  |_=>exact h
 |_=>exact h
theorem aV6 {b:Bool} {k:S->Prop} (h:k (d9 b)):a0Z b k:=⟨fun e=>by rw [← e];exact h,fun e=>by rw [← e];exact h⟩
theorem a4O {p:Prop} [Decidable p] {b:Bool} (hb:b=true↔p) {k:S->Prop} (h:k (d9 b)):ac2 p k:=
 ⟨fun hp=>by rw [hb.2 hp] at h;exact h,fun hp=>by
   have:b=false:=by cases b;rfl;exact absurd (hb.1 rfl) hp
   rw [this] at h;exact h⟩
theorem b4w {b:Bool} {K:S->Bool}:a3E b K=K (d9 b):=by cases b<;>rfl
theorem b94 {k:IntKind} {n:Int} {K:S->Bool}:a6e k n K=K (a7 k n):=b8B
section
variable {P:Program} {X:XC}
theorem a2g {s:S} {k:List C->Bool} (h:a7A noE s k=true):∃cs,k cs=true∧∀k':List C->Prop,k' cs->a0X s k':=by
 cases s with
 |c x=>exact ⟨_,h,fun _ h=>h⟩
 |agg cs=>exact ⟨_,h,fun _ h=>h⟩
 |_=>exact f6 h
theorem a6n {b:Blk} {k:Bool} (h:ar1 noE b k=true):k=true∧∀k':Prop,k'->W0 b k':=by
 unfold ar1 at h
 unfold W0
 cases hb:b.mode<;>cases hm:b.mp<;>rw [hb,hm] at h<;>first|exact f6 h|exact ⟨h,fun _ h=>h⟩
theorem ad5 {b:Blk} {k:Bool} (h:aL9 noE b k=true):k=true∧b.mode=.live∧b.app=false∧b.mp=false:=by
 unfold aL9 at h
 cases hb:b.mode<;>cases ha:b.app<;>cases hm:b.mp<;>rw [hb,ha,hm] at h<;>first|exact f6 h|exact ⟨h,rfl,rfl,rfl⟩
theorem a4A {b:Blk} {k:Prop} (h:b.mode=.live∧b.app=false∧b.mp=false) (hk:k):a0Q b k:=by
 unfold a0Q;rw [h.1,h.2.1,h.2.2];exact hk
theorem b2m {b:Blk} {r:Nat} {k:List C->Bool} (h:b9d noE b r k=true):∃row,k row=true∧b.rows[r]? =some row∧∀k':List C->Prop,k' row->b3Q b r k':=by
 unfold b9d at h
 unfold b3Q
 split at h
 ·rename_i hb
  split at h
  ·rename_i row hr
   exact ⟨row,h,by rw [hr];rfl,fun k' hk=>by simp only [hb,hr];exact hk⟩
  ·exact f6 h
 ·rename_i hb
  obtain ⟨row,h1,h2⟩:=getX_iff.1 h
  exact ⟨row,h2,h1,fun k' hk=>by simp only [hb];exact ⟨row,h1,hk⟩⟩
theorem aM5 {td:TD} {row:List C} {o:Nat} {K:S->Bool} (h:ai5 noE td row o K=true):∃s,K s=true∧∀K':S->Prop,K' s->aG3 td row o K':=by
 unfold ai5 at h
 obtain ⟨h1,h⟩:=m7 h
 rw [P8] at h
 have h1:=W5 h1
 cases ha:td.agg with
 |true=>
  rw [ha,cond_true] at h
  obtain ⟨h2,h⟩:=m7 h
  rw [S4] at h
  refine ⟨_,h,fun K' hK=>a7e h1 ?_⟩
  rw [ha]
  exact aT6 (W5 h2) hK
 |false=>
  rw [ha,cond_false] at h
  obtain ⟨c,hc,h⟩:=getX_iff.1 h
  refine ⟨_,h,fun K' hK=>a7e h1 ?_⟩
  rw [ha]
  exact T3 hc hK
theorem aF5 {td:TD} {row:List T} {K:S->Bool} (h:a8j noE td row K=true):∃s,K s=true∧∀K':S->Prop,K' s->a6H td row K':=by
 unfold a8j at h
 unfold a6H
 cases ha:td.agg with
 |true=>
  rw [ha,cond_true] at h
  obtain ⟨h2,h⟩:=m7 h
  rw [S4,J7] at h
  exact ⟨_,h,fun K' hK=>aT6 (W5 h2) (D2.2 hK)⟩
 |false=>
  rw [ha,cond_false] at h
  obtain ⟨c,hc,h⟩:=getX_iff.1 h
  exact ⟨_,h,fun K' hK=>T3 hc hK⟩
theorem a9X {ev:Operand->S} {H:HT} {t:TypeId} {x:Operand} {K:S->Bool} (h:aP9 X noE ev H t x K=true):∃s,K s=true∧∀K':S->Prop,K' s->a5m X.tab ev H.toL t x K':=by
 unfold aP9 at h
 unfold a5m
 split at h
 ·exact f6 h
 ·rename_i d ht
  simp only [ht]
  split at h
  ·rename_i id r o hx
   simp only [hx]
   obtain ⟨b,hb,h⟩:=HT.getX_iff.1 h
   obtain ⟨h,h1⟩:=a6n h
   obtain ⟨row,h,_,h2⟩:=b2m h
   obtain ⟨s,h,h3⟩:=aM5 h
   exact ⟨s,h,fun K' hK=>T3 hb (h1 _ (h2 _ (h3 _ hK)))⟩
  ·rename_i cells hx
   simp only [hx]
   exact aF5 h
  ·exact f6 h
theorem ag3 {o:Nat} {xs l:List C} {k:List C->Bool} (h:aV3 noE o xs l k=true):∃r,k r=true∧∀k':List C->Prop,k' r->a3m o xs l k':=by
 unfold aV3 at h
 obtain ⟨h1,h⟩:=m7 h
 simp only [lbO,a8O] at h1
 simp only [S4,P8,a39] at h
 refine ⟨_,h,fun k' hk=>aj8 h1.1 (by rintro rfl;simp at h1) ?_⟩
 rw [lbE]
 exact hk
theorem b2X {ev:Operand->S} {H:HT} {t:TypeId} {x v:Operand} {K:HT->Bool} (h:b1s X noE ev H t x v K=true):∃s,K s=true∧∀K':Hp->Prop,K' s.toL->a8e X.tab ev H.toL t x v K':=by
 unfold b1s at h
 unfold a8e
 split at h
 ·exact f6 h
 ·rename_i d ht
  simp only [ht]
  split at h
  ·rename_i id r o hx
   simp only [hx]
   obtain ⟨b,hb,h⟩:=HT.getX_iff.1 h
   obtain ⟨h,h1⟩:=ad5 h
   obtain ⟨cs,h,h2⟩:=a2g h
   obtain ⟨hl,h⟩:=m7 h
   obtain ⟨row,h,_,h3⟩:=b2m h
   obtain ⟨row',h,h4⟩:=ag3 h
   obtain ⟨m,e,s,rows,bx,ap,mp⟩:=b
   cases bx with
   |true=>
    obtain ⟨H',h,e1⟩:=HT.setX_to h
    exact ⟨_,h,fun K' hK=>T3 hb (a4A h1 (h2 _ (u9 hl (h3 _ (h4 _ (x3.2 (e1 ▸ hK)))))))⟩
   |false=>
    simp only [b2A] at h
    obtain ⟨H',h,e1⟩:=HT.setX_to h
    exact ⟨_,h,fun K' hK=>T3 hb (a4A h1 (h2 _ (u9 hl (h3 _ (h4 _ (x3.2 (e1 ▸ hK)))))))⟩
  ·exact f6 h
theorem an3 {ev:Operand->S} {s:TypeId} {x:Operand} {f:Nat} {K:S->Bool} (h:a5E X noE ev s x f K=true):∃r,K r=true∧∀K':S->Prop,K' r->a1i X.tab ev s x f K':=by
 unfold a5E at h
 unfold a1i a6N
 split at h
 ·rename_i fs _ _ _ _ ht
  simp only [ht]
  obtain ⟨⟨off,size,bb⟩,hf,h⟩:=getX_iff.1 h
  simp only [hf]
  obtain ⟨h1,h⟩:=a4B h
  simp only at h1
  rw [h1]
  split at h
  ·rename_i id r o hx
   simp only [hx]
   rw [W9] at h
   exact ⟨_,h,fun K' hK=>hK⟩
  ·rename_i cells hx
   simp only [hx]
   obtain ⟨h2,h⟩:=m7 h
   rw [P8] at h
   exact ⟨_,h,fun K' hK=>a7e (W5 h2) hK⟩
  ·exact f6 h
 ·exact f6 h
theorem a0N {e:TypeId} {k:Nat->Bool} (h:a6Z X noE e k=true):∃n,k n=true∧∀k':Nat->Prop,k' n->a1t X.tab e k':=by
 unfold a6Z at h
 unfold a1t
 split at h
 ·rename_i d hd
  simp only [hd]
  exact ⟨_,h,fun _ h=>h⟩
 ·exact f6 h
theorem ao1 {ev:Operand->S} {H:HT} {t:TypeId} {x i:Operand} {K:S->Bool} (h:a6g X noE ev H t x i K=true):∃r,K r=true∧∀K':S->Prop,K' r->Y4 X.tab ev H.toL t x i K':=by
 unfold a6g at h
 unfold Y4
 split at h
 ·rename_i kk n hi
  simp only [hi]
  obtain ⟨h0,h⟩:=m7 h
  have h0:=T2.1 h0
  split at h
  ·rename_i e _ _ _ _ ht
   simp only [ht]
   split at h
   ·rename_i size k rows hx
    simp only [hx]
    obtain ⟨s,h,h1⟩:=a0N h
    obtain ⟨h2,h⟩:=m7 h
    obtain ⟨row,hr,h⟩:=getX_iff.1 h
    exact ⟨_,h,fun K' hK=>h1 _ (u9 h2 ⟨row,h0,hr,hK⟩)⟩
   ·rename_i id lo len app hx
    simp only [hx]
    obtain ⟨s,h,h1⟩:=a0N h
    obtain ⟨b,hb,h⟩:=HT.getX_iff.1 h
    obtain ⟨h,h2⟩:=a6n h
    obtain ⟨h3,h⟩:=m7 h
    obtain ⟨h4,h⟩:=a4B h
    have h4:=a0C.1 h4
    rw [W9] at h
    exact ⟨_,h,fun K' hK=>h1 _ (T3 hb (h2 _ (u9 h3 ⟨⟨h0,h4⟩,hK⟩)))⟩
   ·exact f6 h
  ·rename_i m e _ _ _ _ ht
   simp only [ht]
   obtain ⟨h4,h⟩:=a4B h
   have h4:=a0C.1 h4
   obtain ⟨s,h,h1⟩:=a0N h
   split at h
   ·rename_i id r o hx
    simp only [hx]
    rw [W9] at h
    exact ⟨_,h,fun K' hK=>h1 _ ⟨⟨h0,h4⟩,hK⟩⟩
   ·rename_i cells hx
    simp only [hx]
    obtain ⟨h5,h⟩:=m7 h
    rw [P8] at h
    exact ⟨_,h,fun K' hK=>h1 _ ⟨⟨h0,h4⟩,a7e (W5 h5) hK⟩⟩
   ·exact f6 h
  ·exact f6 h
 ·exact f6 h
theorem Z4 {ev:Operand->S} {x:Option Operand} {d:Int} {k:Int->Bool} (h:a1N noE ev x d k=true):∃n,k n=true∧∀k':Int->Prop,k' n->F8 ev x d k':=by
 unfold a1N at h
 unfold F8
 split at h
 ·exact ⟨_,h,fun _ h=>h⟩
 ·split at h
  ·rename_i y _ kk n hy
   simp only [hy]
   exact ⟨_,h,fun _ h=>h⟩
  ·exact f6 h
theorem b3E {ev:Operand->S} {H:HT} {t:TypeId} {x:Operand} {lo hi max:Option Operand} {K:S->Bool} (h:b0o X noE ev H t x lo hi max K=true):∃r,K r=true∧∀K':S->Prop,K' r->a23 X.tab ev H.toL t x lo hi max K':=by
 unfold b0o at h
 unfold a23
 split at h
 ·rename_i e _ _ _ _ ht
  simp only [ht]
  split at h
  ·split at h
   ·rename_i rws hx
    simp only [hx]
    obtain ⟨l,h,h1⟩:=Z4 h
    obtain ⟨u,h,h2⟩:=Z4 h
    obtain ⟨s,h,h3⟩:=a0N h
    obtain ⟨h4,h⟩:=m7 h
    simp only [lbO,T2] at h4
    exact ⟨_,h,fun K' hK=>h1 _ (h2 _ (h3 _ ⟨⟨h4.1.1,h4.1.2,h4.2⟩,hK⟩))⟩
   ·rename_i size k rows hne hx
    obtain ⟨l,h,h1⟩:=Z4 h
    rw [a2H] at h
    obtain ⟨u,h,h2⟩:=Z4 h
    obtain ⟨s,h,h3⟩:=a0N h
    obtain ⟨h4,h⟩:=m7 h
    simp only [lbO,T2] at h4
    simp only [S4,P8] at h
    refine ⟨_,h,fun K' hK=>?_⟩
    rw [hx]
    have key:F8 ev lo 0 fun l=>F8 ev hi rows.length fun h=>a1t X.tab e fun s=>cond (Nat.beq s size) ((0<=l∧l<=h∧h<=rows.length)∧K' (.c (.t (.sl size (Q3 k hi none) ((rows.take h.toNat).drop l.toNat))))) False:=h1 _ (h2 _ (h3 _ (u9 h4.1.1.1 ⟨⟨h4.1.1.2,h4.1.2,h4.2⟩,hK⟩)))
    cases size with
    |zero=>cases k with
     |nil=>exact (hne rfl rfl).elim
     |_=>exact key
    |succ n=>cases k<;>exact key
   ·rename_i id l0 len app hx
    simp only [hx]
    obtain ⟨l,h,h1⟩:=Z4 h
    obtain ⟨u,h,h2⟩:=Z4 h
    obtain ⟨s,h,h3⟩:=a0N h
    obtain ⟨b,hb,h⟩:=HT.getX_iff.1 h
    obtain ⟨h,h5⟩:=a6n h
    obtain ⟨h4,h⟩:=m7 h
    simp only [lbO,T2] at h4
    simp only [W9] at h
    have h:K (.c (.own id (l0+l.toNat) (u - l).toNat (app && lo.isNone)))=true:=by
     cases hq:(app && lo.isNone)<;>rw [hq] at h<;>exact h
    exact ⟨_,h,fun K' hK=>h1 _ (h2 _ (h3 _ (T3 hb (h5 _ (u9 h4.1.1.1 ⟨⟨h4.1.1.2,h4.1.2,h4.2⟩,hK⟩)))))⟩
   ·exact f6 h
  ·exact f6 h
 ·exact f6 h
end
end
section
open Go.RowKit
section
variable {P:Program} {X:XC}
theorem X0 {b:Bool} {K:S->Bool} (h:a3E b K=true):K (d9 b)=true:=by rw [b4w] at h;exact h
theorem Q7 {k:IntKind} {n:Int} {K:S->Bool} (h:a6e k n K=true):K (a7 k n)=true:=by rw [b94] at h;exact h
theorem b39 {op:BinOp} {k k':IntKind} {a b:Int} {K:S->Bool} (h:b7a noE op k k' a b K=true):∃s,K s=true∧∀K':S->Prop,K' s->b8l op k k' a b K':=by
 cases op with
 |shl=>obtain ⟨h1,h⟩:=m7 h;exact ⟨_,Q7 h,fun K' hK=>⟨T2.1 h1,_,rfl,hK⟩⟩
 |shr=>obtain ⟨h1,h⟩:=m7 h;exact ⟨_,Q7 h,fun K' hK=>⟨T2.1 h1,_,rfl,hK⟩⟩
 |add=>obtain ⟨h1,h⟩:=m7 h;exact ⟨_,Q7 h,fun K' hK=>u9 h1 ⟨_,rfl,hK⟩⟩
 |sub=>obtain ⟨h1,h⟩:=m7 h;exact ⟨_,Q7 h,fun K' hK=>u9 h1 ⟨_,rfl,hK⟩⟩
 |mul=>obtain ⟨h1,h⟩:=m7 h;exact ⟨_,Q7 h,fun K' hK=>u9 h1 ⟨_,rfl,hK⟩⟩
 |quo=>obtain ⟨h1,h⟩:=m7 h;obtain ⟨h2,h⟩:=a4B h;exact ⟨_,Q7 h,fun K' hK=>u9 h1 ⟨a4Z.1 h2,_,rfl,hK⟩⟩
 |rem=>obtain ⟨h1,h⟩:=m7 h;obtain ⟨h2,h⟩:=a4B h;exact ⟨_,Q7 h,fun K' hK=>u9 h1 ⟨a4Z.1 h2,hK⟩⟩
 |eql=>obtain ⟨h1,h⟩:=m7 h;exact ⟨_,X0 h,fun K' hK=>u9 h1 (a4O a9t hK)⟩
 |neq=>obtain ⟨h1,h⟩:=m7 h;exact ⟨_,X0 h,fun K' hK=>u9 h1 (a4O (by rw [a2T,a4Z]) hK)⟩
 |lss=>obtain ⟨h1,h⟩:=m7 h;exact ⟨_,X0 h,fun K' hK=>u9 h1 (a4O (by rw [a2T,a0C]) hK)⟩
 |leq=>obtain ⟨h1,h⟩:=m7 h;exact ⟨_,X0 h,fun K' hK=>u9 h1 (a4O T2 hK)⟩
 |gtr=>obtain ⟨h1,h⟩:=m7 h;exact ⟨_,X0 h,fun K' hK=>u9 h1 (a4O (by rw [a2T,a0C]) hK)⟩
 |geq=>obtain ⟨h1,h⟩:=m7 h;exact ⟨_,X0 h,fun K' hK=>u9 h1 (a4O T2 hK)⟩
 |and=>obtain ⟨h1,h⟩:=m7 h;exact ⟨_,Q7 h,fun K' hK=>u9 h1 ⟨_,rfl,hK⟩⟩
 |or=>obtain ⟨h1,h⟩:=m7 h;exact ⟨_,Q7 h,fun K' hK=>u9 h1 ⟨_,rfl,hK⟩⟩
 |xor=>obtain ⟨h1,h⟩:=m7 h;exact ⟨_,Q7 h,fun K' hK=>u9 h1 ⟨_,rfl,hK⟩⟩
 |andNot=>obtain ⟨h1,h⟩:=m7 h;exact ⟨_,Q7 h,fun K' hK=>u9 h1 ⟨_,rfl,hK⟩⟩
theorem b47 {x:C} {k:Bool->Bool} (h:b66 noE x k=true):∃b,k b=true∧∀k':Bool->Prop,k' b->ai3 x k':=by
 cases x with
 |t y=>cases y with
  |sl size kd rows=>cases kd with
   |nil=>exact ⟨_,h,fun _ h=>h⟩
   |nul=>exact ⟨_,h,fun _ h=>h⟩
   |non=>exact ⟨_,h,fun _ h=>h⟩
   |any=>obtain ⟨h1,h⟩:=m7 h;exact ⟨_,h,fun k' hk=>⟨W5 h1,hk⟩⟩
   |full=>obtain ⟨h1,h⟩:=m7 h;exact ⟨_,h,fun k' hk=>⟨W5 h1,hk⟩⟩
  |_=>exact f6 h
 |own id lo len app=>obtain ⟨h1,h⟩:=m7 h;exact ⟨_,h,fun k' hk=>⟨W5 h1,hk⟩⟩
 |_=>exact f6 h
theorem a7c:∀{cs:List C} {k:List Int->Bool},ap5 noE cs k=true->∃l,k l=true∧∀k':List Int->Prop,k' l->a7f cs k'
 |[],k,h=>⟨_,h,fun _ h=>h⟩
 |c::cs,k,h=>by
  unfold ap5 at h
  split at h
  ·rename_i heq;cases heq
  ·rename_i a cs' heq
   injection heq with a1 a2
   subst a1 a2
   obtain ⟨l,h,h1⟩:=a7c h
   exact ⟨_,h,fun k' hk=>h1 _ hk⟩
  ·exact f6 h
theorem aH4:∀{a b:List Int},eqL a b=(a == b)
 |[],[]=>rfl
 |[],_::_=>rfl
 |_::_,[]=>rfl
 |x::a,y::b=>by
  simp only [eqL,List.cons_beq_cons,aH4]
  congr 1
  cases h:eqI x y with
  |true=>have:=a9t.1 h;subst this;simp
  |false=>have:=a4Z.1 h;simp [this]
theorem a27 {op:BinOp} {b:Bool} {K:S->Bool} (h:af5 noE op b K=true):(op=.eql∧K (d9 b)=true)∨(op=.neq∧K (d9 (!b))=true):=by
 cases op<;>first|exact .inl ⟨rfl,X0 h⟩|exact .inr ⟨rfl,X0 h⟩|exact f6 h
theorem b8y (hX:XOK P X) {op:BinOp} {t:TypeId} {x y:S} {K:S->Bool} (h:bc2 X noE op t x y K=true):∃s,K s=true∧∀K':S->Prop,K' s->b31 P X.tab op t x y K':=by
 unfold bc2 at h
 split at h
 ·exact b39 h
 ·split at h
  ·rename_i ht
   rename_i a b _ _ _ _ _
   have e:(cond a b (!b))=(a == b):=by cases a<;>cases b<;>rfl
   rw [e] at h
   rcases a27 h with ⟨rfl,h'⟩|⟨rfl,h'⟩<;>exact ⟨_,h',fun K' hK=>by simp only [b31,ht];exact aV6 hK⟩
  ·exact f6 h
 ·rename_i x sz hx
  split at h
  ·rename_i e _ _ _ _ ht
   obtain ⟨b,h,h1⟩:=b47 h
   rcases a27 h with ⟨rfl,h'⟩|⟨rfl,h'⟩<;>exact ⟨_,h',fun K' hK=>by simp only [b31,ht];exact h1 _ hK⟩
  ·exact f6 h
 ·obtain ⟨h1,h⟩:=m7 h
  have hu:=hX.nilp _ h1
  rcases a27 h with ⟨rfl,h'⟩|⟨rfl,h'⟩<;>exact ⟨_,h',fun K' hK=>⟨hu,hK⟩⟩
 ·obtain ⟨h1,h⟩:=m7 h
  have hu:=hX.nilp _ h1
  rcases a27 h with ⟨rfl,h'⟩|⟨rfl,h'⟩<;>exact ⟨_,h',fun K' hK=>⟨hu,hK⟩⟩
 ·obtain ⟨h1,h⟩:=m7 h
  have hu:=hX.nilp _ h1
  rcases a27 h with ⟨rfl,h'⟩|⟨rfl,h'⟩<;>exact ⟨_,h',fun K' hK=>⟨hu,hK⟩⟩
 ·obtain ⟨ul,h,h1⟩:=a7c h
  obtain ⟨bs,h,h2⟩:=a7c h
  obtain ⟨h3,h⟩:=m7 h
  simp only [lbO] at h3
  rw [aH4] at h
  have hE:=hX.eqs _ _ h3.1
  have hl:=n7 h3.2
  rcases a27 h with ⟨rfl,h'⟩|⟨rfl,h'⟩<;>exact ⟨_,h',fun K' hK=>h1 _ (h2 _ ⟨⟨hE,hl⟩,aV6 hK⟩)⟩
 ·exact f6 h
theorem b9E {op:UnOp} {x:S} {K:S->Bool} (h:xun noE op x K=true):∃s,K s=true∧∀K':S->Prop,K' s->aun op x K':=by
 unfold xun at h
 split at h
 ·exact ⟨_,Q7 h,fun K' hK=>⟨_,rfl,hK⟩⟩
 ·exact ⟨_,X0 h,fun K' hK=>hK⟩
 ·exact f6 h
theorem b58 {src dst:TypeId} {x:S} {K:S->Bool} (h:b4D X noE src dst x K=true):∃s,K s=true∧∀K':S->Prop,K' s->aP5 X.tab src dst x K':=by
 unfold b4D at h
 split at h
 ·rename_i hs hd
  exact ⟨_,Q7 h,fun K' hK=>by simp only [aP5,hs,hd];exact ⟨_,rfl,hK⟩⟩
 ·exact f6 h
theorem b72 {ev:Operand->S} {n:Nat} {t:TypeId} {l c:Operand} {K:S->List Blk->Bool} (h:b71 X noE ev n t l c K=true):∃s B,K s B=true∧∀K':S->List Blk->Prop,K' s B->ao8 X.tab ev n t l c K':=by
 unfold b71 at h
 split at h
 ·rename_i a _ b e _ _ _ _ hl hc ht
  split at h
  ·rename_i d hd
   obtain ⟨h1,h⟩:=a4B h
   obtain ⟨h2,h⟩:=m7 h
   simp only [lbO,T2] at h2
   simp only [J7,W9,b2a] at h
   refine ⟨_,_,h,fun K' hK=>?_⟩
   simp only [ao8,hl,hc,ht,hd]
   exact a0d h1 ⟨⟨h2.1.1,h2.1.2,h2.2⟩,D2.2 hK⟩
  ·exact f6 h
 ·exact f6 h
theorem aU6 {fs:List (Nat × Nat × Bool)} {i:Nat} {cs:List C} {k:Nat->Bool} (h:ak6 noE fs i cs k=true):∃n,k n=true∧∀k':Nat->Prop,k' n->a55 fs i cs k':=by
 unfold ak6 at h
 obtain ⟨⟨off,size,bb⟩,hf,h⟩:=getX_iff.1 h
 obtain ⟨h1,h⟩:=m7 h
 exact ⟨_,h,fun k' hk=>by simp only [a55,hf];exact u9 h1 hk⟩
theorem au5 {fs:List (Nat × Nat × Bool)}:∀{ps:List (Nat × S)} {cells:List C} {k:List C->Bool},ay3 noE fs cells ps k=true->∃r,k r=true∧∀k':List C->Prop,k' r->au1 fs cells ps k'
 |[],cells,k,h=>⟨_,h,fun _ h=>h⟩
 |(i,s)::rest,cells,k,h=>by
  unfold ay3 at h
  obtain ⟨cs,h,h1⟩:=a2g h
  obtain ⟨off,h,h2⟩:=aU6 h
  obtain ⟨r,h,h3⟩:=ag3 h
  obtain ⟨q,h,h4⟩:=au5 h
  exact ⟨q,h,fun k' hk=>h1 _ (h2 _ (h3 _ (h4 _ hk)))⟩
theorem ax8 {size:Nat}:∀{ps:List (Nat × S)} {cells:List C} {k:List C->Bool},aC1 noE size cells ps k=true->∃r,k r=true∧∀k':List C->Prop,k' r->au3 size cells ps k'
 |[],cells,k,h=>⟨_,h,fun _ h=>h⟩
 |(i,s)::rest,cells,k,h=>by
  unfold aC1 at h
  obtain ⟨cs,h,h1⟩:=a2g h
  obtain ⟨h2,h⟩:=m7 h
  obtain ⟨r,h,h3⟩:=ag3 h
  obtain ⟨q,h,h4⟩:=ax8 h
  exact ⟨q,h,fun k' hk=>h1 _ (u9 h2 (h3 _ (h4 _ hk)))⟩
theorem b3q {ev:Operand->S} {t:TypeId} {parts:List (Nat × Operand)} {K:S->Bool} (h:aZ1 X noE ev t parts K=true):∃s,K s=true∧∀K':S->Prop,K' s->a5H X.tab ev t parts K':=by
 unfold aZ1 at h
 split at h
 ·rename_i fs _ _ _ z ht
  simp only [J7] at h
  obtain ⟨r,h,h1⟩:=au5 h
  exact ⟨_,h,fun K' hK=>by simp only [a5H,ht];exact D2.2 (h1 _ hK)⟩
 ·rename_i n e _ _ _ z ht
  obtain ⟨s,h,h2⟩:=a0N h
  simp only [J7] at h
  obtain ⟨r,h,h1⟩:=ax8 h
  exact ⟨_,h,fun K' hK=>by simp only [a5H,ht];exact h2 _ (D2.2 (h1 _ hK))⟩
 ·exact f6 h
theorem av0 {size:Nat}:∀{ps:List (Nat × S)} {rows:List (List C)} {k:List (List C)->Bool},aG8 noE size rows ps k=true->∃r,k r=true∧∀k':List (List C)->Prop,k' r->aq7 size rows ps k'
 |[],rows,k,h=>⟨_,h,fun _ h=>h⟩
 |(i,s)::rest,rows,k,h=>by
  unfold aG8 at h
  obtain ⟨cs,h,h1⟩:=a2g h
  obtain ⟨h2,h⟩:=m7 h
  rw [b2A] at h
  obtain ⟨q,h,h4⟩:=av0 h
  exact ⟨q,h,fun k' hk=>h1 _ (u9 h2 (x3.2 (h4 _ hk)))⟩
theorem al1:∀{cs:List C} {k:List T->Bool} {d:Bool},b2B cs k d=true->(∃ l,a6U cs=some l∧k l=true)∨(a6U cs=none∧d=true)
 |[],k,d,h=>.inl ⟨[],rfl,h⟩
 |.t x::r,k,d,h=>by
  rcases al1 (cs:=r) h with ⟨l,h1,h2⟩|⟨h1,h2⟩
  ·exact .inl ⟨x::l,by simp only [a6U,h1],h2⟩
  ·exact .inr ⟨by simp only [a6U,h1],h2⟩
 |.ptr _ _ _::r,k,d,h=>.inr ⟨rfl,h⟩
 |.own _ _ _ _::r,k,d,h=>.inr ⟨rfl,h⟩
 |.fn _ _::r,k,d,h=>.inr ⟨rfl,h⟩
 |.mp _::r,k,d,h=>.inr ⟨rfl,h⟩
theorem a4J:∀{rows:List (List C)} {k:List (List T)->Bool} {d:Bool},ab6 rows k d=true->(∃ l,a2o rows=some l∧k l=true)∨(a2o rows=none∧d=true)
 |[],k,d,h=>.inl ⟨[],rfl,h⟩
 |x::r,k,d,h=>by
  rcases al1 (cs:=x) h with ⟨l,h1,h⟩|⟨h1,h2⟩
  ·rcases a4J (rows:=r) h with ⟨ls,h3,h⟩|⟨h3,h⟩
   ·exact .inl ⟨l::ls,by simp only [a2o,h1,h3],h⟩
   ·exact .inr ⟨by simp only [a2o,h1,h3],h⟩
  ·exact .inr ⟨by simp only [a2o,h1],h2⟩
theorem ah1 {lit:Bool} {ev:Operand->S} {n:Nat} {t:TypeId} {len:Nat} {parts:List (Nat × Operand)} {K:S->List Blk->Bool} (h:a4p X noE lit ev n t len parts K=true):
 ∃s B,K s B=true∧∀K':S->List Blk->Prop,K' s B->K4 X.tab ev n t len parts K':=by
 unfold a4p at h
 split at h
 ·rename_i e _ _ _ _ ht
  split at h
  ·rename_i d hd
   obtain ⟨h1,h⟩:=a4B h
   simp only [J7,b2a] at h
   obtain ⟨rows,h,h2⟩:=av0 h
   have own:K (.c (.own n 0 len true)) [⟨.live,e,d.size,rows,false,false,false⟩]=true->∃s B,K s B=true∧∀K':S->List Blk->Prop,K' s B->K4 X.tab ev n t len parts K':=fun h=>by
    refine ⟨_,_,h,fun K' hK=>?_⟩
    simp only [K4,ht,hd]
    refine a0d h1 (D2.2 (h2 _ ?_))
    split
    ·exact .own hK
    ·exact hK
   cases hc:(lit || Nat.beq rows.length 0) with
   |true=>
    rw [hc,cond_true] at h
    rcases a4J h with ⟨rs,h3,h⟩|⟨h3,h⟩
    ·refine ⟨_,_,h,fun K' hK=>?_⟩
     simp only [K4,ht,hd]
     exact a0d h1 (D2.2 (h2 _ (by rw [h3];exact .data hK)))
    ·exact own h
   |false=>rw [hc,cond_false] at h;exact own h
  ·exact f6 h
 ·exact f6 h
theorem b8o {ev:Operand->S} {n:Nat} {t:TypeId} {x:Operand} {K:S->List Blk->Bool} (h:b9Y noE ev n t x K=true):∃s B,K s B=true∧∀K':S->List Blk->Prop,K' s B->b5I ev n t x K':=by
 unfold b9Y at h
 obtain ⟨cs,h,h1⟩:=a2g h
 rw [a2H] at h
 obtain ⟨h2,h⟩:=a4B h
 refine ⟨_,_,h,fun K' hK=>h1 _ ?_⟩
 cases cs with
 |nil=>cases h2
 |cons c r=>
  simp only
  split
  ·exact .own hK
  ·exact hK
theorem b3V {n:Nat} {t:TypeId} {K:S->List Blk->Bool} (h:b0J X noE n t K=true):∃s B,K s B=true∧∀K':S->List Blk->Prop,K' s B->a5A X.tab n t K':=by
 unfold b0J at h
 split at h
 ·rename_i d hd
  simp only [J7,a2H] at h
  obtain ⟨h2,h⟩:=a4B h
  exact ⟨_,_,h,fun K' hK=>by simp only [a5A,hd];exact D2.2 (a0d h2 hK)⟩
 ·exact f6 h
theorem b82 {t:TypeId} {x:S} {K:S->Bool} (h:b9Q X noE t x K=true):∃s,K s=true∧∀K':S->Prop,K' s->aX0 X.tab t x K':=by
 unfold b9Q at h
 split at h
 ·rename_i e _ _ _ _ ht
  split at h
  ·rw [a2H] at h
   exact ⟨_,h,fun K' hK=>by simp only [aX0,ht];exact hK⟩
  ·exact ⟨_,h,fun K' hK=>by simp only [aX0,ht];exact hK⟩
  ·exact f6 h
 ·rename_i ht
  exact ⟨_,h,fun K' hK=>by simp only [aX0,ht];exact hK⟩
 ·exact f6 h
theorem b20 {size:Nat} {H:HT} {x:S} {k:List (List C)->Bool} (h:b7G noE size H x k=true):∃r,k r=true∧∀k':List (List C)->Prop,k' r->b6D size H.toL x k':=by
 unfold b7G at h
 split at h
 ·rename_i s kd rows
  obtain ⟨h1,h⟩:=m7 h
  rw [J7] at h
  refine ⟨_,h,fun k' hk=>⟨?_,hk⟩⟩
  simp only [lbP] at h1
  rcases h1 with h1|h1
  ·exact .inl (n7 h1)
  ·exact .inr (n7 h1)
 ·rename_i id lo len app
  obtain ⟨b,hb,h⟩:=HT.getX_iff.1 h
  obtain ⟨h,h1⟩:=a6n h
  obtain ⟨h2,h⟩:=m7 h
  simp only [lbO,a8O] at h2
  simp only [P8,S4] at h
  exact ⟨_,h,fun k' hk=>T3 hb (h1 _ (u9 h2.1 ⟨h2.2,hk⟩))⟩
 ·exact f6 h
end
end
section
open Go.RowKit
section
variable {P:Program} {X:XC}
def ToG (Kq:S->List Blk->Bool) (Kg:S->HT->Bool) (p:(S->List Blk->Prop)->(S->Hp->Prop)->Prop):Prop:=
 (∃ s B,Kq s B=true∧∀Kq' Kg',Kq' s B->p Kq' Kg')∨(∃ s H',Kg s H'=true∧∀Kq' Kg',Kg' s H'.toL->p Kq' Kg')
theorem b0y {ev:Operand->S} {H:HT} {n:Nat} {t:TypeId} {s x:Operand} {Kq:S->List Blk->Bool} {Kg:S->HT->Bool} (h:aB7 X noE ev H n t s x Kq Kg=true):
 ToG Kq Kg fun Kq Kg=>a1x X.tab ev H.toL n t s x Kq Kg:=by
 unfold aB7 at h
 split at h
 ·rename_i e _ _ _ _ ht
  split at h
  ·rename_i d hd
   obtain ⟨h1,h⟩:=a4B h
   obtain ⟨xr,h,h2⟩:=b20 h
   rw [a2H] at h
   split at h
   ·rename_i rws hs
    obtain ⟨h3,h⟩:=m7 h
    refine .inl ⟨_,_,h,fun Kq' Kg' hK=>?_⟩
    simp only [a1x,ht,hd]
    refine a0d h1 (h2 _ ?_)
    simp only [hs]
    exact ⟨W5 h3,hK⟩
   ·rename_i sz rows hs
    rw [a2H] at h
    obtain ⟨h3,h⟩:=m7 h
    simp only [W9,J7,a39] at h
    simp only [lbO,lbP,a8O,K5] at h3
    refine .inl ⟨_,_,h,fun Kq' Kg' hK=>?_⟩
    simp only [a1x,ht,hd]
    refine a0d h1 (h2 _ ?_)
    simp only [hs]
    refine ⟨⟨?_,h3.2⟩,hK⟩
    rcases h3.1 with h3|h3
    ·exact .inl (n7 h3)
    ·exact .inr ⟨h3.1,n7 h3.2⟩
   ·rename_i id lo len hs
    obtain ⟨b,hb,h⟩:=HT.getX_iff.1 h
    obtain ⟨h,h4⟩:=ad5 h
    obtain ⟨h3,h⟩:=m7 h
    simp only [W9,S4,a39] at h
    simp only [lbO,a8O] at h3
    obtain ⟨H1,h,e1⟩:=HT.setX_to h
    obtain ⟨H2,h,e2⟩:=HT.pushX_to h
    rw [e1] at e2
    refine .inr ⟨_,_,h,fun Kq' Kg' hK=>?_⟩
    rw [e2] at hK
    simp only [a1x,ht,hd]
    refine a0d h1 (h2 _ ?_)
    simp only [hs]
    refine T3 hb (u9 (by simp only [lbO];exact h3.1.1) ?_)
    unfold a78
    rw [h4.1,h4.2.1,h4.2.2]
    exact ⟨⟨h3.1.2,h3.2⟩,x3.2 (S0.2 hK)⟩
   ·exact f6 h
  ·exact f6 h
 ·exact f6 h
theorem b6y {ev:Operand->S} {H:HT} {t:TypeId} {x s:Operand} {Kg:S->HT->Bool} (h:b5v X noE ev H t x s Kg=true):
 ∃r H',Kg r H'=true∧∀Kg':S->Hp->Prop,Kg' r H'.toL->ar3 X.tab ev H.toL t x s Kg':=by
 unfold b5v at h
 split at h
 ·rename_i e _ _ _ _ ht
  split at h
  ·rename_i d hd
   obtain ⟨h1,h⟩:=a4B h
   obtain ⟨xr,h,h2⟩:=b20 h
   split at h
   ·rename_i id lo len app hx
    obtain ⟨b,hb,h⟩:=HT.getX_iff.1 h
    obtain ⟨h,h4⟩:=ad5 h
    obtain ⟨h3,h⟩:=m7 h
    simp only [S4,a2H,P8,a39] at h
    simp only [lbO,a8O] at h3
    obtain ⟨H',h,e1⟩:=HT.setX_to h
    refine ⟨_,_,h,fun Kg' hK=>?_⟩
    rw [e1] at hK
    simp only [ar3,ht,hd]
    refine a0d h1 (h2 _ ?_)
    simp only [hx]
    exact T3 hb (a4A h4 (u9 (by simp only [lbO];exact h3.1) ⟨h3.2,x3.2 hK⟩))
   ·exact f6 h
  ·exact f6 h
 ·exact f6 h
theorem b1L {max:Bool} {l:List S} {K:S->Bool} (h:b81 noE max l K=true):∃s,K s=true∧∀K':S->Prop,K' s->b3k max l K':=by
 unfold b81 at h
 split at h
 ·rename_i k a k' b
  unfold b3k
  cases max with
  |true=>
   rw [cond_true] at h
   cases hb:leX b a with
   |true=>rw [hb] at h;exact ⟨_,h,fun K' hK=>by simp only [cond_true];rw [if_neg (by have:=T2.1 hb;omega)];exact hK⟩
   |false=>rw [hb] at h;exact ⟨_,h,fun K' hK=>by simp only [cond_true];rw [if_pos (by have:=a0C.1 hb;omega)];exact hK⟩
  |false=>
   rw [cond_false] at h
   cases hb:leX a b with
   |true=>rw [hb] at h;exact ⟨_,h,fun K' hK=>by simp only [cond_false];rw [if_neg (by have:=T2.1 hb;omega)];exact hK⟩
   |false=>rw [hb] at h;exact ⟨_,h,fun K' hK=>by simp only [cond_false];rw [if_pos (by have:=a0C.1 hb;omega)];exact hK⟩
 ·exact f6 h
theorem b2g {s:S} {k:List Int->Bool} (h:b8H noE s k=true):∃l,k l=true∧∀k':List Int->Prop,k' l->b6m s k':=by
 unfold b8H at h
 split at h
 ·exact ⟨_,h,fun _ h=>h⟩
 ·obtain ⟨l,h,h1⟩:=a7c h
  obtain ⟨h2,h⟩:=m7 h
  exact ⟨_,h,fun k' hk=>h1 _ (u9 h2 hk)⟩
 ·exact f6 h
theorem aO4 {id:Nat} {H:HT} {k:Blk->Bool} (h:b2f noE id H k=true):∃b,k b=true∧∀k':Blk->Prop,k' b->b8W id H.toL k':=by
 unfold b2f at h
 obtain ⟨b,hb,h⟩:=HT.getX_iff.1 h
 split at h
 ·rename_i h1 h2 h3
  exact ⟨b,h,fun k' hk=>T3 hb (by simp only [h1,h2,h3];exact hk)⟩
 ·exact f6 h
theorem a86:∀{r:List C} {k:List Int->C->Bool},aj6 noE r k=true->∃l c,k l c=true∧ac8 r=some (l,c)
 |[],k,h=>f6 h
 |[c],k,h=>⟨[],c,h,rfl⟩
 |c::d::r,k,h=>by
  unfold aj6 at h
  split at h
  ·rename_i a
   obtain ⟨l,c,h,h1⟩:=a86 h
   exact ⟨_,_,h,by simp only [ac8,h1]⟩
  ·exact f6 h
theorem b2t:∀{rs:List (List C)} {k:Bool},ad7.xall noE rs k=true->k=true∧∃l,a3u rs=some l
 |[],k,h=>⟨h,[],rfl⟩
 |r::rs,k,h=>by
  unfold ad7.xall at h
  obtain ⟨l,c,h,h1⟩:=a86 h
  obtain ⟨h,l',h2⟩:=b2t h
  exact ⟨h,(l,c)::l',by simp only [a3u,h1,h2]⟩
theorem a9Z {ks:List Int}:∀{rs:List (List C)} {k:C->Bool} {d:Bool},ad7 noE ks rs k d=true->∃l,a3u rs=some l∧((∃ c,a1w ks l=some c∧k c=true)∨(a1w ks l=none∧d=true))
 |[],k,d,h=>⟨[],rfl,.inr ⟨rfl,h⟩⟩
 |r::rs,k,d,h=>by
  unfold ad7 at h
  obtain ⟨l,c,h,h1⟩:=a86 h
  rw [aH4] at h
  cases hb:ks == l with
  |true=>
   rw [hb] at h
   obtain ⟨h,l',h2⟩:=b2t h
   exact ⟨(l,c)::l',by simp only [a3u,h1,h2],.inl ⟨c,by simp only [a1w,hb],h⟩⟩
  |false=>
   rw [hb] at h
   obtain ⟨l',h2,h⟩:=a9Z (rs:=rs) h
   refine ⟨(l,c)::l',by simp only [a3u,h1,h2],?_⟩
   rcases h with ⟨c',h3,h⟩|⟨h3,h⟩
   ·exact .inl ⟨c',by simp only [a1w,hb,h3],h⟩
   ·exact .inr ⟨by simp only [a1w,hb,h3],h⟩
theorem aY5 (hX:XOK P X) {H:HT} {t:TypeId} {ok:Bool} {x key:S} {K:S->Bool} (h:aH7 X noE H t ok x key K=true):∃s,K s=true∧∀K':S->Prop,K' s->a1B P H.toL t ok x key K':=by
 unfold aH7 at h
 split at h
 ·rename_i id
  obtain ⟨ks,q1,h1⟩:=b2g h
  obtain ⟨b,q2,h2⟩:=aO4 q1
  split at q2
  ·rename_i kt e z m hm
   obtain ⟨h3,q3⟩:=m7 q2
   simp only [lbO] at h3
   have h5:=n7 h3.1
   have h4:=n7 h3.2
   have hM:=hX.maps _ _ _ _ _ hm
   rw [h5] at hM h4
   obtain ⟨l,h5,q4⟩:=a9Z q3
   rcases q4 with ⟨c,h6,q5⟩|⟨h6,q5⟩
   ·cases ok with
    |true=>exact ⟨_,q5,fun K' hK=>by unfold a1B;exact h1 _ (h2 _ ⟨kt,e,z,hM,h4,by simp only [h5,h6];exact hK⟩)⟩
    |false=>exact ⟨_,q5,fun K' hK=>by unfold a1B;exact h1 _ (h2 _ ⟨kt,e,z,hM,h4,by simp only [h5,h6];exact hK⟩)⟩
   ·cases ok with
    |true=>exact ⟨_,q5,fun K' hK=>by unfold a1B;exact h1 _ (h2 _ ⟨kt,e,z,hM,h4,by simp only [h5,h6];exact hK⟩)⟩
    |false=>exact ⟨_,q5,fun K' hK=>by unfold a1B;exact h1 _ (h2 _ ⟨kt,e,z,hM,h4,by simp only [h5,h6];exact hK⟩)⟩
  ·exact f6 q2
 ·exact f6 h
theorem b1n (hX:XOK P X) {H:HT} {t:TypeId} {x key v:S} {Kg:S->HT->Bool} (h:aI9 X noE H t x key v Kg=true):∃r H',Kg r H'=true∧∀Kg':S->Hp->Prop,Kg' r H'.toL->a6O P H.toL t x key v Kg':=by
 unfold aI9 at h
 split at h
 ·rename_i id c
  obtain ⟨ks,q1,h1⟩:=b2g h
  obtain ⟨b,q2,h2⟩:=aO4 q1
  split at q2
  ·rename_i kt e z m hm
   obtain ⟨h3,q3⟩:=m7 q2
   simp only [lbO,K5] at h3
   have h5:=n7 h3.1.1
   have h4:=n7 h3.1.2
   have h7:=h3.2
   have hM:=hX.maps _ _ _ _ _ hm
   rw [h5] at hM h4
   obtain ⟨l,h5,q4⟩:=a9Z q3
   rcases q4 with ⟨c,h6,q5⟩|⟨h6,q5⟩
   ·exact f6 q5
   ·simp only [J7,a39] at q5
    obtain ⟨H',q5,e1⟩:=HT.setX_to q5
    exact ⟨_,_,q5,fun K' hK=>by rw [e1] at hK;unfold a6O;exact h1 _ (h2 _ ⟨kt,e,z,hM,h4,by simp only [h5,h6];exact ⟨h7,x3.2 hK⟩⟩)⟩
  ·exact f6 q2
 ·exact f6 h
theorem aU4:∀{l:List S} {k:List C->Bool},b5A noE l k=true->∃cs,b09 l=some cs∧k cs=true
 |[],k,h=>⟨[],rfl,h⟩
 |.c x::r,k,h=>by
  obtain ⟨cs,h1,h2⟩:=aU4 (l:=r) h
  exact ⟨x::cs,by simp only [b09,h1],h2⟩
 |.junk::_,k,h=>f6 h
 |.agg _::_,k,h=>f6 h
 |.tup _::_,k,h=>f6 h
 |.ifc _ _::_,k,h=>f6 h
def a7I (P:Program) (call:FuncId->List S->HT->(S->List Blk->Bool)->(S->HT->Bool)->Bool):Prop:=∀g args H Kq Kg,call g args H Kq Kg=true->ToG Kq Kg fun Kq Kg=>a79 P g args H.toL Kq Kg
theorem a8M {a:(S->Bool)->Bool} {p:(S->Prop)->Prop} {Kq:S->List Blk->Bool} {Kg:S->HT->Bool} (h:∃s,Kq s []=true∧∀K':S->Prop,K' s->p K'):ToG Kq Kg fun Kq _=>p fun s=>Kq s []:=by
 obtain ⟨s,h,h1⟩:=h
 exact .inl ⟨s,[],h,fun Kq' Kg' hK=>h1 (fun s=>Kq' s []) hK⟩
theorem b41 {g:FuncId} {args:List S} {H H':HT} {r:S} {Kq:S->List Blk->Bool} {Kg:S->HT->Bool} (h:a8 P g args H.toL r H'.toL) (hk:Kg r H'=true):
 ToG Kq Kg fun Kq Kg=>a79 P g args H.toL Kq Kg:=.inr ⟨r,H',hk,fun Kq' Kg' hK=>.inr ⟨r,H'.toL,h,a6T hK⟩⟩
theorem b2Y {g:FuncId} {args:List S} {H:HT} {r:S} {Kq:S->List Blk->Bool} {Kg:S->HT->Bool} (h:N1 P g args H.toL r []) (hk:Kq r []=true):
 ToG Kq Kg fun Kq Kg=>a79 P g args H.toL Kq Kg:=.inl ⟨r,[],hk,fun Kq' Kg' hK=>.inl ⟨r,[],h,a6T (k:=fun r=>Kq' r []) hK⟩⟩
theorem b55 (hX:XOK P X) {call:FuncId->List S->HT->(S->List Blk->Bool)->(S->HT->Bool)->Bool} (hc:a7I P call) {lit:Bool} {ev:Operand->S} {H:HT} {op:Op} {Kq:S->List Blk->Bool} {Kg:S->HT->Bool}
 (h:xop X noE call lit ev H op Kq Kg=true):ToG Kq Kg fun Kq Kg=>aop P X.tab ev H.toL op Kq Kg:=by
 unfold xop at h
 split at h
 ·exact .inl ⟨_,_,h,fun Kq' Kg' hK=>by simp only [aop];exact y5.2 hK⟩
 ·exact .inl ⟨_,_,h,fun Kq' Kg' hK=>by simp only [aop];exact y5.2 hK⟩
 ·split at h
  ·rename_i t hc
   cases t with
   |true=>exact .inl ⟨_,_,h,fun Kq' Kg' hK=>by simp only [aop,hc,cond_true];exact y5.2 hK⟩
   |false=>exact .inl ⟨_,_,h,fun Kq' Kg' hK=>by simp only [aop,hc,cond_false];exact y5.2 hK⟩
  ·exact f6 h
 ·obtain ⟨s,h,h1⟩:=a9X h
  exact .inl ⟨s,[],h,fun Kq' Kg' hK=>h1 _ (a6T hK)⟩
 ·obtain ⟨H',h,h1⟩:=b2X h
  exact .inr ⟨_,H',h,fun Kq' Kg' hK=>h1 _ hK⟩
 ·exact a8M (a:=fun _=>true) (an3 h)
 ·exact a8M (a:=fun _=>true) (ao1 h)
 ·exact a8M (a:=fun _=>true) (b3E h)
 ·exact a8M (a:=fun _=>true) (b8y hX h)
 ·exact a8M (a:=fun _=>true) (b9E h)
 ·exact a8M (a:=fun _=>true) (b58 h)
 ·rw [HT.lenX_to] at h
  obtain ⟨s,B,h,h1⟩:=b72 h
  exact .inl ⟨s,B,h,fun Kq' Kg' hK=>C0.2 (by rw [y3];exact h1 _ hK)⟩
 ·exact a8M (a:=fun _=>true) (b3q h)
 ·rw [HT.lenX_to] at h
  obtain ⟨s,B,h,h1⟩:=ah1 h
  exact .inl ⟨s,B,h,fun Kq' Kg' hK=>C0.2 (by rw [y3];exact h1 _ hK)⟩
 ·rw [HT.lenX_to] at h
  obtain ⟨s,B,h,h1⟩:=b8o h
  exact .inl ⟨s,B,h,fun Kq' Kg' hK=>C0.2 (by rw [y3];exact h1 _ hK)⟩
 ·rw [HT.lenX_to] at h
  obtain ⟨s,B,h,h1⟩:=b3V h
  exact .inl ⟨s,B,h,fun Kq' Kg' hK=>C0.2 (by rw [y3];exact h1 _ hK)⟩
 ·split at h
  ·rename_i ss hs
   obtain ⟨s,h1,h⟩:=getX_iff.1 h
   exact .inl ⟨s,[],h,fun Kq' Kg' hK=>by simp only [aop,hs];exact T3 h1 (a6T hK)⟩
  ·exact f6 h
 ·split at h
  ·rename_i hf
   rw [J7] at h
   obtain ⟨cs,h1,h⟩:=aU4 h
   rcases al1 h with ⟨ts,h2,h⟩|⟨h2,h⟩
   ·exact .inl ⟨_,_,h,fun Kq' Kg' hK=>by simp only [aop,hf,h1,h2];exact hK⟩
   ·exact .inl ⟨_,_,h,fun Kq' Kg' hK=>by simp only [aop,hf,h1,h2];exact hK⟩
  ·exact f6 h
 ·rename_i c
  split at h
  ·rename_i hcal
   split at h
   ·rename_i t ts x xs h1 h2
    obtain ⟨s,h,h3⟩:=b82 h
    exact .inl ⟨s,[],h,fun Kq' Kg' hK=>by simp only [aop,hcal,h1,h2];exact h3 (fun s=>Kq' s []) hK⟩
   ·exact f6 h
  ·rename_i hcal
   split at h
   ·rename_i t t' s x h1 h2
    obtain ⟨h3,h⟩:=m7 h
    rw [HT.lenX_to] at h
    rcases b0y h with ⟨s,B,h,h4⟩|⟨s,H',h,h4⟩
    ·exact .inl ⟨s,B,h,fun Kq' Kg' hK=>by simp only [aop,hcal,h1,h2,h3,cond_true];exact C0.2 (by rw [y3];exact h4 _ _ hK)⟩
    ·exact .inr ⟨s,H',h,fun Kq' Kg' hK=>by simp only [aop,hcal,h1,h2,h3,cond_true];exact C0.2 (by rw [y3];exact h4 _ _ hK)⟩
   ·exact f6 h
  ·rename_i hcal
   split at h
   ·rename_i t t' x s h1 h2
    obtain ⟨h3,h⟩:=m7 h
    obtain ⟨r,H',h,h4⟩:=b6y h
    exact .inr ⟨r,H',h,fun Kq' Kg' hK=>by simp only [aop,hcal,h1,h2,h3,cond_true];exact h4 _ hK⟩
   ·exact f6 h
  ·rename_i hcal
   rw [J7] at h
   obtain ⟨s,h,h1⟩:=b1L h
   exact .inl ⟨s,[],h,fun Kq' Kg' hK=>by simp only [aop,hcal];exact h1 (fun s=>Kq' s []) hK⟩
  ·rename_i hcal
   rw [J7] at h
   obtain ⟨s,h,h1⟩:=b1L h
   exact .inl ⟨s,[],h,fun Kq' Kg' hK=>by simp only [aop,hcal];exact h1 (fun s=>Kq' s []) hK⟩
  ·rename_i f hcal
   split at h
   ·rename_i g caps hf
    simp only [J7,a39] at h
    rcases hc _ _ _ _ _ h with ⟨s,B,h,h4⟩|⟨s,H',h,h4⟩
    ·exact .inl ⟨s,B,h,fun Kq' Kg' hK=>by simp only [aop,hcal,hf];exact h4 _ _ hK⟩
    ·exact .inr ⟨s,H',h,fun Kq' Kg' hK=>by simp only [aop,hcal,hf];exact h4 _ _ hK⟩
   ·rename_i g caps hf
    simp only [J7,a39] at h
    rcases hc _ _ _ _ _ h with ⟨s,B,h,h4⟩|⟨s,H',h,h4⟩
    ·exact .inl ⟨s,B,h,fun Kq' Kg' hK=>by simp only [aop,hcal,hf];exact h4 _ _ hK⟩
    ·exact .inr ⟨s,H',h,fun Kq' Kg' hK=>by simp only [aop,hcal,hf];exact h4 _ _ hK⟩
   ·exact f6 h
  ·rename_i r name hcal
   split at h
   ·rename_i t s hr
    split at h
    ·rename_i f b e hm
     have hmb:=hX.meth _ _ _ _ _ hm
     rw [J7] at h
     cases b with
     |true=>
      rcases hc _ _ _ _ _ h with ⟨s,B,h,h4⟩|⟨s,H',h,h4⟩
      ·exact .inl ⟨s,B,h,fun Kq' Kg' hK=>by simp only [aop,hcal,hr,a32];exact ⟨f,true,e,hmb,h4 _ _ hK⟩⟩
      ·exact .inr ⟨s,H',h,fun Kq' Kg' hK=>by simp only [aop,hcal,hr,a32];exact ⟨f,true,e,hmb,h4 _ _ hK⟩⟩
     |false=>
      obtain ⟨r,h,h5⟩:=a9X h
      rcases hc _ _ _ _ _ h with ⟨s,B,h,h4⟩|⟨s,H',h,h4⟩
      ·exact .inl ⟨s,B,h,fun Kq' Kg' hK=>by simp only [aop,hcal,hr,a32];exact ⟨f,false,e,hmb,h5 _ (h4 _ _ hK)⟩⟩
      ·exact .inr ⟨s,H',h,fun Kq' Kg' hK=>by simp only [aop,hcal,hr,a32];exact ⟨f,false,e,hmb,h5 _ (h4 _ _ hK)⟩⟩
    ·exact f6 h
   ·exact f6 h
  ·exact f6 h
 ·split at h
  ·rename_i id r o hx
   exact .inl ⟨_,_,h,fun Kq' Kg' hK=>by simp only [aop,hx];exact hK⟩
  ·rename_i cs hx
   exact .inl ⟨_,_,h,fun Kq' Kg' hK=>by simp only [aop,hx];exact hK⟩
  ·exact f6 h
 ·obtain ⟨h1,h⟩:=m7 h
  exact .inl ⟨_,_,h,fun Kq' Kg' hK=>⟨hX.nifc _ h1,y5.2 hK⟩⟩
 ·split at h
  ·rename_i d s hx
   obtain ⟨h1,h⟩:=m7 h
   simp only [lbO] at h1
   split at h
   ·exact .inl ⟨_,_,h,fun Kq' Kg' hK=>by simp only [aop,hx,aK1];exact ⟨hX.nifc _ h1.1,u9 h1.2 (y5.2 hK)⟩⟩
   ·exact .inl ⟨_,_,h,fun Kq' Kg' hK=>by simp only [aop,hx,aK1];exact ⟨hX.nifc _ h1.1,u9 h1.2 (y5.2 hK)⟩⟩
  ·exact f6 h
 ·rw [HT.lenX_to] at h
  split at h
  ·rename_i kt e z m hm
   exact .inl ⟨_,_,h,fun Kq' Kg' hK=>C0.2 (by rw [y3];exact ⟨kt,e,z,m,hX.maps _ _ _ _ _ hm,hK⟩)⟩
  ·exact f6 h
 ·exact a8M (a:=fun _=>true) (aY5 hX h)
 ·obtain ⟨r,H',h,h1⟩:=b1n hX h
  exact .inr ⟨r,H',h,fun Kq' Kg' hK=>h1 _ hK⟩
 ·exact f6 h
end
end
section
open Go.RowKit
section
variable {β:Type}
def a5h (f:β->β->Bool):List β->List β->Bool
 |[],[]=>true
 |a::l,b::r=>cond (f a b) (a5h f l r) false
 |_,_=>false
theorem a1e {f:β->β->Bool} (hf:∀a b,f a b=true->a=b):∀{l r:List β},a5h f l r=true->l=r
 |[],[],_=>rfl
 |a::l,b::r,h=>by
  obtain ⟨h1,h2⟩:=m7 h
  rw [hf _ _ h1,a1e hf h2]
 |[],_::_,h=>f6 h
 |_::_,[],h=>f6 h
end
def bi8:SK->SK->Bool
 |.any,.any=>true
 |.full,.full=>true
 |.nil,.nil=>true
 |.nul,.nul=>true
 |.non,.non=>true
 |_,_=>false
def eqV:Value->Value->Bool
 |.int k a,.int k' b=>decide (k=k') && eqI a b
 |.bool a,.bool b=>cond a b (!b)
 |.pointer none,.pointer none=>true
 |_,_=>false
def eqT:Nat->T->T->Bool
 |n+1,.atm a,.atm b=>eqV a b
 |n+1,.sl s k rows,.sl s' k' rows'=>Nat.beq s s' && bi8 k k' && a5h (a5h (eqT n)) rows rows'
 |n+1,.ptr cs,.ptr cs'=>a5h (eqT n) cs cs'
 |_,_,_=>false
def eqC:C->C->Bool
 |.t x,.t y=>eqT 9 x y
 |.ptr i r o,.ptr i' r' o'=>Nat.beq i i' && Nat.beq r r' && Nat.beq o o'
 |.own i l n a,.own i' l' n' a'=>Nat.beq i i' && Nat.beq l l' && Nat.beq n n' && cond a a' (!a')
 |.mp i,.mp i'=>Nat.beq i i'
 |_,_=>false
def eqS:S->S->Bool
 |.junk,.junk=>true
 |.c x,.c y=>eqC x y
 |.agg l,.agg r=>a5h eqC l r
 |.ifc t (.c x),.ifc t' (.c y)=>Nat.beq t t' && eqC x y
 |_,_=>false
theorem b8C {a b:SK} (h:bi8 a b=true):a=b:=by cases a<;>cases b<;>first|rfl|exact f6 h
theorem b9B {a b:Value} (h:eqV a b=true):a=b:=by
 unfold eqV at h
 split at h
 ·simp only [lbO,lbJ,a9t] at h;rw [h.1,h.2]
 ·rename_i a b;cases a<;>cases b<;>first|rfl|exact f6 h
 ·rfl
 ·exact f6 h
theorem aY7:∀{n:Nat} {a b:T},eqT n a b=true->a=b
 |0,a,b,h=>by unfold eqT at h;cases a<;>cases b<;>exact f6 h
 |n+1,a,b,h=>by
  unfold eqT at h
  split at h
  ·rw [b9B h]
  ·rename_i heq
   injection heq with heq
   subst heq
   simp only [lbO] at h
   rw [n7 h.1.1,b8C h.1.2,a1e (fun _ _ h=>a1e (fun _ _ h=>aY7 h) h) h.2]
  ·rename_i heq
   injection heq with heq
   subst heq
   rw [a1e (fun _ _ h=>aY7 h) h]
  ·exact f6 h
theorem aY2 {a b:C} (h:eqC a b=true):a=b:=by
 unfold eqC at h
 split at h
 ·rw [aY7 h]
 ·simp only [lbO] at h;rw [n7 h.1.1,n7 h.1.2,n7 h.2]
 ·rename_i i l n a i' l' n' a'
  simp only [lbO] at h
  rw [n7 h.1.1.1,n7 h.1.1.2,n7 h.1.2]
  cases a<;>cases a'<;>first|rfl|exact f6 h.2
 ·rw [n7 h]
 ·exact f6 h
theorem aD3 {a b:S} (h:eqS a b=true):a=b:=by
 unfold eqS at h
 split at h
 ·rfl
 ·rw [aY2 h]
 ·rw [a1e (fun _ _ h=>aY2 h) h]
 ·simp only [lbO] at h;rw [n7 h.1,aY2 h.2]
 ·exact f6 h
def b9f:Op->Bool
 |.store _ _ _=>true
 |.mapUpdate _ _ _ _=>true
 |.call c=>match c.callee with
  |.builtin .append=>true
  |.builtin .copy=>true
  |.builtin _=>false
  |_=>true
 |_=>false
def be4 (done:Nat) (o:Oper):Bool:=o.after.toList.all fun e=>cond (Region.binds .any e) (done.testBit e.on) true
def b4t (ops:List Oper) (done:Nat) (gen:Bool):List Nat->Option Nat
 |[]=>none
 |j::r=>match ops[j]? with
  |some o=>cond (be4 done o && cond gen true (!(b9f o.op))) (some j) (b4t ops done gen r)
  |none=>none
def b1a (ops:List Oper):Nat->List Nat->Nat->List Nat
 |0,_,_=>[]
 |n+1,rest,done=>match b4t ops done false rest with
  |some j=>j::b1a ops n (rest.filter fun i=>!(Nat.beq i j)) (done ||| (1 <<< j))
  |none=>match b4t ops done true rest with
   |some j=>j::b1a ops n (rest.filter fun i=>!(Nat.beq i j)) (done ||| (1 <<< j))
   |none=>[]
def ac0 (ops:List Oper):List Nat:=b1a ops ops.length (List.range ops.length) 0
def bj9 (ops:List Oper) (o:Oper):Bool:=match o.op,o.dst with
 |.buildSlice _ _ _,some d=>ops.any fun p=>match p.op with
  |.call c=>match c.callee,c.args.toList with
   |.builtin .append,[_,.tmp t]=>Nat.beq t d
   |_,_=>false
  |_=>false
 |_,_=>false
def bg8:Op->Bool
 |.alloc _=>true
 |.box _ _=>true
 |.makeSlice _ _ _=>true
 |.makeMap _ _=>true
 |.call _=>true
 |_=>false
def b8t (ops:List Oper) (i:Nat):Bool:=!(C8 ops i) || (R2 ops i).any fun j=>match ops[j]? with
 |some o=>bg8 o.op
 |none=>true
def a7X (ops:List Oper):Bool:=a5k ops && ops.zipIdx.all fun y=>cond (b9f y.1.op) (!(b8t ops y.2)) true
structure ET where
 n:Nat
 t:BT S
def ET.toE (e:ET):Env:=(List.range e.n).map fun i=>e.t.get J i
mutual
def b0i:C->Nat
 |.t _=>0
 |.ptr id _ _=>id+1
 |.own id _ _ _=>id+1
 |.fn _ caps=>aX2 caps
 |.mp id=>id+1
def aX2:List C->Nat
 |[]=>0
 |x::r=>cond (Nat.ble (b0i x) (aX2 r)) (aX2 r) (b0i x)
end
def b3p:List (List C)->Nat
 |[]=>0
 |x::r=>cond (Nat.ble (aX2 x) (b3p r)) (b3p r) (aX2 x)
def b0q:BT Blk->Nat
 |.tip _ b=>b3p b.rows
 |.bin _ l r=>cond (Nat.ble (b0q l) (b0q r)) (b0q r) (b0q l)
def a3H (b:Blk):Blk:=match b with
 |⟨.live,e,s,r,x,a,m⟩=>⟨.old,e,s,r,x,a,m⟩
 |b=>b
def b16:BT Blk->BT Blk
 |.tip i b=>.tip i (a3H b)
 |.bin m l r=>.bin m (b16 l) (b16 r)
section
variable {α:Type} (X:XC) (er:Nat->α) (call quiet:FuncId->List S->HT->(S->List Blk->α)->(S->HT->α)->α)
noncomputable def evX (env:ET):Operand->S
 |.tmp t=>match env with
  |⟨n,tr⟩=>cond (Nat.blt t n) (tr.getX J t fun s=>s) J
 |.const v=>aE1 v
 |.global _=>.junk
 |.func f=>.c (.t (.fn (.func f) []))
noncomputable def ET.setX (d:Tmp) (s:S) (env:ET) (k:ET->α):α:=match env with
 |⟨n,t⟩=>t.setX (er 200) d s fun t'=>k ⟨n,t'⟩
noncomputable def b6e (dst:Option Tmp) (s:S) (env:ET) (k:ET->α):α:=match dst with
 |none=>k env
 |some d=>ET.setX er d s env k
noncomputable def b1e (ops:List Oper) (o:Oper) (env:ET) (a b:α):α:=match o.guard with
 |none=>a
 |some (j,want)=>getX (er 201) j ops fun oj=>match oj.dst with
  |none=>er 202
  |some d=>match evX env (.tmp d) with
   |.c (.t (.atm (.bool t)))=>cond want (cond t a b) (cond t b a)
   |.tup _=>b
   |_=>er 203
noncomputable def aM0 (ops:List Oper) (env:ET) (H':HT) (k:α):List Nat->α
 |[]=>k
 |j::r=>getX (er 204) j ops fun o=>match o.dst with
  |some d=>xop X er (fun _ _ _ _ _=>er 205) (bj9 ops o) (evX env) H' o.op (fun s B=>match B with
   |[]=>cond (eqS s (evX env (.tmp d))) (aM0 ops env H' k r) (er 206)
   |_=>er 207) (fun _ _=>er 208)
  |none=>er 209
noncomputable def b50 (H:HT) (B:List Blk) (k:HT->α):α:=match B with
 |[]=>k H
 |[b]=>HT.pushX (er 219) b H k
 |_=>er 220
noncomputable def b4C (ops:List Oper) (drawn:Bool) (o:Oper) (ih:Nat->ET->HT->(ET->HT->α)->α) (i:Nat) (env:ET) (H:HT) (K:ET->HT->α):α:=
 b1e er ops o env
  (xop X er (cond (drawn && b8t ops i) quiet call) (bj9 ops o) (evX env) H o.op (fun s B=>b6e er o.dst s env fun env'=>b50 er H B fun H'=>ih (i+1) env' H' K)
    (fun s H'=>match drawn with
      |true=>cond (C8 ops i) (aM0 X er ops env H' (b6e er o.dst s env fun env'=>ih (i+1) env' H' K) (R2 ops i)) (er 210)
      |false=>b6e er o.dst s env fun env'=>ih (i+1) env' H' K))
  (b6e er o.dst av2 env fun env'=>ih (i+1) env' H K)
noncomputable def b3F (ops:List Oper) (drawn:Bool) (rest:List Oper):Nat->ET->HT->(ET->HT->α)->α:=
 List.rec (motive:=fun _=>Nat->ET->HT->(ET->HT->α)->α) (fun _ env H K=>K env H) (fun o _ ih=>b4C X er call quiet ops drawn o ih) rest
abbrev RX (α:Type):Type:=AX->ET->HT->α
noncomputable def bf2 (ops:List Oper) (draw:Bool) (env:ET) (H:HT) (K:ET->HT->α):α:=match draw with
 |false=>b3F X er call quiet ops false ops 0 env H K
 |true=>cond (a7X ops) (b3F X er call quiet ops true ops 0 env H K)
   (cond (a7X (J6 (ac0 ops) ops) && a7t (ac0 ops) ops.length) (b3F X er call quiet (J6 (ac0 ops) ops) true (J6 (ac0 ops) ops) 0 env H K)
     (cond (a5k ops) (b3F X er call quiet ops true ops 0 env H K) (er 211)))
noncomputable def b9n (n:Nat) (body:ET->HT->RX α->α):ET->HT->RX α->α:=
 Nat.rec (motive:=fun _=>ET->HT->RX α->α) (fun _ _ _=>er 212) (fun _ ih env H K=>body env H fun x env' H'=>match x with
  |.normal=>ih env' H' K
  |.exit j=>K (.exit j) env' H'
  |.ret=>K .ret env' H') n
noncomputable def aU8 (n:Nat) (c:Code):ET->HT->RX α->α:=
 Code.rec (motive:=fun _=>ET->HT->RX α->α) (fun env H K=>K .normal env H)
  (fun id ops draw env H K=>bf2 X (fun m=>er (m*1000+id)) call quiet ops.toList draw env H (K .normal))
  (fun _ _ a b env H K=>a env H fun x env' H'=>match x with
    |.normal=>b env' H' K
    |.exit j=>K (.exit j) env' H'
    |.ret=>K .ret env' H')
  (fun c _ _ t e env H K=>match evX env c with
    |.c (.t (.atm (.bool b)))=>cond b (t env H K) (e env H K)
    |_=>er 213)
  (fun id _ b env H K=>b env H fun x env' H'=>match x with
    |.exit j=>cond (Nat.beq j id) (K .normal env' H') (K (.exit j) env' H')
    |.normal=>K .normal env' H'
    |.ret=>K .ret env' H')
  (fun _ b=>b9n er n b)
  (fun _ _ _ _ _ _ _ _ _=>er 214) (fun id env H K=>K (.exit id) env H) (fun _ _ _ _ _=>er 215) (fun _ env H K=>K .normal env H) (fun _ _ _ _=>er 216) (fun env H K=>K .ret env H) (fun _ _ _ _=>er 217) c
noncomputable def b7Y (env:ET) (H:HT):List ResultVar->(List S->α)->α
 |[],k=>k []
 |.tmp t::r,k=>b7Y env H r fun l=>k (evX env (.tmp t)::l)
 |.cell x t::r,k=>aP9 X er (evX env) H t (.tmp x) fun s=>b7Y env H r fun l=>k (s::l)
noncomputable def a4K (fn:Func) (env:ET) (H:HT) (k:S->α):α:=b7Y X er env H fn.results.toList fun l=>match l with
 |[s]=>k s
 |l=>k (.tup l)
noncomputable def b2L (args:List S) (H:HT) (K:S->HT->α):α:=match args with
 |[.c (.t (.sl 0 .nil []))]=>K (.c (.t (.sl 1 .full []))) H
 |[.c (.own id lo len _)]=>HT.getX (er 218) id H fun b=>match b with
  |⟨.live,e,s,rows,bx,ap,false⟩=>cond (Nat.beq s 1 && Nat.ble (lo+len) rows.length) (a3o lo rows fun rs=>a3l len rs fun rs=>ab6 rs (fun rs=>cond (rs.all fun r=>Nat.beq r.length 1) (HT.setX (er 221) id ⟨.froz,e,s,rows,bx,ap,false⟩ H fun H'=>K (.c (.t (.sl 1 .full rs))) H') (er 222)) (er 223)) (er 224)
  |⟨.froz,e,s,rows,bx,ap,false⟩=>cond (Nat.beq s 1 && Nat.ble (lo+len) rows.length) (a3o lo rows fun rs=>a3l len rs fun rs=>ab6 rs (fun rs=>cond (rs.all fun r=>Nat.beq r.length 1) (K (.c (.t (.sl 1 .full rs))) H) (er 225)) (er 226)) (er 227)
  |_=>er 228
 |_=>er 229
noncomputable def vyL (vc:C->List Nat->(T->List Nat->α)->α):List C->List Nat->(List T->List Nat->α)->α
 |[],fr,K=>K [] fr
 |x::r,fr,K=>vc x fr fun y fr=>vyL vc r fr fun l fr=>K (y::l) fr
noncomputable def vyR (vc:C->List Nat->(T->List Nat->α)->α) (s:Nat):List (List C)->List Nat->(List (List T)->List Nat->α)->α
 |[],fr,K=>K [] fr
 |x::r,fr,K=>cond (Nat.beq x.length s) (vyL vc x fr fun y fr=>vyR vc s r fr fun l fr=>K (y::l) fr) (er 230)
noncomputable def vyB (b:Blk) (k:α):α:=match b.mode,b.mp with
 |.live,false=>k
 |.froz,false=>k
 |_,_=>er 231
noncomputable def vyC (n:Nat) (H:HT):Nat->C->List Nat->(T->List Nat->α)->α
 |0,_,_,_=>er 232
 |f+1,x,fr,K=>match x with
  |.t y=>K y fr
  |.own id lo len _=>cond (Nat.ble n id) (HT.getX (er 233) id H fun b=>vyB er b (cond (Nat.ble (lo+len) b.rows.length) (a3o lo b.rows fun rs=>a3l len rs fun rs=>vyR er (vyC n H f) b.size rs fr fun rs fr=>K (.sl b.size .any rs) (id::fr)) (er 234))) (er 235)
  |.ptr id r o=>cond (Nat.ble n id) (HT.getX (er 236) id H fun b=>vyB er b (getX (er 237) r b.rows fun row=>a3o o row fun row=>vyL (vyC n H f) row fr fun cs fr=>K (.ptr cs) (id::fr))) (er 238)
  |.fn g caps=>vyL (vyC n H f) caps fr fun cs fr=>K (.fn g cs) fr
  |.mp _=>er 239
noncomputable def vyS (n:Nat) (H:HT) (s:S) (fr:List Nat) (K:S->List Nat->α):α:=match s with
 |.junk=>K .junk fr
 |.c x=>vyC er n H 6 x fr fun y fr=>K (.c (.t y)) fr
 |.agg cs=>vyL (vyC er n H 6) cs fr fun ts fr=>a1k C.t ts fun cs=>K (.agg cs) fr
 |_=>er 240
noncomputable def b83 (n:Nat) (H:HT):List S->List Nat->(List S->List Nat->α)->α
 |[],fr,K=>K [] fr
 |x::r,fr,K=>vyS er n H x fr fun y fr=>b83 n H r fr fun l fr=>K (y::l) fr
noncomputable def b2j (n:Nat) (H:HT) (r:S) (K:S->α):α:=match r with
 |.tup ss=>b83 er n H ss [] fun ss _=>K (.tup ss)
 |r=>vyS er n H r [] fun r _=>K r
noncomputable def b0Z (ih:FuncId->List S->HT->(S->HT->α)->α):FuncId->List S->HT->(S->List Blk->α)->(S->HT->α)->α:=fun g args H Kq _=>match H with
 |⟨n,t⟩=>cond (args.all (okS n) && Nat.ble (b0q t) n) (ih g args ⟨n,b16 t⟩ fun r H1=>b2j (fun m=>er (m*1000+g)) n H1 r fun r=>Kq r []) (er (235000+g))
noncomputable def b6A:List Nat->HT->(HT->α)->α
 |[],H,K=>K H
 |id::r,H,K=>HT.getX (er 241) id H fun b=>match b with
  |⟨.live,e,s,rows,bx,ap,mp⟩=>HT.setX (er 242) id ⟨.froz,e,s,rows,bx,ap,mp⟩ H fun H'=>b6A r H' K
  |_=>b6A r H K
noncomputable def b1G (args:List S):List (List S × S)->(S->α)->α->α
 |[],_,d=>d
 |(xsa,r)::l,K,d=>cond (a5h eqS args xsa) (K r) (b1G args l K d)
noncomputable def b8z (l:List (List S × S)) (args:List S) (H:HT) (K:S->HT->α) (d:α):α:=match l with
 |[]=>d
 |l=>b83 er 0 H args [] fun xsa fr=>b1G xsa l (fun r=>b6A er fr H fun H'=>K r H') d
noncomputable def b6S:Nat->List S->ET->(ET->α)->α
 |_,[],e,k=>k e
 |i,s::r,e,k=>ET.setX er i s e fun e=>b6S (i+1) r e k
noncomputable def b99 (args:List S) (m:Nat) (k:ET->α):α:=b6S er 0 args ⟨args.length+(m - args.length),.mk0 J (cond (Nat.ble m 16) 4 (cond (Nat.ble m 64) 6 9)) 0⟩ k
noncomputable def b9m (n:Nat):FuncId->List S->HT->(S->HT->α)->α:=
 Nat.rec (motive:=fun _=>FuncId->List S->HT->(S->HT->α)->α) (fun _ _ _ _=>er 227) (fun _ ih g args H K=>cond (X.clip g) (b2L er args H K) (b8z er (X.orc g) args H K (match X.fns g with
  |none=>er (1000+g)
  |some fn=>match fn.body with
   |none=>er 238
   |some c=>b99 er args fn.ntmps fun env=>aU8 X (fun m=>er (m*1000+g)) (fun g args H _ K=>ih g args H K) (b0Z (fun m=>er (m*1000+g)) ih) n c env H fun x env' H1=>match x with
    |.exit _=>er 239
    |.normal=>a4K X er fn env' H1 fun s=>K s H1
    |.ret=>a4K X er fn env' H1 fun s=>K s H1))) n
def H0X:HT:=⟨0,.mk0 aD7 10 0⟩
end
end

def b59 (P:Program) (t:TypeId) (name:String):Option (FuncId × Bool × TypeId):=match P.info? t,P.underlying t with
 |some i,some (.pointer e)=>match i.methods.find? (fun m=>m.name == name) with
  |some m=>cond m.path.isEmpty (match m.func with
   |some (g,c)=>some (g,c,e)
   |none=>none) none
  |none=>none
 |_,_=>none
def b6p (P:Program) (t:TypeId):Bool:=match P.underlying t with
 |some (.pointer e)=>Nat.beq e (P.pointee t)
 |_=>false
def bf8 (P:Program) (tab:Tab) (maps:TypeId->Option (TypeId × TypeId × Value × Nat)) (eqs:TypeId->Nat->Bool) (clip:FuncId->Bool) (orc:FuncId->List (List S × S)):XC:=
 ⟨tab,fun g=>P.funcs[g]?,maps,eqs,b59 P,b6p P,a8d P,clip,orc⟩
theorem b5Q {P:Program} {t:TypeId} {name:String} {f:FuncId} {b:Bool} {e:TypeId} (h:b59 P t name=some (f,b,e)):a92 P t name f b e=true:=by
 unfold b59 at h
 split at h
 ·rename_i i e' h1 h2
  split at h
  ·rename_i m h3
   cases hp:m.path.isEmpty with
   |true=>
    rw [hp,cond_true] at h
    split at h
    ·rename_i g c h4
     injection h with h
     injection h with a1 h
     injection h with a2 a3
     subst a1 a2 a3
     unfold a92
     simp only [h1,h2,h3,hp,h4,a6j,F7,beq_self_eq_true,Bool.and_self]
    ·cases h
   |false=>rw [hp] at h;cases h
  ·cases h
 ·cases h
theorem b5B {P:Program} {t:TypeId} (h:b6p P t=true):P.underlying t=some (.pointer (P.pointee t)):=by
 unfold b6p at h
 split at h
 ·rename_i e he
  rw [he,n7 h]
 ·cases h
theorem bd3 {P : Program} {tab : Tab} {maps : TypeId -> Option (TypeId × TypeId × Value × Nat)} {eqs : TypeId -> Nat -> Bool} {clip : FuncId -> Bool} {orc : FuncId -> List (List S × S)} (h1 : v6 P tab) (h2 : (P.funcs.toList.all fun fn => !(fn.name == "runtime.NumGoroutine")) = true)
    (h3:∀t kt e z m,maps t=some (kt,e,z,m)->b0t P t kt e z m) (h4:∀t n,eqs t n=true->EqS P t n)
    (h5:∀g,clip g=true->∀rows:List (List T),(∀ r ∈ rows,r.length=1)->a8 P g [.c (.t (.sl 1 .any rows))] [] (.c (.t (.sl 1 .full rows))) [])
    (h6:∀g args r,(args,r) ∈ orc g->a8 P g args [] r []∧r.isT=true):XOK P (bf8 P tab maps eqs clip orc) where
  tab:=h1
  fns g fn h:=⟨h,fun e=>by
   have h:P.funcs[g]? =some fn:=h
   have hm:fn ∈ P.funcs.toList:=by
    rw [← Array.getElem?_toList] at h
    exact lbm h
   have:=lbw.1 h2 fn hm
   rw [e] at this
   exact absurd this (by decide)⟩
  maps:=h3
  eqs:=h4
  meth _ _ _ _ _ h:=b5Q h
  nilp _ h:=b5B h
  nifc _ h:=h
  clip:=h5
  orc:=h6
noncomputable def b68 (t:TypeId):Option (TypeId × TypeId × Value × Nat):=cond (Nat.beq t 353) (some (3,4,.bool false,1))
 (cond (Nat.beq t 305) (some (341,60,.slice none 0 0,2)) (cond (Nat.beq t 198) (some (253,201,.pointer none,2)) none))
noncomputable def xcR (orc:FuncId->List (List S × S)):XC:=bf8 Tryz.prog tab b68 (fun _ _=>false) (fun g=>Nat.beq g 145) orc
abbrev iT (n:Int):T:=.atm (.int .i64 n)
abbrev iC (n:Int):C:=.t (iT n)
abbrev b0D:T:=.sl 0 .nil []
def aN1:S:=.agg [iC 2,.t (.sl 4 .any [[iT 0,iT 1,iT 10,iT (-1)],[iT 1,iT 0,iT 10,iT (-1)]])]
def shX:S:=.c (.t (.sl 6 .any [[iT 5,iT 0,iT 0,iT 60,iT 8000,.sl 1 .any [[iT 1000]]]]))
abbrev qT:List T:=[iT 1,iT 0,iT 600,iT 5,iT 0,iT 9,b0D]
def b3d (n:Nat):S:=.c (.t (.sl 7 .any (List.replicate n qT)))
def b9u:S:=.c (.t (.sl 4 .any [[iT 0,.sl 1 .any [[iT 0]],.sl 1 .any [[iT 10]],iT 25]]))
def bb1:FuncId->List (List S × S):=fun g=>cond (Nat.beq g 45) [([aN1,shX,.c (.t b0D)],.tup [.c (.t b0D),.c (iC 0)]),([aN1,shX,b3d 1],.tup [b9u,.c (iC 0)]),([aN1,shX,b3d 2],.tup [.c (.t b0D),.c (iC 4)])] []
def b5e:S:=.c (.t (.sl 3 .any [[iT 0,.sl 1 .any [[iT 0],[iT 1]],.sl 3 .any [[iT 1,iT 0,iT 15],[iT 2,iT 1,iT 15],[iT 3,iT 0,iT (-1)],[iT 3,iT 1,iT (-1)]]]]))
def bi7:FuncId->List (List S × S):=fun g=>cond (Nat.beq g 51) [([aN1,shX,b3d 2],.tup [b5e,.c (iC 0)])] (bb1 g)
section
open Go.RowKit
theorem ET.toE_get {e:ET} {t:Nat}:e.toE[t]? =if t<e.n then some (e.t.get J t) else none:=F3
theorem a5x {env:ET}:evX env=B2 env.toE:=by
 funext x
 cases x with
 |tmp t=>
  obtain ⟨n,tr⟩:=env
  show cond (Nat.blt t n) (tr.getX J t fun s=>s) J=(ET.toE ⟨n,tr⟩).getD t .junk
  rw [BT.getX_eq,lbl,ET.toE_get]
  cases hb:Nat.blt t n with
  |true=>rw [if_pos (by simpa using hb)];rfl
  |false=>
   have hno:¬t<n:=fun h=>by
    rw [show Nat.blt t n=true by simpa using h] at hb;cases hb
   rw [if_neg hno];rfl
 |_=>rfl
theorem ET.setX_to {d:Tmp} {s:S} {env:ET} {k:ET->Bool} (h:ET.setX noE d s env k=true):∃e,k e=true∧e.toE=env.toE.set d s:=by
 obtain ⟨n,t⟩:=env
 obtain ⟨t',h1,h2,h3⟩:=BT.setX_to (d:=J) (T:=t) h
 refine ⟨_,h1,?_⟩
 apply I6
 intro i
 unfold ET.toE
 rw [F3,lbg,F3]
 by_cases hi:d=i
 ·subst hi
  rw [if_pos rfl]
  simp only [lbr,lbv]
  rw [h2]
 ·rw [if_neg hi,h3 i (Ne.symm hi)]
theorem a9C {dst:Option Tmp} {s:S} {env:ET} {k:ET->Bool} (h:b6e noE dst s env k=true):∃e,k e=true∧∀k':Env->Prop,k' e.toE->a9P dst s env.toE k':=by
 cases dst with
 |none=>exact ⟨_,h,fun _ h=>h⟩
 |some d=>
  obtain ⟨e,h,e1⟩:=ET.setX_to h
  exact ⟨e,h,fun k' hk=>x3.2 (e1 ▸ hk)⟩
theorem b3o {ops:List Oper} {o:Oper} {env:ET} {a b:Bool} (h:b1e noE ops o env a b=true):
 (a=true∧∀A B:Prop,A->a80 ops o env.toE A B)∨(b=true∧∀A B:Prop,B->a80 ops o env.toE A B):=by
 unfold b1e at h
 unfold a80
 split at h
 ·rename_i hg
  exact .inl ⟨h,fun A B hA=>by simp only [hg];exact hA⟩
 ·rename_i j want hg
  obtain ⟨oj,hj,h⟩:=getX_iff.1 h
  split at h
  ·exact f6 h
  ·rename_i d hd
   rw [a5x] at h
   split at h
   ·rename_i t ht
    cases want<;>cases t<;>first
     |exact .inl ⟨h,fun A B hA=>by simp only [hg,hj,hd,ht];exact hA⟩
     |exact .inr ⟨h,fun A B hB=>by simp only [hg,hj,hd,ht];exact hB⟩
   ·rename_i ss hs
    exact .inr ⟨h,fun A B hB=>by simp only [hg,hj,hd,hs];exact hB⟩
   ·exact f6 h
theorem b6a {H:HT} {B:List Blk} {k:HT->Bool} (h:b50 noE H B k=true):∃H',k H'=true∧∀k':Hp->Prop,k' H'.toL->a98 H.toL B k':=by
 unfold b50 at h
 split at h
 ·exact ⟨_,h,fun k' hk=>S0.2 (by rw [a1p];exact hk)⟩
 ·obtain ⟨H',h,e⟩:=HT.pushX_to h
  exact ⟨H',h,fun k' hk=>S0.2 (e ▸ hk)⟩
 ·exact f6 h
theorem b48 {P:Program} {τ:Tab} {env:Env} {H':Hp} {op:Op} {s0:S} {K:Prop} (h:aop P τ (B2 env) H' op (fun s B=>(B=[]∧s=s0)∧K) (fun _ _=>False)):b0n P τ env H' op s0 K:=by
 cases op<;>first
  |exact h
  |(obtain ⟨b,h,_⟩:=aw6 h
    cases h.1.1)
section
variable {P:Program} {X:XC} (hX:XOK P X)
include hX
theorem aV2 {ops:List Oper} {env:ET} {H':HT} {k:Bool}:∀{L:List Nat},aM0 X noE ops env H' k L=true->k=true∧∀K:Prop,K->a0m P X.tab ops env.toE H'.toL K L
 |[],h=>⟨h,fun K hK=>hK⟩
 |j::r,h=>by
  unfold aM0 at h
  obtain ⟨o,ho,h⟩:=getX_iff.1 h
  split at h
  ·rename_i d hd
   rcases b55 hX (fun _ _ _ _ _ h=>f6 h) h with ⟨s,B,h,h1⟩|⟨s,H1,h,h1⟩
   ·cases B with
    |nil=>
     have h:cond (eqS s (evX env (.tmp d))) (aM0 X noE ops env H' k r) (noE 206)=true:=h
     obtain ⟨h2,h⟩:=m7 h
     have h2:=aD3 h2
     rw [a5x] at h2 h1
     obtain ⟨hk,h3⟩:=aV2 h
     refine ⟨hk,fun K hK=>?_⟩
     unfold a0m
     simp only [ho,hd]
     exact b48 (h1 _ _ ⟨⟨rfl,h2⟩,h3 K hK⟩)
    |cons _ _=>exact f6 h
   ·exact f6 h
  ·exact f6 h
variable {call quiet:FuncId->List S->HT->(S->List Blk->Bool)->(S->HT->Bool)->Bool} (hc:a7I P call) (hq:a7I P quiet)
include hc hq
theorem a1H {ops:List Oper} {drawn:Bool}:∀{rest:List Oper} {i:Nat} {env:ET} {H:HT} {K:ET->HT->Bool},b3F X noE call quiet ops drawn rest i env H K=true->
 ∃env' H',K env' H'=true∧∀K':Env->Hp->Prop,K' env'.toE H'.toL->a6A P X.tab ops drawn i rest env.toE H.toL K'
 |[],i,env,H,K,h=>⟨_,_,h,fun _ h=>h⟩
 |o::rest,i,env,H,K,h=>by
  have h:b4C X noE call quiet ops drawn o (b3F X noE call quiet ops drawn rest) i env H K=true:=h
  unfold b4C at h
  rcases b3o h with ⟨h,hg⟩|⟨h,hg⟩
  ·have hcc:a7I P (cond (drawn && b8t ops i) quiet call):=by cases (drawn && b8t ops i)<;>assumption
   rcases b55 hX hcc h with ⟨s,B,h,h1⟩|⟨s,H1,h,h1⟩
   ·rw [a5x] at h1
    obtain ⟨e2,h,h2⟩:=a9C h
    obtain ⟨H2,h,h3⟩:=b6a h
    obtain ⟨e3,H3,h,h4⟩:=a1H h
    refine ⟨e3,H3,h,fun K' hK=>?_⟩
    show V8 P X.tab ops drawn o (aQ0 P X.tab ops drawn rest) i env.toE H.toL K'
    unfold V8
    exact hg _ _ (h1 _ _ (h2 _ (h3 _ (h4 _ hK))))
   ·rw [a5x] at h1
    cases drawn with
    |true=>
     obtain ⟨hb,h⟩:=m7 h
     obtain ⟨h,h5⟩:=aV2 hX h
     obtain ⟨e2,h,h2⟩:=a9C h
     obtain ⟨e3,H3,h,h4⟩:=a1H h
     refine ⟨e3,H3,h,fun K' hK=>?_⟩
     show V8 P X.tab ops true o (aQ0 P X.tab ops true rest) i env.toE H.toL K'
     unfold V8
     exact hg _ _ (h1 _ _ ⟨hb,_,rfl,h5 _ (h2 _ (h4 _ hK))⟩)
    |false=>
     obtain ⟨e2,h,h2⟩:=a9C h
     obtain ⟨e3,H3,h,h4⟩:=a1H h
     refine ⟨e3,H3,h,fun K' hK=>?_⟩
     show V8 P X.tab ops false o (aQ0 P X.tab ops false rest) i env.toE H.toL K'
     unfold V8
     exact hg _ _ (h1 _ _ (h2 _ (h4 _ hK)))
  ·obtain ⟨e2,h,h2⟩:=a9C h
   obtain ⟨e3,H3,h,h4⟩:=a1H h
   refine ⟨e3,H3,h,fun K' hK=>?_⟩
   show V8 P X.tab ops drawn o (aQ0 P X.tab ops drawn rest) i env.toE H.toL K'
   unfold V8
   exact hg _ _ (h2 _ (h4 _ hK))
theorem b8s {n0:Nat} {id:Nat} {ops:Array Oper} {draw:Bool} {env:ET} {H:HT} {K:ET->HT->Bool} (h:bf2 X noE call quiet ops.toList draw env H K=true):
 ∃env' H',K env' H'=true∧∀Q:AX->Env->Hp->Prop,Q .normal env'.toE H'.toL->Awp P n0 (.region id ops draw) env.toE H.toL Q:=by
 unfold bf2 at h
 cases draw with
 |false=>
  obtain ⟨e,H',h,h1⟩:=a1H hX hc hq h
  exact ⟨e,H',h,fun Q hQ=>m9 hX.tab _ (h1 (Q .normal) hQ)⟩
 |true=>
  simp only at h
  cases h0:a7X ops.toList with
  |true=>
   rw [h0] at h
   obtain ⟨e,H',h,h1⟩:=a1H hX hc hq h
   simp only [a7X,lbO] at h0
   exact ⟨e,H',h,fun Q hQ=>m9 hX.tab _ (aB6 h0.1 (h1 (Q .normal) hQ))⟩
  |false=>
   rw [h0,cond_false] at h
   cases h2:(a7X (J6 (ac0 ops.toList) ops.toList) && a7t (ac0 ops.toList) ops.toList.length) with
   |true=>
    rw [h2] at h
    obtain ⟨e,H',h,h1⟩:=a1H hX hc hq h
    simp only [a7X,lbO] at h2
    exact ⟨e,H',h,fun Q hQ=>m9 hX.tab _ (a4j (ac0 ops.toList) h2.1.1 h2.2 (h1 (Q .normal) hQ))⟩
   |false=>
    rw [h2,cond_false] at h
    obtain ⟨h3,h⟩:=m7 h
    obtain ⟨e,H',h,h1⟩:=a1H hX hc hq h
    exact ⟨e,H',h,fun Q hQ=>m9 hX.tab _ (aB6 h3 (h1 (Q .normal) hQ))⟩
omit hX hc hq in
theorem av7 {n0:Nat} {c:Operand} {t e:Code} {env:Env} {H:Hp} {Q:AX->Env->Hp->Prop} {b:Bool} (hb:B2 env c=.c (.t (.atm (.bool b)))) (h:Awp P n0 (bif b then t else e) env H Q):Awp P n0 (.cond c t e) env H Q:=by
 refine ⟨fun w0 ι0 M0 H0 a w hn hM hs=>?_⟩
 obtain ⟨ι,M,hd,hsz,he,hH,hMB,hF,hst⟩:=hs
 have hv:=(he.ev.to hb).inv_atm
 have hs:Sim w0 ι0 M0 H0 a w env H:=⟨ι,M,hd,hsz,he,hH,hMB,hF,hst⟩
 refine wp_cond hv ?_
 cases b with
 |true=>exact h.out w0 ι0 M0 H0 a w hn hM hs
 |false=>exact h.out w0 ι0 M0 H0 a w hn hM hs
omit hX hc hq in
theorem ae5 {n0:Nat} {c:Code} {Q:AX->Env->Hp->Prop} {w0:World} {ι0:Io} {M0:Ms} {H0:Hp} (hn:H0.length=n0) (hM:MB w0 M0) (R:Nat->Env->Hp->Prop)
 (h0:∀env H,R 0 env H->False) (hs:∀n env H,R (n+1) env H->Awp P n0 c env H fun x env' H'=>match x with
   |.normal=>R n env' H'
   |x=>Q x env' H'):∀n env H a w,R n env H->Sim w0 ι0 M0 H0 a w env H->Code.rounds P c (fun e a' w'=>∃x env' H',e=AX.real x∧Q x env' H'∧Sim w0 ι0 M0 H0 a' w' env' H') n a w
 |0,env,H,a,w,h,_=>(h0 env H h).elim
 |n+1,env,H,a,w,h,hsim=>by
  rw [rounds_succ]
  refine wp_mono ((hs n env H h).out w0 ι0 M0 H0 a w hn hM hsim) ?_
  rintro e a' w' ⟨x,env',H',rfl,hq,hs'⟩
  cases x with
  |normal=>exact ae5 hn hM R h0 hs n env' H' a' w' hq hs'
  |exit id=>exact ⟨_,env',H',rfl,hq,hs'⟩
  |ret=>exact ⟨_,env',H',rfl,hq,hs'⟩
omit hX hc hq in
def b8X (P:Program) (n0:Nat) (c:Code) (Q:AX->Env->Hp->Prop):Nat->Env->Hp->Prop
 |0,_,_=>False
 |n+1,env,H=>Awp P n0 c env H fun x env' H'=>match x with
  |.normal=>b8X P n0 c Q n env' H'
  |x=>Q x env' H'
omit hX hc hq in
theorem aV4 {n0:Nat} {c:Code} {Q:AX->Env->Hp->Prop} {n:Nat} {env:Env} {H:Hp} (h:b8X P n0 c Q n env H):Awp P n0 (.loop c) env H Q:=
 ⟨fun w0 ι0 M0 H0 a w hn hM hs=>wp_loop_rounds n (ae5 hn hM (b8X P n0 c Q) (fun _ _ h=>h) (fun _ _ _ h=>h) n env H a w h hs)⟩
omit hX hc hq in
theorem aR7 {n0:Nat} {c:Code} {body:ET->HT->RX Bool->Bool} (hb:∀env H K,body env H K=true->∃x env' H',K x env' H'=true∧∀Q:AX->Env->Hp->Prop,Q x env'.toE H'.toL->Awp P n0 c env.toE H.toL Q):
 ∀{n:Nat} {env:ET} {H:HT} {K:RX Bool},b9n noE n body env H K=true->∃x env' H',K x env' H'=true∧∀Q:AX->Env->Hp->Prop,Q x env'.toE H'.toL->b8X P n0 c Q n env.toE H.toL
 |0,env,H,K,h=>f6 h
 |n+1,env,H,K,h=>by
  obtain ⟨x,e1,H1,h,h1⟩:=hb _ _ _ h
  cases x with
  |normal=>
   obtain ⟨x,e2,H2,h,h2⟩:=aR7 hb (n:=n) h
   exact ⟨x,e2,H2,h,fun Q hQ=>h1 _ (h2 Q hQ)⟩
  |exit id=>exact ⟨.exit id,e1,H1,h,fun Q hQ=>h1 _ hQ⟩
  |ret=>exact ⟨.ret,e1,H1,h,fun Q hQ=>h1 _ hQ⟩
theorem b6R {n0 n:Nat}:∀(c:Code) {env:ET} {H:HT} {K:RX Bool},aU8 X noE call quiet n c env H K=true->
 ∃x env' H',K x env' H'=true∧∀Q:AX->Env->Hp->Prop,Q x env'.toE H'.toL->Awp P n0 c env.toE H.toL Q:=by
 intro c
 induction c with
 |skip=>intro env H K h;exact ⟨.normal,env,H,h,fun Q hQ=>m9 hX.tab _ hQ⟩
 |region id ops draw=>
  intro env H K h
  obtain ⟨e,H',h,h1⟩:=b8s hX hc hq (n0:=n0) (id:=id) h
  exact ⟨.normal,e,H',h,h1⟩
 |seq a b iha ihb=>
  intro env H K h
  obtain ⟨x,e1,H1,h,h1⟩:=iha h
  cases x with
  |normal=>
   obtain ⟨x,e2,H2,h,h2⟩:=ihb h
   exact ⟨x,e2,H2,h,fun Q hQ=>a4f (h1 _ (h2 Q hQ))⟩
  |exit id=>exact ⟨.exit id,e1,H1,h,fun Q hQ=>a4f (h1 _ hQ)⟩
  |ret=>exact ⟨.ret,e1,H1,h,fun Q hQ=>a4f (h1 _ hQ)⟩
 |cond c t e iht ihe=>
  intro env H K h
  have h:(match evX env c with
   |.c (.t (.atm (.bool b)))=>cond b (aU8 X noE call quiet n t env H K) (aU8 X noE call quiet n e env H K)
   |_=>noE 213)=true:=h
  rw [a5x] at h
  split at h
  ·rename_i b hb
   cases b with
   |true=>
    obtain ⟨x,e1,H1,h,h1⟩:=iht h
    exact ⟨x,e1,H1,h,fun Q hQ=>av7 hb (h1 Q hQ)⟩
   |false=>
    obtain ⟨x,e1,H1,h,h1⟩:=ihe h
    exact ⟨x,e1,H1,h,fun Q hQ=>av7 hb (h1 Q hQ)⟩
  ·exact f6 h
 |block id c ih=>
  intro env H K h
  obtain ⟨x,e1,H1,h,h1⟩:=ih h
  cases x with
  |normal=>exact ⟨.normal,e1,H1,h,fun Q hQ=>a1d (h1 _ hQ)⟩
  |exit j=>
   have h:cond (Nat.beq j id) (K .normal e1 H1) (K (.exit j) e1 H1)=true:=h
   cases hj:Nat.beq j id with
   |true=>
    rw [hj] at h
    exact ⟨.normal,e1,H1,h,fun Q hQ=>a1d (h1 _ (by show cond (Nat.beq j id) _ _;rw [hj];exact hQ))⟩
   |false=>
    rw [hj] at h
    exact ⟨.exit j,e1,H1,h,fun Q hQ=>a1d (h1 _ (by show cond (Nat.beq j id) _ _;rw [hj];exact hQ))⟩
  |ret=>exact ⟨.ret,e1,H1,h,fun Q hQ=>a1d (h1 _ hQ)⟩
 |loop c ih=>
  intro env H K h
  obtain ⟨x,e1,H1,h,h1⟩:=aR7 (fun env H K h=>ih h) h
  exact ⟨x,e1,H1,h,fun Q hQ=>aV4 (h1 Q hQ)⟩
 |exit id=>intro env H K h;exact ⟨.exit id,env,H,h,fun Q hQ=>m9 hX.tab _ hQ⟩
 |ret=>intro env H K h;exact ⟨.ret,env,H,h,fun Q hQ=>m9 hX.tab _ hQ⟩
 |label l=>intro env H K h;exact ⟨.normal,env,H,h,fun Q hQ=>m9 hX.tab _ hQ⟩
 |_=>intros;rename_i h;exact f6 h
end
end
section
open Go.RowKit
section
variable {P:Program} {X:XC}
theorem aB4 {env:ET} {H:HT}:∀{rs:List ResultVar} {k:List S->Bool},b7Y X noE env H rs k=true->∃l,k l=true∧∀k':List S->Prop,k' l->aF0 X.tab env.toE H.toL rs k'
 |[],k,h=>⟨_,h,fun _ h=>h⟩
 |.tmp t::r,k,h=>by
  obtain ⟨l,h,h1⟩:=aB4 (rs:=r) h
  rw [a5x] at h
  exact ⟨_,h,fun k' hk=>by simp only [aF0];exact y5.2 (h1 _ hk)⟩
 |.cell x t::r,k,h=>by
  obtain ⟨s,h,h1⟩:=a9X h
  rw [a5x] at h1
  obtain ⟨l,h,h2⟩:=aB4 (rs:=r) h
  exact ⟨_,h,fun k' hk=>by simp only [aF0];exact h1 _ (h2 _ hk)⟩
theorem aj1 {fn:Func} {env:ET} {H:HT} {k:S->Bool} (h:a4K X noE fn env H k=true):∃s,k s=true∧∀k':S->Prop,k' s->a1L X.tab fn env.toE H.toL k':=by
 unfold a4K at h
 obtain ⟨l,h,h1⟩:=aB4 h
 match l,h,h1 with
 |[s],h,h1=>exact ⟨s,h,fun k' hk=>h1 _ hk⟩
 |[],h,h1=>exact ⟨_,h,fun k' hk=>h1 _ hk⟩
 |s1::s2::r,h,h1=>exact ⟨_,h,fun k' hk=>h1 _ hk⟩
theorem ap0 {τ : Tab} (hτ : v6 P τ) {f : FuncId} {fn : Func} {c : Code} {args : List S} {H : Hp} {s : S} {H' : Hp} (hf : P.funcs[f]? = some fn) (hb : fn.body = some c) (hn : fn.name ≠ "runtime.NumGoroutine")
    (h:Awp P H.length c (args++List.replicate (fn.ntmps - args.length) .junk) H fun x env' H1=>match x with
      |.exit _=>False
      |_=>a1L τ fn env' H1 fun r=>r=s∧H1=H'):a8 P f args H s H':=by
  refine ⟨⟨fn,hf,by rw [hb];rfl,hn⟩,fun w ι M vals hl hr hH hM hF=>?_⟩
  refine calls_of_wp hf hb ?_
  have hi:=Sim.init hl hr hH hM hF (fn.ntmps - args.length)
  have:=h.out w ι M H _ w rfl hM hi
  have e:vals.toArray.size=args.length:=by simpa using hl
  rw [e]
  refine wp_mono this ?_
  rintro e a' w' ⟨x,env',H1,rfl,hq,ι',M',hd,hsz,he,hH',hM',hF',hst⟩
  have key:(a1L τ fn env' H1 fun r=>r=s∧H1=H')->a'.defers=[]∧∃v,(results fn a'.tmps).run P w'=.ok v w'∧∃v',Ending.returned v=.returned v'∧B4 w ι M H s H' v' w':=by
   intro hq
   refine ⟨hd,?_⟩
   obtain ⟨l,hk,vs,h1,h2,h3⟩:=a3J hτ he hH' fn.results.toList hq
   have hrun:∃v,(results fn a'.tmps).run P w'=.ok v w'∧v=(if h:vs.length=1 then vs[0] else .tuple vs.toArray):=by
    refine ⟨_,?_,rfl⟩
    unfold results
    rw [aY6,Sem.run_bind,Sem.run_map]
    refine (congrArg (fun r=>Result.andThen (Result.andThen r _) _) h1).trans ?_
    simp
   obtain ⟨v,hv1,rfl⟩:=hrun
   refine ⟨_,hv1,_,rfl,?_⟩
   have hsr:∃r,RS w' ι' M' r (if h:vs.length=1 then vs[0] else .tuple vs.toArray)∧(r=s∧H1=H'):=by
    match l,hk,h2,h3 with
    |[s1],hk,h2,h3=>
     refine ⟨s1,?_,hk⟩
     rw [dif_pos (by simpa using h2)]
     have:=h3 0 s1 rfl
     rw [lbl,lbf (by simp at h2;omega)] at this
     exact this
    |[],hk,h2,h3=>
     refine ⟨_,?_,hk⟩
     rw [dif_neg (by simp at h2;simp [h2])]
     exact .tup vs h2 h3
    |s1::s2::r,hk,h2,h3=>
     refine ⟨_,?_,hk⟩
     rw [dif_neg (by simp at h2;omega)]
     exact .tup vs h2 h3
   obtain ⟨r,h4,rfl,rfl⟩:=hsr
   exact ⟨ι',M',h4,hH',hM',hF',hst⟩
  cases x with
  |normal=>exact key hq
  |ret=>exact key hq
  |exit id=>exact hq.elim
end
theorem aA9 {β:Type} {d:β} {t:Nat}:∀{k lo:Nat},(BT.mk0 d k lo).get d t=d
 |0,lo=>by unfold BT.mk0 BT.get;cases Nat.beq lo t<;>rfl
 |k+1,lo=>by
  unfold BT.mk0 BT.get
  rw [aA9,aA9]
  cases Nat.ble (lo+2 ^ k) t<;>rfl
theorem aL5:∀{r:List S} {i:Nat} {e:ET} {k:ET->Bool} {p:List S} {q:Nat},e.toE=p++List.replicate (r.length+q) J->p.length=i->b6S noE i r e k=true->∃e',k e'=true∧e'.toE=p++r++List.replicate q J
 |[],i,e,k,p,q,he,hp,h=>⟨e,h,by rw [he];simp⟩
 |s::r,i,e,k,p,q,he,hp,h=>by
  obtain ⟨e1,h,e2⟩:=ET.setX_to h
  have e3:e1.toE=(p++[s])++List.replicate (r.length+q) J:=by
   rw [e2,he,b1r _ _ (by omega),hp.symm,Nat.sub_self,lbu,show r.length+1+q=(r.length+q)+1 by omega,ad6,List.set_cons_zero]
   simp
  obtain ⟨e4,h,e5⟩:=aL5 (r:=r) (i:=i+1) e3 (by simp [hp]) h
  exact ⟨e4,h,by rw [e5];simp⟩
theorem b7B {args:List S} {m:Nat} {k:ET->Bool} (h:b99 noE args m k=true):∃e,k e=true∧e.toE=args++List.replicate (m - args.length) J:=by
 unfold b99 at h
 obtain ⟨e,h,e1⟩:=aL5 (p:=[]) (q:=m - args.length) (by
  unfold ET.toE
  simp only [a8T]
  apply I6
  intro i
  rw [F3,lbk,aA9]) rfl h
 exact ⟨e,h,by simpa using e1⟩
def bg3 (n:Nat) (H:Hp) (vc:C->List Nat->(T->List Nat->Bool)->Bool):Prop:=∀x fr K,vc x fr K=true->
 ∃y fr',K y fr'=true∧(∀ a ∈ fr,a ∈ fr')∧(∀ a ∈ fr',a ∈ fr∨n<=a)∧∀p:Nat->Prop,(∀ a ∈ fr',p a)->VY H p x y
section
variable {n:Nat} {H:Hp} {vc:C->List Nat->(T->List Nat->Bool)->Bool} (hv:bg3 n H vc)
include hv
theorem al5:∀{xs:List C} {fr:List Nat} {K:List T->List Nat->Bool},vyL vc xs fr K=true->
 ∃ys fr',K ys fr'=true∧(∀ a ∈ fr,a ∈ fr')∧(∀ a ∈ fr',a ∈ fr∨n<=a)∧∀p:Nat->Prop,(∀ a ∈ fr',p a)->VYL H p xs ys
 |[],fr,K,h=>⟨[],fr,h,fun _ h=>h,fun _ h=>.inl h,fun _ _=>trivial⟩
 |x::r,fr,K,h=>by
  obtain ⟨y,f1,h,a1,a2,a3⟩:=hv _ _ _ h
  obtain ⟨ys,f2,h,b1,b2,b3⟩:=al5 (xs:=r) h
  refine ⟨y::ys,f2,h,fun a ha=>b1 _ (a1 _ ha),fun a ha=>?_,fun p hp=>⟨a3 p fun a ha=>hp _ (b1 _ ha),b3 p hp⟩⟩
  rcases b2 a ha with h|h
  ·exact a2 a h
  ·exact .inr h
theorem b4r {s:Nat}:∀{xs:List (List C)} {fr:List Nat} {K:List (List T)->List Nat->Bool},vyR noE vc s xs fr K=true->
 ∃ys fr',K ys fr'=true∧(∀ a ∈ fr,a ∈ fr')∧(∀ a ∈ fr',a ∈ fr∨n<=a)∧ys.length=xs.length∧∀p:Nat->Prop,(∀ a ∈ fr',p a)->
  (∀ r ∈ ys,r.length=s)∧∀(i:Nat) (r:List T),ys[i]? =some r->∃row,xs[i]? =some row∧VYL H p row r
 |[],fr,K,h=>⟨[],fr,h,fun _ h=>h,fun _ h=>.inl h,rfl,fun _ _=>⟨by simp,by simp⟩⟩
 |x::r,fr,K,h=>by
  obtain ⟨h0,h⟩:=m7 h
  have h0:=n7 h0
  obtain ⟨y,f1,h,a1,a2,a3⟩:=al5 hv h
  obtain ⟨ys,f2,h,b1,b2,b3,b4⟩:=b4r (xs:=r) h
  refine ⟨y::ys,f2,h,fun a ha=>b1 _ (a1 _ ha),fun a ha=>?_,by simp [b3],fun p hp=>?_⟩
  ·rcases b2 a ha with h|h
   ·exact a2 a h
   ·exact .inr h
  ·have q:=a3 p fun a ha=>hp _ (b1 _ ha)
   obtain ⟨c1,c2⟩:=b4 p hp
   refine ⟨fun r hr=>?_,fun i r hi=>?_⟩
   ·rcases lbB.1 hr with rfl|hr
    ·rw [← q.get.1];exact h0
    ·exact c1 r hr
   ·cases i with
    |zero=>simp at hi;subst hi;exact ⟨x,rfl,q⟩
    |succ i=>simpa using c2 i r (by simpa using hi)
end
theorem b4S {b:Blk} {k:Bool} (h:vyB noE b k=true):k=true∧¬b.mode.gone∧b.mp=false:=by
 unfold vyB at h
 cases hm:b.mode<;>cases hp:b.mp<;>rw [hm,hp] at h<;>first|exact f6 h|exact ⟨h,fun h=>h,rfl⟩
theorem b8u {H:Hp} {p:Nat->Prop} {id lo len size:Nat} {app:Bool} {k:Blk} {rows:List (List T)} (hp:p id) (hk:H[id]? =some k) (hd:¬k.mode.gone) (hs:k.size=size) (hl:rows.length=len)
 (hw:∀r ∈ rows,r.length=size) (h:∀(i:Nat) (r:List T),rows[i]? =some r->∃row,k.rows[lo+i]? =some row∧VYL H p row r) (hm:k.mp=false):VY H p (.own id lo len app) (.sl size .any rows):=by
 have key:∀i j c,at2 rows i j=some c->∃x,at2 k.rows (lo+i) j=some x∧VY H p x c:=fun i j c hc=>by
  obtain ⟨r,h1,h2⟩:=x5 hc
  obtain ⟨row,h3,h4⟩:=h i r h1
  obtain ⟨x,h5,h6⟩:=h4.get.2 j c h2
  exact ⟨x,p8 h3 h5,h6⟩
 refine .own hp hk hd hs hl hw (fun i j=>(at2 k.rows (lo+i) j).getD (.t (.ptr []))) (fun i j c hc=>?_) (fun i j c hc=>?_) hm
 ·obtain ⟨x,hx,_⟩:=key i j c hc
  rw [hx];rfl
 ·obtain ⟨x,hx,hv⟩:=key i j c hc
  rw [hx];exact hv
theorem aZ6 {n:Nat} {H:HT}:∀f:Nat,bg3 n H.toL (vyC noE n H f)
 |0,x,fr,K,h=>f6 h
 |f+1,x,fr,K,h=>by
  have ih:=aZ6 (n:=n) (H:=H) f
  cases x with
  |t y=>exact ⟨y,fr,h,fun _ h=>h,fun _ h=>.inl h,fun _ _=>b7b⟩
  |own id lo len app=>
   obtain ⟨h0,h⟩:=m7 h
   obtain ⟨b,hb,h⟩:=HT.getX_iff.1 h
   obtain ⟨h,h1,h2⟩:=b4S h
   obtain ⟨h3,h⟩:=m7 h
   have h3:=W5 h3
   simp only [P8,S4] at h
   obtain ⟨ys,f1,h,a1,a2,a3,a4⟩:=b4r ih h
   refine ⟨_,_,h,fun a ha=>T9 _ (a1 a ha),fun a ha=>?_,fun p hp=>?_⟩
   ·rcases lbB.1 ha with rfl|ha
    ·exact .inr (W5 h0)
    ·exact a2 a ha
   ·obtain ⟨c1,c2⟩:=a4 p fun a ha=>hp a (T9 _ ha)
    refine b8u (hp id R3) hb h1 rfl (by rw [a3];simp;omega) c1 (fun i r hi=>?_) h2
    obtain ⟨row,r1,r2⟩:=c2 i r hi
    refine ⟨row,?_,r2⟩
    rw [lbi] at r1
    split at r1
    ·rw [lbj] at r1;exact r1
    ·cases r1
  |ptr id r o=>
   obtain ⟨h0,h⟩:=m7 h
   obtain ⟨b,hb,h⟩:=HT.getX_iff.1 h
   obtain ⟨h,h1,h2⟩:=b4S h
   obtain ⟨row,hr,h⟩:=getX_iff.1 h
   rw [P8] at h
   obtain ⟨ys,f1,h,a1,a2,a3⟩:=al5 ih h
   refine ⟨_,_,h,fun a ha=>T9 _ (a1 a ha),fun a ha=>?_,fun p hp=>?_⟩
   ·rcases lbB.1 ha with rfl|ha
    ·exact .inr (W5 h0)
    ·exact a2 a ha
   ·exact ai7 (hp id R3) hb h1 hr (a3 p fun a ha=>hp a (T9 _ ha)) h2
  |fn g caps=>
   obtain ⟨ys,f1,h,a1,a2,a3⟩:=al5 ih h
   exact ⟨_,_,h,a1,a2,fun p hp=>aQ7 (a3 p hp)⟩
  |mp _=>exact f6 h
theorem b5Y {n:Nat} {H:HT} {s:S} {fr:List Nat} {K:S->List Nat->Bool} (h:vyS noE n H s fr K=true):
 ∃s' fr',K s' fr'=true∧(∀ a ∈ fr,a ∈ fr')∧(∀ a ∈ fr',a ∈ fr∨n<=a)∧∀p:Nat->Prop,(∀ a ∈ fr',p a)->VYS H.toL p s s':=by
 cases s with
 |junk=>exact ⟨_,fr,h,fun _ h=>h,fun _ h=>.inl h,fun _ _=>trivial⟩
 |c x=>
  obtain ⟨y,f1,h,a1,a2,a3⟩:=aZ6 6 _ _ _ h
  exact ⟨_,f1,h,a1,a2,fun p hp=>a3 p hp⟩
 |agg cs=>
  obtain ⟨y,f1,h,a1,a2,a3⟩:=al5 (aZ6 6) h
  rw [J7] at h
  exact ⟨_,f1,h,a1,a2,fun p hp=>⟨y,rfl,a3 p hp⟩⟩
 |_=>exact f6 h
theorem aE8 {n:Nat} {H:HT}:∀{l:List S} {fr:List Nat} {K:List S->List Nat->Bool},b83 noE n H l fr K=true->
 ∃l' fr',K l' fr'=true∧(∀ a ∈ fr,a ∈ fr')∧(∀ a ∈ fr',a ∈ fr∨n<=a)∧∀p:Nat->Prop,(∀ a ∈ fr',p a)->X2 H.toL p l l'
 |[],fr,K,h=>⟨_,fr,h,fun _ h=>h,fun _ h=>.inl h,fun _ _=>trivial⟩
 |x::r,fr,K,h=>by
  obtain ⟨y,f1,h,a1,a2,a3⟩:=b5Y h
  obtain ⟨ys,f2,h,b1,b2,b3⟩:=aE8 (l:=r) h
  refine ⟨y::ys,f2,h,fun a ha=>b1 _ (a1 _ ha),fun a ha=>?_,fun p hp=>⟨a3 p fun a ha=>hp _ (b1 _ ha),b3 p hp⟩⟩
  rcases b2 a ha with h|h
  ·exact a2 a h
  ·exact .inr h
end
section
open Go.RowKit
def a2b (n:Nat) (ι:Io):Io:=fun id=>if id<n then ι id else none
mutual
theorem RC.cut {w:World} {ι:Io} {M:Ms} {n:Nat}:∀(x:C) (v:Value),okC n x=true->RC w ι M x v->RC w (a2b n ι) M x v
 |.t x,v,_,h=>by
  cases h with
  |t h=>exact .t h
 |.ptr id r o,v,hk,h=>by
  have hlt:id<n:=by simpa [okC,K5] using hk
  cases h with
  |ptr hi=>exact .ptr (by unfold a2b;rw [if_pos hlt];exact hi)
 |.own id lo len app,v,hk,h=>by
  have hlt:id<n:=by simpa [okC,K5] using hk
  cases h with
  |own hi q1 q2 q3 q4 q5=>exact .own (by unfold a2b;rw [if_pos hlt];exact hi) q1 q2 q3 q4 q5
  |nil hi=>exact .nil (by unfold a2b;rw [if_pos hlt];exact hi)
 |.fn f caps,v,hk,h=>by
  cases h with
  |fn vs hl hr=>exact .fn vs hl fun j c hj=>RL.cut caps hk c (lbm hj) _ (hr j c hj)
 |.mp id,v,hk,h=>by
  have hlt:id<n:=by simpa [okC,K5] using hk
  cases h with
  |mp hi=>exact .mp (by unfold a2b;rw [if_pos hlt];exact hi)
theorem RL.cut {w:World} {ι:Io} {M:Ms} {n:Nat}:∀(l:List C),okL n l=true->∀c ∈ l,∀v,RC w ι M c v->RC w (a2b n ι) M c v
 |[],_,c,hc,_,_=>by cases hc
 |x::r,hk,c,hc,v,h=>by
  simp only [okL,lbO] at hk
  rcases lbB.1 hc with e|hc
  ·rw [e] at h ⊢;exact RC.cut x v hk.1 h
  ·exact RL.cut r hk.2 c hc v h
end
theorem RS.cut {w:World} {ι:Io} {M:Ms} {n:Nat} {s:S} {v:Value} (hk:okS n s=true) (h:RS w ι M s v):RS w (a2b n ι) M s v:=by
 cases s with
 |junk=>exact .junk
 |c x=>cases h with
  |c h=>exact .c (h.cut x v hk)
 |agg cs=>cases h with
  |agg vs hl hr=>exact .agg vs hl fun j c hj=>RL.cut cs hk c (lbm hj) _ (hr j c hj)
 |tup _=>cases hk
 |ifc t x=>
  cases h with
  |ifc h=>
   cases x with
   |c x=>cases h with
    |c h=>exact .ifc (.c (h.cut x _ hk))
   |agg cs=>cases h with
    |agg vs hl hr=>exact .ifc (.agg vs hl fun j c hj=>RL.cut cs hk c (lbm hj) _ (hr j c hj))
   |junk=>cases hk
   |tup _=>cases hk
   |ifc _ _=>cases hk
theorem max_le {a b n:Nat} (h:cond (Nat.ble a b) b a<=n):a<=n∧b<=n:=by
 cases hb:Nat.ble a b with
 |true=>rw [hb] at h;have:=W5 hb;exact ⟨lbT this h,h⟩
 |false=>
  rw [hb] at h
  have hn:¬a<=b:=fun h=>by rw [Nat.ble_eq_true_of_le h] at hb;cases hb
  exact ⟨h,by have h:a<=n:=h;omega⟩
mutual
theorem b7D {n:Nat}:∀{x:C},b0i x<=n->okC n x=true
 |.t _,_=>rfl
 |.ptr id _ _,h=>by simp only [b0i] at h;simp only [okC,K5];omega
 |.own id _ _ _,h=>by simp only [b0i] at h;simp only [okC,K5];omega
 |.fn _ caps,h=>by simp only [okC];exact aC3 (by simpa only [b0i] using h)
 |.mp id,h=>by simp only [b0i] at h;simp only [okC,K5];omega
theorem aC3 {n:Nat}:∀{l:List C},aX2 l<=n->okL n l=true
 |[],_=>rfl
 |x::r,h=>by
  simp only [aX2] at h
  obtain ⟨h1,h2⟩:=max_le h
  simp only [okL,lbO]
  exact ⟨b7D h1,aC3 h2⟩
end
theorem b24 {n:Nat}:∀{rows:List (List C)},b3p rows<=n->∀r ∈ rows,okL n r=true
 |[],_,r,hr=>by cases hr
 |x::rs,h,r,hr=>by
  simp only [b3p] at h
  obtain ⟨h1,h2⟩:=max_le h
  rcases lbB.1 hr with rfl|hr
  ·exact aC3 h1
  ·exact b24 h2 r hr
theorem aJ1 {n:Nat}:∀{t:BT Blk},b0q t<=n->∀i,b3p (t.get aD7 i).rows<=n
 |.tip j b,h,i=>by
  unfold BT.get
  cases Nat.beq j i with
  |true=>exact h
  |false=>exact D5 _
 |.bin m l r,h,i=>by
  simp only [b0q] at h
  obtain ⟨h1,h2⟩:=max_le h
  unfold BT.get
  cases Nat.ble m i with
  |true=>exact aJ1 h2 i
  |false=>exact aJ1 h1 i
theorem aj2:∀{t:BT Blk} {i:Nat},(b16 t).get aD7 i=a3H (t.get aD7 i)
 |.tip j b,i=>by unfold b16 BT.get;cases Nat.beq j i<;>rfl
 |.bin m l r,i=>by unfold b16 BT.get;rw [aj2,aj2];cases Nat.ble m i<;>rfl
theorem b7T {n:Nat} {t:BT Blk}:HT.toL ⟨n,b16 t⟩=(HT.toL ⟨n,t⟩).map a3H:=by
 unfold HT.toL
 rw [a4b]
 exact lbp fun i _=>aj2
theorem a2a (k:Blk):(a3H k).elem=k.elem∧(a3H k).size=k.size∧(a3H k).rows=k.rows∧(a3H k).mp=k.mp∧(a3H k).mode≠.live∧((a3H k).mode≠.dead->k.mode≠.dead)∧((a3H k).mode=.froz->k.mode=.froz):=by
 obtain ⟨m,e,s,r,b,a,p⟩:=k
 cases m<;>simp [a3H]
def VYR (H:Hp) (p:Nat->Prop) (r r':S):Prop:=VYS H p r r'∨∃ss ss',r=.tup ss∧r'=.tup ss'∧X2 H p ss ss'
theorem VYR.rs {H:Hp} {p:Nat->Prop} {w:World} {ι ι':Io} {M M':Ms} (hH:j3 w ι M H) (hM:∀b,M' b->M b) (hp:∀id k b cap size,p id->H[id]? =some k->¬k.mode.gone->ι id=some (.blk b cap size)->¬M' b)
 {x y:S} {v:Value} (h:VYR H p x y) (hr:RS w ι M x v):RS w ι' M' y v:=by
 rcases h with h|⟨ss,ss',rfl,rfl,h⟩
 ·exact h.rs hH hM hp hr
 ·obtain ⟨h1,h2⟩:=h.get
  cases hr with
  |tup vs hl hr=>
   refine .tup vs (by omega) fun j s hj=>?_
   obtain ⟨x,hx,hv⟩:=h2 j s hj
   exact hv.rs hH hM hp (hr j x hx)
theorem aR3 {n:Nat} {H:HT} {r:S} {K:S->Bool} (h:b2j noE n H r K=true):∃r',K r'=true∧VYR H.toL (fun id=>n<=id) r r':=by
 unfold b2j at h
 split at h
 ·rename_i ss
  obtain ⟨l,fr,h,_,h1,h2⟩:=aE8 h
  exact ⟨_,h,.inr ⟨_,_,rfl,rfl,h2 _ fun a ha=>(h1 a ha).resolve_left (by simp)⟩⟩
 ·obtain ⟨s,fr,h,_,h1,h2⟩:=b5Y h
  exact ⟨_,h,.inl (h2 _ fun a ha=>(h1 a ha).resolve_left (by simp))⟩
section
variable {P:Program} {X:XC}
theorem aw9 {g:FuncId} {args:List S} {H H1:Hp} {r r':S} (h:a8 P g args (H.map a3H) r H1) (hok:args.all (okS H.length)=true) (hrows:∀k ∈ H,∀row ∈ k.rows,okL H.length row=true)
 (hv:VYR H1 (fun id=>H.length<=id) r r'):N1 P g args H r' []:=by
 refine ⟨h.1,fun w ι M vals hl hv0 hH hM hf=>?_⟩
 have hinv:∀(id:Nat) (k:Blk),(H.map a3H)[id]? =some k->∃k0,H[id]? =some k0∧k=a3H k0∧id<H.length:=fun id k hk=>by
  rw [lba] at hk
  cases h0:H[id]? with
  |none=>rw [h0] at hk;cases hk
  |some k0=>
   rw [h0] at hk
   injection hk with hk
   exact ⟨k0,rfl,hk.symm,(lbe.1 h0).1⟩
 have hnl:∀b,¬a2i (a2b H.length ι) (H.map a3H) b:=by
  rintro b ⟨id,k,cap,size,hk,hm,_⟩
  obtain ⟨k0,_,rfl,_⟩:=hinv id k hk
  exact (a2a k0).2.2.2.2.1 hm
 have hcut:∀id l,a2b H.length ι id=some l->ι id=some l:=fun id l hl=>by
  unfold a2b at hl
  split at hl
  ·exact hl
  ·cases hl
 have hHo:j3 w (a2b H.length ι) M (H.map a3H):=by
  refine ⟨fun id k hk hd l hl=>?_,fun id k hk hm=>?_,fun id k hk hm b cap size hi=>?_,fun id id' k k' hk _ hm=>?_,fun id id' k k' _ hk' _ hm=>?_⟩
  ·obtain ⟨k0,h0,rfl,hlt⟩:=hinv id k hk
   obtain ⟨e1,e2,e3,e4,e5,e6,e7⟩:=a2a k0
   have hb:=hH.blk id k0 h0 (e6 hd) l (hcut id l hl)
   cases l with
   |nil=>show (a3H k0).rows=[];rw [e3];exact hb
   |blk b cap size=>
    obtain ⟨q1,q2,q3,q4,q5,cur,q6,q7,q8⟩:=hb
    refine ⟨by rw [e2];exact q1,q2,by rw [e3];exact q3,a0L.of e4.symm q4,by rw [e3];exact q5,cur,by rw [N7 e4 e1 e2 (congrArg List.length e3)];exact q6,q7,fun i j c hc=>?_⟩
    rw [e3] at hc
    obtain ⟨u,hu,hr⟩:=q8 i j c hc
    obtain ⟨row,r1,r2⟩:=x5 hc
    exact ⟨u,hu,RL.cut row (hrows k0 (lbm h0) row (lbm r1)) c (lbm r2) u hr⟩
  ·obtain ⟨k0,_,rfl,_⟩:=hinv id k hk
   exact absurd hm (a2a k0).2.2.2.2.1
  ·obtain ⟨k0,h0,rfl,_⟩:=hinv id k hk
   exact hH.fro id k0 h0 ((a2a k0).2.2.2.2.2.2 hm) b cap size (hcut _ _ hi)
  ·obtain ⟨k0,_,rfl,_⟩:=hinv id k hk
   exact absurd hm (a2a k0).2.2.2.2.1
  ·obtain ⟨k0,_,rfl,_⟩:=hinv id' k' hk'
   exact absurd hm (a2a k0).2.2.2.2.1
 have:=h.2 w (a2b H.length ι) M vals hl (fun j s hj=>(hv0 j s hj).cut (lbw.1 hok s (lbm hj))) hHo hM (fun id hid=>by
  unfold a2b
  rw [lbr] at hid
  rw [if_neg (by omega)])
 refine Calls.mono this ?_
 rintro e w' ⟨v,rfl,ι',M',h1,h2,h3,h4,h5⟩
 have hMM:∀b,M b->M' b:=fun b hb=>(h5.mold b hb).resolve_right (hnl b)
 refine ⟨v,rfl,C5.of_none (hv.rs h2 hMM ?_ h1) ⟨h5.os,h5.tape,h5.output,h5.size,fun b hb=>h5.keep b hb (hnl b)⟩⟩
 intro id k b cap size hid hk hg hi hb
 cases hm:k.mode with
 |live=>
  rcases h5.live b ⟨id,k,cap,size,hk,hm,hi⟩ with h|h
  ·exact hnl b h
  ·have:=hM b hb;omega
 |froz=>exact h2.fro id k hk hm b cap size hi (hMM b hb)
 |old=>exact hg (by rw [hm];trivial)
 |dead=>exact hg (by rw [hm];trivial)
theorem Z6 {g:FuncId} {args args':List S} {H:Hp} {r:S} (fr:List Nat) (h:a8 P g args' [] r []) (ha:X2 H (· ∈ fr) args args') (hr:r.isT=true):a8 P g args H r (a1j fr H):=by
 refine ⟨h.1,fun w ι M vals hl hv hH hM hf=>?_⟩
 obtain ⟨hlen,hget⟩:=X2.get ha
 let M0:Ms:=fun b=>M b∧¬∃id k cap size,id ∈ fr∧H[id]? =some k∧k.mode=.live∧ι id=some (.blk b cap size)
 have hM0:∀b,M0 b->M b:=fun b hb=>hb.1
 have:=h.2 w (fun _=>none) M0 vals (by omega) (fun j s hj=>by
  obtain ⟨x,hx,hs⟩:=hget j s hj
  refine hs.rs hH hM0 ?_ (hv j x hx)
  intro id k b cap size hp hk hd hi hb
  cases hm:k.mode with
  |live=>exact hb.2 ⟨id,k,cap,size,hp,hk,hm,hi⟩
  |froz=>exact hH.fro id k hk hm b cap size hi hb.1
  |old=>exact hd (by rw [hm];trivial)
  |dead=>exact hd (by rw [hm];trivial))
  .none (fun b hb=>hM b hb.1) (fun _ _=>rfl)
 refine Calls.mono this ?_
 rintro e w' ⟨v,rfl,ι',M',h1,h2,h3,h4,h5⟩
 have hkeep:∀b,b<w.heap.size->w'.heap[b]? =w.heap[b]?:=fun b hb=>h5.keep b hb (by rintro ⟨id,k,_,_,hk,_⟩;simp at hk)
 have hold:∀b,M0 b->M' b:=fun b hb=>by
  rcases h5.mold b hb with h|⟨id,k,_,_,hk,_⟩
  ·exact h
  ·simp at hk
 refine ⟨v,rfl,ι,M',?_,⟨?_,?_,?_,?_,?_⟩,h3,?_,?_⟩
 ·exact h1.tree hr
 ·intro id k' hk' hd l hll
  obtain ⟨k,hk,e1,e2,e3,hc⟩:=x4 hk'
  have hd':k.mode≠.dead:=by
   rcases hc with ⟨rfl,_⟩|⟨_,h,_⟩
   ·exact hd
   ·rw [h];intro h;cases h
  have hb:=hH.blk id k hk hd' l hll
  cases l with
  |nil=>show k'.rows=[];rw [e3];exact hb
  |blk b cap size=>
   obtain ⟨q1,q2,q3,q4,q5,cur,q6,q7,q8⟩:=hb
   refine ⟨by rw [e2];exact q1,q2,by rw [e3];exact q3,a0L.of (congrArg Prod.snd e1).symm q4,by rw [e3];exact q5,cur,by rw [N7 (congrArg Prod.snd e1) (congrArg Prod.fst e1) e2 (congrArg List.length e3)];exact (hkeep b (x9 q6)).trans q6,q7,fun i j c hc=>?_⟩
   rw [e3] at hc
   obtain ⟨u,hu,hr⟩:=q8 i j c hc
   refine ⟨u,hu,hr.keep (fun b hb _=>hkeep b hb) (fun b hb=>?_) (fun _ _ h=>h)⟩
   rcases h5.mnew b hb with h|h
   ·exact .inl h.1
   ·exact .inr h
 ·intro id k' hk' hl' b cap size hi
  obtain ⟨k,hk,e1,e2,e3,hc⟩:=x4 hk'
  rcases hc with ⟨rfl,hc⟩|⟨_,_,h⟩
  ·refine hold b ⟨hH.liv id k' hk hl' b cap size hi,?_⟩
   rintro ⟨id2,k2,cap2,size2,n1,n2,n3,n4⟩
   have:=hH.inj id id2 k' k2 hk n2 hl' n3 _ _ _ _ _ hi n4
   subst this
   rcases hc with hc|hc
   ·exact hc n1
   ·exact hc hl'
  ·rw [h] at hl';cases hl'
 ·intro id k' hk' hl' b cap size hi hb
  obtain ⟨k,hk,e1,e2,e3,hc⟩:=x4 hk'
  have hlt:b<w.heap.size:=by
   have hd:k.mode≠.dead:=by
    rcases hc with ⟨rfl,_⟩|⟨_,h,_⟩
    ·rw [hl'];intro h;cases h
    ·rw [h];intro h;cases h
   obtain ⟨_,_,_,_,_,cur,q6,_⟩:=hH.blk id k hk hd _ hi
   exact x9 q6
  rcases h5.mnew b hb with h|h
  ·rcases hc with ⟨rfl,_⟩|⟨n1,n2,_⟩
   ·exact hH.fro id k' hk hl' b cap size hi h.1
   ·exact h.2 ⟨id,k,cap,size,n1,hk,n2,hi⟩
  ·omega
 ·intro id id' k1 k2 hk1 hk2 hm1 hm2
  obtain ⟨k,hk,e1,e2,e3,hc⟩:=x4 hk1
  obtain ⟨k',hk',e1',e2',e3',hc'⟩:=x4 hk2
  rcases hc with ⟨rfl,_⟩|⟨_,_,h⟩
  ·rcases hc' with ⟨rfl,_⟩|⟨_,_,h⟩
   ·exact hH.inj id id' _ _ hk hk' hm1 hm2
   ·rw [h] at hm2;cases hm2
  ·rw [h] at hm1;cases hm1
 ·intro id id' k1 k2 hk1 hk2 hm1 hm2
  obtain ⟨k,hk,e1,e2,e3,hc⟩:=x4 hk1
  obtain ⟨k',hk',e1',e2',e3',hc'⟩:=x4 hk2
  rcases hc with ⟨rfl,_⟩|⟨_,_,h⟩
  ·rcases hc' with ⟨rfl,_⟩|⟨_,_,h⟩
   ·exact hH.old id id' _ _ hk hk' hm1 hm2
   ·rw [h] at hm2;cases hm2
  ·rw [h] at hm1;cases hm1
 ·rw [N6];exact hf
 ·refine ⟨h5.os,h5.tape,h5.output,h5.size,fun b hb _=>hkeep b hb,fun _ _=>rfl,?_,?_,?_,by rw [N6];exact lbS _⟩
  ·intro b hb
   rcases h5.mnew b hb with h|h
   ·exact .inl h.1
   ·exact .inr h
  ·intro b hb
   by_cases hx:∃id k cap size,id ∈ fr∧H[id]? =some k∧k.mode=.live∧ι id=some (.blk b cap size)
   ·obtain ⟨id,k,cap,size,n1,n2,n3,n4⟩:=hx
    exact .inr ⟨id,k,cap,size,n2,n3,n4⟩
   ·exact .inl (hold b ⟨hb,hx⟩)
  ·rintro b ⟨id,k',cap,size,hk',hl',hi⟩
   obtain ⟨k,hk,e1,e2,e3,hc⟩:=x4 hk'
   rcases hc with ⟨rfl,_⟩|⟨_,_,h⟩
   ·exact .inl ⟨id,k',cap,size,hk,hl',hi⟩
   ·rw [h] at hl';cases hl'
theorem Z3 {fr:List Nat} {H:Hp} {i:Nat}:(a1j fr H)[i]? =(H[i]?).map (a0u fr i):=by
 have:=a42 fr H 0 i
 rwa [y3] at this
theorem aj0 {H:Hp}:a1j [] H=H:=by
 apply I6
 intro i
 rw [Z3]
 cases H[i]?<;>rfl
theorem a8v {id:Nat} {r:List Nat} {H:Hp}:a1j r (a1j [id] H)=a1j (id::r) H:=by
 apply I6
 intro i
 rw [Z3,Z3,Z3]
 cases H[i]? with
 |none=>rfl
 |some k=>
  obtain ⟨m,e,s,rows,b,a,p⟩:=k
  simp only [a0n,a0u,aG0,List.any_nil,a9I]
  cases Nat.beq i id<;>cases (r.any (Nat.beq i))<;>cases m<;>rfl
theorem a91 {id:Nat} {H:Hp} {k:Blk} (hk:H[id]? =some k) (hm:k.mode=.live):a1j [id] H=H.set id { k with mode:=.froz }:=by
 apply I6
 intro i
 rw [Z3,lbg]
 have hlt:=(lbe.1 hk).1
 by_cases hi:id=i
 ·subst hi
  rw [if_pos rfl,if_pos hlt,hk]
  simp only [a0n,a0u,aG0,List.any_nil,a9I,a6j,hm]
 ·rw [if_neg hi]
  have hb:Nat.beq i id=false:=by
   cases hb:Nat.beq i id with
   |false=>rfl
   |true=>exact absurd (n7 hb).symm hi
  cases H[i]? with
  |none=>rfl
  |some k'=>simp [a0u,hb]
theorem ae0 {id:Nat} {H:Hp} {k:Blk} (hk:H[id]? =some k) (hm:k.mode≠.live):a1j [id] H=H:=by
 apply I6
 intro i
 rw [Z3]
 by_cases hi:id=i
 ·subst hi
  rw [hk]
  obtain ⟨m,e,s,rows,b,a,p⟩:=k
  cases m<;>first|exact absurd rfl hm|simp [a0u]
 ·have hb:Nat.beq i id=false:=by
   cases hb:Nat.beq i id with
   |false=>rfl
   |true=>exact absurd (n7 hb).symm hi
  cases H[i]? with
  |none=>rfl
  |some k'=>simp [a0u,hb]
theorem ay8:∀{fr:List Nat} {H:HT} {K:HT->Bool},b6A noE fr H K=true->∃H',K H'=true∧H'.toL=a1j fr H.toL
 |[],H,K,h=>⟨H,h,aj0.symm⟩
 |id::r,H,K,h=>by
  unfold b6A at h
  obtain ⟨b,hb,h⟩:=HT.getX_iff.1 h
  split at h
  ·obtain ⟨H1,h,e1⟩:=HT.setX_to h
   obtain ⟨H2,h,e2⟩:=ay8 h
   refine ⟨H2,h,?_⟩
   rw [e2,e1,←a91 hb rfl,a8v]
  ·rename_i hn
   obtain ⟨H2,h,e2⟩:=ay8 h
   refine ⟨H2,h,?_⟩
   rw [e2,←a8v,ae0 hb]
   intro hm
   obtain ⟨m,e,s,rows,bx,a,p⟩:=b
   have hm:m=.live:=hm
   subst hm
   exact hn _ _ _ _ _ _ rfl
def b7l (P:Program) (ih:FuncId->List S->HT->(S->HT->Bool)->Bool):Prop:=∀g args H K,ih g args H K=true->∃r H',a8 P g args H.toL r H'.toL∧K r H'=true
theorem b89 {ih:FuncId->List S->HT->(S->HT->Bool)->Bool} (h:b7l P ih):a7I P fun g args H _ K=>ih g args H K:=fun g args H Kq Kg hk=>by
 obtain ⟨r,H',h1,h2⟩:=h _ _ _ _ hk
 exact b41 h1 h2
theorem b37 {ih:FuncId->List S->HT->(S->HT->Bool)->Bool} (h:b7l P ih):a7I P (b0Z noE ih):=fun g args H Kq Kg hk=>by
 obtain ⟨n,t⟩:=H
 obtain ⟨h0,hk⟩:=m7 hk
 simp only [lbO] at h0
 obtain ⟨r,H',h1,h2⟩:=h _ _ _ _ hk
 rw [b7T] at h1
 obtain ⟨r',h2,h3⟩:=aR3 h2
 have hn:(HT.toL ⟨n,t⟩).length=n:=HT.len _
 refine b2Y (aw9 (r':=r') h1 (by rw [hn];exact h0.1) (fun k hkm row hr=>?_) (by rw [hn];exact h3)) h2
 rw [hn]
 obtain ⟨i,hi⟩:=List.getElem?_of_mem hkm
 unfold HT.toL at hi
 rw [F3] at hi
 split at hi
 ·injection hi with hi
  subst hi
  exact b24 (aJ1 (W5 h0.2) i) row hr
 ·cases hi
theorem aL8 {args:List S}:∀{l:List (List S × S)} {K:S->Bool} {d:Bool},b1G args l K d=true->(∃ r,(args,r) ∈ l∧K r=true)∨d=true
 |[],K,d,h=>.inr h
 |(xsa,r)::l,K,d,h=>by
  have q:cond (a5h eqS args xsa) (K r) (b1G args l K d)=true:=h
  cases he:a5h eqS args xsa with
  |true=>
   rw [he] at q
   have e:=a1e (fun _ _ h=>aD3 h) he
   exact .inl ⟨r,by rw [e];exact R3,q⟩
  |false=>
   rw [he] at q
   rcases aL8 q with ⟨r',h1,h2⟩|q
   ·exact .inl ⟨r',T9 _ h1,h2⟩
   ·exact .inr q
theorem b9a (hX:XOK P X) {g:FuncId} {args:List S} {H:HT} {K:S->HT->Bool} {d:Bool} (h:b8z noE (X.orc g) args H K d=true):(∃ r H',a8 P g args H.toL r H'.toL∧K r H'=true)∨d=true:=by
 unfold b8z at h
 split at h
 ·exact .inr h
 ·obtain ⟨xsa,fr,h,_,_,h1⟩:=aE8 h
  rcases aL8 h with ⟨r,h2,h⟩|h
  ·obtain ⟨H',h,e⟩:=ay8 h
   obtain ⟨h3,h4⟩:=hX.orc _ _ _ h2
   exact .inl ⟨r,H',by rw [e];exact Z6 fr h3 (h1 _ fun a ha=>ha) h4,h⟩
  ·exact .inr h
theorem b2r {rs:List (List T)} (h:(rs.all fun r=>Nat.beq r.length 1)=true):∀r ∈ rs,r.length=1:=fun r hr=>n7 (lbw.1 h r hr)
theorem b0M:∀{rows:List (List C)} {rs:List (List T)},a2o rows=some rs->rows=toC rs
 |[],rs,h=>by simp only [a2o,lb4] at h;subst h;rfl
 |x::r,rs,h=>by
  simp only [a2o] at h
  split at h
  ·rename_i a b h1 h2
   injection h with h
   subst h
   have e:∀{x:List C} {a:List T},a6U x=some a->x=a.map C.t:=by
    intro x
    induction x with
    |nil=>intro a h;simp only [a6U,lb4] at h;subst h;rfl
    |cons y x ih=>
     intro a h
     cases y with
     |t y=>
      simp only [a6U] at h
      split at h
      ·rename_i xs hx
       injection h with h
       subst h
       rw [ih hx];rfl
      ·cases h
     |_=>cases h
   rw [e h1,b0M h2];rfl
  ·cases h
theorem b6Y (hX:XOK P X) {g:FuncId} (hg:X.clip g=true) {args:List S} {H:HT} {K:S->HT->Bool} (h:b2L noE args H K=true):∃r H',a8 P g args H.toL r H'.toL∧K r H'=true:=by
 unfold b2L at h
 split at h
 ·refine ⟨_,H,?_,h⟩
  have:=Z6 (H:=H.toL) [] (hX.clip g hg [] (by simp)) (args:=[.c (.t (.sl 0 .nil []))]) ⟨show VY _ _ _ _ from .vc (aD0 rfl),trivial⟩ rfl
  rwa [aj0] at this
 ·rename_i id lo len app
  obtain ⟨b,hb,h⟩:=HT.getX_iff.1 h
  split at h
  ·rename_i e s rows bx ap
   obtain ⟨h0,h⟩:=m7 h
   simp only [lbO,a8O] at h0
   have hs:=n7 h0.1
   simp only [P8,S4] at h
   rcases a4J h with ⟨rs,h1,h⟩|⟨_,h⟩
   ·obtain ⟨h2,h⟩:=m7 h
    obtain ⟨H',h,e1⟩:=HT.setX_to h
    refine ⟨_,H',?_,h⟩
    have hc:=b0M h1
    have:=Z6 (H:=H.toL) [id] (hX.clip g hg rs (b2r h2)) (args:=[.c (.own id lo len app)]) ⟨show VY _ _ _ _ from .vc (aX9 (by simp) hb (fun h=>h) hs h0.2 hc rfl),trivial⟩ rfl
    rwa [a91 hb rfl,←e1] at this
   ·exact f6 h
  ·rename_i e s rows bx ap
   obtain ⟨h0,h⟩:=m7 h
   simp only [lbO,a8O] at h0
   have hs:=n7 h0.1
   simp only [P8,S4] at h
   rcases a4J h with ⟨rs,h1,h⟩|⟨_,h⟩
   ·obtain ⟨h2,h⟩:=m7 h
    refine ⟨_,H,?_,h⟩
    have hc:=b0M h1
    have:=Z6 (H:=H.toL) [id] (hX.clip g hg rs (b2r h2)) (args:=[.c (.own id lo len app)]) ⟨show VY _ _ _ _ from .vc (aX9 (by simp) hb (fun h=>h) hs h0.2 hc rfl),trivial⟩ rfl
    rwa [ae0 hb (by intro h;cases h)] at this
   ·exact f6 h
  ·exact f6 h
 ·exact f6 h
theorem b6j (hX:XOK P X) (n:Nat):b7l P (b9m X noE n):=by
 suffices key:∀m:Nat,b7l P (Nat.rec (motive:=fun _=>FuncId->List S->HT->(S->HT->Bool)->Bool) (fun _ _ _ _=>noE 227) (fun _ ih g args H K=>cond (X.clip g) (b2L noE args H K) (b8z noE (X.orc g) args H K (match X.fns g with
  |none=>noE (1000+g)
  |some fn=>match fn.body with
   |none=>noE 238
   |some c=>b99 noE args fn.ntmps fun env=>aU8 X (fun m=>noE (m*1000+g)) (fun g args H _ K=>ih g args H K) (b0Z (fun m=>noE (m*1000+g)) ih) n c env H fun x env' H1=>match x with
    |.exit _=>noE 239
    |.normal=>a4K X noE fn env' H1 fun s=>K s H1
    |.ret=>a4K X noE fn env' H1 fun s=>K s H1))) m) by exact key n
 intro m
 induction m with
 |zero=>intro g args H K h;exact f6 h
 |succ m ih=>
  intro g args H K h
  simp only at h
  cases hg:X.clip g with
  |true=>rw [hg] at h;exact b6Y hX hg h
  |false=>
   rw [hg,cond_false] at h
   rcases b9a hX h with h|h
   ·exact h
   ·split at h
    ·exact f6 h
    ·rename_i fn hfn
     obtain ⟨hf,hn⟩:=hX.fns _ _ hfn
     split at h
     ·exact f6 h
     ·rename_i c hb
      obtain ⟨e0,h,ee⟩:=b7B h
      obtain ⟨x,e1,H1,h,h1⟩:=b6R hX (b89 ih) (b37 ih) (n0:=H.toL.length) c h
      rw [ee] at h1
      cases x with
      |exit j=>exact f6 h
      |normal=>
       obtain ⟨s,h,h2⟩:=aj1 h
       exact ⟨s,H1,ap0 hX.tab hf hb hn (h1 _ (h2 _ ⟨rfl,rfl⟩)),h⟩
      |ret=>
       obtain ⟨s,h,h2⟩:=aj1 h
       exact ⟨s,H1,ap0 hX.tab hf hb hn (h1 _ (h2 _ ⟨rfl,rfl⟩)),h⟩
theorem aS7 {g:FuncId} {args:List S} {r:S} (h:N1 P g args [] r []):a8 P g args [] r []:=
 ⟨h.1,fun w ι M vals hl hv hH hM hF=>Calls.mono (h.2 w ι M vals hl hv hH hM (by simp)) (by rintro e w' ⟨v,rfl,hq⟩;exact ⟨v,rfl,hq.gpost hH hM hF⟩)⟩
theorem a25 (hX:XOK P X) (n:Nat) {g:FuncId} {args:List S} {r:S} (ha:args.all (okS 0)=true) (h:b9m X noE n g args H0X (fun s H=>b2j noE 0 H s fun s=>match s,r with
 |.tup l,.tup l'=>a5h eqS l l'
 |s,r=>eqS s r)=true):a8 P g args [] r []:=by
 obtain ⟨s,H',h1,h2⟩:=b6j hX n _ _ _ _ h
 obtain ⟨r',h2,h3⟩:=aR3 h2
 have e:r'=r:=by
  split at h2
  ·rw [a1e (fun _ _ h=>aD3 h) h2]
  ·exact aD3 h2
 subst e
 have e0:HT.toL H0X=[]:=rfl
 rw [e0] at h1
 exact aS7 (aw9 (H:=[]) h1 ha (by simp) h3)
end
end
theorem b4a {P:Program} {t:TypeId} (hu:P.underlying t=some (.int .i64)):aN2 P t 1 where
 ck b ks w h:=by
  obtain ⟨a,rfl⟩:=aD9.1 h
  exact MapKept.run_checkKey hu (show MapKept.IsKey (.int .i64) (.int .i64 a) from rfl) b 9999
 fnd ks es ls w h he hl:=by
  obtain ⟨a,rfl⟩:=aD9.1 h
  have key:∀(es:List MapEntry) (ls:List (List Int)) (i:Nat),es.map (·.key)=ls.map a3w->(∀ l ∈ ls,l.length=1)->Instr.findNow (.int .i64) (.int .i64 a) es i=some (a3Y [a] ls es i):=by
   intro es
   induction es with
   |nil=>intro ls i _ _;cases ls<;>rfl
   |cons e es ih=>
    intro ls i he hl
    cases ls with
    |nil=>simp at he
    |cons l ls=>
     simp only [a3q,List.cons.injEq] at he
     obtain ⟨b,rfl⟩:=aD9.1 (hl l (by simp))
     have ih:=ih ls (i+1) he.2 fun l hl'=>hl l (by simp [hl'])
     have hk:e.key=.int .i64 b:=he.1
     unfold Instr.findNow a3Y
     rw [hk]
     have e1:Instr.sameNow (.int .i64) (.int .i64 a) (.int .i64 b)=some (a == b):=by simp [Instr.sameNow]
     have e2:(([a]:List Int) == [b])=(a == b):=by simp
     rw [e1,e2]
     cases a == b with
     |true=>rfl
     |false=>exact ih
  have:=key es ls 0 he hl
  show (Instr.findKey t (.int .i64 a) es).run P w=_
  simp [Instr.findKey,run_underlying hu,this]
theorem av4 {P:Program} {t:TypeId} {n:Nat} {d:TypeDesc} (h2:2<=n) (hu:P.underlying t=some d)
 (ck:∀(b:Bool) (ks:List Int) (w:World),ks.length=n->(Instr.checkKey b 10000 t (a3w ks)).run P w=.ok () w)
 (eq:∀(ks ls:List Int) (w:World),ks.length=n->ls.length=n->(Op.equal t (a3w ks) (a3w ls)).run P w=.ok (ks == ls) w):aN2 P t n where
 ck:=ck
 fnd ks es ls w h he hl:=by
  have asks:∀(es:List MapEntry) (ls:List (List Int)) (i:Nat),es.map (·.key)=ls.map a3w->(∀ l ∈ ls,l.length=n)->(Instr.findAsking t (a3w ks) es i).run P w=.ok (a3Y ks ls es i) w:=by
   intro es
   induction es with
   |nil=>intro ls i _ _;cases ls<;>simp [Instr.findAsking,a3Y]
   |cons e es ih=>
    intro ls i he hl
    cases ls with
    |nil=>simp at he
    |cons l ls=>
     simp only [a3q,List.cons.injEq] at he
     have ih:=ih ls (i+1) he.2 fun l hl'=>hl l (by simp [hl'])
     have q:=eq ks l w h (hl l (by simp))
     unfold Instr.findAsking a3Y
     rw [he.1]
     cases hk:ks == l with
     |true=>rw [hk] at q;simp [q]
     |false=>rw [hk] at q;simp [q,ih]
  have now:∀(es:List MapEntry) (ls:List (List Int)) (i:Nat),es.map (·.key)=ls.map a3w->(∀ l ∈ ls,l.length=n)->Instr.findNow d (a3w ks) es i=none∨(es=[]∧Instr.findNow d (a3w ks) es i=some none):=by
   intro es ls i he hl
   cases es with
   |nil=>exact .inr ⟨rfl,rfl⟩
   |cons e es=>
    cases ls with
    |nil=>simp at he
    |cons l ls=>
     simp only [a3q,List.cons.injEq] at he
     refine .inl ?_
     unfold Instr.findNow
     rw [he.1,a6x (l:=ks) (by omega),a6x (l:=l) (by have:=hl l (by simp);omega)]
     cases d<;>rfl
  rcases now es ls 0 he hl with hn|⟨rfl,hn⟩
  ·simp [Instr.findKey,run_underlying hu,hn,asks es ls 0 he hl]
  ·cases ls<;>simp [Instr.findKey,run_underlying hu,hn,a3Y]
theorem ae2 {P:Program} {t:TypeId} {z:Value} (h:(P.info? t).bind (·.zero)=some z) (w:World):(zeroValue t).run P w=.ok z w:=by
 cases hi:P.info? t with
 |none=>rw [hi] at h;cases h
 |some i=>
  rw [hi] at h
  have h:i.zero=some z:=h
  simp [zeroValue,typeInfo,hi,h]
theorem b60:aN2 Tryz.prog 341 2:=by
 have hS:Tryz.prog.underlying 341=some (.struct (Tryz.prog.fieldsOf 341)):=by kernel_rfl
 have u3:=Tryz.underlying3
 have a3:=Tryz.isAgg3
 have z3:=Tryz.sizeOf3
 refine av4 (by decide) hS (fun b ks w h=>?_) (fun us vs w h1 h2=>?_)
 ·match ks,h with
  |[a,c],_=>
   show (Instr.checkKey b (9999+1) 341 (.agg #[.int .i64 a,.int .i64 c])).run Tryz.prog w=_
   rw [Instr.checkKey]
   simp only [Sem.run_bind,run_underlying hS,Result.andThen_ok]
   simp only [Program.fieldsOf,Tryz.underlying341]
   have ck:∀x:Int,(Instr.checkKey b 9999 3 (.int .i64 x)).run Tryz.prog w=.ok () w:=fun x=>by
    rw [show (9999:Nat)=9998+1 from rfl,Instr.checkKey]
    simp [run_underlying u3]
   rw [← Array.forIn_toList]
   simp only [List.forIn_cons,List.forIn_nil]
   go_simp
 ·match us,vs,h1,h2 with
  |[a,b],[a',b'],_,_=>
   have hp:Tryz.prog.stoodInHeld 341=false:=by kernel_rfl
   show (Op.equalIn 10000 341 (.agg #[.int .i64 a,.int .i64 b]) (.agg #[.int .i64 a',.int .i64 b'])).run Tryz.prog w=_
   rw [show (10000:Nat)=9999+1 from rfl,run_equalIn_agg w 9999 341 _ _ hS hp]
   simp only [Program.fieldsOf,Tryz.underlying341]
   go_simp
   by_cases h1:a=a'<;>by_cases h2:b=b'<;>simp [h1,h2]
theorem b6W:aN2 Tryz.prog 253 2:=by
 have hS:Tryz.prog.underlying 253=some (.array 2 3):=by kernel_rfl
 have u3:=Tryz.underlying3
 have a3:=Tryz.isAgg3
 have z3:=Tryz.sizeOf3
 refine av4 (by decide) hS (fun b ks w h=>?_) (fun us vs w h1 h2=>?_)
 ·match ks,h with
  |[a,c],_=>
   show (Instr.checkKey b (9999+1) 253 (.agg #[.int .i64 a,.int .i64 c])).run Tryz.prog w=_
   rw [Instr.checkKey]
   simp only [Sem.run_bind,run_underlying hS,Result.andThen_ok]
   have ck:∀x:Int,(Instr.checkKey b 9999 3 (.int .i64 x)).run Tryz.prog w=.ok () w:=fun x=>by
    rw [show (9999:Nat)=9998+1 from rfl,Instr.checkKey]
    simp [run_underlying u3]
   simp only [Std.Legacy.Range.forIn_eq_forIn_range',Std.Legacy.Range.size,Nat.sub_zero,a5T,Nat.div_one,List.range'_succ,List.range'_zero,List.forIn_cons,List.forIn_nil]
   go_simp
 ·match us,vs,h1,h2 with
  |[a,b],[a',b'],_,_=>
   show (Op.equalIn (9999+1) 253 (.agg #[.int .i64 a,.int .i64 b]) (.agg #[.int .i64 a',.int .i64 b'])).run Tryz.prog w=_
   rw [Op.equalIn]
   simp only [Sem.run_bind,run_underlying hS,Result.andThen_ok]
   have eqi:∀x y:Int,(Op.equalIn 9999 3 (.int .i64 x) (.int .i64 y)).run Tryz.prog w=.ok (x == y) w:=fun x y=>by
    rw [show (9999:Nat)=9998+1 from rfl,Op.equalIn]
    simp [run_underlying u3]
   simp only [z3,Result.andThen_ok,Std.Legacy.Range.forIn_eq_forIn_range',Std.Legacy.Range.size,Nat.sub_zero,a5T,Nat.div_one,List.range'_succ,List.range'_zero,List.forIn_cons,List.forIn_nil]
   go_simp
   by_cases h1:a=a'<;>by_cases h2:b=b'<;>simp [eqi,h1,h2]
theorem b4I (t kt e:TypeId) (z:Value) (m:Nat) (h:b68 t=some (kt,e,z,m)):b0t Tryz.prog t kt e z m:=by
 unfold b68 at h
 cases h1:Nat.beq t 353 with
 |true=>
  rw [h1] at h
  obtain ⟨rfl,rfl,rfl,rfl⟩:3=kt∧4=e∧Value.bool false=z∧1=m:=by simpa using h
  rw [n7 h1]
  exact ⟨by kernel_rfl,b4a (by kernel_rfl),by decide,ae2 (by kernel_rfl),rfl⟩
 |false=>
  rw [h1] at h
  cases h2:Nat.beq t 305 with
  |true=>
   rw [h2] at h
   obtain ⟨rfl,rfl,rfl,rfl⟩:341=kt∧60=e∧Value.slice none 0 0=z∧2=m:=by simpa using h
   rw [n7 h2]
   exact ⟨by kernel_rfl,b60,by decide,ae2 (by kernel_rfl),rfl⟩
  |false=>
   rw [h2] at h
   cases h3:Nat.beq t 198 with
   |true=>
    rw [h3] at h
    obtain ⟨rfl,rfl,rfl,rfl⟩:253=kt∧201=e∧Value.pointer none=z∧2=m:=by simpa using h
    rw [n7 h3]
    exact ⟨by kernel_rfl,b6W,by decide,ae2 (by kernel_rfl),rfl⟩
   |false=>rw [h3] at h;cases h
theorem b7y (rows:List (List T)):a8 Tryz.prog 145 [.c (.t (.sl 1 .any rows))] [] (.c (.t (.sl 1 .full rows))) []:=by
 (refine ac Tryz.func145 ?_;(conv=>whnf);repeat (refine zy ?_;conv=>whnf))
 repeat' (first|refine zx ?_|refine ⟨⟨by omega,by omega,by omega,by omega⟩,?_⟩|refine zd ?_ ?_<;>intro h<;>try omega|fail)<;>conv=>whnf
 all_goals first
  |exact l9 (show a9d [] _ _ _ from by rw [lbY,lbn (lbS _)];rfl)
theorem aa3 {orc:FuncId->List (List S × S)} (h:∀g args r,(args,r) ∈ orc g->a8 Tryz.prog g args [] r []∧r.isT=true):XOK Tryz.prog (xcR orc):=
 bd3 c9 (by kernel_rfl) b4I (fun _ _ h=>nomatch h) (fun g hg rows _=>by rw [n7 hg];exact b7y rows) h
theorem b13 (g:FuncId) (args:List S) (r:S) (h:(args,r) ∈ (fun _:FuncId=>([]:List (List S × S))) g):a8 Tryz.prog g args [] r []∧r.isT=true:=nomatch h
theorem b3S:a8 Tryz.prog 45 [aN1,shX,.c (.t b0D)] [] (.tup [.c (.t b0D),.c (iC 0)]) []:=a25 (aa3 b13) 60 rfl (by kernel_rfl)
theorem b33:a8 Tryz.prog 45 [aN1,shX,b3d 1] [] (.tup [b9u,.c (iC 0)]) []:=a25 (aa3 b13) 60 rfl (by kernel_rfl)
theorem b38:a8 Tryz.prog 45 [aN1,shX,b3d 2] [] (.tup [.c (.t b0D),.c (iC 4)]) []:=a25 (aa3 b13) 60 rfl (by kernel_rfl)
theorem b1w (g:FuncId) (args:List S) (r:S) (h:(args,r) ∈ bb1 g):a8 Tryz.prog g args [] r []∧r.isT=true:=by
 unfold bb1 at h
 cases hg:Nat.beq g 45 with
 |true=>
  rw [hg,cond_true] at h
  rw [n7 hg]
  rcases lbB.1 h with h|h
  ·injection h with h1 h2;subst h1 h2;exact ⟨b3S,rfl⟩
  ·rcases lbB.1 h with h|h
   ·injection h with h1 h2;subst h1 h2;exact ⟨b33,rfl⟩
   ·rcases lbB.1 h with h|h
    ·injection h with h1 h2;subst h1 h2;exact ⟨b38,rfl⟩
    ·cases h
 |false=>rw [hg] at h;cases h
theorem b0e:a8 Tryz.prog 51 [aN1,shX,b3d 2] [] (.tup [b5e,.c (iC 0)]) []:=a25 (aa3 b1w) 60 rfl (by kernel_rfl)
theorem b8R (g:FuncId) (args:List S) (r:S) (h:(args,r) ∈ bi7 g):a8 Tryz.prog g args [] r []∧r.isT=true:=by
 unfold bi7 at h
 cases hg:Nat.beq g 51 with
 |true=>
  rw [hg,cond_true] at h
  rw [n7 hg]
  rcases lbB.1 h with h|h
  ·injection h with h1 h2;subst h1 h2;exact ⟨b0e,rfl⟩
  ·cases h
 |false=>rw [hg] at h;exact b1w g args r h
theorem aT1:a8 Tryz.prog 4 [] [] (d9 true) []:=a25 (aa3 b8R) 60 rfl (by kernel_rfl)
end Go.Proofs.YtpjgpclheebhkaaGreat
