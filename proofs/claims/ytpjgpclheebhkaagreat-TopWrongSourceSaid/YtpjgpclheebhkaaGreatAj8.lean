/- Chapter 21 in plain Lean: the system of a kind of foreign matter, and its solutions. No program is in sight. -/
import Derived.Test.YtpjgpclheebhkaaGreatAj7
namespace Go.Proofs.YtpjgpclheebhkaaGreat
set_option linter.unusedVariables false
set_option linter.unusedSimpArgs false
set_option maxRecDepth 100000
open Go.RowKit
open St1 St2 St3 St4 St5 St6 St7 St8 StA StB
theorem b40 {t:j9} {kind:Int} (ht:q9 t=0) (hm:t.ev.moves.length<=8) {g:List (Int × Rat)} (hg:d8 (-1) (t.ev.moves.length:Nat) g=true) (hw:E3 g) {v:a2r}
 (h1:a0a v.w 10 8=true) (h2:a0a v.wo 10 8=true) (h3:a0a v.pr 40 8=true):b26 (g4 t kind) g v:=by
 have p:=y6 (kind:=kind) ht hm hg hw
 have hI:=b5j (kind:=kind) ht
 have hr:=p.o.r
 have hn:(g4 t kind).n.toNat=t.ev.moves.length:=rfl
 have pt:∀x:List Fr,a0a x 10 8=true->PtF (g4 t kind) g x:=fun x hx=>by
  have hf:=a3Z hx
  refine ⟨b25 hf (by decide) (by decide),fun h=>?_,fun h=>?_⟩
  ·obtain ⟨X,rfl⟩:=L5 h
   have hX:=aE5 (d:=8) hf.2
   rw [O7]
   exact aC9 hr hI (B:=8) (by decide) (by omega) (by have:=hf.1;rw [lbr] at this;omega) hX
  ·obtain ⟨X,rfl⟩:=L5 h
   have hX:=aE5 (d:=8) hf.2
   rw [O7]
   exact aU5 hg hw (by omega) hX
 have rows:∀w ∈ (g4 t kind).rows,(∀ t ∈ w.terms,rl t.2<=11)∧rl w.value<=11:=fun w hw=>⟨fun t ht=>by have:=S3 (hI w hw).1 t ht;omega,(hI w hw).2⟩
 have ml:∀s:d7,(∀ w ∈ s.rows,(∀ t ∈ w.terms,rl t.2<=11)∧rl w.value<=11)->aK0 s v.pr:=fun s hs=>by
  have hf:=a3Z h3
  refine ⟨b25 hf (by decide) (by decide),fun hl h=>?_⟩
  obtain ⟨Y,hY⟩:=L5 h
  rw [hY] at hf hl ⊢
  have hX:=aE5 (d:=8) hf.2
  rw [O7]
  rw [lbr] at hl
  exact b6M (B:=8) (C:=11) (N:=40) hl (by have:=hf.1;rw [lbr] at this;omega) (by decide) hX hs (by decide) (by decide) (by decide)
 refine ⟨pt _ h1,pt _ h2,ml _ fun w hww=>?_,ml _ rows⟩
 rcases lbA.1 hww with h|h
 ·exact rows w h
 ·have h:=az5.1 h
  subst h
  exact ⟨fun t ht=>by have:=S3 hw t ht;omega,by have:=rl0;show rl 0<=11;omega⟩
theorem a68 (t:j9) (h:Int) (hm:t.ev.moves.length<=100):(E6 t.ev h (-1) 0 100000).length<=1000:=by
 have h1:=s6 (K6 t h)
 unfold v8 a3A at h1
 rw [lbr] at h1
 omega
theorem a1I {t:j9} {kind:Int} {n:Nat} (h:ExP t kind n) (i:Nat) (hi:i<n):a8 Tryz.prog 7 [trS t,a7 .i64 kind,b3O (E5 (g4 t kind) (v8 t (i:Int)) (i:Int))] [] (d9 true) []:=by
 have p:=y6 (kind:=kind) h.e h.m (g:=[]) rfl (fun t ht=>by cases ht)
 have e:(E5 (g4 t kind) (v8 t (i:Int)) (i:Int)).hh=i:=a73 _
 have e2:(E5 (g4 t kind) (v8 t (i:Int)) (i:Int)).raw.hh=i:=e
 have hn:=h.h
 have r:=ax3 t kind h.s h.e h.k0 h.k1 (E5 (g4 t kind) (v8 t (i:Int)) (i:Int)).raw (by rw [e2];omega) (by rw [e2];omega) (by have:=h.m;omega) (by have:=p.r;omega) p.sb p.o.r
  (by rw [e2];exact b4c (bb0 h.e h.m (K6 t _) (a0b t _) h.z _)) (b2x t _ (a68 t _ (by have:=h.m;omega)))
 rw [e2,b46 _ (b0c (h.vd _) _)] at r
 exact r
theorem b11 (t:j9) (kind:Int) (v:a2r) (s1:t.Sized) (hm:t.ev.moves.length<=8) (v1:a0a v.w 10 8=true) (v2:a0a v.wo 10 8=true) (v3:a0a v.pr 40 8=true):
 ∃acc:Bool,a8 Tryz.prog 7 [trS t,a7 .i64 kind,a6q v] [] (d9 acc) []∧a8 Tryz.prog 8 [trS t,a7 .i64 kind,a6q v] [] (d9 acc) []∧
  (acc=true->a2P t kind=0∧0<=v.hh∧v.hh<t.ev.hhs∧T5 (g4 t kind) (v8 t v.hh) v=true):=by
 by_cases h:a2P t kind≠0∨v.hh<0∨t.ev.hhs<=v.hh
 ·exact ⟨false,aH0 t kind s1 v h,aN3 t kind s1 v h,fun h=>by cases h⟩
 ·have he:a2P t kind=0:=by omega
  have hk:q9 t=0∧0<=kind∧kind<8:=by
   unfold a2P at he
   by_cases h:q9 t≠0∨kind<0∨8<=kind
   ·rw [if_pos h] at he;cases he
   ·omega
  obtain ⟨k1,k2,k3⟩:=hk
  have p:=y6 (kind:=kind) k1 hm (g:=[]) rfl (fun t ht=>by cases ht)
  have hv:=b40 (kind:=kind) k1 hm (K6 t v.hh) (a0b t _) v1 v2 v3
  refine ⟨_,ax3 t kind s1 k1 k2 k3 v (by omega) (by omega) (by omega) (by have:=p.r;omega) p.sb p.o.r hv (b2x t _ (a68 t _ (by omega))),
   b4o t kind s1 k1 k2 k3 v (by omega) (by omega) (by omega) (by have:=p.r;omega) p.sb p.o.r hv,fun hc=>⟨he,by omega,by omega,hc⟩⟩
set_option maxHeartbeats 16000000 in
theorem a83 (t:j9) (kind:Int) (v:a2r) (z:List Fr):a8 Tryz.prog 3 [trS t,a7 .i64 kind,a6q v,k8 z] [] (d9 true) []:=by
 have wl:=aT1
 have sm:=b4x t.ev 6 2
 have f1:=a37 v.w 10 8 (by decide)
 have f2:=a37 v.wo 10 8 (by decide)
 have f3:=a37 v.pr 40 8 (by decide)
 have f4:=a37 z 10 4 (by decide)
 have m1:(t.finds.map a4D.row).length=t.finds.length:=by simp
 have m2:(t.cleans.map a02.row).length=t.cleans.length:=by simp
 cases h0:a9q t.ev 6 2 with
 |false=>
  rw [h0] at sm
  (refine ac Tryz.func3 ?_;(conv=>whnf);repeat ((first|refine b0x ?_|refine zy ?_);conv=>whnf))
  repeat' (first|refine zx ?_|refine qp wl ?_|refine qp sm ?_|refine zd ?_ ?_<;>intro h<;>try omega|fail)<;>conv=>whnf
  all_goals first
   |omega
   |(exfalso;contradiction)
   |exact b9 rfl
 |true=>
 rw [h0] at sm
 by_cases hf:4<t.finds.length
 ·(refine ac Tryz.func3 ?_;(conv=>whnf);repeat ((first|refine b0x ?_|refine zy ?_);conv=>whnf))
  repeat' (first|refine zx ?_|refine qp wl ?_|refine qp sm ?_|refine zd ?_ ?_<;>intro h<;>try omega|fail)<;>conv=>whnf
  all_goals first
   |omega
   |(exfalso;contradiction)
   |exact b9 rfl
 by_cases hc:4<t.cleans.length
 ·(refine ac Tryz.func3 ?_;(conv=>whnf);repeat ((first|refine b0x ?_|refine zy ?_);conv=>whnf))
  repeat' (first|refine zx ?_|refine qp wl ?_|refine qp sm ?_|refine zd ?_ ?_<;>intro h<;>try omega|fail)<;>conv=>whnf
  all_goals first
   |omega
   |(exfalso;contradiction)
   |exact b9 rfl
 cases h1:a0a v.w 10 8 with
 |false=>
  rw [h1] at f1
  (refine ac Tryz.func3 ?_;(conv=>whnf);repeat ((first|refine b0x ?_|refine zy ?_);conv=>whnf))
  repeat' (first|refine zx ?_|refine qp wl ?_|refine qp sm ?_|refine qp f1 ?_|refine zd ?_ ?_<;>intro h<;>try omega|fail)<;>conv=>whnf
  all_goals first
   |omega
   |(exfalso;contradiction)
   |exact b9 rfl
 |true=>
 rw [h1] at f1
 cases h2:a0a v.wo 10 8 with
 |false=>
  rw [h2] at f2
  (refine ac Tryz.func3 ?_;(conv=>whnf);repeat ((first|refine b0x ?_|refine zy ?_);conv=>whnf))
  repeat' (first|refine zx ?_|refine qp wl ?_|refine qp sm ?_|refine qp f1 ?_|refine qp f2 ?_|refine zd ?_ ?_<;>intro h<;>try omega|fail)<;>conv=>whnf
  all_goals first
   |omega
   |(exfalso;contradiction)
   |exact b9 rfl
 |true=>
 rw [h2] at f2
 cases h3:a0a v.pr 40 8 with
 |false=>
  rw [h3] at f3
  (refine ac Tryz.func3 ?_;(conv=>whnf);repeat ((first|refine b0x ?_|refine zy ?_);conv=>whnf))
  repeat' (first|refine zx ?_|refine qp wl ?_|refine qp sm ?_|refine qp f1 ?_|refine qp f2 ?_|refine qp f3 ?_|refine zd ?_ ?_<;>intro h<;>try omega|fail)<;>conv=>whnf
  all_goals first
   |omega
   |(exfalso;contradiction)
   |exact b9 rfl
 |true=>
 rw [h3] at f3
 cases h4:a0a z 10 4 with
 |false=>
  rw [h4] at f4
  (refine ac Tryz.func3 ?_;(conv=>whnf);repeat ((first|refine b0x ?_|refine zy ?_);conv=>whnf))
  repeat' (first|refine zx ?_|refine qp wl ?_|refine qp sm ?_|refine qp f1 ?_|refine qp f2 ?_|refine qp f3 ?_|refine qp f4 ?_|refine zd ?_ ?_<;>intro h<;>try omega|fail)<;>conv=>whnf
  all_goals first
   |omega
   |(exfalso;contradiction)
   |exact b9 rfl
 |true=>
 rw [h4] at f4
 have hsz:t.Sized∧t.ev.moves.length<=6∧t.ev.hhs<=6:=by
  unfold a9q at h0
  simp only [lbO,lbJ] at h0
  exact ⟨⟨⟨by omega,by omega,by omega,by omega,by omega⟩,by omega,by omega⟩,by omega,by omega⟩
 obtain ⟨s1,s2,s3⟩:=hsz
 obtain ⟨acc,pk,ck,hacc⟩:=b11 t kind v s1 (by omega) h1 h2 h3
 by_cases he:a2P t kind≠0
 ·have ve:=aa9 t kind s1 he
  obtain rfl:acc=false:=by
   cases acc with
   |false=>rfl
   |true=>exact absurd (hacc rfl).1 he
  (refine ac Tryz.func3 ?_;(conv=>whnf);repeat ((first|refine b0x ?_|refine zy ?_);conv=>whnf))
  repeat' (first|refine zx ?_|refine qp wl ?_|refine qp sm ?_|refine qp f1 ?_|refine qp f2 ?_|refine qp f3 ?_|refine qp f4 ?_|refine qp pk ?_|refine qp ck ?_|refine qp ve ?_|refine zd ?_ ?_<;>intro h<;>try omega|fail)<;>conv=>whnf
  all_goals first
   |omega
   |(exfalso;contradiction)
   |exact b9 rfl
 have he:a2P t kind=0:=by omega
 have hk:q9 t=0∧0<=kind∧kind<8:=by
  unfold a2P at he
  by_cases h:q9 t≠0∨kind<0∨8<=kind
  ·rw [if_pos h] at he;cases he
  ·omega
 obtain ⟨k1,k2,k3⟩:=hk
 have p:=y6 (kind:=kind) k1 (by omega) (g:=[]) rfl (fun t ht=>by cases ht)
 rcases b7t p.o.r with hz|⟨r,hr⟩
 rotate_left
 ·have ve:=a7C t kind s1 k1 k2 k3 (by omega) r hr
  obtain rfl:acc=false:=by
   cases acc with
   |false=>rfl
   |true=>
    have:=(hacc rfl).2.2.2
    rw [aR4 (aC6 hr) v] at this;cases this
  (refine ac Tryz.func3 ?_;(conv=>whnf);repeat ((first|refine b0x ?_|refine zy ?_);conv=>whnf))
  repeat' (first|refine zx ?_|refine qp wl ?_|refine qp sm ?_|refine qp f1 ?_|refine qp f2 ?_|refine qp f3 ?_|refine qp f4 ?_|refine qp pk ?_|refine qp ck ?_|refine qp ve ?_|refine zd ?_ ?_<;>intro h<;>try omega|fail)<;>conv=>whnf
  all_goals first
   |omega
   |(exfalso;contradiction)
   |exact b9 rfl
 obtain ⟨n,hn⟩:∃n:Nat,t.ev.hhs=n:=⟨t.ev.hhs.toNat,by have:=(a5X (O9 k1).1).2.2.1;omega⟩
 have hE:ExP t kind n:=⟨s1,k1,k2,k3,by omega,hn,hz⟩
 have ve:=am7 t kind s1 hE.e hE.k0 hE.k1 hE.m n hE.h (by omega) hE.z
 have vl:=a36 t kind n
 have m3:((F6 t kind n).map a0t.row).length=n:=by simp [vl]
 cases acc with
 |false=>
  (refine ac Tryz.func3 ?_;(conv=>whnf);repeat ((first|refine b0x ?_|refine zy ?_);conv=>whnf))
  repeat' (first|refine zx ?_|refine qp wl ?_|refine qp sm ?_|refine qp f1 ?_|refine qp f2 ?_|refine qp f3 ?_|refine qp f4 ?_|refine qp pk ?_|refine qp ck ?_|refine qp ve ?_|refine zd ?_ ?_<;>intro h<;>try omega|fail)<;>conv=>whnf
  all_goals try omega
  refine i3 c9 (fun k=>([J,a7 .i64 kind,J,J,S.c (C.t (T.ptr (trT t))),J,S.c (C.t (T.ptr v.row)),J,J,d9 true,d9 false,J,ad0 (F6 t kind n),J,a7 .i64 k]++Jn 156,[])) n (fun _=>True) [] trivial
   ⟨rfl,rfl,trivial,⟨rfl,rfl,rfl,rfl,rfl,rfl,rfl,trivial⟩⟩ ?_
  intro k hk _
  by_cases hlt:k<n
  ·have hv:(F6 t kind n)[k]? =some (E5 (g4 t kind) (v8 t (k:Int)) (k:Int)):=by unfold F6;simp [hlt]
   have kc:=a1I hE k hlt
   have kh:(E5 (g4 t kind) (v8 t (k:Int)) (k:Int)).hh=k:=a73 _
   generalize E5 (g4 t kind) (v8 t (k:Int)) (k:Int)=x at hv kc kh
   conv=>whnf
   repeat' (first|refine zx ?_|refine qp kc ?_|refine d6 hv ?_|refine zd ?_ ?_<;>intro h<;>try omega|fail)<;>conv=>whnf
   all_goals first
    |omega
    |(exfalso;contradiction)
    |exact ⟨hlt,trivial,[],rfl,rfl,trivial,⟨rfl,rfl,rfl,rfl,rfl,rfl,rfl,trivial⟩⟩
  ·conv=>whnf
   repeat' (first|refine zx ?_|refine zd ?_ ?_<;>intro h<;>try omega|fail)<;>conv=>whnf
   all_goals first
    |omega
    |(exfalso;contradiction)
    |exact b9 rfl
 |true=>
 obtain ⟨_,a1,a2,a3⟩:=hacc rfl
 have hvd:=hE.vd v.hh
 have hfz:=a3Z h4
 have mm:=b6x t kind z s1 (by omega) (fun f hf=>by have:=hfz.2 f hf;omega)
 have hst:∀k:Nat,(k:Int)=v.hh->(E5 (g4 t kind) (v8 t (k:Int)) (k:Int)).state=v.state:=fun k e=>by
  rw [e];exact (aL2 hvd (by have:=p.r;omega) a3 _).symm
 have fin:∀(b:Bool),(P9 t kind z=0->a8 Tryz.prog 10 [evS t.ev,k8 z,a7 .i64 v.hh] [] (d9 b) []∧(v.state=2->b=true)∧(v.state=0->b=false))->
  a8 Tryz.prog 3 [trS t,a7 .i64 kind,a6q v,k8 z] [] (d9 true) []:=by
  intro b hb
  by_cases hm0:P9 t kind z=0
  ·obtain ⟨ws,b2,b0⟩:=hb hm0
   rw [hm0] at mm
   have n2:b=false->v.state≠2:=fun e h=>by have:=b2 h;rw [e] at this;cases this
   have n0:b=true->v.state≠0:=fun e h=>by have:=b0 h;rw [e] at this;cases this
   clear hb b2 b0
   cases b with
   |false=>
    have n2:=n2 rfl
    clear n0
    (refine ac Tryz.func3 ?_;(conv=>whnf);repeat ((first|refine b0x ?_|refine zy ?_);conv=>whnf))
    repeat' (first|refine zx ?_|refine qp wl ?_|refine qp sm ?_|refine qp f1 ?_|refine qp f2 ?_|refine qp f3 ?_|refine qp f4 ?_|refine qp pk ?_|refine qp ck ?_|refine qp mm ?_|refine qp ve ?_|refine qp ws ?_|refine zd ?_ ?_<;>intro h<;>try omega|fail)<;>conv=>whnf
    all_goals try omega
    all_goals
     refine i3 c9 (fun k=>([J,a7 .i64 kind,J,J,S.c (C.t (T.ptr (trT t))),J,S.c (C.t (T.ptr v.row)),J,J,d9 true,d9 true,J,ad0 (F6 t kind n),J,a7 .i64 k]++Jn 156,[])) n (fun _=>True) [] trivial
      ⟨rfl,rfl,trivial,⟨rfl,rfl,rfl,rfl,rfl,rfl,rfl,trivial⟩⟩ ?_
     intro k hk _
     by_cases hlt:k<n
     ·have hv:(F6 t kind n)[k]? =some (E5 (g4 t kind) (v8 t (k:Int)) (k:Int)):=by unfold F6;simp [hlt]
      have kc:=a1I hE k hlt
      have kh:(E5 (g4 t kind) (v8 t (k:Int)) (k:Int)).hh=k:=a73 _
      have ks:=hst k
      generalize E5 (g4 t kind) (v8 t (k:Int)) (k:Int)=x at hv kc kh ks
      conv=>whnf
      repeat' (first|refine zx ?_|refine qp kc ?_|refine d6 hv ?_|refine zd ?_ ?_<;>intro h<;>try omega|fail)<;>conv=>whnf
      all_goals first
       |omega
       |(exfalso;contradiction)
       |exact ⟨hlt,trivial,[],rfl,rfl,trivial,⟨rfl,rfl,rfl,rfl,rfl,rfl,rfl,trivial⟩⟩
       |(exfalso;have:=ks (by omega);omega)
     ·conv=>whnf
      repeat' (first|refine zx ?_|refine zd ?_ ?_<;>intro h<;>try omega|fail)<;>conv=>whnf
      all_goals first
       |omega
       |(exfalso;contradiction)
       |exact b9 rfl
   |true=>
    have n0:=n0 rfl
    clear n2
    (refine ac Tryz.func3 ?_;(conv=>whnf);repeat ((first|refine b0x ?_|refine zy ?_);conv=>whnf))
    repeat' (first|refine zx ?_|refine qp wl ?_|refine qp sm ?_|refine qp f1 ?_|refine qp f2 ?_|refine qp f3 ?_|refine qp f4 ?_|refine qp pk ?_|refine qp ck ?_|refine qp mm ?_|refine qp ve ?_|refine qp ws ?_|refine zd ?_ ?_<;>intro h<;>try omega|fail)<;>conv=>whnf
    all_goals try omega
    all_goals
     refine i3 c9 (fun k=>([J,a7 .i64 kind,J,J,S.c (C.t (T.ptr (trT t))),J,S.c (C.t (T.ptr v.row)),J,J,d9 true,d9 true,J,ad0 (F6 t kind n),J,a7 .i64 k]++Jn 156,[])) n (fun _=>True) [] trivial
      ⟨rfl,rfl,trivial,⟨rfl,rfl,rfl,rfl,rfl,rfl,rfl,trivial⟩⟩ ?_
     intro k hk _
     by_cases hlt:k<n
     ·have hv:(F6 t kind n)[k]? =some (E5 (g4 t kind) (v8 t (k:Int)) (k:Int)):=by unfold F6;simp [hlt]
      have kc:=a1I hE k hlt
      have kh:(E5 (g4 t kind) (v8 t (k:Int)) (k:Int)).hh=k:=a73 _
      have ks:=hst k
      generalize E5 (g4 t kind) (v8 t (k:Int)) (k:Int)=x at hv kc kh ks
      conv=>whnf
      repeat' (first|refine zx ?_|refine qp kc ?_|refine d6 hv ?_|refine zd ?_ ?_<;>intro h<;>try omega|fail)<;>conv=>whnf
      all_goals first
       |omega
       |(exfalso;contradiction)
       |exact ⟨hlt,trivial,[],rfl,rfl,trivial,⟨rfl,rfl,rfl,rfl,rfl,rfl,rfl,trivial⟩⟩
       |(exfalso;have:=ks (by omega);omega)
     ·conv=>whnf
      repeat' (first|refine zx ?_|refine zd ?_ ?_<;>intro h<;>try omega|fail)<;>conv=>whnf
      all_goals first
       |omega
       |(exfalso;contradiction)
       |exact b9 rfl
  ·generalize P9 t kind z=M at mm hm0
   (refine ac Tryz.func3 ?_;(conv=>whnf);repeat ((first|refine b0x ?_|refine zy ?_);conv=>whnf))
   repeat' (first|refine zx ?_|refine qp wl ?_|refine qp sm ?_|refine qp f1 ?_|refine qp f2 ?_|refine qp f3 ?_|refine qp f4 ?_|refine qp pk ?_|refine qp ck ?_|refine qp mm ?_|refine qp ve ?_|refine zd ?_ ?_<;>intro h<;>try omega|fail)<;>conv=>whnf
   all_goals try omega
   all_goals
    refine i3 c9 (fun k=>([J,a7 .i64 kind,J,J,S.c (C.t (T.ptr (trT t))),J,S.c (C.t (T.ptr v.row)),J,J,d9 true,d9 true,J,ad0 (F6 t kind n),J,a7 .i64 k]++Jn 156,[])) n (fun _=>True) [] trivial
     ⟨rfl,rfl,trivial,⟨rfl,rfl,rfl,rfl,rfl,rfl,rfl,trivial⟩⟩ ?_
    intro k hk _
    by_cases hlt:k<n
    ·have hv:(F6 t kind n)[k]? =some (E5 (g4 t kind) (v8 t (k:Int)) (k:Int)):=by unfold F6;simp [hlt]
     have kc:=a1I hE k hlt
     have kh:(E5 (g4 t kind) (v8 t (k:Int)) (k:Int)).hh=k:=a73 _
     have ks:=hst k
     generalize E5 (g4 t kind) (v8 t (k:Int)) (k:Int)=x at hv kc kh ks
     conv=>whnf
     repeat' (first|refine zx ?_|refine qp kc ?_|refine d6 hv ?_|refine zd ?_ ?_<;>intro h<;>try omega|fail)<;>conv=>whnf
     all_goals first
      |omega
      |(exfalso;contradiction)
      |exact ⟨hlt,trivial,[],rfl,rfl,trivial,⟨rfl,rfl,rfl,rfl,rfl,rfl,rfl,trivial⟩⟩
      |(exfalso;have:=ks (by omega);omega)
    ·conv=>whnf
     repeat' (first|refine zx ?_|refine zd ?_ ?_<;>intro h<;>try omega|fail)<;>conv=>whnf
     all_goals first
      |omega
      |(exfalso;contradiction)
      |exact b9 rfl
 by_cases hm0:P9 t kind z=0
 ·obtain ⟨Z,rfl,hP⟩:=aV5.1 hm0
  have hZ:=(sys_holds (kind:=kind) k1 k2 k3 (by omega)).2 hP
  have hpz:=ax0 hZ
  have hz0:∀i:Nat,0<=Z.getD i 0:=fun i=>by
   rw [lbl]
   cases h:Z[i]? with
   |none=>exact lb2
   |some x=>exact hpz x (lbm h)
  have hln:Z.length=t.ev.moves.length:=by have:=(P7 hZ).2;have e:(g4 t kind).n=t.ev.moves.length:=rfl;omega
  have ws:=b3I t.ev s1.ev v.hh Z hln (fun x hx=>by have:=aE5 (d:=4) hfz.2 x hx;omega) (by have:=a68 t v.hh (by omega);omega)
  have sw:=b5f (t:=t) (hh:=v.hh) hz0
  refine fin (a9h (E6 t.ev v.hh (-1) 0 100000) Z) fun _=>⟨ws,fun e=>sw.2 (b0C hvd (by have:=p.r;omega) a3 e Z hZ),fun e=>?_⟩
  have:=aF2 hvd a3 e Z hZ
  cases hq:a9h (E6 t.ev v.hh (-1) 0 100000) Z with
  |false=>rfl
  |true=>exact absurd (sw.1 hq) this
 ·exact fin true fun h=>absurd h hm0
section
open Go.RowKit Go.ChangeShapes Go.WideShapes Go.Deep
section
variable {H:Type} {enc:TypeId × Value->H} {P:Program}
theorem an8 (hl:laidOutB P=true) {W W':World} {sp:Nat->Bool}:∀{ts:List TypeId} {vs:List Value} {ds:List (DataW H)} {ps:List MemPlace},(∀ t ∈ ts,P.readableRec t=true∧t<P.types.size)->
 DataW.TrodAll enc P W 0 (fun _=>true) true ts vs ds ps->(∀ p ∈ ps,W.sameAt W' p)->(∀ p ∈ ps,sp p.block=true)->DataW.TrodAll enc P W' 0 sp true ts vs ds ps:=by
 intro ts
 induction ts with
 |nil=>
  intro vs ds ps _ h _ _
  obtain ⟨rfl,rfl,rfl⟩:=trodAll_nil h
  exact trodAll_mk0
 |cons t ts ih=>
  intro vs ds ps hr h hsame hs
  obtain ⟨v,vs',d,ds',p,q,rfl,rfl,rfl,h1,h2⟩:=trodAll_cons h
  obtain ⟨ht,hlt⟩:=hr t (by simp)
  exact trodAll_cons_mk (WideElems.Trod_stays hl ht hlt h1 (fun x hx=>hsame x (by simp [hx])) (fun x hx=>hs x (by simp [hx]))) (ih (fun t ht=>hr t (by simp [ht])) h2 (fun x hx=>hsame x (by simp [hx])) (fun x hx=>hs x (by simp [hx])))
theorem b6n {f:Func} {s:ChangeSpec} {fresh handsOn:Bool} {W W':World} {args:Array Value} {ds gs:List (DataW H)} {before:List MemPlace} {tb:TypeId}
 (hW:DataW.Whole enc P f.params.toList s.vars false W args.toList ds gs before) (hl:laidOutB P=true) (hr:∀t ∈ f.params.toList,P.readableRec t=true∧t<P.types.size) (hv:s.vars=[])
 (hfn:s.fn H (ds++gs)={ results:=[.lit (.bool true)],args:=ds }) (hres:f.resultTypes=#[tb]) (hbool:P.underlying tb=some .bool) (hb:Below W.heap.size W W'):
 s.post enc P f false fresh handsOn false W args (.bool true) W':=by
 have hW':=hW
 obtain ⟨p,q,hA,hV,rfl,hfz,hnd⟩:=hW
 rw [hv] at hV
 obtain ⟨rfl,rfl⟩:=trodVars_none hV
 have hlt:∀x ∈ p,x.block<W.heap.size:=fun x hx=>by have:=hW'.lt x (by simpa using hx);simpa using this
 refine ⟨ds,[],p++[],[],p,[],hW',?_,?_,?_,hb.frame _,fun h=>by cases h⟩
 ·rw [hfn,hres]
  exact trodAll_mk1 (shut_bool hbool true)
 ·rw [hfn]
  exact an8 hl hr hA (fun x hx=>hb.same (hlt x hx)) (fun x hx=>by simpa using hlt x hx)
 ·rw [hv,hfn]
  exact rfl
variable {w:World} {base:Nat} {spare:Nat->Bool} {held:Bool}
end
end
section
open Go.RowKit Go.ChangeShapes Go.WideShapes Go.Deep
section
variable {H:Type} {enc:TypeId × Value->H} {w:World} {base:Nat} {spare:Nat->Bool} {held:Bool}
end
theorem b8E:ownKnob Tryz.prog.godebug=none:=by kernel_rfl
theorem b4M:laidOutB Tryz.prog=true:=by kernel_rfl
end
theorem b9L {w:World} {n:Int}:RS w (fun _=>none) (fun _=>False) (a7 .i64 n) (.int .i64 n):=RS.int
inductive ao2 (w:World):List S->List Value->Prop
 |nil:ao2 w [] []
 |cons {s:S} {v:Value} {ss:List S} {vs:List Value} (h:RS w (fun _=>none) (fun _=>False) s v) (hs:ao2 w ss vs):ao2 w (s::ss) (v::vs)
theorem ao2.get {w:World} {ss:List S} {vs:List Value} (h:ao2 w ss vs):vs.length=ss.length∧∀(j:Nat) (s:S),ss[j]? =some s->RS w (fun _=>none) (fun _=>False) s (vs.getD j undef):=by
 induction h with
 |nil=>exact ⟨rfl,by simp⟩
 |cons h hs ih=>
  refine ⟨by simp [ih.1],fun j s hj=>?_⟩
  cases j with
  |zero=>simp at hj;subst hj;exact h
  |succ j=>simpa using ih.2 j s (by simpa using hj)
theorem aD6 {P:Program} {g:FuncId} {ss:List S} {b:Bool} (h:a8 P g ss [] (d9 b) []) {w:World} {vs:List Value} (ha:ao2 w ss vs):
 Calls P g vs.toArray w fun e w'=>e=.returned (.bool b)∧Below w.heap.size w w':=by
 obtain ⟨h1,h2⟩:=ha.get
 refine Calls.mono (h.2 w (fun _=>none) (fun _=>False) vs h1 h2 ⟨by simp,by simp,by simp,by simp,by simp⟩ (fun _ h=>h.elim) (fun _ _=>rfl)) ?_
 rintro e w' ⟨v,rfl,ι',M',q1,q2,q3,q4,q5⟩
 rw [q1.inv_atm]
 exact ⟨rfl,q5.os,q5.tape,q5.output,q5.size,fun k hk=>q5.keep k hk (by rintro ⟨id,k,_,_,hk,_⟩;simp at hk)⟩
open Go.RowKit Go.ChangeShapes Go.WideShapes Go.ChangeAt
theorem b4d {P:Program} {f:FuncId} {fn:Func} {s:ChangeSpec} {c:OpenClaim}
 (h1:c.wf (OpenSpec.ofChange s)=true) (h2:laidOutB P=true) (h3:mapsRowed P=true) (h4:fn.params.all (P.readableRec ·)=true) (h5:namedTie P c.named s.vars=true)
 (h6:(c.stops == [])=true) (h7:(P.stops == [])=true) (h8:(c.knobs == [])=true) (h9:(P.stopKnobs == [])=true)
 (h10:(c.inPlace == P.inPlace f)=true) (h11:(c.unfollowed == P.unfollowed f)=true) (h12:(c.recurses == P.recurses f)=true) (h13:(c.named == P.varsNamed f)=true)
 (h14:(c.maps == (fn.params.toList++s.plain.varTypes P).any (P.mapsRec ·))=true) (h15:(c.ifaces == (fn.params.toList++s.plain.varTypes P).any (P.ifacesRec ·))=true) (h16:(c.mapsOut == P.mapsAmong fn.resultTypes.toList)=true)
 (h17:(c.loops == (fn.params.toList++s.plain.varTypes P).any (P.loopsFrom ·))=true) (h18:(c.wideKeys == (fn.params.toList++s.plain.varTypes P++fn.resultTypes.toList).any (P.wideKeysFrom ·))=true)
 (h19:s.vars.all (P.varReadable ·)=true) (h20:fn.resultTypes.all (fun t=>P.readableRec t && decide (t<P.types.size))=true) (h21:(c.ifacesOut == fn.resultTypes.toList.any (P.ifacesRec ·))=true) (h22:(c.loopsOut == fn.resultTypes.toList.any (P.loopsFrom ·))=true)
 (h23:(c.plainKeys == P.plainKeys)=true) (h24:c.shortTexts.isNone=true) (h25:P.stopsHeard=true) (h26:P.mayEnter=true) (h27:(c.lifted == P.liftsFinal)=true) (h28:(P.make == some c.make)=true)
 (h29:c.domain.isEmpty=true) (h29b:(c.kinds == [])=true) (h30:(c.pinned == c.pinnedBy)=true)
 (h31:(c.veiled == (fn.params.toList++s.plain.varTypes P++fn.resultTypes.toList).any (P.veiledRec ·))=true) (h32:c.veiledFits P fn.params.toList (fn.params.toList++s.plain.varTypes P++fn.resultTypes.toList)=true):
 joinedFacts P f fn s c=true:=by
 unfold joinedFacts
 rw [h1,h2,h3,h4,h5,h6,h7,h8,h9,h10,h11,h12,h13,h14,h15,h16,h17,h18,h19,h20,h21,h22,h23,h24,h25,h26,h27,h28,if_pos h29,h29b,h30,h31,h32]
 rfl
theorem b8Y:laidOutB Tryz.pinned.checked.prog=true:=by kernel_rfl
theorem b7h:mapsRowed Tryz.pinned.checked.prog=true:=by kernel_rfl
theorem b90:(Rows.topWrongSourceRow.plainKeys == Tryz.pinned.checked.prog.plainKeys)=true:=by kernel_rfl
theorem b5P:Tryz.pinned.checked.prog.stopsHeard=true:=by kernel_rfl
theorem b63:Tryz.pinned.checked.prog.mayEnter=true:=by kernel_rfl
theorem b8e:(Rows.topWrongSourceRow.lifted == Tryz.pinned.checked.prog.liftsFinal)=true:=by kernel_rfl
theorem b7V:(Tryz.pinned.checked.prog.make == some Rows.topWrongSourceRow.make)=true:=by kernel_rfl
section
open Go.RowKit Go.ChangeShapes Go.WideShapes Go.Deep
inductive Sh where
 |int (k:IntKind)
 |bool
 |sl (row:List Sh)
inductive Fit:Sh->T->Prop
 |int {k:IntKind} {n:Int} (h:(Lit.int k n).wf=true):Fit (.int k) (.atm (.int k n))
 |bool {b:Bool}:Fit .bool (.atm (.bool b))
 |sl {row:List Sh} {rows:List (List T)} (hl:∀r ∈ rows,r.length=row.length) (h:∀r ∈ rows,∀(j:Nat) (s:Sh) (t:T),row[j]? =some s->r[j]? =some t->Fit s t):Fit (.sl row) (.sl row.length .any rows)
inductive B6 (P:Program):TypeId->List Sh->Prop
 |int {t:TypeId} {k:IntKind} (h:P.underlying t=some (.int k)):B6 P t [.int k]
 |bool {t:TypeId} (h:P.underlying t=some .bool):B6 P t [.bool]
 |sl {t e:TypeId} {row:List Sh} (h:P.underlying t=some (.slice e)) (hc:P.cellsOf e=row.length) (hp:0<row.length) (he:B6 P e row):B6 P t [.sl row]
 |struct {t:TypeId} {fs:Array Field} (parts:List (List Sh)) (h:P.underlying t=some (.struct fs)) (hl:parts.length=fs.size)
   (ho:∀(i:Nat) (f:Field) (p:List Sh),fs[i]? =some f->parts[i]? =some p->f.offset=(parts.take i).flatten.length∧P.cellsOf f.type=p.length)
   (hc:P.cellsOf t=parts.flatten.length)
   (he:∀(i:Nat) (f:Field) (p:List Sh),fs[i]? =some f->parts[i]? =some p->B6 P f.type p):B6 P t parts.flatten
section
variable {H:Type} {enc:TypeId × Value->H} {P:Program} {w:World} {base:Nat} {spare:Nat->Bool} {held:Bool}
def aF4 (w:World) (shs:List Sh) (cs:List Value):Prop:=
 cs.length=shs.length∧∃ts:List T,ts.length=shs.length∧∀(j:Nat) (s:Sh),shs[j]? =some s->∃u t,cs[j]? =some u∧ts[j]? =some t∧RT w (fun _=>False) t u∧Fit s t
theorem aj7 {α:Type}:∀(parts:List (List α)) (j:Nat) (x:α),parts.flatten[j]? =some x->∃i p k,parts[i]? =some p∧p[k]? =some x∧j=(parts.take i).flatten.length+k
 |[],j,x,h=>by simp at h
 |p::r,j,x,h=>by
  rw [aC5] at h
  by_cases hj:j<p.length
  ·rw [lbb hj] at h
   exact ⟨0,p,j,rfl,h,by simp⟩
  ·rw [lbc (by omega)] at h
   obtain ⟨i,q,k,h1,h2,h3⟩:=aj7 r _ x h
   exact ⟨i+1,q,k,by simpa using h1,h2,by rw [List.take_succ_cons,aC5,lbq];omega⟩
theorem a0w {α:Type} {p:Nat->α->Prop}:∀(n:Nat),(∀ i,i<n->∃x,p i x)->∃xs:List α,xs.length=n∧∀i x,xs[i]? =some x->p i x
 |0,_=>⟨[],rfl,by simp⟩
 |n+1,h=>by
  obtain ⟨xs,h1,h2⟩:=a0w n fun i hi=>h i (by omega)
  obtain ⟨x,hx⟩:=h n (by omega)
  refine ⟨xs++[x],by simp [h1],fun i y hy=>?_⟩
  by_cases hi:i<xs.length
  ·rw [lbb hi] at hy;exact h2 i y hy
  ·rw [lbc (by omega)] at hy
   have:i=n:=by
    have:=(lbe.1 hy).1
    simp at this;omega
   subst this
   rw [h1] at hy
   simp at hy
   subst hy
   exact hx
theorem aD2 {t:TypeId} {shs:List Sh} (h:B6 P t shs):∀(n:Nat) (cs:List Value) (x:DataW H × List MemPlace),DataW.trod enc P w base spare held n t cs=some x->aF4 w shs cs:=by
 induction h with
 |int h=>
  intro n cs x hx
  obtain ⟨a,rfl,_,hw⟩:=DataW.trod_int h hx
  exact ⟨rfl,[.atm (.int _ a)],rfl,fun j s hj=>by
   match j,hj with
   |0,hj=>simp at hj;subst hj;exact ⟨_,_,rfl,rfl,.atm rfl,.int hw⟩⟩
 |bool h=>
  intro n cs x hx
  obtain ⟨a,rfl,_⟩:=DataW.trod_bool h hx
  exact ⟨rfl,[.atm (.bool a)],rfl,fun j s hj=>by
   match j,hj with
   |0,hj=>simp at hj;subst hj;exact ⟨_,_,rfl,rfl,.atm rfl,.bool⟩⟩
 |@sl t e row h hc hp he ih=>
  intro n cs x hx
  have key:∀(rows:List (List T)) (u:Value),cs=[u]->RT w (fun _=>False) (.sl row.length .any rows) u->(∀ r ∈ rows,r.length=row.length)->(∀ r ∈ rows,∀(j:Nat) (s:Sh) (t:T),row[j]? =some s->r[j]? =some t->Fit s t)->aF4 w [.sl row] cs:=by
   rintro rows u rfl hu h1 h2
   exact ⟨rfl,[.sl row.length .any rows],rfl,fun j s hj=>by
    match j,hj with
    |0,hj=>simp at hj;subst hj;exact ⟨_,_,rfl,rfl,hu,.sl h1 h2⟩⟩
  rcases open_slice h hx with ⟨h0,_⟩|⟨a,len,cap,m,n,D,Pl,hcs,hb,hl,hm,hmm,hx,hi⟩
  ·exact key [] _ h0 (.sl (b:=0) (off:=0) (fun _ _=>undef) (by simp) (by simp) (by unfold maxLen;omega) (by intro h;cases h) (by intro h;cases h) (by simp) (by simp [at2]) (by simp [at2])) (by simp) (by simp)
  ·by_cases hz:len=0
   ·subst hz
    exact key [] _ hcs (.sl (b:=0) (off:=0) (fun _ _=>undef) (by simp) (by simp) hm (by intro h;cases h) (by intro h;cases h) (by simp) (by simp [at2]) (by simp [at2])) (by simp) (by simp)
   have hlm:len<=m:=by rw [hmm];split<;>omega
   have each:∀i,i<len->∃cs':List Value,(∀ j,j<row.length->w.cell? (a.add (i*row.length+j))=cs'[j]?)∧aF4 w row cs':=by
    intro i hil
    obtain ⟨cs',hc',ht'⟩:=hi i (by omega)
    rw [hc] at hc'
    obtain ⟨_,hcl,hat⟩:=World.cells?_some hc'
    exact ⟨cs',fun j hj=>by rw [← Go.Deep.add_add];exact hat j hj,ih n cs' _ ht'⟩
   obtain ⟨css,hcl,hcs2⟩:=a0w len each
   obtain ⟨rows,hrl,hrows⟩:=a0w (α:=List T) (p:=fun i ts=>ts.length=row.length∧∀(j:Nat) (s:Sh),row[j]? =some s->∃u t,(css.getD i [])[j]? =some u∧ts[j]? =some t∧RT w (fun _=>False) t u∧Fit s t) len (fun i hi=>by
    have hg:css[i]? =some (css[i]'(by omega)):=lbf (by omega)
    obtain ⟨_,_,ts,h1,h2⟩:=hcs2 i _ hg
    refine ⟨ts,h1,?_⟩
    rw [lbl,hg]
    exact h2)
   have hcell:∀i j,i<len->j<row.length->w.cell? (a.add (i*row.length+j))=some ((css.getD i []).getD j undef):=by
    intro i j hi hj
    have hg:css[i]? =some (css[i]'(by omega)):=lbf (by omega)
    obtain ⟨h1,h2,_⟩:=hcs2 i _ hg
    rw [h1 j hj]
    have hgd:css.getD i []=css[i]'(by omega):=by rw [lbl,hg];rfl
    rw [hgd,lbl,lbf (by omega)];rfl
   have hspot:a.spot=none:=by
    have:=World.cell?_spot (hcell 0 0 (by omega) hp)
    simpa [Addr.add] using this
   obtain ⟨b,off,sp⟩:=a
   simp only at hspot
   subst hspot
   have hadd:∀k,(⟨b,off,none⟩:Addr).add k=⟨b,off+k,none⟩:=by
    intro k
    unfold Addr.add
    split
    ·subst_vars;rfl
    ·rfl
   have hat:∀i j c,at2 rows i j=some c->i<len∧j<row.length∧∃r s,rows[i]? =some r∧r[j]? =some c∧row[j]? =some s:=by
    intro i j c hc
    obtain ⟨r,q1,q2⟩:=x5 hc
    have hil:i<len:=by rw [← hrl];exact (lbe.1 q1).1
    have hjl:j<row.length:=by rw [← (hrows i r q1).1];exact (lbe.1 q2).1
    exact ⟨hil,hjl,r,_,q1,q2,lbf hjl⟩
   refine key rows (.slice (some ⟨b,off,none⟩) len cap) hcs ?_ ?_ ?_
   ·rw [← hrl]
    refine .sl (b:=b) (off:=off) (fun i j=>(css.getD i []).getD j undef) ?_ (by omega) hm (by intro h;cases h) (by intro h;cases h) (fun _=>rfl) ?_ ?_
    ·intro r hr
     obtain ⟨i,hi⟩:=ar0.1 hr
     exact (hrows i r hi).1
    ·intro i j c hc
     obtain ⟨hil,hjl,_⟩:=hat i j c hc
     have:=hcell i j hil hjl
     rw [hadd] at this
     exact ⟨this,fun h=>h⟩
    ·intro i j c hc
     obtain ⟨hil,hjl,r,s,q1,q2,q3⟩:=hat i j c hc
     obtain ⟨u,t,h1,h2,h3,h4⟩:=(hrows i r q1).2 j s q3
     rw [q2] at h2
     injection h2 with h2
     subst h2
     rw [lbl (l:=css.getD i []),h1]
     exact h3
   ·intro r hr
    obtain ⟨i,hi⟩:=ar0.1 hr
    exact (hrows i r hi).1
   ·intro r hr j s t hs ht
    obtain ⟨i,hi⟩:=ar0.1 hr
    obtain ⟨u,t',h1,h2,h3,h4⟩:=(hrows i r hi).2 j s hs
    rw [ht] at h2
    injection h2 with h2
    subst h2
    exact h4
 |@struct t fs parts h hl ho hc he ih=>
  intro n cs x hx
  obtain ⟨xs,n',hn',hy,hlen,hyl,hf⟩:=DataW.trod_struct h hx
  have hlen':cs.length=parts.flatten.length:=by rw [hlen,hc]
  have each:∀j,j<parts.flatten.length->∃t,∀s,parts.flatten[j]? =some s->∃u,cs[j]? =some u∧RT w (fun _=>False) t u∧Fit s t:=by
   intro j hj
   obtain ⟨i,p,k,q1,q2,q3⟩:=aj7 parts j _ (lbf hj)
   have hi:i<fs.size:=by rw [← hl];exact (lbe.1 q1).1
   have hfi:fs[i]? =some fs[i]:=Array.getElem?_eq_getElem hi
   obtain ⟨o1,o2⟩:=ho i _ p hfi q1
   have h1:=hf i _ hfi
   have hxi:xs[i]? =some (xs[i]'(by omega)):=lbf (by omega)
   obtain ⟨r1,ts,r2,r3⟩:=ih i _ p hfi q1 n' _ _ (h1.trans hxi)
   obtain ⟨u,t,e1,e2,e3,e4⟩:=r3 k _ q2
   refine ⟨t,fun s hs=>⟨u,?_,e3,?_⟩⟩
   ·have hk:k<p.length:=(lbe.1 q2).1
    rw [lbi,o2,if_pos hk,lbj,o1,←q3] at e1
    exact e1
   ·rw [lbf hj] at hs
    injection hs with hs
    rw [← hs];exact e4
  obtain ⟨ts,t1,t2⟩:=a0w parts.flatten.length each
  refine ⟨hlen',ts,t1,fun j s hj=>?_⟩
  have hjl:=(lbe.1 hj).1
  have htj:ts[j]? =some (ts[j]'(by omega)):=lbf (by omega)
  obtain ⟨u,h1,h2,h3⟩:=t2 j _ htj s hj
  exact ⟨u,_,h1,htj,h2,h3⟩
end
theorem Fit.int_inv {k:IntKind} {t:T} (h:Fit (.int k) t):∃n,t=.atm (.int k n)∧(Lit.int k n).wf=true:=by cases h with|int h=>exact ⟨_,rfl,h⟩
theorem Fit.bool_inv {t:T} (h:Fit .bool t):∃b,t=.atm (.bool b):=by cases h with|bool=>exact ⟨_,rfl⟩
theorem aN9 {α:Type} {f:α->List T} {p:α->Prop}:∀{rows:List (List T)},(∀ r ∈ rows,∃x,r=f x∧p x)->∃xs:List α,rows=xs.map f∧∀x ∈ xs,p x
 |[],_=>⟨[],rfl,by simp⟩
 |r::rs,h=>by
  obtain ⟨x,rfl,hx⟩:=h r (by simp)
  obtain ⟨xs,rfl,hxs⟩:=aN9 (rows:=rs) (f:=f) (p:=p) fun r hr=>h r (T9 _ hr)
  exact ⟨x::xs,rfl,fun y hy=>by rcases lbB.1 hy with rfl|hy;exact hx;exact hxs y hy⟩
theorem Fit.sl_inv {α:Type} (f:α->List T) (p:α->Prop) {row:List Sh} {t:T} (h:Fit (.sl row) t)
 (hrow:∀r:List T,r.length=row.length->(∀ (j:Nat) (s:Sh) (t:T),row[j]? =some s->r[j]? =some t->Fit s t)->∃x,r=f x∧p x):
 ∃xs:List α,t=.sl row.length .any (xs.map f)∧∀x ∈ xs,p x:=by
 cases h with
 |sl hl h=>
  obtain ⟨xs,rfl,hx⟩:=aN9 (f:=f) (p:=p) (fun r hr=>hrow r (hl r hr) (h r hr))
  exact ⟨xs,rfl,hx⟩
end
section
open Go.RowKit Go.ChangeShapes Go.WideShapes Go.Deep
abbrev c8:Sh:=.int .i64
abbrev b6k:List Sh:=[c8,.sl [c8]]
abbrev a1S:List Sh:=[c8,.sl [c8],c8,.sl [c8]]
theorem s9:B6 Tryz.prog 3 [c8]:=.int Tryz.underlying3
theorem b5x:B6 Tryz.prog 60 [.sl [c8]]:=.sl Tryz.underlying60 (by kernel_rfl) (by decide) s9
theorem a40 {P:Program} {t:TypeId} {fs:Array Field} {p0 p1:List Sh} (h:P.underlying t=some (.struct fs)) (hl:fs.size=2)
 (h0:∃f,fs[0]? =some f∧f.offset=0∧P.cellsOf f.type=p0.length∧B6 P f.type p0) (h1:∃f,fs[1]? =some f∧f.offset=p0.length∧P.cellsOf f.type=p1.length∧B6 P f.type p1)
 (hc:P.cellsOf t=p0.length+p1.length):B6 P t (p0++p1):=by
 obtain ⟨f0,a1,a2,a3,a4⟩:=h0
 obtain ⟨f1,b1,b2,b3,b4⟩:=h1
 have:=B6.struct (P:=P) (t:=t) (fs:=fs) [p0,p1] h (by simp [hl]) (fun i f p hf hp=>by
  match i,hp with
  |0,hp=>simp at hp;subst hp;rw [a1] at hf;injection hf with hf;subst hf;exact ⟨by simp [a2],a3⟩
  |1,hp=>simp at hp;subst hp;rw [b1] at hf;injection hf with hf;subst hf;exact ⟨by simp [b2],b3⟩
  |n+2,hp=>simp at hp) (by simp [hc]) (fun i f p hf hp=>by
  match i,hp with
  |0,hp=>simp at hp;subst hp;rw [a1] at hf;injection hf with hf;subst hf;exact a4
  |1,hp=>simp at hp;subst hp;rw [b1] at hf;injection hf with hf;subst hf;exact b4
  |n+2,hp=>simp at hp)
 simpa using this
theorem b27:B6 Tryz.prog 81 b6k:=
 a40 (p0:=[c8]) (p1:=[.sl [c8]]) Tryz.underlying81 (by kernel_rfl) ⟨_,rfl,rfl,by kernel_rfl,s9⟩ ⟨_,rfl,rfl,by kernel_rfl,b5x⟩ (by kernel_rfl)
theorem b5E:B6 Tryz.prog 83 a1S:=
 a40 (p0:=b6k) (p1:=b6k) Tryz.underlying83 (by kernel_rfl) ⟨_,rfl,rfl,by kernel_rfl,b27⟩ ⟨_,rfl,rfl,by kernel_rfl,b27⟩ (by kernel_rfl)
theorem a4V:B6 Tryz.prog 33 [.sl a1S]:=.sl Tryz.underlying33 (by kernel_rfl) (by decide) b5E
theorem b0f:B6 Tryz.prog 277 [c8,c8]:=
 a40 (p0:=[c8]) (p1:=[c8]) Tryz.underlying277 (by kernel_rfl) ⟨_,rfl,rfl,by kernel_rfl,s9⟩ ⟨_,rfl,rfl,by kernel_rfl,s9⟩ (by kernel_rfl)
theorem aK7 {t:T} (h:Fit (.sl [c8]) t):∃l:List Int,t=I3 l:=by
 obtain ⟨xs,rfl,_⟩:=h.sl_inv i5 (fun _=>True) (fun r hl hr=>by
  match r,hl with
  |[u],_=>
   obtain ⟨n,rfl,_⟩:=(hr 0 _ _ rfl rfl).int_inv
   exact ⟨n,rfl,trivial⟩)
 exact ⟨xs,rfl⟩
theorem aK6 {r:List T} (hl:r.length=4) (hr:∀(j:Nat) (s:Sh) (t:T),a1S[j]? =some s->r[j]? =some t->Fit s t):∃f:Fr,r=j0 f:=by
 match r,hl with
 |[a,b,c,d],_=>
  obtain ⟨n,rfl,_⟩:=(hr 0 _ _ rfl rfl).int_inv
  obtain ⟨l,rfl⟩:=aK7 (hr 1 _ _ rfl rfl)
  obtain ⟨m,rfl,_⟩:=(hr 2 _ _ rfl rfl).int_inv
  obtain ⟨k,rfl⟩:=aK7 (hr 3 _ _ rfl rfl)
  exact ⟨⟨⟨n,l⟩,⟨m,k⟩⟩,rfl⟩
theorem a4R {t:T} (h:Fit (.sl a1S) t):∃l:List Fr,t=M8 l:=by
 obtain ⟨xs,rfl,_⟩:=h.sl_inv j0 (fun _=>True) (fun r hl hr=>by
  obtain ⟨f,rfl⟩:=aK6 hl hr
  exact ⟨f,rfl,trivial⟩)
 exact ⟨xs,rfl⟩
section
variable {H:Type} {enc:TypeId × Value->H} {w:World} {base:Nat} {spare:Nat->Bool} {held:Bool}
theorem aK4 {shs:List Sh} {l:List Value} (h:aF4 w shs l):∃ts:List T,ts.length=shs.length∧(∀ (j:Nat) (s:Sh) (t:T),shs[j]? =some s->ts[j]? =some t->Fit s t)∧RS w (fun _=>none) (fun _=>False) (.agg (ts.map C.t)) (.agg ⟨l⟩):=by
 obtain ⟨h0,ts,h1,h2⟩:=h
 refine ⟨ts,h1,fun j s t hs ht=>?_,?_⟩
 ·obtain ⟨u,t',e1,e2,e3,e4⟩:=h2 j s hs
  rw [ht] at e2;injection e2 with e2;subst e2;exact e4
 ·refine .agg l (by simp [h0,h1]) fun j c hc=>?_
  rw [lba] at hc
  obtain ⟨t,ht,rfl⟩:=a7O.1 hc
  have hj:j<shs.length:=by rw [← h1];exact (lbe.1 ht).1
  obtain ⟨u,t',e1,e2,e3,e4⟩:=h2 j _ (lbf hj)
  rw [ht] at e2;injection e2 with e2;subst e2
  rw [lbl,e1]
  exact .t e3
end
end
section
open Go.RowKit Go.ChangeShapes Go.WideShapes Go.Deep
def aP6 (P:Program):List Field->List (List Sh)->Nat->Prop
 |[],[],_=>True
 |f::fs,p::ps,o=>(f.offset=o∧P.cellsOf f.type=p.length∧B6 P f.type p)∧aP6 P fs ps (o+p.length)
 |_,_,_=>False
theorem aP6.get {P:Program}:∀{fs:List Field} {ps:List (List Sh)} {o:Nat},aP6 P fs ps o->ps.length=fs.length∧∀(i:Nat) (f:Field) (p:List Sh),fs[i]? =some f->ps[i]? =some p->f.offset=o+(ps.take i).flatten.length∧P.cellsOf f.type=p.length∧B6 P f.type p
 |[],[],o,_=>⟨rfl,by simp⟩
 |f::fs,p::ps,o,h=>by
  obtain ⟨⟨h1,h2,h3⟩,h4⟩:=h
  obtain ⟨l,g⟩:=aP6.get h4
  refine ⟨by simp [l],fun i f' p' hf hp=>?_⟩
  cases i with
  |zero=>simp at hf hp;subst hf hp;exact ⟨by simp [h1],h2,h3⟩
  |succ i=>
   obtain ⟨g1,g2,g3⟩:=g i f' p' (by simpa using hf) (by simpa using hp)
   exact ⟨by rw [g1];simp;omega,g2,g3⟩
 |[],_::_,_,h=>h.elim
 |_::_,[],_,h=>h.elim
theorem L3 {P:Program} {t:TypeId} {fs:Array Field} (parts:List (List Sh)) (h:P.underlying t=some (.struct fs)) (hf:aP6 P fs.toList parts 0) (hc:P.cellsOf t=parts.flatten.length):B6 P t parts.flatten:=by
 obtain ⟨l,g⟩:=hf.get
 refine B6.struct parts h (by simpa using l) (fun i f p hi hp=>?_) hc (fun i f p hi hp=>?_)
 ·obtain ⟨g1,g2,g3⟩:=g i f p (by simpa using hi) hp
  exact ⟨by rw [g1];simp,g2⟩
 ·exact (g i f p (by simpa using hi) hp).2.2
theorem b6b:B6 Tryz.prog 4 [.bool]:=.bool Tryz.underlying4
theorem b3b:B6 Tryz.prog 182 [c8,c8,c8]:=
 L3 [[c8],[c8],[c8]] Tryz.underlying182 ⟨⟨by kernel_rfl,by kernel_rfl,s9⟩,⟨by kernel_rfl,by kernel_rfl,s9⟩,⟨by kernel_rfl,by kernel_rfl,s9⟩,trivial⟩ (by kernel_rfl)
theorem b4G:B6 Tryz.prog 113 [c8,c8,c8,c8,c8,.bool]:=
 L3 [[c8],[c8],[c8],[c8],[c8],[.bool]] Tryz.underlying113 ⟨⟨by kernel_rfl,by kernel_rfl,s9⟩,⟨by kernel_rfl,by kernel_rfl,s9⟩,⟨by kernel_rfl,by kernel_rfl,s9⟩,⟨by kernel_rfl,by kernel_rfl,s9⟩,⟨by kernel_rfl,by kernel_rfl,s9⟩,⟨by kernel_rfl,by kernel_rfl,b6b⟩,trivial⟩ (by kernel_rfl)
theorem b6r:B6 Tryz.prog 236 [c8,c8,c8,c8,c8,c8]:=
 L3 [[c8],[c8],[c8],[c8],[c8],[c8]] Tryz.underlying236 ⟨⟨by kernel_rfl,by kernel_rfl,s9⟩,⟨by kernel_rfl,by kernel_rfl,s9⟩,⟨by kernel_rfl,by kernel_rfl,s9⟩,⟨by kernel_rfl,by kernel_rfl,s9⟩,⟨by kernel_rfl,by kernel_rfl,s9⟩,⟨by kernel_rfl,by kernel_rfl,s9⟩,trivial⟩ (by kernel_rfl)
theorem aZ3:B6 Tryz.prog 279 [c8,c8,c8,c8]:=
 L3 [[c8],[c8],[c8],[c8]] Tryz.underlying279 ⟨⟨by kernel_rfl,by kernel_rfl,s9⟩,⟨by kernel_rfl,by kernel_rfl,s9⟩,⟨by kernel_rfl,by kernel_rfl,s9⟩,⟨by kernel_rfl,by kernel_rfl,s9⟩,trivial⟩ (by kernel_rfl)
theorem b5m:B6 Tryz.prog 169 [c8,c8,c8]:=
 L3 [[c8],[c8],[c8]] Tryz.underlying169 ⟨⟨by kernel_rfl,by kernel_rfl,s9⟩,⟨by kernel_rfl,by kernel_rfl,s9⟩,⟨by kernel_rfl,by kernel_rfl,s9⟩,trivial⟩ (by kernel_rfl)
theorem b3j:B6 Tryz.prog 172 [c8,c8]:=
 L3 [[c8],[c8]] Tryz.underlying172 ⟨⟨by kernel_rfl,by kernel_rfl,s9⟩,⟨by kernel_rfl,by kernel_rfl,s9⟩,trivial⟩ (by kernel_rfl)
theorem b0X:B6 Tryz.prog 22 [.sl [c8,c8,c8]]:=.sl Tryz.underlying22 (by kernel_rfl) (by decide) b3b
theorem b3X:B6 Tryz.prog 23 [.sl [c8,c8,c8,c8,c8,.bool]]:=.sl Tryz.underlying23 (by kernel_rfl) (by decide) b4G
theorem b3K:B6 Tryz.prog 24 [.sl [c8,c8,c8,c8,c8,c8]]:=.sl Tryz.underlying24 (by kernel_rfl) (by decide) b6r
theorem aK9:B6 Tryz.prog 25 [.sl [c8,c8]]:=.sl Tryz.underlying25 (by kernel_rfl) (by decide) b0f
theorem ay5:B6 Tryz.prog 26 [.sl [c8,c8,c8,c8]]:=.sl Tryz.underlying26 (by kernel_rfl) (by decide) aZ3
theorem b4e:B6 Tryz.prog 29 [.sl [c8,c8,c8]]:=.sl Tryz.underlying29 (by kernel_rfl) (by decide) b5m
theorem aZ8:B6 Tryz.prog 30 [.sl [c8,c8]]:=.sl Tryz.underlying30 (by kernel_rfl) (by decide) b3j
abbrev bf3:List Sh:=[c8,c8,c8,.sl [c8,c8,c8],.sl [c8,c8,c8,c8,c8,.bool],.sl [c8,c8,c8,c8,c8,c8],.sl [c8,c8],.sl [c8,c8,c8,c8]]
theorem bd7:B6 Tryz.prog 28 bf3:=
 L3 [[c8],[c8],[c8],[.sl [c8,c8,c8]],[.sl [c8,c8,c8,c8,c8,.bool]],[.sl [c8,c8,c8,c8,c8,c8]],[.sl [c8,c8]],[.sl [c8,c8,c8,c8]]] Tryz.underlying28
  ⟨⟨by kernel_rfl,by kernel_rfl,s9⟩,⟨by kernel_rfl,by kernel_rfl,s9⟩,⟨by kernel_rfl,by kernel_rfl,s9⟩,⟨by kernel_rfl,by kernel_rfl,b0X⟩,⟨by kernel_rfl,by kernel_rfl,b3X⟩,⟨by kernel_rfl,by kernel_rfl,b3K⟩,⟨by kernel_rfl,by kernel_rfl,aK9⟩,⟨by kernel_rfl,by kernel_rfl,ay5⟩,trivial⟩ (by kernel_rfl)
abbrev bk6:List Sh:=bf3++[.sl [c8,c8,c8],.sl [c8,c8]]
theorem b9J:B6 Tryz.prog 32 bk6:=
 L3 [bf3,[.sl [c8,c8,c8]],[.sl [c8,c8]]] Tryz.underlying32
  ⟨⟨by kernel_rfl,by kernel_rfl,bd7⟩,⟨by kernel_rfl,by kernel_rfl,b4e⟩,⟨by kernel_rfl,by kernel_rfl,aZ8⟩,trivial⟩ (by kernel_rfl)
theorem z6 {t:T} (h:Fit c8 t):∃n,t=ti n:=by obtain ⟨n,h,_⟩:=h.int_inv;exact ⟨n,h⟩
section
variable {α:Type} {t:T}
theorem aZ5 (h:Fit (.sl [c8,c8,c8]) t):∃l:List Place,t=a5d l:=by
 obtain ⟨xs,rfl,_⟩:=h.sl_inv Place.row (fun _=>True) (fun r hl hr=>by
  match r,hl with
  |[a,b,c],_=>
   obtain ⟨a,rfl⟩:=z6 (hr 0 _ _ rfl rfl)
   obtain ⟨b,rfl⟩:=z6 (hr 1 _ _ rfl rfl)
   obtain ⟨c,rfl⟩:=z6 (hr 2 _ _ rfl rfl)
   exact ⟨⟨a,b,c⟩,rfl,trivial⟩)
 exact ⟨xs,rfl⟩
theorem b3P (h:Fit (.sl [c8,c8,c8]) t):∃l:List a4D,t=ag4 l:=by
 obtain ⟨xs,rfl,_⟩:=h.sl_inv a4D.row (fun _=>True) (fun r hl hr=>by
  match r,hl with
  |[a,b,c],_=>
   obtain ⟨a,rfl⟩:=z6 (hr 0 _ _ rfl rfl)
   obtain ⟨b,rfl⟩:=z6 (hr 1 _ _ rfl rfl)
   obtain ⟨c,rfl⟩:=z6 (hr 2 _ _ rfl rfl)
   exact ⟨⟨a,b,c⟩,rfl,trivial⟩)
 exact ⟨xs,rfl⟩
theorem aY4 (h:Fit (.sl [c8,c8]) t):∃l:List a02,t=a77 l:=by
 obtain ⟨xs,rfl,_⟩:=h.sl_inv a02.row (fun _=>True) (fun r hl hr=>by
  match r,hl with
  |[a,b],_=>
   obtain ⟨a,rfl⟩:=z6 (hr 0 _ _ rfl rfl)
   obtain ⟨b,rfl⟩:=z6 (hr 1 _ _ rfl rfl)
   exact ⟨⟨a,b⟩,rfl,trivial⟩)
 exact ⟨xs,rfl⟩
theorem aS1 (h:Fit (.sl [c8,c8]) t):∃l:List F0,t=P5 l:=by
 obtain ⟨xs,rfl,_⟩:=h.sl_inv F0.row (fun _=>True) (fun r hl hr=>by
  match r,hl with
  |[a,b],_=>
   obtain ⟨a,rfl⟩:=z6 (hr 0 _ _ rfl rfl)
   obtain ⟨b,rfl⟩:=z6 (hr 1 _ _ rfl rfl)
   exact ⟨⟨a,b⟩,rfl,trivial⟩)
 exact ⟨xs,rfl⟩
theorem aH1 (h:Fit (.sl [c8,c8,c8,c8]) t):∃l:List a1Z,t=a0G l:=by
 obtain ⟨xs,rfl,_⟩:=h.sl_inv a1Z.row (fun _=>True) (fun r hl hr=>by
  match r,hl with
  |[a,b,c,d],_=>
   obtain ⟨a,rfl⟩:=z6 (hr 0 _ _ rfl rfl)
   obtain ⟨b,rfl⟩:=z6 (hr 1 _ _ rfl rfl)
   obtain ⟨c,rfl⟩:=z6 (hr 2 _ _ rfl rfl)
   obtain ⟨d,rfl⟩:=z6 (hr 3 _ _ rfl rfl)
   exact ⟨⟨a,b,c,d⟩,rfl,trivial⟩)
 exact ⟨xs,rfl⟩
theorem b3J (h:Fit (.sl [c8,c8,c8,c8,c8,c8]) t):∃l:List L9,t=a1R l:=by
 obtain ⟨xs,rfl,_⟩:=h.sl_inv L9.row (fun _=>True) (fun r hl hr=>by
  match r,hl with
  |[a,b,c,d,e,f],_=>
   obtain ⟨a,rfl⟩:=z6 (hr 0 _ _ rfl rfl)
   obtain ⟨b,rfl⟩:=z6 (hr 1 _ _ rfl rfl)
   obtain ⟨c,rfl⟩:=z6 (hr 2 _ _ rfl rfl)
   obtain ⟨d,rfl⟩:=z6 (hr 3 _ _ rfl rfl)
   obtain ⟨e,rfl⟩:=z6 (hr 4 _ _ rfl rfl)
   obtain ⟨f,rfl⟩:=z6 (hr 5 _ _ rfl rfl)
   exact ⟨⟨a,b,c,d,e,f⟩,rfl,trivial⟩)
 exact ⟨xs,rfl⟩
theorem b3H (h:Fit (.sl [c8,c8,c8,c8,c8,.bool]) t):∃l:List t7,t=a2Z l:=by
 obtain ⟨xs,rfl,_⟩:=h.sl_inv t7.row (fun _=>True) (fun r hl hr=>by
  match r,hl with
  |[a,b,c,d,e,f],_=>
   obtain ⟨a,rfl⟩:=z6 (hr 0 _ _ rfl rfl)
   obtain ⟨b,rfl⟩:=z6 (hr 1 _ _ rfl rfl)
   obtain ⟨c,rfl⟩:=z6 (hr 2 _ _ rfl rfl)
   obtain ⟨d,rfl⟩:=z6 (hr 3 _ _ rfl rfl)
   obtain ⟨e,rfl⟩:=z6 (hr 4 _ _ rfl rfl)
   obtain ⟨f,rfl⟩:=(hr 5 _ _ rfl rfl).bool_inv
   exact ⟨⟨a,b,c,d,e,f⟩,rfl,trivial⟩)
 exact ⟨xs,rfl⟩
end
section
variable {H:Type} {enc:TypeId × Value->H} {w:World} {base:Nat} {spare:Nat->Bool} {held:Bool}
theorem open_fracs {v:Value} {d:DataW H} {p:List MemPlace} {r:Reach} {b0:Nat} (hv:Value.okWide Tryz.prog w r b0 33 v) (h:DataW.Trod enc Tryz.prog w base spare held 33 v d p):∃l,RS w (fun _=>none) (fun _=>False) (k8 l) v:=by
 obtain ⟨a,len,cap,rfl⟩:=okWide_slice Tryz.underlying33 hv
 obtain ⟨fuel,hf⟩:=h
 obtain ⟨_,ts,h1,h2⟩:=aD2 a4V fuel _ _ hf
 obtain ⟨u,t,e1,e2,e3,e4⟩:=h2 0 _ rfl
 obtain ⟨hh,rfl⟩:=a4R e4
 injection e1 with e1
 subst e1
 exact ⟨hh,.c (.t e3)⟩
theorem open_trace {v:Value} {d:DataW H} {p:List MemPlace} {r:Reach} {b0:Nat} (hv:Value.okWide Tryz.prog w r b0 32 v) (h:DataW.Trod enc Tryz.prog w base spare held 32 v d p):∃t:j9,RS w (fun _=>none) (fun _=>False) (trS t) v:=by
 obtain ⟨⟨l⟩,rfl,_⟩:=okWide_struct Tryz.underlying32 hv
 obtain ⟨fuel,hf⟩:=h
 obtain ⟨ts,h1,h2,h3⟩:=aK4 (aD2 b9J fuel _ _ hf)
 match ts,h1 with
 |[a,b,c,d,e,f,g,h,i,j],_=>
  obtain ⟨a,rfl⟩:=z6 (h2 0 _ _ rfl rfl)
  obtain ⟨b,rfl⟩:=z6 (h2 1 _ _ rfl rfl)
  obtain ⟨c,rfl⟩:=z6 (h2 2 _ _ rfl rfl)
  obtain ⟨d,rfl⟩:=aZ5 (h2 3 _ _ rfl rfl)
  obtain ⟨e,rfl⟩:=b3H (h2 4 _ _ rfl rfl)
  obtain ⟨f,rfl⟩:=b3J (h2 5 _ _ rfl rfl)
  obtain ⟨g,rfl⟩:=aS1 (h2 6 _ _ rfl rfl)
  obtain ⟨h,rfl⟩:=aH1 (h2 7 _ _ rfl rfl)
  obtain ⟨i,rfl⟩:=b3P (h2 8 _ _ rfl rfl)
  obtain ⟨j,rfl⟩:=aY4 (h2 9 _ _ rfl rfl)
  exact ⟨⟨⟨a,b,c,d,e,f,g,h⟩,i,j⟩,h3⟩
end
end
section
open Go.RowKit Go.ChangeShapes Go.WideShapes Go.Deep
theorem aS8:B6 Tryz.prog 35 [c8,c8,.sl a1S,.sl a1S,.sl a1S]:=
 L3 [[c8],[c8],[.sl a1S],[.sl a1S],[.sl a1S]] Tryz.underlying35 ⟨⟨by kernel_rfl,by kernel_rfl,s9⟩,⟨by kernel_rfl,by kernel_rfl,s9⟩,⟨by kernel_rfl,by kernel_rfl,a4V⟩,⟨by kernel_rfl,by kernel_rfl,a4V⟩,⟨by kernel_rfl,by kernel_rfl,a4V⟩,trivial⟩ (by kernel_rfl)
section
variable {H:Type} {enc:TypeId × Value->H} {w:World} {base:Nat} {spare:Nat->Bool} {held:Bool}
theorem open_verdict {v:Value} {d:DataW H} {p:List MemPlace} {r:Reach} {b0:Nat} (hv:Value.okWide Tryz.prog w r b0 35 v) (h:DataW.Trod enc Tryz.prog w base spare held 35 v d p):∃x:a2r,RS w (fun _=>none) (fun _=>False) (a6q x) v:=by
 obtain ⟨⟨l⟩,rfl,_⟩:=okWide_struct Tryz.underlying35 hv
 obtain ⟨fuel,hf⟩:=h
 obtain ⟨ts,h1,h2,h3⟩:=aK4 (aD2 aS8 fuel _ _ hf)
 match ts,h1 with
 |[a,b,c,d,e],_=>
  obtain ⟨a,rfl⟩:=z6 (h2 0 _ _ rfl rfl)
  obtain ⟨b,rfl⟩:=z6 (h2 1 _ _ rfl rfl)
  obtain ⟨c,rfl⟩:=a4R (h2 2 _ _ rfl rfl)
  obtain ⟨d,rfl⟩:=a4R (h2 3 _ _ rfl rfl)
  obtain ⟨e,rfl⟩:=a4R (h2 4 _ _ rfl rfl)
  exact ⟨⟨a,b,c,d,e⟩,h3⟩
end
end
section
open Go.RowKit Go.ChangeShapes Go.WideShapes Go.ChangeAt
set_option maxRecDepth 100000 in
theorem a3y (os:Os) (started:os.Started) (H:Type) (enc:TypeId × Value->H):
 ReturnsInHanded {} Tryz.checked os 3 .any (Rows.topWrongSourceSpec.pre6 enc Tryz.prog Tryz.f3 Rows.topWrongSourceRow.domain false) (Rows.topWrongSourceSpec.post enc Tryz.prog Tryz.f3 false true false false):=by
 refine returnsInHanded_of_change (C:=Tryz.checked) b8E started (by kernel_rfl) Tryz.func3
  (ChangeSpec.witness6 (enc:=enc) (C:=Tryz.checked) false ⟨#[],#[.agg #[.int .i64 0,.int .i64 0,.int .i64 0,.slice none 0 0,.slice none 0 0,.slice none 0 0,.slice none 0 0,.slice none 0 0,.slice none 0 0,.slice none 0 0],.int .i64 0,.agg #[.int .i64 0,.int .i64 0,.slice none 0 0,.slice none 0 0,.slice none 0 0],.slice none 0 0],[]⟩ 12 (by kernel_rfl) (by kernel_rfl) (by kernel_rfl) (by kernel_rfl)) ?_
 intro W base args ds gs before hval0 hW hcnd _
 have hval:∀(j:Nat) t v,Tryz.f3.params[j]? =some t->args[j]? =some v->Value.okWide Tryz.prog W .any base t v:=hval0
 have hW':=hW
 obtain ⟨p,q,hA0,hV,rfl,hfz,hnd⟩:=hW
 have hA:DataW.TrodAll enc Tryz.prog W 0 (fun _=>true) true Tryz.f3.params.toList args.toList ds p:=hA0
 rw [Tryz.params3] at hA hval
 obtain ⟨v0,vs0,d0,ds0,p0,q0,hargs,rfl,rfl,h0,r0⟩:=trodAll_cons hA
 obtain ⟨v1,vs1,d1,ds1,p1,q1,rfl,rfl,rfl,h1,r1⟩:=trodAll_cons r0
 obtain ⟨v2,vs2,d2,ds2,p2,q2,rfl,rfl,rfl,h2,r2⟩:=trodAll_cons r1
 obtain ⟨v3,vs3,d3,ds3,p3,q3,rfl,rfl,rfl,h3,r3⟩:=trodAll_cons r2
 obtain ⟨rfl,rfl,rfl⟩:=trodAll_nil r3
 obtain rfl:args=#[v0,v1,v2,v3]:=by cases args;simp_all
 obtain ⟨rfl,rfl⟩:=trodVars_none hV
 obtain ⟨a0,t0⟩:=Go.Proofs.YtpjgpclheebhkaaGreat.open_trace (hval 0 32 v0 rfl rfl) h0
 obtain ⟨a1,rfl,rfl,rfl,w1⟩:=open_int Tryz.underlying3 (hval 1 3 v1 rfl rfl) h1
 obtain ⟨a2,t2⟩:=Go.Proofs.YtpjgpclheebhkaaGreat.open_verdict (hval 2 35 v2 rfl rfl) h2
 obtain ⟨a3,t3⟩:=Go.Proofs.YtpjgpclheebhkaaGreat.open_fracs (hval 3 33 v3 rfl rfl) h3
 refine (aD6 (a83 a0 a1 a2 a3) (.cons (t0) (.cons (b9L) (.cons (t2) (.cons (t3) (.nil)))))).mono fun ee W' ⟨he,hg⟩=>?_
 subst he
 exact ⟨_,rfl,b6n hW' b4M (by rw [Tryz.params3];intro t ht;simp at ht;first|(rcases ht with rfl|rfl|rfl|rfl<;>exact ⟨by kernel_rfl,lbM (by kernel_rfl)⟩)|(rcases ht with rfl|rfl|rfl|rfl<;>exact ⟨by kernel_rfl,lbM (by kernel_rfl)⟩)) rfl rfl (by kernel_rfl) Tryz.underlying4 hg⟩
theorem a4C:(Rows.topWrongSourceRow.inPlace == Tryz.pinned.checked.prog.inPlace 3)=true:=by kernel_rfl
theorem a5P:(Rows.topWrongSourceRow.unfollowed == Tryz.pinned.checked.prog.unfollowed 3)=true:=by kernel_rfl
theorem a63:(Rows.topWrongSourceRow.recurses == Tryz.pinned.checked.prog.recurses 3)=true:=by kernel_rfl
theorem a41:(Rows.topWrongSourceRow.named == Tryz.pinned.checked.prog.varsNamed 3)=true:=by kernel_rfl
theorem a4w:(Rows.topWrongSourceRow.loops == (Tryz.f3.params.toList++Rows.topWrongSourceSpec.plain.varTypes Tryz.pinned.checked.prog).any (Tryz.pinned.checked.prog.loopsFrom ·))=true:=by kernel_rfl
set_option maxRecDepth 100000 in
theorem a3C:joinedFacts Tryz.pinned.checked.prog 3 Tryz.f3 (Rows.topWrongSourceSpec) Rows.topWrongSourceRow=true:=b4d (by kernel_rfl) b8Y b7h (by kernel_rfl) (by kernel_rfl) (by kernel_rfl) (by kernel_rfl) (by kernel_rfl) (by kernel_rfl) a4C a5P a63 a41 (by kernel_rfl) (by kernel_rfl) (by kernel_rfl) a4w (by kernel_rfl) (by kernel_rfl) (by kernel_rfl) (by kernel_rfl) (by kernel_rfl) b90 (by kernel_rfl) b5P b63 b8e b7V (by kernel_rfl) (by kernel_rfl) (by kernel_rfl) (by kernel_rfl) (by kernel_rfl)
theorem topWrongSource_holds:Rows.TopWrongSourceSaid:=
 OpenClaim.holds_of_wide 3 Tryz.f3 rfl rfl rfl rfl rfl rfl rfl ⟨rfl,rfl,rfl,rfl,rfl⟩ rfl rfl rfl rfl rfl (by kernel_rfl) Tryz.func3 a3C
  (lbM (by kernel_rfl)) (by unfold Func.isWrapper;first|(rw [if_pos (by decide +kernel)];kernel_rfl)|(rw [if_neg (by decide +kernel)];exact ⟨rfl,rfl⟩))
  (fun os started H enc _=>a3y os started H enc)
end
end Go.Proofs.YtpjgpclheebhkaaGreat
