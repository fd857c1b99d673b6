/- Part 14. -/
import Derived.Test.YtikokmdpigploaaGreatSk13
namespace Go.Proofs.YtikokmdpigploaaGreat
set_option linter.all false
set_option maxRecDepth 100000
set_option maxHeartbeats 8000000
open Go.RowKit
open St1 St2 St3 St4 St5 St6 St7 St8 StA StB StC
theorem never_holds {s:i8} {g:List (Int × Rat)} {z:List Rat} (hr:j6 s=true) (hl:s.rows.length<6000) (hg:j2 (-1) s.n g=true) (hz:j8 s z=true) (h0:m7 g z=0):j8 (x8 s g) z=true:=by
 obtain ⟨h1,h2,h3,h4⟩:=T5.1 hz;refine T5.2 ⟨a1d hr hl hg,h2,h3,fun w hw=>?_⟩;rcases lby.1 hw with h|h
 ·exact h4 w h
 ·have h:=aF8.1 h;subst h;have e1:((0:Int):Rat)=0:=rfl;simp only;rw [h0,e1];exact ⟨fun _=>lb2,fun _=>lb2⟩
def b3i {f:Nat->Rat} {B N:Nat} (h:∀i,rl (f i)<=B) (h0:∀i,N<=i->f i=0):∀k,rl (k8 f k)<=N*(B+1)+1:=by
 intro k;by_cases hk:k<=N
 ·have h1:=a69 (f:=f) (B:=B) k fun j _=>h j
  have h2:=lbT (B+1) hk;omega
 ·obtain ⟨d,rfl⟩:∃d,k=N+d:=⟨k - N,om⟩;have e:k8 f (N+d)=k8 f N:=by
   clear hk;induction d with
   |zero=>rfl
   |succ d ih=>show k8 f (N+d)+f (N+d)=_;rw [h0 _ om,ih];grind
  rw [e];exact a69 (f:=f) (B:=B) N fun j _=>h j
def b78 {s:i8} {Y:List Rat} {B C N:Nat} (hl:Y.length=s.rows.length) (hN:Y.length<=N) (hB:1<=B) (hy:∀v ∈ Y,rl v<=B) (hc:∀w ∈ s.rows,(∀ t ∈ w.terms,rl t.2<=C)∧rl w.value<=C) (hC:1<=C) (hn:N*(B+C+1)+1<=40000) (hm:N<=1000000):a8m s Y:=by
 have hyi:∀i,rl (yN Y i)<=B:=fun i=>by
  unfold yN;by_cases h:i<Y.length
  ·rw [lbl,lbf h];exact hy _ (lbD _)
  ·rw [lbl,lbd om];have:=rl0;show rl 0<=B;omega
 have hy0:∀i,N<=i->yN Y i=0:=fun i hi=>by unfold yN;rw [lbl,lbd om];rfl
 have hrow:∀i,(∀ t ∈ (A6 s i).terms,rl t.2<=C)∧rl (A6 s i).value<=C:=fun i=>by
  by_cases h:i<s.rows.length
  ·rw [O3 (lbf h)];exact hc _ (lbD _)
  ·have e:A6 s i=⟨[],2,0⟩:=by unfold A6;rw [lbl,lbd om];rfl
   rw [e];exact ⟨fun (t:Int × Rat) (ht:t ∈ [])=>by simp at ht,by have:=rl0;show rl 0<=C;omega⟩
 have hcof:∀i l,rl (y5 (A6 s i).terms l)<=C:=fun i l=>by
  have key:∀k,rl (J5 (A6 s i).terms k l)<=C:=by
   intro k;induction k with
   |zero=>have:=rl0;show rl 0<=C;omega
   |succ k ih=>
    cases hk:(A6 s i).terms[k]? with
    |none=>rw [J5,hk];exact ih
    |some t=>
     rw [G0 hk];simp only;split
     ·exact (hrow i).1 t (lbm hk)
     ·exact ih
  exact key _
 refine ⟨fun v hv=>by
  have h1:=hy v hv;by_cases h2:N=0
  ·have:Y=[]:=a27.1 om;subst this;cases hv
  ·have:1*(B+C+1)<=N*(B+C+1):=lbT _ om;omega,fun l k=>?_,fun k=>?_,hl,om⟩
 ·have:=b3i (f:=fun i=>yN Y i*y5 (A6 s i).terms l) (B:=B+C) (N:=N) (fun i=>by have:=a39 (yN Y i) (y5 (A6 s i).terms l);have:=hyi i;have:=hcof i l;omega) (fun i hi=>by rw [hy0 i hi];grind) k;have e:rl (Q4 s (yN Y) l k)<=N*(B+C+1)+1:=this;omega
 ·have:=b3i (f:=fun i=>yN Y i*(A6 s i).value) (B:=B+C) (N:=N) (fun i=>by have:=a39 (yN Y i) (A6 s i).value;have:=hyi i;have:=(hrow i).2;omega) (fun i hi=>by rw [hy0 i hi];grind) k;have e:rl (Y6 s (yN Y) k)<=N*(B+C+1)+1:=this;omega
def b2u {x:List Fr} {d:Int} {n:Nat} (h:x.length<=n∧∀f ∈ x,(f.p.dl.length:Int)<=d∧(f.q.dl.length:Int)<=d) (hn:n<=1000000) (hd:d<=200000):a6D x:=⟨om,fun f hf=>by have:=h.2 f hf;omega⟩
def b1l {X:List Rat} {d:Nat} (h:∀f ∈ X.map fz,(f.p.dl.length:Int)<=d∧(f.q.dl.length:Int)<=d):∀v ∈ X,rl v<=d:=fun v hv=>by
 have:=h (fz v) (lbw.2 ⟨v,hv,rfl⟩);have h1:(bl v.num:Int)<=d:=this.1;have h2:(bl v.den:Int)<=d:=this.2;show max (bl v.num) (bl v.den)<=d;omega
def aa3 {t:n7} {kind:Int} (ht:p6 t=0) (hm:t.ev.moves.length<=8) {g:List (Int × Rat)} (hg:j2 (-1) (t.ev.moves.length:Nat) g=true) (hw:z6 g) {v:a5v}
 (h1:a1t v.w 40 4=true) (h2:a1t v.wo 40 4=true) (h3:a1t v.pr 40 4=true):b5T (j1 t kind) g v:=by
 have p:=B5 (kind:=kind) ht hm hg hw;have hI:=b5l (kind:=kind) ht;have hr:=p.o.r;have hn:(j1 t kind).n.toNat=t.ev.moves.length:=rfl;have pt:∀x:List Fr,a1t x 40 4=true->PtF (j1 t kind) g x:=fun x hx=>by
  have hf:=a9F hx;refine ⟨b2u hf de de,fun h=>?_,fun h=>?_⟩
  ·obtain ⟨X,rfl⟩:=S1 h;have hX:=b1l (d:=4) hf.2;rw [a4g];exact aI2 hr hI (B:=4) de om (by have:=hf.1;rw [lbr] at this;omega) hX
  ·obtain ⟨X,rfl⟩:=S1 h;have hX:=b1l (d:=4) hf.2;rw [a4g];exact aY5 hg hw om hX
 have rows:∀w ∈ (j1 t kind).rows,(∀ t ∈ w.terms,rl t.2<=11)∧rl w.value<=11:=fun w hw=>⟨fun t ht=>by have:=E5 (hI w hw).1 t ht;omega,(hI w hw).2⟩
 have ml:∀s:i8,(∀ w ∈ s.rows,(∀ t ∈ w.terms,rl t.2<=11)∧rl w.value<=11)->aP3 s v.pr:=fun s hs=>by
  have hf:=a9F h3;refine ⟨b2u hf de de,fun hl h=>?_⟩;obtain ⟨Y,hY⟩:=S1 h;rw [hY] at hf hl ⊢;have hX:=b1l (d:=4) hf.2;rw [a4g];rw [lbr] at hl;exact b78 (B:=4) (C:=11) (N:=40) hl (by have:=hf.1;rw [lbr] at this;omega) de hX hs de de de
 refine ⟨pt _ h1,pt _ h2,ml _ fun w hww=>?_,ml _ rows⟩;rcases lby.1 hww with h|h
 ·exact rows w h
 ·have h:=aF8.1 h;subst h;exact ⟨fun t ht=>by have:=E5 hw t ht;omega,by have:=rl0;show rl 0<=11;omega⟩
def aL9 (v:a5v):Bool:=a1t v.w 40 4 && a1t v.wo 40 4 && a1t v.pr 40 4
def b4g (v:a5v):ec 27 [a3h v] [] (i9 (aL9 v)) []:=by
 have f1:=a7j v.w 40 4 de;have f2:=a7j v.wo 40 4 de;have f3:=a7j v.pr 40 4 de;unfold aL9;generalize a1t v.w 40 4=b1 at f1;generalize a1t v.wo 40 4=b2 at f2;generalize a1t v.pr 40 4=b3 at f3;cases b1<;>cases b2<;>cases b3<;>
 ·refine ac Tryz.func27 ?_;conv=>whnf
  repeat' (first|refine zx ?_|apply zD<;>intro<;>try omega)<;>conv=>whnf
  all_goals exact d9 rfl
def aS4 (l:List (Int × Rat)) (z:List Fr) (hl:l.length<=1000000) (h1:∀t ∈ l,rl t.2<=200) (hz:a6D z) (hr:(j2 (-1) z.length l && z.all t7)=false):
 ec 157 [k7 l,n6 z] [] (.tup [frS C6,i9 false]) []:=by
 have m2:(z.map o4).length=z.length:=zq;have rt:=K5 l z.length hl h1;rw [lbG om,C2] at rt;have rt2:ec 160 [k7 l,eI ((z.map o4).length:Nat)] [] (i9 (j2 (-1) z.length l)) []:=by rw [m2];exact rt
 have pt:=aC9 z hz.l hz.d;cases h1:j2 (-1) z.length l<;>cases h2:z.all t7<;>rw [h1] at rt2<;>rw [h2] at pt<;>
 ·first
   |(exfalso;rw [h1,h2] at hr;cases hr;done)
   |(refine ac Tryz.func157 ?_;conv=>whnf
     repeat' (first|refine zx ?_|refine qp rt2 ?_|refine qp pt ?_|refine zd ?_ ?_<;>intro h<;>try omega|fail)<;>conv=>whnf
     all_goals first|(exfalso;simp_all;done)|exact m9 rz)
def b0i (s:i8) (hb:T9 s) (hr:j6 s=true) (z:List Fr) (hz:a6D z) (h:z.all t7=false):
 ec 158 [D8 s,n6 z] [] (i9 false) []:=by
 have m2:(z.map o4).length=z.length:=zq;have l1:=hb.n0;have lr:=a1y s hb;rw [hr] at lr;have pt:=aC9 z hz.l hz.d;rw [h] at pt;refine ac Tryz.func158 ?_;conv=>whnf
 repeat' (first|refine zx ?_|apply zD<;>intro h<;>try omega)<;>conv=>whnf
 all_goals first|omega|exact d9 rfl
def al6 (s:i8) (hb:T9 s) (hr:j6 s=true) (g:List (Int × Rat)) (hg:j2 (-1) s.n g=true) (hgb:∀t ∈ g,rl t.2<=200) (x:List Fr) (hp:PtF s g x) (is:Bool):
 ec 87 [D8 s,k7 g,n6 x,i9 is] [] (i9 (inF s g x is)) []:=by
 have hn:=Q9 hr;have hnn:s.n<=1500:=by
  unfold j6 at hr;simp only [lbM,lbH] at hr;exact hr.1.1.2
 have hgl:g.length<=1500:=by have:=s9 hg;omega
 unfold inF;cases hx:x.all t7 with
 |false=>
  rw [a2i];have ho:=b0i s hb hr x hp.r hx;have va:=aS4 g x om hgb hp.r (by rw [hx,a4L]);refine ac Tryz.func87 ?_;conv=>whnf
  repeat' (first|refine zx ?_|refine bl0 [5] ?_|apply zD<;>intro<;>try omega)<;>conv=>whnf
  all_goals first
   |(exfalso;contradiction)
   |exact d9 rfl
 |true=>
  rw [C2];have pp:=hp.p hx;have pg:=hp.g hx;obtain ⟨X,rfl⟩:=S1 hx;rw [a4g] at pp pg ⊢;exact a9h s hb hr g hg hgb X pp pg is
def aX0 (y:List Fr) (n:Nat) (hy:a6D y):ec 238 [n6 y,eI n] [] (i9 (decide (y.length=n) && y.all t7)) []:=by
 have m2:(y.map o4).length=y.length:=zq;have hl:=hy.l;refine ac Tryz.func238 ?_;conv=>whnf
 repeat' (first|refine zx ?_|apply zD<;>intro<;>try omega)<;>conv=>whnf
 refine j3 d7 (fun k=>([n6 y,eI n,J,J,J,eI k]++Jn 16,[])) y.length (fun k=>(y.take k).all t7=true) [] rfl
  rz ?_
 intro k hk hI;by_cases hlt:k<y.length
 ·obtain ⟨f,hf⟩:∃f,y[k]? =some f:=⟨_,lbf hlt⟩;have q:=hy.d f (lbm hf);have rr:=aI6 f q.1 q.2;cases hff:t7 f with
  |true=>
   rw [hff] at rr;conv=>whnf
   repeat' (first|refine zx ?_|refine i6 hf ?_|apply zD<;>intro<;>try omega)<;>conv=>whnf
   all_goals first
    |omega
    |exact ⟨hlt,by rw [t5 hf,hI,hff];rfl,[],rz⟩
  |false=>
   rw [hff] at rr;rw [x7 hf hff,a4L];conv=>whnf
   repeat' (first|refine zx ?_|refine i6 hf ?_|apply zD<;>intro<;>try omega)<;>conv=>whnf
   all_goals first|omega|exact d9 rfl
 ·rw [lbn om] at hI;rw [hI,a8P];conv=>whnf
  repeat' (first|refine zx ?_|apply zD<;>intro<;>try omega)<;>conv=>whnf
  all_goals first|omega|(refine d9 (lbG ?_).symm;omega)|(refine d9 (lbI ?_).symm;omega)
def aZ5 (s:i8) (hb:T9 s) (hr:j6 s=true) (y:List Fr) (hy:a6D y) (h:(decide (y.length=s.rows.length) && y.all t7)=false):
 ec 159 [D8 s,n6 y] [] (i9 false) []:=by
 have m1:(s.rows.map p4).length=s.rows.length:=zq;have lr:=a1y s hb;rw [hr] at lr;have fr:=aX0 y s.rows.length hy;rw [h] at fr;have fr2:ec 238 [n6 y,eI ((s.rows.map p4).length:Nat)] [] (i9 false) []:=by rw [m1];exact fr
 have l1:=hb.n0;refine ac Tryz.func159 ?_;conv=>whnf
 repeat' (first|refine zx ?_|apply zD<;>intro h<;>try omega)<;>conv=>whnf
 all_goals first|omega|exact d9 rfl
def ap8 (s:i8) (hb:T9 s) (hr:j6 s=true) (g:List (Int × Rat)) (y:List Fr) (hy:a6D y) (h:(decide (y.length=s.rows.length) && y.all t7)=false):
 ec 90 [D8 s,k7 g,n6 y] [] (.tup [frS C6,i9 false]) []:=by
 have sn:=aZ5 s hb hr y hy h;refine ac Tryz.func90 ?_;conv=>whnf
 repeat' (first|refine zx ?_|apply zD<;>intro h<;>try omega)<;>conv=>whnf
 all_goals exact m9 rz
def aH9 (s:i8) (hb:T9 s) (hr:j6 s=true) (y:List Fr) (hy:a6D y) (h:(decide (y.length=s.rows.length) && y.all t7)=false):
 ec 88 [D8 s,n6 y] [] (i9 false) []:=by
 have lo:=a7G (ap8 s hb hr [] y hy h);refine ac Tryz.func88 ?_;conv=>whnf
 repeat' (first|refine zx ?_|refine bl0 [5] ?_|apply zD<;>intro h<;>try omega)<;>conv=>whnf
 all_goals first|(exfalso;simp_all;done)|exact d9 rfl
def be9 (s:i8) (hb:T9 s) (hr:j6 s=true) (y:List Fr) (hy:aP3 s y):
 ec 88 [D8 s,n6 y] [] (i9 (b0F s y)) []:=by
 unfold b0F;cases h:(decide (y.length=s.rows.length) && y.all t7) with
 |false=>rw [a2i];exact aH9 s hb hr y hy.r h
 |true=>
  rw [C2];rw [lbM,lbH] at h;have hm:=hy.m h.1 h.2;obtain ⟨Y,rfl⟩:=S1 h.2;rw [a4g] at hm ⊢;exact az7 s hb hr Y hm.y (by have:=hm.l;have:=hm.m;omega) (fun _=>hm)
def bn7 (s:i8) (hb:T9 s) (hr:j6 s=true) (g:List (Int × Rat)) (hg:g.length<=1000000) (hgb:∀t ∈ g,rl t.2<=200) (y:List Fr) (hy:aP3 s y):
 ec 90 [D8 s,k7 g,n6 y] [] (al8 s g y) []:=by
 unfold al8;cases h:(decide (y.length=s.rows.length) && y.all t7) with
 |false=>rw [if_neg de];exact ap8 s hb hr g y hy.r h
 |true=>
  rw [if_pos rfl];rw [lbM,lbH] at h;have hm:=hy.m h.1 h.2;obtain ⟨Y,rfl⟩:=S1 h.2;rw [a4g] at hm ⊢;exact aF7 s hb hr g hg hgb Y hm.y (by have:=hm.l;have:=hm.m;omega) (fun _=>hm)
def b4j (t:n7) (kind:Int) (hs:t.Sized) (ht:p6 t=0) (k0:0<=kind) (k1:kind<8) (v:a5v) (h0:0<=v.hh) (h1:v.hh<t.ev.hhs) (hm:t.ev.moves.length<=100) (hl:(j1 t kind).rows.length<6000)
 (hb:T9 (j1 t kind)) (hr:j6 (j1 t kind)=true) (hv:b5T (j1 t kind) (v4 t v.hh) v):
 ec 34 [trS t,eI kind,a3h v] [] (i9 (aF1 (j1 t kind) (v4 t v.hh) v)) []:=by
 have sy:=a1M t kind hs;have hc:¬(p6 t≠0∨kind<0∨8<=kind):=om;have e1:a16 t kind=0:=if_neg hc;have e2:a5N t kind=j1 t kind:=if_neg hc;rw [e1,e2] at sy;have go:=ac8 t hs v.hh (by have:=a0V (t:=t) (h:=v.hh);omega);have eg:a0C t v.hh=v4 t v.hh:=if_pos ⟨ht,h0,h1⟩;rw [eg] at go;have hgr:j2 (-1) (j1 t kind).n (v4 t v.hh)=true:=H7 t v.hh;have hgb:∀u ∈ v4 t v.hh,rl u.2<=200:=fun u hu=>by have:=E5 (N8 t v.hh) u hu;omega
 have hsn:(j1 t kind).n=t.ev.moves.length:=rfl;have hn1:(j1 t kind).n<=1000:=om;have hgl:(v4 t v.hh).length<=100:=by
  have:=s9 hgr;omega
 generalize v4 t v.hh=g at go hgr hgb hgl hv;have m1:(v.w.map o4).length=v.w.length:=zq;have m2:(v.wo.map o4).length=v.wo.length:=zq;have m3:(v.pr.map o4).length=v.pr.length:=zq;have i1:=al6 _ hb hr g hgr hgb v.w hv.w true;have i2:=al6 _ hb hr g hgr hgb v.wo hv.wo false;unfold aF1;by_cases s2:v.state=2
 ·rw [if_pos s2];have ne:=ak8 (j1 t kind) g om;have rf:=be9 (x8 (j1 t kind) g) (aK7 hb hl hgl hgb) (a1d hr hl hgr) v.pr hv.m1;generalize inF (j1 t kind) g v.w true=I1 at i1;generalize b0F (x8 (j1 t kind) g) v.pr=R1 at rf;cases I1<;>cases R1<;>
  ·refine ac Tryz.func34 ?_;conv=>whnf
   repeat' (first|refine zx ?_|refine bl0 [5] ?_|apply zD<;>intro h<;>try omega)<;>conv=>whnf
   all_goals first
    |omega
    |(exfalso;contradiction)
    |(have hd:decide (v.wo.length=0)=true:=lbG om
      refine d9 ?_;rw [hd];rfl)
    |(have hd:decide (v.wo.length=0)=false:=lbI om
      refine d9 ?_;rw [hd];rfl)
 rw [if_neg s2];by_cases s0:v.state=0
 ·rw [if_pos s0];have op:=a5U g om hgb;have lo:=bn7 _ hb hr (w8 g) (by rw [a0e];omega) (b1F hgb) v.pr hv.m0;generalize inF (j1 t kind) g v.wo false=I2 at i2;rcases aa0 (j1 t kind) (w8 g) v.pr hv.m0 with ⟨e3,e4⟩|⟨x,bx,e3,e4⟩
  ·rw [e3] at lo;rw [e4,a4L];cases I2<;>
   ·refine ac Tryz.func34 ?_;conv=>whnf
    repeat' (first|refine zx ?_|refine bl0 [5] ?_|refine bl0 [8] ?_|apply zD<;>intro h<;>try omega)<;>conv=>whnf
    all_goals first|omega|(exfalso;contradiction)|exact d9 rfl
  ·rw [e3] at lo;rw [e4];have sg:=a4z x om;have sz:=a1e (x:=x);have e:decide (x=0)=decide (sgR x=0):=by rw [decide_eq_decide];exact sz.symm
   rw [e];generalize sgR x=U at sg;clear sz e;cases I2<;>
   ·refine ac Tryz.func34 ?_;conv=>whnf
    repeat' (first|refine zx ?_|refine bl0 [5] ?_|refine bl0 [8] ?_|apply zD<;>intro h<;>try omega)<;>conv=>whnf
    all_goals first
     |omega
     |(exfalso;contradiction)
     |(refine d9 ?_
       first
        |(rw [show decide (v.w.length=0)=true from lbG om];first|rfl|(rw [show decide (U=0)=true from lbG om];rfl)|(rw [show decide (U=0)=false from lbI om];rfl))
        |(rw [show decide (v.w.length=0)=false from lbI om];rfl))
 rw [if_neg s0];by_cases s1:v.state=1
 ·rw [if_pos s1];generalize inF (j1 t kind) g v.w true=I1 at i1;generalize inF (j1 t kind) g v.wo false=I2 at i2;cases I1<;>cases I2<;>
  ·refine ac Tryz.func34 ?_;conv=>whnf
   repeat' (first|refine zx ?_|refine bl0 [5] ?_|apply zD<;>intro h<;>try omega)<;>conv=>whnf
   all_goals first
    |omega
    |(exfalso;contradiction)
    |(have hd:decide (v.pr.length=0)=true:=lbG om
      refine d9 ?_;rw [hd];rfl)
    |(have hd:decide (v.pr.length=0)=false:=lbI om
      refine d9 ?_;rw [hd];rfl)
 ·rw [if_neg s1];refine ac Tryz.func34 ?_;conv=>whnf
  repeat' (first|refine zx ?_|refine bl0 [5] ?_|apply zD<;>intro h<;>try omega)<;>conv=>whnf
  all_goals first|omega|(exfalso;contradiction)|exact d9 rfl
def a7I (t:n7) (kind:Int) (hs:t.Sized) (v:a5v) (h:a16 t kind≠0∨v.hh<0∨t.ev.hhs<=v.hh):
 ec 34 [trS t,eI kind,a3h v] [] (i9 false) []:=by
 have sy:=a1M t kind hs;refine ac Tryz.func34 ?_;conv=>whnf
 repeat' (first|refine zx ?_|refine bl0 [5] ?_|apply zD<;>intro h<;>try omega)<;>conv=>whnf
 all_goals first|omega|(exfalso;contradiction)|exact d9 rfl
def a45 (l:LI) (k:Nat):Int:=val (l.drop (l.length - k))
def b3w (l:LI):a45 l 0=0:=by unfold a45;rw [Nat.sub_zero,List.drop_length];rfl
def b3F {l:LI} {k:Nat} (h:k<l.length):∃x,l[l.length - 1 - k]? =some x∧a45 l (k+1)=x+1048576*a45 l k:=by
 refine ⟨l[l.length - 1 - k],lbf om,?_⟩;unfold a45;rw [show l.length - (k+1)=l.length - 1 - k by omega,a2R (lbf om),show l.length - 1 - k+1=l.length - k by omega]
def aV5 {l:LI} (h:Okd l) {k:Nat} (hk:k<=l.length):0<=a45 l k∧a45 l k<pw k:=by
 refine ⟨v7 (h.drop _),?_⟩;have:=V6 (h.drop (l.length - k));rw [a4S,show l.length - (l.length - k)=k by omega] at this;exact this
def ao3 {l:LI} (h:Okd l) {k:Nat} (hk:k<=l.length):pw (l.length - k)*a45 l k<=val l∧val l<pw (l.length - k)*(a45 l k+1):=by
 have e:=a3d l (l.length - k) om;have h1:=v7 (h.take (l.length - k));have h2:=V6 (h.take (l.length - k));rw [lbs,show min (l.length - k) l.length=l.length - k by omega] at h2;have e2:val l=val (l.take (l.length - k))+pw (l.length - k)*a45 l k:=e;rw [ah9];omega
def b7g:pw 3=1152921504606846976:=rfl
def a22 {l:LI} (h:Okd l) {k:Nat} (hk:k<=l.length) (h3:k<=3):0<=a45 l k∧a45 l k<1152921504606846976:=by
 have h1:=aV5 h hk;have h2:=a0p h3;rw [b7g] at h2;omega
def b2R (l:LI) (n:Nat) (hl:l.length<=1000000) (hok:Okd l) (hn:n<=l.length) (h3:n<=3):ec 337 [k9 l,eI n] [] (eI (a45 l n)) []:=by
 have m1:(l.map k6).length=l.length:=zq;refine ac Tryz.func337 ?_;conv=>whnf
 repeat' (first|refine zx ?_|apply zD<;>intro<;>try omega)<;>conv=>whnf
 refine j3 d7 (fun k=>([k9 l,eI n,J,J,J,eI (a45 l k),eI k]++Jn 17,[])) n tT [] trivial
  ⟨rfl,rfl,trivial,⟨rfl,rfl,e7 (b3w l).symm,rz⟩⟩ ?_
 intro k hk _;by_cases hlt:k<n
 ·obtain ⟨x,hx,e⟩:=b3F (l:=l) (k:=k) om;have hs:=a22 hok (k:=k) om om;have hs2:=a22 hok (k:=k+1) om om;have hxr:=hok.get hx;have ix:((l.length:Int) - 1) - (k:Int)=((l.length - 1 - k:Nat):Int):=om;have ix2:(((l.map k6).length:Int) - 1) - (k:Int)=((l.length - 1 - k:Nat):Int):=om;generalize a45 l k=tk at *;conv=>whnf
  repeat' (first|refine zx ?_|refine y7 ix hx ?_|refine y7 ix2 hx ?_|apply zD<;>intro<;>try omega)<;>conv=>whnf
  all_goals first|omega|exact ⟨hlt,trivial,[],rfl,rfl,trivial,⟨rfl,rfl,e7 om,rz⟩⟩
 ·have hke:k=n:=by omega
  subst hke;conv=>whnf
  repeat' (first|refine zx ?_|apply zD<;>intro<;>try omega)<;>conv=>whnf
  all_goals first|omega|exact n8 rfl
def b76 {a b n m low:Nat} {A T d Q:Int} (hb:0<b) (hab:b<=a)
 (hm:m=min 2 (dg b).length) (hlow:low=(dg b).length - m) (hn:n=if (dg a).length - min 3 (dg a).length<low then (dg a).length - low else min 3 (dg a).length)
 (hA:A=a45 (dg a) n) (hT:T=a45 (dg b) m) (hd:d=if 0<low then T+1 else T) (hQ:Q=max 1 (A / d)):
 n<=(dg a).length∧n<=3∧low<=(dg a).length - n∧1<=d∧0<Q∧Q<1152921504606846976∧pw ((dg a).length - n - low)*Q*(b:Int)<=a:=by
 have hla:=q9 hab;have hoa:Okd (dg a):=(U2 a).1;have hob:Okd (dg b):=(U2 b).1;have hlb:0<(dg b).length:=by
  have:dg b≠[]:=fun h=>by have:=K8.1 h;omega
  exact a6N.2 this
 have hnl:n<=(dg a).length:=by rw [hn];split<;>omega
 have hn3:n<=3:=by rw [hn];split<;>omega
 have hz:low<=(dg a).length - n:=by rw [hn];split<;>omega
 obtain ⟨A0,A1⟩:=a22 hoa hnl hn3;obtain ⟨T0,T1⟩:=aV5 hob (k:=m) om;obtain ⟨sa,sa2⟩:=ao3 hoa hnl;obtain ⟨sb,sb2⟩:=ao3 hob (k:=m) om;rw [s6] at sa sa2 sb sb2;rw [← hA] at A0 A1 sa sa2;rw [← hT] at T0 T1 sb sb2;rw [← hlow] at sb sb2;have hpl:=K3 low;have hbd:(b:Int)<=pw low*d:=by
  rw [hd];split
  ·omega
  ·have h0:low=0:=by omega
   rw [h0,aE1] at sb sb2 ⊢;omega
 have hd1:1<=d:=by
  apply lb8;intro h;have:pw low*d<=pw low*0:=lbV om om;omega
 have hq0:0<=A / d:=aq7 A0 om;have hqA:A / d<=A:=Int.ediv_le_self _ A0;refine ⟨hnl,hn3,hz,hd1,om,om,?_⟩;by_cases h1:1<=A / d
 ·have hQ2:Q=A / d:=by omega
  have hmul:Q*d<=A:=by rw [hQ2];exact Int.ediv_mul_le A om
  have e1:pw ((dg a).length - n)=pw ((dg a).length - n - low)*pw low:=by rw [← a5d];congr 1;omega
  have hp:=K3 ((dg a).length - n - low);have s1:pw ((dg a).length - n - low)*Q*(b:Int)<=pw ((dg a).length - n - low)*Q*(pw low*d):=lbV hbd (lbZ om om);have s2:pw ((dg a).length - n - low)*Q*(pw low*d)=pw ((dg a).length - n)*(Q*d):=by rw [e1];grind
  have s3:pw ((dg a).length - n)*(Q*d)<=pw ((dg a).length - n)*A:=lbV hmul (by have:=K3 ((dg a).length - n);omega);omega
 ·have hQ2:Q=1:=by omega
  have hAd:A<d:=by
   apply lb8;intro h;have:1<=A / d:=by rw [Int.le_ediv_iff_mul_le om];omega
   omega
  have hz0:(dg a).length - n - low=0:=by
   apply lb8;intro hne;have hn2:n=3:=by rw [hn] at hne ⊢;split at hne<;>rename_i hc<;>simp only [hc,if_true,if_false] at * <;>omega
   have htop:=af1 (n:=a) om;have hm2:=a0p (show m<=2 by omega);have e2:pw ((dg a).length - 1)=pw ((dg a).length - 3)*pw 2:=by rw [← a5d];congr 1;omega
   rw [hn2] at sa2;have hAge:pw 2<=A:=by
    apply lb8;intro h;have:pw ((dg a).length - 3)*(A+1)<=pw ((dg a).length - 3)*pw 2:=lbV om (by have:=K3 ((dg a).length - 3);omega);omega
   have:d<=pw 2:=by rw [hd];split<;>omega
   omega
  rw [hz0,aE1,hQ2];omega
def b7S (k:Nat) (l:LI):val (List.replicate k 0++l)=pw k*val l:=by
 rw [K9,a6i,aM3];omega
def b6C {k:Nat} {Q:Int} (h:0<Q):bz (pw k*Q)=⟨1,List.replicate k 0++dg Q.natAbs⟩:=by
 have hp:=K3 k;have hpos:0<pw k*Q:=a9p hp h;have hr:J0 ⟨1,List.replicate k 0++dg Q.natAbs⟩=true:=by
  have hc:=U2 Q.natAbs;have hne:dg Q.natAbs≠[]:=fun e=>by have:=K8.1 e;omega
  have hl:=a6N.2 hne;unfold J0;have ho:Okd (List.replicate k 0++dg Q.natAbs):=(Okd.zeros k).append hc.1;rw [aD2.2 ho];simp only [lbq,aM3];rw [if_neg om];obtain ⟨x,hx⟩:∃x,(dg Q.natAbs)[(dg Q.natAbs).length - 1]? =some x:=⟨_,lbf om⟩;have hx2:(List.replicate k 0++dg Q.natAbs)[k+(dg Q.natAbs).length - 1]? =some x:=by
   rw [lbc zo,aM3,show k+(dg Q.natAbs).length - 1 - k=(dg Q.natAbs).length - 1 by omega,hx]
  rw [a1X hx2];have:=hc.2 x hx;simp [this]
 have e:bv ⟨1,List.replicate k 0++dg Q.natAbs⟩=pw k*Q:=by
  show 1*val (List.replicate k 0++dg Q.natAbs)=_;rw [b7S,s6];have:((Q.natAbs:Nat):Int)=Q:=om;rw [this];omega
 rw [← e];exact (b34 hr).symm
def aa9 (i:Nat):Rat:=if i % 2=0 then 1 else -1
def b3k (i:Nat):aa9 (i+1)=-(aa9 i):=by
 unfold aa9;by_cases h:i % 2=0
 ·rw [if_pos h,if_neg om]
 ·rw [if_neg h,if_pos om];grind
def B4 (i:Nat) (M:Nat->Nat->Rat):Nat->Nat->Rat:=fun r c=>M (if r<i then r else r+1) (c+1)
def I9:Nat->(Nat->Nat->Rat)->Rat
 |0,_=>1
 |n+1,M=>k8 (fun i=>aa9 i*M i 0*I9 n (B4 i M)) (n+1)
def P8 (n:Nat) (M:Nat->Nat->Rat):I9 (n+1) M=k8 (fun i=>aa9 i*M i 0*I9 n (B4 i M)) (n+1):=rfl
def a2o:∀{n:Nat} {M N:Nat->Nat->Rat},(∀ i j,i<n->j<n->M i j=N i j)->I9 n M=I9 n N
 |0,_,_,_=>rfl
 |n+1,M,N,h=>by
  rw [P8,P8];refine k5 fun i hi=>?_
  rw [h i 0 hi om,a2o (n:=n) (M:=B4 i M) (N:=B4 i N) fun r c hr hc=>?_];unfold B4;split
  ·exact h _ _ om om
  ·exact h _ _ om om
def F4 (M:Nat->Nat->Rat) (r:Nat) (v:Nat->Rat):Nat->Nat->Rat:=fun i=>if i=r then v else M i
def a93 {M:Nat->Nat->Rat} {r:Nat}:F4 M r (M r)=M:=by
 funext i;unfold F4;by_cases h:i=r
 ·rw [if_pos h,h]
 ·rw [if_neg h]
def ag4 {M:Nat->Nat->Rat} {r:Nat} {v:Nat->Rat}:B4 r (F4 M r v)=B4 r M:=by
 funext a c;unfold B4 F4;by_cases h:a<r
 ·rw [if_pos h,if_neg om]
 ·rw [if_neg h,if_neg om]
def an5 {M:Nat->Nat->Rat} {i r:Nat} {v:Nat->Rat} (h:i<r):B4 i (F4 M r v)=F4 (B4 i M) (r - 1) (fun c=>v (c+1)):=by
 funext a c;unfold B4 F4;by_cases ha:a<i
 ·simp only [if_pos ha];rw [if_neg om,if_neg om]
 ·simp only [if_neg ha];by_cases h2:a+1=r
  ·rw [if_pos h2,if_pos om]
  ·rw [if_neg h2,if_neg om]
def ak7 {M:Nat->Nat->Rat} {i r:Nat} {v:Nat->Rat} (h:r<i):B4 i (F4 M r v)=F4 (B4 i M) r (fun c=>v (c+1)):=by
 funext a c;unfold B4 F4;by_cases ha:a<i
 ·simp only [if_pos ha];by_cases h2:a=r
  ·rw [if_pos h2,if_pos h2]
  ·rw [if_neg h2,if_neg h2]
 ·simp only [if_neg ha];rw [if_neg om,if_neg om]
def a6f:∀{n:Nat} {M:Nat->Nat->Rat} {r:Nat} {a b:Rat} {v w:Nat->Rat},r<n->I9 n (F4 M r fun c=>a*v c+b*w c)=a*I9 n (F4 M r v)+b*I9 n (F4 M r w)
 |0,_,_,_,_,_,_,h=>om
 |n+1,M,r,a,b,v,w,h=>by
  rw [P8,P8,P8,←I3,←I3,←a4o];refine k5 fun i hi=>?_
  by_cases e:i=r
  ·subst e;rw [ag4,ag4,ag4];unfold F4;simp only [if_true];grind
  ·have e2:∀u:Nat->Rat,F4 M r u i 0=M i 0:=fun u=>by unfold F4;rw [if_neg e]
   rw [e2,e2,e2];by_cases h2:i<r
   ·rw [an5 h2,an5 h2,an5 h2,a6f (n:=n) (M:=B4 i M) (r:=r - 1) (a:=a) (b:=b) (v:=fun c=>v (c+1)) (w:=fun c=>w (c+1)) om];grind
   ·rw [ak7 om,ak7 om,ak7 om,a6f (n:=n) (M:=B4 i M) (r:=r) (a:=a) (b:=b) (v:=fun c=>v (c+1)) (w:=fun c=>w (c+1)) om];grind
def b3g {f:Nat->Rat} {r:Nat}:∀{n:Nat},r+1<n->(∀ i,i<n->i≠r->i≠r+1->f i=0)->k8 f n=f r+f (r+1)
 |0,h,_=>om
 |n+1,h,h0=>by
  show k8 f n+f n=_;by_cases e:n=r+1
  ·subst e;show k8 f r+f r+f (r+1)=_;rw [v5 fun j hj=>h0 j om om om];grind
  ·rw [b3g (r:=r) om (fun i hi=>h0 i om),h0 n om om e];grind
def a6m:∀{n:Nat} {M:Nat->Nat->Rat} {r:Nat},r+1<n->M r=M (r+1)->I9 n M=0
 |0,_,_,h,_=>om
 |n+1,M,r,h,he=>by
  rw [P8,b3g h fun i hi h1 h2=>?_]
  ·have em:B4 r M=B4 (r+1) M:=by
    funext a c;unfold B4;by_cases h1:a<r
    ·rw [if_pos h1,if_pos om]
    ·rw [if_neg h1];by_cases h2:a<r+1
     ·have:a=r:=by omega
      subst this;rw [if_pos h2,he]
     ·rw [if_neg h2]
   rw [em,he,b3k];grind
  ·by_cases hlt:i<r
   ·rw [a6m (n:=n) (M:=B4 i M) (r:=r - 1) om (by
     funext c;unfold B4;rw [if_neg om,if_neg om,show r - 1+1=r by omega,he])]
    grind
   ·rw [a6m (n:=n) (M:=B4 i M) (r:=r) om (by
     funext c;unfold B4;rw [if_pos om,if_pos om,he])]
    grind
def a6u {M:Nat->Nat->Rat} {r s:Nat} {v w:Nat->Rat} (h:r≠s):F4 (F4 M r v) s w=F4 (F4 M s w) r v:=by
 funext i;unfold F4;by_cases h1:i=r
 ·subst h1;rw [if_neg h,if_pos rfl,if_pos rfl]
 ·rw [if_neg h1];by_cases h2:i=s
  ·simp only [if_pos h2,if_neg h1]
  ·simp only [if_neg h2,if_neg h1]
def a0X {M:Nat->Nat->Rat} {r:Nat} {v:Nat->Rat}:F4 M r v r=v:=by unfold F4;rw [if_pos rfl]
def a0d {M:Nat->Nat->Rat} {r i:Nat} {v:Nat->Rat} (h:i≠r):F4 M r v i=M i:=by unfold F4;rw [if_neg h]
def aM9 {n:Nat} {M:Nat->Nat->Rat} {r:Nat} (v w:Nat->Rat) (h:r<n):I9 n (F4 M r fun c=>v c+w c)=I9 n (F4 M r v)+I9 n (F4 M r w):=by
 have:=a6f (M:=M) (a:=1) (b:=1) (v:=v) (w:=w) h;have e:(fun c=>(1:Rat)*v c+1*w c)=fun c=>v c+w c:=by funext c;grind
 rw [e] at this;grind
def b5f {n:Nat} {M:Nat->Nat->Rat} {r:Nat} (h:r+1<n) (v w:Nat->Rat):I9 n (F4 (F4 M r v) (r+1) w)=-(I9 n (F4 (F4 M r w) (r+1) v)):=by
 have key:I9 n (F4 (F4 M r fun c=>v c+w c) (r+1) fun c=>v c+w c)=0:=a6m h (by rw [a0X,a0d om,a0X]);rw [aM9 v w h,a6u (show r≠r+1 by omega),a6u (show r≠r+1 by omega),aM9 v w om,aM9 v w om] at key;have z1:I9 n (F4 (F4 M (r+1) v) r v)=0:=a6m h (by rw [a0X,a0d om,a0X]);have z2:I9 n (F4 (F4 M (r+1) w) r w)=0:=a6m h (by rw [a0X,a0d om,a0X]);rw [z1,z2] at key;rw [a6u (show r≠r+1 by omega),a6u (show r≠r+1 by omega)];grind
def b1O:∀(d:Nat) {n:Nat} {M:Nat->Nat->Rat} {r s:Nat},s=r+1+d->s<n->M r=M s->I9 n M=0
 |0,n,M,r,s,hs,hn,he=>by subst hs;exact a6m hn he
 |d+1,n,M,r,s,hs,hn,he=>by
  obtain ⟨q,rfl⟩:∃q,s=q+1:=⟨s - 1,om⟩;have e1:M=F4 (F4 M q (M q)) (q+1) (M (q+1)):=by rw [a93,a93]
  rw [e1,b5f hn];have:=b1O d (n:=n) (M:=F4 (F4 M q (M (q+1))) (q+1) (M q)) (r:=r) (s:=q) om om (by
   rw [a0d om,a0d om,a0d om,a0X,he])
  rw [this];grind
def b5G {n:Nat} {M:Nat->Nat->Rat} {r s:Nat} (hr:r<n) (hs:s<n) (h:r≠s) (he:M r=M s):I9 n M=0:=by
 by_cases hlt:r<s
 ·exact b1O (s - r - 1) om hs he
 ·exact b1O (r - s - 1) (r:=s) (s:=r) om hr he.symm
def b2p {n:Nat} {M:Nat->Nat->Rat} {r:Nat} (hr:r<n) (c:Nat->Rat) (v:Nat->Nat->Rat):∀k,I9 n (F4 M r fun l=>k8 (fun i=>c i*v i l) k)=k8 (fun i=>c i*I9 n (F4 M r (v i))) k
 |0=>by
  have:=a6f (M:=M) (a:=0) (b:=0) (v:=fun _=>0) (w:=fun _=>0) hr;have e:(fun l:Nat=>k8 (fun i=>c i*v i l) 0)=fun _=>(0:Rat)*0+0*0:=by funext l;show (0:Rat)=_;grind
  rw [e,this];show _=(0:Rat);grind
 |k+1=>by
  have ih:=b2p (M:=M) hr c v k;have:=a6f (M:=M) (a:=1) (b:=c k) (v:=fun l=>k8 (fun i=>c i*v i l) k) (w:=v k) hr;have e:(fun l=>k8 (fun i=>c i*v i l) (k+1))=fun l=>(1:Rat)*k8 (fun i=>c i*v i l) k+c k*v k l:=by funext l;show k8 _ k+_=_;grind
  rw [e,this,ih];show _=k8 _ k+_;grind
def an4 {n:Nat} {M:Nat->Nat->Rat} {c:Nat->Rat} {u:Nat->Rat} (hu:∀l,l<n->u l=k8 (fun k=>c k*M k l) n) {j:Nat} (hj:j<n):I9 n (F4 M j u)=c j*I9 n M:=by
 have e:I9 n (F4 M j u)=I9 n (F4 M j fun l=>k8 (fun k=>c k*M k l) n):=a2o fun a b ha hb=>by
  unfold F4;split
  ·exact hu b hb
  ·rfl
 rw [e,b2p hj,D3 hj,a93,v5 fun k hk=>?_]
 ·grind
 ·by_cases h:k=j
  ·rw [if_pos h]
  ·rw [if_neg h,b5G (r:=k) (s:=j) hk hj h (by rw [a0d h,a0X])];grind
def b1G (i:Nat):∃z:Int,aa9 i=((z:Int):Rat)∧z.natAbs=1:=by
 unfold aa9;split
 ·exact ⟨1,rz⟩
 ·exact ⟨-1,rz⟩
def a6C:Nat->(Nat->Nat)->Nat
 |0,_=>1
 |n+1,B=>(n+1)*(B 0*a6C n fun c=>B (c+1))
def aS5 {f:Nat->Rat} {B:Nat}:∀{n:Nat},(∀ i,i<n->∃z:Int,f i=((z:Int):Rat)∧z.natAbs<=B)->∃z:Int,k8 f n=((z:Int):Rat)∧z.natAbs<=n*B
 |0,_=>⟨0,rfl,zq⟩
 |n+1,h=>by
  obtain ⟨a,ha,ha2⟩:=aS5 (n:=n) fun i hi=>h i om
  obtain ⟨b,hb,hb2⟩:=h n om;refine ⟨a+b,by show k8 f n+f n=_;rw [ha,hb];push_cast;rfl,?_⟩;have:=Int.natAbs_add_le a b;rw [lbU];omega
def a6g:∀{n:Nat} {M:Nat->Nat->Rat} {B:Nat->Nat},(∀ i j,i<n->j<n->∃z:Int,M i j=((z:Int):Rat)∧z.natAbs<=B j)->∃z:Int,I9 n M=((z:Int):Rat)∧z.natAbs<=a6C n B
 |0,_,_,_=>⟨1,rfl,by simp [a6C]⟩
 |n+1,M,B,h=>by
  rw [P8];refine aS5 fun i hi=>?_
  obtain ⟨a,ha,ha2⟩:=b1G i;obtain ⟨b,hb,hb2⟩:=h i 0 hi om;obtain ⟨c,hc,hc2⟩:=a6g (n:=n) (M:=B4 i M) (B:=fun c=>B (c+1)) fun r c hr hc=>by
   unfold B4;split
   ·exact h _ _ om om
   ·exact h _ _ om om
  refine ⟨a*b*c,by rw [ha,hb,hc];push_cast;rfl,?_⟩;rw [a2x,a2x,ha2,Nat.one_mul];exact lbS hb2 hc2
def a2s {f:Nat->Rat}:∀n:Nat,k8 f (n+1)=f 0+k8 (fun l=>f (l+1)) n
 |0=>by simp only [k8];grind
 |n+1=>by
  have ih:=a2s (f:=f) n;have e:k8 f (n+1+1)=k8 f (n+1)+f (n+1):=rfl;rw [e,ih];simp only [k8];grind
def a52:Nat->Nat->Rat:=fun i j=>if i=j then 1 else 0
def b2I:∀n,I9 n a52=1
 |0=>rfl
 |n+1=>by
  rw [P8,a2s (f:=fun i=>aa9 i*a52 i 0*I9 n (B4 i a52)),v5 fun i hi=>?_]
  ·have e:B4 0 a52=a52:=by
    funext a c;unfold B4 a52;simp
   rw [e,b2I n];have:aa9 0=1:=rfl;have h2:a52 0 0=1:=rfl;rw [this,h2];grind
  ·have:a52 (i+1) 0=0:=by unfold a52;rw [if_neg om]
   rw [this];grind
section
def uV (n:Nat) (D0:Fd) (w:Nat):Nat->Rat
 |0=>if w<n then 0 else D0.V (w - n)
 |l+1=>if w<n then (if w=l then 1 else 0) else -(D0.A (w - n) l)
def uG (g0:Nat->Rat):Nat->Rat
 |0=>0
 |l+1=>g0 l
structure V3 (m n:Nat) (D:Fd):Prop where
 o:∀i,i<m->D.O i=n+i
 f:∀j,j<n->D.F j=j
def muF (n:Nat) (D0 D:Fd):Nat->Nat->Rat
 |0=>a52 0
 |j+1=>uV n D0 (D.F j)
def b6H {m n:Nat} {D0:Fd} (h0:V3 m n D0) (l:Nat) (hl:l<n+1):Ids m n D0 (fun w=>uV n D0 w l) (a52 0 l):=by
 intro i hi;rw [h0.o i hi];rw [k5 (g:=fun j=>D0.A i j*uV n D0 j l) fun j hj=>by rw [h0.f j hj]];cases l with
 |zero=>
  rw [v5 fun j hj=>by show D0.A i j*(if j<n then (0:Rat) else _)=0;rw [if_pos hj];grind];show (if n+i<n then (0:Rat) else D0.V (n+i - n))=a52 0 0*D0.V i - 0;rw [if_neg om,show n+i - n=i by omega];have:a52 0 0=1:=rfl;rw [this];grind
 |succ l=>
  rw [k5 (g:=fun j=>if j=l then D0.A i l else 0) fun j hj=>by
   show D0.A i j*(if j<n then (if j=l then (1:Rat) else 0) else _)=_;rw [if_pos hj];by_cases h:j=l
   ·subst h;rw [if_pos rfl,if_pos rfl];grind
   ·rw [if_neg h,if_neg h];grind]
  rw [D3 (s:=l) om,if_pos rfl,v5 fun j hj=>by
   by_cases h:j=l
   ·rw [if_pos h]
   ·rw [if_neg h,if_neg h]]
  show (if n+i<n then _ else -(D0.A (n+i - n) l))=a52 0 (l+1)*D0.V i - _;rw [if_neg om,show n+i - n=i by omega];have:a52 0 (l+1)=0:=rfl;rw [this];grind
section
variable {m n:Nat} {D0 D:Fd}
def coV (D:Fd) (i:Nat):Nat->Rat
 |0=>D.V i
 |j+1=>-(D.A i j)
def coG (z:Rat) (D:Fd):Nat->Rat
 |0=>z
 |j+1=>D.G j
def b3d (h0:V3 m n D0) (hI:∀y c,Ids m n D0 y c↔Ids m n D y c) {i:Nat} (hi:i<m):∀l,l<n+1->uV n D0 (D.O i) l=k8 (fun k=>coV D i k*muF n D0 D k l) (n+1):=by
 intro l hl;have h:=(hI _ _).1 (b6H h0 l hl) i hi;rw [h,a2s];show _=D.V i*a52 0 l+k8 (fun j=>-(D.A i j)*uV n D0 (D.F j) l) n;rw [k5 (f:=fun j=>-(D.A i j)*uV n D0 (D.F j) l) (g:=fun j=>(-1:Rat)*(D.A i j*uV n D0 (D.F j) l)) fun j hj=>by grind,I3];grind
def b80 (h0:V3 m n D0) (hI:∀y c,Ids m n D0 y c↔Ids m n D y c) {g0:Nat->Rat} {z:Rat} (hg:Z5 n D g0 m z):∀l,l<n+1->uG g0 l=k8 (fun k=>coG z D k*muF n D0 D k l) (n+1):=by
 intro l hl;have h:=hg _ _ ((hI _ _).1 (b6H h0 l hl));rw [a2s];show _=z*a52 0 l+k8 (fun j=>D.G j*uV n D0 (D.F j) l) n;have e:k8 (fun j=>g0 j*uV n D0 j l) n=uG g0 l:=by
  cases l with
  |zero=>rw [v5 fun j hj=>by show g0 j*(if j<n then (0:Rat) else _)=0;rw [if_pos hj];grind];rfl
  |succ l=>
   rw [k5 (g:=fun j=>if j=l then g0 l else 0) fun j hj=>by
    show g0 j*(if j<n then (if j=l then (1:Rat) else 0) else _)=_;rw [if_pos hj];by_cases h:j=l
    ·subst h;rw [if_pos rfl,if_pos rfl];grind
    ·rw [if_neg h,if_neg h];grind]
   rw [D3 (s:=l) om,if_pos rfl,v5 fun j hj=>by
    by_cases h:j=l
    ·rw [if_pos h]
    ·rw [if_neg h,if_neg h]]
   show _=g0 l;grind
 rw [← e,h];grind
def b5C (h0:V3 m n D0) (hI:∀y c,Ids m n D0 y c↔Ids m n D y c) {i:Nat} (hi:i<m):I9 (n+1) (F4 (muF n D0 D) 0 (uV n D0 (D.O i)))=D.V i*I9 (n+1) (muF n D0 D):=an4 (b3d h0 hI hi) (j:=0) om
def b1W (h0:V3 m n D0) (hI:∀y c,Ids m n D0 y c↔Ids m n D y c) {i j:Nat} (hi:i<m) (hj:j<n):I9 (n+1) (F4 (muF n D0 D) (j+1) (uV n D0 (D.O i)))=-(D.A i j)*I9 (n+1) (muF n D0 D):=an4 (b3d h0 hI hi) (j:=j+1) om
def b5a (h0:V3 m n D0) (hI:∀y c,Ids m n D0 y c↔Ids m n D y c) {g0:Nat->Rat} {z:Rat} (hg:Z5 n D g0 m z) {j:Nat} (hj:j<n):I9 (n+1) (F4 (muF n D0 D) (j+1) (uG g0))=D.G j*I9 (n+1) (muF n D0 D):=an4 (b80 h0 hI hg) (j:=j+1) om
def ax3 (h0:V3 m n D0):I9 (n+1) (muF n D0 D0)=1:=by
 rw [← b2I (n+1)];refine a2o fun i j hi hj=>?_
 cases i with
 |zero=>rfl
 |succ i=>
  show uV n D0 (D0.F i) j=_;rw [h0.f i om];cases j with
  |zero=>show (if i<n then (0:Rat) else _)=_;rw [if_pos om];rfl
  |succ j=>
   show (if i<n then (if i=j then (1:Rat) else 0) else _)=_;rw [if_pos om];unfold a52;by_cases h:i=j
   ·rw [if_pos h,if_pos om]
   ·rw [if_neg h,if_neg om]
def aO9 (h0:V3 m n D0) (hI:∀y c,Ids m n D0 y c↔Ids m n D y c) {r s:Nat} (hr:r<m) (hs:s<n):I9 (n+1) (muF n D0 (D.exch r s))=-(D.A r s)*I9 (n+1) (muF n D0 D):=by
 rw [← b1W h0 hI hr hs];refine a2o fun i j hi hj=>?_
 cases i with
 |zero=>rfl
 |succ i=>
  show uV n D0 ((D.exch r s).F i) j=F4 (muF n D0 D) (s+1) (uV n D0 (D.O r)) (i+1) j;rw [a2b];by_cases h:i=s
  ·subst h;rw [if_pos rfl,a0X]
  ·rw [if_neg h,a0d om];rfl
end
def b1c {m n:Nat} {D0:Fd} {g0:Nat->Rat} (h0:V3 m n D0) (hv:a4f m n D0 g0 D0):∀{k:Nat} {D:Fd},itS m n k D0=some D->I9 (n+1) (muF n D0 D)≠0
 |0,D,h=>by injection h with h;subst h;rw [ax3 h0];decide
 |k+1,D,h=>by
  rw [a0q] at h;cases hk:itS m n k D0 with
  |none=>rw [hk] at h;cases h
  |some D1=>
   rw [hk] at h;have h:C5 m n D1=some D:=h;obtain ⟨r,s,hs,rfl⟩:=a7i h;obtain ⟨h1,h2,h3⟩:=a3A hs;have hp:=a4a h3;rw [aO9 h0 (W7 hv hk).i h1 h2];intro e;rcases ai2.1 e with e|e
   ·exact hp zg
   ·exact b1c h0 hv hk e
def b8b (K:Rat) (M:Nat->Nat->Rat):Nat->Nat->Rat:=fun i j=>if j=0 then K*M i 0 else M i j
def b9N (n:Nat) (K:Rat) (M:Nat->Nat->Rat):I9 (n+1) (b8b K M)=K*I9 (n+1) M:=by
 rw [P8,P8,←I3];refine k5 fun i hi=>?_
 have e:B4 i (b8b K M)=B4 i M:=by
  funext a c;unfold B4 b8b;rw [if_neg om]
 rw [e];show aa9 i*(if (0:Nat)=0 then K*M i 0 else _)*_=_;rw [if_pos rfl];grind
def aE6 {n:Nat} {M:Nat->Nat->Rat} {r:Nat} (hr:r<n) (h:∀c,c<n->M r c=0):I9 n M=0:=by
 have e:I9 n M=I9 n (F4 M r fun c=>(0:Rat)*0+0*0):=a2o fun i j hi hj=>by
  unfold F4;by_cases hir:i=r
  ·subst hir;rw [if_pos rfl,h j hj];grind
  ·rw [if_neg hir]
 rw [e,a6f (v:=fun _=>0) (w:=fun _=>0) hr];grind
def b2e {n:Nat} {M:Nat->Nat->Rat} (h1:M 0 0=1) (h0:∀c,c<n->M 0 (c+1)=0):I9 (n+1) M=I9 n (B4 0 M):=by
 rw [P8,a2s (f:=fun i=>aa9 i*M i 0*I9 n (B4 i M)),v5 fun i hi=>?_]
 ·have:aa9 0=1:=rfl;rw [this,h1];grind
 ·rw [aE6 (n:=n) (M:=B4 (i+1) M) (r:=0) om fun c hc=>by
   unfold B4;rw [if_pos om];exact h0 c hc]
  grind
structure aN1 (m n K BV BA BG:Nat) (D0:Fd) (g0:Nat->Rat):Prop where
 k:0<K
 v:∀i,i<m->∃z:Int,(K:Rat)*D0.V i=((z:Int):Rat)∧z.natAbs<=BV
 a:∀i j,i<m->j<n->∃z:Int,D0.A i j=((z:Int):Rat)∧z.natAbs<=BA
 g:∀j,j<n->∃z:Int,g0 j=((z:Int):Rat)∧z.natAbs<=BG
 a1:1<=BA
 ag:BA<=BG
def a8Y {m n K BV BA BG:Nat} {D0:Fd} {g0:Nat->Rat} (h:aN1 m n K BV BA BG D0 g0) {w l:Nat} (hw:w<n+m) (hl:l<n):∃z:Int,uV n D0 w (l+1)=((z:Int):Rat)∧z.natAbs<=BA:=by
 have:=h.a1;show ∃z:Int,(if w<n then (if w=l then (1:Rat) else 0) else -(D0.A (w - n) l))=_∧_;by_cases h1:w<n
 ·rw [if_pos h1];by_cases h2:w=l
  ·rw [if_pos h2];exact ⟨1,rfl,by simpa using this⟩
  ·rw [if_neg h2];exact ⟨0,rfl,zq⟩
 ·rw [if_neg h1];obtain ⟨z,hz,hb⟩:=h.a (w - n) l om hl;exact ⟨-z,by rw [hz];push_cast;rfl,by rw [a2W];exact hb⟩
def b9c {m n K BV BA BG:Nat} {D0:Fd} {g0:Nat->Rat} (h:aN1 m n K BV BA BG D0 g0) {w:Nat} (hw:w<n+m):∃z:Int,(K:Rat)*uV n D0 w 0=((z:Int):Rat)∧z.natAbs<=BV:=by
 show ∃z:Int,(K:Rat)*(if w<n then (0:Rat) else D0.V (w - n))=_∧_;by_cases h1:w<n
 ·rw [if_pos h1];exact ⟨0,by show _=(0:Rat);grind,zq⟩
 ·rw [if_neg h1];exact h.v _ om
def aF4 {m n K BV BA BG:Nat} {D0 D:Fd} {g0:Nat->Rat} (h:aN1 m n K BV BA BG D0 g0) (hf:∀j,j<n->D.F j<n+m):∃z:Int,I9 (n+1) (muF n D0 D)=((z:Int):Rat)∧z.natAbs<=a6C n fun _=>BA:=by
 rw [b2e (M:=muF n D0 D) rfl fun c hc=>rfl];refine a6g fun i j hi hj=>?_
 unfold B4;rw [if_neg om];exact a8Y h (hf i hi) hj
def a3s {m n K BV BA BG:Nat} {D0 D:Fd} {g0:Nat->Rat} (h:aN1 m n K BV BA BG D0 g0) (hf:∀j,j<n->D.F j<n+m) {B:Nat} {u:Nat->Rat} (hB:BA<=B) (hu:∀l,l<n->∃z:Int,u (l+1)=((z:Int):Rat)∧z.natAbs<=B) (j:Nat):∃z:Int,I9 (n+1) (F4 (muF n D0 D) (j+1) u)=((z:Int):Rat)∧z.natAbs<=a6C n fun _=>B:=by
 rw [b2e (M:=F4 (muF n D0 D) (j+1) u) (by rw [a0d om];rfl) fun c hc=>by rw [a0d om];rfl];refine a6g fun i k hi hk=>?_
 have em:B4 0 (F4 (muF n D0 D) (j+1) u) i k=F4 (muF n D0 D) (j+1) u (i+1) (k+1):=by unfold B4;rw [if_neg om]
 rw [em];by_cases e:i+1=j+1
 ·rw [e,a0X];exact hu k hk
 ·rw [a0d e];obtain ⟨z,hz,hb⟩:=a8Y h (hf i hi) hk;exact ⟨z,hz,om⟩
def ah5 {m n K BV BA BG:Nat} {D0 D:Fd} {g0:Nat->Rat} (h:aN1 m n K BV BA BG D0 g0) (hf:∀j,j<n->D.F j<n+m) {w:Nat} (hw:w<n+m):∃z:Int,(K:Rat)*I9 (n+1) (F4 (muF n D0 D) 0 (uV n D0 w))=((z:Int):Rat)∧z.natAbs<=a6C (n+1) fun c=>if c=0 then BV else BA:=by
 rw [← b9N];refine a6g fun i j hi hj=>?_
 have key:∀w,w<n+m->∃z:Int,(if j=0 then (K:Rat)*uV n D0 w 0 else uV n D0 w j)=((z:Int):Rat)∧z.natAbs<=if j=0 then BV else BA:=fun w hw=>by
  by_cases h1:j=0
  ·rw [if_pos h1,if_pos h1];exact b9c h hw
  ·rw [if_neg h1,if_neg h1];obtain ⟨l,rfl⟩:∃l,j=l+1:=⟨j - 1,om⟩;exact a8Y h hw om
 unfold b8b F4;cases i with
 |zero=>simp only [if_true];exact key w hw
 |succ i=>
  simp only [if_neg (show i+1≠0 by omega)];exact key (D.F i) (hf i om)
def aM0 {x:Rat} {p q:Int} (hq:q≠0) (h:((q:Int):Rat)*x=((p:Int):Rat)):rl x<=max (bl p) (bl q):=by
 have hqn:((q:Int):Rat)≠0:=by intro e;exact hq (by exact_mod_cast e)
 have e:x=Rat.divInt p q:=by
  rw [a7e,←h];rw [ao6,a8Z,a9g,b0V _ hqn];grind
 rw [e];exact S7 hq
def a2S {z:Int} {X k:Nat} (h:z.natAbs<=X) (hX:(X:Int)<pw k):bl z<=k:=M8 om
def b1J {m n K BV BA BG b:Nat} {D0 D:Fd} {g0:Nat->Rat} (h0:V3 m n D0) (h:aN1 m n K BV BA BG D0 g0) (hv:a4f m n D0 g0 D0) (hD:M6 m n D0 D)
 (b1:((a6C (n+1) fun c=>if c=0 then BV else BA:Nat):Int)<pw b) (b2:((a6C n fun _=>BG:Nat):Int)<pw b) (b3:((K*a6C n fun _=>BA:Nat):Int)<pw b) (b4:((a6C n fun _=>BA:Nat):Int)<pw b):
 (∀ i,i<m->rl (D.V i)<=b)∧(∀ i j,i<m->j<n->rl (D.A i j)<=b)∧∀j,j<n->rl (D.G j)<=b:=by
 obtain ⟨k,hk⟩:=hD;have hi:=W7 hv hk;have hn:=b1c h0 hv hk;obtain ⟨d,hd,hdb⟩:=aF4 h (D:=D) hi.p.fb;rw [hd] at hn;have hd0:d≠0:=fun e=>hn (by rw [e];rfl)
 refine ⟨fun i him=>?_,fun i j him hj=>?_,fun j hj=>?_⟩
 ·obtain ⟨p,hp,hpb⟩:=ah5 h (D:=D) hi.p.fb (hi.p.ob i him);rw [b5C h0 hi.i him,hd] at hp;have hK:=h.k;have e:=aM0 (x:=D.V i) (p:=p) (q:=(K:Int)*d) (by
   intro e;rcases Int.mul_eq_zero.1 e with e|e
   ·omega
   ·exact hd0 e) (by rw [← hp];push_cast;grind)
  have q1:=a2S hpb b1;have q2:bl ((K:Int)*d)<=b:=a2S (X:=K*a6C n fun _=>BA) (by rw [a2x];exact lbS zq hdb) b3;omega
 ·obtain ⟨p,hp,hpb⟩:=a3s h (D:=D) hi.p.fb (lbQ _) (u:=uV n D0 (D.O i)) (fun l hl=>a8Y h (hi.p.ob i him) hl) j;rw [b1W h0 hi.i him hj,hd] at hp;have e:=aM0 (x:=-(D.A i j)) (p:=p) (q:=d) hd0 (by rw [← hp];grind);rw [Q5] at e;have q1:=a2S hpb b4;have q2:=a2S hdb b4;omega
 ·obtain ⟨z,hz⟩:=hi.g;obtain ⟨p,hp,hpb⟩:=a3s h (D:=D) hi.p.fb h.ag (u:=uG g0) (fun l hl=>h.g l hl) j;rw [b5a h0 hi.i hz hj,hd] at hp;have e:=aM0 (x:=D.G j) (p:=p) (q:=d) hd0 (by rw [← hp];grind);have q1:=a2S hpb b2;have q2:=a2S hdb b4;omega
end
section
def Whole (x:Rat):Prop:=∃z:Int,x=((z:Int):Rat)
structure a89 (m n:Nat) (D0 D:Fd) (q:Int):Prop where
 pos:0<q
 det:I9 (n+1) (muF n D0 D)=((q:Int):Rat)∨I9 (n+1) (muF n D0 D)=-((q:Int):Rat)
 v:∀i,i<m->Whole ((q:Rat)*D.V i)
 a:∀i j,i<m->j<n->Whole ((q:Rat)*D.A i j)
 g:∀j,j<n->Whole ((q:Rat)*D.G j)
def aC1 {x:Rat} (h:Whole x):Whole (-x):=by
 obtain ⟨z,rfl⟩:=h;exact ⟨-z,by push_cast;rfl⟩
def a4c {d q:Int} {x:Rat} (hq:q=d∨q=-d) (h:Whole (x*((d:Int):Rat))):Whole ((q:Rat)*x):=by
 rcases hq with e|e
 ·subst e;rwa [ao6] at h
 ·subst e;have:=aC1 h;have e2:(((-d:Int):Int):Rat)*x=-(x*((d:Int):Rat)):=by push_cast;grind
  rw [e2];exact this
def bn2 {m n BV BA BG:Nat} {D0 D:Fd} {g0:Nat->Rat} (h0:V3 m n D0) (h:aN1 m n 1 BV BA BG D0 g0) (hv:a4f m n D0 g0 D0) (hD:M6 m n D0 D):∃q:Int,a89 m n D0 D q:=by
 obtain ⟨k,hk⟩:=hD;have hi:=W7 hv hk;have hn:=b1c h0 hv hk;obtain ⟨d,hd,hdb⟩:=aF4 h (D:=D) hi.p.fb;have hn2:=hn;rw [hd] at hn2;have hd0:d≠0:=fun e=>hn2 (by rw [e];rfl)
 have key:∀q:Int,(q=d∨q=-d)->(∀ i,i<m->Whole ((q:Rat)*D.V i))∧(∀ i j,i<m->j<n->Whole ((q:Rat)*D.A i j))∧(∀ j,j<n->Whole ((q:Rat)*D.G j)):=by
  intro q hq;refine ⟨fun i him=>a4c hq ?_,fun i j him hj=>a4c hq ?_,fun j hj=>a4c hq ?_⟩
  ·obtain ⟨p,hp,_⟩:=ah5 h (D:=D) hi.p.fb (hi.p.ob i him);rw [b5C h0 hi.i him,hd] at hp;exact ⟨p,by rw [← hp];push_cast;grind⟩
  ·obtain ⟨p,hp,_⟩:=a3s h (D:=D) hi.p.fb (lbQ _) (u:=uV n D0 (D.O i)) (fun l hl=>a8Y h (hi.p.ob i him) hl) j;rw [b1W h0 hi.i him hj,hd] at hp;have:=aC1 (x:=-(D.A i j)*((d:Int):Rat)) ⟨p,hp⟩;have e:D.A i j*((d:Int):Rat)=-(-(D.A i j)*((d:Int):Rat)):=zg;rw [e];exact this
  ·obtain ⟨z,hz⟩:=hi.g;obtain ⟨p,hp,_⟩:=a3s h (D:=D) hi.p.fb h.ag (u:=uG g0) (fun l hl=>h.g l hl) j;rw [b5a h0 hi.i hz hj,hd] at hp;exact ⟨p,hp⟩
 rcases b0o hd0 with hneg|hpos
 ·obtain ⟨k1,k2,k3⟩:=key (-d) (.inr rfl);exact ⟨-d,om,.inr (by rw [hd];push_cast;grind),k1,k2,k3⟩
 ·obtain ⟨k1,k2,k3⟩:=key d (.inl rfl);exact ⟨d,hpos,.inl hd,k1,k2,k3⟩
section
variable {D:Fd} {r s:Nat} {q:Rat}
def a9E {a b:Rat} (h:b≠0):a / b*b=a:=by rw [a8Z,a9g,Rat.inv_mul_cancel _ h];grind
def bl9 (h:D.A r s≠0):(q*D.A r s)*(D.exch r s).V r=q*D.V r:=by
 show (q*D.A r s)*(if r=r then D.V r / D.A r s else _)=_;rw [if_pos rfl];have:=a9E (a:=D.V r) h;grind
def bp8 (h:D.A r s≠0) {i:Nat} (hi:i≠r):(q*D.V i)*(q*D.A r s) - (q*D.A i s)*(q*D.V r)=q*((q*D.A r s)*(D.exch r s).V i):=by
 show _=q*((q*D.A r s)*(if i=r then _ else D.V i - D.A i s*(D.V r / D.A r s)));rw [if_neg hi];have:=a9E (a:=D.V r) h;generalize D.V r / D.A r s=c at this;rw [← this];grind
def b7T (h:D.A r s≠0):(q*D.A r s)*(D.exch r s).A r s=q:=by
 show (q*D.A r s)*(if r=r then (if s=s then 1 / D.A r s else _) else _)=_;rw [if_pos rfl,if_pos rfl];have:=a9E (a:=1) h;grind
def b92 (h:D.A r s≠0) {j:Nat} (hj:j≠s):(q*D.A r s)*(D.exch r s).A r j=q*D.A r j:=by
 show (q*D.A r s)*(if r=r then (if j=s then _ else D.A r j / D.A r s) else _)=_;rw [if_pos rfl,if_neg hj];have:=a9E (a:=D.A r j) h;grind
def b7G (h:D.A r s≠0) {i:Nat} (hi:i≠r):(q*D.A r s)*(D.exch r s).A i s=-(q*D.A i s):=by
 show (q*D.A r s)*(if i=r then _ else if s=s then 0 - D.A i s*(if s=s then 1 / D.A r s else _) else _)=_;rw [if_neg hi,if_pos rfl,if_pos rfl];have:=a9E (a:=1) h;generalize 1 / D.A r s=c at this;have e:q*D.A r s*(0 - D.A i s*c)=-(q*D.A i s*(c*D.A r s)):=zg;rw [e,this];grind
def bt3 (h:D.A r s≠0) {i j:Nat} (hi:i≠r) (hj:j≠s):(q*D.A i j)*(q*D.A r s) - (q*D.A i s)*(q*D.A r j)=q*((q*D.A r s)*(D.exch r s).A i j):=by
 show _=q*((q*D.A r s)*(if i=r then _ else if j=s then _ else D.A i j - D.A i s*(if j=s then _ else D.A r j / D.A r s)));rw [if_neg hi,if_neg hj,if_neg hj];have:=a9E (a:=D.A r j) h;generalize D.A r j / D.A r s=c at this;rw [← this];grind
def bf0 (h:D.A r s≠0):(q*D.A r s)*(D.exch r s).G s=-(q*D.G s):=by
 show (q*D.A r s)*(if s=s then 0 - D.G s*(if s=s then 1 / D.A r s else _) else _)=_;rw [if_pos rfl,if_pos rfl];have:=a9E (a:=1) h;generalize 1 / D.A r s=c at this;have e:q*D.A r s*(0 - D.G s*c)=-(q*D.G s*(c*D.A r s)):=zg;rw [e,this];grind
def bu8 (h:D.A r s≠0) {j:Nat} (hj:j≠s):(q*D.G j)*(q*D.A r s) - (q*D.G s)*(q*D.A r j)=q*((q*D.A r s)*(D.exch r s).G j):=by
 show _=q*((q*D.A r s)*(if j=s then _ else D.G j - D.G s*(if j=s then _ else D.A r j / D.A r s)));rw [if_neg hj,if_neg hj];have:=a9E (a:=D.A r j) h;generalize D.A r j / D.A r s=c at this;rw [← this];grind
end
def b6N {m n:Nat} {D0 D:Fd} {q q':Int} {r s:Nat} (h0:V3 m n D0) (hI:∀y c,Ids m n D0 y c↔Ids m n D y c) (hr:r<m) (hs:s<n) (h:a89 m n D0 D q) (h':a89 m n D0 (D.exch r s) q'):
 ((q:Int):Rat)*D.A r s=((q':Int):Rat)∨((q:Int):Rat)*D.A r s=-((q':Int):Rat):=by
 have e:=aO9 h0 hI hr hs;rcases h.det with a|a<;>rcases h'.det with b|b<;>rw [a,b] at e
 ·right;grind
 ·left;grind
 ·left;grind
 ·right;grind
end
section
structure Zd where
 V:Nat->Int
 A:Nat->Nat->Int
 C:Nat->Int
 D:Int
 O:Nat->Nat
 F:Nat->Nat
namespace Zd
set_option linter.all false
def nx (Z:Zd) (a p b c:Int):Int:=(a*p - b*c) / Z.D
def exV (Z:Zd) (r s:Nat):Nat->Int:=fun i=>if i=r then Z.V r else Z.nx (Z.V i) (Z.A r s) (Z.A i s) (Z.V r)
def exA (Z:Zd) (r s:Nat):Nat->Nat->Int:=fun i j=>if i=r then (if j=s then Z.D else Z.A r j) else if j=s then -(Z.A i s) else Z.nx (Z.A i j) (Z.A r s) (Z.A i s) (Z.A r j)
def exC (Z:Zd) (r s:Nat):Nat->Int:=fun j=>if j=s then -(Z.C s) else Z.nx (Z.C j) (Z.A r s) (Z.C s) (Z.A r j)
def exch (Z:Zd) (r s:Nat):Zd where
 V:=fun i=>if Z.A r s<0 then -(Z.exV r s i) else Z.exV r s i
 A:=fun i j=>if Z.A r s<0 then -(Z.exA r s i j) else Z.exA r s i j
 C:=fun j=>if Z.A r s<0 then -(Z.exC r s j) else Z.exC r s j
 D:=if Z.A r s<0 then -(Z.A r s) else Z.A r s
 O:=fun i=>if i=r then Z.F s else Z.O i
 F:=fun j=>if j=s then Z.O r else Z.F j
end Zd
structure aO1 (m n:Nat) (Z:Zd) (D:Fd):Prop where
 d:0<Z.D
 v:∀i,i<m->((Z.V i:Int):Rat)=((Z.D:Int):Rat)*D.V i
 a:∀i,i<m->∀j,j<n->((Z.A i j:Int):Rat)=((Z.D:Int):Rat)*D.A i j
 c:∀j,j<n->((Z.C j:Int):Rat)=((Z.D:Int):Rat)*D.G j
 o:Z.O=D.O
 f:Z.F=D.F
structure bj6 (m n:Nat) (Z:Zd) (r s:Nat):Prop where
 v:∀i,i<m->i≠r->Z.D ∣ Z.V i*Z.A r s - Z.A i s*Z.V r
 a:∀i,i<m->i≠r->∀j,j<n->j≠s->Z.D ∣ Z.A i j*Z.A r s - Z.A i s*Z.A r j
 c:∀j,j<n->j≠s->Z.D ∣ Z.C j*Z.A r s - Z.C s*Z.A r j
def b9F {x d e y:Int} (hd:0<d) (h:x=d*(e*y)):d ∣ x∧x / d=e*y:=by
 subst h;exact ⟨⟨_,rfl⟩,aK3 _ om⟩
def b4O {m n r s:Nat} {Z:Zd} {D0 D:Fd} {q:Int} (h0:V3 m n D0) (hI:∀y c,Ids m n D0 y c↔Ids m n D y c) (hr:r<m) (hs:s<n) (hp:D.A r s≠0)
 (h:aO1 m n Z D) (hd:a89 m n D0 D Z.D) (hd':a89 m n D0 (D.exch r s) q):bj6 m n Z r s∧aO1 m n (Z.exch r s) (D.exch r s)∧(Z.exch r s).D=q:=by
 have hz0:=h.d
 have hars:=h.a r hr s hs
 have hq:=hd'.pos
 obtain ⟨e,he,hA⟩:∃e:Int,(e=1∨e=-1)∧Z.A r s=e*q:=by
  rcases b6N h0 hI hr hs hd hd' with k|k
  ·rw [← hars] at k
   exact ⟨1,.inl rfl,by have:Z.A r s=q:=by exact_mod_cast k
                        omega⟩
  ·rw [← hars] at k
   exact ⟨-1,.inr rfl,by have e2:((Z.A r s:Int):Rat)=(((-q:Int):Int):Rat):=by rw [k];push_cast;rfl
                         have:Z.A r s=-q:=by exact_mod_cast e2
                         omega⟩
 have hAq:((Z.D:Int):Rat)*D.A r s=((e:Int):Rat)*((q:Int):Rat):=by rw [← hars,hA];push_cast;rfl
 have he2:e*e=1:=by rcases he with rfl|rfl<;>rfl
 have hsg:∀x:Int,(if Z.A r s<0 then -(e*x) else e*x)=x:=by
  intro x
  rcases he with rfl|rfl
  ·rw [if_neg (by rw [hA];omega)];omega
  ·rw [if_pos (by rw [hA];omega)];omega
 have hsg2:∀x y:Int,x=e*y->(if Z.A r s<0 then -x else x)=y:=fun x y hx=>by rw [hx];exact hsg y
 have hD:(if Z.A r s<0 then -(Z.A r s) else Z.A r s)=q:=hsg2 _ _ hA
 have ent:∀(a b c:Int) (x:Rat),(Whole (((q:Int):Rat)*x))->((a:Int):Rat)*(((Z.D:Int):Rat)*D.A r s) - ((b:Int):Rat)*((c:Int):Rat)=((Z.D:Int):Rat)*((((Z.D:Int):Rat)*D.A r s)*x)->
  Z.D ∣ a*Z.A r s - b*c∧(((if Z.A r s<0 then -(Z.nx a (Z.A r s) b c) else Z.nx a (Z.A r s) b c):Int):Rat)=((q:Int):Rat)*x:=by
  intro a b c x hw hx
  obtain ⟨z,hz⟩:=hw
  have e1:a*Z.A r s - b*c=Z.D*(e*z):=by
   have:(((a*Z.A r s - b*c:Int):Int):Rat)=((Z.D*(e*z):Int):Rat):=by
    push_cast
    rw [← hz,hars,hx,hAq];grind
   exact_mod_cast this
  obtain ⟨d1,d2⟩:=b9F hz0 e1
  refine ⟨d1,?_⟩
  rw [hsg2 (Z.nx a (Z.A r s) b c) z d2,hz]
 have sam:∀(a:Int) (x:Rat),((a:Int):Rat)=(((Z.D:Int):Rat)*D.A r s)*x->(((if Z.A r s<0 then -a else a):Int):Rat)=((q:Int):Rat)*x:=by
  intro a x hx
  have:(((e*(if Z.A r s<0 then -a else a):Int)):Rat)=((e:Int):Rat)*(((q:Int):Rat)*x):=by
   have e1:e*(if Z.A r s<0 then -a else a)=a:=by
    rcases he with rfl|rfl
    ·rw [if_neg (by rw [hA];omega)];omega
    ·rw [if_pos (by rw [hA];omega)];omega
   rw [e1,hx,hAq];grind
  rcases he with rfl|rfl
  ·push_cast at this;simpa using this
  ·push_cast at this;grind
 have kv:∀i,i<m->i≠r->_:=fun i hi hir=>ent (Z.V i) (Z.A i s) (Z.V r) ((D.exch r s).V i) (hd'.v i hi) (by rw [h.v i hi,h.a i hi s hs,h.v r hr];exact bp8 hp hir)
 have ka:∀i,i<m->i≠r->∀j,j<n->j≠s->_:=fun i hi hir j hj hjs=>ent (Z.A i j) (Z.A i s) (Z.A r j) ((D.exch r s).A i j) (hd'.a i j hi hj) (by rw [h.a i hi j hj,h.a i hi s hs,h.a r hr j hj];exact bt3 hp hir hjs)
 have kc:∀j,j<n->j≠s->_:=fun j hj hjs=>ent (Z.C j) (Z.C s) (Z.A r j) ((D.exch r s).G j) (hd'.g j hj) (by rw [h.c j hj,h.c s hs,h.a r hr j hj];exact bu8 hp hjs)
 refine ⟨⟨fun i hi hir=>(kv i hi hir).1,fun i hi hir j hj hjs=>(ka i hi hir j hj hjs).1,fun j hj hjs=>(kc j hj hjs).1⟩,⟨?_,?_,?_,?_,?_,?_⟩,hD⟩
 ·show 0<(if Z.A r s<0 then -(Z.A r s) else Z.A r s);omega
 ·intro i hi
  show (((if Z.A r s<0 then -(Z.exV r s i) else Z.exV r s i):Int):Rat)=(((if Z.A r s<0 then -(Z.A r s) else Z.A r s):Int):Rat)*_
  rw [hD]
  by_cases hir:i=r
  ·subst hir
   unfold Zd.exV
   rw [if_pos rfl]
   exact sam _ _ (by rw [h.v i hi];exact (bl9 hp).symm)
  ·unfold Zd.exV
   rw [if_neg hir]
   exact (kv i hi hir).2
 ·intro i hi j hj
  show (((if Z.A r s<0 then -(Z.exA r s i j) else Z.exA r s i j):Int):Rat)=(((if Z.A r s<0 then -(Z.A r s) else Z.A r s):Int):Rat)*_
  rw [hD]
  unfold Zd.exA
  by_cases hir:i=r
  ·subst hir
   rw [if_pos rfl]
   by_cases hjs:j=s
   ·subst hjs;rw [if_pos rfl];exact sam _ _ (b7T hp).symm
   ·rw [if_neg hjs];exact sam _ _ (by rw [h.a i hi j hj];exact (b92 hp hjs).symm)
  ·rw [if_neg hir]
   by_cases hjs:j=s
   ·subst hjs;rw [if_pos rfl];exact sam _ _ (by push_cast;rw [h.a i hi j hj];exact (b7G hp hir).symm)
   ·rw [if_neg hjs];exact (ka i hi hir j hj hjs).2
 ·intro j hj
  show (((if Z.A r s<0 then -(Z.exC r s j) else Z.exC r s j):Int):Rat)=(((if Z.A r s<0 then -(Z.A r s) else Z.A r s):Int):Rat)*_
  rw [hD]
  unfold Zd.exC
  by_cases hjs:j=s
  ·subst hjs;rw [if_pos rfl];exact sam _ _ (by push_cast;rw [h.c j hj];exact (bf0 hp).symm)
  ·rw [if_neg hjs];exact (kc j hj hjs).2
 ·funext i;show (if i=r then Z.F s else Z.O i)=(if i=r then D.F s else D.O i);rw [h.o,h.f]
 ·funext j;show (if j=s then Z.O r else Z.F j)=(if j=s then D.O r else D.F j);rw [h.o,h.f]
noncomputable def b1k (m n:Nat) (D0 D:Fd):Int:=Classical.epsilon fun q=>a89 m n D0 D q
noncomputable def W9 (m n:Nat) (D0 D:Fd):Zd where
 V:=fun i=>(((b1k m n D0 D:Int):Rat)*D.V i).num
 A:=fun i j=>(((b1k m n D0 D:Int):Rat)*D.A i j).num
 C:=fun j=>(((b1k m n D0 D:Int):Rat)*D.G j).num
 D:=b1k m n D0 D
 O:=D.O
 F:=D.F
def a9m {x:Rat} (h:Whole x):((x.num:Int):Rat)=x:=by
 obtain ⟨z,rfl⟩:=h;rw [a78]
def a6t {m n:Nat} {D0 D:Fd} (h:∃q,a89 m n D0 D q):a89 m n D0 D (W9 m n D0 D).D∧aO1 m n (W9 m n D0 D) D:=by
 have hd:a89 m n D0 D (b1k m n D0 D):=aE4 h
 exact ⟨hd,hd.pos,fun i hi=>a9m (hd.v i hi),fun i hi j hj=>a9m (hd.a i j hi hj),fun j hj=>a9m (hd.g j hj),rfl,rfl⟩
structure b6P (m n:Nat) (Z Z':Zd):Prop where
 v:∀i,i<m->Z.V i=Z'.V i
 a:∀i,i<m->∀j,j<n->Z.A i j=Z'.A i j
 c:∀j,j<n->Z.C j=Z'.C j
 d:Z.D=Z'.D
 o:Z.O=Z'.O
 f:Z.F=Z'.F
def b56 {m n:Nat} {Z Z':Zd} {D:Fd} (h:aO1 m n Z D) (h':aO1 m n Z' D) (hd:Z.D=Z'.D):b6P m n Z Z':=
 ⟨fun i hi=>by have a:=h.v i hi;have b:=h'.v i hi;rw [hd,←b] at a;exact_mod_cast a,
  fun i hi j hj=>by have a:=h.a i hi j hj;have b:=h'.a i hi j hj;rw [hd,←b] at a;exact_mod_cast a,
  fun j hj=>by have a:=h.c j hj;have b:=h'.c j hj;rw [hd,←b] at a;exact_mod_cast a,hd,h.o.trans h'.o.symm,h.f.trans h'.f.symm⟩
def b4I {m n r s:Nat} {D0 D:Fd} (h0:V3 m n D0) (hI:∀y c,Ids m n D0 y c↔Ids m n D y c) (hr:r<m) (hs:s<n) (hp:D.A r s≠0) (h:∃q,a89 m n D0 D q) (h':∃q,a89 m n D0 (D.exch r s) q):
 bj6 m n (W9 m n D0 D) r s∧b6P m n ((W9 m n D0 D).exch r s) (W9 m n D0 (D.exch r s)):=by
 obtain ⟨a1,a2⟩:=a6t h;obtain ⟨b1,b2⟩:=a6t h';obtain ⟨c1,c2,c3⟩:=b4O h0 hI hr hs hp a2 a1 b1;exact ⟨c1,b56 c2 b2 c3⟩
def ac6 {q:Int} {z:Int} {x:Rat} (hq:0<q) (h:((z:Int):Rat)=((q:Int):Rat)*x):(z<0↔x<0)∧(0<z↔0<x):=by
 have hq':(0:Rat)<((q:Int):Rat):=by exact_mod_cast hq
 have k1:x<0->z<0:=fun hx=>by
  have:((q:Int):Rat)*(-x) > 0:=lb1 hq' zg;have:((z:Int):Rat)<((0:Int):Rat):=by rw [h];show _<(0:Rat);grind
  exact_mod_cast this
 have k2:0<x->0<z:=fun hx=>by
  have:((q:Int):Rat)*x > 0:=lb1 hq' hx;have:((0:Int):Rat)<((z:Int):Rat):=by rw [h];show (0:Rat)<_;grind
  exact_mod_cast this
 have k3:x=0->z=0:=fun hx=>by
  have:((z:Int):Rat)=((0:Int):Rat):=by rw [h,hx];show _=(0:Rat);grind
  exact_mod_cast this
 have tri:x<0∨x=0∨0<x:=zg;rcases tri with hx|hx|hx
 ·have:=k1 hx;constructor<;>constructor<;>intro _<;>first|assumption|omega|grind
 ·have:=k3 hx;constructor<;>constructor<;>intro _<;>first|omega|grind
 ·have:=k2 hx;constructor<;>constructor<;>intro _<;>first|assumption|omega|grind
end
def aY0 (v:Rat):Prop:=∃z:Int,((1000:Nat):Rat)*v=((z:Int):Rat)∧z.natAbs<=2305843009213693952
def b9S (w:x4):Prop:=z6 w.terms∧aY0 w.value
def b46 {x:Int} (h0:-1000000000000000<=x) (h1:x<=1000000000000000):aY0 ((x:Int):Rat):=⟨1000*x,by push_cast;rfl,om⟩
def a7r:aY0 0:=⟨0,by show _=(0:Rat);grind,de⟩
def b69 {cs:List L8} {rs:List E9} {scale reading day:Int} {lo hi:Rat} (h:L4 cs rs scale reading day=some (lo,hi)):aY0 hi:=by
 unfold L4 at h;split at h
 ·cases h
 ·rename_i i hi;obtain ⟨hb,c,hc,_,hcv⟩:=N5 hi;have e:a1m cs i=c:=by unfold a1m;rw [hc];rfl
  rw [e] at h;split at h
  ·cases h
  ·split at h
   ·rename_i hr;injection h with h;injection h with h1 h2;rw [← h2];unfold K6 Q3 at hcv;rw [W8] at hr;simp only [lbM,lbH,W8] at hcv;obtain ⟨⟨⟨⟨⟨⟨⟨h1,h2⟩,h3⟩,_⟩,h4⟩,h5⟩,h6⟩,h7⟩:=hcv;have e1:0<=c.permille*reading:=lbZ om om;have e2:c.permille*reading<=1000*1099511627776:=a4y om om om om;have e3:0<=c.drift*(day - c.since):=lbZ om om;have e4:c.drift*(day - c.since)<=10000000*100000:=a4y om om om om;refine ⟨1000*reading+(c.permille*reading+1000*(c.grams+c.drift*(day - c.since))),?_,om⟩;unfold a2u;have e5:((1000:Nat):Rat)*Rat.divInt (c.permille*reading) 1000=((c.permille*reading:Int):Rat):=by
     rw [a7e];have:((1000:Nat):Rat)=((1000:Int):Rat):=rfl;rw [this];rw [a8Z,←a9g,ao6 (((1000:Int):Rat)),a9g,b0V _ de];grind
    have e6:((1000:Nat):Rat)*((reading:Rat)+(Rat.divInt (c.permille*reading) 1000+((c.grams+c.drift*(day - c.since):Int):Rat)))=((1000:Nat):Rat)*(reading:Rat)+(((1000:Nat):Rat)*Rat.divInt (c.permille*reading) 1000+((1000:Nat):Rat)*((c.grams+c.drift*(day - c.since):Int):Rat)):=zg;rw [e6,e5];push_cast;rfl
   ·cases h
def bp3 {t:n7} {kind:Int} (ht:p6 t=0):∀w ∈ (j1 t kind).rows,b9S w:=by
 classical
 obtain ⟨q1,q2,q3,q4,q5⟩:=G3 ht;have key:(s7 t kind t.ev.moves.length).all (fun w=>decide (b9S w))=true:=(W2 _ (lbQ _)).2 fun i x hi hx=>by
  rw [lbv];intro w hw;refine lbG ?_;unfold J7 at hw;rw [lby,lby,lby] at hw;rcases hw with ((hw|hw)|hw)|hw
  ·split at hw
   ·cases hw
   ·simp at hw;subst hw;exact ⟨a63 (a34 _) (S8 de de),a7r⟩
  ·unfold W6 at hw;split at hw
   ·cases hw
   ·rename_i lo hi' hiv;simp at hw;subst hw;refine ⟨S8 de de,?_⟩;unfold N1 at hiv;split at hiv
    ·cases hiv
    ·exact b69 hiv
  ·obtain ⟨g,hg,rfl⟩:=lbw.1 hw;unfold t6 at hg;obtain ⟨f,hf',rfl⟩:=lbw.1 hg;have:=Z8 q4 f (lbx.1 hf').1;exact ⟨S8 de de,b46 om om⟩
  ·rw [a8t] at hw;rw [hw.2];exact ⟨S8 de de,a7r⟩
 intro w hw;exact lbK (lbv.1 key w hw)
def ao5 {c:Int} (h:bl c<=1):c.natAbs<=1048575:=by
 have h1:=P6 c.natAbs;have h2:(dg c.natAbs).length<=1:=h;have h3:pw (dg c.natAbs).length<=pw 1:=by
  have:(dg c.natAbs).length=0∨(dg c.natAbs).length=1:=om;rcases this with h|h<;>rw [h]
  ·decide
  ·exact Int.le_refl _
 have h4:pw 1=1048576:=de;omega
def b3e {b:Bool} {x:Rat} {c:Int} (h:x=((c:Int):Rat)):∃c':Int,O4 b x=((c':Int):Rat)∧c'.natAbs=c.natAbs:=by
 cases b with
 |false=>exact ⟨c,h,rfl⟩
 |true=>exact ⟨-c,by show -x=_;rw [h];push_cast;rfl,a2W c⟩
def ae9 {s:i8} {g:List (Int × Rat)}:V3 (f8 s).length s.n.toNat (j4 s g):=⟨fun _ _=>rfl,fun _ _=>rfl⟩
structure T8 (s:i8):Prop where
 r:j6 s=true
 i:∀w ∈ s.rows,b9S w
 n:s.n<=9
 l:s.rows.length<=999
def scT (d:Int) (l:List (Int × Rat)):List (Int × Rat):=l.map fun t=>(t.1,((d:Int):Rat)*t.2)
def P2 (w:x4):x4:=⟨scT (w.value.den:Int) w.terms,w.kind,((w.value.num:Int):Rat)⟩
def j5 (s:i8):i8:=⟨s.n,s.rows.map P2⟩
def av4 {d:Int} (hd:0<d):∀{last n:Int} {l:List (Int × Rat)},j2 last n (scT d l)=j2 last n l
 |_,_,[]=>rfl
 |last,n,a::r=>by
  have hq:((d:Int):Rat)≠0:=by intro h;have:d=0:=by exact_mod_cast h
                              omega
  show (decide (last<a.1) && decide (a.1<n) && decide (((d:Int):Rat)*a.2≠0) && j2 a.1 n (scT d r))=(decide (last<a.1) && decide (a.1<n) && decide (a.2≠0) && j2 a.1 n r);rw [av4 hd]
  congr 2
  by_cases h:a.2=0
  ·rw [h];have:((d:Int):Rat)*0=0:=by grind
   simp [this]
  ·have:((d:Int):Rat)*a.2≠0:=fun e=>by rcases ai2.1 e with e|e<;>contradiction
   simp [h,this]
def a0t (x:Rat):(0:Int)<(x.den:Int):=by have:=x.den_pos;omega
def aV8 (n:Int) (w:x4):u4 n (P2 w)=u4 n w:=by
 unfold u4;show (j2 (-1) n (scT _ w.terms) && _ && _)=_;rw [av4 (a0t _)];rfl
def a5q (s:i8):j6 (j5 s)=j6 s:=by
 unfold j6 j5;simp only [lbr,List.all_map];have e:(u4 s.n ∘ P2)=u4 s.n:=by funext w;exact aV8 s.n w
 rw [e]
def b2O {d:Int} (z:List Rat) (l:List (Int × Rat)):m7 (scT d l) z=((d:Int):Rat)*m7 l z:=by
 have key:∀k,k<=l.length->m7 ((scT d l).take k) z=((d:Int):Rat)*m7 (l.take k) z:=by
  intro k;induction k with
  |zero=>intro _;show ((0:Int):Rat)=_*((0:Int):Rat);have:((0:Int):Rat)=0:=rfl
         rw [this];grind
  |succ k ih=>
   intro hk;obtain ⟨t,ht⟩:∃t,l[k]? =some t:=⟨_,lbf om⟩;have ht2:(scT d l)[k]? =some (t.1,((d:Int):Rat)*t.2):=by unfold scT;rw [lba,ht];rfl
   rw [a43 ht,a43 ht2,I6,I6,ih om];grind
 have h:=key l.length (lbQ _);rw [X7,lbn (by simp [scT])] at h;exact h
def b4M {w:x4} {z:List Rat}:((P2 w).kind≠1->(P2 w).value<=m7 (P2 w).terms z)∧((P2 w).kind≠0->m7 (P2 w).terms z<=(P2 w).value)↔(w.kind≠1->w.value<=m7 w.terms z)∧(w.kind≠0->m7 w.terms z<=w.value):=by
 have hd:(0:Rat)<(((w.value.den:Int):Int):Rat):=by exact_mod_cast a0t w.value
 have e1:(P2 w).value=(((w.value.den:Int):Int):Rat)*w.value:=(ad4 w.value).symm;have e2:m7 (P2 w).terms z=(((w.value.den:Int):Int):Rat)*m7 w.terms z:=b2O z w.terms;have k:(P2 w).kind=w.kind:=rfl;rw [k,e1,e2];have m1:∀x y:Rat,(((w.value.den:Int):Int):Rat)*x<=(((w.value.den:Int):Int):Rat)*y↔x<=y:=fun x y=>by
  constructor
  ·intro h;apply lb8;intro hn;have:0<x - y:=zg;have:=lb1 hd this;grind
  ·intro h;exact Rat.mul_le_mul_of_nonneg_left h zg
 rw [m1,m1]
theorem sc_holds (s:i8) (z:List Rat):j8 (j5 s) z=true↔j8 s z=true:=by
 rw [T5,T5,a5q];have e:(∀ w ∈ (j5 s).rows,(w.kind≠1->w.value<=m7 w.terms z)∧(w.kind≠0->m7 w.terms z<=w.value))↔∀w ∈ s.rows,(w.kind≠1->w.value<=m7 w.terms z)∧(w.kind≠0->m7 w.terms z<=w.value):=by
  constructor
  ·intro h w hw;exact b4M.1 (h (P2 w) (List.mem_map_of_mem hw))
  ·intro h w hw;obtain ⟨w0,hw0,rfl⟩:=lbw.1 hw;exact b4M.2 (h w0 hw0)
 rw [e];rfl
def al2 {s:i8} {i:Nat} {w:x4} (h:s.rows[i]? =some w):(j5 s).rows[i]? =some (P2 w):=by
 show (s.rows.map P2)[i]? =_;rw [lba,h];rfl
def b7p {s:i8} {w:x4} (h:w ∈ (j5 s).rows):∃w0 ∈ s.rows,w=P2 w0:=by
 obtain ⟨w0,h1,rfl⟩:=lbw.1 h;exact ⟨w0,h1,rfl⟩
def a3q {v:Rat} (h:aY0 v):(v.den:Int)<=1000∧v.num.natAbs<=2305843009213693952:=by
 obtain ⟨z,h1,h2⟩:=h;have hd:=a0t v;have hm:=ad4 v;have e:1000*v.num=z*(v.den:Int):=by
  have:(((1000*v.num:Int):Int):Rat)=((z*(v.den:Int):Int):Rat):=by
   push_cast;rw [← h1];have hm2:((v.num:Int):Rat)=(((v.den:Int):Int):Rat)*v:=hm.symm;rw [hm2];have:((1000:Nat):Rat)=1000:=rfl;rw [this];push_cast;grind
  exact_mod_cast this
 have hdv:(v.den:Int) ∣ 1000*v.num:=⟨z,by rw [e,a6T]⟩;have hcop:Int.gcd (v.den:Int) v.num=1:=by
  have:=v.reduced;rw [Int.gcd_comm];exact this
 have hd1000:(v.den:Int) ∣ 1000:=by
  have h1:v.den ∣ 1000*v.num.natAbs:=by
   have:=Int.natAbs_dvd_natAbs.2 hdv;rwa [a2x] at this
  have h2:Nat.Coprime v.den v.num.natAbs:=by
   have:=v.reduced;exact this.symm
  have h3:v.den ∣ 1000:=h2.dvd_of_dvd_mul_right h1;exact Int.natCast_dvd_natCast.2 h3
 have hle:=Int.le_of_dvd de hd1000;refine ⟨hle,?_⟩;have e2:1000*v.num.natAbs=z.natAbs*v.den:=by
  have:=congrArg Int.natAbs e;rw [a2x,a2x] at this;exact this
 have:z.natAbs*v.den<=2305843009213693952*1000:=lbS h2 om;omega
def b7h {s:i8} {g:List (Int × Rat)} (hI:∀w ∈ s.rows,b9S w) (hg:z6 g):aN1 (f8 (j5 s)).length (j5 s).n.toNat 1 2305843009213693952 1048575000 1048575000 (j4 (j5 s) g) (fun j=>-(y5 g j)) where
 k:=de
 v:=fun i hi=>by
  obtain ⟨f,hf⟩:∃f,(f8 (j5 s))[i]? =some f:=⟨_,lbf hi⟩;obtain ⟨x,hx,_⟩:=S9.1 (lbm hf);obtain ⟨x0,hx0,rfl⟩:=b7p (lbm hx);have h2:=(a3q (hI x0 hx0).2).2;have hfd:(f8 (j5 s)).getD i (0,false)=f:=by rw [lbl,hf];rfl
  have eV:(j4 (j5 s) g).V i=O4 f.2 (P2 x0).value:=by show a2K (j5 s) ((f8 (j5 s)).getD i (0,false))=_;rw [hfd];unfold a2K;rw [hx]
  rw [eV];obtain ⟨c',hc',hb'⟩:=b3e (b:=f.2) (x:=(P2 x0).value) (c:=x0.value.num) rfl;exact ⟨c',by rw [hc'];show (1:Rat)*_=_;grind,by rw [hb'];exact h2⟩
 a:=fun i j hi hj=>by
  obtain ⟨f,hf⟩:∃f,(f8 (j5 s))[i]? =some f:=⟨_,lbf hi⟩;obtain ⟨x,hx,_⟩:=S9.1 (lbm hf);obtain ⟨x0,hx0,rfl⟩:=b7p (lbm hx);have h1:=(hI x0 hx0).1;have h2:=(a3q (hI x0 hx0).2).1;have h3:=a0t x0.value;have hfd:(f8 (j5 s)).getD i (0,false)=f:=by rw [lbl,hf];rfl
  have eA:(j4 (j5 s) g).A i j=O4 f.2 (y5 (P2 x0).terms j):=by show a1s (j5 s) ((f8 (j5 s)).getD i (0,false)) j=_;rw [hfd];unfold a1s;simp only [hx]
  rw [eA];have key:∀k,∃c:Int,J5 (scT (x0.value.den:Int) x0.terms) k j=((c:Int):Rat)∧c.natAbs<=1048575000:=by
   intro k;induction k with
   |zero=>exact ⟨0,rfl,de⟩
   |succ k ih=>
    cases hk:x0.terms[k]? with
    |none=>rw [J5,show (scT (x0.value.den:Int) x0.terms)[k]? =none by unfold scT;rw [lba,hk];rfl];exact ih
    |some t=>
     rw [G0 (t:=(t.1,(((x0.value.den:Int):Int):Rat)*t.2)) (by unfold scT;rw [lba,hk];rfl)];simp only;split
     ·obtain ⟨c,hc,hb⟩:=h1 t (lbm hk);refine ⟨(x0.value.den:Int)*c,by rw [hc];push_cast;rfl,?_⟩;rw [a2x];have:=ao5 hb
      calc (x0.value.den:Int).natAbs*c.natAbs<=1000*1048575:=lbS om this
       _=1048575000:=rfl
     ·exact ih
  obtain ⟨c,hc,hb⟩:=key (P2 x0).terms.length;obtain ⟨c',hc',hb'⟩:=b3e (b:=f.2) (x:=y5 (P2 x0).terms j) hc;exact ⟨c',hc',by rw [hb'];exact hb⟩
 g:=fun j hj=>by
  obtain ⟨c,hc,hb⟩:=a19 hg g.length j;exact ⟨-c,by rw [show y5 g j=((c:Int):Rat) from hc];push_cast;rfl,by rw [a2W];have:=ao5 hb;omega⟩
 a1:=de
 ag:=de
structure ZB (m n b:Nat) (Z:Zd):Prop where
 v:∀i,i<m->bl (Z.V i)<=b
 a:∀i,i<m->∀j,j<n->bl (Z.A i j)<=b
 c:∀j,j<n->bl (Z.C j)<=b
 d:bl Z.D<=b
def bg0 {m n BV BA BG b:Nat} {D0 D:Fd} {g0:Nat->Rat} (h0:V3 m n D0) (h:aN1 m n 1 BV BA BG D0 g0) (hv:a4f m n D0 g0 D0) (hD:M6 m n D0 D)
 (b1:((a6C (n+1) fun c=>if c=0 then BV else BA:Nat):Int)<pw b) (b2:((a6C n fun _=>BG:Nat):Int)<pw b) (b4:((a6C n fun _=>BA:Nat):Int)<pw b):
 (∃ q,a89 m n D0 D q)∧ZB m n b (W9 m n D0 D):=by
 have hex:=bn2 h0 h hv hD;refine ⟨hex,?_⟩;obtain ⟨hd,hr⟩:=a6t hex;obtain ⟨k,hk⟩:=hD;have hi:=W7 hv hk;obtain ⟨d,hdd,hdb⟩:=aF4 h (D:=D) hi.p.fb;have hq:(W9 m n D0 D).D=d∨(W9 m n D0 D).D=-d:=by
  rcases hd.det with e|e
  ·left;rw [e] at hdd;exact_mod_cast hdd
  ·right
   rw [e] at hdd;have:(((-(W9 m n D0 D).D:Int):Int):Rat)=((d:Int):Rat):=by push_cast;exact hdd
   have:-(W9 m n D0 D).D=d:=by exact_mod_cast this
   omega
 have ent:∀(z p:Int) (x:Rat),((z:Int):Rat)=(((W9 m n D0 D).D:Int):Rat)*x->((p:Int):Rat)=x*((d:Int):Rat)->z.natAbs=p.natAbs:=by
  intro z p x hz hp;rcases hq with e|e
  ·have:((z:Int):Rat)=((p:Int):Rat):=by rw [hz,hp,e];grind
   have:z=p:=by exact_mod_cast this
   rw [this]
  ·have:((z:Int):Rat)=(((-p:Int):Int):Rat):=by push_cast;rw [hz,hp,e];push_cast;grind
   have:z=-p:=by exact_mod_cast this
   rw [this,a2W]
 refine ⟨fun i him=>?_,fun i him j hj=>?_,fun j hj=>?_,?_⟩
 ·obtain ⟨p,hp,hpb⟩:=ah5 h (D:=D) hi.p.fb (hi.p.ob i him);rw [b5C h0 hi.i him,hdd] at hp;have e:=ent _ p _ (hr.v i him) (by rw [← hp,show ((1:Nat):Rat)=1 from rfl];grind);exact a2S (by rw [e];exact hpb) b1
 ·obtain ⟨p,hp,hpb⟩:=a3s h (D:=D) hi.p.fb (lbQ _) (u:=uV n D0 (D.O i)) (fun l hl=>a8Y h (hi.p.ob i him) hl) j;rw [b1W h0 hi.i him hj,hdd] at hp;have e:=ent _ (-p) _ (hr.a i him j hj) (by push_cast;rw [← hp];grind);exact a2S (by rw [e,a2W];exact hpb) b4
 ·obtain ⟨z,hz⟩:=hi.g;obtain ⟨p,hp,hpb⟩:=a3s h (D:=D) hi.p.fb h.ag (u:=uG g0) (fun l hl=>h.g l hl) j;rw [b5a h0 hi.i hz hj,hdd] at hp;have e:=ent _ p _ (hr.c j hj) hp.symm;exact a2S (by rw [e];exact hpb) b2
 ·have:(W9 m n D0 D).D.natAbs=d.natAbs:=by rcases hq with e|e<;>rw [e];rw [a2W]
  exact a2S (by rw [this];exact hdb) b4
def av0:∀n,n<10->((a6C (n+1) fun c=>if c=0 then 2305843009213693952 else 1048575000:Nat):Int)<pw 25∧((a6C n fun _=>1048575000:Nat):Int)<pw 25:=by decide +kernel
def aQ9 {s:i8} {g:List (Int × Rat)} (h:T8 s) (hg:z6 g) {D:Fd} (hD:M6 (f8 (j5 s)).length (j5 s).n.toNat (j4 (j5 s) g) D):
 (∃ q,a89 (f8 (j5 s)).length (j5 s).n.toNat (j4 (j5 s) g) D q)∧ZB (f8 (j5 s)).length (j5 s).n.toNat 25 (W9 (f8 (j5 s)).length (j5 s).n.toNat (j4 (j5 s) g) D):=by
 have hn:=Q9 h.r;have:=h.n;obtain ⟨p1,p2⟩:=av0 (j5 s).n.toNat (by show s.n.toNat<10;omega);exact bg0 ae9 (b7h h.i hg) T4 hD p1 p2 p2
def b0e {s:i8} {g:List (Int × Rat)} (h:T8 s) (hg:z6 g):(W9 (f8 (j5 s)).length (j5 s).n.toNat (j4 (j5 s) g) (j4 (j5 s) g)).D=1:=by
 obtain ⟨⟨q,hq⟩,_⟩:=aQ9 h hg (g:=g) a76;have hd:=(a6t ⟨q,hq⟩).1;have h1:=ax3 (n:=(j5 s).n.toNat) (ae9 (s:=j5 s) (g:=g));rcases hd.det with e|e
 ·rw [h1] at e;have e2:((1:Int):Rat)=(((W9 (f8 (j5 s)).length (j5 s).n.toNat (j4 (j5 s) g) (j4 (j5 s) g)).D:Int):Rat):=e;exact (by exact_mod_cast e2:(1:Int)=_).symm
 ·rw [h1] at e;have hp:=hd.pos;have e2:((1:Int):Rat)=(((-(W9 (f8 (j5 s)).length (j5 s).n.toNat (j4 (j5 s) g) (j4 (j5 s) g)).D:Int):Int):Rat):=by push_cast;exact e
  have:(1:Int)=-(W9 (f8 (j5 s)).length (j5 s).n.toNat (j4 (j5 s) g) (j4 (j5 s) g)).D:=by exact_mod_cast e2
  omega
section
open Go.RowKit
def U6 (z:Int):List T:=[ti (bz z).sg,x6 (bz z).dl]
def zF (n:Nat) (g:Nat->Int):LI:=(List.range n).map g
def mZ (m n:Nat) (A:Nat->Nat->Int):List LI:=(List.range m).map fun i=>zF n (A i)
def C7 (n:Nat) (g:Nat->Int):(zF n g).length=n:=by simp [zF]
def d8 (m n:Nat) (A:Nat->Nat->Int):(mZ m n A).length=m:=by simp [mZ]
def P5 {n:Nat} {g:Nat->Int} {j:Nat} (h:j<n):(zF n g)[j]? =some (g j):=by simp [zF,h]
def X9 {m n:Nat} {A:Nat->Nat->Int} {i:Nat} (h:i<m):(mZ m n A)[i]? =some (zF n (A i)):=by simp [mZ,h]
def bh7 {n:Nat} {g:Nat->Int} {s:Nat} {v:Int} (h:s<n):(zF n g).set s v=zF n (fun j=>if j=s then v else g j):=by
 apply a0A;intro j;by_cases hj:j<n
 ·rw [P5 hj,lbg,C7];by_cases hjm:s=j
  ·subst hjm;simp [h]
  ·rw [if_neg hjm,P5 hj,if_neg om]
 ·rw [lbd (by simp [C7];omega),lbd (by simp [C7];omega)]
def a2k {n:Nat} {g h:Nat->Int} (e:∀j,j<n->g j=h j):zF n g=zF n h:=lbp fun j hj=>e j (lbA.1 hj)
def a84 {m n:Nat} {A B:Nat->Nat->Int} (e:∀i,i<m->∀j,j<n->A i j=B i j):mZ m n A=mZ m n B:=lbp fun i hi=>a2k (e i (lbA.1 hi))
def b0C {m n:Nat} {A:Nat->Nat->Int} {r:Nat} {g:Nat->Int} (h:r<m):(mZ m n A).set r (zF n g)=mZ m n (fun i=>if i=r then g else A i):=by
 apply a0A;intro j;by_cases hj:j<m
 ·rw [X9 hj,lbg,d8];by_cases hjm:r=j
  ·subst hjm;simp [h]
  ·rw [if_neg hjm,X9 hj,if_neg om]
 ·rw [lbd (by simp [d8];omega),lbd (by simp [d8];omega)]
def b2L {m n r:Nat} {A B:Nat->Nat->Int} {g:Nat->Int} (h:r<m) (e:(fun i=>if i=r then g else A i)=B):(mZ m n A).set r (zF n g)=mZ m n B:=by rw [b0C h,e]
abbrev zlB (l:LI):Blk:={ mode:=.live,elem:=84,size:=2,rows:=toC (l.map U6),box:=false }
def b86 {row:LI} {i n:Nat} {y:Int} (h:n=i):y6 (zlB row) ((toC (row.map U6)).set n (bgC (bz y)))=zlB (row.set i y):=by
 subst h;unfold y6;simp [toC,a59,U6]
def hdR (b m n:Nat):List (List C):=(List.range m).map fun i=>[C.own (i+b) 0 n true]
def y8 (b m n:Nat):(hdR b m n).length=m:=by simp [hdR]
def a80 {b m n i:Nat} (h:i<m):(hdR b m n)[i]? =some [C.own (i+b) 0 n true]:=by simp [hdR,h]
abbrev hdB (b m n:Nat):Blk:={ mode:=.live,elem:=271,size:=1,rows:=hdR b m n,box:=false }
def frI (l:LB):LI:=l.map fun f=>(f.1:Int)
def sg1 (b:Bool):Int:=if b then -1 else 1
def S0 (l:LB):LI:=l.map fun f=>sg1 f.2
abbrev bj8 (m n q:Nat) (D:Int):Blk:={ mode:=.live,elem:=274,size:=12,rows:=[[C.own 1 0 m true,.own 2 0 m true,.own 3 0 n true,.t (ti (bz D).sg),.t (x6 (bz D).dl),.own 4 0 m true,.own 5 0 q true,.own 6 0 m true,.own 7 0 m true,.own 8 0 m true,.t (ti (bz 1).sg),.t (x6 (bz 1).dl)]],box:=true }
abbrev G1 (m n q:Nat) (fr:LB) (sc:LI) (D:Int) (V G:Nat->Int) (O F:Nat->Nat) (A:Nat->Nat->Int) (T:Hp):Hp:=
 bj8 m n q D::zlB (zF m V)::hdB 9 m n::zlB (zF n G)::Q0 m O::Q0 q F::x9 (frI fr)::x9 (S0 fr)::zlB sc::((mZ m n A).map zlB++T)
abbrev J3 (m n:Nat) (fr:LB) (sc:LI) (Z:Zd) (T:Hp):Hp:=G1 m n n fr sc Z.D Z.V Z.C Z.O Z.F Z.A T
def H6 {b0 b1 b2 b3 b4 b5 b6 b7 b8 c0 c1 c2 c3 c4 c5 c6 c7 c8:Blk} {L L':Hp} (h0:b0=c0) (h1:b1=c1) (h2:b2=c2) (h3:b3=c3) (h4:b4=c4) (h5:b5=c5) (h6:b6=c6) (h7:b7=c7) (h8:b8=c8) (h9:L=L'):
 b0::b1::b2::b3::b4::b5::b6::b7::b8::L=c0::c1::c2::c3::c4::c5::c6::c7::c8::L':=by
 subst h0 h1 h2 h3 h4 h5 h6 h7 h8 h9;rfl
section
variable {m n q N:Nat} {fr:List (Nat × Bool)} {sc:List Int} {D:Int} {V G:Nat->Int} {O F:Nat->Nat} {A:Nat->Nat->Int} {T T':Hp}
def a3E:G1 m n q fr sc D V G O F A (T++T')=G1 m n q fr sc D V G O F A T++T':=by
 show _::_::_::_::_::_::_::_::_::(_++(T++T'))=_::_::_::_::_::_::_::_::_::((_++T)++T');rw [lbC]
def V7:(G1 m n q fr sc D V G O F A T).length=m+9+T.length:=by simp [d8];omega
def bd2 {b:Nat} (h:m+b<=N):okB N (hdB b m n):=by
 intro r hr c hc;obtain ⟨i,hi,rfl⟩:=lbw.1 hr;have:=lbA.1 hi;simp at hc;subst hc;show i+b<N;omega
def b8p (h:9<=N):okB N (bj8 m n q D):=by
 intro r hr c hc;simp at hr;subst hr;simp at hc;rcases hc with rfl|rfl|rfl|rfl|rfl|rfl|rfl|rfl|rfl|rfl|rfl|rfl<;>first|trivial|(simp only;omega)
def a4d (h:m+9<=N) (hT:∀k ∈ T,okB N k):∀k ∈ G1 m n q fr sc D V G O F A T,okB N k:=by
 intro k hk;simp only [lbz,lby] at hk;rcases hk with rfl|rfl|rfl|rfl|rfl|rfl|rfl|rfl|rfl|hk|hk
 ·exact b8p om
 ·exact u0 rfl
 ·exact bd2 h
 ·exact u0 rfl
 ·exact u0 rfl
 ·exact u0 rfl
 ·exact u0 rfl
 ·exact u0 rfl
 ·exact u0 rfl
 ·obtain ⟨l,_,rfl⟩:=lbw.1 hk;exact u0 rfl
 ·exact hT k hk
theorem a0E:∀k ∈ G1 m n q fr sc D V G O F A [],k.mode=.live∧k.app=false:=by
 intro k hk
 simp only [lbz,a0x] at hk
 rcases hk with rfl|rfl|rfl|rfl|rfl|rfl|rfl|rfl|rfl|hk
 all_goals first|exact ⟨rfl,rfl⟩|skip
 obtain ⟨l,_,rfl⟩:=lbw.1 hk
 exact ⟨rfl,rfl⟩
def p8 {n0:Nat} {H:Hp} {env env':Env} (hH:H=G1 m n q fr sc D V G O F A (T++T')) (hN:m+9+T.length=N) (h0:n0<=N) (hT:∀k ∈ T,okB N k) (hE:X5 (idR N) H env env'):Ent n0 (idR N) env H env' (G1 m n q fr sc D V G O F A T):=by
 refine a6e (by rw [V7];exact hN) h0 (a4d om hT) (fun i hi=>?_) hE;rw [hH,a3E,lbb (by rw [V7];omega)]
def a54 {n0:Nat} {H:Hp} {r s:S} (hH:H=G1 m n q fr sc D V G O F A T) (hN:m+9=N) (h0:n0<=N) (hE:a95 (idR N) H r s):Fin n0 r H s (G1 m n q fr sc D V G O F A []):=by
 refine a6x (by rw [V7];exact hN) h0 (a4d om zq) (fun i hi=>?_) hE;have e:G1 m n q fr sc D V G O F A T=G1 m n q fr sc D V G O F A []++T:=a3E (T:=[]) (T':=T);rw [hH,e,lbb (by rw [V7];simp;omega)]
end
def a6l {m n:Nat} {fr:LB} {sc:LI} {Z Z':Zd} {T:Hp} (h:b6P m n Z Z'):J3 m n fr sc Z T=J3 m n fr sc Z' T:=by
 refine H6 (by rw [h.d]) (by rw [a2k h.v]) rfl (by rw [a2k h.c]) (by rw [h.o]) (by rw [h.f]) rfl rfl rfl (by rw [a84 h.a])
def aA4 {g:FuncId} {args:List S} {r:S} {m n:Nat} {fr:LB} {sc:LI} {Z Z':Zd} (T:Hp) (h:ec g args (J3 m n fr sc Z []) r (J3 m n fr sc Z' [])) (hok:args.all (okS (m+9))=true) (hr:aq0 r=true) (hr':r.isT=true):
 ec g args (J3 m n fr sc Z T) r (J3 m n fr sc Z' T):=by
 have e:∀Z:Zd,J3 m n fr sc Z T=J3 m n fr sc Z []++T:=fun Z=>a3E (T:=[]) (T':=T)
 rw [e,e];exact a2H (n:=m+9) T h V7 V7 hok (fun k hk=>⟨(a0E k hk).1,(a0E k hk).2,a4d (lbQ _) zq k hk⟩) (fun k hk=>⟨(by rw [(a0E k hk).1];intro h;cases h),a4d (lbQ _) zq k hk⟩) hr hr'
def a1w {l:LI} {i:Nat} {x:Int} {K:List C->Prop} (h:l[i]? =some x) (k:K (bgC (bz x))):∃row,(toC (l.map U6))[i]? =some row∧K row:=
 ⟨_,by simp [toC,h,U6],k⟩
def bb1 {n i r:Nat} {g:Nat->Int} {K:List C->Prop} (e:i=r) (h:r<n) (k:K (bgC (bz (g r)))):∃row,(toC ((zF n g).map U6))[i]? =some row∧K row:=by
 subst e;exact a1w (P5 h) k
def aa2 {b m n i r:Nat} {K:List C->Prop} (e:i=r) (h:r<m) (k:K [C.own (r+b) 0 n true]):∃row,(hdR b m n)[i]? =some row∧K row:=by
 subst e;exact ⟨_,a80 h,k⟩
def aq4 (m n:Nat) (A:Nat->Nat->Int):List (List T):=(mZ m n A).map fun l=>[T.sl 2 .any (l.map U6)]
def ax1 (m n:Nat) (A:Nat->Nat->Int):(aq4 m n A).length=m:=by simp [aq4,d8]
def az1 {m n:Nat} {A:Nat->Nat->Int} {i:Nat} (h:i<m):(aq4 m n A)[i]? =some [T.sl 2 .any ((zF n (A i)).map U6)]:=by simp [aq4,X9 h]
def b9J (m n:Nat) (fr:LB) (sc:LI) (Z:Zd):List T:=
 [.sl 2 .any ((zF m Z.V).map U6),.sl 1 .any (aq4 m n Z.A),.sl 2 .any ((zF n Z.C).map U6),ti (bz Z.D).sg,x6 (bz Z.D).dl,.sl 1 .any (U8 m Z.O),.sl 1 .any (U8 n Z.F),x6 (frI fr),x6 (S0 fr),.sl 2 .any (sc.map U6),ti (bz 1).sg,x6 (bz 1).dl]
abbrev jT (m n:Nat) (fr:LB) (sc:LI) (Z:Zd):S:=.c (.t (.ptr (b9J m n fr sc Z)))
def bt0 {m n:Nat} {fr:LB} {sc:LI} {Z:Zd} {X:Hp} {p:Nat->Prop} (hp:∀i,i<m+9->p i):VY (J3 m n fr sc Z X) p (.own 2 0 m true) (.sl 1 .any (aq4 m n Z.A)):=by
 refine b18 (k:=hdB 9 m n) (hp 2 om) rfl (fun h=>h) rfl (ax1 m n Z.A) ?_ ?_
 ·intro r hr;obtain ⟨i,_,rfl⟩:=lbw.1 hr
  rfl
 ·intro i r hi;have him:i<m:=by have:=(lbe.1 hi).1;rwa [ax1] at this
  rw [az1 him] at hi;injection hi with hi;subst hi;refine ⟨_,a80 him,?_⟩;have hv:VY (J3 m n fr sc Z X) p (C.own (i+9) 0 n true) (T.sl 2 .any ((zF n (Z.A i)).map U6)):=
   .vc (u5 (k:=zlB (zF n (Z.A i))) (hp (i+9) om) (E3 (X9 him)) (fun h=>h) rfl rfl (by simp [C7]))
  exact ⟨hv,trivial⟩
def b4A {m n:Nat} {fr:LB} {sc:LI} {Z:Zd} {X:Hp} {p:Nat->Prop} (hf:fr.length=m) (hs:sc.length=m) (hp:∀i,i<m+9->p i):VY (J3 m n fr sc Z X) p (.ptr 0 0 0) (.ptr (b9J m n fr sc Z)):=by
 refine ap9 (k:=bj8 m n n Z.D) (hp 0 om) rfl (fun h=>h) rfl ⟨?_,bt0 hp,?_,aN3,aN3,?_,?_,?_,?_,?_,aN3,aN3,trivial⟩
 ·exact .vc (u5 (k:=zlB (zF m Z.V)) (hp 1 om) rfl (fun h=>h) rfl rfl (by simp [C7]))
 ·exact .vc (u5 (k:=zlB (zF n Z.C)) (hp 3 om) rfl (fun h=>h) rfl rfl (by simp [C7]))
 ·exact .vc (u5 (k:=Q0 m Z.O) (hp 4 om) rfl (fun h=>h) rfl rfl (by simp [m6]))
 ·exact .vc (u5 (k:=Q0 n Z.F) (hp 5 om) rfl (fun h=>h) rfl rfl (by simp [m6]))
 ·exact .vc (u5 (k:=x9 (frI fr)) (hp 6 om) rfl (fun h=>h) rfl rfl (by simp [frI,hf]))
 ·exact .vc (u5 (k:=x9 (S0 fr)) (hp 7 om) rfl (fun h=>h) rfl rfl (by simp [S0,hf]))
 ·exact .vc (u5 (k:=zlB sc) (hp 8 om) rfl (fun h=>h) rfl rfl (by simp [hs]))
def a0Y {m n:Nat} {A:Nat->Nat->Int} {x:Int} {i:Nat} {K:List T->Prop} (e:x=i) (h:i<m) (k:K [T.sl 2 .any ((zF n (A i)).map U6)]):∃row,0<=x∧(aq4 m n A)[x.toNat]? =some row∧K row:=by
 subst e;exact ⟨_,om,by rw [show (i:Int).toNat=i by omega,az1 h],k⟩
def a04 {n:Nat} {g:Nat->Int} {x:Int} {j:Nat} {K:List T->Prop} (e:x=j) (h:j<n) (k:K (U6 (g j))):∃row,0<=x∧((zF n g).map U6)[x.toNat]? =some row∧K row:=by
 subst e;exact ⟨_,om,by rw [show (j:Int).toNat=j by omega,lba,P5 h];rfl,k⟩
def aE5 (z:Int):(bz z).sg<0↔z<0:=by
 show z.sign<0↔_;rcases a3a z 0 with h|h|h
 ·rw [a1n h];omega
 ·subst h;simp
 ·rw [O5 h];omega
def b21 (z:Int):(bz z).sg > 0↔0<z:=by
 show z.sign > 0↔_;rcases a3a z 0 with h|h|h
 ·rw [a1n h];omega
 ·subst h;simp
 ·rw [O5 h];omega
end
section
open Go.RowKit
def tv (V:Nat->Int) (k:Nat):Nat->Int:=fun i=>if i<k then -(V i) else V i
def ad2 (V:Nat->Int):tv V 0=V:=by funext i;unfold tv;rw [if_neg om]
def b4E (V:Nat->Int) (k:Nat):tv V k k=V k:=by unfold tv;rw [if_neg om]
def aM4 (V:Nat->Int) (k:Nat):(fun i=>if i=k then -(V k) else tv V k i)=tv V (k+1):=by
 funext i;by_cases h:i=k
 ·subst h;rw [if_pos rfl];unfold tv;rw [if_pos om]
 ·rw [if_neg h];unfold tv;have:(i<k)↔(i<k+1):=om;simp only [this]
def b0k {V:Nat->Int} {m i:Nat} (h:i<m):tv V m i=-(V i):=by unfold tv;rw [if_pos h]
def ta (n:Nat) (A:Nat->Nat->Int) (i j:Nat):Nat->Nat->Int:=fun k=>if k<i then tv (A k) n else if k=i then tv (A k) j else A k
def b7X (n:Nat) (A:Nat->Nat->Int):ta n A 0 0=A:=by
 funext k;unfold ta;rw [if_neg om];split
 ·exact ad2 _
 ·rfl
def bb4 (n:Nat) (A:Nat->Nat->Int) (i j:Nat):ta n A i j i=tv (A i) j:=by unfold ta;rw [if_neg om,if_pos rfl]
def b9v (n:Nat) (A:Nat->Nat->Int) (i j:Nat):(fun k=>if k=i then tv (A i) (j+1) else ta n A i j k)=ta n A i (j+1):=by
 funext k;by_cases h:k=i
 ·subst h;rw [if_pos rfl,bb4]
 ·rw [if_neg h];unfold ta;rw [if_neg h,if_neg h]
def be2 (n:Nat) (A:Nat->Nat->Int) (i:Nat):ta n A i n=ta n A (i+1) 0:=by
 funext k;unfold ta;by_cases h:k<i
 ·rw [if_pos h,if_pos om]
 ·rw [if_neg h];by_cases h2:k=i
  ·rw [if_pos h2,if_pos om]
  ·rw [if_neg h2,if_neg om];split
   ·exact (ad2 _).symm
   ·rfl
def bn8 {n m:Nat} {A:Nat->Nat->Int} {i j:Nat} (h:i<m) (hj:j<n):ta n A m 0 i j=-(A i j):=by unfold ta;rw [if_pos h];exact b0k hj
section
variable (Z:Zd) (r s:Nat)
def exr (i j:Nat):Nat->Int:=fun l=>if l<j∧l≠s then Z.nx (Z.A i l) (Z.A r s) (Z.A i s) (Z.A r l) else Z.A i l
def AE (i:Nat):Nat->Nat->Int:=fun k=>if k<i∧k≠r then Z.exA r s k else Z.A k
def VE (i:Nat):Nat->Int:=fun k=>if k<i∧k≠r then Z.exV r s k else Z.V k
def AI (i j:Nat):Nat->Nat->Int:=fun k=>if k=i then exr Z r s i j else AE Z r s i k
def CE (j:Nat):Nat->Int:=fun l=>if l<j∧l≠s then Z.nx (Z.C l) (Z.A r s) (Z.C s) (Z.A r l) else Z.C l
end
section
variable {Z:Zd} {r s i j m n:Nat}
def b9k:AE Z r s 0=Z.A:=by funext k;unfold AE;rw [if_neg om]
def b9A:VE Z r s 0=Z.V:=by funext k;unfold VE;rw [if_neg om]
def b9R:CE Z r s 0=Z.C:=by funext k;unfold CE;rw [if_neg om]
def bc2:AE Z r s i i=Z.A i:=by unfold AE;rw [if_neg om]
def b9h:AE Z r s i r=Z.A r:=by unfold AE;rw [if_neg om]
def bq0:VE Z r s i i=Z.V i:=by unfold VE;rw [if_neg om]
def bw8:VE Z r s i r=Z.V r:=by unfold VE;rw [if_neg om]
def b8v:AI Z r s i 0=AE Z r s i:=by
 funext k;unfold AI;by_cases h:k=i
 ·subst h;rw [if_pos rfl,bc2];funext l;unfold exr;rw [if_neg om]
 ·rw [if_neg h]
def bv6 (h:i≠r):AI Z r s i j r=Z.A r:=by unfold AI;rw [if_neg (fun e=>h e.symm),b9h]
def b1Q:AI Z r s i j i=exr Z r s i j:=by unfold AI;rw [if_pos rfl]
def b6a (hj:j≠s):(fun l=>if l=j then Z.nx (Z.A i j) (Z.A r s) (Z.A i s) (Z.A r j) else exr Z r s i j l)=exr Z r s i (j+1):=by
 funext l;by_cases h:l=j
 ·subst h;rw [if_pos rfl];unfold exr;rw [if_pos ⟨om,hj⟩]
 ·rw [if_neg h];unfold exr;have:(l<j∧l≠s)↔(l<j+1∧l≠s):=om;simp only [this]
def b9B:(fun k=>if k=i then exr Z r s i (j+1) else AI Z r s i j k)=AI Z r s i (j+1):=by
 funext k;by_cases h:k=i
 ·subst h;rw [if_pos rfl];unfold AI;rw [if_pos rfl]
 ·rw [if_neg h];unfold AI;rw [if_neg h,if_neg h]
def b65:exr Z r s i s=exr Z r s i (s+1):=by
 funext l;unfold exr;have:(l<s∧l≠s)↔(l<s+1∧l≠s):=om;simp only [this]
def b8W:AI Z r s i s=AI Z r s i (s+1):=by
 funext k;unfold AI;split
 ·exact b65
 ·rfl
def bj0 (hi:i≠r) {k l:Nat} (hl:l<n):(if k=i then (if l=s then -(Z.A i s) else AI Z r s i n i l) else AI Z r s i n k l)=AE Z r s (i+1) k l:=by
 by_cases h:k=i
 ·subst h;have e:AE Z r s (k+1) k l=Z.exA r s k l:=by unfold AE;rw [if_pos ⟨om,hi⟩]
  have e2:Z.exA r s k l=if l=s then -(Z.A k s) else Z.nx (Z.A k l) (Z.A r s) (Z.A k s) (Z.A r l):=by unfold Zd.exA;rw [if_neg hi]
  rw [if_pos rfl,e,e2];by_cases h2:l=s
  ·rw [if_pos h2,if_pos h2]
  ·rw [if_neg h2,if_neg h2,b1Q];unfold exr;rw [if_pos ⟨hl,h2⟩]
 ·rw [if_neg h];unfold AI AE;rw [if_neg h];have:(k<i∧k≠r)↔(k<i+1∧k≠r):=om;simp only [this]
def b9Y:AE Z r s r=AE Z r s (r+1):=by
 funext k;unfold AE;have:(k<r∧k≠r)↔(k<r+1∧k≠r):=om;simp only [this]
def b96:VE Z r s r=VE Z r s (r+1):=by
 funext k;unfold VE;have:(k<r∧k≠r)↔(k<r+1∧k≠r):=om;simp only [this]
def b9a (hi:i≠r):(fun k=>if k=i then Z.nx (Z.V i) (Z.A r s) (Z.A i s) (Z.V r) else VE Z r s i k)=VE Z r s (i+1):=by
 funext k;by_cases h:k=i
 ·subst h;rw [if_pos rfl];unfold VE Zd.exV;rw [if_pos ⟨om,hi⟩,if_neg hi]
 ·rw [if_neg h];unfold VE;have:(k<i∧k≠r)↔(k<i+1∧k≠r):=om;simp only [this]
def bk6 (h:i<m):VE Z r s m i=Z.exV r s i:=by
 unfold VE;by_cases hr:i=r
 ·rw [if_neg om];unfold Zd.exV;rw [if_pos hr,hr]
 ·rw [if_pos ⟨h,hr⟩]
def bm4 (hi:i<m):(if i=r then (if j=s then Z.D else AE Z r s m r j) else AE Z r s m i j)=Z.exA r s i j:=by
 by_cases hr:i=r
 ·rw [if_pos hr,b9h];unfold Zd.exA;rw [if_pos hr]
 ·rw [if_neg hr];unfold AE;rw [if_pos ⟨hi,hr⟩]
def bu6:CE Z r s j j=Z.C j:=by unfold CE;rw [if_neg om]
def bv5:CE Z r s j s=Z.C s:=by unfold CE;rw [if_neg om]
def b9s (hj:j≠s):(fun l=>if l=j then Z.nx (Z.C j) (Z.A r s) (Z.C s) (Z.A r j) else CE Z r s j l)=CE Z r s (j+1):=by
 funext l;by_cases h:l=j
 ·subst h;rw [if_pos rfl];unfold CE;rw [if_pos ⟨om,hj⟩]
 ·rw [if_neg h];unfold CE;have:(l<j∧l≠s)↔(l<j+1∧l≠s):=om;simp only [this]
def b8O:CE Z r s s=CE Z r s (s+1):=by
 funext l;unfold CE;have:(l<s∧l≠s)↔(l<s+1∧l≠s):=om;simp only [this]
def bl3 (hj:j<n):(if j=s then -(Z.C s) else CE Z r s n j)=Z.exC r s j:=by
 unfold CE Zd.exC;by_cases h:j=s
 ·rw [if_pos h,if_pos h]
 ·rw [if_neg h,if_neg h,if_pos ⟨hj,h⟩]
end
end
def af9 (x y:Int) (lx:bl x<=200000) (ly:bl y<=200000):ec 288 [bgS (bz x),bgS (bz y)] [] (bgS (bz (x*y))) []:=by
 have m:=a5S x y lx ly;refine ac Tryz.func288 ?_;conv=>whnf
 repeat' (first|refine zx ?_|apply zD<;>intro<;>try omega)<;>conv=>whnf
 all_goals exact m9 rz
def b9Z (x y:Int) (lx:bl x<=200000) (ly:bl y<=200000):ec 335 [bgS (bz x),bgS (bz y)] [] (bgS (bz (x - y))) []:=by
 have m:=bb0 x y lx ly;refine ac Tryz.func335 ?_;conv=>whnf
 repeat' (first|refine zx ?_|apply zD<;>intro<;>try omega)<;>conv=>whnf
 all_goals exact m9 rz
def bu5 (x y:Int) (lx:bl x<=200000) (ly:bl y<=200000):ec 334 [bgS (bz x),bgS (bz y)] [] (bgS (bz (x+y))) []:=by
 have m:=b6m x y lx ly;refine ac Tryz.func334 ?_;conv=>whnf
 repeat' (first|refine zx ?_|apply zD<;>intro<;>try omega)<;>conv=>whnf
 all_goals exact m9 rz
def ad8 (n:Int) (p0:-9223372036854775808<=n) (p1:n<=9223372036854775807):ec 286 [eI n] [] (frS (fz (n:Rat))) []:=by
 have o:=bi9 n 1 de p0 p1 de;have e:Rat.divInt n 1=(n:Rat):=by rw [a7e];simp;grind
 rw [e] at o;refine ac Tryz.func286 ?_;conv=>whnf
 repeat' (first|refine zx ?_|apply zD<;>intro<;>try omega)<;>conv=>whnf
 all_goals exact m9 rz
def aG7 (p q:Int) (hq:0<q) (lp:bl p<=200000) (lq:bl q<=200000):ec 287 [bgS (bz p),bgS (bz q)] [] (frS (fz (Rat.divInt p q))) []:=by
 have o:=aT4 p q hq lp lq;refine ac Tryz.func287 ?_;conv=>whnf
 repeat' (first|refine zx ?_|apply zD<;>intro<;>try omega)<;>conv=>whnf
 all_goals exact m9 rz
abbrev bgX (z:Int):Blk:={ mode:=.live,elem:=84,size:=2,rows:=[bgC (bz z)],box:=true }
def b6K (z:Int):I5 (bgX z).rows:=i5 [[ti (bz z).sg,x6 (bz z).dl]]
def a15 {ρ:List (Option Nat)} {H:Hp}:a2q ρ H a5k a5k:=⟨rfl,rfl,rfl,.inl ⟨rfl,R8⟩⟩
def b4h (a b:Int) (hb:0<b) (hab:b<=a) (la:bl a<=100000):∃q:Int,0<q∧q*b<=a∧ec 333 [bgS (bz a),bgS (bz b)] [] (bgS (bz q)) []:=by
 obtain ⟨A,rfl⟩:∃A:Nat,a=A:=⟨a.toNat,om⟩;obtain ⟨B,rfl⟩:∃B:Nat,b=B:=⟨b.toNat,om⟩;have hb:0<B:=om;have hab:B<=A:=om;have la:(dg A).length<=100000:=la;have hlab:=q9 hab;obtain ⟨m,hm⟩:∃m,m=min 2 (dg B).length:=⟨_,rfl⟩;obtain ⟨low,hlow⟩:∃low,low=(dg B).length - m:=⟨_,rfl⟩;obtain ⟨n,hn⟩:∃n,n=if (dg A).length - min 3 (dg A).length<low then (dg A).length - low else min 3 (dg A).length:=⟨_,rfl⟩
 obtain ⟨X,hX⟩:∃X,X=a45 (dg A) n:=⟨_,rfl⟩;obtain ⟨Y,hY⟩:∃Y,Y=a45 (dg B) m:=⟨_,rfl⟩;obtain ⟨d,hd⟩:∃d,d=if 0<low then Y+1 else Y:=⟨_,rfl⟩
 obtain ⟨Q,hQ⟩:∃Q,Q=max 1 (X / d):=⟨_,rfl⟩;obtain ⟨g1,g2,g3,g4,g5,g6,g7⟩:=b76 hb hab hm hlow hn hX hY hd hQ;have hBl:0<(dg B).length:=by
  have:dg B≠[]:=fun h=>by have:=K8.1 h;omega
  exact a6N.2 this
 refine ⟨pw ((dg A).length - n - low)*Q,a9p (K3 _) g5,g7,?_⟩;have hY2:=a22 (l:=dg B) (U2 B).1 (k:=m) om om;have hX2:=a22 (l:=dg A) (U2 A).1 (k:=n) g1 g2;rw [← hY] at hY2;rw [← hX] at hX2;have t1:=b2R (dg B) m om (U2 B).1 om om;have t2:=b2R (dg A) n om (U2 A).1 g1 g2;rw [← hY] at t1;rw [← hX] at t2;have o:=b3B Q om om;have m1:((dg A).map k6).length=(dg A).length:=zq;have m2:((dg B).map k6).length=(dg B).length:=zq;have hdiv:X.tdiv d=X / d:=a48 om;have hq0:0<=X / d:=aq7 om om;have hqA:X / d<=X:=Int.ediv_le_self _ om;rw [b6C g5];generalize hz:(dg A).length - n - low=z at *;obtain ⟨n0,hn0⟩:∃n0,n0=min 3 (dg A).length:=⟨_,rfl⟩;rw [← hn0] at hn;have hAd:(bz (A:Int)).dl=dg A:=rfl;have hBd:(bz (B:Int)).dl=dg B:=rfl
 (refine M9 d7 Tryz.func333 rfl de ?_;refine u3 d7 ?_;(conv=>whnf);repeat ((first|refine b0x ?_|refine zy ?_);conv=>whnf))
 repeat' (first|refine zz ?_|refine b0x ?_|apply zD<;>intro h<;>try omega|refine zy ?_|fail)<;>conv=>whnf
 refine u7 d7 ([J,J,S.c (C.t (T.ptr [ti (bz (A:Int)).sg,x6 (dg A)])),S.c (C.t (T.ptr [ti (bz (B:Int)).sg,x6 (dg B)])),sP 0 0 0,eI n0]++Jn 59) [a5k] ?_ ?_
 ·conv=>whnf
  repeat' (first|refine zx ?_|apply zD<;>intro h<;>try omega)<;>conv=>whnf
  exact ⟨[some 0],rfl,rfl,⟨a15,trivial⟩,⟨rfl,rfl,rz,e7 (by simp only [cond,lbr,hAd];split<;>omega),trivial⟩⟩
 refine u7 d7 ([J,J,S.c (C.t (T.ptr [ti (bz (A:Int)).sg,x6 (dg A)])),S.c (C.t (T.ptr [ti (bz (B:Int)).sg,x6 (dg B)])),sP 0 0 0,eI n0,eI m]++Jn 58) [a5k] ?_ ?_
 ·conv=>whnf
  repeat' (first|refine zx ?_|apply zD<;>intro h<;>try omega)<;>conv=>whnf
  exact ⟨[some 0],rfl,rfl,⟨a15,trivial⟩,⟨rfl,rfl,rz,rfl,e7 (by simp only [cond,lbr];split<;>omega),trivial⟩⟩
 refine u7 d7 ([J,J,S.c (C.t (T.ptr [ti (bz (A:Int)).sg,x6 (dg A)])),S.c (C.t (T.ptr [ti (bz (B:Int)).sg,x6 (dg B)])),sP 0 0 0,eI n0,eI m,eI low]++Jn 57) [a5k] ?_ ?_
 ·conv=>whnf
  repeat' (first|refine zx ?_|apply zD<;>intro h<;>try omega)<;>conv=>whnf
  exact ⟨[some 0],rfl,rfl,⟨a15,trivial⟩,⟨rfl,rfl,rz,rfl,rfl,e7 om,trivial⟩⟩
 refine u7 d7 ([J,J,S.c (C.t (T.ptr [ti (bz (A:Int)).sg,x6 (dg A)])),S.c (C.t (T.ptr [ti (bz (B:Int)).sg,x6 (dg B)])),sP 0 0 0,eI n,eI m,eI low]++Jn 57) [a5k] ?_ ?_
 ·conv=>whnf
  repeat' (first|refine zx ?_|apply zD<;>intro h<;>try omega)<;>conv=>whnf
  all_goals (refine ⟨[some 0],rfl,rfl,⟨a15,trivial⟩,⟨rfl,rfl,rz,e7 ?_,rz⟩⟩;rw [hn];split<;>omega)
 refine u7 d7 ([J,J,S.c (C.t (T.ptr [ti (bz (A:Int)).sg,x6 (dg A)])),S.c (C.t (T.ptr [ti (bz (B:Int)).sg,x6 (dg B)])),sP 0 0 0,eI n,J,eI low,eI Y]++Jn 56) [a5k] ?_ ?_
 ·conv=>whnf
  repeat' (first|refine zx ?_|apply zD<;>intro h<;>try omega)<;>conv=>whnf
  all_goals exact ⟨[some 0],rfl,rfl,⟨a15,trivial⟩,rz⟩
 refine u7 d7 ([J,J,S.c (C.t (T.ptr [ti (bz (A:Int)).sg,x6 (dg A)])),S.c (C.t (T.ptr [ti (bz (B:Int)).sg,x6 (dg B)])),sP 0 0 0,eI n,J,eI low,eI d]++Jn 56) [a5k] ?_ ?_
 ·conv=>whnf
  repeat' (first|refine zx ?_|apply zD<;>intro h<;>try omega)<;>conv=>whnf
  all_goals (refine ⟨[some 0],rfl,rfl,⟨a15,trivial⟩,⟨rfl,rfl,rz,rfl,rfl,e7 ?_,trivial⟩⟩;rw [hd];split<;>omega)
 have hmax:∀y:Int,y=X / d->(bif true then if (1:Int) > y then 1 else y else if 1<y then 1 else y)=Q:=by
  intro y hy;rw [hy,hQ];simp only [cond];split<;>omega
 have hmax2:∀y:Int,y=X / d->(bif true then if y > 1 then y else 1 else if y<1 then y else 1)=Q:=by
  intro y hy;rw [hy,hQ];simp only [cond];split<;>omega
 refine u7 d7 ([J,J,S.c (C.t (T.ptr [ti (bz (A:Int)).sg,x6 (dg A)])),J,sP 0 0 0,eI n,J,eI low,J,sP 1 0 0]++Jn 55) [a5k,bgX Q] ?_ ?_
 ·conv=>whnf
  repeat' (first|refine zx ?_|refine qp ((hmax2 _ rfl) ▸ o) ?_|refine ⟨om,_,D7 hdiv om om,?_⟩|refine ag7 om ?_|apply zD<;>intro h<;>try omega)<;>conv=>whnf
  all_goals first|omega|exact ⟨[some 0,some 1],rfl,rfl,⟨a15,⟨rfl,rfl,rfl,.inl ⟨by rw [hmax2 _ rfl];rfl,by rw [hmax2 _ rfl];exact i5 [[ti (bz Q).sg,x6 (bz Q).dl]]⟩⟩,trivial⟩,rz⟩
 have eA:((dg A).map k6).length - (n:Int) - (low:Int)=(z:Nat):=om;have lQ:(bz Q).dl.length<=4:=P7 (x:=Q) om om;refine u7 d7 ([J,J,J,J,sP 0 0 0,J,J,J,J,sP 1 0 0,S.c (C.own 2 0 z true)]++Jn 54) [a5k,bgX Q,x9 (List.replicate z 0)] ?_ ?_
 ·conv=>whnf
  repeat' (first|refine zx ?_|refine a1g om om om de ?_|apply zD<;>intro h<;>try omega)<;>conv=>whnf
  all_goals first|omega|exact ⟨[some 0,some 1,some 2],rfl,rfl,⟨a15,⟨rfl,rfl,rfl,.inl ⟨rfl,b6K _⟩⟩,e8 (rows:=(List.replicate z 0).map k6) rfl rfl rfl (by show List.replicate _ _=_;rw [eA];simp [toC,k6,B8]) rfl,trivial⟩,⟨rz,rz,⟨rfl,rfl,om,fun h=>h⟩,trivial⟩⟩
 refine p5 d7 _ ?_;conv=>whnf
 repeat' (first|refine zx ?_|refine w6 zt zu ?_|apply zD<;>intro h<;>try omega)<;>conv=>whnf
 all_goals try omega
 refine m9 ⟨rfl,(show VC _ (fun id=>L9 [] id=true) (C.own 3 0 _ true) (x6 (List.replicate z 0++dg Q.natAbs)) from u5 (k:={ mode:=.live,elem:=3,size:=1,rows:=List.take z (toC ((List.replicate z 0).map k6))++toC ((dg Q.natAbs).map k6),box:=false }) rfl rfl (fun h=>h) rfl ?_ ?_),trivial⟩
 ·show List.take z (toC ((List.replicate z 0).map k6))++toC ((dg Q.natAbs).map k6)=toC ((List.replicate z 0++dg Q.natAbs).map k6);rw [lbn zt];simp [toC]
 ·simp [toC];rfl
end Go.Proofs.YtikokmdpigploaaGreat
