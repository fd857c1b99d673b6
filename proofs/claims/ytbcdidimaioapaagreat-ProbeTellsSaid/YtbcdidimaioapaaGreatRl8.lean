/- Chapter 21 in plain Lean: the system of a kind of foreign matter, and its solutions. No program is in sight. -/
import Derived.ProofKit
import Derived.OpenShut
import Derived.Deep.Slices
import Derived.Deep.Fields
import Derived.Test.YtbcdidimaioapaaGreatRows
import Derived.Deep.DeepMust
import Derived.BigQuiet
import Derived.Deep.Light
import Derived.Test.YtbcdidimaioapaaGreatRl7
namespace Go.Proofs.YtbcdidimaioapaaGreat
set_option linter.all false
set_option maxRecDepth 100000
set_option maxHeartbeats 8000000
open Go.RowKit
open St1 St2 St3 St4 St5 St6 St7 St8 StA StB StC
abbrev bc1 (l:List Q4):Blk:={ mode:=.live,elem:=55,size:=3,rows:=toC (l.map Q4.row),box:=false }
abbrev b4A (l:List H5):Blk:={ mode:=.live,elem:=60,size:=2,rows:=toC (l.map H5.row),box:=false }
def b6f:ec 23 [.c (.t (.sl 3 .any []))] [] (.c (.own 0 0 0 true)) [bc1 []]:=by
 refine a3B ?_ ?_
 ·refine ac Tryz.func23 ?_;conv=>whnf
  repeat' (first|refine zx ?_|apply zD<;>intro h<;>try omega)<;>conv=>whnf
  all_goals exact ⟨[none],rz⟩
 ·refine ac Tryz.func23 ?_;conv=>whnf
  repeat' (first|refine zx ?_|refine R9 rfl de ?_|apply zD<;>intro h<;>try omega)<;>conv=>whnf
  all_goals exact ⟨[some 0],rfl,rfl,⟨i6 (rows:=([]:List Q4).map Q4.row) rfl rfl rfl rfl rfl,trivial⟩,⟨rfl,rfl,rfl,fun h=>h⟩⟩
def b75:ec 24 [.c (.t (.sl 2 .any []))] [] (.c (.own 0 0 0 true)) [b4A []]:=by
 refine a3B ?_ ?_
 ·refine ac Tryz.func24 ?_;conv=>whnf
  repeat' (first|refine zx ?_|apply zD<;>intro h<;>try omega)<;>conv=>whnf
  all_goals exact ⟨[none],rz⟩
 ·refine ac Tryz.func24 ?_;conv=>whnf
  repeat' (first|refine zx ?_|refine R9 rfl de ?_|apply zD<;>intro h<;>try omega)<;>conv=>whnf
  all_goals exact ⟨[some 0],rfl,rfl,⟨i6 (rows:=([]:List H5).map H5.row) rfl rfl rfl rfl rfl,trivial⟩,⟨rfl,rfl,rfl,fun h=>h⟩⟩
def b9M (l:List Q4) (h1:l.length<=1000000):ec 23 [.c (.t (ac7 l))] [] (.c (.own 0 0 l.length true)) [bc1 l]:=by
 have m1:(l.map Q4.row).length=l.length:=zq;by_cases h0:l.length=0
 ·have:l=[]:=a0B.1 h0;subst this;exact b6f
 have hl:0<(l.map Q4.row).length:=om;refine ac Tryz.func23 ?_;conv=>whnf
 repeat' (first|refine zx ?_|refine ⟨hl,?_⟩|refine zz ?_|refine R9 rfl (by simp only [toC,lbr,a15];omega) ?_|refine v8 (G0 _) (by simp only [toC,lbr];omega) ?_|apply zD<;>intro h<;>try omega)<;>conv=>whnf
 all_goals first|omega|exact ⟨[some 0],rfl,rfl,⟨i6 (rows:=l.map Q4.row) rfl rfl rfl rfl rfl,trivial⟩,⟨rfl,rfl,by simp [toC],fun h=>h⟩⟩
def b86 (l:List H5) (h1:l.length<=1000000):ec 24 [.c (.t (a7v l))] [] (.c (.own 0 0 l.length true)) [b4A l]:=by
 have m1:(l.map H5.row).length=l.length:=zq;by_cases h0:l.length=0
 ·have:l=[]:=a0B.1 h0;subst this;exact b75
 have hl:0<(l.map H5.row).length:=om;refine ac Tryz.func24 ?_;conv=>whnf
 repeat' (first|refine zx ?_|refine ⟨hl,?_⟩|refine zz ?_|refine R9 rfl (by simp only [toC,lbr,a15];omega) ?_|refine v8 (G0 _) (by simp only [toC,lbr];omega) ?_|apply zD<;>intro h<;>try omega)<;>conv=>whnf
 all_goals first|omega|exact ⟨[some 0],rfl,rfl,⟨i6 (rows:=l.map H5.row) rfl rfl rfl rfl rfl,trivial⟩,⟨rfl,rfl,by simp [toC],fun h=>h⟩⟩
abbrev bQ2 (l:List j9):S:=.c (.t (.sl 10 .any (l.map trT)))
def b33 (t:j9) (kind mv:Int) (hs:t.Sized):ec 14 [trS t,eI kind,eI mv] [] (bQ2 [R7 t ⟨mv,kind,1⟩,T6 t ⟨mv,kind⟩]) []:=by
 have m1:(t.finds.map Q4.row).length=t.finds.length:=zq;have m2:(t.cleans.map H5.row).length=t.cleans.length:=zq;have q1:=hs.f;have q2:=hs.c;have cf:=fun H:Hp=>a0m (H:=H) (b9M t.finds q1) rfl rfl (j2 _)
 have cc:=fun H:Hp=>a0m (H:=H) (b86 t.cleans q2) rfl rfl (j2 _)
 (refine M6 g8 Tryz.func14 rfl de ?_;refine w8 g8 ?_;(conv=>whnf);repeat ((first|refine b0x ?_|refine zy ?_);conv=>whnf))
 (refine w8 g8 ?_;conv=>whnf)
 repeat' (first|refine zx ?_|refine bl0 [1] ?_|apply zD<;>intro h<;>try omega)<;>conv=>whnf
 (refine w8 g8 ?_;conv=>whnf)
 repeat' (first|refine zx ?_|refine .inl ⟨_,_,cf _,?_⟩|refine zz ?_|refine v8 zt zu ?_|apply zD<;>intro h<;>try omega)<;>conv=>whnf
 refine a0f g8 (Jn 7++[S.c (C.t (T.ptr (trT (R7 t ⟨mv,kind,1⟩)))),S.c (C.t (T.ptr (trT (T6 t ⟨mv,kind⟩))))]++Jn 23) [] ?_ ?_
 ·conv=>whnf
  repeat' (first|refine zx ?_|refine .inl ⟨_,_,cc _,?_⟩|refine zz ?_|refine v8 zt zu ?_|apply zD<;>intro h<;>try omega)<;>conv=>whnf
  refine ⟨[],rfl,rfl,trivial,?_⟩;refine ⟨.inr ?_,.inr ?_,trivial⟩
  ·refine a6Z rfl rfl (fun h=>?_) rfl ?_
   ·exact h
   refine ⟨a1C,a1C,a1C,a1C,a1C,a1C,a1C,a1C,.vc (v7 (rows:=(t.finds++[(⟨mv,kind,1⟩:Q4)]).map Q4.row) rfl rfl ?_ rfl ?_ ?_),a1C,trivial⟩
   ·exact fun h=>h
   ·exact O9 (f:=Q4.row) (x:=(⟨mv,kind,1⟩:Q4)) rfl
   ·simp [toC]
  ·refine a6Z rfl rfl (fun h=>?_) rfl ?_
   ·exact h
   refine ⟨a1C,a1C,a1C,a1C,a1C,a1C,a1C,a1C,a1C,.vc (v7 (rows:=(t.cleans++[(⟨mv,kind⟩:H5)]).map H5.row) rfl rfl ?_ rfl ?_ ?_),trivial⟩
   ·exact fun h=>h
   ·exact O9 (f:=H5.row) (x:=(⟨mv,kind⟩:H5)) rfl
   ·simp [toC]
 refine t4 g8 _ ?_;conv=>whnf
 repeat' (first|refine zz ?_|refine a3A.weak ?_|apply zD<;>intro h<;>try omega|refine zy ?_|fail)<;>conv=>whnf
 all_goals exact b8s rfl rfl
def a14 {t:j9} {kind:Int} {short:Bool} (h:t.ev.hhs<=3):(Y5 t kind short).length<=32:=by
 unfold Y5;split
 ·exact b85 om
 ·simp
noncomputable def a0G (t:j9) (kind:Int):Nat:=open Classical in if Y2 t kind=0 then (Y5 t kind true).length else 0
noncomputable def X6 (t:j9) (kind mv:Int):Nat->Nat
 |0=>0
 |1=>a0G (R7 t ⟨mv,kind,1⟩) kind
 |_=>max (a0G (R7 t ⟨mv,kind,1⟩) kind) (a0G (T6 t ⟨mv,kind⟩) kind)
noncomputable def P8 (t:j9) (kind mv:Int):Nat:=if X6 t kind mv 2=0 then (Y5 t kind true).length else X6 t kind mv 2
noncomputable def L8 (t:j9) (kind mv:Int):Int:=open Classical in if a0b t kind≠0\/mv<0\/(t.ev.moves.length:Int)<=mv then 1 else Y2 t kind
def b16 {t:j9} {kind:Int} (h:t.ev.hhs<=3):a0G t kind<=32:=by
 unfold a0G;split
 ·exact a14 h
 ·omega
def b0t {t:j9} {kind:Int}:a0b t kind≠0↔t5 t≠0\/kind<0\/8<=kind:=by
 have:=O6 (t:=t) (kind:=kind);omega
def a5H (t:j9) (kind mv:Int) (hs:t.Sized) (hm:t.ev.moves.length<=8) (hh:t.ev.hhs<=3) (hf:t.finds.length<=19) (hc:t.cleans.length<=49):
 ec 6 [trS t,eI kind,eI mv] [] (.tup [eI (if L8 t kind mv=0 then (P8 t kind mv:Int) else 0),eI (L8 t kind mv)]) []:=by
 have m1:(t.finds.map Q4.row).length=t.finds.length:=zq;have m2:(t.cleans.map H5.row).length=t.cleans.length:=zq;have m3:(t.ev.moves.map C6.row).length=t.ev.moves.length:=zq;have ck:=a8X t hs;by_cases hg:a0b t kind≠0\/mv<0\/(t.ev.moves.length:Int)<=mv
 ·have e1:L8 t kind mv=1:=iB hg;rw [e1,iC de];rw [b0t] at hg;refine ac Tryz.func6 ?_;conv=>whnf
  repeat' (first|refine zx ?_|apply zD<;>intro<;>try omega)<;>conv=>whnf
  all_goals first|omega|exact n8 rz
 have e1:L8 t kind mv=Y2 t kind:=iC hg;have hg1:a0b t kind=0:=om;have hg2:=O6.1 hg1;have fe:=ar4 t kind hs hm om om;rw [e1];by_cases he:Y2 t kind≠0
 ·rw [iC he];refine ac Tryz.func6 ?_;conv=>whnf
  repeat' (first|refine zx ?_|apply zD<;>intro<;>try omega)<;>conv=>whnf
  all_goals first|omega|exact n8 rz
 have he:Y2 t kind=0:=om;rw [he] at fe ⊢;rw [iB rfl];have ou:=b33 t kind mv hs;have zF:(R7 t ⟨mv,kind,1⟩).Sized:=⟨hs.ev,by show (t.finds++[_]).length<=_;simp;omega,hs.c⟩;have zC:(T6 t ⟨mv,kind⟩).Sized:=⟨hs.ev,hs.f,by show (t.cleans++[_]).length<=_;simp;omega⟩;have fF:=ar4 (R7 t ⟨mv,kind,1⟩) kind zF hm (show t.ev.hhs<=6 by omega) (by show (t.finds++[_]).length<=_;simp;omega);have fC:=ar4 (T6 t ⟨mv,kind⟩) kind zC hm (show t.ev.hhs<=6 by omega) (show t.finds.length<=20 by omega);have lF:=a14 (t:=R7 t ⟨mv,kind,1⟩) (kind:=kind) (short:=true) hh;have lC:=a14 (t:=T6 t ⟨mv,kind⟩) (kind:=kind) (short:=true) hh;have lT:=a14 (t:=t) (kind:=kind) (short:=true) hh;have k1:X6 t kind mv 1=a0G (R7 t ⟨mv,kind,1⟩) kind:=rfl;have k2:X6 t kind mv 2=max (X6 t kind mv 1) (a0G (T6 t ⟨mv,kind⟩) kind):=rfl;have kN:P8 t kind mv=if X6 t kind mv 2=0 then (Y5 t kind true).length else X6 t kind mv 2:=rfl
 have qF:a0G (R7 t ⟨mv,kind,1⟩) kind=if Y2 (R7 t ⟨mv,kind,1⟩) kind=0 then (Y5 (R7 t ⟨mv,kind,1⟩) kind true).length else 0:=by unfold a0G;congr
 have qC:a0G (T6 t ⟨mv,kind⟩) kind=if Y2 (T6 t ⟨mv,kind⟩) kind=0 then (Y5 (T6 t ⟨mv,kind⟩) kind true).length else 0:=by unfold a0G;congr
 have k0:X6 t kind mv 0=0:=rfl;generalize a0G (R7 t ⟨mv,kind,1⟩) kind=wF at *;generalize a0G (T6 t ⟨mv,kind⟩) kind=wC at *;generalize X6 t kind mv=sK at *;generalize R7 t ⟨mv,kind,1⟩=tFq at *;generalize T6 t ⟨mv,kind⟩=tC at *;generalize Y5 t kind true=X at *;generalize Y5 tFq kind true=XF at *;generalize Y5 tC kind true=XC at *;have l1:(X.map D9).length=X.length:=zq;have l2:(XF.map D9).length=XF.length:=zq;have l3:(XC.map D9).length=XC.length:=zq;have g0:[tFq,tC][0]? =some tFq:=rfl;have g1:[tFq,tC][1]? =some tC:=rfl;refine ac Tryz.func6 ?_;conv=>whnf
 repeat' (first|refine zx ?_|apply zD<;>intro<;>try omega)<;>conv=>whnf
 all_goals try omega
 refine k6 g8 (fun k=>([J,eI kind,J,J,J,J,J,J,a40 X,J,eI (sK k:Int)]++Jn 51++[bQ2 [tFq,tC],eI 2,eI k]++Jn 21,[])) 2 tT [] trivial
  ⟨rfl,rfl,trivial,⟨rfl,rfl,g9 (by rw [k0];rfl),rz⟩⟩ ?_
 intro k hk _
 match k,hk with
 |0,hk=>
  by_cases h0:Y2 tFq kind=0
  ·rw [iB h0] at qF;conv=>whnf
   repeat' (first|refine zx ?_|refine qp fF ?_|refine j4 g0 ?_|apply zD<;>intro<;>try omega)<;>conv=>whnf
   all_goals first|omega|exact ⟨om,trivial,[],rfl,rfl,trivial,⟨rfl,rfl,g9 zo,rz⟩⟩
  ·rw [iC h0] at qF;conv=>whnf
   repeat' (first|refine zx ?_|refine qp fF ?_|refine j4 g0 ?_|apply zD<;>intro<;>try omega)<;>conv=>whnf
   all_goals first
    |omega
    |exact ⟨om,trivial,[],rfl,rfl,trivial,⟨rfl,rfl,g9 zo,rz⟩⟩
 |1,hk=>
  by_cases h0:Y2 tC kind=0
  ·rw [iB h0] at qC;conv=>whnf
   repeat' (first|refine zx ?_|refine j4 g1 ?_|apply zD<;>intro<;>try omega)<;>conv=>whnf
   all_goals first|omega|exact ⟨om,trivial,[],rfl,rfl,trivial,⟨rfl,rfl,g9 zo,rz⟩⟩
  ·rw [iC h0] at qC;conv=>whnf
   repeat' (first|refine zx ?_|refine j4 g1 ?_|apply zD<;>intro<;>try omega)<;>conv=>whnf
   all_goals first
    |omega
    |exact ⟨om,trivial,[],rfl,rfl,trivial,⟨rfl,rfl,g9 zo,rz⟩⟩
 |2,hk=>
  rw [kN];by_cases h0:sK 2=0
  ·rw [iB h0];conv=>whnf
   repeat' (first|refine zx ?_|apply zD<;>intro<;>try omega)<;>conv=>whnf
   all_goals first|omega|exact n8 ⟨g9 om,rz⟩|exact n8 rz
  ·rw [iC h0];conv=>whnf
   repeat' (first|refine zx ?_|apply zD<;>intro<;>try omega)<;>conv=>whnf
   all_goals first
    |omega
    |exact n8 ⟨g9 om,rz⟩
    |exact n8 rz
 |k+3,hk=>omega
noncomputable def V8 (t:j9) (kind:Int) (l:LI):Nat->Int × Nat
 |0=>(0,0)
 |k+1=>match l[k]? with
  |some c=>if k=0\/P8 t kind c<(V8 t kind l k).2 then (c,P8 t kind c) else V8 t kind l k
  |none=>V8 t kind l k
def a0S {t:j9} {kind:Int} {l:LI} {k:Nat} {c:Int} (h:l[k]? =some c):V8 t kind l (k+1)=if k=0\/P8 t kind c<(V8 t kind l k).2 then (c,P8 t kind c) else V8 t kind l k:=by
 rw [V8,h]
def a31 {t:j9} {kind mv:Int} (h:t.ev.hhs<=3):P8 t kind mv<=32:=by
 have h1:=b16 (t:=R7 t ⟨mv,kind,1⟩) (kind:=kind) h;have h2:=b16 (t:=T6 t ⟨mv,kind⟩) (kind:=kind) h;have h3:=a14 (t:=t) (kind:=kind) (short:=true) h;unfold P8;split
 ·exact h3
 ·show max _ _<=32;omega
def a4D {t:j9} {kind:Int} {l:LI} (h:t.ev.hhs<=3):∀k,(V8 t kind l k).2<=32
 |0=>by simp [V8]
 |k+1=>by
  have ih:=a4D (kind:=kind) (l:=l) h k;rw [V8];split
  ·split
   ·exact a31 h
   ·exact ih
  ·exact ih
def aq9 (t:j9) (kind:Int):ec 8 [trS t,eI kind,j7 []] [] (.tup [eI 0,eI 0,eI 4]) []:=by
 refine ac Tryz.func8 ?_;conv=>whnf
 repeat' (first|refine zx ?_|apply zD<;>intro<;>try omega)<;>conv=>whnf
 all_goals first|omega|(exfalso;simp_all;done)|exact n8 rz
def b3d (t:j9) (kind:Int) (l:LI) (hs:t.Sized) (hm:t.ev.moves.length<=8) (hh:t.ev.hhs<=3) (hf:t.finds.length<=19) (hc:t.cleans.length<=49) (hl:l.length<=1000)
 (q:Nat) (c:Int) (hq:l[q]? =some c) (he:L8 t kind c≠0) (hb:∀(i:Nat) (d:Int),i<q->l[i]? =some d->L8 t kind d=0):
 ec 8 [trS t,eI kind,j7 l] [] (.tup [eI 0,eI 0,eI (L8 t kind c)]) []:=by
 have m1:(l.map j3).length=l.length:=zq;have hq0:q<l.length:=by have ⟨i1,_⟩:=lbe.1 hq;exact i1
 (refine ac Tryz.func8 ?_;(conv=>whnf);repeat ((first|refine b0x ?_|refine zy ?_);conv=>whnf))
 repeat' (first|refine zx ?_|apply zD<;>intro<;>try omega)<;>conv=>whnf
 all_goals try omega
 refine k6 g8 (fun k=>([J,eI kind,J,S.c (C.t (T.ptr (trT t))),J,J,eI (V8 t kind l k).1,eI ((V8 t kind l k).2:Int),J,J,J,J,J,J,J,J,j7 l,eI l.length,eI k]++Jn 26,[])) q tT [] trivial
  ⟨rfl,rfl,trivial,⟨rfl,rfl,rfl,rfl,rfl,g9 om,rz⟩⟩ ?_
 intro k hk _;have bl:=a4D (kind:=kind) (l:=l) hh k;by_cases hlt:k<q
 ·have ⟨d,hd⟩:=@iA _ l k om;have sc:=a5H t kind d hs hm hh hf hc;rw [hb k d hlt hd,iB rfl] at sc;have bs:=a0S (t:=t) (kind:=kind) hd;have sl:=a31 (kind:=kind) (mv:=d) hh;by_cases hx:k=0\/P8 t kind d<(V8 t kind l k).2
  ·rw [iB hx] at bs;conv=>whnf
   repeat' (first|refine zx ?_|refine j4 hd ?_|refine bl0 [4] ?_|refine bl0 [5] ?_|apply zD<;>intro<;>try omega)<;>conv=>whnf
   all_goals first|omega|exact ⟨hlt,trivial,[],rfl,rfl,trivial,⟨rfl,rfl,g9 (by rw [bs]),g9 (by rw [bs]),rz⟩⟩
  ·rw [iC hx] at bs;conv=>whnf
   repeat' (first|refine zx ?_|refine j4 hd ?_|refine bl0 [4] ?_|refine bl0 [5] ?_|apply zD<;>intro<;>try omega)<;>conv=>whnf
   all_goals first|omega|exact ⟨hlt,trivial,[],rfl,rfl,trivial,⟨rfl,rfl,g9 (by rw [bs]),g9 (by rw [bs]),rz⟩⟩
 ·have hke:k=q:=by omega
  subst hke;have sc:=a5H t kind c hs hm hh hf hc;rw [iC he] at sc;generalize L8 t kind c=e at *;conv=>whnf
  repeat' (first|refine zx ?_|refine j4 hq ?_|refine bl0 [4] ?_|refine bl0 [5] ?_|apply zD<;>intro<;>try omega)<;>conv=>whnf
  all_goals first|omega|exact n8 rz
def aM0 (t:j9) (kind:Int) (l:LI) (hs:t.Sized) (hm:t.ev.moves.length<=8) (hh:t.ev.hhs<=3) (hf:t.finds.length<=19) (hc:t.cleans.length<=49) (hl:l.length<=1000) (hl0:0<l.length)
 (hb:∀(i:Nat) (d:Int),l[i]? =some d->L8 t kind d=0):
 ec 8 [trS t,eI kind,j7 l] [] (.tup [eI (V8 t kind l l.length).1,eI ((V8 t kind l l.length).2:Int),eI 0]) []:=by
 have m1:(l.map j3).length=l.length:=zq
 (refine ac Tryz.func8 ?_;(conv=>whnf);repeat ((first|refine b0x ?_|refine zy ?_);conv=>whnf))
 repeat' (first|refine zx ?_|apply zD<;>intro<;>try omega)<;>conv=>whnf
 all_goals try omega
 refine k6 g8 (fun k=>([J,eI kind,J,S.c (C.t (T.ptr (trT t))),J,J,eI (V8 t kind l k).1,eI ((V8 t kind l k).2:Int),J,J,J,J,J,J,J,J,j7 l,eI l.length,eI k]++Jn 26,[])) l.length tT [] trivial
  ⟨rfl,rfl,trivial,⟨rfl,rfl,rfl,rfl,rfl,g9 om,rz⟩⟩ ?_
 intro k hk _;have bl:=a4D (kind:=kind) (l:=l) hh k;by_cases hlt:k<l.length
 ·have ⟨d,hd⟩:=@iA _ l k om;have sc:=a5H t kind d hs hm hh hf hc;rw [hb k d hd,iB rfl] at sc;have bs:=a0S (t:=t) (kind:=kind) hd;have sl:=a31 (kind:=kind) (mv:=d) hh;by_cases hx:k=0\/P8 t kind d<(V8 t kind l k).2
  ·rw [iB hx] at bs;conv=>whnf
   repeat' (first|refine zx ?_|refine j4 hd ?_|refine bl0 [4] ?_|refine bl0 [5] ?_|apply zD<;>intro<;>try omega)<;>conv=>whnf
   all_goals first|omega|exact ⟨hlt,trivial,[],rfl,rfl,trivial,⟨rfl,rfl,g9 (by rw [bs]),g9 (by rw [bs]),rz⟩⟩
  ·rw [iC hx] at bs;conv=>whnf
   repeat' (first|refine zx ?_|refine j4 hd ?_|refine bl0 [4] ?_|refine bl0 [5] ?_|apply zD<;>intro<;>try omega)<;>conv=>whnf
   all_goals first|omega|exact ⟨hlt,trivial,[],rfl,rfl,trivial,⟨rfl,rfl,g9 (by rw [bs]),g9 (by rw [bs]),rz⟩⟩
 ·have hke:k=l.length:=by omega
  subst hke;conv=>whnf
  repeat' (first|refine zx ?_|apply zD<;>intro<;>try omega)<;>conv=>whnf
  all_goals first|omega|exact n8 rz
def a58 {t:j9} {kind:Int} {n:Nat} (h:ExP t kind n):a0G t kind=(R8 t kind n true).length:=by
 unfold a0G;rw [iB (a7b h),a9C h]
def by0 {t:j9} {kind:Int} (h:Y2 t kind≠0):a0G t kind=0:=iC h
def aL9 (mv:Int) (h0:0<=mv) (h1:mv<4):L8 (E6 [fX] []) 0 mv=0:=by
 unfold L8;rw [iC,a7b bL5];rintro (h|h|h)
 ·exact h (O6.2 ⟨b7y,de,de⟩)
 ·omega
 ·have:(4:Int)<=mv:=h;omega
def bB3:P8 (E6 [fX] []) 0 0=1:=by
 have h1:a0G (R7 (E6 [fX] []) ⟨0,0,1⟩) 0=1:=(a58 b4H).trans (by rw [bg5];rfl);have h2:a0G (T6 (E6 [fX] []) ⟨0,0⟩) 0=1:=(a58 b4x).trans (by rw [bo6];rfl);unfold P8 X6;rw [h1,h2];rfl
def bO0:P8 (E6 [fX] []) 0 1=1:=by
 have h1:a0G (R7 (E6 [fX] []) ⟨1,0,1⟩) 0=1:=(a58 b4T).trans (by rw [bn9];rfl);have h2:a0G (T6 (E6 [fX] []) ⟨1,0⟩) 0=1:=(a58 b4u).trans (by rw [bp2];rfl);unfold P8 X6;rw [h1,h2];rfl
def bT5:P8 (E6 [fX] []) 0 2=2:=by
 have h1:a0G (R7 (E6 [fX] []) ⟨2,0,1⟩) 0=2:=(a58 b4m).trans (by rw [bm2];rfl);have h2:a0G (T6 (E6 [fX] []) ⟨2,0⟩) 0=0:=by
  have ⟨r,hr⟩:=bM5 (t:=E6 [fX] [⟨2,0⟩]) (kind:=0) b5e de bg7;refine by0 ?_;show Y2 (E6 [fX] [⟨2,0⟩]) 0≠0;rw [a1J (O6.2 ⟨b5e,de,de⟩) hr];decide
 unfold P8 X6;rw [h1,h2];rfl
def bz6:P8 (E6 [fX] []) 0 3=2:=by
 have h1:a0G (R7 (E6 [fX] []) ⟨3,0,1⟩) 0=2:=(a58 b5c).trans (by rw [bx9];rfl);have h2:a0G (T6 (E6 [fX] []) ⟨3,0⟩) 0=2:=(a58 b5I).trans (by rw [bj0];rfl);unfold P8 X6;rw [h1,h2];rfl
def bP8:V8 (E6 [fX] []) 0 [3,1,0] 3=(1,1):=by
 rw [a0S (c:=0) rfl,a0S (c:=1) rfl,a0S (c:=3) rfl,bB3,bO0,bz6]
 rfl
def bM3:ec 10 [] [] (trS (E6 [fX] [])) []:=by
 refine ac Tryz.func10 ?_;conv=>whnf
 repeat' (first|refine zz ?_|refine a3A.weak ?_|apply zD<;>intro<;>try omega|refine zy ?_|fail)<;>conv=>whnf
 exact n8 rz
def b8r:ec 4 [] [] (n7 true) []:=by
 have e1:=bM3;have zA:(E6 [fX] []).Sized:=ab9 _ _ _ _ _ de de;have s0:=a5H (E6 [fX] []) 0 0 zA de de de de;have s2:=a5H (E6 [fX] []) 0 2 zA de de de de;have s3:=a5H (E6 [fX] []) 0 3 zA de de de de;rw [aL9 0 de de,iB rfl,bB3] at s0;rw [aL9 2 de de,iB rfl,bT5] at s2;rw [aL9 3 de de,iB rfl,bz6] at s3;have b1:=aM0 (E6 [fX] []) 0 [3,1,0] zA de de de de de de (fun i d h=>by
  match i,h with
  |0,h=>injection h with h;subst h;exact aL9 3 de de
  |1,h=>injection h with h;subst h;exact aL9 1 de de
  |2,h=>injection h with h;subst h;exact aL9 0 de de
  |i+3,h=>cases h)
 rw [show ([3,1,0]:LI).length=3 from rfl,bP8] at b1;have b2:=aq9 (E6 [fX] []) 0;refine ac Tryz.func4 ?_;conv=>whnf
 repeat' (first|refine zz ?_|refine qp e1 ?_|refine qp s0 ?_|refine qp s2 ?_|refine qp s3 ?_|refine qp b1 ?_|refine qp b2 ?_|refine qp fX ?_|refine qp ?_|refine .inl ⟨_,_,a1W b2 ⟨bA0 (trT (E6 [fX] [])),a2f (av7 rfl),a2f (av7 rfl),trivial⟩ rfl,?_⟩|refine a3A.weak ?_|refine bl0 [4] ?_|refine bl0 [5] ?_|apply zD<;>intro h<;>try omega|refine zy ?_|fail)<;>conv=>whnf
 all_goals first|omega|(exfalso;contradiction)|exact j6 rfl
def b8b (t:j9) (kind mv:Int) (hs:t.Sized):ec 17 [trS t,eI kind,eI mv,n7 true] [] (trS (R7 t ⟨mv,kind,1⟩)) []:=by
 have m1:(t.finds.map Q4.row).length=t.finds.length:=zq;have q1:=hs.f
 (refine ac Tryz.func17 ?_;conv=>whnf)
 repeat' (first|refine zx ?_|refine R9 rfl zu ?_|refine v8 (by simp [toC,D8]) zu ?_|apply zD<;>intro h<;>try omega)<;>conv=>whnf
 all_goals first|omega|exact n8 ⟨rfl,rfl,rfl,rfl,rfl,rfl,rfl,rfl,show VC _ (fun id=>L2 [] id=true) _ _ from v7 (rows:=(t.finds++[(⟨mv,kind,1⟩:Q4)]).map Q4.row) rfl rfl zi rfl (by simp [toC,D8];exact ⟨lbn zq,rfl⟩) zt,rz⟩
def be2 (t:j9) (kind mv:Int) (hs:t.Sized):ec 17 [trS t,eI kind,eI mv,n7 false] [] (trS (T6 t ⟨mv,kind⟩)) []:=by
 have m1:(t.cleans.map H5.row).length=t.cleans.length:=zq;have q1:=hs.c
 (refine ac Tryz.func17 ?_;conv=>whnf)
 repeat' (first|refine zx ?_|refine R9 rfl zu ?_|refine v8 (by simp [toC,D8]) zu ?_|apply zD<;>intro h<;>try omega)<;>conv=>whnf
 all_goals first|omega|exact n8 ⟨rfl,rfl,rfl,rfl,rfl,rfl,rfl,rfl,rfl,show VC _ (fun id=>L2 [] id=true) _ _ from v7 (rows:=(t.cleans++[(⟨mv,kind⟩:H5)]).map H5.row) rfl rfl zi rfl (by simp [toC,D8];exact ⟨lbn zq,rfl⟩) zt,trivial⟩
def ad7 {t:j9} {kind:Int}:Y2 t kind=0↔a0b t kind=0/\∃z,k7 (p7 t kind) z=true:=by
 unfold Y2;constructor
 ·intro h;split at h
  ·cases h
  ·split at h
   ·exact ⟨om,by assumption⟩
   ·cases h
 ·rintro ⟨h1,h2⟩;rw [iC om,iB h2]
def ap6 {t:j9} {kind:Int} (hs:t.Sized) (hm:t.ev.moves.length<=8) (hh:t.ev.hhs<=6) (hf:t.finds.length<=20) (h:Y2 t kind=0):1<=(Y5 t kind true).length:=by
 rcases b5n (kind:=kind) hs hm hh hf with h1|⟨h1,r,hr⟩|⟨n,hE,hx⟩
 ·rw [a6R h1] at h;cases h
 ·rw [a1J h1 hr] at h;cases h
 ·rw [a9C hE];have ⟨rest,_,h2,_⟩:=bO6 hE;cases hm:R8 t kind n true with
  |nil=>exact absurd hm h2
  |cons a b=>simp
def ag9 (t:j9) (kind:Int) (hs:t.Sized) (hm:t.ev.moves.length<=8):ec 18 [trS t,eI kind] [] (n7 (decide (Y2 t kind=0))) []:=by
 have sy:=a4L t kind hs;by_cases he:a0b t kind=0
 ·have ⟨b,hb,pc⟩:=a1l (p7 t kind) (aa6 (O6.1 he).1 hm);have e1:a66 t kind=p7 t kind:=by
   have:=O6.1 he;unfold a66;rw [iC om]
  rw [he,e1] at sy;have e2:decide (Y2 t kind=0)=b:=by
   cases b with
   |true=>exact lbH (ad7.2 ⟨he,hb.1 rfl⟩)
   |false=>exact lbJ fun h=>by have:=hb.2 (ad7.1 h).2;cases this
  rw [e2];cases b<;>
  ·refine ac Tryz.func18 ?_;conv=>whnf
   repeat' (first|refine zx ?_|apply zD<;>intro h<;>try omega)<;>conv=>whnf
   all_goals first|omega|exact j6 rfl
 ·rw [lbJ fun h=>he (ad7.1 h).1];refine ac Tryz.func18 ?_;conv=>whnf
  repeat' (first|refine zx ?_|apply zD<;>intro h<;>try omega)<;>conv=>whnf
  all_goals first|omega|exact j6 rfl
def a8M (t:j9) (kind mv:Int) (hs:t.Sized) (hm:t.ev.moves.length<=8) (hh:t.ev.hhs<=3) (hf:t.finds.length<=19) (hc:t.cleans.length<=49):
 ec 7 [trS t,eI kind,eI mv] [] (.tup [eI (if L8 t kind mv=0 then (P8 t kind mv:Int) else 0),eI (L8 t kind mv)]) []:=by
 have m1:(t.finds.map Q4.row).length=t.finds.length:=zq;have m2:(t.cleans.map H5.row).length=t.cleans.length:=zq;have m3:(t.ev.moves.map C6.row).length=t.ev.moves.length:=zq;have ck:=au3 t hs;by_cases hg:a0b t kind≠0\/mv<0\/(t.ev.moves.length:Int)<=mv
 ·have e1:L8 t kind mv=1:=iB hg;rw [e1,iC de];rw [b0t] at hg;refine ac Tryz.func7 ?_;conv=>whnf
  repeat' (first|refine zx ?_|apply zD<;>intro<;>try omega)<;>conv=>whnf
  all_goals first|omega|exact n8 rz
 have e1:L8 t kind mv=Y2 t kind:=iC hg;have hg1:a0b t kind=0:=om;have hg2:=O6.1 hg1;have fe:=a9Y t kind hs hm om om;rw [e1];by_cases he:Y2 t kind≠0
 ·rw [iC he];refine ac Tryz.func7 ?_;conv=>whnf
  repeat' (first|refine zx ?_|apply zD<;>intro<;>try omega)<;>conv=>whnf
  all_goals first|omega|exact n8 rz
 have he:Y2 t kind=0:=om;rw [he] at fe ⊢;rw [iB rfl];have aF:=b8b t kind mv hs;have aC:=be2 t kind mv hs;have zF:(R7 t ⟨mv,kind,1⟩).Sized:=⟨hs.ev,by show (t.finds++[_]).length<=_;simp;omega,hs.c⟩;have zC:(T6 t ⟨mv,kind⟩).Sized:=⟨hs.ev,hs.f,by show (t.cleans++[_]).length<=_;simp;omega⟩;have fF:=a9Y (R7 t ⟨mv,kind,1⟩) kind zF hm (show t.ev.hhs<=6 by omega) (by show (t.finds++[_]).length<=_;simp;omega);have fC:=a9Y (T6 t ⟨mv,kind⟩) kind zC hm (show t.ev.hhs<=6 by omega) (show t.finds.length<=20 by omega);have pF:=ag9 (R7 t ⟨mv,kind,1⟩) kind zF hm;have pC:=ag9 (T6 t ⟨mv,kind⟩) kind zC hm;have sF:=ap6 (kind:=kind) zF hm (show t.ev.hhs<=6 by omega) (by show (t.finds++[_]).length<=_;simp;omega);have sC:=ap6 (kind:=kind) zC hm (show t.ev.hhs<=6 by omega) (show t.finds.length<=20 by omega);have lF:=a14 (t:=R7 t ⟨mv,kind,1⟩) (kind:=kind) (short:=true) hh;have lC:=a14 (t:=T6 t ⟨mv,kind⟩) (kind:=kind) (short:=true) hh;have lT:=a14 (t:=t) (kind:=kind) (short:=true) hh;have k1:X6 t kind mv 1=a0G (R7 t ⟨mv,kind,1⟩) kind:=rfl;have k2:X6 t kind mv 2=max (X6 t kind mv 1) (a0G (T6 t ⟨mv,kind⟩) kind):=rfl;have kN:P8 t kind mv=if X6 t kind mv 2=0 then (Y5 t kind true).length else X6 t kind mv 2:=rfl
 have qF:a0G (R7 t ⟨mv,kind,1⟩) kind=if Y2 (R7 t ⟨mv,kind,1⟩) kind=0 then (Y5 (R7 t ⟨mv,kind,1⟩) kind true).length else 0:=by unfold a0G;congr
 have qC:a0G (T6 t ⟨mv,kind⟩) kind=if Y2 (T6 t ⟨mv,kind⟩) kind=0 then (Y5 (T6 t ⟨mv,kind⟩) kind true).length else 0:=by unfold a0G;congr
 rw [kN];generalize a0G (R7 t ⟨mv,kind,1⟩) kind=wF at *;generalize a0G (T6 t ⟨mv,kind⟩) kind=wC at *;generalize X6 t kind mv=sK at *;generalize R7 t ⟨mv,kind,1⟩=tFq at *;generalize T6 t ⟨mv,kind⟩=tC at *;generalize Y5 t kind true=X at *;generalize Y5 tFq kind true=XF at *;generalize Y5 tC kind true=XC at *;have l1:(X.map D9).length=X.length:=zq;have l2:(XF.map D9).length=XF.length:=zq;have l3:(XC.map D9).length=XC.length:=zq;by_cases h1:Y2 tFq kind=0<;>by_cases h2:Y2 tC kind=0
 ·rw [lbH h1] at pF;rw [lbH h2] at pC;rw [iB h1] at qF;rw [iB h2] at qC;have sF:=sF h1;have sC:=sC h2;have n0:¬sK 2=0:=om;rw [iC n0];refine ac Tryz.func7 ?_;conv=>whnf
  repeat' (first|refine zx ?_|refine qp fF ?_|apply zD<;>intro<;>try omega)<;>conv=>whnf
  all_goals first|omega|exact n8 ⟨g9 (by (try simp only [cond]);(try split)<;>omega),rz⟩
 ·rw [lbH h1] at pF;rw [lbJ h2] at pC;rw [iB h1] at qF;rw [iC h2] at qC;have sF:=sF h1;have n0:¬sK 2=0:=om;rw [iC n0];refine ac Tryz.func7 ?_;conv=>whnf
  repeat' (first|refine zx ?_|refine qp fF ?_|apply zD<;>intro<;>try omega)<;>conv=>whnf
  all_goals first|omega|exact n8 ⟨g9 (by (try simp only [cond]);(try split)<;>omega),rz⟩
 ·rw [lbJ h1] at pF;rw [lbH h2] at pC;rw [iC h1] at qF;rw [iB h2] at qC;have sC:=sC h2;have n0:¬sK 2=0:=om;rw [iC n0];refine ac Tryz.func7 ?_;conv=>whnf
  repeat' (first|refine zx ?_|refine qp fF ?_|apply zD<;>intro<;>try omega)<;>conv=>whnf
  all_goals first|omega|exact n8 ⟨g9 (by (try simp only [cond]);(try split)<;>omega),rz⟩
 ·rw [lbJ h1] at pF;rw [lbJ h2] at pC;rw [iC h1] at qF;rw [iC h2] at qC;have n0:sK 2=0:=om;rw [iB n0];refine ac Tryz.func7 ?_;conv=>whnf
  repeat' (first|refine zx ?_|refine qp fF ?_|apply zD<;>intro<;>try omega)<;>conv=>whnf
  all_goals first|omega|exact n8 ⟨g9 om,rz⟩|exact n8 rz
set_option maxHeartbeats 4000000
def b15 (t:j9) (kind:Int):ec 9 [trS t,eI kind,j7 []] [] (.tup [eI 0,eI 0,eI 4]) []:=by
 refine ac Tryz.func9 ?_;conv=>whnf
 repeat' (first|refine zx ?_|apply zD<;>intro<;>try omega)<;>conv=>whnf
 all_goals first|omega|(exfalso;simp_all;done)|exact n8 rz
theorem b1U (t:j9) (kind:Int) (l:List Int) (hs:t.Sized) (hm:t.ev.moves.length<=8) (hh:t.ev.hhs<=3) (hf:t.finds.length<=19) (hc:t.cleans.length<=49) (hl:l.length<=1000)
 (q:Nat) (c:Int) (hq:l[q]? =some c) (he:L8 t kind c≠0) (hb:∀(i:Nat) (d:Int),i<q->l[i]? =some d->L8 t kind d=0):
 e8 Tryz.prog 9 [trS t,e7 .i64 kind,j7 l] [] (.tup [e7 .i64 0,e7 .i64 0,e7 .i64 (L8 t kind c)]) []:=by
 have m1:(l.map j3).length=l.length:=by simp
 have hq0:q<l.length:=by have ⟨i1,_⟩:=lbe.1 hq;exact i1
 (refine ac Tryz.func9 ?_;(conv=>whnf);repeat ((first|refine b0x ?_|refine zy ?_);conv=>whnf))
 repeat' (first|refine zx ?_|refine zd ?_ ?_<;>intro h<;>try omega|fail)<;>conv=>whnf
 all_goals try omega
 refine k6 g8 (fun k=>([J,e7 .i64 kind,j7 l,S.c (C.t (T.ptr (trT t))),J,J,J,J,J,e7 .i64 (V8 t kind l k).1,e7 .i64 ((V8 t kind l k).2:Int),e7 .i64 k]++Jn 38,[])) q (fun _=>True) [] trivial
  ⟨rfl,rfl,trivial,⟨rfl,rfl,rfl,rfl,rfl,rfl,trivial⟩⟩ ?_
 intro k hk _
 have bl:=a4D (kind:=kind) (l:=l) hh k
 by_cases hlt:k<q
 ·obtain ⟨d,hd⟩:∃d,l[k]? =some d:=⟨_,lbf (by omega)⟩
  have sc:=a8M t kind d hs hm hh hf hc
  rw [hb k d hlt hd,iB rfl] at sc
  have bs:=a0S (t:=t) (kind:=kind) hd
  have sl:=a31 (kind:=kind) (mv:=d) hh
  by_cases hx:k=0\/P8 t kind d<(V8 t kind l k).2
  ·rw [iB hx] at bs
   conv=>whnf
   repeat' (first|refine zx ?_|refine qp sc ?_|refine qp 4 ?_|refine qp 5 ?_|refine j4 hd ?_|refine bl0 [4] ?_|refine bl0 [5] ?_|refine zd ?_ ?_<;>intro h<;>try omega|fail)<;>conv=>whnf
   all_goals first
    |omega
    |exact ⟨hlt,trivial,[],rfl,rfl,trivial,⟨rfl,rfl,rfl,g9 (by rw [bs]),g9 (by rw [bs]),rfl,trivial⟩⟩
  ·rw [iC hx] at bs
   conv=>whnf
   repeat' (first|refine zx ?_|refine qp sc ?_|refine qp 4 ?_|refine qp 5 ?_|refine j4 hd ?_|refine bl0 [4] ?_|refine bl0 [5] ?_|refine zd ?_ ?_<;>intro h<;>try omega|fail)<;>conv=>whnf
   all_goals first
    |omega
    |exact ⟨hlt,trivial,[],rfl,rfl,trivial,⟨rfl,rfl,rfl,g9 (by rw [bs]),g9 (by rw [bs]),rfl,trivial⟩⟩
 ·have hke:k=q:=by omega
  subst hke
  have sc:=a8M t kind c hs hm hh hf hc
  rw [iC he] at sc
  generalize L8 t kind c=e at *
  conv=>whnf
  repeat' (first|refine zx ?_|refine qp sc ?_|refine qp 4 ?_|refine qp 5 ?_|refine j4 hq ?_|refine bl0 [4] ?_|refine bl0 [5] ?_|refine zd ?_ ?_<;>intro h<;>try omega|fail)<;>conv=>whnf
  all_goals first
   |omega
   |exact n8 ⟨rfl,rfl,rfl,trivial⟩
theorem b3x (t:j9) (kind:Int) (l:List Int) (hs:t.Sized) (hm:t.ev.moves.length<=8) (hh:t.ev.hhs<=3) (hf:t.finds.length<=19) (hc:t.cleans.length<=49) (hl:l.length<=1000) (hl0:0<l.length)
 (hb:∀(i:Nat) (d:Int),l[i]? =some d->L8 t kind d=0):
 e8 Tryz.prog 9 [trS t,e7 .i64 kind,j7 l] [] (.tup [e7 .i64 (V8 t kind l l.length).1,e7 .i64 ((V8 t kind l l.length).2:Int),e7 .i64 0]) []:=by
 have m1:(l.map j3).length=l.length:=by simp
 (refine ac Tryz.func9 ?_;(conv=>whnf);repeat ((first|refine b0x ?_|refine zy ?_);conv=>whnf))
 repeat' (first|refine zx ?_|refine zd ?_ ?_<;>intro h<;>try omega|fail)<;>conv=>whnf
 all_goals try omega
 refine k6 g8 (fun k=>([J,e7 .i64 kind,j7 l,S.c (C.t (T.ptr (trT t))),J,J,J,J,J,e7 .i64 (V8 t kind l k).1,e7 .i64 ((V8 t kind l k).2:Int),e7 .i64 k]++Jn 38,[])) l.length (fun _=>True) [] trivial
  ⟨rfl,rfl,trivial,⟨rfl,rfl,rfl,rfl,rfl,rfl,trivial⟩⟩ ?_
 intro k hk _
 have bl:=a4D (kind:=kind) (l:=l) hh k
 by_cases hlt:k<l.length
 ·obtain ⟨d,hd⟩:∃d,l[k]? =some d:=⟨_,lbf (by omega)⟩
  have sc:=a8M t kind d hs hm hh hf hc
  rw [hb k d hd,iB rfl] at sc
  have bs:=a0S (t:=t) (kind:=kind) hd
  have sl:=a31 (kind:=kind) (mv:=d) hh
  by_cases hx:k=0\/P8 t kind d<(V8 t kind l k).2
  ·rw [iB hx] at bs
   conv=>whnf
   repeat' (first|refine zx ?_|refine qp sc ?_|refine qp 4 ?_|refine qp 5 ?_|refine j4 hd ?_|refine bl0 [4] ?_|refine bl0 [5] ?_|refine zd ?_ ?_<;>intro h<;>try omega|fail)<;>conv=>whnf
   all_goals first
    |omega
    |exact ⟨hlt,trivial,[],rfl,rfl,trivial,⟨rfl,rfl,rfl,g9 (by rw [bs]),g9 (by rw [bs]),rfl,trivial⟩⟩
  ·rw [iC hx] at bs
   conv=>whnf
   repeat' (first|refine zx ?_|refine qp sc ?_|refine qp 4 ?_|refine qp 5 ?_|refine j4 hd ?_|refine bl0 [4] ?_|refine bl0 [5] ?_|refine zd ?_ ?_<;>intro h<;>try omega|fail)<;>conv=>whnf
   all_goals first
    |omega
    |exact ⟨hlt,trivial,[],rfl,rfl,trivial,⟨rfl,rfl,rfl,g9 (by rw [bs]),g9 (by rw [bs]),rfl,trivial⟩⟩
 ·have hke:k=l.length:=by omega
  subst hke
  conv=>whnf
  repeat' (first|refine zx ?_|refine zd ?_ ?_<;>intro h<;>try omega|fail)<;>conv=>whnf
  all_goals first
   |omega
   |exact n8 ⟨rfl,rfl,rfl,trivial⟩
def ay8 {t:j9} {kind:Int}:∀l:LI,(∀ (i:Nat) (d:Int),l[i]? =some d->L8 t kind d=0)\/∃(q:Nat) (c:Int),l[q]? =some c/\L8 t kind c≠0/\∀(i:Nat) (d:Int),i<q->l[i]? =some d->L8 t kind d=0
 |[]=>.inl fun i d h=>by simp at h
 |x::r=>by
  by_cases hx:L8 t kind x=0
  ·rcases ay8 (t:=t) (kind:=kind) r with h|⟨q,c,h1,h2,h3⟩
   ·refine .inl fun i d hd=>?_
    cases i with
    |zero=>injection hd with hd;subst hd;exact hx
    |succ i=>exact h i d (by simpa using hd)
   ·refine .inr ⟨q+1,c,by simpa using h1,h2,fun i d hi hd=>?_⟩;cases i with
    |zero=>injection hd with hd;subst hd;exact hx
    |succ i=>exact h3 i d om (by simpa using hd)
  ·exact .inr ⟨0,x,rfl,hx,fun i d hi=>om⟩
def b6M (t:j9) (kind:Int) (l:LI) (hs:t.Sized) (hm:t.ev.moves.length<=8) (hh:t.ev.hhs<=3) (hf:t.finds.length<=19) (hc:t.cleans.length<=49) (hl:l.length<=1000):
 ∃m s e:Int,ec 8 [trS t,eI kind,j7 l] [] (.tup [eI m,eI s,eI e]) []/\
  ec 9 [trS t,eI kind,j7 l] [] (.tup [eI m,eI s,eI e]) []:=by
 by_cases h0:l.length=0
 ·have:l=[]:=a0B.1 h0;subst this;exact ⟨0,0,4,aq9 t kind,b15 t kind⟩
 rcases ay8 (t:=t) (kind:=kind) l with h|⟨q,c,h1,h2,h3⟩
 ·exact ⟨_,_,_,aM0 t kind l hs hm hh hf hc hl om h,b3x t kind l hs hm hh hf hc hl om h⟩
 ·exact ⟨_,_,_,b3d t kind l hs hm hh hf hc hl q c h1 h2 h3,b1U t kind l hs hm hh hf hc hl q c h1 h2 h3⟩
def aP1 (t:j9) (kind mv:Int) (l:LI):ec 3 [trS t,eI kind,eI mv,j7 l] [] (n7 true) []:=by
 have sa:=b8r;have sm:=b9U t 5;have m1:(l.map j3).length=l.length:=zq;cases hsm:a9u t 5 with
 |false=>
  rw [hsm] at sm;refine ac Tryz.func3 ?_;conv=>whnf
  repeat' (first|refine zx ?_|apply zD<;>intro<;>try omega)<;>conv=>whnf
  all_goals first
   |omega
   |(exfalso;contradiction)
   |exact j6 rfl
 |true=>
 rw [hsm] at sm;by_cases hl3:2<l.length
 ·refine ac Tryz.func3 ?_;conv=>whnf
  repeat' (first|refine zx ?_|apply zD<;>intro<;>try omega)<;>conv=>whnf
  all_goals first|omega|(exfalso;contradiction)|exact j6 rfl
 have ⟨s1,s2,s3,s4,s5⟩:=aD9 de hsm;have ⟨m,s,e,b1,b2⟩:=b6M t kind l s1 s2 s3 om om om;have c1:=a5H t kind mv s1 s2 s3 om om;have c2:=a8M t kind mv s1 s2 s3 om om;generalize (if L8 t kind mv=0 then (P8 t kind mv:Int) else 0)=x at *;generalize L8 t kind mv=y at *;refine ac Tryz.func3 ?_;conv=>whnf
 repeat' (first|refine zx ?_|apply zD<;>intro<;>try omega)<;>conv=>whnf
 all_goals first|omega|(exfalso;contradiction)|exact j6 rfl
section
open Go.RowKit Go.ChangeShapes Go.WideShapes Go.Deep
section
variable {H:Type} {enc:TypeId × Value->H} {P:Program}
def aF5 (hl:laidOutB P=true) {W W':World} {sp:Nat->Bool}:∀{ts:List TypeId} {vs:List Value} {ds:List (DataW H)} {ps:List MemPlace},(∀ t ∈ ts,P.readableRec t=true/\t<P.types.size)->
 DataW.TrodAll enc P W 0 (fun _=>true) true ts vs ds ps->(∀ p ∈ ps,W.sameAt W' p)->(∀ p ∈ ps,sp p.block=true)->DataW.TrodAll enc P W' 0 sp true ts vs ds ps:=by
 intro ts;induction ts with
 |nil=>
  intro vs ds ps _ h _ _;obtain ⟨rfl,rfl,rfl⟩:=trodAll_nil h;exact trodAll_mk0
 |cons t ts ih=>
  intro vs ds ps hr h hsame hs;obtain ⟨v,vs',d,ds',p,q,rfl,rfl,rfl,h1,h2⟩:=trodAll_cons h;have ⟨ht,hlt⟩:=hr t zq;exact trodAll_cons_mk (WideElems.Trod_stays hl ht hlt h1 (fun x hx=>hsame x (by simp [hx])) (fun x hx=>hs x (by simp [hx]))) (ih (fun t ht=>hr t (by simp [ht])) h2 (fun x hx=>hsame x (by simp [hx])) (fun x hx=>hs x (by simp [hx])))
def b9V {f:Func} {s:ChangeSpec} {fresh handsOn:Bool} {W W':World} {args:Array Value} {ds gs:List (DataW H)} {before:List MemPlace} {tb:TypeId}
 (hW:DataW.Whole enc P f.params.toList s.vars false W args.toList ds gs before) (hl:laidOutB P=true) (hr:∀t ∈ f.params.toList,P.readableRec t=true/\t<P.types.size) (hv:s.vars=[])
 (hfn:s.fn H (ds++gs)={ results:=[.lit (.bool true)],args:=ds }) (hres:f.resultTypes=#[tb]) (hbool:P.underlying tb=some .bool) (hb:Below W.heap.size W W'):
 s.post enc P f false fresh handsOn false W args (.bool true) W':=by
 have hW':=hW;obtain ⟨p,q,hA,hV,rfl,hfz,hnd⟩:=hW;rw [hv] at hV;obtain ⟨rfl,rfl⟩:=trodVars_none hV;have hlt:∀x ∈ p,x.block<W.heap.size:=fun x hx=>by have:=hW'.lt x (by simpa using hx);simpa using this
 refine ⟨ds,[],p++[],[],p,[],hW',?_,?_,?_,hb.frame _,fun h=>by cases h⟩
 ·rw [hfn,hres];exact trodAll_mk1 (shut_bool hbool true)
 ·rw [hfn];exact aF5 hl hr hA (fun x hx=>hb.same (hlt x hx)) (fun x hx=>by simpa using hlt x hx)
 ·rw [hv,hfn];exact rfl
def Rd.of_each {α:Type} {k:Nat} {f:α->List Value} {w:World} {b off:Nat}:∀(n:Nat),(∀ i,i<n->∃x:α,∀j u,(f x)[j]? =some u->w.cell? ⟨b,off+(i*k+j),none⟩=some u)->∃xs,Rd k f w (some ⟨b,off,none⟩) n xs:=by
 intro n;induction n with
 |zero=>intro _;exact ⟨[],Rd.nil _⟩
 |succ n ih=>
  intro h;have ⟨xs,hx⟩:=ih (fun i hi=>h i om);have ⟨x,hxn⟩:=h n om;have hl:=hx.len;refine ⟨xs++[x],by simp [← hl],fun _=>⟨b,off,rfl,fun i y hy j u hu=>?_⟩⟩;by_cases hi:i<xs.length
  ·rw [lbb hi] at hy;have ⟨b',off',e,hc⟩:=hx.2 om;injection e with e;injection e with e1 e2;subst e1 e2;exact hc i y hy j u hu
  ·have hi2:i=n:=by
    have:=(lbe.1 hy).1;simp at this;omega
   subst hi2;have hy2:x=y:=by
    rw [lbc om,←hl] at hy;simpa using hy
   subst hy2;exact hxn j u hu
variable {w:World} {base:Nat} {spare:Nat->Bool} {held:Bool}
def b6Z {α:Type} (f:α->Value) {t e:TypeId} {fuel:Nat} {v:Value} {x:DataW H × List MemPlace} (ht:P.underlying t=some (.slice e)) (hC:P.cellsOf e=1)
 (hdec:∀(u:Value) y n,DataW.trod enc P w base spare held n e [u]=some y->∃x:α,u=f x)
 (h:DataW.trod enc P w base spare held fuel t [v]=some x):∃A n c xs,v=.slice A n c/\Rd 1 (fun x=>[f x]) w A n xs/\n<=c/\c<=maxLen:=by
 rcases open_slice ht h with ⟨h0,_⟩|⟨a,len,cap,m,n,D,Pl,hcs,hb,hl,hm,hmm,hx,hi⟩
 ·injection h0 with h0;exact ⟨none,0,0,[],h0,Rd.nil _,lbR _,by unfold maxLen;omega⟩
 ·injection hcs with hv;by_cases hz:len=0
  ·subst hz;exact ⟨some a,0,cap,[],hv,Rd.nil _,hl,hm⟩
  have hlm:len<=m:=by rw [hmm];split<;>omega
  have key:∀i,i<m->∃x:α,w.cell? (a.add i)=some (f x):=by
   intro i him;have ⟨cs',hc,ht'⟩:=hi i him;rw [hC,Nat.mul_one] at hc;have ⟨_,hcl,hat⟩:=World.cells?_some hc
   match cs',hcl with
   |[u],_=>
    obtain ⟨x,rfl⟩:=hdec u _ _ ht';exact ⟨x,by have:=hat 0 om;rw [Go.Deep.add_add,b0I] at this;simpa using this⟩
  have ⟨x0,hu0⟩:=key 0 om;have hspot:a.spot=none:=by
   have:=World.cell?_spot hu0;simpa [Addr.add] using this
  have ⟨b,off,sp⟩:=a;simp only at hspot;subst hspot;have hadd:∀k,(⟨b,off,none⟩:Addr).add k=⟨b,off+k,none⟩:=by
   intro k;unfold Addr.add;split
   ·subst_vars;rfl
   ·rfl
  have ⟨xs,hxs⟩:=Rd.of_each (k:=1) (f:=fun x=>[f x]) (w:=w) (b:=b) (off:=off) len (fun i hil=>by
   have ⟨x,hx⟩:=key i om;rw [hadd] at hx;refine ⟨x,fun j u hu=>?_⟩
   match j,hu with
   |0,hu=>simp at hu;subst hu;simpa using hx)
  exact ⟨_,len,cap,xs,hv,hxs,hl,hm⟩
end
end
section
open Go.RowKit Go.ChangeShapes Go.WideShapes Go.Deep
section
variable {H:Type} {enc:TypeId × Value->H} {w:World} {base:Nat} {spare:Nat->Bool} {held:Bool}
def bp9 {k:TypeId} (hk:Tryz.prog.underlying k=some (.int .i64)) {u:Value} (h:∃y n,DataW.trod enc Tryz.prog w base spare held n k [u]=some y):∃a:Int,u=.int .i64 a:=by
 have ⟨y,n,h⟩:=h;have ⟨a,e,_,_⟩:=DataW.trod_int hk h;injection e with e;exact ⟨a,e⟩
end
def bs9:ownKnob Tryz.prog.godebug=none:=by kernel_rfl
def b7F:laidOutB Tryz.prog=true:=by kernel_rfl
end
def b7U {α:Type} {k:Nat} {f:α->List Value} {row:α->List T} (hrow:∀x,row x=(f x).map T.atm) (hone:∀x,∀v ∈ f x,v.oneCell'=true) (hk:∀x,(f x).length=k)
 {w:World} {A:Option Addr} {n c:Nat} {xs:List α} (h:Rd k f w A n xs) (h1:n<=c) (h2:c<=maxLen):RT w (fun _=>False) (.sl k .any (xs.map row)) (.slice A n c):=by
 have ⟨hn,hc⟩:=h;have hlen:(xs.map row).length=n:=by simp [hn]
 rw [← hlen];have hat:∀i j t,at2 (xs.map row) i j=some t->∃x v,xs[i]? =some x/\(f x)[j]? =some v/\t=.atm v:=fun i j t ht=>by
  have ⟨r,q1,q2⟩:=J4 ht;rw [lba] at q1;cases hx:xs[i]? with
  |none=>rw [hx] at q1;cases q1
  |some x=>
   rw [hx] at q1;injection q1 with q1;subst q1;rw [hrow,lba] at q2;cases hv:(f x)[j]? with
   |none=>rw [hv] at q2;cases q2
   |some v=>rw [hv] at q2;injection q2 with q2;exact ⟨x,v,rfl,hv,q2.symm⟩
 rcases a4t n with h0|h0
 ·have hx:xs=[]:=lbF om;subst hx;exact .sl (b:=0) (off:=0) (fun _ _=>undef) zq zq h2 zi zi zq (by simp [at2]) (by simp [at2])
 ·have ⟨b,off,hA,hcell⟩:=hc h0;refine .sl (b:=b) (off:=off) (fun i j=>((xs[i]?).bind fun x=>(f x)[j]?).getD undef) ?_ om h2 zi zi (fun _=>hA) ?_ ?_
  ·intro r hr;obtain ⟨x,_,rfl⟩:=lbx.1 hr;rw [hrow,lbr,hk]
  ·intro i j t ht;obtain ⟨x,v,hx,hv,rfl⟩:=hat i j t ht;exact ⟨by rw [hcell i x hx j v hv];simp [hx,hv],fun h=>h⟩
  ·intro i j t ht;obtain ⟨x,v,hx,hv,rfl⟩:=hat i j t ht;have:((xs[i]?).bind fun x=>(f x)[j]?).getD undef=v:=by simp [hx,hv]
   rw [this];exact .atm (hone x v (lbm hv))
def b7H {w:World} {n:Int}:RS w (fun _=>none) (fun _=>False) (eI n) (.int .i64 n):=RS.int
inductive aG1 (w:World):List S->List Value->Prop
 |nil:aG1 w [] []
 |cons {s:S} {v:Value} {ss:List S} {vs:List Value} (h:RS w (fun _=>none) (fun _=>False) s v) (hs:aG1 w ss vs):aG1 w (s::ss) (v::vs)
def aG1.get {w:World} {ss:List S} {vs:List Value} (h:aG1 w ss vs):vs.length=ss.length/\∀(j:Nat) (s:S),ss[j]? =some s->RS w (fun _=>none) (fun _=>False) s (vs.getD j undef):=by
 induction h with
 |nil=>exact ⟨rfl,zq⟩
 |cons h hs ih=>
  refine ⟨by simp [ih.1],fun j s hj=>?_⟩;cases j with
  |zero=>simp at hj;subst hj;exact h
  |succ j=>simpa using ih.2 j s (by simpa using hj)
def aV5 {P:Program} {g:FuncId} {ss:List S} {b:Bool} (h:e8 P g ss [] (n7 b) []) {w:World} {vs:List Value} (ha:aG1 w ss vs):
 Calls P g vs.toArray w fun e w'=>e=.returned (.bool b)/\Below w.heap.size w w':=by
 have ⟨h1,h2⟩:=ha.get;refine Calls.mono (h.2 w (fun _=>none) (fun _=>False) vs h1 h2 ⟨zq,zq,zq,zq,zq⟩ (fun _ h=>h.elim) (fun _ _=>rfl)) ?_;rintro e w' ⟨v,rfl,ι',M',q1,q2,q3,q4,q5⟩;rw [q1.inv_atm];exact ⟨rfl,q5.os,q5.tape,q5.output,q5.size,fun k hk=>q5.keep k hk zB⟩
open Go.RowKit Go.ChangeShapes Go.WideShapes Go.ChangeAt
def b76 {P:Program} {f:FuncId} {fn:Func} {s:ChangeSpec} {c:OpenClaim}
 (h1:c.wf (OpenSpec.ofChange s)=true) (h2:laidOutB P=true) (h3:mapsRowed P=true) (h4:fn.params.all (P.readableRec ·)=true) (h5:namedTie P c.named s.vars=true)
 (h6:(c.stops == [])=true) (h7:(P.stops == [])=true) (h8:(c.knobs == [])=true) (h9:(P.stopKnobs == [])=true)
 (h10:(c.inPlace == P.inPlace f)=true) (h11:(c.unfollowed == P.unfollowed f)=true) (h12:(c.recurses == P.recurses f)=true) (h13:(c.named == P.varsNamed f)=true)
 (h14:(c.maps == (fn.params.toList++s.plain.varTypes P).any (P.mapsRec ·))=true) (h15:(c.ifaces == (fn.params.toList++s.plain.varTypes P).any (P.ifacesRec ·))=true) (h16:(c.mapsOut == P.mapsAmong fn.resultTypes.toList)=true)
 (h17:(c.loops == (fn.params.toList++s.plain.varTypes P).any (P.loopsFrom ·))=true) (h18:(c.wideKeys == (fn.params.toList++s.plain.varTypes P++fn.resultTypes.toList).any (P.wideKeysFrom ·))=true)
 (h19:s.vars.all (P.varReadable ·)=true) (h20:fn.resultTypes.all (fun t=>P.readableRec t && decide (t<P.types.size))=true) (h21:(c.ifacesOut == fn.resultTypes.toList.any (P.ifacesRec ·))=true) (h22:(c.loopsOut == fn.resultTypes.toList.any (P.loopsFrom ·))=true)
 (h23:(c.plainKeys == P.plainKeys)=true) (h24:c.shortTexts.isNone=true) (h25:P.stopsHeard=true) (h26:P.mayEnter=true) (h27:(c.lifted == P.liftsFinal)=true) (h28:(P.make == some c.make)=true)
 (h29:c.domain.isEmpty=true) (h29b:(c.kinds == [])=true) (h30:(c.pinned == c.pinnedBy)=true)
 (h31:(c.veiled == (fn.params.toList++s.plain.varTypes P++fn.resultTypes.toList).any (P.veiledRec ·))=true) (h32:c.veiledFits P fn.params.toList (fn.params.toList++s.plain.varTypes P++fn.resultTypes.toList)=true):
 joinedFacts P f fn s c=true:=by
 unfold joinedFacts;rw [h1,h2,h3,h4,h5,h6,h7,h8,h9,h10,h11,h12,h13,h14,h15,h16,h17,h18,h19,h20,h21,h22,h23,h24,h25,h26,h27,h28,iB h29,h29b,h30,h31,h32]
 rfl
def bw1:laidOutB Tryz.pinned.checked.prog=true:=by kernel_rfl
def bg9:mapsRowed Tryz.pinned.checked.prog=true:=by kernel_rfl
def bw5:Tryz.pinned.checked.prog.plainKeys=true:=by kernel_rfl
def b8X:Tryz.pinned.checked.prog.stopsHeard=true:=by kernel_rfl
def b9t:Tryz.pinned.checked.prog.mayEnter=true:=by kernel_rfl
def bp0:(Rows.probeTellsRow.lifted == Tryz.pinned.checked.prog.liftsFinal)=true:=by kernel_rfl
def bm4:(Tryz.pinned.checked.prog.make == some Rows.probeTellsRow.make)=true:=by kernel_rfl
section
open Go.RowKit Go.ChangeShapes Go.WideShapes Go.Deep
section
variable {H:Type} {enc:TypeId × Value->H} {w:World} {base:Nat} {spare:Nat->Bool} {held:Bool}
def open_ints {r:Reach} {b0:Nat} {v:Value} {d:DataW H} {p:List MemPlace} (hv:Value.okWide Tryz.prog w r b0 33 v) (h:DataW.Trod enc Tryz.prog w base spare held 33 v d p):
 ∃A n c xs,v=.slice A n c/\Rd 1 (fun x=>[Value.int .i64 x]) w A n xs/\n<=c/\c<=maxLen:=by
 obtain ⟨a,len,cap,rfl⟩:=okWide_slice Tryz.underlying33 hv;have ⟨fuel,hf⟩:=h;exact b6Z (f:=Value.int .i64) Tryz.underlying33 zr (fun u y n hy=>bp9 Tryz.underlying3 ⟨y,n,hy⟩) hf
end
def by4 {w:World} {A:Option Addr} {n c:Nat} {xs:LI} (h:Rd 1 (fun x=>[Value.int .i64 x]) w A n xs) (h1:n<=c) (h2:c<=maxLen):RS w (fun _=>none) (fun _=>False) (j7 xs) (.slice A n c):=
 .c (.t (b7U (k:=1) (f:=fun x=>[Value.int .i64 x]) (row:=j3) (fun _=>rfl) (by intro x v hv;simp at hv;subst hv;rfl) (fun _=>rfl) h h1 h2))
end
section
open Go.RowKit Go.ChangeShapes Go.WideShapes Go.Deep
inductive Sh where
 |int (k:IntKind)
 |bool
 |sl (row:List Sh)
inductive Fit:Sh->T->Prop
 |int {k:IntKind} {n:Int} (h:(Lit.int k n).wf=true):Fit (.int k) (.atm (.int k n))
 |bool {b:Bool}:Fit .bool (.atm (.bool b))
 |sl {row:List Sh} {rows:List (List T)} (hl:∀r ∈ rows,r.length=row.length) (h:∀r ∈ rows,∀(j:Nat) (s:Sh) (t:T),row[j]? =some s->r[j]? =some t->Fit s t):Fit (.sl row) (.sl row.length .any rows)
inductive N2 (P:Program):TypeId->List Sh->Prop
 |int {t:TypeId} {k:IntKind} (h:P.underlying t=some (.int k)):N2 P t [.int k]
 |bool {t:TypeId} (h:P.underlying t=some .bool):N2 P t [.bool]
 |sl {t e:TypeId} {row:List Sh} (h:P.underlying t=some (.slice e)) (hc:P.cellsOf e=row.length) (hp:0<row.length) (he:N2 P e row):N2 P t [.sl row]
 |struct {t:TypeId} {fs:Array Field} (parts:List (List Sh)) (h:P.underlying t=some (.struct fs)) (hl:parts.length=fs.size)
   (ho:∀(i:Nat) (f:Field) (p:List Sh),fs[i]? =some f->parts[i]? =some p->f.offset=(parts.take i).flatten.length/\P.cellsOf f.type=p.length)
   (hc:P.cellsOf t=parts.flatten.length)
   (he:∀(i:Nat) (f:Field) (p:List Sh),fs[i]? =some f->parts[i]? =some p->N2 P f.type p):N2 P t parts.flatten
section
variable {H:Type} {enc:TypeId × Value->H} {P:Program} {w:World} {base:Nat} {spare:Nat->Bool} {held:Bool}
def aW9 (w:World) (shs:List Sh) (cs:List Value):Prop:=
 cs.length=shs.length/\∃ts:List T,ts.length=shs.length/\∀(j:Nat) (s:Sh),shs[j]? =some s->∃u t,cs[j]? =some u/\ts[j]? =some t/\RT w (fun _=>False) t u/\Fit s t
def aB4 {α:Type}:∀(parts:List (List α)) (j:Nat) (x:α),parts.flatten[j]? =some x->∃i p k,parts[i]? =some p/\p[k]? =some x/\j=(parts.take i).flatten.length+k
 |[],j,x,h=>by simp at h
 |p::r,j,x,h=>by
  rw [List.flatten_cons] at h;by_cases hj:j<p.length
  ·rw [lbb hj] at h;exact ⟨0,p,j,rfl,h,zq⟩
  ·rw [lbc om] at h;have ⟨i,q,k,h1,h2,h3⟩:=aB4 r _ x h;exact ⟨i+1,q,k,by simpa using h1,h2,by rw [List.take_succ_cons,List.flatten_cons,lbq];omega⟩
def a2H {α:Type} {p:Nat->α->Prop}:∀(n:Nat),(∀ i,i<n->∃x,p i x)->∃xs:List α,xs.length=n/\∀i x,xs[i]? =some x->p i x
 |0,_=>⟨[],rfl,zq⟩
 |n+1,h=>by
  have ⟨xs,h1,h2⟩:=a2H n fun i hi=>h i om
  have ⟨x,hx⟩:=h n om;refine ⟨xs++[x],by simp [h1],fun i y hy=>?_⟩;by_cases hi:i<xs.length
  ·rw [lbb hi] at hy;exact h2 i y hy
  ·rw [lbc om] at hy;have:i=n:=by
    have:=(lbe.1 hy).1;simp at this;omega
   subst this;rw [h1] at hy;simp at hy;subst hy;exact hx
def bo5 {t:TypeId} {shs:List Sh} (h:N2 P t shs):∀(n:Nat) (cs:List Value) (x:DataW H × List MemPlace),DataW.trod enc P w base spare held n t cs=some x->aW9 w shs cs:=by
 induction h with
 |int h=>
  intro n cs x hx;obtain ⟨a,rfl,_,hw⟩:=DataW.trod_int h hx;exact ⟨rfl,[.atm (.int _ a)],rfl,fun j s hj=>by
   match j,hj with
   |0,hj=>simp at hj;subst hj;exact ⟨_,_,rfl,rfl,.atm rfl,.int hw⟩⟩
 |bool h=>
  intro n cs x hx;obtain ⟨a,rfl,_⟩:=DataW.trod_bool h hx;exact ⟨rfl,[.atm (.bool a)],rfl,fun j s hj=>by
   match j,hj with
   |0,hj=>simp at hj;subst hj;exact ⟨_,_,rfl,rfl,.atm rfl,.bool⟩⟩
 |@sl t e row h hc hp he ih=>
  intro n cs x hx;have key:∀(rows:List (List T)) (u:Value),cs=[u]->RT w (fun _=>False) (.sl row.length .any rows) u->(∀ r ∈ rows,r.length=row.length)->(∀ r ∈ rows,∀(j:Nat) (s:Sh) (t:T),row[j]? =some s->r[j]? =some t->Fit s t)->aW9 w [.sl row] cs:=by
   rintro rows u rfl hu h1 h2;exact ⟨rfl,[.sl row.length .any rows],rfl,fun j s hj=>by
    match j,hj with
    |0,hj=>simp at hj;subst hj;exact ⟨_,_,rfl,rfl,hu,.sl h1 h2⟩⟩
  rcases open_slice h hx with ⟨h0,_⟩|⟨a,len,cap,m,n,D,Pl,hcs,hb,hl,hm,hmm,hx,hi⟩
  ·exact key [] _ h0 (.sl (b:=0) (off:=0) (fun _ _=>undef) zq zq (by unfold maxLen;omega) zi zi zq (by simp [at2]) (by simp [at2])) zq zq
  ·by_cases hz:len=0
   ·subst hz;exact key [] _ hcs (.sl (b:=0) (off:=0) (fun _ _=>undef) zq zq hm zi zi zq (by simp [at2]) (by simp [at2])) zq zq
   have hlm:len<=m:=by rw [hmm];split<;>omega
   have each:∀i,i<len->∃cs':List Value,(∀ j,j<row.length->w.cell? (a.add (i*row.length+j))=cs'[j]?)/\aW9 w row cs':=by
    intro i hil;have ⟨cs',hc',ht'⟩:=hi i om;rw [hc] at hc';have ⟨_,hcl,hat⟩:=World.cells?_some hc';exact ⟨cs',fun j hj=>by rw [← Go.Deep.add_add];exact hat j hj,ih n cs' _ ht'⟩
   have ⟨css,hcl,hcs2⟩:=a2H len each;have ⟨rows,hrl,hrows⟩:=a2H (α:=List T) (p:=fun i ts=>ts.length=row.length/\∀(j:Nat) (s:Sh),row[j]? =some s->∃u t,(css.getD i [])[j]? =some u/\ts[j]? =some t/\RT w (fun _=>False) t u/\Fit s t) len (fun i hi=>by
    have hg:css[i]? =some (css[i]' om):=lbf om;have ⟨_,_,ts,h1,h2⟩:=hcs2 i _ hg;refine ⟨ts,h1,?_⟩;rw [lbl,hg];exact h2)
   have hcell:∀i j,i<len->j<row.length->w.cell? (a.add (i*row.length+j))=some ((css.getD i []).getD j undef):=by
    intro i j hi hj;have hg:css[i]? =some (css[i]' om):=lbf om;have ⟨h1,h2,_⟩:=hcs2 i _ hg;rw [h1 j hj];have hgd:css.getD i []=css[i]' om:=by rw [lbl,hg];rfl
    rw [hgd,lbl,lbf om];rfl
   have hspot:a.spot=none:=by
    have:=World.cell?_spot (hcell 0 0 om hp);simpa [Addr.add] using this
   have ⟨b,off,sp⟩:=a;simp only at hspot;subst hspot;have hadd:∀k,(⟨b,off,none⟩:Addr).add k=⟨b,off+k,none⟩:=by
    intro k;unfold Addr.add;split
    ·subst_vars;rfl
    ·rfl
   have hat:∀i j c,at2 rows i j=some c->i<len/\j<row.length/\∃r s,rows[i]? =some r/\r[j]? =some c/\row[j]? =some s:=by
    intro i j c hc;have ⟨r,q1,q2⟩:=J4 hc;have hil:i<len:=by rw [← hrl];exact (lbe.1 q1).1
    have hjl:j<row.length:=by rw [← (hrows i r q1).1];exact (lbe.1 q2).1
    exact ⟨hil,hjl,r,_,q1,q2,lbf hjl⟩
   refine key rows (.slice (some ⟨b,off,none⟩) len cap) hcs ?_ ?_ ?_
   ·rw [← hrl];refine .sl (b:=b) (off:=off) (fun i j=>(css.getD i []).getD j undef) ?_ om hm zi zi (fun _=>rfl) ?_ ?_
    ·intro r hr;have ⟨i,hi⟩:=as3.1 hr;exact (hrows i r hi).1
    ·intro i j c hc;have ⟨hil,hjl,_⟩:=hat i j c hc;have:=hcell i j hil hjl;rw [hadd] at this;exact ⟨this,fun h=>h⟩
    ·intro i j c hc;have ⟨hil,hjl,r,s,q1,q2,q3⟩:=hat i j c hc;have ⟨u,t,h1,h2,h3,h4⟩:=(hrows i r q1).2 j s q3;rw [q2] at h2;injection h2 with h2;subst h2;rw [lbl (l:=css.getD i []),h1];exact h3
   ·intro r hr;have ⟨i,hi⟩:=as3.1 hr;exact (hrows i r hi).1
   ·intro r hr j s t hs ht;have ⟨i,hi⟩:=as3.1 hr;have ⟨u,t',h1,h2,h3,h4⟩:=(hrows i r hi).2 j s hs;rw [ht] at h2;injection h2 with h2;subst h2;exact h4
 |@struct t fs parts h hl ho hc he ih=>
  intro n cs x hx;have ⟨xs,n',hn',hy,hlen,hyl,hf⟩:=DataW.trod_struct h hx;have hlen':cs.length=parts.flatten.length:=by rw [hlen,hc]
  have each:∀j,j<parts.flatten.length->∃t,∀s,parts.flatten[j]? =some s->∃u,cs[j]? =some u/\RT w (fun _=>False) t u/\Fit s t:=by
   intro j hj;have ⟨i,p,k,q1,q2,q3⟩:=aB4 parts j _ (lbf hj);have hi:i<fs.size:=by rw [← hl];exact (lbe.1 q1).1
   have hfi:fs[i]? =some fs[i]:=Array.getElem?_eq_getElem hi;have ⟨o1,o2⟩:=ho i _ p hfi q1;have h1:=hf i _ hfi;have hxi:xs[i]? =some (xs[i]' om):=lbf om;have ⟨r1,ts,r2,r3⟩:=ih i _ p hfi q1 n' _ _ (h1.trans hxi);have ⟨u,t,e1,e2,e3,e4⟩:=r3 k _ q2;refine ⟨t,fun s hs=>⟨u,?_,e3,?_⟩⟩
   ·have hk:k<p.length:=(lbe.1 q2).1;rw [lbi,o2,iB hk,lbj,o1,←q3] at e1;exact e1
   ·rw [lbf hj] at hs;injection hs with hs;rw [← hs];exact e4
  have ⟨ts,t1,t2⟩:=a2H parts.flatten.length each;refine ⟨hlen',ts,t1,fun j s hj=>?_⟩;have hjl:=(lbe.1 hj).1;have htj:ts[j]? =some (ts[j]' om):=lbf om;have ⟨u,h1,h2,h3⟩:=t2 j _ htj s hj;exact ⟨u,_,h1,htj,h2,h3⟩
end
def Fit.int_inv {k:IntKind} {t:T} (h:Fit (.int k) t):∃n,t=.atm (.int k n)/\(Lit.int k n).wf=true:=by cases h with|int h=>exact ⟨_,rfl,h⟩
def Fit.bool_inv {t:T} (h:Fit .bool t):∃b,t=.atm (.bool b):=by cases h with|bool=>exact ⟨_,rfl⟩
def b0O {α:Type} {f:α->List T} {p:α->Prop}:∀{rows:List (List T)},(∀ r ∈ rows,∃x,r=f x/\p x)->∃xs:List α,rows=xs.map f/\∀x ∈ xs,p x
 |[],_=>⟨[],rfl,zq⟩
 |r::rs,h=>by
  obtain ⟨x,rfl,hx⟩:=h r zq;obtain ⟨xs,rfl,hxs⟩:=b0O (rows:=rs) (f:=f) (p:=p) fun r hr=>h r (List.mem_cons_of_mem _ hr)
  exact ⟨x::xs,rfl,fun y hy=>by rcases lbA.1 hy with rfl|hy;exact hx;exact hxs y hy⟩
def Fit.sl_inv {α:Type} (f:α->List T) (p:α->Prop) {row:List Sh} {t:T} (h:Fit (.sl row) t)
 (hrow:∀r:List T,r.length=row.length->(∀ (j:Nat) (s:Sh) (t:T),row[j]? =some s->r[j]? =some t->Fit s t)->∃x,r=f x/\p x):
 ∃xs:List α,t=.sl row.length .any (xs.map f)/\∀x ∈ xs,p x:=by
 cases h with
 |sl hl h=>
  obtain ⟨xs,rfl,hx⟩:=b0O (f:=f) (p:=p) (fun r hr=>hrow r (hl r hr) (h r hr));exact ⟨xs,rfl,hx⟩
end
section
open Go.RowKit Go.ChangeShapes Go.WideShapes Go.Deep
abbrev l9:Sh:=.int .i64
def G2:N2 Tryz.prog 3 [l9]:=.int Tryz.underlying3
def b0A {P:Program} {t:TypeId} {fs:Array Field} {p0 p1:List Sh} (h:P.underlying t=some (.struct fs)) (hl:fs.size=2)
 (h0:∃f,fs[0]? =some f/\f.offset=0/\P.cellsOf f.type=p0.length/\N2 P f.type p0) (h1:∃f,fs[1]? =some f/\f.offset=p0.length/\P.cellsOf f.type=p1.length/\N2 P f.type p1)
 (hc:P.cellsOf t=p0.length+p1.length):N2 P t (p0++p1):=by
 have ⟨f0,a1,a2,a3,a4⟩:=h0;have ⟨f1,b1,b2,b3,b4⟩:=h1;have:=N2.struct (P:=P) (t:=t) (fs:=fs) [p0,p1] h (by simp [hl]) (fun i f p hf hp=>by
  match i,hp with
  |0,hp=>simp at hp;subst hp;rw [a1] at hf;injection hf with hf;subst hf;exact ⟨by simp [a2],a3⟩
  |1,hp=>simp at hp;subst hp;rw [b1] at hf;injection hf with hf;subst hf;exact ⟨by simp [b2],b3⟩
  |n+2,hp=>simp at hp) (by simp [hc]) (fun i f p hf hp=>by
  match i,hp with
  |0,hp=>simp at hp;subst hp;rw [a1] at hf;injection hf with hf;subst hf;exact a4
  |1,hp=>simp at hp;subst hp;rw [b1] at hf;injection hf with hf;subst hf;exact b4
  |n+2,hp=>simp at hp)
 simpa using this
def b2Z:N2 Tryz.prog 109 [l9,l9]:=
 b0A (p0:=[l9]) (p1:=[l9]) Tryz.underlying109 zr ⟨_,rfl,rfl,zr,G2⟩ ⟨_,rfl,rfl,zr,G2⟩ zr
section
variable {H:Type} {enc:TypeId × Value->H} {w:World} {base:Nat} {spare:Nat->Bool} {held:Bool}
def b7t {shs:List Sh} {l:List Value} (h:aW9 w shs l):∃ts:List T,ts.length=shs.length/\(∀ (j:Nat) (s:Sh) (t:T),shs[j]? =some s->ts[j]? =some t->Fit s t)/\RS w (fun _=>none) (fun _=>False) (.agg (ts.map C.t)) (.agg ⟨l⟩):=by
 have ⟨h0,ts,h1,h2⟩:=h;refine ⟨ts,h1,fun j s t hs ht=>?_,?_⟩
 ·have ⟨u,t',e1,e2,e3,e4⟩:=h2 j s hs;rw [ht] at e2;injection e2 with e2;subst e2;exact e4
 ·refine .agg l (by simp [h0,h1]) fun j c hc=>?_
  rw [lba] at hc;obtain ⟨t,ht,rfl⟩:=ax0.1 hc;have hj:j<shs.length:=by rw [← h1];exact (lbe.1 ht).1
  have ⟨u,t',e1,e2,e3,e4⟩:=h2 j _ (lbf hj);rw [ht] at e2;injection e2 with e2;subst e2
  rw [lbl,e1];exact .t e3
end
end

section
open Go.RowKit Go.ChangeShapes Go.WideShapes Go.Deep
def b18 (P:Program):List Field->List (List Sh)->Nat->Prop
 |[],[],_=>True
 |f::fs,p::ps,o=>(f.offset=o/\P.cellsOf f.type=p.length/\N2 P f.type p)/\b18 P fs ps (o+p.length)
 |_,_,_=>False
def b18.get {P:Program}:∀{fs:List Field} {ps:List (List Sh)} {o:Nat},b18 P fs ps o->ps.length=fs.length/\∀(i:Nat) (f:Field) (p:List Sh),fs[i]? =some f->ps[i]? =some p->f.offset=o+(ps.take i).flatten.length/\P.cellsOf f.type=p.length/\N2 P f.type p
 |[],[],o,_=>⟨rfl,zq⟩
 |f::fs,p::ps,o,h=>by
  have ⟨⟨h1,h2,h3⟩,h4⟩:=h;have ⟨l,g⟩:=b18.get h4;refine ⟨by simp [l],fun i f' p' hf hp=>?_⟩;cases i with
  |zero=>simp at hf hp;subst hf hp;exact ⟨by simp [h1],h2,h3⟩
  |succ i=>
   have ⟨g1,g2,g3⟩:=g i f' p' (by simpa using hf) (by simpa using hp);exact ⟨by rw [g1];simp;omega,g2,g3⟩
 |[],_::_,_,h=>h.elim
 |_::_,[],_,h=>h.elim
def a0g {P:Program} {t:TypeId} {fs:Array Field} (parts:List (List Sh)) (h:P.underlying t=some (.struct fs)) (hf:b18 P fs.toList parts 0) (hc:P.cellsOf t=parts.flatten.length):N2 P t parts.flatten:=by
 have ⟨l,g⟩:=hf.get;refine N2.struct parts h (by simpa using l) (fun i f p hi hp=>?_) hc (fun i f p hi hp=>?_)
 ·have ⟨g1,g2,g3⟩:=g i f p (by simpa using hi) hp;exact ⟨by rw [g1];simp,g2⟩
 ·exact (g i f p (by simpa using hi) hp).2.2
def b9I:N2 Tryz.prog 4 [.bool]:=.bool Tryz.underlying4
def b64:N2 Tryz.prog 51 [l9,l9,l9]:=
 a0g [[l9],[l9],[l9]] Tryz.underlying51 ⟨⟨zr,zr,G2⟩,⟨zr,zr,G2⟩,⟨zr,zr,G2⟩,trivial⟩ zr
def b7u:N2 Tryz.prog 53 [l9,l9,l9,l9,l9,.bool]:=
 a0g [[l9],[l9],[l9],[l9],[l9],[.bool]] Tryz.underlying53 ⟨⟨zr,zr,G2⟩,⟨zr,zr,G2⟩,⟨zr,zr,G2⟩,⟨zr,zr,G2⟩,⟨zr,zr,G2⟩,⟨zr,zr,b9I⟩,trivial⟩ zr
def b9X:N2 Tryz.prog 107 [l9,l9,l9,l9,l9,l9]:=
 a0g [[l9],[l9],[l9],[l9],[l9],[l9]] Tryz.underlying107 ⟨⟨zr,zr,G2⟩,⟨zr,zr,G2⟩,⟨zr,zr,G2⟩,⟨zr,zr,G2⟩,⟨zr,zr,G2⟩,⟨zr,zr,G2⟩,trivial⟩ zr
def b2z:N2 Tryz.prog 111 [l9,l9,l9,l9]:=
 a0g [[l9],[l9],[l9],[l9]] Tryz.underlying111 ⟨⟨zr,zr,G2⟩,⟨zr,zr,G2⟩,⟨zr,zr,G2⟩,⟨zr,zr,G2⟩,trivial⟩ zr
def b8i:N2 Tryz.prog 55 [l9,l9,l9]:=
 a0g [[l9],[l9],[l9]] Tryz.underlying55 ⟨⟨zr,zr,G2⟩,⟨zr,zr,G2⟩,⟨zr,zr,G2⟩,trivial⟩ zr
def b6d:N2 Tryz.prog 60 [l9,l9]:=
 a0g [[l9],[l9]] Tryz.underlying60 ⟨⟨zr,zr,G2⟩,⟨zr,zr,G2⟩,trivial⟩ zr
def b3H:N2 Tryz.prog 22 [.sl [l9,l9,l9]]:=.sl Tryz.underlying22 zr de b64
def b6P:N2 Tryz.prog 23 [.sl [l9,l9,l9,l9,l9,.bool]]:=.sl Tryz.underlying23 zr de b7u
def b6F:N2 Tryz.prog 24 [.sl [l9,l9,l9,l9,l9,l9]]:=.sl Tryz.underlying24 zr de b9X
def b0m:N2 Tryz.prog 25 [.sl [l9,l9]]:=.sl Tryz.underlying25 zr de b2Z
def aP5:N2 Tryz.prog 26 [.sl [l9,l9,l9,l9]]:=.sl Tryz.underlying26 zr de b2z
def b77:N2 Tryz.prog 29 [.sl [l9,l9,l9]]:=.sl Tryz.underlying29 zr de b8i
def b2I:N2 Tryz.prog 30 [.sl [l9,l9]]:=.sl Tryz.underlying30 zr de b6d
abbrev bN3:List Sh:=[l9,l9,l9,.sl [l9,l9,l9],.sl [l9,l9,l9,l9,l9,.bool],.sl [l9,l9,l9,l9,l9,l9],.sl [l9,l9],.sl [l9,l9,l9,l9]]
def bK7:N2 Tryz.prog 28 bN3:=
 a0g [[l9],[l9],[l9],[.sl [l9,l9,l9]],[.sl [l9,l9,l9,l9,l9,.bool]],[.sl [l9,l9,l9,l9,l9,l9]],[.sl [l9,l9]],[.sl [l9,l9,l9,l9]]] Tryz.underlying28
  ⟨⟨zr,zr,G2⟩,⟨zr,zr,G2⟩,⟨zr,zr,G2⟩,⟨zr,zr,b3H⟩,⟨zr,zr,b6P⟩,⟨zr,zr,b6F⟩,⟨zr,zr,b0m⟩,⟨zr,zr,aP5⟩,trivial⟩ zr
abbrev bW2:List Sh:=bN3++[.sl [l9,l9,l9],.sl [l9,l9]]
def bD4:N2 Tryz.prog 32 bW2:=
 a0g [bN3,[.sl [l9,l9,l9]],[.sl [l9,l9]]] Tryz.underlying32
  ⟨⟨zr,zr,bK7⟩,⟨zr,zr,b77⟩,⟨zr,zr,b2I⟩,trivial⟩ zr
def K2 {t:T} (h:Fit l9 t):∃n,t=ti n:=by have ⟨n,h,_⟩:=h.int_inv;exact ⟨n,h⟩
section
variable {α:Type} {t:T}
def b2C (h:Fit (.sl [l9,l9,l9]) t):∃l:List a0y,t=a7D l:=by
 obtain ⟨xs,rfl,_⟩:=h.sl_inv a0y.row (fun _=>True) (fun r hl hr=>by
  match r,hl with
  |[a,b,c],_=>
   obtain ⟨a,rfl⟩:=K2 (hr 0 _ _ rfl rfl)
   obtain ⟨b,rfl⟩:=K2 (hr 1 _ _ rfl rfl)
   obtain ⟨c,rfl⟩:=K2 (hr 2 _ _ rfl rfl)
   exact ⟨⟨a,b,c⟩,rfl,trivial⟩)
 exact ⟨xs,rfl⟩
def b6L (h:Fit (.sl [l9,l9,l9]) t):∃l:List Q4,t=ac7 l:=by
 obtain ⟨xs,rfl,_⟩:=h.sl_inv Q4.row (fun _=>True) (fun r hl hr=>by
  match r,hl with
  |[a,b,c],_=>
   obtain ⟨a,rfl⟩:=K2 (hr 0 _ _ rfl rfl)
   obtain ⟨b,rfl⟩:=K2 (hr 1 _ _ rfl rfl)
   obtain ⟨c,rfl⟩:=K2 (hr 2 _ _ rfl rfl)
   exact ⟨⟨a,b,c⟩,rfl,trivial⟩)
 exact ⟨xs,rfl⟩
def b2r (h:Fit (.sl [l9,l9]) t):∃l:List H5,t=a7v l:=by
 obtain ⟨xs,rfl,_⟩:=h.sl_inv H5.row (fun _=>True) (fun r hl hr=>by
  match r,hl with
  |[a,b],_=>
   obtain ⟨a,rfl⟩:=K2 (hr 0 _ _ rfl rfl)
   obtain ⟨b,rfl⟩:=K2 (hr 1 _ _ rfl rfl)
   exact ⟨⟨a,b⟩,rfl,trivial⟩)
 exact ⟨xs,rfl⟩
def b1r (h:Fit (.sl [l9,l9]) t):∃l:List J5,t=S2 l:=by
 obtain ⟨xs,rfl,_⟩:=h.sl_inv J5.row (fun _=>True) (fun r hl hr=>by
  match r,hl with
  |[a,b],_=>
   obtain ⟨a,rfl⟩:=K2 (hr 0 _ _ rfl rfl)
   obtain ⟨b,rfl⟩:=K2 (hr 1 _ _ rfl rfl)
   exact ⟨⟨a,b⟩,rfl,trivial⟩)
 exact ⟨xs,rfl⟩
def aY4 (h:Fit (.sl [l9,l9,l9,l9]) t):∃l:List a2w,t=a2Q l:=by
 obtain ⟨xs,rfl,_⟩:=h.sl_inv a2w.row (fun _=>True) (fun r hl hr=>by
  match r,hl with
  |[a,b,c,d],_=>
   obtain ⟨a,rfl⟩:=K2 (hr 0 _ _ rfl rfl)
   obtain ⟨b,rfl⟩:=K2 (hr 1 _ _ rfl rfl)
   obtain ⟨c,rfl⟩:=K2 (hr 2 _ _ rfl rfl)
   obtain ⟨d,rfl⟩:=K2 (hr 3 _ _ rfl rfl)
   exact ⟨⟨a,b,c,d⟩,rfl,trivial⟩)
 exact ⟨xs,rfl⟩
def b6E (h:Fit (.sl [l9,l9,l9,l9,l9,l9]) t):∃l:List Q3,t=a1L l:=by
 obtain ⟨xs,rfl,_⟩:=h.sl_inv Q3.row (fun _=>True) (fun r hl hr=>by
  match r,hl with
  |[a,b,c,d,e,f],_=>
   obtain ⟨a,rfl⟩:=K2 (hr 0 _ _ rfl rfl)
   obtain ⟨b,rfl⟩:=K2 (hr 1 _ _ rfl rfl)
   obtain ⟨c,rfl⟩:=K2 (hr 2 _ _ rfl rfl)
   obtain ⟨d,rfl⟩:=K2 (hr 3 _ _ rfl rfl)
   obtain ⟨e,rfl⟩:=K2 (hr 4 _ _ rfl rfl)
   obtain ⟨f,rfl⟩:=K2 (hr 5 _ _ rfl rfl)
   exact ⟨⟨a,b,c,d,e,f⟩,rfl,trivial⟩)
 exact ⟨xs,rfl⟩
def b6C (h:Fit (.sl [l9,l9,l9,l9,l9,.bool]) t):∃l:List C6,t=a5q l:=by
 obtain ⟨xs,rfl,_⟩:=h.sl_inv C6.row (fun _=>True) (fun r hl hr=>by
  match r,hl with
  |[a,b,c,d,e,f],_=>
   obtain ⟨a,rfl⟩:=K2 (hr 0 _ _ rfl rfl)
   obtain ⟨b,rfl⟩:=K2 (hr 1 _ _ rfl rfl)
   obtain ⟨c,rfl⟩:=K2 (hr 2 _ _ rfl rfl)
   obtain ⟨d,rfl⟩:=K2 (hr 3 _ _ rfl rfl)
   obtain ⟨e,rfl⟩:=K2 (hr 4 _ _ rfl rfl)
   obtain ⟨f,rfl⟩:=(hr 5 _ _ rfl rfl).bool_inv
   exact ⟨⟨a,b,c,d,e,f⟩,rfl,trivial⟩)
 exact ⟨xs,rfl⟩
end
section
variable {H:Type} {enc:TypeId × Value->H} {w:World} {base:Nat} {spare:Nat->Bool} {held:Bool}
def open_trace {v:Value} {d:DataW H} {p:List MemPlace} {r:Reach} {b0:Nat} (hv:Value.okWide Tryz.prog w r b0 32 v) (h:DataW.Trod enc Tryz.prog w base spare held 32 v d p):∃t:j9,RS w (fun _=>none) (fun _=>False) (trS t) v:=by
 obtain ⟨⟨l⟩,rfl,_⟩:=okWide_struct Tryz.underlying32 hv;have ⟨fuel,hf⟩:=h;have ⟨ts,h1,h2,h3⟩:=b7t (bo5 bD4 fuel _ _ hf)
 match ts,h1 with
 |[a,b,c,d,e,f,g,h,i,j],_=>
  obtain ⟨a,rfl⟩:=K2 (h2 0 _ _ rfl rfl);obtain ⟨b,rfl⟩:=K2 (h2 1 _ _ rfl rfl);obtain ⟨c,rfl⟩:=K2 (h2 2 _ _ rfl rfl);obtain ⟨d,rfl⟩:=b2C (h2 3 _ _ rfl rfl);obtain ⟨e,rfl⟩:=b6C (h2 4 _ _ rfl rfl);obtain ⟨f,rfl⟩:=b6E (h2 5 _ _ rfl rfl);obtain ⟨g,rfl⟩:=b1r (h2 6 _ _ rfl rfl);obtain ⟨h,rfl⟩:=aY4 (h2 7 _ _ rfl rfl);obtain ⟨i,rfl⟩:=b6L (h2 8 _ _ rfl rfl);obtain ⟨j,rfl⟩:=b2r (h2 9 _ _ rfl rfl);exact ⟨⟨⟨a,b,c,d,e,f,g,h⟩,i,j⟩,h3⟩
end
end
section
open Go.RowKit Go.ChangeShapes Go.WideShapes Go.ChangeAt
set_option maxRecDepth 100000 in
def a9b (os:Os) (started:os.Started) (H:Type) (enc:TypeId × Value->H):
 ReturnsInHanded {} Tryz.checked os 3 .any (Rows.probeTellsSpec.pre6 enc Tryz.prog Tryz.f3 Rows.probeTellsRow.domain false) (Rows.probeTellsSpec.post enc Tryz.prog Tryz.f3 false true false false):=by
 refine returnsInHanded_of_change (C:=Tryz.checked) bs9 started zr Tryz.func3
  (ChangeSpec.witness6 (enc:=enc) (C:=Tryz.checked) false ⟨#[],#[.agg #[.int .i64 0,.int .i64 0,.int .i64 0,.slice none 0 0,.slice none 0 0,.slice none 0 0,.slice none 0 0,.slice none 0 0,.slice none 0 0,.slice none 0 0],.int .i64 0,.int .i64 0,.slice none 0 0],[]⟩ 12 zr zr zr zr) ?_
 intro W base args ds gs before hval0 hW hcnd _;have hval:∀(j:Nat) t v,Tryz.f3.params[j]? =some t->args[j]? =some v->Value.okWide Tryz.prog W .any base t v:=hval0;have hW':=hW;obtain ⟨p,q,hA0,hV,rfl,hfz,hnd⟩:=hW;have hA:DataW.TrodAll enc Tryz.prog W 0 (fun _=>true) true Tryz.f3.params.toList args.toList ds p:=hA0;rw [Tryz.params3] at hA hval;obtain ⟨v0,vs0,d0,ds0,p0,q0,hargs,rfl,rfl,h0,r0⟩:=trodAll_cons hA;obtain ⟨v1,vs1,d1,ds1,p1,q1,rfl,rfl,rfl,h1,r1⟩:=trodAll_cons r0;obtain ⟨v2,vs2,d2,ds2,p2,q2,rfl,rfl,rfl,h2,r2⟩:=trodAll_cons r1;obtain ⟨v3,vs3,d3,ds3,p3,q3,rfl,rfl,rfl,h3,r3⟩:=trodAll_cons r2;obtain ⟨rfl,rfl,rfl⟩:=trodAll_nil r3;obtain rfl:args=#[v0,v1,v2,v3]:=by cases args;simp_all
 obtain ⟨rfl,rfl⟩:=trodVars_none hV;have ⟨a0,t0⟩:=Go.Proofs.YtbcdidimaioapaaGreat.open_trace (hval 0 32 v0 rfl rfl) h0;obtain ⟨a1,rfl,rfl,rfl,w1⟩:=open_int Tryz.underlying3 (hval 1 3 v1 rfl rfl) h1;obtain ⟨a2,rfl,rfl,rfl,w2⟩:=open_int Tryz.underlying3 (hval 2 3 v2 rfl rfl) h2;obtain ⟨A3,n3,c3,a3,rfl,s3,k3,l3⟩:=Go.Proofs.YtbcdidimaioapaaGreat.open_ints (hval 3 33 v3 rfl rfl) h3;refine (aV5 (aP1 a0 a1 a2 a3) (.cons (t0) (.cons (b7H) (.cons (b7H) (.cons (by4 s3 k3 l3) (.nil)))))).mono fun ee W' ⟨he,hg⟩=>?_
 subst he;exact ⟨_,rfl,b9V hW' b7F (by rw [Tryz.params3];intro t ht;simp at ht;first|(rcases ht with rfl|rfl|rfl|rfl<;>exact ⟨zr,lbL zr⟩)|(rcases ht with rfl|rfl|rfl<;>exact ⟨zr,lbL zr⟩)) rfl rfl zr Tryz.underlying4 hg⟩
def a9Z:(Rows.probeTellsRow.inPlace == Tryz.pinned.checked.prog.inPlace 3)=true:=by kernel_rfl
def ar7:(Rows.probeTellsRow.unfollowed == Tryz.pinned.checked.prog.unfollowed 3)=true:=by kernel_rfl
def ar2:(Rows.probeTellsRow.recurses == Tryz.pinned.checked.prog.recurses 3)=true:=by kernel_rfl
def af5:(Rows.probeTellsRow.named == Tryz.pinned.checked.prog.varsNamed 3)=true:=by kernel_rfl
def ac2:(Rows.probeTellsRow.loops == (Tryz.f3.params.toList++Rows.probeTellsSpec.plain.varTypes Tryz.pinned.checked.prog).any (Tryz.pinned.checked.prog.loopsFrom ·))=true:=by kernel_rfl
set_option maxRecDepth 100000 in
def a8Z:joinedFacts Tryz.pinned.checked.prog 3 Tryz.f3 (Rows.probeTellsSpec) Rows.probeTellsRow=true:=b76 zr bw1 bg9 zr zr zr zr zr zr a9Z ar7 ar2 af5 zr zr zr ac2 zr zr zr zr zr bw5 zr b8X b9t bp0 bm4 zr zr zr zr zr
theorem probeTells_holds:Rows.ProbeTellsSaid:=
 OpenClaim.holds_of_wide 3 Tryz.f3 rfl rfl rfl rfl rfl rfl rfl rz rfl rfl rfl rfl rfl zr Tryz.func3 a8Z
  (lbL zr) (by unfold Func.isWrapper;first|(rw [iB zk];kernel_rfl)|(rw [iC zk];exact rz))
  (fun os started H enc _=>a9b os started H enc)
end
end Go.Proofs.YtbcdidimaioapaaGreat
