/- Part 13. -/
import Derived.Test.YtikokmdpigploaaGreatSk12
namespace Go.Proofs.YtikokmdpigploaaGreat
set_option linter.all false
set_option maxRecDepth 100000
set_option maxHeartbeats 8000000
open Go.RowKit
open St1 St2 St3 St4 St5 St6 St7 St8 StA StB StC
theorem b7z (e:Ev) (h0:E6 e=0) {i:Nat} {x:A8} (hx:e.moves[i]? =some x):d6 Tryz.prog 137 [evS e,c9 .i64 i] [] (as7 (x3 e i x)) []:=by
 obtain ⟨b1,b2,b3,b4⟩:=a0i h0
 have hi:i<e.moves.length:=(lbe.1 hx).1
 have m0:(e.moves.map A8.row).length=e.moves.length:=by simp
 have i0:=a4Y 0 (by decide) (by decide)
 have im:=ac9 i (-1) (by decide) (by decide)
 have hil:=a1c (e:=e) (p:=x.src) i
 cases hal:x.all
 case' false=>have hK:(x3 e i x).kind=0:=by unfold x3;rw [hal];rfl
 case' true=>have hK:(x3 e i x).kind=2:=by unfold x3;rw [hal];rfl
 all_goals
  (refine ac Tryz.func137 ?_;(conv=>whnf);repeat ((first|refine b0x ?_|refine zy ?_);conv=>whnf))
  repeat' (first|refine zx ?_|refine qp i0 ?_|refine i6 hx ?_|refine zd ?_ ?_<;>intro h<;>try omega|fail)<;>conv=>whnf
  all_goals first
   |omega
   |(exfalso;simp_all;done)
   |skip
  refine j3 d7 (fun k=>([J,c9 .i64 i,S.c (C.t (T.ptr (evT e))),J,S.c (C.ptr 0 0 0),c9 .i64 x.src,S.c (C.ptr 1 0 0),c9 .i64 k]++Jn 58,[bb9,ba1 2 (n9 e x.src k).length (x3 e i x).kind,Q1 (n9 e x.src k)])) i (fun _=>True) [some 0,some 1,none] trivial ?_ ?_
  ·refine ⟨rfl,rfl,⟨⟨rfl,rfl,rfl,.inr ⟨⟨rfl,rfl,rfl,rfl,rfl,rfl,trivial⟩,trivial⟩⟩,⟨rfl,rfl,rfl,.inr ⟨⟨⟨rfl,rfl,rfl⟩,?_,rfl,rfl,rfl,rfl,trivial⟩,trivial⟩⟩,⟨rfl,rfl⟩,trivial⟩,⟨rfl,rfl,⟨rfl,rfl,rfl⟩,rfl,⟨rfl,rfl,rfl⟩,rfl,trivial⟩⟩
   rw [hK];rfl
  intro k hk _
  have kl:=a1c (e:=e) (p:=x.src) k
  by_cases hlt:k<i
  ·obtain ⟨y,hy⟩:∃y,e.moves[k]? =some y:=⟨_,lbf (by omega)⟩
   have hmo:=V9 h0 (lbm hy)
   have hne:y.src≠y.dst:=by unfold R5 at hmo;simp only [lbM,lbH] at hmo;exact hmo.1.1.1.1.1.2
   have t1:=ac9 k 1 (by decide) (by decide)
   have tm:=ac9 k (-1) (by decide) (by decide)
   have lA:(n9 e x.src k).length<=(Q1 (n9 e x.src k)).rows.length:=by show _<=(toC _).length;simp [toC]
   have lC:((n9 e x.src k).length+1)*73<=140737488355328:=by omega
   by_cases c1:y.dst=x.src
   ·have et:n9 e x.src (k+1)=n9 e x.src k++[((k:Int),((1:Int):Rat))]:=by rw [W5 hy,if_pos c1]
    conv=>whnf
    repeat' (first|refine zx ?_|refine qp t1 ?_|refine qp tm ?_|refine i6 hy ?_|refine w6 lA lC ?_|refine zd ?_ ?_<;>intro h<;>try omega|fail)<;>conv=>whnf
    all_goals try omega
    refine ⟨hlt,trivial,[some 0,some 1,some 3],rfl,rfl,⟨⟨rfl,rfl,rfl,.inr ⟨⟨rfl,rfl,rfl,rfl,rfl,rfl,trivial⟩,trivial⟩⟩,⟨rfl,rfl,rfl,.inr ⟨⟨⟨rfl,rfl,?_,fun h=>h⟩,rfl,rfl,rfl,rfl,rfl,trivial⟩,trivial⟩⟩,e8 rfl rfl rfl ?_ rfl,trivial⟩,⟨rfl,rfl,⟨rfl,rfl,rfl⟩,rfl,⟨rfl,rfl,rfl⟩,rfl,trivial⟩⟩
    ·rw [et,lbq];rfl
    ·rw [et]
     show List.take (n9 e x.src k).length (toC ((n9 e x.src k).map o7))++toC [o7 ((k:Int),((1:Int):Rat))]=_
     exact a1O rfl
   ·by_cases c2:y.src=x.src
    ·have et:n9 e x.src (k+1)=n9 e x.src k++[((k:Int),((-1:Int):Rat))]:=by rw [W5 hy,if_neg c1,if_pos c2]
     conv=>whnf
     repeat' (first|refine zx ?_|refine qp t1 ?_|refine qp tm ?_|refine i6 hy ?_|refine w6 lA lC ?_|refine zd ?_ ?_<;>intro h<;>try omega|fail)<;>conv=>whnf
     all_goals try omega
     refine ⟨hlt,trivial,[some 0,some 1,some 3],rfl,rfl,⟨⟨rfl,rfl,rfl,.inr ⟨⟨rfl,rfl,rfl,rfl,rfl,rfl,trivial⟩,trivial⟩⟩,⟨rfl,rfl,rfl,.inr ⟨⟨⟨rfl,rfl,?_,fun h=>h⟩,rfl,rfl,rfl,rfl,rfl,trivial⟩,trivial⟩⟩,e8 rfl rfl rfl ?_ rfl,trivial⟩,⟨rfl,rfl,⟨rfl,rfl,rfl⟩,rfl,⟨rfl,rfl,rfl⟩,rfl,trivial⟩⟩
     ·rw [et,lbq];rfl
     ·rw [et]
      show List.take (n9 e x.src k).length (toC ((n9 e x.src k).map o7))++toC [o7 ((k:Int),((-1:Int):Rat))]=_
      exact a1O rfl
    ·have et:n9 e x.src (k+1)=n9 e x.src k:=by rw [W5 hy,if_neg c1,if_neg c2]
     conv=>whnf
     repeat' (first|refine zx ?_|refine i6 hy ?_|refine zd ?_ ?_<;>intro h<;>try omega|fail)<;>conv=>whnf
     all_goals try omega
     refine ⟨hlt,trivial,[some 0,some 1,some 2],rfl,rfl,⟨⟨rfl,rfl,rfl,.inr ⟨⟨rfl,rfl,rfl,rfl,rfl,rfl,trivial⟩,trivial⟩⟩,⟨rfl,rfl,rfl,.inr ⟨⟨⟨rfl,rfl,?_,fun h=>h⟩,rfl,rfl,rfl,rfl,rfl,trivial⟩,trivial⟩⟩,e8 rfl rfl rfl ?_ rfl,trivial⟩,⟨rfl,rfl,⟨rfl,rfl,rfl⟩,rfl,⟨rfl,rfl,rfl⟩,rfl,trivial⟩⟩
     ·rw [et]
     ·rw [et]
  ·have hke:k=i:=by omega
   subst hke
   have lA:(n9 e x.src k).length<=(Q1 (n9 e x.src k)).rows.length:=by show _<=(toC _).length;simp [toC]
   have lC:((n9 e x.src k).length+1)*73<=140737488355328:=by omega
   conv=>whnf
   repeat' (first|refine zx ?_|refine qp im ?_|refine w6 lA lC ?_|refine zd ?_ ?_<;>intro h<;>try omega|fail)<;>conv=>whnf
   all_goals try omega
   refine m9 ⟨show VC _ (fun id=>L9 [] id=true) _ _ from u5 rfl rfl (by intro h;cases h) rfl (rows:=(n9 e x.src k++[((k:Int),((-1:Int):Rat))]).map o7) ?_ ?_,rfl,rfl,rfl,rfl,rfl,trivial⟩
   ·show List.take (n9 e x.src k).length (toC ((n9 e x.src k).map o7))++toC [o7 ((k:Int),((-1:Int):Rat))]=_
    exact a1O rfl
   ·rw [lbr,lbq];rfl
abbrev rEv (t:n7) (kind:Int) (k:Nat):Env:=[J,eI kind,S.c (C.t (T.ptr (trT t))),J,sP 0 0 0,J,sP 1 0 0,sP 2 0 0,eI k]++Jn 132
abbrev rHp (t:n7) (R:List x4):Hp:=[al5,evB t.ev,ab8 t.ev.moves.length 3 R.length,a0D R]
def S3 {t:n7} {R:List x4} {N len:Nat} {H:Hp} {env env':Env} {rs:List (List C)} {kz:Blk} (hz:H[0]? =some kz) (hz2:a2q [some 0,some 1,some 2,some N] H kz al5) (he:H[1]? =some (evB t.ev))
 (hs:H[2]? =some (ab8 t.ev.moves.length N len)) (hr:H[N]? =some { mode:=.live,elem:=133,size:=6,rows:=rs,box:=false }) (hl:len=R.length) (hrs:rs=toC (R.map p4)) (hN:2<N)
 (hE:X5 [some 0,some 1,some 2,some N] H env env'):Ent 0 [some 0,some 1,some 2,some N] env H env' (rHp t R):=by
 have b1:Nat.beq 0 N=false:=by cases h:Nat.beq 0 N with|false=>rfl|true=>exact absurd (a0J h) om
 refine ⟨rfl,a0F fun a b m h1 h2=>?_,⟨?_,?_,?_,?_,trivial⟩,hE⟩
 ·match a,b,h1,h2 with
  |0,0,_,_=>rfl
  |1,1,_,_=>rfl
  |2,2,_,_=>rfl
  |3,3,_,_=>rfl
  |0,1,h1,h2=>simp at h1 h2;omega
  |0,2,h1,h2=>simp at h1 h2;omega
  |0,3,h1,h2=>simp at h1 h2;omega
  |1,0,h1,h2=>simp at h1 h2;omega
  |1,2,h1,h2=>simp at h1 h2;omega
  |1,3,h1,h2=>simp at h1 h2;omega
  |2,0,h1,h2=>simp at h1 h2;omega
  |2,1,h1,h2=>simp at h1 h2;omega
  |2,3,h1,h2=>simp at h1 h2;omega
  |3,0,h1,h2=>simp at h1 h2;omega
  |3,1,h1,h2=>simp at h1 h2;omega
  |3,2,h1,h2=>simp at h1 h2;omega
  |n+4,_,h1,_=>simp at h1
  |0,n+4,_,h2=>simp at h2
  |1,n+4,_,h2=>simp at h2
  |2,n+4,_,h2=>simp at h2
  |3,n+4,_,h2=>simp at h2
 ·simp only [hz];exact hz2
 ·simp only [he];exact ⟨rfl,rfl,rfl,.inl ⟨rfl,A7 _⟩⟩
 ·simp only [hs];exact ⟨rfl,rfl,rfl,.inr ⟨⟨rfl,⟨rfl,rfl,hl,fun h=>h⟩,trivial⟩,trivial⟩⟩
 ·simp only [hr];exact e8 rfl rfl rfl hrs rfl
def a0M {ρ:List (Option Nat)} {H:Hp}:a2q ρ H al5 al5:=⟨rfl,rfl,rfl,.inr rz⟩
def b8V (o:Option (Rat × Rat)):∃lo:Fr,ivL o=[frS lo,frS (hiF o),i9 o.isSome]:=by
 cases o with
 |none=>exact ⟨C6,rfl⟩
 |some p=>exact ⟨fz p.1,rfl⟩
def b8k {i:Nat} {kind:Int} {f:Fr} {v:Rat} (h:f=fz v):ec 139 [eI i,eI kind,frS f] [] (as7 (A9 i kind v)) []:=by subst h;exact b1i i kind v
def b0t (t:n7) (kind:Int) (hs:t.Sized) (h1:¬(p6 t≠0∨kind<0∨8<=kind)):ec 67 [trS t,eI kind] [] (.tup [.agg [.t (ti t.ev.moves.length),.own 0 0 (j1 t kind).rows.length true],eI 0]) [a0D (j1 t kind).rows]:=by
 have rt:=aR0 t hs kind;have m2:(t.ev.moves.map A8.row).length=t.ev.moves.length:=zq;have m4:(t.finds.map Z9.row).length=t.finds.length:=zq;have m5:(t.cleans.map P1.row).length=t.cleans.length:=zq;obtain ⟨k1,k2,k3⟩:p6 t=0∧0<=kind∧kind<8:=om;rw [lbG ⟨k1,k2,k3⟩] at rt;clear h1;obtain ⟨q1,q2,q3,q4,q5⟩:=G3 k1;obtain ⟨b1,b2,b3,b4⟩:=a0i q1
 (refine ac Tryz.func67 ?_;(conv=>whnf);repeat ((first|refine b0x ?_|refine zy ?_);conv=>whnf))
 repeat' (first|refine zx ?_|apply zD<;>intro h<;>try omega)<;>conv=>whnf
 all_goals try omega
 refine aj6 (fun k=>(rEv t kind k,rHp t (s7 t kind k))) t.ev.moves.length tT [some 0,some 1,some 2,none] trivial ?_ ?_
 ·refine ⟨rfl,rfl,⟨⟨rfl,rfl,rfl,.inr rz⟩,⟨rfl,rfl,rfl,.inl ⟨rfl,A7 _⟩⟩,⟨rfl,rfl,rfl,.inr ⟨⟨?_,rz⟩,trivial⟩⟩,rz⟩,rz⟩;exact ad9 (by rw [m2])
 intro k hk _;refine u3 d7 ?_;conv=>whnf
 repeat' (first|refine zx ?_|apply zD<;>intro h<;>try omega)<;>conv=>whnf
 ·obtain ⟨x,hx⟩:∃x,t.ev.moves[k]? =some x:=⟨_,lbf om⟩;have hlt:k<t.ev.moves.length:=om;have hmo:=V9 q1 (lbm hx);have ms:=a1T hmo;obtain ⟨s,hsn⟩:∃s:Nat,x.src=s:=⟨x.src.toNat,om⟩;obtain ⟨pl,hpl⟩:∃pl,t.ev.places[s]? =some pl:=⟨_,lbf om⟩;have hkd:K4 t.ev x.src=pl.kind:=by rw [hsn];exact aC3 hpl
  have st:=b7z t.ev q1 hx;have iv:=aY2 t.ev hs.ev hx;have rl0:=a73 (t:=t) (kind:=kind) (k:=k) om q2 q3;obtain ⟨lo,hlo⟩:=b8V (N1 t.ev x);rw [hlo] at iv;have i0:=a4Y 0 de de;have hcr:W6 (N1 t.ev x) k=if (N1 t.ev x).isSome then [A9 k 1 (hiR (N1 t.ev x))] else []:=by cases N1 t.ev x<;>rfl
  obtain ⟨R1,hR1⟩:∃R1:List x4,R1=s7 t kind k++(if pl.kind=0 then [] else [x3 t.ev k x]):=⟨_,rfl⟩;obtain ⟨R2,hR2⟩:∃R2:List x4,R2=R1++W6 (N1 t.ev x) k:=⟨_,rfl⟩;have l1:R1.length<=14401:=by rw [hR1];split<;>simp<;>omega
  have l2:R2.length<=14402:=by rw [hR2,hcr];split<;>simp<;>omega
  refine a86 (a7t ?_);refine u7 d7 (rEv t kind k) (rHp t R1) ?_ ?_
  ·have lA:(s7 t kind k).length<=(a0D (s7 t kind k)).rows.length:=by show _<=(toC _).length;simp [toC]
   have lC:((s7 t kind k).length+1)*97<=140737488355328:=om;conv=>whnf
   repeat' (first|refine zx ?_|refine i6 hx ?_|refine y7 hsn hpl ?_|refine w6 lA lC ?_|apply zD<;>intro h<;>try omega)<;>conv=>whnf
   ·have eR:R1=s7 t kind k++[x3 t.ev k x]:=by rw [hR1,if_neg (by assumption)]
    refine ⟨[some 0,some 1,some 2,some 4],S3 rfl a0M rfl rfl rfl ?_ ?_ de rz⟩
    ·rw [eR];simp [toC]
    ·rw [eR];exact a1I rfl
   ·have eR:R1=s7 t kind k:=by rw [hR1,if_pos om,a0x]
    refine ⟨[some 0,some 1,some 2,some 3],S3 rfl a0M rfl rfl rfl ?_ ?_ de rz⟩
    ·rw [eR]
    ·rw [eR]
  have o1:=fun h=>b8k (i:=k) (kind:=1) (f:=hiF (N1 t.ev x)) (v:=hiR (N1 t.ev x)) h
  refine u7 d7 ([J,eI kind,S.c (C.t (T.ptr (trT t))),J,sP 0 0 0,J,sP 1 0 0,sP 2 0 0,eI k,J,sP 4 0 0,i9 (N1 t.ev x).isSome]++Jn 129) (rHp t R1++[bv4 (hiF (N1 t.ev x))]) ?_ ?_
  ·conv=>whnf
   repeat' (first|refine zx ?_|refine bl0 [6] ?_|apply zD<;>intro h<;>try omega)<;>conv=>whnf
   all_goals
    refine ⟨[some 0,some 1,some 2,some 3,some 5],rfl,rfl,⟨a0M,⟨rfl,rfl,rfl,.inl ⟨rfl,A7 _⟩⟩,⟨rfl,rfl,rfl,.inr ⟨⟨rfl,⟨rfl,rfl,rfl,fun h=>h⟩,trivial⟩,trivial⟩⟩,⟨rfl,rfl,rfl,.inl ⟨rfl,i5 _⟩⟩,⟨rfl,rfl,rfl,.inl ⟨rfl,b0c _⟩⟩,trivial⟩,⟨rfl,rfl,rz,rz,rz,rfl,rz,b2F h.symm,trivial⟩⟩
  refine u7 d7 (rEv t kind k) (rHp t R2) ?_ ?_
  ·have lA:R1.length<=(a0D R1).rows.length:=by show _<=(toC _).length;simp [toC]
   have lC:(R1.length+1)*97<=140737488355328:=om;cases hc:(N1 t.ev x).isSome with
   |true=>
    have o1:=o1 (ah1 hc).1;have eR:R2=R1++[A9 k 1 (hiR (N1 t.ev x))]:=by rw [hR2,hcr,hc];rfl
    conv=>whnf
    repeat' (first|refine zx ?_|refine w6 lA lC ?_|apply zD<;>intro h<;>try omega)<;>conv=>whnf
    all_goals try (rw [hc] at h;exact absurd h de)
    refine ⟨[some 0,some 1,some 2,some 5],S3 rfl a0M rfl rfl rfl ?_ ?_ de rz⟩
    ·rw [eR];simp [toC]
    ·rw [eR];exact a1I rfl
   |false=>
    have eR:R2=R1:=by rw [hR2,hcr,hc];simp
    conv=>whnf
    repeat' (first|refine zx ?_|apply zD<;>intro h<;>try omega)<;>conv=>whnf
    all_goals try (rw [hc] at h;exact absurd h de)
    refine ⟨[some 0,some 1,some 2,some 3],S3 rfl a0M rfl rfl rfl ?_ ?_ de rz⟩
    ·rw [eR]
    ·rw [eR]
  obtain ⟨G,hG⟩:∃G:Nat->List x4,∀j,G j=R2++(t6 (t.finds.take j) kind k).map (fun g:Int=>A9 k 0 (g:Rat)):=⟨_,fun _=>rfl⟩;have lG:∀j,(G j).length<=14500:=fun j=>by
   have h1:(t6 (t.finds.take j) kind k).length<=20:=by
    unfold t6;rw [lbr];exact lbR (lbt _ _) (by rw [lbs];omega)
   rw [hG];simp;omega
  refine u7 d7 (rEv t kind k) (rHp t (G t.finds.length)) ?_ ?_
  ·conv=>whnf
   repeat' (first|refine zx ?_|apply zD<;>intro h<;>try omega)<;>conv=>whnf
   refine j3 d7 (fun j=>([J,eI kind,S.c (C.t (T.ptr (trT t))),J,sP 0 0 0,J,sP 1 0 0,sP 2 0 0,eI k,J,J,J,eI j]++Jn 128,rHp t (G j))) t.finds.length tT [some 0,some 1,some 2,some 3] trivial ?_ ?_
   ·refine S3 rfl a0M rfl rfl rfl ?_ ?_ de rz
    ·rw [hG];simp [t6]
    ·rw [hG];simp [t6]
   intro j hj _;have lj:=lG j;by_cases hjt:j<t.finds.length
   ·obtain ⟨f,hf⟩:∃f,t.finds[j]? =some f:=⟨_,lbf hjt⟩;have fb:=Z8 q4 f (lbm hf);have ig:=a4Y f.grams om om;have o0:=b1i k 0 (f.grams:Rat);have lA:(G j).length<=(a0D (G j)).rows.length:=by show _<=(toC _).length;simp [toC]
    have lC:((G j).length+1)*97<=140737488355328:=om;have gs:G (j+1)=if f.kind=kind∧f.mv=(k:Int) then G j++[A9 k 0 (f.grams:Rat)] else G j:=by
     rw [hG,hG,a4i hf,a7y];split<;>simp
    conv=>whnf
    repeat' (first|refine zx ?_|refine i6 hf ?_|refine w6 lA lC ?_|apply zD<;>intro h<;>try omega)<;>conv=>whnf
    all_goals first|omega|skip
    ·rw [if_pos om] at gs;refine ⟨hjt,trivial,[some 0,some 1,some 2,some 4],S3 rfl a0M rfl rfl rfl ?_ ?_ de rz⟩
     ·rw [gs];simp [toC]
     ·rw [gs];exact a1I rfl
    all_goals
     rw [if_neg om] at gs;refine ⟨hjt,trivial,[some 0,some 1,some 2,some 3],S3 rfl a0M rfl rfl rfl ?_ ?_ de rz⟩
     ·rw [gs]
     ·rw [gs]
   ·have hje:j=t.finds.length:=by omega
    subst hje;conv=>whnf
    repeat' (first|refine zx ?_|apply zD<;>intro h<;>try omega)<;>conv=>whnf
    all_goals first|omega|exact ⟨[some 0,some 1,some 2,some 3],S3 rfl a0M rfl rfl rfl rfl rfl de rz⟩
  have lGe:=lG t.finds.length;obtain ⟨K,hK⟩:∃K:Nat->List x4,∀j,K j=G t.finds.length++List.replicate (z9 (t.cleans.take j) kind k) (A9 k 2 ((0:Int):Rat)):=⟨_,fun _=>rfl⟩;have lK:∀j,(K j).length<=14600:=fun j=>by
   have h1:z9 (t.cleans.take j) kind k<=50:=by
    unfold z9;exact lbR (lbt _ _) (by rw [lbs];omega)
   rw [hK];simp;omega
  have hKe:K t.cleans.length=s7 t kind (k+1):=by
   rw [hK,hG,hR2,hR1,lbn (lbQ _),lbn (lbQ _)];show _=(match t.ev.moves[k]? with|none=>s7 t kind k|some x=>s7 t kind k++J7 t kind k x);rw [hx];simp only [J7,hkd,lbC]
  refine p5 d7 _ ?_;conv=>whnf
  repeat' (first|refine zx ?_|apply zD<;>intro h<;>try omega)<;>conv=>whnf
  refine j3 d7 (fun j=>([J,eI kind,S.c (C.t (T.ptr (trT t))),J,sP 0 0 0,J,sP 1 0 0,sP 2 0 0,eI k,J,J,J,J,eI j]++Jn 127,rHp t (K j))) t.cleans.length tT [some 0,some 1,some 2,some 3] trivial ?_ ?_
  ·refine S3 rfl a0M rfl rfl rfl ?_ ?_ de rz
   ·rw [hK];simp [z9]
   ·rw [hK];simp [z9]
  intro j hj _;have lj:=lK j;by_cases hjt:j<t.cleans.length
  ·obtain ⟨c,hc⟩:∃c,t.cleans[j]? =some c:=⟨_,lbf hjt⟩;have o0:=b1i k 2 ((0:Int):Rat);have lA:(K j).length<=(a0D (K j)).rows.length:=by show _<=(toC _).length;simp [toC]
   have lC:((K j).length+1)*97<=140737488355328:=om;have gs:K (j+1)=if c.kind=kind∧c.mv=(k:Int) then K j++[A9 k 2 ((0:Int):Rat)] else K j:=by
    rw [hK,hK,a4i hc,a0Z];split<;>simp [List.replicate_succ']
   conv=>whnf
   repeat' (first|refine zx ?_|refine i6 hc ?_|refine w6 lA lC ?_|apply zD<;>intro h<;>try omega)<;>conv=>whnf
   all_goals first|omega|skip
   ·rw [if_pos om] at gs;refine ⟨hjt,trivial,[some 0,some 1,some 2,some 4],S3 rfl a0M rfl rfl rfl ?_ ?_ de rz⟩
    ·rw [gs];simp [toC]
    ·rw [gs];exact a1I rfl
   all_goals
    rw [if_neg om] at gs;refine ⟨hjt,trivial,[some 0,some 1,some 2,some 3],S3 rfl a0M rfl rfl rfl ?_ ?_ de rz⟩
    ·rw [gs]
    ·rw [gs]
  ·have hje:j=t.cleans.length:=by omega
   subst hje;conv=>whnf
   repeat' (first|refine zx ?_|apply zD<;>intro h<;>try omega)<;>conv=>whnf
   all_goals try omega
   refine p5 d7 _ ?_;conv=>whnf
   repeat' (first|refine zx ?_|apply zD<;>intro h<;>try omega)<;>conv=>whnf
   all_goals try omega
   exact ⟨hlt,trivial,[some 0,some 1,some 2,some 3],S3 rfl a0M rfl rfl rfl (by rw [hKe]) (by rw [hKe]) de rz⟩
 ·have hke:k=t.ev.moves.length:=by omega
  subst hke;exact ⟨⟨[some 3],rfl,rfl,⟨e8 (rows:=(j1 t kind).rows.map p4) rfl rfl rfl rfl rfl,trivial⟩,⟨⟨rfl,⟨rfl,rfl,rfl,fun h=>h⟩,trivial⟩,rz⟩⟩⟩
def a1M (t:n7) (kind:Int) (hs:t.Sized):ec 67 [trS t,eI kind] [] (.tup [D8 (a5N t kind),eI (a16 t kind)]) []:=by
 have rt:=aR0 t hs kind;have m2:(t.ev.moves.map A8.row).length=t.ev.moves.length:=zq;have m4:(t.finds.map Z9.row).length=t.finds.length:=zq;have m5:(t.cleans.map P1.row).length=t.cleans.length:=zq;by_cases h1:p6 t≠0∨kind<0∨8<=kind
 ·have e1:a16 t kind=1:=by unfold a16;rw [if_pos h1]
  have e2:a5N t kind=⟨0,[]⟩:=by unfold a5N;rw [if_pos h1]
  rw [e1,e2];rw [lbI om] at rt;refine ac Tryz.func67 ?_;conv=>whnf
  repeat' (first|refine zx ?_|apply zD<;>intro h<;>try omega)<;>conv=>whnf
  all_goals first|omega|exact m9 rz
 have e1:a16 t kind=0:=by unfold a16;rw [if_neg h1]
 have e2:a5N t kind=j1 t kind:=by unfold a5N;rw [if_neg h1]
 rw [e1,e2];exact ax6 (b0t t kind hs h1) (m9 ⟨⟨rfl,show VC _ (fun id=>L9 [] id=true) _ _ from u5 rfl rfl zi rfl rfl (by rw [lbr]),trivial⟩,rz⟩)
theorem b5g (e:Ev) (hs:e.Sized) (hh mat lo hi:Int):d6 Tryz.prog 80 [evS e,c9 .i64 hh,c9 .i64 mat,c9 .i64 lo,c9 .i64 hi] [] (k9 (E7 e hh mat lo hi)) []:=by
 have l1:=hs.s2
 have l2:(e.moves.map A8.row).length=e.moves.length:=by simp
 have l3:(e.places.map X4.row).length=e.places.length:=by simp
 have ck:=aZ4 e hs
 by_cases h0:E6 e=0
 ·have e1:E7 e hh mat lo hi=w5 (fun _ m=>a4E e hh mat lo hi m) 0 e.moves:=if_pos h0
  rw [e1]
  let P:Nat->A8->Bool:=fun _ m=>a4E e hh mat lo hi m
  (refine ac Tryz.func80 ?_;(conv=>whnf);repeat ((first|refine b0x ?_|refine zy ?_);conv=>whnf))
  repeat' (first|refine zx ?_|refine qp ck ?_|refine zd ?_ ?_<;>intro h<;>try omega|fail)<;>conv=>whnf
  all_goals try omega
  refine j3 d7 (fun k=>([J,c9 .i64 hh,c9 .i64 mat,c9 .i64 lo,c9 .i64 hi,S.c (C.t (T.ptr (evT e))),J,J,J,J,J,a0K 0 (R3 P e.moves k),c9 .i64 k]++Jn 57,[x9 (R3 P e.moves k)])) e.moves.length (fun k=>True) [none] trivial
   ⟨rfl,rfl,⟨⟨rfl,rfl⟩,trivial⟩,⟨rfl,rfl,rfl,rfl,rfl,⟨rfl,rfl,rfl⟩,rfl,trivial⟩⟩ ?_
  intro k hk _
  by_cases hlt:k<e.moves.length
  ·obtain ⟨x,hx⟩:∃x,e.moves[k]? =some x:=⟨_,lbf hlt⟩
   have hmk:=V9 h0 (lbm hx)
   have h1:=a1T hmk
   obtain ⟨p,hp⟩:∃p,e.places[x.src.toNat]? =some p:=⟨_,lbf (by omega)⟩
   have ri:=a6U x.day lo hi
   have hpl:=a6G P e.moves k
   have eP:P k x=(decide (p.kind=0) && decide (p.hh=hh) && (decide (mat=-1) || decide (p.mat=mat)) && btw x.day lo hi):=by show a4E e hh mat lo hi x=_;unfold a4E;rw [hp]
   cases hP:P k x with
   |true=>
    rw [hP] at eP
    have eP:=eP.symm
    simp only [lbM,lbN,lbH] at eP
    obtain ⟨⟨⟨q1,q2⟩,q3⟩,q4⟩:=eP
    rw [q4] at ri
    conv=>whnf
    repeat' (first|refine zx ?_|refine qp ri ?_|refine qp toC ?_|refine qp toC ?_|refine i6 hx ?_|refine G7 h1.1 hp ?_|refine zz ?_|refine w6 (by simp [toC]) (by simp [toC];omega) ?_|refine zd ?_ ?_<;>intro h<;>try omega|fail)<;>conv=>whnf
    all_goals first
     |omega
     |(refine ⟨hlt,trivial,[some 2],rfl,rfl,⟨e8 rfl rfl rfl ?_ rfl,trivial⟩,⟨rfl,rfl,rfl,rfl,rfl,o8 rfl ?_,rfl,trivial⟩⟩
       ·rw [a4t P hx hP,lbB]
        exact (congrArg (fun n=>List.take n (toC ((R3 P e.moves k).map k6))++toC [[ti k]]) (by simp)).trans aV0
       ·rw [a4t P hx hP];simp [toC])
   |false=>
    rw [hP] at eP
    have eP:¬(p.kind=0∧p.hh=hh∧(mat=-1∨p.mat=mat)∧btw x.day lo hi=true):=by
     intro h
     obtain ⟨a1,a2,a3,a4⟩:=h
     rw [a4] at eP
     have:(decide (p.kind=0) && decide (p.hh=hh) && (decide (mat=-1) || decide (p.mat=mat)) && true)=true:=by
      simp [a1,a2]
      omega
     rw [← eP] at this
     cases this
    cases hb:btw x.day lo hi with
    |true=>
     rw [hb] at ri eP
     have eP2:¬(p.kind=0∧p.hh=hh∧(mat=-1∨p.mat=mat)):=fun h=>eP ⟨h.1,h.2.1,h.2.2,rfl⟩
     conv=>whnf
     repeat' (first|refine zx ?_|refine qp ri ?_|refine i6 hx ?_|refine G7 h1.1 hp ?_|refine zz ?_|refine zd ?_ ?_<;>intro h<;>try omega|fail)<;>conv=>whnf
     all_goals first
      |omega
      |(exfalso;contradiction)
      |(refine ⟨hlt,trivial,[some 0],rfl,rfl,⟨e8 rfl rfl rfl ?_ rfl,trivial⟩,⟨rfl,rfl,rfl,rfl,rfl,o8 rfl ?_,rfl,trivial⟩⟩
        ·rw [a1K P hx hP]
        ·rw [a1K P hx hP])
    |false=>
     rw [hb] at ri
     clear eP
     conv=>whnf
     repeat' (first|refine zx ?_|refine qp ri ?_|refine i6 hx ?_|refine G7 h1.1 hp ?_|refine zz ?_|refine zd ?_ ?_<;>intro h<;>try omega|fail)<;>conv=>whnf
     all_goals first
      |omega
      |(exfalso;contradiction)
      |(refine ⟨hlt,trivial,[some 0],rfl,rfl,⟨e8 rfl rfl rfl ?_ rfl,trivial⟩,⟨rfl,rfl,rfl,rfl,rfl,o8 rfl ?_,rfl,trivial⟩⟩
        ·rw [a1K P hx hP]
        ·rw [a1K P hx hP])
  ·have hk':w5 P 0 e.moves=R3 P e.moves k:=(ak0 P (by omega)).symm
   conv=>whnf
   repeat' (first|refine zx ?_|refine zd ?_ ?_<;>intro h<;>try omega|fail)<;>conv=>whnf
   all_goals first
    |omega
    |(show Fin 0 _ _ (k9 (w5 P 0 e.moves)) []
      rw [hk']
      exact L7 rfl (by intro h;cases h) rfl rfl (by simp))
 ·have e1:E7 e hh mat lo hi=[]:=if_neg h0
  rw [e1]
  (refine ac Tryz.func80 ?_;(conv=>whnf);repeat ((first|refine b0x ?_|refine zy ?_);conv=>whnf))
  repeat' (first|refine zx ?_|refine qp ck ?_|refine zd ?_ ?_<;>intro h<;>try omega|fail)<;>conv=>whnf
  all_goals first
   |omega
   |exact m9 (show a95 [] _ (.c (.t (.sl 0 .nil []))) (k9 []) from rfl)
def ac8 (t:n7) (hs:t.Sized) (hh:Int) (hl:(E7 t.ev hh (-1) 0 100000).length<=100000):ec 32 [trS t,eI hh] [] (k7 (a0C t hh)) []:=by
 have ck:=aS6 t hs;have li:=b5g t.ev hs.ev hh (-1) 0 100000;have i1:=a4Y 1 de de;by_cases hc:p6 t=0∧0<=hh∧hh<t.ev.hhs
 ·have e:a0C t hh=v4 t hh:=if_pos hc;rw [e];obtain ⟨c1,c2,c3⟩:=hc;have m1:((E7 t.ev hh (-1) 0 100000).map k6).length=(E7 t.ev hh (-1) 0 100000).length:=zq;refine ac Tryz.func32 ?_;conv=>whnf
  repeat' (first|refine zx ?_|apply zD<;>intro h<;>try omega)<;>conv=>whnf
  all_goals try omega
  refine j3 d7 (fun k=>([J,J,J,J,J,k9 (E7 t.ev hh (-1) 0 100000),S.c (C.own 0 0 k true),eI k]++Jn 34,[Q1 (a33 ((E7 t.ev hh (-1) 0 100000).take k))])) (E7 t.ev hh (-1) 0 100000).length tT [none] trivial
   ⟨rfl,rfl,rz,⟨l9 rfl,rz,e7 rfl,trivial⟩⟩ ?_
  intro k hk _;by_cases hlt:k<(E7 t.ev hh (-1) 0 100000).length
  ·obtain ⟨x,hx⟩:∃x,(E7 t.ev hh (-1) 0 100000)[k]? =some x:=⟨_,lbf hlt⟩;have lk:(a33 ((E7 t.ev hh (-1) 0 100000).take k)).length=k:=by unfold a33;rw [lbr,lbs];omega
   have lA:k<=(Q1 (a33 ((E7 t.ev hh (-1) 0 100000).take k))).rows.length:=by show k<=(toC _).length;rw [toC,lbr,lbr,lk];exact lbQ _
   conv=>whnf
   repeat' (first|refine zx ?_|refine i6 hx ?_|refine w6 lA zu ?_|apply zD<;>intro h<;>try omega)<;>conv=>whnf
   all_goals first
    |omega
    |(refine ⟨hlt,trivial,[some 1],rfl,rfl,⟨e8 (rows:=(a33 ((E7 t.ev hh (-1) 0 100000).take (k+1))).map o7) rfl rfl rfl ?_ rfl,trivial⟩,⟨rfl,⟨rfl,rfl,rfl,fun h=>h⟩,e7 om,trivial⟩⟩
      rw [aA2 hx];exact Y0 (f:=o7) (x:=(x,((1:Int):Rat))) lk.symm)
  ·have hke:k=(E7 t.ev hh (-1) 0 100000).length:=by omega
   subst hke;conv=>whnf
   repeat' (first|refine zx ?_|apply zD<;>intro h<;>try omega)<;>conv=>whnf
   all_goals first|omega|exact L7 rfl (fun h=>h) rfl (by rw [lbn (lbQ _)];rfl) (by simp [v4,a33])
 ·have e:a0C t hh=[]:=if_neg hc;rw [e];refine ac Tryz.func32 ?_;conv=>whnf
  repeat' (first|refine zx ?_|apply zD<;>intro h<;>try omega)<;>conv=>whnf
  all_goals first|omega|exact aU2
def bs6 (x:Rat) (lx:rl x<=60000):ec 164 [frS (fz x)] [] (frS (fz (-x))) []:=by
 have r1:=a9o x om;have x1:=E0 x;have n:=a57 x.num om;have e:fz (-x)=⟨bz (-x.num),bz x.den⟩:=by unfold fz;rw [af6,Rat.neg_den]
 rw [e];refine ac Tryz.func164 ?_;conv=>whnf
 repeat' (first|refine zx ?_|apply zD<;>intro<;>try omega)<;>conv=>whnf
 all_goals first|(exfalso;simp_all;done)|exact m9 rz
def a5U (l:List (Int × Rat)) (hl:l.length<=100000) (hb:∀t ∈ l,rl t.2<=200):ec 91 [k7 l] [] (k7 (w8 l)) []:=by
 have m1:(l.map o7).length=l.length:=zq;refine ac Tryz.func91 ?_;conv=>whnf
 repeat' (first|refine zx ?_|apply zD<;>intro h<;>try omega)<;>conv=>whnf
 refine j3 d7 (fun k=>([k7 l,J,J,S.c (C.own 0 0 k true),eI k]++Jn 22,[Q1 ((w8 l).take k)])) l.length tT [none] trivial
  ⟨rfl,rfl,rz,⟨rfl,rz,e7 rfl,trivial⟩⟩ ?_
 intro k hk _;by_cases hlt:k<l.length
 ·obtain ⟨t,ht⟩:∃t,l[k]? =some t:=⟨_,lbf hlt⟩;have bt:=hb t (lbm ht);have ne:=bs6 t.2 om;have en:-t.2=t.2*((-1:Int):Rat):=by
   have e1:((-1:Int):Rat)=-1:=rfl;rw [e1];grind
  rw [en] at ne;have lk:((w8 l).take k).length=k:=by rw [lbs,a0e];omega
  have lA:k<=(Q1 ((w8 l).take k)).rows.length:=by show k<=(toC _).length;simp [toC,a0e];omega
  conv=>whnf
  repeat' (first|refine zx ?_|refine i6 ht ?_|refine w6 lA zu ?_|apply zD<;>intro h<;>try omega)<;>conv=>whnf
  all_goals first
   |omega
   |(refine ⟨hlt,trivial,[some 1],rfl,rfl,⟨e8 (rows:=((w8 l).take (k+1)).map o7) rfl rfl rfl ?_ rfl,trivial⟩,⟨rfl,⟨rfl,rfl,rfl,fun h=>h⟩,e7 om,trivial⟩⟩
     rw [show (w8 l).take (k+1)=_ from a2P l _ ht];exact Y0 (f:=o7) (x:=(t.1,t.2*((-1:Int):Rat))) lk.symm)
 ·have hke:k=l.length:=by omega
  subst hke;conv=>whnf
  repeat' (first|refine zx ?_|apply zD<;>intro h<;>try omega)<;>conv=>whnf
  all_goals first|omega|exact L7 rfl (fun h=>h) rfl (by rw [lbn (by rw [a0e];exact lbQ _)]) (by simp [a0e])
def x8 (s:i8) (g:List (Int × Rat)):i8:=⟨s.n,s.rows++[⟨g,2,((0:Int):Rat)⟩]⟩
def ak8 (s:i8) (g:List (Int × Rat)) (hl:s.rows.length<=100000):ec 89 [D8 s,k7 g] [] (D8 (x8 s g)) []:=by
 have m1:(s.rows.map p4).length=s.rows.length:=zq;have i0:=a4Y 0 de de;refine ac Tryz.func89 ?_;conv=>whnf
 repeat' (first|refine zx ?_|refine a2I rfl zu ?_|refine w6 (by simp [toC,D4]) zu ?_|refine bl0 [0,1] ?_|apply zD<;>intro h<;>try omega)<;>conv=>whnf
 refine m9 ?_;refine ⟨rfl,?_,trivial⟩;show VC _ (fun id=>L9 [] id=true) (C.own 3 0 _ true) (G5 (x8 s g).rows);refine u5 (rows:=(s.rows++[(⟨g,2,((0:Int):Rat)⟩:x4)]).map p4) rfl rfl (fun h=>h) rfl ?_ ?_
 ·show List.take ([].length+(toC (s.rows.map p4)).length) (toC []++toC (s.rows.map p4))++toC [p4 ⟨g,2,((0:Int):Rat)⟩]=_;rw [lbn zt,lbB];simp [toC]
 ·simp [toC]
def b1d (l:List (Int × Rat)) (z:List Rat) (hl:l.length<=1000000) (h1:∀t ∈ l,rl t.2<=200) (h2:∀v ∈ z,rl v<=40000) (hz:z.length<=1000000) (hr:j2 (-1) z.length l=false):
 ec 157 [k7 l,n6 (z.map fz)] [] (.tup [frS C6,i9 false]) []:=by
 have m2:((z.map fz).map o4).length=z.length:=zq;have rt:=K5 l z.length hl h1;rw [lbG om,hr] at rt;have rt2:ec 160 [k7 l,eI (((z.map fz).map o4).length:Nat)] [] (i9 (true && false)) []:=by rw [m2];exact rt
 have pt:=ag8 z hz (fun v hv=>by have:=h2 v hv;omega);refine ac Tryz.func157 ?_;conv=>whnf
 repeat' (first|refine zx ?_|apply zD<;>intro<;>try omega)<;>conv=>whnf
 all_goals first|(exfalso;simp_all;done)|exact m9 rz
def a2T (s:i8) (g:List (Int × Rat)) (x:List Rat) (is:Bool):Bool:=j8 s x && (decide (0<m7 g x) == is)
def a9h (s:i8) (hb:T9 s) (hr:j6 s=true) (g:List (Int × Rat)) (hg:j2 (-1) s.n g=true) (hgb:∀t ∈ g,rl t.2<=200) (x:List Rat) (hp:PtB s x) (hS:∀k,rl (m7 (g.take k) x)<=50000) (is:Bool):
 ec 87 [D8 s,k7 g,n6 (x.map fz),i9 is] [] (i9 (a2T s g x is)) []:=by
 have hl:=hp.l;have hnn:0<=s.n∧s.n<=1500:=by
  unfold j6 at hr;simp only [lbM,lbH] at hr;exact ⟨hr.1.1.1,hr.1.1.2⟩
 have hgl:g.length<=1500:=by
  have:=s9 hg;omega
 have ho:=b9x s hb hr x hp;unfold a2T;cases hh:j8 s x with
 |true=>
  rw [hh] at ho;have hn:=(W4 hh).2;have va:=ac4 g x om hgb hp.v (fun k=>by have:=hS k;omega) hp.l (by rw [hn];exact hg);have bv:=hS g.length;rw [lbn (lbQ _)] at bv;have sg:=a4z (m7 g x) om;have sp:=a2X (x:=m7 g x);have e:decide (0<m7 g x)=decide (sgR (m7 g x) > 0):=by rw [decide_eq_decide];exact sp.symm
  rw [e];generalize sgR (m7 g x)=U at sg;clear sp e;cases is<;>
  ·refine ac Tryz.func87 ?_;conv=>whnf
   repeat' (first|refine zx ?_|refine bl0 [5] ?_|apply zD<;>intro<;>try omega)<;>conv=>whnf
   all_goals first
    |(exfalso;contradiction)
    |(have hd:decide (U > 0)=true:=lbG om
      refine d9 ?_;rw [hd];rfl)
    |(have hd:decide (U > 0)=false:=lbI om
      refine d9 ?_;rw [hd];rfl)
 |false=>
  rw [hh] at ho;cases hrt:j2 (-1) x.length g with
  |true=>
   have va:=ac4 g x om hgb hp.v (fun k=>by have:=hS k;omega) hp.l hrt;refine ac Tryz.func87 ?_;conv=>whnf
   repeat' (first|refine zx ?_|refine bl0 [5] ?_|apply zD<;>intro<;>try omega)<;>conv=>whnf
   all_goals first
    |(exfalso;contradiction)
    |exact d9 rfl
  |false=>
   have va:=b1d g x om hgb hp.v hp.l hrt;refine ac Tryz.func87 ?_;conv=>whnf
   repeat' (first|refine zx ?_|refine bl0 [5] ?_|apply zD<;>intro<;>try omega)<;>conv=>whnf
   all_goals first|(exfalso;contradiction)|exact d9 rfl
def b1F {g:List (Int × Rat)} {B:Nat} (h:∀t ∈ g,rl t.2<=B):∀t ∈ w8 g,rl t.2<=B:=by
 intro t ht;obtain ⟨u,hu,rfl⟩:=lbw.1 ht;have e:u.2*((-1:Int):Rat)=-u.2:=by
  have e1:((-1:Int):Rat)=-1:=rfl;rw [e1];grind
 show rl (u.2*((-1:Int):Rat))<=B;rw [e,Q5];exact h u hu
def b0J (s:i8) (g:List (Int × Rat)) (v:a29):Bool:=
 if v.state=2 then decide (v.wo.length=0) && a2T s g v.w true && as9 (x8 s g) v.pr
 else if v.state=0 then decide (v.w.length=0) && a2T s g v.wo false && (a23 s (w8 g) v.pr && decide (S6 s (yN v.pr)=0))
 else if v.state=1 then decide (v.pr.length=0) && a2T s g v.w true && a2T s g v.wo false
 else false
structure bp7 (s:i8) (g:List (Int × Rat)) (v:a29):Prop where
 w:PtB s v.w
 wo:PtB s v.wo
 wg:∀k,rl (m7 (g.take k) v.w)<=50000
 og:∀k,rl (m7 (g.take k) v.wo)<=50000
 y:∀x ∈ v.pr,rl x<=40000
 yl:v.pr.length<=1000000
 m1:v.pr.length=(x8 s g).rows.length->a8m (x8 s g) v.pr
 m0:v.pr.length=s.rows.length->a8m s v.pr
def a1d {s:i8} {g:List (Int × Rat)} (hr:j6 s=true) (hl:s.rows.length<6000) (hg:j2 (-1) s.n g=true):j6 (x8 s g)=true:=by
 unfold j6 at hr ⊢;simp only [lbM,lbH] at hr ⊢;refine ⟨⟨hr.1.1,by simp [x8];omega⟩,?_⟩;show (s.rows++[_]).all (u4 s.n)=true;rw [a0H,hr.2];simp [u4,hg]
def aK7 {s:i8} {g:List (Int × Rat)} (hb:T9 s) (hl:s.rows.length<6000) (hg:g.length<=100) (hgb:∀t ∈ g,rl t.2<=200):T9 (x8 s g):=by
 refine ⟨by simp [x8];omega,fun w hw=>?_⟩;rcases lby.1 hw with h|h
 ·exact hb.t w h
 ·simp at h;subst h;exact ⟨hg,hgb,by have:=rl0;show rl 0<=_;omega⟩
def b5w (t:n7) (kind:Int) (hs:t.Sized) (ht:p6 t=0) (k0:0<=kind) (k1:kind<8) (v:a29) (h0:0<=v.hh) (h1:v.hh<t.ev.hhs) (hm:t.ev.moves.length<=100) (hl:(j1 t kind).rows.length<6000)
 (hb:T9 (j1 t kind)) (hr:j6 (j1 t kind)=true) (hv:bp7 (j1 t kind) (v4 t v.hh) v):
 ec 34 [trS t,eI kind,b1n v] [] (i9 (b0J (j1 t kind) (v4 t v.hh) v)) []:=by
 have sy:=a1M t kind hs;have hc:¬(p6 t≠0∨kind<0∨8<=kind):=om;have e1:a16 t kind=0:=if_neg hc;have e2:a5N t kind=j1 t kind:=if_neg hc;rw [e1,e2] at sy;have go:=ac8 t hs v.hh (by have:=a0V (t:=t) (h:=v.hh);omega);have eg:a0C t v.hh=v4 t v.hh:=if_pos ⟨ht,h0,h1⟩;rw [eg] at go;have hgr:j2 (-1) (j1 t kind).n (v4 t v.hh)=true:=H7 t v.hh;have hgb:∀u ∈ v4 t v.hh,rl u.2<=200:=fun u hu=>by have:=E5 (N8 t v.hh) u hu;omega
 have hgl:(v4 t v.hh).length<=100:=by
  have:=s9 hgr;have:(j1 t kind).n=t.ev.moves.length:=rfl;omega
 generalize v4 t v.hh=g at go hgr hgb hgl hv;have m1:((v.w.map fz).map o4).length=v.w.length:=zq;have m2:((v.wo.map fz).map o4).length=v.wo.length:=zq;have m3:((v.pr.map fz).map o4).length=v.pr.length:=zq;have i1:=a9h _ hb hr g hgr hgb v.w hv.w hv.wg true;have i2:=a9h _ hb hr g hgr hgb v.wo hv.wo hv.og false;unfold b0J;by_cases s2:v.state=2
 ·rw [if_pos s2];have ne:=ak8 (j1 t kind) g om;have rf:=az7 (x8 (j1 t kind) g) (aK7 hb hl hgl hgb) (a1d hr hl hgr) v.pr hv.y hv.yl hv.m1;generalize a2T (j1 t kind) g v.w true=I1 at i1;generalize as9 (x8 (j1 t kind) g) v.pr=R1 at rf;cases I1<;>cases R1<;>
  ·refine ac Tryz.func34 ?_;conv=>whnf
   repeat' (first|refine zx ?_|refine bl0 [5] ?_|apply zD<;>intro h<;>try omega)<;>conv=>whnf
   all_goals first
    |omega
    |(exfalso;contradiction)
    |(have hd:decide (v.wo.length=0)=true:=lbG om
      refine d9 ?_;rw [hd];rfl)
    |(have hd:decide (v.wo.length=0)=false:=lbI om
      refine d9 ?_;rw [hd];rfl)
 rw [if_neg s2];by_cases s0:v.state=0
 ·rw [if_pos s0];have op:=a5U g om hgb;have lo:=aF7 _ hb hr (w8 g) (by rw [a0e];omega) (b1F hgb) v.pr hv.y hv.yl hv.m0;generalize a2T (j1 t kind) g v.wo false=I2 at i2;unfold a3o at lo;cases hB:a23 (j1 t kind) (w8 g) v.pr with
  |false=>
   rw [hB,if_neg de] at lo;rw [a2i,a4L];cases I2<;>
   ·refine ac Tryz.func34 ?_;conv=>whnf
    repeat' (first|refine zx ?_|refine bl0 [5] ?_|refine bl0 [8] ?_|apply zD<;>intro h<;>try omega)<;>conv=>whnf
    all_goals first
     |omega
     |(exfalso;contradiction)
     |exact d9 rfl
  |true=>
   rw [hB,if_pos rfl] at lo;rw [C2];have hl:v.pr.length=(j1 t kind).rows.length:=by
    unfold a23 a06 at hB;simp only [lbM,lbH] at hB;exact hB.1.1.1
   have b:=(hv.m0 hl).v (j1 t kind).rows.length;have b:rl (S6 (j1 t kind) (yN v.pr))<=50000:=b;have sg:=a4z (S6 (j1 t kind) (yN v.pr)) om;have sz:=a1e (x:=S6 (j1 t kind) (yN v.pr));have e:decide (S6 (j1 t kind) (yN v.pr)=0)=decide (sgR (S6 (j1 t kind) (yN v.pr))=0):=by rw [decide_eq_decide];exact sz.symm
   rw [e];generalize sgR (S6 (j1 t kind) (yN v.pr))=U at sg;clear sz e;cases I2<;>
   ·refine ac Tryz.func34 ?_;conv=>whnf
    repeat' (first|refine zx ?_|refine bl0 [5] ?_|refine bl0 [8] ?_|apply zD<;>intro h<;>try omega)<;>conv=>whnf
    all_goals first
     |omega
     |(exfalso;contradiction)
     |(refine d9 ?_
       first
        |(rw [show decide (v.w.length=0)=true from lbG om];first|rfl|(rw [show decide (U=0)=true from lbG om];rfl)|(rw [show decide (U=0)=false from lbI om];rfl))
        |(rw [show decide (v.w.length=0)=false from lbI om];rfl))
 rw [if_neg s0];by_cases s1:v.state=1
 ·rw [if_pos s1];generalize a2T (j1 t kind) g v.w true=I1 at i1;generalize a2T (j1 t kind) g v.wo false=I2 at i2;cases I1<;>cases I2<;>
  ·refine ac Tryz.func34 ?_;conv=>whnf
   repeat' (first|refine zx ?_|refine bl0 [5] ?_|apply zD<;>intro h<;>try omega)<;>conv=>whnf
   all_goals first
    |omega
    |(exfalso;contradiction)
    |(have hd:decide (v.pr.length=0)=true:=lbG om
      refine d9 ?_;rw [hd];rfl)
    |(have hd:decide (v.pr.length=0)=false:=lbI om
      refine d9 ?_;rw [hd];rfl)
 ·rw [if_neg s1];refine ac Tryz.func34 ?_;conv=>whnf
  repeat' (first|refine zx ?_|refine bl0 [5] ?_|apply zD<;>intro h<;>try omega)<;>conv=>whnf
  all_goals first|omega|(exfalso;contradiction)|exact d9 rfl
def a1Z {s:i8} {g:List (Int × Rat)} (z:List Rat):∀l:List (Int × Rat),m7 (w8 l) z=-(m7 l z):=by
 intro l;have key:∀k,k<=l.length->m7 ((w8 l).take k) z=-(m7 (l.take k) z):=by
  intro k;induction k with
  |zero=>intro _;rw [ax9,ax9];show (0:Rat)=-0;grind
  |succ k ih=>
   intro hk;have ih:=ih om;have ht:l[k]? =some l[k]:=lbf om;rw [show (w8 l).take (k+1)=_ from a2P l _ ht,I6,aE2 (show k<l.length by omega),I6,show (a1j l ((-1:Int):Rat)).take k=(w8 l).take k from rfl,ih];have e1:((-1:Int):Rat)=-1:=rfl;rw [e1];simp only;grind
 have:=key l.length (lbQ _);rwa [lbn (by rw [a0e];exact lbQ _),lbn (lbQ _)] at this
structure VdP (s:i8) (g:List (Int × Rat)):Prop where
 r:j6 s=true
 p:∀t ∈ g,0<=t.2
 z:F5 s []=.best
 g:j2 (-1) ((s.n.toNat:Nat):Int) g=true
def VdP.og {s:i8} {g:List (Int × Rat)} (h:VdP s g):j2 (-1) ((s.n.toNat:Nat):Int) (w8 g)=true:=a3w h.g
def VdP.pos {s:i8} {g:List (Int × Rat)} (h:VdP s g) {z:List Rat} (hz:j8 s z=true):0<=m7 g z:=aj8 (aB7 hz) g h.p
def VdP.least {s:i8} {g:List (Int × Rat)} (h:VdP s g):j8 s (m8 s g)=true∧∀z,j8 s z=true->m7 g (m8 s g)<=m7 g z:=a0h h.r h.g (a97 h.r h.g h.p h.z)
def VdP.has {s:i8} {g:List (Int × Rat)} (h:VdP s g):j8 s (m8 s [])=true:=(a0h h.r rfl h.z).1
def b9w {s:i8} {g:List (Int × Rat)} (c:Nat):(zOf s.n.toNat fun j=>J1 (f8 s).length s.n.toNat (o6 s []) 1 (fun _=>0) j+J1 (f8 s).length s.n.toNat (o6 s g) 0 (fun q=>if q=c then 1 else 0) j)=ab1 (m8 s []) (a4h s g c):=by
 refine a0A fun j=>?_
 unfold ab1 m8 a4h zOf;simp only [List.getElem?_zipWith,lba];by_cases hj:j<s.n.toNat
 ·simp [hj]
 ·simp [hj]
def VdP.ray {s:i8} {g:List (Int × Rat)} (h:VdP s g) {c:Nat} (hc:F5 s (w8 g)=.col c):j8 s (ab1 (m8 s []) (a4h s (w8 g) c))=true∧0<m7 g (ab1 (m8 s []) (a4h s (w8 g) c)):=by
 obtain ⟨h1,h2⟩:=a7U h.r h.og hc;refine ⟨az6 h.has h1,?_⟩;have h3:=W4 h.has;have hn:=Q9 h.r;rw [a9d (n:=s.n.toNat) om h1.len h.g];rw [a1Z (s:=s) (g:=g)] at h2;have:=h.pos h.has;grind
def aO6 {s:i8} {Y:List Rat} (h:aT1 s (yN Y)) (hl:Y.length=s.rows.length):a06 s Y=true:=by
 unfold a06;rw [lbG hl,C2,lbv];intro i hi;rw [lbA] at hi;have hx:s.rows[i]? =some s.rows[i]:=lbf hi;obtain ⟨h1,h2⟩:=h i _ hx;unfold sgB;rw [O3 hx];simp only [ar0,a4W,lbO,lbJ];refine ⟨?_,?_⟩
 ·by_cases h:s.rows[i].kind=0
  ·exact .inr (lb3.2 (h1 h))
  ·exact .inl h
 ·by_cases h:s.rows[i].kind=1
  ·exact .inr (lb3.2 (h2 h))
  ·exact .inl h
def b9e {s:i8} {g:List (Int × Rat)} {Y:List Rat} {y:Nat->Rat} {v:Rat} (hr:j6 s=true) (hg:j2 (-1) ((s.n.toNat:Nat):Int) g=true) (h:bn6 s (y5 g) y v) (hl:Y.length=s.rows.length) (hY:∀i,i<s.rows.length->yN Y i=y i):a23 s g Y=true∧S6 s (yN Y)=v:=by
 have hn:=Q9 hr;have e1:∀l,J4 s (yN Y) l=J4 s y l:=fun l=>k5 fun i hi=>by rw [hY i hi]
 have e2:S6 s (yN Y)=S6 s y:=k5 fun i hi=>by rw [hY i hi]
 refine ⟨?_,by rw [e2,h.val]⟩;unfold a23;rw [aO6 (fun i w hw=>by rw [hY i (lbe.1 hw).1];exact h.sign i w hw) hl,←hn,hg,C2,C2,lbv];intro l hl;rw [lbA] at hl;have hl:l<s.n.toNat:=om;rw [e1];exact lbG (h.mix l hl)
def b13 {n:Nat} {y:Nat->Rat} {i:Nat} (h:i<n):yN (zOf n y) i=y i:=a7Q h
def a6w {n:Nat} {y:Nat->Rat} {x:Rat} {i:Nat}:yN (zOf n y++[x]) i=if i<n then y i else if i=n then x else 0:=by
 unfold yN;rw [lbl];by_cases h:i<n
 ·rw [if_pos h,lbb (by rw [K2];exact h)];simp [zOf,h]
 ·rw [if_neg h,lbc (by rw [K2];omega),K2];by_cases h2:i=n
  ·subst h2;simp
  ·rw [if_neg h2,lbd zo];rfl
def a2L {s:i8} {g:List (Int × Rat)} {i:Nat}:A6 (x8 s g) i=if i<s.rows.length then A6 s i else if i=s.rows.length then ⟨g,2,((0:Int):Rat)⟩ else ⟨[],2,0⟩:=by
 unfold A6;rw [lbl,lbl];show ((s.rows++[_])[i]?).getD _=_;by_cases h:i<s.rows.length
 ·rw [if_pos h,lbb h]
 ·rw [if_neg h,lbc om];by_cases h2:i=s.rows.length
  ·subst h2;simp
  ·rw [if_neg h2,lbd zo];rfl
def ay7 {s:i8} {g:List (Int × Rat)} {y:Nat->Rat} (f:x4->Rat):k8 (fun i=>yN (zOf s.rows.length y++[((-1:Int):Rat)]) i*f (A6 (x8 s g) i)) (x8 s g).rows.length=k8 (fun i=>y i*f (A6 s i)) s.rows.length+-(f ⟨g,2,((0:Int):Rat)⟩):=by
 have hl:(x8 s g).rows.length=s.rows.length+1:=by simp [x8]
 rw [hl];show k8 _ s.rows.length+yN (zOf s.rows.length y++[((-1:Int):Rat)]) s.rows.length*f (A6 (x8 s g) s.rows.length)=_;rw [k5 (g:=fun i=>y i*f (A6 s i)) fun i hi=>by rw [a6w,if_pos hi,a2L,if_pos hi]];rw [a6w,if_neg om,if_pos rfl,a2L,if_neg om,if_pos rfl];have e1:((-1:Int):Rat)=-1:=rfl;rw [e1];grind
def b4p {s:i8} {g:List (Int × Rat)} {y:Nat->Rat} {v:Rat} (hr:j6 s=true) (h:bn6 s (y5 g) y v) (hv:0<v):as9 (x8 s g) (zOf s.rows.length y++[((-1:Int):Rat)])=true:=by
 have hl:(x8 s g).rows.length=s.rows.length+1:=by simp [x8]
 unfold as9 a23;have m0:S6 (x8 s g) (yN (zOf s.rows.length y++[((-1:Int):Rat)]))=v:=by
  unfold S6;rw [ay7 (f:=x4.value),←h.val];show S6 s y+-((0:Int):Rat)=_;have e1:((0:Int):Rat)=0:=rfl;rw [e1];grind
 rw [m0,lbG hv,a8P,lbM,lbM];refine ⟨⟨aO6 (fun i w hw=>?_) (by rw [hl];simp [K2]),rfl⟩,?_⟩
 ·rw [a6w];have hi:=(lbe.1 hw).1;rw [hl] at hi;by_cases h2:i<s.rows.length
  ·rw [if_pos h2];have:(x8 s g).rows[i]? =s.rows[i]?:=lbb h2;rw [this] at hw;exact h.sign i w hw
  ·have hi:i=s.rows.length:=by omega
   subst hi;have:(x8 s g).rows[s.rows.length]? =some ⟨g,2,((0:Int):Rat)⟩:=by show (s.rows++[_])[s.rows.length]? =_;simp
   rw [this] at hw;injection hw with hw;subst hw;exact ⟨fun (h:(2:Int)=0)=>om,fun (h:(2:Int)=1)=>om⟩
 ·rw [lbv];intro l hl;rw [lbA] at hl;refine lbG ?_;unfold J4;rw [ay7 (f:=fun w=>y5 w.terms l)];have:=h.mix l hl;have e0:y5 ([]:List (Int × Rat)) l=0:=rfl;show J4 s y l+-(y5 g l)<=_;rw [e0];grind
def ac5 {s:i8} {g:List (Int × Rat)} {x:List Rat} {is:Bool} (h:j8 s x=true) (h2:0<m7 g x↔is=true):a2T s g x is=true:=by
 unfold a2T;rw [h,C2,beq_iff_eq,a7m,decide_eq_true_iff];exact h2
def b0U {s:i8} {g:List (Int × Rat)} (h:VdP s g) (hh:Int):b0J s g (H9 s g hh)=true:=by
 obtain ⟨h1,h2⟩:=h.least
 have hgl:j2 (-1) ((s.n.toNat:Nat):Int) (w8 g)=true:=h.og
 unfold H9
 by_cases hp:0<m7 g (m8 s g)
 ·rw [if_pos hp]
  show (decide (([]:List Rat).length=0) && a2T s g (m8 s g) true && as9 _ _)=true
  rw [show (b6O s g hh).pr=zOf s.rows.length (D9 s (o6 s g))++[((-1:Int):Rat)] from rfl,ac5 h1 (by simp [hp]),b4p h.r (b01 h.r h.g (a97 h.r h.g h.p h.z)) hp]
  rfl
 ·rw [if_neg hp]
  have so:a2T s g (m8 s g) false=true:=ac5 h1 (by simp [hp])
  rcases aK1 (g:=w8 g) h.r h.z with ho|⟨c,ho⟩
  ·rw [ho]
   simp only
   obtain ⟨p1,p2⟩:=a0h h.r h.og ho
   by_cases hn:m7 (w8 g) (m8 s (w8 g))<0
   ·rw [if_pos hn]
    rw [a1Z (s:=s) (g:=g)] at hn
    show (decide (([]:List Rat).length=0) && a2T s g (m8 s (w8 g)) true && a2T s g (m8 s g) false)=true
    rw [so,ac5 p1 (by have:0<m7 g (m8 s (w8 g)):=by grind
                      simp [this])]
    rfl
   ·rw [if_neg hn]
    obtain ⟨b1,b2⟩:=b9e (Y:=zOf s.rows.length (D9 s (o6 s (w8 g)))) h.r h.og (b01 h.r h.og ho) K2 (fun i hi=>b13 hi)
    have hz:m7 (w8 g) (m8 s (w8 g))=0:=by
     rw [a1Z (s:=s) (g:=g)] at hn ⊢
     have:=h.pos p1
     grind
    show (decide (([]:List Rat).length=0) && a2T s g (m8 s g) false && (a23 s (w8 g) _ && decide (S6 s _=0)))=true
    rw [show (ad3 s g hh).pr=zOf s.rows.length (D9 s (o6 s (w8 g))) from rfl,so,b1,b2,hz]
    rfl
  ·rw [ho]
   simp only
   obtain ⟨r1,r2⟩:=h.ray ho
   show (decide (([]:List Rat).length=0) && a2T s g (a7q s g c hh).w true && a2T s g (m8 s g) false)=true
   rw [show (a7q s g c hh).w=ab1 (m8 s []) (a4h s (w8 g) c) from b9w c,so,ac5 r1 (by simp [r2])]
   rfl
def a21 {s:i8} {g:List (Int × Rat)} (h:VdP s g) (hh:Int):
 ((H9 s g hh).state=2∧(∀ z,j8 s z=true->0<m7 g z))∨((H9 s g hh).state=0∧(∀ z,j8 s z=true->m7 g z=0))∨((H9 s g hh).state=1∧(∃ z,j8 s z=true∧0<m7 g z)∧∃z,j8 s z=true∧m7 g z=0):=by
 obtain ⟨h1,h2⟩:=h.least;unfold H9;by_cases hp:0<m7 g (m8 s g)
 ·rw [if_pos hp];exact .inl ⟨rfl,fun z hz=>by have:=h2 z hz;grind⟩
 ·rw [if_neg hp];have hz0:m7 g (m8 s g)=0:=by have:=h.pos h1;grind
  rcases aK1 (g:=w8 g) h.r h.z with ho|⟨c,ho⟩
  ·rw [ho];simp only;obtain ⟨p1,p2⟩:=a0h h.r h.og ho;by_cases hn:m7 (w8 g) (m8 s (w8 g))<0
   ·rw [if_pos hn];rw [a1Z (s:=s) (g:=g)] at hn;exact .inr (.inr ⟨rfl,⟨_,p1,by grind⟩,⟨_,h1,hz0⟩⟩)
   ·rw [if_neg hn];refine .inr (.inl ⟨rfl,fun z hz=>?_⟩);have:=p2 z hz;rw [a1Z (s:=s) (g:=g),a1Z (s:=s) (g:=g)] at this;rw [a1Z (s:=s) (g:=g)] at hn;have:=h.pos p1;have:=h.pos hz;grind
  ·rw [ho];simp only;obtain ⟨r1,r2⟩:=h.ray ho;exact .inr (.inr ⟨rfl,⟨_,r1,r2⟩,⟨_,h1,hz0⟩⟩)
def b2G {s:i8} {g:List (Int × Rat)} (hh:Int):(H9 s g hh).hh=hh:=by
 unfold H9;split
 ·rfl
 ·split
  ·rfl
  ·split<;>rfl
def a9U (D:Fd):Fd:={ D with V:=fun _=>0 }
def a3m {m n:Nat} {D:Fd} {y:Nat->Rat} {c:Rat}:Ids m n (a9U D) y c↔Ids m n D y 0:=by
 constructor
 ·intro h i hi;have h1:y (D.O i)=c*0 - k8 (fun j=>D.A i j*y (D.F j)) n:=h i hi;show y (D.O i)=0*D.V i - k8 (fun j=>D.A i j*y (D.F j)) n;rw [h1];grind
 ·intro h i hi;have h1:y (D.O i)=0*D.V i - k8 (fun j=>D.A i j*y (D.F j)) n:=h i hi;show y (D.O i)=c*0 - k8 (fun j=>D.A i j*y (D.F j)) n;rw [h1];grind
def am2 {m n:Nat} {D:Fd} (h:R4 m n D):R4 m n (a9U D):=⟨h.oi,h.fi,h.of,h.all,h.ob,h.fb⟩
def a9H {s:i8} {g:List (Int × Rat)} {B:Nat} (hI:∀w ∈ s.rows,a5c B w):a6V (f8 s).length s.n.toNat 1 (a9U (j4 s g)) where
 o:=fun i _=>rfl
 f:=fun j _=>rfl
 w:=fun i hi=>by
  obtain ⟨f,hf⟩:∃f,(f8 s)[i]? =some f:=⟨_,lbf hi⟩;obtain ⟨x,hx,_⟩:=S9.1 (lbm hf);obtain ⟨h1,h2⟩:=hI x (lbm hx);have hfd:(f8 s).getD i (0,false)=f:=by rw [lbl,hf];rfl
  have eA:∀j,(j4 s g).A i j=O4 f.2 (y5 x.terms j):=fun j=>by show a1s s ((f8 s).getD i (0,false)) j=_;rw [hfd];unfold a1s;rw [hx]
  have hc:∀j,∃c:Int,(j4 s g).A i j=((c:Int):Rat)∧bl c<=1:=fun j=>by
   obtain ⟨c,hc,hb⟩:=a19 h1 x.terms.length j;obtain ⟨c',hc',hb'⟩:=b3a (b:=f.2) (x:=y5 x.terms j) hc;exact ⟨c',by rw [eA,hc'],om⟩
  refine ⟨1,0,fun j=>Classical.choose (hc j),de,p7 de de,p7 de de,fun j hj=>(a2d (hc j)).2,?_,fun j hj=>?_⟩
  ·have e0:((0:Int):Rat)=0:=rfl;have e1:((1:Int):Rat)=1:=rfl;show ((1:Int):Rat)*0=((0:Int):Rat);rw [e0,e1];grind
  ·show ((1:Int):Rat)*(j4 s g).A i j=((Classical.choose (hc j):Int):Rat);have hs:=(a2d (hc j)).1;generalize Classical.choose (hc j)=x at hs;rw [hs];have h1:((1:Int):Rat)=1:=rfl;rw [h1];grind
def b7Z {s:i8} {g:List (Int × Rat)} {B:Nat} (hI:∀w ∈ s.rows,a5c B w) {i j:Nat} (hi:i<(f8 s).length) (hj:j<s.n.toNat):rl ((o6 s g).A i j)<=2 ^ s.n.toNat*3:=by
 have inv:=I0 (s:=s) (g:=g);exact b2l (D:=a9U (o6 s g)) (a9H (g:=g) hI) de (am2 inv.p) (fun y c=>by rw [a3m,a3m];exact inv.i y 0) hi hj
def b2q {s:i8} {g:List (Int × Rat)} {B:Nat} (hI:∀w ∈ s.rows,a5c B w) (hg:z6 g) {j:Nat} (hj:j<s.n.toNat):rl ((o6 s g).G j)<=2 ^ s.n.toNat*3:=by
 have inv:=I0 (s:=s) (g:=g);obtain ⟨z,hz⟩:=inv.g;have hc:∀j,∃c:Int,y5 g j=((c:Int):Rat)∧bl c<=1:=fun j=>a19 hg g.length j
 have hz0:Z5 s.n.toNat (a9U (o6 s g)) (fun j=>-(y5 g j)) (f8 s).length 0:=fun y c hy=>by
  have:=hz y 0 (a3m.1 hy);rw [this];show 0*z+_=c*0+_;have e:k8 (fun j=>(a9U (o6 s g)).G j*y ((a9U (o6 s g)).F j)) s.n.toNat=k8 (fun j=>(o6 s g).G j*y ((o6 s g).F j)) s.n.toNat:=rfl;rw [e];grind
 refine b2f (D:=a9U (o6 s g)) (a9H (g:=g) hI) de (am2 inv.p) (fun y c=>by rw [a3m,a3m];exact inv.i y 0) hz0 (q:=1) (b:=fun l=>-(Classical.choose (hc l))) de (p7 de de) (fun l hl=>?_) (fun l hl=>?_) hj
 ·have:=(a2d (hc l)).2;show bl (-(Classical.choose (hc l)))<=_;rw [a4u];omega
 ·have hs:=(a2d (hc l)).1;show ((1:Int):Rat)*-(y5 g l)=((-(Classical.choose (hc l)):Int):Rat);generalize Classical.choose (hc l)=x at hs ⊢;rw [hs];have e:((-x:Int):Rat)=-((x:Int):Rat):=by push_cast;rfl
  rw [e];have h1:((1:Int):Rat)=1:=rfl;rw [h1];grind
def b0g {f:Nat->Rat} {C:Nat}:∀n:Nat,(∀ j,j<n->rl (f j)<=C)->rl (k8 f n)<=n*(C+1)+1
 |0,_=>by have:=rl0;show rl 0<=_;omega
 |n+1,h=>by
  have ih:=b0g n fun j hj=>h j om
  have h1:=h n om;have h2:=a0O (k8 f n) (f n);have e:(n+1)*(C+1)=n*(C+1)+(C+1):=by rw [R0,Nat.one_mul]
  show rl (k8 f n+f n)<=_;omega
def b8i {s:i8} {g:List (Int × Rat)} {B c:Nat} (hI:∀w ∈ s.rows,a5c B w) (hc:c<s.n.toNat) {j:Nat} (hj:j<s.n.toNat):rl (J1 (f8 s).length s.n.toNat (o6 s g) 0 (fun q=>if q=c then 1 else 0) j)<=2 ^ s.n.toNat*3:=by
 have hp:R4 (f8 s).length s.n.toNat (o6 s g):=I0.p;have h2:1<=2 ^ s.n.toNat:=Nat.one_le_two_pow;rw [← a7S hp hc hj];have key:∀k,k<=(f8 s).length->rl (ptK s.n.toNat (o6 s g).O (fun i=>-((o6 s g).A i c)) (fun j=>if (o6 s g).F c<s.n.toNat∧j=(o6 s g).F c then 1 else 0) k j)<=2 ^ s.n.toNat*3:=by
  intro k;induction k with
  |zero=>
   intro _;have:=rl0;have:=rl1;show rl (if _ then (1:Rat) else 0)<=_;split<;>omega
  |succ k ih=>
   intro hk;rw [G8];simp only;split
   ·rw [Q5];exact b7Z hI om hc
   ·exact ih om
 exact key _ (lbQ _)
def b4r {k a:Nat} (v:Rat) (c:Nat->Rat):k8 (fun i=>(if a=i then v else 0)*c i) k=if a<k then v*c a else 0:=by
 by_cases h:a<k
 ·rw [if_pos h,a56 h]
 ·rw [if_neg h];exact v5 fun i hi=>by rw [if_neg om];grind
def b4t {s:i8} {w k:Nat} (p:Rat) (c:Nat->Rat) {P C:Nat} (hp:rl p<=P) (hc:∀i,rl (c i)<=C):rl (k8 (fun i=>chg s w p i*c i) k)<=P+C+1:=by
 by_cases h:s.n.toNat<=w
 ·rw [k5 (g:=fun i=>(if (F2 s (w - s.n.toNat)).1=i then -(O4 (F2 s (w - s.n.toNat)).2 p) else 0)*c i) fun i hi=>by
   unfold chg;by_cases h2:(F2 s (w - s.n.toNat)).1=i
   ·rw [if_pos ⟨h,h2⟩,if_pos h2]
   ·rw [if_neg (fun e=>h2 e.2),if_neg h2]]
  rw [b4r];split
  ·have h1:=a39 (-(O4 (F2 s (w - s.n.toNat)).2 p)) (c (F2 s (w - s.n.toNat)).1);have h2:=hc (F2 s (w - s.n.toNat)).1;have h3:rl (-(O4 (F2 s (w - s.n.toNat)).2 p))<=P:=by
    rw [Q5];cases (F2 s (w - s.n.toNat)).2 with
    |false=>exact hp
    |true=>show rl (-p)<=P;rw [Q5];exact hp
   omega
  ·have:=rl0;omega
 ·rw [v5 fun i hi=>by unfold chg;rw [if_neg (fun e=>h e.1)];grind];have:=rl0;omega
def aj1 {s:i8} {g:List (Int × Rat)} {B C:Nat} (hI:∀w ∈ s.rows,a5c B w) (hg:z6 g) (c:Nat->Rat) (hc:∀i,rl (c i)<=C) (k:Nat):
 rl (k8 (fun i=>D9 s (o6 s g) i*c i) k)<=s.n.toNat*(2 ^ s.n.toNat*3+C+2)+1:=by
 have e:k8 (fun i=>D9 s (o6 s g) i*c i) k=k8 (fun j=>k8 (fun i=>chg s ((o6 s g).F j) (-((o6 s g).G j)) i*c i) k) s.n.toNat:=ai1 (s:=s);rw [e];exact b0g _ fun j hj=>b4t _ c (by rw [Q5];exact b2q hI hg hj) hc
def b5q {s:i8} {g:List (Int × Rat)} {B:Nat} (hI:∀w ∈ s.rows,a5c B w) (hg:z6 g) (i:Nat):rl (D9 s (o6 s g) i)<=s.n.toNat*(2 ^ s.n.toNat*3+1)+1:=by
 refine b0g _ fun j hj=>?_
 have h:=b2q (g:=g) hI hg hj;unfold chg;split
 ·rw [Q5];cases (F2 s ((o6 s g).F j - s.n.toNat)).2 with
  |false=>show rl (-((o6 s g).G j))<=_;rw [Q5];exact h
  |true=>show rl (- -((o6 s g).G j))<=_;rw [Q5,Q5];exact h
 ·have:=rl0;have h2:1<=2 ^ s.n.toNat:=Nat.one_le_two_pow;omega
def aQ2 {l:List (Int × Rat)} (h:z6 l) (v:Nat):rl (y5 l v)<=1:=by
 obtain ⟨c,hc,hb⟩:=a19 h l.length v;have e:y5 l v=((c:Int):Rat):=hc;rw [e,U9];have:=p7 (x:=1) de de;omega
def b2A {s:i8} {B:Nat} (hI:∀w ∈ s.rows,a5c B w) (hB:1<=B) (i:Nat):z6 (A6 s i).terms∧rl (A6 s i).value<=B:=by
 by_cases h:i<s.rows.length
 ·have hx:s.rows[i]? =some s.rows[i]:=lbf h;rw [O3 hx];exact hI _ (lbD _)
 ·have e:A6 s i=⟨[],2,0⟩:=by unfold A6;rw [lbl,lbd om];rfl
  rw [e];exact ⟨fun (t:Int × Rat) (ht:t ∈ [])=>by simp at ht,by have:=rl0;show rl 0<=B;omega⟩
def b5b {s:i8} {g:List (Int × Rat)} (c:Nat->Rat) (k:Nat):k8 (fun i=>yN (zOf s.rows.length (D9 s (o6 s g))) i*c i) k=k8 (fun i=>D9 s (o6 s g) i*(if i<s.rows.length then c i else 0)) k:=k5 fun i hi=>by
 by_cases h:i<s.rows.length
 ·rw [b13 h,if_pos h]
 ·have:yN (zOf s.rows.length (D9 s (o6 s g))) i=0:=by unfold yN;rw [lbl,lbd (by rw [K2];omega)];rfl
  rw [this,if_neg h];grind
def ao1:∀n,n<9->n*(2 ^ n*3+11+2)+1<=40000∧n*(2 ^ n*3+1)+1<=40000∧n*(2 ^ n*3+1+2)+1<=40000:=by decide
def b5O {s:i8} {g:List (Int × Rat)} (hI:∀w ∈ s.rows,a5c 11 w) (hg:z6 g) (hn:s.n.toNat<=8) (l k:Nat):rl (Q4 s (yN (zOf s.rows.length (D9 s (o6 s g)))) l k)<=40000:=by
 obtain ⟨p1,p2,p3⟩:=ao1 s.n.toNat om;unfold Q4;rw [b5b];have:=aj1 hI hg (C:=1) (fun i=>if i<s.rows.length then y5 (A6 s i).terms l else 0) (fun i=>by
  split
  ·exact aQ2 (b2A hI de i).1 l
  ·exact rl0) k
 omega
def b79 {s:i8} {g:List (Int × Rat)} (hI:∀w ∈ s.rows,a5c 11 w) (hg:z6 g) (hn:s.n.toNat<=8) (k:Nat):rl (Y6 s (yN (zOf s.rows.length (D9 s (o6 s g)))) k)<=40000:=by
 obtain ⟨p1,p2,p3⟩:=ao1 s.n.toNat om;unfold Y6;rw [b5b];have:=aj1 hI hg (C:=11) (fun i=>if i<s.rows.length then (A6 s i).value else 0) (fun i=>by
  split
  ·exact (b2A hI de i).2
  ·have:=rl0;omega) k
 omega
def b51 {s:i8} {g:List (Int × Rat)} (hI:∀w ∈ s.rows,a5c 11 w) (hg:z6 g) (hn:s.n.toNat<=8):∀v ∈ zOf s.rows.length (D9 s (o6 s g)),rl v<=40000:=by
 intro v hv;obtain ⟨p1,p2,p3⟩:=ao1 s.n.toNat om;obtain ⟨j,hj,rfl⟩:=a4q hv;have:=b5q hI hg j;omega
def b4a {s:i8} {g:List (Int × Rat)} (hI:∀w ∈ s.rows,a5c 11 w) (hg:z6 g) (hn:s.n.toNat<=8) (hm:s.rows.length<=1000000):a8m s (zOf s.rows.length (D9 s (o6 s g))):=
 ⟨b51 hI hg hn,fun l k=>lbR (b5O hI hg hn l k) de,fun k=>lbR (b79 hI hg hn k) de,K2,hm⟩
def ba9:rl ((-1:Int):Rat)<=1:=by rw [U9];exact p7 (x:=-1) de de
def b1q {s:i8} {g:List (Int × Rat)} (hI:∀w ∈ s.rows,a5c 11 w) (hg:z6 g) (hn:s.n.toNat<=8) (hm:s.rows.length<=100000):a8m (x8 s g) (zOf s.rows.length (D9 s (o6 s g))++[((-1:Int):Rat)]):=by
 have hl:(x8 s g).rows.length=s.rows.length+1:=by simp [x8]
 have step:∀(f:x4->Rat) (C:Nat),(∀ k,rl (k8 (fun i=>yN (zOf s.rows.length (D9 s (o6 s g))) i*f (A6 s i)) k)<=C)->rl (f ⟨g,2,((0:Int):Rat)⟩)<=1->∀k,rl (k8 (fun i=>yN (zOf s.rows.length (D9 s (o6 s g))++[((-1:Int):Rat)]) i*f (A6 (x8 s g) i)) k)<=C+3:=by
  intro f C hC h1 k;have lo:∀k,k<=s.rows.length->k8 (fun i=>yN (zOf s.rows.length (D9 s (o6 s g))++[((-1:Int):Rat)]) i*f (A6 (x8 s g) i)) k=k8 (fun i=>yN (zOf s.rows.length (D9 s (o6 s g))) i*f (A6 s i)) k:=fun k hk=>k5 fun i hi=>by
   rw [a6w,if_pos om,a2L,if_pos om,b13 om]
  induction k with
  |zero=>rw [lo 0 om];have:=hC 0;omega
  |succ k ih=>
   by_cases hk:k<s.rows.length
   ·rw [lo (k+1) om];have:=hC (k+1);omega
   ·by_cases he:k=s.rows.length
    ·subst he;show rl (k8 _ s.rows.length+yN (zOf s.rows.length (D9 s (o6 s g))++[((-1:Int):Rat)]) s.rows.length*f (A6 (x8 s g) s.rows.length))<=_;rw [lo _ (lbQ _),a6w,if_neg om,if_pos rfl,a2L,if_neg om,if_pos rfl];have a1:=hC s.rows.length;have a2:=a39 ((-1:Int):Rat) (f ⟨g,2,((0:Int):Rat)⟩);have a3:=ba9;have a4:=a0O (k8 (fun i=>yN (zOf s.rows.length (D9 s (o6 s g))) i*f (A6 s i)) s.rows.length) (((-1:Int):Rat)*f ⟨g,2,((0:Int):Rat)⟩);omega
    ·have e:yN (zOf s.rows.length (D9 s (o6 s g))++[((-1:Int):Rat)]) k=0:=by rw [a6w,if_neg hk,if_neg he]
     show rl (k8 _ k+yN (zOf s.rows.length (D9 s (o6 s g))++[((-1:Int):Rat)]) k*f (A6 (x8 s g) k))<=_;rw [e];have e2:∀x y:Rat,x+0*y=x:=fun x y=>zg
     rw [e2];exact ih
 refine ⟨fun v hv=>?_,fun l k=>?_,fun k=>?_,by rw [hl];simp [K2],om⟩
 ·rcases lby.1 hv with h1|h1
  ·exact b51 hI hg hn v h1
  ·have h1:v=((-1:Int):Rat):=aF8.1 h1;subst h1;have:=ba9;omega
 ·exact lbR (step (fun w=>y5 w.terms l) 40000 (fun k=>b5O hI hg hn l k) (aQ2 hg l) k) de
 ·exact lbR (step x4.value 40000 (fun k=>b79 hI hg hn k) rl0 k) de
def aI2 {s:i8} {x:List Rat} {B:Nat} (hr:j6 s=true) (hI:∀w ∈ s.rows,a5c 11 w) (hB:B<=40000) (hn:s.n.toNat*(B+4)+1<=50000) (hl:x.length<=1000000) (hx:∀v ∈ x,rl v<=B):PtB s x:=by
 refine ⟨fun v hv=>lbR (hx v hv) hB,fun w hw k=>?_,hl⟩;obtain ⟨i,hi,rfl⟩:=a1k hw;have hrt:=(a1A hr (lbf hi)).1;have h1:=a1U (E5 (hI _ hw).1) hx k;have h2:=s9 hrt;have h3:s.rows[i].terms.length<=s.n.toNat:=om;have h4:=lbT (B+4) h3;omega
def aY5 {n B:Nat} {g:List (Int × Rat)} {x:List Rat} (hg:j2 (-1) ((n:Nat):Int) g=true) (hw:z6 g) (hn:n*(B+4)+1<=50000) (hx:∀v ∈ x,rl v<=B) (k:Nat):rl (m7 (g.take k) x)<=50000:=by
 have h1:=a1U (E5 hw) hx k;have h2:=s9 hg;have h3:g.length<=n:=om;have h4:=lbT (B+4) h3;omega
def b9b:∀n,n<9->n*(2 ^ n*15+4)+1<=50000∧n*(2 ^ n*15+2 ^ n*3+1+4)+1<=50000∧2 ^ n*15+2 ^ n*3+1<=40000:=by decide
def bh2 {t:n7} {kind:Int} (ht:p6 t=0) (hm:t.ev.moves.length<=8) {g:List (Int × Rat)} (hg:j2 (-1) (t.ev.moves.length:Nat) g=true) (hw:z6 g) (hz:F5 (j1 t kind) []=.best) (hh:Int):bp7 (j1 t kind) g (H9 (j1 t kind) g hh):=by
 have p:=B5 (kind:=kind) ht hm hg hw;have q:=B5 (kind:=kind) ht hm (a3w hg) (a1H hw);have z:=B5 (kind:=kind) ht hm (g:=[]) rfl (fun t ht=>by cases ht);obtain ⟨b1,b2,b3⟩:=b9b t.ev.moves.length om;have hI:=b5l (kind:=kind) ht;have hn:(j1 t kind).n.toNat=t.ev.moves.length:=rfl;have hr:=p.o.r;have hR:=p.r;have pb:=a3l p;have qb:=a3l q;have zb:=a3l z;have e0:PtB (j1 t kind) []:=⟨fun v hv=>(by cases hv),fun w hw k=>(by
  have h:=a1U (B:=1) (z:=[]) (E5 (hI w hw).1) (fun v hv=>by cases hv) k;obtain ⟨i,hi,rfl⟩:=a1k hw;have h2:=s9 (a1A hr (lbf hi)).1;have h3:(j1 t kind).rows[i].terms.length<=8:=om;have h4:=lbT (1+4) h3;omega),de⟩
 have g0:∀k,rl (m7 (g.take k) [])<=50000:=fun k=>aY5 (B:=1) hg hw om (fun v hv=>by cases hv) k
 have ptp:PtB (j1 t kind) (m8 (j1 t kind) g):=aI2 hr hI (B:=2 ^ t.ev.moves.length*15) om b1 (by unfold m8;rw [K2];omega) pb;have ptq:PtB (j1 t kind) (m8 (j1 t kind) (w8 g)):=aI2 hr hI (B:=2 ^ t.ev.moves.length*15) om b1 (by unfold m8;rw [K2];omega) qb;have gp:=aY5 hg hw b1 pb;have gq:=aY5 hg hw b1 qb;have m0:a8m (j1 t kind) (zOf (j1 t kind).rows.length (D9 (j1 t kind) (o6 (j1 t kind) (w8 g)))):=b4a hI (a1H hw) om om;have m1:=b1q hI hw om (show (j1 t kind).rows.length<=100000 by omega);have hl:(x8 (j1 t kind) g).rows.length=(j1 t kind).rows.length+1:=by simp [x8]
 have nilm:∀s':i8,s'.rows.length<=1000000->([]:List Rat).length=s'.rows.length->a8m s' []:=fun s' h1 h2=>⟨fun v hv=>(by cases hv),fun l k=>(by
  have h2:s'.rows.length=0:=by simpa using h2.symm
  have e:Q4 s' (yN []) l k=0:=v5 fun i hi=>by show (0:Rat)*_=0;grind
  rw [e];have:=rl0;omega),fun k=>(by
  have e:Y6 s' (yN []) k=0:=v5 fun i hi=>by show (0:Rat)*_=0;grind
  rw [e];have:=rl0;omega),h2,h1⟩
 unfold H9;split
 ·exact ⟨ptp,e0,gp,g0,m1.y,by show (zOf _ _++_).length<=_;simp [K2];omega,fun _=>m1,fun h=>by
   have:(zOf (j1 t kind).rows.length (D9 (j1 t kind) (o6 (j1 t kind) g))++[((-1:Int):Rat)]).length=(j1 t kind).rows.length:=h;simp [K2] at this⟩
 ·split
  ·rename_i c hc;have hcn:c<(j1 t kind).n.toNat:=(a3L hc).1;have rb:∀v ∈ (a7q (j1 t kind) g c hh).w,rl v<=2 ^ t.ev.moves.length*15+2 ^ t.ev.moves.length*3+1:=fun v hv=>by
    obtain ⟨j,hj,rfl⟩:=a4q hv;have h1:rl (J1 (f8 (j1 t kind)).length (j1 t kind).n.toNat (o6 (j1 t kind) []) 1 (fun _=>0) j)<=2 ^ t.ev.moves.length*15:=zb _ (lbw.2 ⟨j,lbA.2 hj,rfl⟩);have h2:rl (J1 (f8 (j1 t kind)).length (j1 t kind).n.toNat (o6 (j1 t kind) (w8 g)) 0 (fun q=>if q=c then 1 else 0) j)<=2 ^ t.ev.moves.length*3:=b8i hI hcn hj;have h3:=a0O (J1 (f8 (j1 t kind)).length (j1 t kind).n.toNat (o6 (j1 t kind) []) 1 (fun _=>0) j) (J1 (f8 (j1 t kind)).length (j1 t kind).n.toNat (o6 (j1 t kind) (w8 g)) 0 (fun q=>if q=c then 1 else 0) j);omega
   exact ⟨aI2 hr hI b3 b2 (by show (zOf _ _).length<=_;rw [K2];omega) rb,ptp,aY5 hg hw b2 rb,gp,fun v hv=>(by cases hv),(by show (0:Nat)<=1000000;decide),fun h=>nilm _ om h,fun h=>nilm _ om h⟩
  ·split
   ·exact ⟨ptq,ptp,gq,gp,fun v hv=>(by cases hv),(by show (0:Nat)<=1000000;decide),fun h=>nilm _ om h,fun h=>nilm _ om h⟩
   ·exact ⟨e0,ptp,g0,gp,m0.y,by show (zOf _ _).length<=_;rw [K2];omega,fun h=>by
     have h:(zOf (j1 t kind).rows.length (D9 (j1 t kind) (o6 (j1 t kind) (w8 g)))).length=(x8 (j1 t kind) g).rows.length:=h;rw [K2,hl] at h;omega,fun _=>m0⟩
def aO2 {P:Program} {g:FuncId} {n:Nat} {H H':Hp} {r:S} (h1:d6 P g [.c (.t (.sl n .nul []))] H r H') (h2:d6 P g [.c (.t (.sl n .non []))] H r H'):d6 P g [.c (.t (.sl n .any []))] H r H':=by
 refine ⟨h1.1,fun w ι M vals hl hv hH hM hf=>?_⟩;have h0:=hv 0 _ rfl;have key:RS w ι M (.c (.t (.sl n .nul []))) (vals.getD 0 undef)∨RS w ι M (.c (.t (.sl n .non []))) (vals.getD 0 undef):=by
  generalize vals.getD 0 undef=v at h0;cases h0 with
  |c h=>cases h with
   |t h=>cases h with
    |@sl _ _ _ b off cap A f hrow hcap hmax hk hn hA hc hr hx=>
     cases A with
     |none=>exact .inl (.c (.t (.sl (b:=b) (off:=off) f hrow hcap hmax (fun h=>nomatch h) (fun h=>nomatch h) hA hc hr ⟨fun _=>rz,fun h=>nomatch h⟩)))
     |some a=>exact .inr (.c (.t (.sl (b:=b) (off:=off) f hrow hcap hmax (fun h=>nomatch h) (fun h=>nomatch h) hA hc hr ⟨(fun h=>nomatch h),fun _=>(fun h=>nomatch h)⟩)))
 have one:∀s,RS w ι M s (vals.getD 0 undef)->∀j s',[s][j]? =some s'->RS w ι M s' (vals.getD j undef):=fun s hs j s' hj=>by
  cases j with
  |zero=>injection hj with hj;subst hj;exact hs
  |succ j=>simp at hj
 rcases key with k|k
 ·exact h1.2 w ι M vals hl (one _ k) hH hM hf
 ·exact h2.2 w ι M vals hl (one _ k) hH hM hf
def b3T:ec 134 [.c (.t (.sl 6 .any []))] [] (.c (.own 0 0 0 true)) [a0D []]:=by
 refine aO2 ?_ ?_
 ·refine ac Tryz.func134 ?_;conv=>whnf
  repeat' (first|refine zx ?_|apply zD<;>intro h<;>try omega)<;>conv=>whnf
  all_goals exact ⟨[none],rz⟩
 ·refine ac Tryz.func134 ?_;conv=>whnf
  repeat' (first|refine zx ?_|refine a2I rfl de ?_|apply zD<;>intro h<;>try omega)<;>conv=>whnf
  all_goals exact ⟨[some 0],rfl,rfl,⟨e8 (rows:=([]:List x4).map p4) rfl rfl rfl rfl rfl,trivial⟩,⟨rfl,rfl,rfl,fun h=>h⟩⟩
def b6Q (l:List x4) (h1:l.length<=100000):ec 134 [.c (.t (G5 l))] [] (.c (.own 0 0 l.length true)) [a0D l]:=by
 have m1:(l.map p4).length=l.length:=zq;by_cases h0:l.length=0
 ·have:l=[]:=a27.1 h0;subst this;exact b3T
 have hl:0<(l.map p4).length:=om;refine ac Tryz.func134 ?_;conv=>whnf
 repeat' (first|refine zx ?_|refine ⟨hl,?_⟩|refine zz ?_|refine a2I rfl (by simp only [toC,lbr,a9Y];omega) ?_|refine w6 (H8 _) (by simp only [toC,lbr];omega) ?_|apply zD<;>intro h<;>try omega)<;>conv=>whnf
 all_goals first|omega|exact ⟨[some 0],rfl,rfl,⟨e8 (rows:=l.map p4) rfl rfl rfl rfl rfl,trivial⟩,⟨rfl,rfl,by simp [toC],fun h=>h⟩⟩
def b7U (s:i8) (g:List (Int × Rat)) (hl:s.rows.length<=100000):ec 84 [D8 s,k7 g] [] (D8 (x8 s g)) []:=by
 have m1:(s.rows.map p4).length=s.rows.length:=zq;have i0:=O7 0 de de;have cl:=fun H:Hp=>a1F (H:=H) (b6Q s.rows hl) rfl rfl (i5 _)
 refine ac Tryz.func84 ?_;conv=>whnf
 repeat' (first|refine zx ?_|refine .inl ⟨_,_,cl _,?_⟩|refine w6 zt zu ?_|refine bl0 [0,1] ?_|apply zD<;>intro h<;>try omega)<;>conv=>whnf
 all_goals first
  |(refine m9 ⟨rfl,?_,trivial⟩
    show VC _ (fun id=>L9 [] id=true) (C.own 2 0 _ true) (G5 (x8 s g).rows);refine u5 (rows:=(s.rows++[(⟨g,2,((0:Int):Rat)⟩:x4)]).map p4) rfl rfl (fun h=>h) rfl ?_ ?_
    ·exact Y0 (f:=p4) (x:=(⟨g,2,((0:Int):Rat)⟩:x4)) rfl
    ·simp [toC])
def b71:ec 56 [frS C6] [] (eI 0) []:=by
 have rr:=a87 C6 de de;have e:t7 C6=false:=zk;rw [e] at rr;refine ac Tryz.func56 ?_;conv=>whnf
 repeat' (first|refine zx ?_|apply zD<;>intro<;>try omega)<;>conv=>whnf
 all_goals exact n8 rfl
def a9x (l:List (Int × Rat)) (z:List Fr) (hl:l.length<=1000000) (h1:∀t ∈ l,rl t.2<=200) (hz:a6D z) (hr:(j2 (-1) z.length l && z.all t7)=false):
 ec 151 [k7 l,n6 z] [] (.tup [frS C6,i9 false]) []:=by
 have m2:(z.map o4).length=z.length:=zq;have rt:=N3 l z.length hl h1;rw [lbG om,C2] at rt;have rt2:ec 153 [k7 l,eI ((z.map o4).length:Nat)] [] (i9 (j2 (-1) z.length l)) []:=by rw [m2];exact rt
 have pt:=ae3 z hz.l hz.d;cases h1:j2 (-1) z.length l<;>cases h2:z.all t7<;>rw [h1] at rt2<;>rw [h2] at pt<;>
 ·first
   |(exfalso;rw [h1,h2] at hr;cases hr;done)
   |(refine ac Tryz.func151 ?_;conv=>whnf
     repeat' (first|refine zx ?_|refine qp rt2 ?_|refine qp pt ?_|refine zd ?_ ?_<;>intro h<;>try omega|fail)<;>conv=>whnf
     all_goals first|(exfalso;simp_all;done)|exact m9 rz)
def b0O (s:i8) (hb:T9 s) (hr:j6 s=true) (z:List Fr) (hz:a6D z) (h:z.all t7=false):
 ec 135 [D8 s,n6 z] [] (i9 false) []:=by
 have m2:(z.map o4).length=z.length:=zq;have l1:=hb.n0;have lr:=a3r s hb;rw [hr] at lr;have pt:=ae3 z hz.l hz.d;rw [h] at pt;refine ac Tryz.func135 ?_;conv=>whnf
 repeat' (first|refine zx ?_|apply zD<;>intro h<;>try omega)<;>conv=>whnf
 all_goals first|omega|exact d9 rfl
def inF (s:i8) (g:List (Int × Rat)) (x:List Fr) (is:Bool):Bool:=x.all t7 && a2T s g (x.map fv) is
structure PtF (s:i8) (g:List (Int × Rat)) (x:List Fr):Prop where
 r:a6D x
 p:x.all t7=true->PtB s (x.map fv)
 g:x.all t7=true->∀k,rl (m7 (g.take k) (x.map fv))<=50000
def bu0 (s:i8) (hb:T9 s) (hr:j6 s=true) (g:List (Int × Rat)) (hg:j2 (-1) s.n g=true) (hgb:∀t ∈ g,rl t.2<=200) (x:List Fr) (hp:PtF s g x) (is:Bool):
 ec 82 [D8 s,k7 g,n6 x,i9 is] [] (i9 (inF s g x is)) []:=by
 have hn:=Q9 hr;have hnn:s.n<=1500:=by
  unfold j6 at hr;simp only [lbM,lbH] at hr;exact hr.1.1.2
 have hgl:g.length<=1500:=by have:=s9 hg;omega
 have sz:=b71;unfold inF;cases hx:x.all t7 with
 |false=>
  rw [a2i];have ho:=b0O s hb hr x hp.r hx;have va:=a9x g x om hgb hp.r (by rw [hx,a4L]);refine ac Tryz.func82 ?_;conv=>whnf
  repeat' (first|refine zx ?_|refine bl0 [5] ?_|apply zD<;>intro<;>try omega)<;>conv=>whnf
  all_goals first
   |(exfalso;contradiction)
   |exact d9 rfl
 |true=>
  rw [C2];have pp:=hp.p hx;have pg:=hp.g hx;obtain ⟨X,rfl⟩:=S1 hx;rw [a4g] at pp pg ⊢;have ho:=b55 s hb hr X pp;unfold a2T;cases hh:j8 s X with
  |true=>
   rw [hh] at ho;have hnx:=(W4 hh).2;have va:=an9 g X om hgb pp.v (fun k=>by have:=pg k;omega) pp.l (by rw [hnx];exact hg);have bv:=pg g.length;rw [lbn (lbQ _)] at bv;have sg:=R6 (m7 g X) om;have sp:=a2X (x:=m7 g X);have e:decide (0<m7 g X)=decide (sgR (m7 g X) > 0):=by rw [decide_eq_decide];exact sp.symm
   rw [e];generalize sgR (m7 g X)=U at sg;clear sp e;cases is<;>
   ·refine ac Tryz.func82 ?_;conv=>whnf
    repeat' (first|refine zx ?_|refine bl0 [5] ?_|apply zD<;>intro<;>try omega)<;>conv=>whnf
    all_goals first
     |(exfalso;contradiction)
     |(have hd:decide (U > 0)=true:=lbG om
       refine d9 ?_;rw [hd];rfl)
     |(have hd:decide (U > 0)=false:=lbI om
       refine d9 ?_;rw [hd];rfl)
  |false=>
   rw [hh] at ho;cases hrt:j2 (-1) X.length g with
   |true=>
    have va:=an9 g X om hgb pp.v (fun k=>by have:=pg k;omega) pp.l hrt;refine ac Tryz.func82 ?_;conv=>whnf
    repeat' (first|refine zx ?_|refine bl0 [5] ?_|apply zD<;>intro<;>try omega)<;>conv=>whnf
    all_goals first
     |(exfalso;contradiction)
     |exact d9 rfl
   |false=>
    have va:=a9x g (X.map fz) om hgb hp.r (by rw [lbr,hrt];rfl);refine ac Tryz.func82 ?_;conv=>whnf
    repeat' (first|refine zx ?_|refine bl0 [5] ?_|apply zD<;>intro<;>try omega)<;>conv=>whnf
    all_goals first|(exfalso;contradiction)|exact d9 rfl
structure a5v where
 hh:Int
 state:Int
 w:List Fr
 wo:List Fr
 pr:List Fr
def a5v.row (v:a5v):List T:=[ti v.hh,ti v.state,O8 v.w,O8 v.wo,O8 v.pr]
abbrev a3h (v:a5v):S:=.agg (v.row.map C.t)
def a5v.val (v:a5v):a29:=⟨v.hh,v.state,v.w.map fv,v.wo.map fv,v.pr.map fv⟩
def b0F (s:i8) (y:List Fr):Bool:=(decide (y.length=s.rows.length) && y.all t7) && as9 s (y.map fv)
def b8m (s:i8) (g:List (Int × Rat)) (y:List Fr):Bool:=(decide (y.length=s.rows.length) && y.all t7) && (a23 s g (y.map fv) && decide (S6 s (yN (y.map fv))=0))
def aF1 (s:i8) (g:List (Int × Rat)) (v:a5v):Bool:=
 if v.state=2 then decide (v.wo.length=0) && inF s g v.w true && b0F (x8 s g) v.pr
 else if v.state=0 then decide (v.w.length=0) && inF s g v.wo false && b8m s (w8 g) v.pr
 else if v.state=1 then decide (v.pr.length=0) && inF s g v.w true && inF s g v.wo false
 else false
structure aP3 (s:i8) (y:List Fr):Prop where
 r:a6D y
 m:y.length=s.rows.length->y.all t7=true->a8m s (y.map fv)
def bo2 (s:i8) (hb:T9 s) (hr:j6 s=true) (hn1:s.n<=1000) (y:List Fr) (hy:aP3 s y):
 ec 83 [D8 s,n6 y] [] (i9 (b0F s y)) []:=by
 unfold b0F;cases h:(decide (y.length=s.rows.length) && y.all t7) with
 |false=>rw [a2i];exact ar9 s hb hr y hy.r h
 |true=>
  rw [C2];rw [lbM,lbH] at h;have hm:=hy.m h.1 h.2;obtain ⟨Y,rfl⟩:=S1 h.2;rw [a4g] at hm ⊢;exact b1D s hb hr hn1 Y hm.y (by have:=hm.l;have:=hm.m;omega) (fun _=>hm)
def al8 (s:i8) (g:List (Int × Rat)) (y:List Fr):S:=if (decide (y.length=s.rows.length) && y.all t7)=true then a3o s g (y.map fv) else .tup [frS C6,i9 false]
def bc9 (s:i8) (hb:T9 s) (hr:j6 s=true) (hn1:s.n<=1000) (g:List (Int × Rat)) (hg:g.length<=1000000) (hgb:∀t ∈ g,rl t.2<=200) (y:List Fr) (hy:aP3 s y):
 ec 85 [D8 s,k7 g,n6 y] [] (al8 s g y) []:=by
 unfold al8;cases h:(decide (y.length=s.rows.length) && y.all t7) with
 |false=>rw [if_neg de];exact aa4 s hb hr g y hy.r h
 |true=>
  rw [if_pos rfl];rw [lbM,lbH] at h;have hm:=hy.m h.1 h.2;obtain ⟨Y,rfl⟩:=S1 h.2;rw [a4g] at hm ⊢;exact aT8 s hb hr hn1 g hg hgb Y hm.y (by have:=hm.l;have:=hm.m;omega) (fun _=>hm)
def aa0 (s:i8) (g:List (Int × Rat)) (y:List Fr) (hy:aP3 s y):(al8 s g y=.tup [frS C6,i9 false]∧b8m s g y=false)∨∃x,rl x<=50000∧al8 s g y=.tup [frS (fz x),i9 true]∧b8m s g y=decide (x=0):=by
 unfold al8 b8m;cases h:(decide (y.length=s.rows.length) && y.all t7) with
 |false=>exact .inl ⟨by rw [if_neg de],rfl⟩
 |true=>
  rw [if_pos rfl,C2];unfold a3o;cases hB:a23 s g (y.map fv) with
  |false=>exact .inl ⟨by rw [if_neg de],rfl⟩
  |true=>
   rw [if_pos rfl,C2];rw [lbM,lbH] at h;exact .inr ⟨_,(hy.m h.1 h.2).v s.rows.length,rz⟩
structure b5T (s:i8) (g:List (Int × Rat)) (v:a5v):Prop where
 w:PtF s g v.w
 wo:PtF s g v.wo
 m1:aP3 (x8 s g) v.pr
 m0:aP3 s v.pr
def b4s (t:n7) (kind:Int) (hs:t.Sized) (ht:p6 t=0) (k0:0<=kind) (k1:kind<8) (v:a5v) (h0:0<=v.hh) (h1:v.hh<t.ev.hhs) (hm:t.ev.moves.length<=100) (hl:(j1 t kind).rows.length<6000)
 (hb:T9 (j1 t kind)) (hr:j6 (j1 t kind)=true) (hv:b5T (j1 t kind) (v4 t v.hh) v):
 ec 33 [trS t,eI kind,a3h v] [] (i9 (aF1 (j1 t kind) (v4 t v.hh) v)) []:=by
 have sy:=a5r t kind hs;have hc:¬(p6 t≠0∨kind<0∨8<=kind):=om;have e1:a16 t kind=0:=if_neg hc;have e2:a5N t kind=j1 t kind:=if_neg hc;rw [e1,e2] at sy;have go:=a8d t hs v.hh (by have:=a0V (t:=t) (h:=v.hh);omega);have eg:a0C t v.hh=v4 t v.hh:=if_pos ⟨ht,h0,h1⟩;rw [eg] at go;have hgr:j2 (-1) (j1 t kind).n (v4 t v.hh)=true:=H7 t v.hh;have hgb:∀u ∈ v4 t v.hh,rl u.2<=200:=fun u hu=>by have:=E5 (N8 t v.hh) u hu;omega
 have hsn:(j1 t kind).n=t.ev.moves.length:=rfl;have hn1:(j1 t kind).n<=1000:=om;have hgl:(v4 t v.hh).length<=100:=by
  have:=s9 hgr;omega
 generalize v4 t v.hh=g at go hgr hgb hgl hv;have m1:(v.w.map o4).length=v.w.length:=zq;have m2:(v.wo.map o4).length=v.wo.length:=zq;have m3:(v.pr.map o4).length=v.pr.length:=zq;have i1:=bu0 _ hb hr g hgr hgb v.w hv.w true;have i2:=bu0 _ hb hr g hgr hgb v.wo hv.wo false;unfold aF1;by_cases s2:v.state=2
 ·rw [if_pos s2];have ne:=b7U (j1 t kind) g om;have rf:=bo2 (x8 (j1 t kind) g) (aK7 hb hl hgl hgb) (a1d hr hl hgr) hn1 v.pr hv.m1;generalize inF (j1 t kind) g v.w true=I1 at i1;generalize b0F (x8 (j1 t kind) g) v.pr=R1 at rf;cases I1<;>cases R1<;>
  ·refine ac Tryz.func33 ?_;conv=>whnf
   repeat' (first|refine zx ?_|refine bl0 [5] ?_|apply zD<;>intro h<;>try omega)<;>conv=>whnf
   all_goals first
    |omega
    |(exfalso;contradiction)
    |(have hd:decide (v.wo.length=0)=true:=lbG om
      refine d9 ?_;rw [hd];rfl)
    |(have hd:decide (v.wo.length=0)=false:=lbI om
      refine d9 ?_;rw [hd];rfl)
 rw [if_neg s2];by_cases s0:v.state=0
 ·rw [if_pos s0];have op:=a47 g (a5B om hgr) hgb;have lo:=bc9 _ hb hr hn1 (w8 g) (by rw [a0e];omega) (b1F hgb) v.pr hv.m0;generalize inF (j1 t kind) g v.wo false=I2 at i2;rcases aa0 (j1 t kind) (w8 g) v.pr hv.m0 with ⟨e3,e4⟩|⟨x,bx,e3,e4⟩
  ·rw [e3] at lo;rw [e4,a4L];cases I2<;>
   ·refine ac Tryz.func33 ?_;conv=>whnf
    repeat' (first|refine zx ?_|refine bl0 [5] ?_|refine bl0 [8] ?_|apply zD<;>intro h<;>try omega)<;>conv=>whnf
    all_goals first|omega|(exfalso;contradiction)|exact d9 rfl
  ·rw [e3] at lo;rw [e4];have sg:=R6 x om;have sz:=a1e (x:=x);have e:decide (x=0)=decide (sgR x=0):=by rw [decide_eq_decide];exact sz.symm
   rw [e];generalize sgR x=U at sg;clear sz e;cases I2<;>
   ·refine ac Tryz.func33 ?_;conv=>whnf
    repeat' (first|refine zx ?_|refine bl0 [5] ?_|refine bl0 [8] ?_|apply zD<;>intro h<;>try omega)<;>conv=>whnf
    all_goals first
     |omega
     |(exfalso;contradiction)
     |(refine d9 ?_
       first
        |(rw [show decide (v.w.length=0)=true from lbG om];first|rfl|(rw [show decide (U=0)=true from lbG om];rfl)|(rw [show decide (U=0)=false from lbI om];rfl))
        |(rw [show decide (v.w.length=0)=false from lbI om];rfl))
 rw [if_neg s0];by_cases s1:v.state=1
 ·rw [if_pos s1];generalize inF (j1 t kind) g v.w true=I1 at i1;generalize inF (j1 t kind) g v.wo false=I2 at i2;cases I1<;>cases I2<;>
  ·refine ac Tryz.func33 ?_;conv=>whnf
   repeat' (first|refine zx ?_|refine bl0 [5] ?_|apply zD<;>intro h<;>try omega)<;>conv=>whnf
   all_goals first
    |omega
    |(exfalso;contradiction)
    |(have hd:decide (v.pr.length=0)=true:=lbG om
      refine d9 ?_;rw [hd];rfl)
    |(have hd:decide (v.pr.length=0)=false:=lbI om
      refine d9 ?_;rw [hd];rfl)
 ·rw [if_neg s1];refine ac Tryz.func33 ?_;conv=>whnf
  repeat' (first|refine zx ?_|refine bl0 [5] ?_|apply zD<;>intro h<;>try omega)<;>conv=>whnf
  all_goals first|omega|(exfalso;contradiction)|exact d9 rfl
def a9I (t:n7) (kind:Int) (hs:t.Sized) (v:a5v) (h:a16 t kind≠0∨v.hh<0∨t.ev.hhs<=v.hh):
 ec 33 [trS t,eI kind,a3h v] [] (i9 false) []:=by
 have sy:=a5r t kind hs;refine ac Tryz.func33 ?_;conv=>whnf
 repeat' (first|refine zx ?_|refine bl0 [5] ?_|apply zD<;>intro h<;>try omega)<;>conv=>whnf
 all_goals first|omega|(exfalso;contradiction)|exact d9 rfl
def J8 (f:List Z9) (c:List P1):n7:=⟨⟨1,2,0,[⟨0,0,0⟩,⟨0,1,0⟩,⟨1,-1,-1⟩,⟨6,-1,-1⟩],[⟨0,0,2,-1,0,false⟩,⟨0,1,2,-1,0,false⟩,⟨0,2,3,-1,0,true⟩],[],[],[]⟩,f,c⟩
abbrev bi0:S:=.c (.t (.sl 0 .nil []))
def b3o:ec 72 [bi0,bi0] [] (trS (J8 [] [])) []:=by
 refine ac Tryz.func72 ?_;conv=>whnf
 repeat' (first|refine zz ?_|refine a4M.weak ?_|apply zD<;>intro<;>try omega|refine zy ?_|fail)<;>conv=>whnf
 exact m9 rz
def b49 (f:List Z9):ec 72 [.c (.t (.sl 3 .full (f.map Z9.row))),bi0] [] (trS (J8 f [])) []:=by
 refine ac Tryz.func72 ?_;conv=>whnf
 repeat' (first|refine zz ?_|refine a4M.weak ?_|apply zD<;>intro<;>try omega|refine zy ?_|fail)<;>conv=>whnf
 exact m9 rz
def aB4 (f:List Z9) (c:List P1):ec 72 [.c (.t (.sl 3 .full (f.map Z9.row))),.c (.t (.sl 2 .full (c.map P1.row)))] [] (trS (J8 f c)) []:=by
 refine ac Tryz.func72 ?_;conv=>whnf
 repeat' (first|refine zz ?_|refine a4M.weak ?_|apply zD<;>intro<;>try omega|refine zy ?_|fail)<;>conv=>whnf
 exact m9 rz
structure ExP (t:n7) (kind:Int) (n:Nat):Prop where
 s:t.Sized
 e:p6 t=0
 k0:0<=kind
 k1:kind<8
 m:t.ev.moves.length<=8
 h:t.ev.hhs=(n:Nat)
 z:F5 (j1 t kind) []=.best
def ExP.vd {t:n7} {kind:Int} {n:Nat} (h:ExP t kind n) (hh:Int):VdP (j1 t kind) (v4 t hh):=by
 have p:=B5 (kind:=kind) h.e h.m (g:=[]) rfl (fun t ht=>by cases ht);exact ⟨p.o.r,a8G t hh,h.z,H7 t hh⟩
def b8n {t:n7} {kind:Int} (ht:p6 t=0) (hm:t.ev.moves.length<=8) {z:List Rat} (hz:j8 (j1 t kind) z=true):F5 (j1 t kind) []=.best:=by
 have p:=B5 (kind:=kind) ht hm (g:=[]) rfl (fun t ht=>by cases ht);rcases aD9 p.o.r with h|⟨r,h⟩
 ·exact h
 ·rw [a7Z h z] at hz;cases hz
def bm9 {t:n7} {kind:Int} (ht:p6 t=0) (hm:t.ev.moves.length<=8) (hz:∀z,j8 (j1 t kind) z=false):∃r,F5 (j1 t kind) []=.row r:=by
 have p:=B5 (kind:=kind) ht hm (g:=[]) rfl (fun t ht=>by cases ht);rcases aD9 p.o.r with h|h
 ·have:=(a0h p.o.r rfl h).1;rw [hz] at this;cases this
 ·exact h
def a9L {t:n7} {kind:Int} {n:Nat} (h:ExP t kind n) (i:Nat) (hi:i<n):ec 34 [trS t,eI kind,b1n (H9 (j1 t kind) (v4 t (i:Int)) (i:Int))] [] (i9 true) []:=by
 have p:=B5 (kind:=kind) h.e h.m (g:=[]) rfl (fun t ht=>by cases ht);have e:(H9 (j1 t kind) (v4 t (i:Int)) (i:Int)).hh=i:=b2G _;have hn:=h.h;have r:=b5w t kind h.s h.e h.k0 h.k1 (H9 (j1 t kind) (v4 t (i:Int)) (i:Int)) (by rw [e];omega) (by rw [e];omega) (by have:=h.m;omega) (by have:=p.r;omega) p.sb p.o.r
  (by rw [e];exact bh2 h.e h.m (H7 t _) (N8 t _) h.z _)
 rw [e,b0U (h.vd _)] at r;exact r
def b7c {t:n7} (h:ExP t 0 2) (a b:Int) (ha:(H9 (j1 t 0) (v4 t ((0:Nat):Int)) ((0:Nat):Int)).state=a) (hb:(H9 (j1 t 0) (v4 t ((1:Nat):Int)) ((1:Nat):Int)).state=b):
 ec 71 [trS t,eI a,eI b] [] (i9 true) []:=by
 have ve:=a6J t 0 h.s h.e h.k0 h.k1 h.m 2 h.h de h.z;have c0:=a9L h 0 de;have c1:=a9L h 1 de;have e:a0l t 0 2=[H9 (j1 t 0) (v4 t ((0:Nat):Int)) ((0:Nat):Int),H9 (j1 t 0) (v4 t ((1:Nat):Int)) ((1:Nat):Int)]:=rfl;rw [e] at ve;generalize H9 (j1 t 0) (v4 t ((0:Nat):Int)) ((0:Nat):Int)=v0 at ve c0 ha;generalize H9 (j1 t 0) (v4 t ((1:Nat):Int)) ((1:Nat):Int)=v1 at ve c1 hb;have g0:[v0,v1][0]? =some v0:=rfl;have g1:[v0,v1][1]? =some v1:=rfl;have z0:(0:Int)=((0:Nat):Int):=rfl;have z1:(1:Int)=((1:Nat):Int):=rfl;refine ac Tryz.func71 ?_;conv=>whnf
 repeat' (first|refine zx ?_|refine bl0 [5] ?_|refine y7 z0 g0 ?_|refine y7 z1 g1 ?_|apply zD<;>intro h<;>try omega)<;>conv=>whnf
 all_goals first|omega|(exfalso;contradiction)|exact d9 rfl
def a2a (f:List Z9) (c:List P1) (hf:f.length<=10) (hc:c.length<=10):(J8 f c).Sized:=⟨⟨by simp [J8],by simp [J8],by simp [J8],by simp [J8],by simp [J8]⟩,by simp [J8];omega,by simp [J8];omega⟩
def f22:List Z9:=[⟨2,0,5⟩]
def b3U:List Z9:=[⟨1,0,5⟩]
def c22:List P1:=[⟨1,0⟩]
def zI (l:LI):List Rat:=l.map fun x=>((x:Int):Rat)
def b0s {f:List Z9} {c:List P1} (hf:f.length<=10) (hc:c.length<=10) (ht:p6 (J8 f c)=0) {z:List Rat} (hz:j8 (j1 (J8 f c) 0) z=true):ExP (J8 f c) 0 2:=
 ⟨a2a f c hf hc,ht,de,de,by simp [J8],rfl,b8n ht (by simp [J8]) hz⟩
def aH5 {t:n7} {kind:Int} {n:Nat} (h:ExP t kind n) (i:Nat) {z y:List Rat} (hz:j8 (j1 t kind) z=true) (hy:j8 (j1 t kind) y=true) (h1:m7 (v4 t (i:Int)) z≠0) (h0:¬0<m7 (v4 t (i:Int)) y):(H9 (j1 t kind) (v4 t (i:Int)) (i:Int)).state=1:=by
 rcases a21 (h.vd (i:Int)) (i:Int) with ⟨_,h2⟩|⟨_,h2⟩|⟨h2,_⟩
 ·exact absurd (h2 y hy) h0
 ·exact absurd (h2 z hz) h1
 ·exact h2
def b2E {t:n7} {kind:Int} {n:Nat} (h:ExP t kind n) (i:Nat) (hA:∀z,j8 (j1 t kind) z=true->0<m7 (v4 t (i:Int)) z):(H9 (j1 t kind) (v4 t (i:Int)) (i:Int)).state=2:=by
 rcases a21 (h.vd (i:Int)) (i:Int) with ⟨h2,_⟩|⟨_,h2⟩|⟨_,_,y,h3,h4⟩
 ·exact h2
 ·have h3:=(h.vd (i:Int)).has;have:=hA _ h3;rw [h2 _ h3] at this;exact absurd this zk
 ·have:=hA _ h3;rw [h4] at this;exact absurd this zk
def b6v {t:n7} {kind:Int} {n:Nat} (h:ExP t kind n) (i:Nat) (hA:∀z,j8 (j1 t kind) z=true->m7 (v4 t (i:Int)) z=0):(H9 (j1 t kind) (v4 t (i:Int)) (i:Int)).state=0:=by
 rcases a21 (h.vd (i:Int)) (i:Int) with ⟨_,h2⟩|⟨h2,_⟩|⟨_,⟨y,h3,h4⟩,_⟩
 ·have h3:=(h.vd (i:Int)).has;have:=h2 _ h3;rw [hA _ h3] at this;exact absurd this zk
 ·exact h2
 ·rw [hA _ h3] at h4;exact absurd h4 zk
def b4x:ExP (J8 f22 []) 0 2:=b0s de de zk (z:=zI [5,0,5]) zk
def b7j:ExP (J8 f22 c22) 0 2:=b0s de de zk (z:=zI [5,0,5]) zk
def b4w:ExP (J8 [] []) 0 2:=b0s de de zk (z:=zI [1,0,1]) zk
def bo6:(H9 (j1 (J8 f22 []) 0) (v4 (J8 f22 []) ((0:Nat):Int)) ((0:Nat):Int)).state=1:=aH5 b4x 0 (z:=zI [5,0,5]) (y:=zI [0,5,5]) zk zk zk zk
def bp4:(H9 (j1 (J8 f22 []) 0) (v4 (J8 f22 []) ((1:Nat):Int)) ((1:Nat):Int)).state=1:=aH5 b4x 1 (z:=zI [0,5,5]) (y:=zI [5,0,5]) zk zk zk zk
def bq8:(H9 (j1 (J8 [] []) 0) (v4 (J8 [] []) ((0:Nat):Int)) ((0:Nat):Int)).state=1:=aH5 b4w 0 (z:=zI [5,0,5]) (y:=zI [0,5,5]) zk zk zk zk
def bu3:(H9 (j1 (J8 [] []) 0) (v4 (J8 [] []) ((1:Nat):Int)) ((1:Nat):Int)).state=1:=aH5 b4w 1 (z:=zI [0,5,5]) (y:=zI [5,0,5]) zk zk zk zk
def ba5 {z:List Rat} (h:z.length=3):∃a b c,z=[a,b,c]:=by
 match z,h with
 |[a,b,c],_=>exact ⟨a,b,c,rfl⟩
instance decRow:DecidableEq x4:=fun a b=>decidable_of_iff (a.terms=b.terms∧a.kind=b.kind∧a.value=b.value) ⟨fun ⟨h1,h2,h3⟩=>by cases a;cases b;simp_all,fun h=>by subst h;exact ⟨rfl,rfl,rfl⟩⟩
instance decSys:DecidableEq i8:=fun a b=>decidable_of_iff (a.n=b.n∧a.rows=b.rows) ⟨fun ⟨h1,h2⟩=>by cases a;cases b;simp_all,fun h=>by subst h;exact ⟨rfl,rfl⟩⟩
abbrev a4A:Rat:=((1:Int):Rat)
def ac7:List x4:=[⟨[((1:Int),a4A)],2,((0:Int):Rat)⟩,⟨[((0:Int),a4A),((1:Int),a4A),((2:Int),((-1:Int):Rat))],2,((0:Int):Rat)⟩,⟨[((2:Int),a4A)],0,((5:Int):Rat)⟩]
def aH8:List x4:=[⟨[((1:Int),a4A)],0,((5:Int):Rat)⟩,⟨[((1:Int),a4A)],2,((0:Int):Rat)⟩,⟨[((0:Int),a4A),((1:Int),a4A),((2:Int),((-1:Int):Rat))],2,((0:Int):Rat)⟩]
def bc5:j1 (J8 f22 c22) 0=⟨3,ac7⟩:=by decide +kernel
def bj7:j1 (J8 b3U c22) 0=⟨3,aH8⟩:=by decide +kernel
def b1T {z:List Rat} (hz:j8 (j1 (J8 f22 c22) 0) z=true):∃a b c,z=[a,b,c]∧0+a4A*b=0∧0+a4A*a+a4A*b+((-1:Int):Rat)*c=0∧5<=0+a4A*c:=by
 rw [bc5] at hz;obtain ⟨h1,h2,h3,h4⟩:=T5.1 hz;have h2:(z.length:Int)=3:=h2;obtain ⟨a,b,c,rfl⟩:=ba5 (by omega:z.length=3);have r1:=h4 _ (show _ ∈ ac7 from .head _);have r2:=h4 _ (show _ ∈ ac7 from .tail _ (.head _));have r3:=h4 _ (show _ ∈ ac7 from .tail _ (.tail _ (.head _)));refine ⟨a,b,c,rfl,?_,?_,?_⟩
 ·have x:=r1.1 de;have y:=r1.2 de;exact Rat.le_antisymm y x
 ·have x:=r2.1 de;have y:=r2.2 de;exact Rat.le_antisymm y x
 ·exact r3.1 de
def b9U {z:List Rat}:j8 (j1 (J8 b3U c22) 0) z=false:=by
 cases hz:j8 (j1 (J8 b3U c22) 0) z with
 |false=>rfl
 |true=>
  rw [bj7] at hz;obtain ⟨h1,h2,h3,h4⟩:=T5.1 hz;have h2:(z.length:Int)=3:=h2;obtain ⟨a,b,c,rfl⟩:=ba5 (by omega:z.length=3);have r1:=h4 _ (show _ ∈ aH8 from .head _);have r2:=h4 _ (show _ ∈ aH8 from .tail _ (.head _));have x:(5:Rat)<=0+a4A*b:=r1.1 de;have y:0+a4A*b<=(0:Rat):=r2.2 de;have:(5:Rat)<=0:=Rat.le_trans x y;exact absurd this zk
def b4K (f:List Z9) (c:List P1):v4 (J8 f c) ((0:Nat):Int)=[((0:Int),a4A)]:=by
 show a33 (E7 (J8 [] []).ev _ _ _ _)=_
 decide +kernel
def b5L (f:List Z9) (c:List P1):v4 (J8 f c) ((1:Nat):Int)=[((1:Int),a4A)]:=by
 show a33 (E7 (J8 [] []).ev _ _ _ _)=_
 decide +kernel
def bs9:(H9 (j1 (J8 f22 c22) 0) (v4 (J8 f22 c22) ((0:Nat):Int)) ((0:Nat):Int)).state=2:=b2E b7j 0 fun z hz=>by
 obtain ⟨a,b,c,rfl,h1,h2,h3⟩:=b1T hz;rw [b4K];show 0<0+a4A*a;have e1:a4A=1:=rfl;have e2:((-1:Int):Rat)=-1:=rfl;rw [e1] at *;rw [e2] at h2;grind
def bp6:(H9 (j1 (J8 f22 c22) 0) (v4 (J8 f22 c22) ((1:Nat):Int)) ((1:Nat):Int)).state=0:=b6v b7j 1 fun z hz=>by
 obtain ⟨a,b,c,rfl,h1,h2,h3⟩:=b1T hz;rw [b5L];exact h1
def aW3:ec 25 [] [] (i9 true) []:=by
 have e1:=b49 f22;have e2:=aB4 f22 c22;have e3:=b3o;have e4:=aB4 b3U c22;have r1:=b7c b4x 1 1 bo6 bp4;have r2:=b7c b7j 2 0 bs9 bp6;have r3:=b7c b4w 1 1 bq8 bu3;have tD:p6 (J8 b3U c22)=0:=zk;obtain ⟨r,hr⟩:=bm9 (kind:=0) tD (by simp [J8]) (fun z=>b9U);have v1:=a3f (J8 b3U c22) 0 (a2a _ _ de de) tD de de (by simp [J8]) r hr;have v2:=a5l (J8 [] []) 8 (a2a _ _ de de) zk;have g1:=a8d (J8 [] []) (a2a _ _ de de) 1 zk;have g2:=a8d (J8 [] []) (a2a _ _ de de) 2 zk;have x1:a0C (J8 [] []) 1=[((1:Int),a4A)]:=zk;have x2:a0C (J8 [] []) 2=[]:=zk;rw [x1] at g1;rw [x2] at g2;refine ac Tryz.func25 ?_;conv=>whnf
 repeat' (first|refine zx ?_|refine bl0 [5] ?_|apply zD<;>intro<;>try omega)<;>conv=>whnf
 all_goals first|omega|(exfalso;contradiction)|exact d9 rfl
def a7R (e:Ev) (m k:Int):Bool:=decide (e.mats<=k) && decide (e.hhs<=6) && decide (e.scs<=6) && decide (e.places.length<=12) && decide ((e.moves.length:Int)<=m) && decide (e.certs.length<=10) && decide (e.recalls.length<=4) && decide (e.purities.length<=6)
def b4z (e:Ev) (m k:Int):ec 73 [evS e,eI m,eI k] [] (i9 (a7R e m k)) []:=by
 have m1:(e.places.map X4.row).length=e.places.length:=zq;have m2:(e.moves.map A8.row).length=e.moves.length:=zq;have m3:(e.certs.map L8.row).length=e.certs.length:=zq;have m4:(e.recalls.map E9.row).length=e.recalls.length:=zq;have m5:(e.purities.map a1o.row).length=e.purities.length:=zq;refine ac Tryz.func73 ?_;conv=>whnf
 repeat' (first|refine zx ?_|apply zD<;>intro<;>try omega)<;>conv=>whnf
 all_goals
  refine d9 ?_;unfold a7R;simp only [m1,m2,m3,m4,m5] at *;first|(symm;simp only [lbM,lbH];omega)|(symm;rw [← lbP];simp only [lbM,lbH];omega)
def a8w (t:n7) (m:Int):Bool:=a7R t.ev m 3 && decide (t.ev.hhs<=4) && decide (t.finds.length<=6) && decide (t.cleans.length<=6)
def b6y (t:n7) (m:Int):ec 26 [trS t,eI m] [] (i9 (a8w t m)) []:=by
 have r:=b4z t.ev m 3;have m1:(t.finds.map Z9.row).length=t.finds.length:=zq;have m2:(t.cleans.map P1.row).length=t.cleans.length:=zq;unfold a8w;cases hq:a7R t.ev m 3<;>rw [hq] at r<;>
 ·refine ac Tryz.func26 ?_;conv=>whnf
  repeat' (first|refine zx ?_|apply zD<;>intro<;>try omega)<;>conv=>whnf
  all_goals
   refine d9 ?_;simp only [m1,m2] at *;first|rfl|(symm;simp only [C2,lbM,lbH];omega)|(symm;rw [← lbP];simp only [lbM,lbH];omega)
def au1 {t:n7} {m:Int} (hm:m<=100) (h:a8w t m=true):t.Sized∧(t.ev.moves.length:Int)<=m∧t.ev.hhs<=4:=by
 unfold a8w a7R at h;simp only [lbM,lbH] at h;exact ⟨⟨⟨om,om,om,om,om⟩,om,om⟩,om,om⟩
def a1t (z:List Fr) (n:Nat) (d:Int):Bool:=(z.take (n+1)).all (b08 d) && decide (z.length<=n)
def a7j (z:List Fr) (n:Nat) (d:Int) (hn:n<=1000):ec 49 [n6 z,eI n,eI d] [] (i9 (a1t z n d)) []:=by
 have m1:(z.map o4).length=z.length:=zq;refine ac Tryz.func49 ?_;conv=>whnf
 repeat' (first|refine zx ?_|apply zD<;>intro h<;>try omega)<;>conv=>whnf
 refine j3 d7 (fun k=>([n6 z,eI n,eI d,J,J,J,J,eI k]++Jn 22,[])) (n+1) (fun k=>k<=z.length∧(z.take k).all (b08 d)=true) [] ⟨H8 _,rfl⟩
  rz ?_
 rintro k hk ⟨hle,hI⟩;by_cases hlt:k<z.length∧k<n+1
 ·obtain ⟨f,hf⟩:∃f,z[k]? =some f:=⟨_,lbf hlt.1⟩;have hf2:(z.take (n+1))[k]? =some f:=by rw [lbi,if_pos hlt.2];exact hf
  have r:=bd4 f d;cases hff:b08 d f with
  |true=>
   rw [hff] at r;conv=>whnf
   repeat' (first|refine zx ?_|refine i6 hf ?_|apply zD<;>intro h<;>try omega)<;>conv=>whnf
   all_goals first
    |omega
    |exact ⟨hlt.2,⟨om,by rw [t5 hf,hI,hff];rfl⟩,[],rz⟩
  |false=>
   rw [hff] at r;have e1:a1t z n d=false:=by unfold a1t;rw [x7 hf2 hff];rfl
   rw [e1];conv=>whnf
   repeat' (first|refine zx ?_|refine i6 hf ?_|apply zD<;>intro h<;>try omega)<;>conv=>whnf
   all_goals first|omega|exact d9 rfl
 ·have hk2:z.length=k∨k=n+1:=by omega
  have hall:(z.take (n+1)).all (b08 d)=true:=by
   rcases hk2 with h|h
   ·have e:z.take (n+1)=z.take k:=by rw [lbn om,lbn om]
    rw [e];exact hI
   ·rw [← h];exact hI
  conv=>whnf
  repeat' (first|refine zx ?_|apply zD<;>intro h<;>try omega)<;>conv=>whnf
  all_goals first|omega|(refine d9 ?_;unfold a1t;rw [hall];simp;omega)
def a9F {z:List Fr} {n:Nat} {d:Int} (h:a1t z n d=true):z.length<=n∧∀f ∈ z,(f.p.dl.length:Int)<=d∧(f.q.dl.length:Int)<=d:=by
 unfold a1t at h;simp only [lbM,lbH] at h;obtain ⟨h1,h2⟩:=h;rw [lbn om,lbv] at h1;refine ⟨h2,fun f hf=>?_⟩;have:=h1 f hf;unfold b08 at this;simp only [lbM,lbH] at this;exact this
noncomputable def a2J (t:n7) (kind:Int) (i:Nat):Int:=(H9 (j1 t kind) (v4 t (i:Int)) (i:Int)).state
def b8J {t:n7} {kind:Int} (hs:t.Sized) (ht:p6 t=0) (hm:t.ev.moves.length<=8) (hh:t.ev.hhs<=4):
 (a16 t kind≠0)∨(∃ r,0<=kind∧kind<8∧F5 (j1 t kind) []=.row r)∨∃n,ExP t kind n∧n<=4:=by
 by_cases hk:0<=kind∧kind<8
 ·have p:=B5 (kind:=kind) ht hm (g:=[]) rfl (fun t ht=>by cases ht);have hh0:=(a7d (G3 ht).1).2.2.1;rcases aD9 p.o.r with h|⟨r,h⟩
  ·exact .inr (.inr ⟨t.ev.hhs.toNat,⟨hs,ht,hk.1,hk.2,hm,om,h⟩,om⟩)
  ·exact .inr (.inl ⟨r,hk.1,hk.2,h⟩)
 ·refine .inl ?_;unfold a16;rw [if_pos om]
  decide
end Go.Proofs.YtikokmdpigploaaGreat
