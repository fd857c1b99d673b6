/- Part 16. -/
import Derived.Test.YtikokmdpigploaaGreatQk15
namespace Go.Proofs.YtikokmdpigploaaGreat
set_option linter.all false
set_option maxRecDepth 100000
set_option maxHeartbeats 8000000
open Go.RowKit
open St1 St2 St3 St4 St5 St6 St7 St8 StA StB StC
noncomputable def a7o (t:j6) (kind:Int) (i:Nat):List T:=[ti i,a8E (isA t kind i),z4 ((a7p t kind i).map fz)]
noncomputable abbrev bH7 (t:j6) (kind:Int) (l:List Nat):T:=.sl 3 .any (l.map (a7o t kind))
noncomputable abbrev aK3 (t:j6) (kind:Int) (l:List Nat):S:=.c (.t (bH7 t kind l))
noncomputable abbrev bC7 (t:j6) (kind:Int) (l:List Nat):Blk:={ mode:=.live,elem:=137,size:=3,rows:=toC (l.map (a7o t kind)),box:=false }
noncomputable def a9m (t:j6) (kind:Int) (mv k:Nat):List Nat:=((n6 t.ev).take k).filter fun i=>(isA t kind i).getD mv false
def b4R {t:j6} {kind:Int} {mv k i:Nat} (h:(n6 t.ev)[k]? =some i):a9m t kind mv (k+1)=if (isA t kind i).getD mv false=true then a9m t kind mv k++[i] else a9m t kind mv k:=by
 unfold a9m;have e:(n6 t.ev).take (k+1)=(n6 t.ev).take k++[i]:=by rw [lbH,h];rfl
 rw [e,lb9];by_cases hj:(isA t kind i).getD mv false=true
 ·rw [if_pos hj];simp [lbl] at hj ⊢;rw [hj]
 ·rw [if_neg hj];simp [lbl] at hj ⊢;rw [hj]
def b6Y (t:j6) (kind:Int) (mv k:Nat):(a9m t kind mv k).length<=(n6 t.ev).length:=by
 unfold a9m;exact lbT (lbt _ _) (by rw [lbs];omega)
def b68 (t:j6) (kind:Int) (mv:Nat):a9m t kind mv (n6 t.ev).length=R7 t kind mv:=by
 unfold a9m R7;rw [lbn (lbS _)]
def a9u (t:j6) (hs:t.Sized) (h:QT t) (find:Int) (f:P5) (f0:0<=find) (hf:t.finds[find.toNat]? =some f):
 ec 109 [trS t,eI find] [] (aK3 t f.kind (R7 t f.kind f.mv.toNat)) []:=by
 obtain ⟨q1,q2,q3,q4,q5⟩:=v3 h.h;have hg:=I0 q4 f (lbm hf);have hm:=h.m;have hp:=h.p;have m1:((Q3 t.ev).map j0).length=(n6 t.ev).length:=by rw [lbr,a2O]
 have ll:(n6 t.ev).length<=t.ev.moves.length:=B1 _;have li:=ai1 t.ev hs.ev q1;have go:=bb4 t.ev hs.ev om om
 (refine ac Tryz.func109 ?_;(conv=>whnf);repeat ((first|refine b0x ?_|refine zy ?_);conv=>whnf))
 repeat' (first|refine zx ?_|apply zD<;>intro h<;>try omega)<;>conv=>whnf
 refine i7 d9 (fun k=>([J,eI find,S.c (C.t (T.ptr (trT t))),J,J,S.c (C.own 0 0 (a9m t f.kind f.mv.toNat k).length true),j3 (Q3 t.ev),X0 (v4 t.ev)]++Jn 10++[j3 (Q3 t.ev),eI (n6 t.ev).length,eI k]++Jn 31,[bC7 t f.kind (a9m t f.kind f.mv.toNat k)])) (n6 t.ev).length tT [none] trivial
  ⟨rfl,rfl,rz,⟨rfl,rfl,rz,rfl,rfl,rfl,d7 (by simp [m1]),rz⟩⟩ ?_
 intro k hk _;have l2:=b6Y t f.kind f.mv.toNat k;by_cases hlt:k<(n6 t.ev).length
 ·obtain ⟨i,hi⟩:∃i,(n6 t.ev)[k]? =some i:=⟨_,lbf hlt⟩;have hii:=a7Q hi;have al:=aL2 t hs h.h find f f0 hf i om;have il:i<t.ev.moves.length:=by
   obtain ⟨m,hm,_⟩:=a0h.1 (lbm hi);exact (lbe.1 hm).1
  have re:=b4K (u4 t f.kind i) (v4 t.ev) (J1 i h om om om);have lA:(a9m t f.kind f.mv.toNat k).length<=(bC7 t f.kind (a9m t f.kind f.mv.toNat k)).rows.length:=by show _<=(toC _).length;simp [toC]
  have iA:=aP1 t f.kind i;obtain ⟨b,hb⟩:∃b,(isA t f.kind i)[f.mv.toNat]? =some b:=⟨_,lbf om⟩;have hbd:(isA t f.kind i).getD f.mv.toNat false=b:=by rw [lbl,hb];rfl
  have eA:isF (u4 t f.kind i) (v4 t.ev)=isA t f.kind i:=rfl;have eW:ap2 (u4 t f.kind i) (v4 t.ev)=a7p t f.kind i:=rfl;rw [eA,eW] at re;have gb:∀{K:List T->Prop},K [tb b]->∃row,0<=f.mv∧((isA t f.kind i).map V9)[f.mv.toNat]? =some row∧K row:=fun hK=>x5 (f:=V9) hg.1 hb hK
  rw [b4R hi,hbd];cases b with
  |true=>
   rw [if_pos rfl];conv=>whnf
   repeat' (first|refine zx ?_|refine f7 hii ?_|refine x5 f0 hf ?_|refine gb ?_|refine o6 lA zu ?_|apply zD<;>intro h<;>try omega)<;>conv=>whnf
   all_goals first
    |omega
    |(refine ⟨hlt,trivial,[some 1],rfl,rfl,⟨d8 (rows:=(a9m t f.kind f.mv.toNat k++[i]).map (a7o t f.kind)) rfl rfl rfl ?_ rfl,trivial⟩,⟨rfl,rfl,⟨rfl,rfl,?_,fun h=>h⟩,rfl,rfl,rfl,rfl,d7 om,trivial⟩⟩
      ·exact u6 (f:=a7o t f.kind) (x:=i) rfl
      ·simp [toC])
  |false=>
   rw [if_neg de];conv=>whnf
   repeat' (first|refine zx ?_|refine f7 hii ?_|refine x5 f0 hf ?_|refine gb ?_|apply zD<;>intro h<;>try omega)<;>conv=>whnf
   all_goals first|omega|exact ⟨hlt,trivial,[some 0],rfl,rfl,⟨f5 (e7 _),trivial⟩,⟨rfl,rfl,⟨rfl,rfl,rfl,fun h=>h⟩,rfl,rfl,rfl,rfl,d7 om,trivial⟩⟩
 ·have hke:k=(n6 t.ev).length:=by omega
  subst hke;rw [b68];conv=>whnf
  repeat' (first|refine zx ?_|apply zD<;>intro h<;>try omega)<;>conv=>whnf
  all_goals first|omega|exact I4 rfl (fun h=>h) rfl rfl zq
def a1w {t:j6} (h:QT t) {find:Int} {f:P5} (f0:0<=find) (hf:t.finds[find.toNat]? =some f):a00 t find=true:=by
 have hl:=(lbe.1 hf).1;unfold a00;rw [lbI h.h,lbI f0,lbI om];rfl
def D6 (l:List Nat):LI:=l.map fun i:Nat=>(i:Int)
def a03 (l:List Nat):(D6 l).length=l.length:=by simp [D6]
def b4N {l:List Nat} {k i:Nat} (h:l[k]? =some i):D6 (l.take (k+1))=D6 (l.take k)++[(i:Int)]:=by
 unfold D6;rw [lbH,h];simp
def a79 (t:j6) (hs:t.Sized) (find:Int) (h:a00 t find=false):ec 43 [trS t,eI find] [] (.tup [.c (.t (.sl 0 .nil [])),eI 1]) []:=by
 have fi:=a54 t hs find;rw [h] at fi;refine ac Tryz.func43 ?_;conv=>whnf
 repeat' (first|refine zx ?_|apply zD<;>intro h<;>try omega)<;>conv=>whnf
 all_goals first|omega|exact n9 rz
def a6S (t:j6) (hs:t.Sized) (h:QT t) (find:Int) (f:P5) (f0:0<=find) (hf:t.finds[find.toNat]? =some f):
 ec 43 [trS t,eI find] [] (.tup [j3 (D6 (R7 t f.kind f.mv.toNat)),eI 0]) []:=by
 have fi:=a54 t hs find;rw [a1w h f0 hf] at fi;have re:=a9u t hs h find f f0 hf;have hm:=h.m;have rl2:(R7 t f.kind f.mv.toNat).length<=t.ev.moves.length:=lbT (lbt _ _) (B1 _);have m1:((R7 t f.kind f.mv.toNat).map (a7o t f.kind)).length=(R7 t f.kind f.mv.toNat).length:=zq;generalize R7 t f.kind f.mv.toNat=l at re m1 rl2;refine ac Tryz.func43 ?_;conv=>whnf
 repeat' (first|refine zx ?_|apply zD<;>intro h<;>try omega)<;>conv=>whnf
 refine i7 d9 (fun k=>(Jn 6++[S.c (C.own 0 0 (D6 (l.take k)).length true),J,J,J,J,J,J,J,J,aK3 t f.kind l,eI l.length,eI k]++Jn 10,[o8 (D6 (l.take k))])) l.length tT [none] trivial
  ⟨rfl,rfl,rz,⟨rz,rfl,d7 zq,rz⟩⟩ ?_
 intro k hk _;have lN:=a03 (l.take k);have lT:(l.take k).length=k:=by rw [lbs];omega
 have lA:(D6 (l.take k)).length<=(o8 (D6 (l.take k))).rows.length:=by show _<=(toC _).length;simp [toC]
 by_cases hlt:k<l.length
 ·obtain ⟨i,hi⟩:∃i,l[k]? =some i:=⟨_,lbf hlt⟩;rw [b4N hi];conv=>whnf
  repeat' (first|refine zx ?_|refine f7 hi ?_|refine o6 lA zu ?_|apply zD<;>intro h<;>try omega)<;>conv=>whnf
  all_goals first
   |omega
   |(refine ⟨hlt,trivial,[some 2],rfl,rfl,⟨d8 (rows:=(D6 (l.take k)++[(i:Int)]).map j0) rfl rfl rfl ?_ rfl,trivial⟩,⟨⟨rfl,rfl,?_,fun h=>h⟩,rfl,rfl,d7 om,trivial⟩⟩
     ·exact u6 (f:=j0) (x:=(i:Int)) rfl
     ·simp [toC])
 ·have hke:k=l.length:=by omega
  subst hke;rw [lbn (lbS _)] at *;conv=>whnf
  repeat' (first|refine zx ?_|apply zD<;>intro h<;>try omega)<;>conv=>whnf
  all_goals first|omega|exact n9 ⟨(show VC _ (fun id=>G8 [] id=true) (C.own 0 0 _ true) _ from s6 (k:=o8 (D6 l)) rfl rfl (fun h=>h) rfl rfl zq),rz⟩
def a9a (t:j6) (find mv:Int):Bool:=a00 t find && decide (0<=mv) && decide (mv<t.ev.moves.length)
def aX9 (t:j6) (hs:t.Sized) (find mv:Int):ec 170 [trS t,eI find,eI mv] [] (j8 (a9a t find mv)) []:=by
 have fi:=a54 t hs find;have m1:(t.ev.moves.map A8.row).length=t.ev.moves.length:=zq;unfold a9a;cases hb:a00 t find with
 |true=>
  rw [hb] at fi;rw [H9];refine ac Tryz.func170 ?_;conv=>whnf
  repeat' (first|refine zx ?_|apply zD<;>intro<;>try omega)<;>conv=>whnf
  all_goals first
   |omega
   |(refine g9 ?_;symm;simp only [lbO,lbJ,lbQ,lbL];omega)
 |false=>
  rw [hb] at fi;rw [a1Z,a1Z];refine ac Tryz.func170 ?_;conv=>whnf
  repeat' (first|refine zx ?_|apply zD<;>intro<;>try omega)<;>conv=>whnf
  all_goals first|omega|exact g9 rfl
noncomputable def a7l (t:j6) (kind:Int) (g:Nat) (l:List Nat):Option Nat:=l.find? fun i=>(isA t kind i).getD g false
noncomputable def bf6 (t:j6) (kind:Int) (o:Option Nat):S:=match o with
 |some i=>.tup [eI i,p5 ((a7p t kind i).map fz),j8 true]
 |none=>.tup [eI 0,.c (.t (.sl 0 .nil [])),j8 false]
def aD5 (t:j6) (hs:t.Sized) (h:QT t) (find:Int) (f:P5) (f0:0<=find) (hf:t.finds[find.toNat]? =some f) (g:Nat) (hg:g<t.ev.moves.length):
 ec 98 [trS t,eI find,eI g] [] (bf6 t f.kind (a7l t f.kind g (R7 t f.kind f.mv.toNat))) []:=by
 have kn:=aX9 t hs find g;have hk:a9a t find g=true:=by unfold a9a;rw [a1w h f0 hf,lbI om,lbI om];rfl
 rw [hk] at kn;have re:=a9u t hs h find f f0 hf;have hm:=h.m;have rl2:(R7 t f.kind f.mv.toNat).length<=t.ev.moves.length:=lbT (lbt _ _) (B1 _);have m1:((R7 t f.kind f.mv.toNat).map (a7o t f.kind)).length=(R7 t f.kind f.mv.toNat).length:=zq;generalize R7 t f.kind f.mv.toNat=l at re m1 rl2;refine ac Tryz.func98 ?_;conv=>whnf
 repeat' (first|refine zx ?_|apply zD<;>intro h<;>try omega)<;>conv=>whnf
 refine i7 d9 (fun k=>([J,J,eI g]++Jn 15++[aK3 t f.kind l,eI l.length,eI k]++Jn 13,[])) l.length (fun k=>a7l t f.kind g (l.drop k)=a7l t f.kind g l) [] rfl
  ⟨rfl,rfl,trivial,⟨rfl,rfl,d7 zq,rz⟩⟩ ?_
 intro k hk hI;by_cases hlt:k<l.length
 ·obtain ⟨i,hi⟩:∃i,l[k]? =some i:=⟨_,lbf hlt⟩;have hd:l.drop k=i::l.drop (k+1):=by rw [a3y hlt];rw [lbf hlt] at hi;injection hi with hi;rw [hi]
  have iA:=aP1 t f.kind i;obtain ⟨b,hb⟩:∃b,(isA t f.kind i)[g]? =some b:=⟨_,lbf om⟩;have hbd:(isA t f.kind i).getD g false=b:=by rw [lbl,hb];rfl
  have gb:∀{K:List T->Prop},K [tb b]->∃row,0<=(g:Int)∧((isA t f.kind i).map V9)[(g:Int).toNat]? =some row∧K row:=fun hK=>f7 (f:=V9) hb hK
  unfold a7l at hI;rw [hd,List.find?_cons,hbd] at hI;cases b with
  |true=>
   have e:a7l t f.kind g l=some i:=by unfold a7l;rw [← hI]
   rw [e];unfold bf6;conv=>whnf
   repeat' (first|refine zx ?_|refine f7 hi ?_|refine gb ?_|apply zD<;>intro h<;>try omega)<;>conv=>whnf
   all_goals first
    |omega
    |exact n9 rz
  |false=>
   conv=>whnf
   repeat' (first|refine zx ?_|refine f7 hi ?_|refine gb ?_|apply zD<;>intro h<;>try omega)<;>conv=>whnf
   all_goals first|omega|exact ⟨hlt,hI,[],rfl,rfl,trivial,⟨rfl,rfl,rfl,d7 om,trivial⟩⟩
 ·have hke:k=l.length:=by omega
  subst hke;have e:a7l t f.kind g l=none:=by rw [← hI,List.drop_length];rfl
  rw [e];unfold bf6;conv=>whnf
  repeat' (first|refine zx ?_|apply zD<;>intro h<;>try omega)<;>conv=>whnf
  all_goals first|omega|exact n9 rz
def a4f {H:Hp} {p:Nat->Prop} {id:Nat} {l:LI} (hp:p id) (hk:H[id]? =some (o8 l)):VC H p (.own id 0 l.length true) (w7 l):=
 s6 (k:=o8 l) hp hk (fun h=>h) rfl rfl zq
def b51 (t:j6) (kind:Int) (i g:Nat) (hg:g<t.ev.moves.length+t.ev.places.length):
 ec 112 [.agg [.t (ti i),.t (a8E (isA t kind i)),.t (z4 ((a7p t kind i).map fz))],.c (.t (b0t g))] [] (j8 ((isA t kind i).getD g false)) []:=by
 have iA:=aP1 t kind i;obtain ⟨b,hb⟩:∃b,(isA t kind i)[g]? =some b:=⟨_,lbf om⟩;have hbd:(isA t kind i).getD g false=b:=by rw [lbl,hb];rfl
 rw [hbd];cases b<;>
 ·refine ac Tryz.func112 ?_;conv=>whnf
  repeat' (first|refine zx ?_|refine f7 (f:=V9) hb ?_|apply zD<;>intro<;>try omega)<;>conv=>whnf
  all_goals first|omega|exact g9 rfl
def b2C (t:j6) (kind:Int) (l:List Nat) (hl:l.length<=1000000) (fg:FuncId) (caps:List T) (g:Nat) (hg:∀i ∈ l,ec fg (.agg [.t (ti i),.t (a8E (isA t kind i)),.t (z4 ((a7p t kind i).map fz))]::caps.map fun x=>.c (.t x)) [] (j8 ((isA t kind i).getD g false)) []):
 ec 180 [aK3 t kind l,.c (.t (.fn (.func fg) caps))] [] (eI (H5 (fun i=>(isA t kind i).getD g false) l 0)) []:=by
 have l1:(l.map (a7o t kind)).length=l.length:=zq;refine ac Tryz.func180 ?_;conv=>whnf
 repeat' (first|refine zx ?_|apply zD<;>intro<;>try omega)<;>conv=>whnf
 refine i7 d9 (fun k=>([aK3 t kind l,S.c (C.t (T.fn (.func fg) caps)),J,J,J,J,J,eI l.length,eI k]++Jn 10,[])) l.length (fun k=>H5 (fun i=>(isA t kind i).getD g false) (l.drop k) k=H5 (fun i=>(isA t kind i).getD g false) l 0) [] rfl
  ⟨rfl,rfl,trivial,⟨k8 rfl,k8 rfl,d7 zq,rz⟩⟩ ?_
 intro k hk hI;by_cases hlt:k<l.length
 ·obtain ⟨r,hr⟩:∃r,l[k]? =some r:=⟨_,lbf hlt⟩;have hd:l.drop k=r::l.drop (k+1):=by
   rw [a3y hlt];rw [lbf hlt] at hr;injection hr with hr;rw [hr]
  have hgr:=hg r (lbm hr);have ha:(S.agg [.t (ti r),.t (a8E (isA t kind r)),.t (z4 ((a7p t kind r).map fz))]::caps.map fun x=>S.c (C.t x)).all S.isT=true:=by simp [S.isT,C.isT]
  rw [hd] at hI;have hI:(if (isA t kind r).getD g false then (k:Int) else H5 (fun i=>(isA t kind i).getD g false) (l.drop (k+1)) (k+1))=H5 (fun i=>(isA t kind i).getD g false) l 0:=hI;cases hq:(isA t kind r).getD g false with
  |true=>
   rw [hq] at hgr hI;conv=>whnf
   repeat' (first|refine zx ?_|refine .inl ⟨_,_,D7 hgr ha rfl,?_⟩|refine f7 hr ?_|apply zD<;>intro<;>try omega)<;>conv=>whnf
   all_goals first
    |omega
    |exact o4 hI
  |false=>
   rw [hq] at hgr hI;conv=>whnf
   repeat' (first|refine zx ?_|refine .inl ⟨_,_,D7 hgr ha rfl,?_⟩|refine f7 hr ?_|apply zD<;>intro<;>try omega)<;>conv=>whnf
   all_goals first|omega|exact ⟨hlt,by simpa using hI,[],rz⟩
 ·have hke:k=l.length:=by omega
  subst hke;rw [lbo (lbS _)] at hI;conv=>whnf
  repeat' (first|refine zx ?_|apply zD<;>intro<;>try omega)<;>conv=>whnf
  all_goals first|omega|exact o4 hI
def ax0 (t:j6) (kind:Int) (l:List Nat) (hl:l.length<=1000000) (g:Nat) (hg:g<t.ev.moves.length+t.ev.places.length):
 ec 111 [aK3 t kind l,.c (.t (.fn (.func 112) [b0t g]))] [] (j8 (l.any fun i=>(isA t kind i).getD g false)) []:=by
 have ix:=b2C t kind l hl 112 [b0t g] g (fun i _=>b51 t kind i g hg);refine ac Tryz.func111 ?_;conv=>whnf
 repeat' (first|refine zx ?_|apply zD<;>intro<;>try omega)<;>conv=>whnf
 all_goals (refine g9 ?_;rw [← a56 (fun i=>(isA t kind i).getD g false) l 0];symm;first|exact lbI om|exact lbK om)
noncomputable def a3z (t:j6) (kind:Int) (mv:Nat) (k:Nat):List Nat:=(List.range k).filter fun g=>P2 t kind mv g
noncomputable def H8 (t:j6) (kind:Int) (mv k:Nat):List Nat:=(a3z t kind mv k).filter fun g=>decide (g<t.ev.moves.length)
noncomputable def D2 (t:j6) (kind:Int) (mv k:Nat):List Nat:=((a3z t kind mv k).filter fun g=>!decide (g<t.ev.moves.length)).map fun g=>g - t.ev.moves.length
def ab3 (t:j6) (kind:Int) (mv k:Nat):a3z t kind mv (k+1)=if P2 t kind mv k=true then a3z t kind mv k++[k] else a3z t kind mv k:=by
 unfold a3z;rw [a3D,lb9];cases h:P2 t kind mv k<;>simp [h]
def ac6 (t:j6) (kind:Int) (mv k:Nat):H8 t kind mv (k+1)=if P2 t kind mv k=true then (if k<t.ev.moves.length then H8 t kind mv k++[k] else H8 t kind mv k) else H8 t kind mv k:=by
 unfold H8;rw [ab3];by_cases h:P2 t kind mv k=true
 ·rw [if_pos h,if_pos h,lb9];by_cases h2:k<t.ev.moves.length<;>simp [h2]
 ·rw [if_neg h,if_neg h]
def a8L (t:j6) (kind:Int) (mv k:Nat):D2 t kind mv (k+1)=if P2 t kind mv k=true then (if k<t.ev.moves.length then D2 t kind mv k else D2 t kind mv k++[k - t.ev.moves.length]) else D2 t kind mv k:=by
 unfold D2;rw [ab3];by_cases h:P2 t kind mv k=true
 ·rw [if_pos h,if_pos h,lb9,lbD];by_cases h2:k<t.ev.moves.length<;>simp [h2]
 ·rw [if_neg h,if_neg h]
def aj2 (t:j6) (kind:Int) (mv k:Nat):(a3z t kind mv k).length<=k:=by
 unfold a3z;exact lbT (lbt _ _) zq
def a4l (t:j6) (kind:Int) (mv k:Nat):(H8 t kind mv k).length<=k:=lbT (lbt _ _) (aj2 _ _ _ _)
def a61 (t:j6) (kind:Int) (mv k:Nat):(D2 t kind mv k).length<=k:=by
 unfold D2;rw [lbr];exact lbT (lbt _ _) (aj2 _ _ _ _)
def a60 (l:List Nat) (k:Nat):D6 (l++[k])=D6 l++[(k:Int)]:=by simp [D6]
noncomputable def Q8 (t:j6) (kind:Int) (mv:Nat):List Nat:=H8 t kind mv (t.ev.moves.length+t.ev.places.length)
noncomputable def N6 (t:j6) (kind:Int) (mv:Nat):List Nat:=D2 t kind mv (t.ev.moves.length+t.ev.places.length)
def b00 (t:j6) (hs:t.Sized) (find:Int) (h:a00 t find=false):ec 45 [trS t,eI find] [] (.tup [.c (.t (.sl 0 .nil [])),.c (.t (.sl 0 .nil [])),eI 1]) []:=by
 have fi:=a54 t hs find;rw [h] at fi;refine ac Tryz.func45 ?_;conv=>whnf
 repeat' (first|refine zx ?_|apply zD<;>intro h<;>try omega)<;>conv=>whnf
 all_goals first|omega|exact n9 rz
def aS3 (t:j6) (hs:t.Sized) (h:QT t) (find:Int) (f:P5) (f0:0<=find) (hf:t.finds[find.toNat]? =some f):
 ec 45 [trS t,eI find] [] (.tup [.c (.own 0 0 (D6 (Q8 t f.kind f.mv.toNat)).length true),.c (.own 1 0 (D6 (N6 t f.kind f.mv.toNat)).length true),eI 0]) [o8 (D6 (Q8 t f.kind f.mv.toNat)),o8 (D6 (N6 t f.kind f.mv.toNat))]:=by
 have fi:=a54 t hs find;rw [a1w h f0 hf] at fi;have re:=a9u t hs h find f f0 hf;have hm:=h.m;have hp:=h.p;have rl2:(R7 t f.kind f.mv.toNat).length<=t.ev.moves.length:=lbT (lbt _ _) (B1 _);have m1:(t.ev.moves.map A8.row).length=t.ev.moves.length:=zq;have m2:(t.ev.places.map K8.row).length=t.ev.places.length:=zq;generalize hN:t.ev.moves.length+t.ev.places.length=N;refine ac Tryz.func45 ?_;conv=>whnf
 repeat' (first|refine zx ?_|apply zD<;>intro h<;>try omega)<;>conv=>whnf
 refine i7 d9 (fun k=>([J,J,J,J,S.c (C.own 0 0 (D6 (H8 t f.kind f.mv.toNat k)).length true),S.c (C.own 1 0 (D6 (D2 t f.kind f.mv.toNat k)).length true),J,eI t.ev.moves.length,aK3 t f.kind (R7 t f.kind f.mv.toNat)]++Jn 17++[eI N,eI k]++Jn 22,[o8 (D6 (H8 t f.kind f.mv.toNat k)),o8 (D6 (D2 t f.kind f.mv.toNat k))])) N tT [none,none] trivial
  ⟨rfl,rfl,rz,⟨rz,rz,d7 zq,rfl,d7 zo,rz⟩⟩ ?_
 intro k hk _;have c1:=a4l t f.kind f.mv.toNat k;have c2:=a61 t f.kind f.mv.toNat k;have d1:=a03 (H8 t f.kind f.mv.toNat k);have d2:=a03 (D2 t f.kind f.mv.toNat k);by_cases hlt:k<N
 ·have lA:(D6 (H8 t f.kind f.mv.toNat k)).length<=(o8 (D6 (H8 t f.kind f.mv.toNat k))).rows.length:=by show _<=(toC _).length;simp [toC]
  have lB:(D6 (D2 t f.kind f.mv.toNat k)).length<=(o8 (D6 (D2 t f.kind f.mv.toNat k))).rows.length:=by show _<=(toC _).length;simp [toC]
  have ct:=ax0 t f.kind (R7 t f.kind f.mv.toNat) om k om;have eR:((R7 t f.kind f.mv.toNat).any fun i=>(isA t f.kind i).getD k false)=P2 t f.kind f.mv.toNat k:=rfl;rw [eR] at ct;rw [ac6,a8L];generalize H8 t f.kind f.mv.toNat k=X at *;generalize D2 t f.kind f.mv.toNat k=Y at *;have va:a1p [o8 (D6 X),o8 (D6 Y),{ mode:=.live,elem:=3,size:=1,rows:=[[.t (ti k)]],box:=true }] tT [aK3 t f.kind (R7 t f.kind f.mv.toNat),.c (.fn (.func 112) [.ptr 2 0 0])] [aK3 t f.kind (R7 t f.kind f.mv.toNat),.c (.t (.fn (.func 112) [b0t k]))]:=
   ⟨av8,aZ6 (show _∧True from ⟨aa3 (k:={ mode:=.live,elem:=3,size:=1,rows:=[[.t (ti k)]],box:=true }) (row:=[.t (ti k)]) trivial rfl (fun h=>h) rfl (b8K [ti k]),trivial⟩),trivial⟩
  cases hb:P2 t f.kind f.mv.toNat k with
  |false=>
   rw [hb] at ct;conv=>whnf
   repeat' (first|refine zx ?_|refine .inl ⟨_,_,j4 ct va rfl,?_⟩|apply zD<;>intro h<;>try omega)<;>conv=>whnf
   all_goals first
    |omega
    |exact ⟨hlt,trivial,[some 0,some 1],rfl,rfl,⟨f5 (e7 _),f5 (e7 _),trivial⟩,⟨⟨rfl,rfl,rfl,fun h=>h⟩,⟨rfl,rfl,rfl,fun h=>h⟩,rfl,rfl,rfl,d7 om,trivial⟩⟩
  |true=>
   rw [hb] at ct;rw [if_pos rfl,if_pos rfl];by_cases hkm:k<t.ev.moves.length
   ·rw [if_pos hkm,if_pos hkm,a60];conv=>whnf
    repeat' (first|refine zx ?_|refine .inl ⟨_,_,j4 ct va rfl,?_⟩|refine o6 lA zu ?_|apply zD<;>intro h<;>try omega)<;>conv=>whnf
    all_goals first
     |omega
     |(refine ⟨hlt,trivial,[some 3,some 1],rfl,rfl,⟨d8 (rows:=(D6 X++[(k:Int)]).map j0) rfl rfl rfl ?_ rfl,f5 (e7 _),trivial⟩,⟨⟨rfl,rfl,?_,fun h=>h⟩,⟨rfl,rfl,rfl,fun h=>h⟩,rfl,rfl,rfl,d7 om,trivial⟩⟩
       ·exact u6 (f:=j0) (x:=(k:Int)) rfl
       ·simp [toC])
   ·rw [if_neg hkm,if_neg hkm,a60];have eP:((k - t.ev.moves.length:Nat):Int)=(k:Int) - (t.ev.moves.length:Int):=om;rw [eP];conv=>whnf
    repeat' (first|refine zx ?_|refine .inl ⟨_,_,j4 ct va rfl,?_⟩|refine o6 lB zu ?_|apply zD<;>intro h<;>try omega)<;>conv=>whnf
    all_goals first
     |omega
     |(refine ⟨hlt,trivial,[some 0,some 3],rfl,rfl,⟨f5 (e7 _),d8 (rows:=(D6 Y++[(k:Int) - (t.ev.moves.length:Int)]).map j0) rfl rfl rfl ?_ rfl,trivial⟩,⟨⟨rfl,rfl,rfl,fun h=>h⟩,⟨rfl,rfl,?_,fun h=>h⟩,rfl,rfl,rfl,d7 om,trivial⟩⟩
       ·exact u6 (f:=j0) (x:=(k:Int) - (t.ev.moves.length:Int)) rfl
       ·simp [toC])
 ·have hke:k=N:=by omega
  subst hke;have e1:Q8 t f.kind f.mv.toNat=H8 t f.kind f.mv.toNat k:=by unfold Q8;rw [hN]
  have e2:N6 t f.kind f.mv.toNat=D2 t f.kind f.mv.toNat k:=by unfold N6;rw [hN]
  rw [e1,e2];generalize H8 t f.kind f.mv.toNat k=X at *;generalize D2 t f.kind f.mv.toNat k=Y at *;conv=>whnf
  repeat' (first|refine zx ?_|apply zD<;>intro h<;>try omega)<;>conv=>whnf
  all_goals first|omega|exact ⟨⟨[some 0,some 1],rfl,rfl,⟨f5 (e7 _),f5 (e7 _),trivial⟩,⟨⟨rfl,rfl,rfl,fun h=>h⟩,⟨rfl,rfl,rfl,fun h=>h⟩,rz⟩⟩⟩
def al2 (t:j6) (hs:t.Sized) (h:QT t) (find:Int) (f:P5) (f0:0<=find) (hf:t.finds[find.toNat]? =some f):
 ec 45 [trS t,eI find] [] (.tup [j3 (D6 (Q8 t f.kind f.mv.toNat)),j3 (D6 (N6 t f.kind f.mv.toNat)),eI 0]) []:=by
 refine a3T (aS3 t hs h find f f0 hf) (n9 ⟨(show VC _ (fun id=>G8 [] id=true) _ _ from a4f rfl rfl),(show VC _ (fun id=>G8 [] id=true) _ _ from a4f rfl rfl),rz⟩)
def a8w (q:Int->Bool) (xs:LI) (i0:Nat):Nat->LI × Nat
 |0=>(xs,i0)
 |m+1=>if q (xs.getD (i0+1+m) 0)=true then a8w q xs i0 m else ((a8w q xs i0 m).1.set (a8w q xs i0 m).2 (xs.getD (i0+1+m) 0),(a8w q xs i0 m).2+1)
structure bG1 (q:Int->Bool) (xs:LI) (j:Nat) (r:LI) (i:Nat):Prop where
 len:r.length=xs.length
 lt:i<j
 tk:r.take i=(xs.take j).filter fun x=>!q x
 dr:r.drop j=xs.drop j
def aA0 {q:Int->Bool} {xs:LI} {i0:Nat} (h0:i0<xs.length) (h1:(xs.take i0).filter (fun x=>!q x)=xs.take i0) (h2:q (xs.getD i0 0)=true):
 ∀m,i0+1+m<=xs.length->bG1 q xs (i0+1+m) (a8w q xs i0 m).1 (a8w q xs i0 m).2
 |0,hm=>by
  refine ⟨rfl,by show i0<_;omega,?_,rfl⟩;show xs.take i0=_;rw [aD3,lbH,lb9,h1,lbf h0];rw [lbl,lbf h0] at h2;simp at h2;simp [h2]
 |m+1,hm=>by
  have ih:=aA0 h0 h1 h2 m om;obtain ⟨a1,a2,a3,a4⟩:=ih;unfold a8w;generalize hj:i0+1+m=j at *;have ej:i0+1+(m+1)=j+1:=om;rw [ej];have hjl:j<xs.length:=om;generalize a8w q xs i0 m=p at *;obtain ⟨r,i⟩:=p;simp only at a1 a2 a3 a4 ⊢;have hx:xs.getD j 0=xs[j]:=by rw [lbl,lbf hjl];rfl
  rw [hx];have ht:xs.take (j+1)=xs.take j++[xs[j]]:=by rw [lbH,lbf hjl];rfl
  by_cases hq:q xs[j]=true
  ·rw [if_pos hq];refine ⟨a1,by show i<_;omega,?_,?_⟩
   ·show r.take i=_;rw [a3,ht,lb9];simp [hq]
   ·show r.drop (j+1)=_;rw [← a7y,a4,a7y]
  ·rw [if_neg hq];refine ⟨by simp [a1],by show i+1<_;omega,?_,?_⟩
   ·show (r.set i xs[j]).take (i+1)=_;rw [lbH,List.take_set_of_le (lbS _),List.getElem?_set_self om,a3,ht,lb9];have:q xs[j]=false:=by simpa using hq
    simp [this]
   ·show (r.set i xs[j]).drop (j+1)=_;rw [b2W om,←a7y,a4,a7y]
def ad6 {q:Int->Bool}:∀(xs:LI) (k:Nat),(H5 q xs k=-1∧xs.filter (fun x=>!q x)=xs)∨∃i,H5 q xs k=((k+i:Nat):Int)∧i<xs.length∧(xs.take i).filter (fun x=>!q x)=xs.take i∧q (xs.getD i 0)=true
 |[],k=>.inl rz
 |x::r,k=>by
  unfold H5;cases h:q x with
  |true=>exact .inr ⟨0,zq,zq,rfl,by simpa using h⟩
  |false=>
   rcases ad6 (q:=q) r (k+1) with ⟨h1,h2⟩|⟨i,h1,h2,h3,h4⟩
   ·exact .inl ⟨by simpa using h1,by simp [h,h2]⟩
   ·refine .inr ⟨i+1,?_,by simp;omega,by simp [h,h3],by simpa using h4⟩;show (if false=true then (k:Int) else H5 q r (k+1))=_;rw [if_neg de,h1];congr 1;omega
def b1G (xs:LI) (hl:xs.length<=1000000) (fg:FuncId) (caps:List T) (q:Int->Bool) (hg:∀x ∈ xs,ec fg (eI x::caps.map fun x=>.c (.t x)) [] (j8 (q x)) []):
 ec 245 [j3 xs,.c (.t (.fn (.func fg) caps))] [] (eI (H5 q xs 0)) []:=by
 have l1:(xs.map j0).length=xs.length:=zq;refine ac Tryz.func245 ?_;conv=>whnf
 repeat' (first|refine zx ?_|apply zD<;>intro<;>try omega)<;>conv=>whnf
 refine i7 d9 (fun k=>([j3 xs,S.c (C.t (T.fn (.func fg) caps)),J,J,J,J,J,eI xs.length,eI k]++Jn 10,[])) xs.length (fun k=>H5 q (xs.drop k) k=H5 q xs 0) [] rfl
  ⟨rfl,rfl,trivial,⟨k8 rfl,k8 rfl,d7 zq,rz⟩⟩ ?_
 intro k hk hI;by_cases hlt:k<xs.length
 ·obtain ⟨r,hr⟩:∃r,xs[k]? =some r:=⟨_,lbf hlt⟩;have hd:xs.drop k=r::xs.drop (k+1):=by
   rw [a3y hlt];rw [lbf hlt] at hr;injection hr with hr;rw [hr]
  have hgr:=hg r (lbm hr);have ha:(eI r::caps.map fun x=>S.c (C.t x)).all S.isT=true:=by simp [S.isT,C.isT,c9]
  rw [hd] at hI;have hI:(if q r then (k:Int) else H5 q (xs.drop (k+1)) (k+1))=H5 q xs 0:=hI;cases hq:q r with
  |true=>
   rw [hq] at hgr hI;conv=>whnf
   repeat' (first|refine zx ?_|refine .inl ⟨_,_,D7 hgr ha rfl,?_⟩|refine f7 hr ?_|apply zD<;>intro<;>try omega)<;>conv=>whnf
   all_goals first
    |omega
    |exact o4 hI
  |false=>
   rw [hq] at hgr hI;conv=>whnf
   repeat' (first|refine zx ?_|refine .inl ⟨_,_,D7 hgr ha rfl,?_⟩|refine f7 hr ?_|apply zD<;>intro<;>try omega)<;>conv=>whnf
   all_goals first|omega|exact ⟨hlt,by simpa using hI,[],rz⟩
 ·have hke:k=xs.length:=by omega
  subst hke;rw [lbo (lbS _)] at hI;conv=>whnf
  repeat' (first|refine zx ?_|apply zD<;>intro<;>try omega)<;>conv=>whnf
  all_goals first|omega|exact o4 hI
def aM3 {l:LI} {n:Nat} {v:Int} {K:List C->Prop} (h:l[n]? =some v) (k:K [C.t (ti v)]):∃row,(o8 l).rows[n]? =some row∧K row:=⟨_,by show (toC (l.map j0))[n]? =_;simp [toC,j0,h],k⟩
def b4w {l:LI} {i n:Nat} {v:Int} (h:n=i):t4 (o8 l) ((o8 l).rows.set n [C.t (ti v)])=o8 (l.set i v):=by
 subst h;unfold t4;show ({ mode:=_,elem:=_,size:=_,rows:=(toC (l.map j0)).set n _,box:=_,app:=_ }:Blk)=_;have:(toC (l.map j0)).set n [C.t (ti v)]=toC ((l.set n v).map j0):=by
  unfold toC;rw [a1R,a1R];rfl
 rw [this]
def aS6 (xs ys:LI) (hl:xs.length<=1000000) (fg:FuncId) (caps:List T) (q:Int->Bool) (hg:∀x ∈ xs,ec fg (eI x::caps.map fun x=>.c (.t x)) [] (j8 (q x)) []):
 ∃zs,zs.take (xs.filter fun x=>!q x).length=(xs.filter fun x=>!q x)∧zs.length=xs.length∧ec 169 [.c (.own 0 0 xs.length true),.c (.t (.fn (.func fg) caps))] [o8 xs,o8 ys] (.c (.own 0 0 (xs.filter fun x=>!q x).length true)) [o8 zs,o8 ys]:=by
 have ix:=b1G xs hl fg caps q hg;have ha:(caps.map fun x=>S.c (C.t x)).all S.isT=true:=by simp [S.isT,C.isT]
 rcases ad6 (q:=q) xs 0 with ⟨h1,h2⟩|⟨i0,h1,h2,h3,h4⟩
 ·rw [h1] at ix;rw [h2];refine ⟨xs,lbn (lbS _),rfl,?_⟩;refine ac Tryz.func169 ?_;conv=>whnf
  repeat' (first|refine zx ?_|refine .inl ⟨_,_,an3 ix ⟨a1X (a4f trivial rfl),ay0,trivial⟩ rfl,?_⟩|apply zD<;>intro h<;>try omega)<;>conv=>whnf
  all_goals first|omega|exact ⟨⟨[some 0,some 1],rfl,rfl,⟨f5 (e7 _),f5 (e7 _),trivial⟩,⟨rfl,rfl,rfl,fun h=>h⟩⟩⟩
 ·rw [h1,O5] at ix;have hD:=aA0 h2 h3 h4;obtain ⟨n,hn⟩:∃n,i0+1+n=xs.length:=⟨xs.length - (i0+1),om⟩;have hE:=hD n om;generalize hF:a8w q xs i0 n=rn at hE;obtain ⟨rs,i⟩:=rn;obtain ⟨e1,e2,e3,e4⟩:=hE;simp only at e1 e2 e3 e4;rw [hn,lbn (lbS _)] at e3;have e5:(rs.take i).length=i:=by rw [lbs];omega
  have hz:rs.take i++List.replicate (xs.length - i) (0:Int)=rs.take i++List.replicate (xs.length - i) (0:Int):=rfl;refine ⟨rs.take i++List.replicate (xs.length - i) 0,?_,by rw [lbq,e5,a9T];omega,?_⟩
  ·rw [← e3,List.take_append_of_le_length om,e5,List.take_take,Nat.min_self]
  have eC:F4 (0+(i:Int).toNat) ((xs.length:Int) - (i:Int)).toNat (toC (rs.map j0)) (List.replicate ((xs.length:Int) - (i:Int)).toNat [C.t (ti 0)])=toC ((rs.take i++List.replicate (xs.length - i) 0).map j0):=by
   have x1:0+(i:Int).toNat=i:=om;have x2:((xs.length:Int) - (i:Int)).toNat=xs.length - i:=om;rw [x1,x2];unfold F4 toC;rw [lbn (l:=List.replicate _ _) zq,a9T,lbo zo];simp [j0,aA6]
  have eL:(xs.filter fun x=>!q x).length=i:=by rw [← e3];exact e5
  rw [eL];have hcl:=fun x hx=>hg x hx
  refine ac Tryz.func169 ?_;conv=>whnf
  repeat' (first|refine zx ?_|refine .inl ⟨_,_,an3 ix ⟨a1X (a4f trivial rfl),ay0,trivial⟩ rfl,?_⟩|apply zD<;>intro h<;>try omega)<;>conv=>whnf
  refine i7 d9 (fun m=>([S.c (C.own 0 0 xs.length true),S.c (C.t (T.fn (.func fg) caps)),J,J,J,eI (a8w q xs i0 m).2,eI (i0+1+m)]++Jn 35,[o8 (a8w q xs i0 m).1,o8 ys])) n tT [some 0,some 1] trivial
   ⟨rfl,rfl,⟨f5 (e7 _),f5 (e7 _),trivial⟩,⟨⟨rfl,rfl,rfl,fun h=>h⟩,k8 rfl,rfl,d7 om,trivial⟩⟩ ?_
  intro m hm _;have hDm:=hD m om;generalize hG:a8w q xs i0 m=p at hDm;obtain ⟨r,k⟩:=p;obtain ⟨d1,d2,d3,d4⟩:=hDm;simp only at d1 d2 d3 d4 ⊢;by_cases hlt:m<n
  ·obtain ⟨v,hv⟩:∃v,xs[i0+1+m]? =some v:=⟨_,lbf om⟩;have hvd:xs.getD (i0+1+m) 0=v:=by rw [lbl,hv];rfl
   have hrv:r[i0+1+m]? =some v:=by
    have:=congrArg (fun l=>l[0]?) d4;simpa [lbj,hv] using this
   have gv:r[0+((i0+1+m:Nat):Int).toNat]? =some v:=by rw [O5,lbZ];exact hrv
   have hgv:=hg v (lbm hv);have ha2:(eI v::caps.map fun x=>S.c (C.t x)).all S.isT=true:=by simp [S.isT,C.isT,c9]
   have eG:a8w q xs i0 (m+1)=if q v=true then (r,k) else (r.set k v,k+1):=by
    conv=>lhs;unfold a8w
    rw [hG,hvd]
   rw [eG];cases hq:q v with
   |true=>
    rw [hq] at hgv;rw [if_pos rfl];conv=>whnf
    repeat' (first|refine zx ?_|refine .inl ⟨_,_,D7 hgv ha2 rfl,?_⟩|refine aM3 gv ?_|apply zD<;>intro h<;>try omega)<;>conv=>whnf
    all_goals first
     |omega
     |exact ⟨hlt,trivial,[some 0,some 1],rfl,rfl,⟨f5 (e7 _),f5 (e7 _),trivial⟩,⟨⟨rfl,rfl,rfl,fun h=>h⟩,rfl,rfl,d7 om,trivial⟩⟩
   |false=>
    rw [hq] at hgv;rw [if_neg de];have eB:=b4w (l:=r) (v:=v) (show 0+(k:Int).toNat=k by omega);obtain ⟨u,hu⟩:∃u,r[0+(k:Int).toNat]? =some u:=⟨_,lbf om⟩;conv=>whnf
    repeat' (first|refine zx ?_|refine .inl ⟨_,_,D7 hgv ha2 rfl,?_⟩|refine aM3 gv ?_|refine aM3 hu ?_|apply zD<;>intro h<;>try omega)<;>conv=>whnf
    all_goals first|omega|exact ⟨hlt,trivial,[some 0,some 1],rfl,rfl,⟨⟨rfl,rfl,rfl,.inl ⟨congrArg Blk.rows eB,(congrArg Blk.rows eB) ▸ e7 _⟩⟩,f5 (e7 _),trivial⟩,⟨⟨rfl,rfl,rfl,fun h=>h⟩,rfl,d7 om,d7 om,trivial⟩⟩
  ·have hme:m=n:=by omega
   subst hme;rw [hG] at hF;injection hF with f1 f2;subst f1 f2;have rl2:(toC (r.map j0)).length=xs.length:=by simp [toC,d1]
   have s1:(0:Int)<=(k:Int)∧(k:Int)<=(xs.length:Int)∧(xs.length:Int)<=(xs.length:Int):=om;have s2:(0:Int)<=0∧(0:Int)<=(k:Int)∧(k:Int)<=(xs.length:Int):=om;have s3:0+(k:Int).toNat+((xs.length:Int) - (k:Int)).toNat<=(o8 r).rows.length:=by show _<=(toC (r.map j0)).length;omega
   conv=>whnf
   repeat' (first|refine zx ?_|refine ⟨s1,?_⟩|refine ⟨s2,?_⟩|refine ⟨s3,?_⟩|apply zD<;>intro h<;>try omega)<;>conv=>whnf
   all_goals first|omega|exact ⟨⟨[some 0,some 1],rfl,rfl,⟨d8 (rows:=(r.take k++List.replicate (xs.length - k) (0:Int)).map j0) rfl rfl rfl eC rfl,f5 (e7 _),trivial⟩,⟨rfl,rfl,by show ((k:Int) - 0).toNat=k;omega,fun h=>h⟩⟩⟩
def a4n (e:Ev) (i:Int):Bool:=match e.moves[i.toNat]? with
 |some m=>decide (w9 e m.dst=5)
 |none=>false
def b6e (t:j6) (h1:y7 t=0) (i:Nat) (hi:i<t.ev.moves.length):
 ec 168 [eI i,.c (.t (T.ptr (trT t)))] [] (j8 (!a4n t.ev i)) []:=by
 have hck:=(v3 h1).1;obtain ⟨m,hm⟩:∃m,t.ev.moves[i]? =some m:=⟨_,lbf hi⟩;have hmo:=O9 hck (lbm hm);have ms:=b2i hmo;obtain ⟨p,hp⟩:∃p,t.ev.places[m.dst.toNat]? =some p:=⟨_,lbf om⟩;have hk0:w9 t.ev m.dst=p.kind:=by unfold w9;rw [hp];rfl
 have e:a4n t.ev i=decide (p.kind=5):=by unfold a4n;rw [lbZ,hm,←hk0]
 rw [e];refine ac Tryz.func168 ?_;conv=>whnf
 repeat' (first|refine zx ?_|refine f7 hm ?_|refine x5 ms.1 hp ?_|apply zD<;>intro<;>try omega)<;>conv=>whnf
 all_goals first|omega|(refine g9 ?_;symm;simp;omega)|(refine g9 ?_;symm;simp;assumption)
noncomputable def ae7 (t:j6) (kind:Int) (mv:Nat):LI:=(D6 (Q8 t kind mv)).filter fun x=>!!a4n t.ev x
def b9u {H:Hp} {p:Nat->Prop} {id n:Nat} {l m:LI} (hp:p id) (hk:H[id]? =some (o8 l)) (hm:l.take n=m) (hn:m.length=n):VC H p (.own id 0 n true) (w7 m):=by
 refine ⟨hp,o8 l,hk,fun h=>h,rfl,?_,?_⟩
 ·show 0+n<=(toC (l.map j0)).length;have:=lbs (i:=n) (l:=l);rw [hm] at this;simp [toC];omega
 ·show ((toC (l.map j0)).drop 0).take n=toC (m.map j0);rw [a8y,←hm];simp [toC,aA6]
def b8L (t:j6) (hs:t.Sized) (h:QT t) (find:Int) (f:P5) (f0:0<=find) (hf:t.finds[find.toNat]? =some f):
 d6 Tryz.prog 97 [trS t,c9 .i64 find] [] (.tup [j3 (ae7 t f.kind f.mv.toNat),c9 .i64 0]) []:=by
 have lo:=aS3 t hs h find f f0 hf
 have hm:=h.m
 have hp:=h.p
 have hlen:=a4l t f.kind f.mv.toNat (t.ev.moves.length+t.ev.places.length)
 have hlen2:(D6 (Q8 t f.kind f.mv.toNat)).length<=1000000:=by rw [a03];show (H8 _ _ _ _).length<=_;omega
 obtain ⟨zs,z1,z2,deq⟩:=aS6 (D6 (Q8 t f.kind f.mv.toNat)) (D6 (N6 t f.kind f.mv.toNat)) hlen2 168 [T.ptr (trT t)] (fun x=>!a4n t.ev x) (fun x hx=>by
  obtain ⟨i,hi,rfl⟩:=lby.1 hx
  have hi:=(lbz.1 hi).2
  exact b6e t h.h i (lbM hi))
 have eS:ae7 t f.kind f.mv.toNat=(D6 (Q8 t f.kind f.mv.toNat)).filter fun x=>!!a4n t.ev x:=rfl
 rw [eS]
 generalize D6 (Q8 t f.kind f.mv.toNat)=X at *
 generalize D6 (N6 t f.kind f.mv.toNat)=Y at *
 generalize (X.filter fun x=>!!a4n t.ev x)=Z at *
 (refine ac Tryz.func97 ?_;(conv=>whnf);repeat ((first|refine b0x ?_|refine zy ?_);conv=>whnf))
 repeat' (first|refine zx ?_|refine .inr ⟨_,_,lo,?_⟩|refine .inr ⟨_,_,deq,?_⟩|refine zd ?_ ?_<;>intro h<;>try omega|fail)<;>conv=>whnf
 all_goals first
  |omega
  |exact n9 ⟨(show VC _ (fun id=>G8 [] id=true) _ _ from b9u rfl rfl z1 rfl),rfl,trivial⟩
def aA1 {α:Type} {l:List α} {k:Nat} {x:α} (h:l[k]? =some x):l.take (k+1)=l.take k++[x]:=by
 rw [lbH,h];rfl
def b2k (a b:LI) (ha:a.length<=1000000) (hb:b.length<=1000000):ec 24 [j3 a,j3 b] [] (j8 (decide (a=b))) []:=by
 have l1:(a.map j0).length=a.length:=zq;have l2:(b.map j0).length=b.length:=zq;refine ac Tryz.func24 ?_;conv=>whnf
 repeat' (first|refine zx ?_|apply zD<;>intro h<;>try omega)<;>conv=>whnf
 ·refine g9 (lbK ?_).symm;intro hab;subst hab;exact h rfl
 have hab:a.length=b.length:=om;refine i7 d9 (fun k=>([j3 a,j3 b,J,J,J,eI k]++Jn 20,[])) a.length (fun k=>a.take k=b.take k) [] rfl
  ⟨rfl,rfl,trivial,⟨k8 rfl,k8 rfl,d7 rfl,trivial⟩⟩ ?_
 intro k hk hI;conv=>whnf
 repeat' (first|refine zx ?_|apply zD<;>intro h<;>try omega)<;>conv=>whnf
 ·have hlt:k<a.length:=by omega
  obtain ⟨x,hx⟩:∃x,a[k]? =some x:=⟨_,lbf hlt⟩;obtain ⟨y,hy⟩:∃y,b[k]? =some y:=⟨_,lbf om⟩
  repeat' (first|refine zx ?_|refine f7 hx ?_|refine f7 hy ?_|apply zD<;>intro h<;>try omega)<;>conv=>whnf
  ·have hne:x≠y:=‹x≠y›;refine g9 (lbK ?_).symm;intro hq;subst hq;rw [hx] at hy;injection hy with hy;exact hne hy
  ·have hxy:x=y:=by omega
   refine ⟨hlt,?_,[],rfl,rfl,trivial,⟨k8 rfl,k8 rfl,rz⟩⟩;rw [aA1 hx,aA1 hy,hI,hxy]
 ·refine g9 (lbI ?_).symm;rw [lbn om,lbn om] at hI;exact hI
def b6s (l:LI) (n:Int) (ha:l.length<=1000000):ec 175 [j3 l,eI n] [] (eI (if (l.any fun x=>decide (x=n)) then (l.findIdx fun x=>decide (x=n)) else -1)) []:=by
 have l1:(l.map j0).length=l.length:=zq;refine ac Tryz.func175 ?_;conv=>whnf
 refine i7 d9 (fun k=>([j3 l,eI n,J,J,J,J,j3 l,eI l.length,eI k]++Jn 10,[])) l.length (fun k=>(l.take k).any (fun x=>decide (x=n))=false) [] rfl
  ⟨rfl,rfl,trivial,⟨k8 rfl,rfl,k8 rfl,d7 zq,d7 rfl,trivial⟩⟩ ?_
 intro k hk hI;conv=>whnf
 repeat' (first|refine zx ?_|apply zD<;>intro<;>try omega)<;>conv=>whnf
 ·have hlt:k<l.length:=by omega
  obtain ⟨x,hx⟩:∃x,l[k]? =some x:=⟨_,lbf hlt⟩;have hxg:l[k]=x:=(lbe.1 hx).2
  repeat' (first|refine zx ?_|refine f7 hx ?_|apply zD<;>intro<;>try omega)<;>conv=>whnf
  ·have hxn:x=n:=by omega
   refine o4 ?_;rw [if_pos (a4L hx (by simpa using hxn)),(List.findIdx_eq hlt).2 ⟨by simp [hxg,hxn],fun j hj=>?_⟩];rw [a9h] at hI;have:=hI l[j] (List.mem_take_iff_getElem.2 ⟨j,om,rfl⟩);simpa using this
  ·have hne:¬x=n:=by omega
   refine ⟨hlt,?_,[],rz⟩;rw [a1t hx,hI];simpa using hne
 ·refine o4 ?_;rw [lbn om] at hI;rw [hI];rfl
def ac9 (l:LI) (n:Int) (ha:l.length<=1000000):ec 104 [j3 l,eI n] [] (j8 (l.any fun x=>decide (x=n))) []:=by
 refine ac Tryz.func104 ?_;conv=>whnf
 repeat' (first|refine zx ?_|refine qp (b6s _ _ ha) ?_|apply zD<;>intro<;>try omega)<;>conv=>whnf
 all_goals
  refine g9 ?_;cases hb:(l.any fun x=>decide (x=n)) with
  |true=>simp_all
  |false=>simp_all
def aG0 (e:Ev) (i:Int):((Q3 e).any fun x=>decide (x=i))=decide (0<=i∧i.toNat ∈ n6 e):=by
 rw [aj3,lbx,lbJ];constructor
 ·rintro ⟨x,hx,he⟩;have he:=lbM he;subst he;obtain ⟨n,hn,rfl⟩:=lby.1 hx;exact ⟨om,by rw [lbZ];exact hn⟩
 ·rintro ⟨h0,h1⟩;exact ⟨i,lby.2 ⟨i.toNat,h1,om⟩,lbI rfl⟩
def X5 (t:j6) (find lift:Int):Bool:=a00 t find && decide (0<=lift∧lift.toNat ∈ n6 t.ev)
def a3P {t:j6} {find:Int} (h:a00 t find=true):y7 t=0∧0<=find∧∃f,t.finds[find.toNat]? =some f:=by
 unfold a00 at h;simp only [lbO,lbJ] at h;exact ⟨h.1.1,h.1.2,_,lbf om⟩
def ae8 (t:j6) (hs:t.Sized) (find lift:Int) (h:X5 t find lift=false):
 ec 41 [trS t,eI find,eI lift] [] (.tup [S9 ⟨0,[]⟩,eI 1]) []:=by
 have fi:=a54 t hs find;cases hf:a00 t find with
 |false=>
  rw [hf] at fi;refine ac Tryz.func41 ?_;conv=>whnf
  repeat' (first|refine zx ?_|apply zD<;>intro h<;>try omega)<;>conv=>whnf
  all_goals first
   |omega
   |exact n9 rz
 |true=>
  rw [hf] at fi;have h1:=(a3P hf).1;have hck:=(v3 h1).1;have li:=ai1 t.ev hs.ev hck;have ll:(Q3 t.ev).length<=1000000:=by
   rw [a2O];have a:=B1 (e:=t.ev) t.ev.moves.length;have b:=hs.ev.s2;show (u0 t.ev t.ev.moves.length).length<=_;omega
  have co:=ac9 (Q3 t.ev) lift ll;rw [aG0] at co;have e:decide (0<=lift∧lift.toNat ∈ n6 t.ev)=false:=by unfold X5 at h;rw [hf] at h;exact h
  rw [e] at co;refine ac Tryz.func41 ?_;conv=>whnf
  repeat' (first|refine zx ?_|apply zD<;>intro h<;>try omega)<;>conv=>whnf
  all_goals first|omega|exact n9 rz
def b95 (t:j6) (hs:t.Sized) (find:Int) (f:P5) (hf:t.finds[find.toNat]? =some f) (i:Nat) (h:X5 t find i=true) (hm:t.ev.moves.length<=14):
 ec 41 [trS t,eI find,eI i] [] (.tup [S9 (u4 t f.kind i),eI 0]) []:=by
 have fi:=a54 t hs find;unfold X5 at h;obtain ⟨h1,h2⟩:=(lbO _ _).mp h;rw [h1] at fi;obtain ⟨h3,h4,_⟩:=a3P h1;have hck:=(v3 h3).1;have li:=ai1 t.ev hs.ev hck;have ll:(Q3 t.ev).length<=1000000:=by
  rw [a2O];have a:=B1 (e:=t.ev) t.ev.moves.length;show (u0 t.ev t.ev.moves.length).length<=_;omega
 have co:=ac9 (Q3 t.ev) i ll;rw [aG0,h2] at co;have al:=aL2 t hs h3 find f h4 hf i hm;refine ac Tryz.func41 ?_;conv=>whnf
 repeat' (first|refine zx ?_|apply zD<;>intro h<;>try omega)<;>conv=>whnf
 all_goals first|omega|exact n9 rz
def ar7 {s:j2} (h:I8 s):aI2 s:=by
 have hn:=L3 h.r;have h9:=h.n;refine ⟨by have:=h.l;omega,fun w hw=>?_⟩;obtain ⟨i,hi,rfl⟩:=X4 hw;have h1:=v8 (Y4 h.r (lbf hi)).1;have h2:=h.i _ (lbF hi);exact ⟨om,fun t ht=>by have:=D5 h2.1 t ht;omega,by have:=a8J h2.2;omega⟩
def ax6 (v:Nat):List (Int × Rat):=[((v:Int),((-1:Int):Rat))]
def bt5 (t:j6) (kind:Int) (a b i:Nat) (y:List Fr):Bool:=b1L (u4 t kind i) (ax6 a) y || b1L (u4 t kind i) (ax6 b) y
def am6 (t:j6) (kind:Int) (a b:Nat) (pf:List (List Fr)):Bool:=decide (pf.length=(n6 t.ev).length) && (List.range (n6 t.ev).length).all fun k=>bt5 t kind a b ((n6 t.ev).getD k 0) (pf.getD k [])
def b75 {t:j6} (h:QT t) {find:Int} {f:P5} (f0:0<=find) (hf:t.finds[find.toNat]? =some f) {g:Nat} (hg:g<t.ev.moves.length):a9a t find g=true:=by
 unfold a9a;rw [a1w h f0 hf,lbI om,lbI om];rfl
noncomputable def aP2 (t:j6) (kind:Int) (a b i:Nat):List Rat:=if a14 (D4 a) (V8 (u4 t kind i) (D4 a))=true then a0D (u4 t kind i) (D4 b) else a0D (u4 t kind i) (D4 a)
noncomputable def a3s (t:j6) (kind:Int) (a b:Nat) (l:List Nat):List (List Fr):=l.map fun i=>(aP2 t kind a b i).map fz
def b5h {t:j6} {kind:Int} {a b k i:Nat} {l:List Nat} (h:l[k]? =some i):a3s t kind a b (l.take (k+1))=a3s t kind a b (l.take k)++[(aP2 t kind a b i).map fz]:=by
 unfold a3s;rw [lbH,h];simp
def aW8 (t:j6) (kind:Int) (a b:Nat) (l:List Nat):(a3s t kind a b l).length=l.length:=by simp [a3s]
abbrev b1y (hh:List (List Fr)):Blk:={ mode:=.live,elem:=49,size:=1,rows:=toC (hh.map a2J),box:=false }
def ab9 {n v:Nat} (h:v<n):j9 (-1) ((n:Nat):Int) (D4 v)=true:=a0e om (by show ((v:Nat):Int)<_;omega) (by show ((1:Int):Rat)≠0;decide) rfl
def a0v (v:Nat):z5 (D4 v):=a0n de de
def b9I (t:j6) (hs:t.Sized) (hQ:QT t) (find:Int) (f:P5) (f0:0<=find) (hf:t.finds[find.toNat]? =some f) (g:Nat) (hg:g<t.ev.moves.length) (hw:a7l t f.kind g (R7 t f.kind f.mv.toNat)=none):
 ec 99 [trS t,eI find,eI g] [] (.tup [b0o (a3s t f.kind f.mv.toNat g (n6 t.ev)),j8 true]) []:=by
 have wi:=aD5 t hs hQ find f f0 hf g hg;rw [hw] at wi;unfold bf6 at wi;have kn:=aX9 t hs find g;rw [b75 hQ f0 hf hg] at kn;have hm:=hQ.m;obtain ⟨q1,q2,q3,q4,q5⟩:=v3 hQ.h;have hfg:=I0 q4 f (lbm hf);obtain ⟨mv,hmv⟩:∃mv:Nat,f.mv=mv:=⟨f.mv.toNat,om⟩;have hmv2:f.mv.toNat=mv:=om;have li:=ai1 t.ev hs.ev q1;have m1:((Q3 t.ev).map j0).length=(n6 t.ev).length:=by rw [lbr,a2O]
 have ll:(n6 t.ev).length<=t.ev.moves.length:=B1 _;rw [hmv2];have on1:=a9O mv 1 de de;rw [← hmv] at on1;have on2:=a9O g 1 de de
 (refine ac Tryz.func99 ?_;(conv=>whnf);repeat ((first|refine b0x ?_|refine zy ?_);conv=>whnf))
 repeat' (first|refine zx ?_|apply zD<;>intro h<;>try omega)<;>conv=>whnf
 all_goals try omega
 refine i7 d9 (fun k=>([J,eI find,eI g,S.c (C.t (T.ptr (trT t))),J,J,J,J,J,J,J,S.c (C.own 0 0 (a3s t f.kind mv g ((n6 t.ev).take k)).length true),j3 (Q3 t.ev)]++Jn 24++[j3 (Q3 t.ev),eI (n6 t.ev).length,eI k]++Jn 42,[b1y (a3s t f.kind mv g ((n6 t.ev).take k))])) (n6 t.ev).length tT [none] trivial
  ⟨rfl,rfl,rz,⟨rfl,rfl,rfl,rz,rfl,rfl,d7 (by simp [m1]),rz⟩⟩ ?_
 intro k hk _;have pl:=aW8 t f.kind mv g ((n6 t.ev).take k);have pt:((n6 t.ev).take k).length=k:=by rw [lbs];omega
 have lA:(a3s t f.kind mv g ((n6 t.ev).take k)).length<=(b1y (a3s t f.kind mv g ((n6 t.ev).take k))).rows.length:=by show _<=(toC _).length;simp [toC]
 by_cases hlt:k<(n6 t.ev).length
 ·obtain ⟨i,hi⟩:∃i,(n6 t.ev)[k]? =some i:=⟨_,lbf hlt⟩;have hii:=a7Q hi;have al:=aL2 t hs hQ.h find f f0 hf i om;have hG:=J1 (kind:=f.kind) i hQ om om om;have ss:=hG.sm;have nn:((u4 t f.kind i).n.toNat:Nat)=t.ev.moves.length:=by show ((t.ev.moves.length:Nat):Int).toNat=_;omega
  have r1:j9 (-1) (((u4 t f.kind i).n.toNat:Nat):Int) (D4 mv)=true:=by rw [nn];exact ab9 om
  have r2:j9 (-1) (((u4 t f.kind i).n.toNat:Nat):Int) (D4 g)=true:=by rw [nn];exact ab9 hg
  have mu1:=b1P (u4 t f.kind i) (D4 mv) ss hG.p.z hG.pos r1 (a0v _);have mu2:=b1P (u4 t f.kind i) (D4 g) ss hG.p.z hG.pos r2 (a0v _);have x15:=b7J ss r1 (a0v mv);have xl:=aF9 (s:=u4 t f.kind i) (g:=D4 mv);have po:=al4 (D4 mv) (V8 (u4 t f.kind i) (D4 mv)) (by rw [xl];exact r1) (a0v _) (fun v hv=>by have:=x15 v hv;omega) om (fun k=>by
   have h1:=a2u (D5 (a0v mv)) x15 k;have h2:=lbV (31+4) (show (D4 mv).length<=9 by simp [D4]);omega)
  have eN:aP2 t f.kind mv g i=if a14 (D4 mv) (V8 (u4 t f.kind i) (D4 mv))=true then a0D (u4 t f.kind i) (D4 g) else a0D (u4 t f.kind i) (D4 mv):=rfl
  rw [b5h hi,eN];generalize a3s t f.kind mv g ((n6 t.ev).take k)=P at *;generalize u4 t f.kind i=s at *;generalize V8 s (D4 g)=x2 at *;generalize a0D s (D4 g)=y2 at *;generalize V8 s (D4 mv)=x1 at *;generalize a0D s (D4 mv)=y1 at *;unfold D4 at mu1 mu2 po;rw [← hmv] at mu1;cases hb:a14 (D4 mv) x1 with
  |true=>
   unfold D4 at hb;rw [hb,←hmv] at po;rw [if_pos rfl];conv=>whnf
   repeat' (first|refine zx ?_|refine f7 hii ?_|refine x5 f0 hf ?_|refine o6 lA zu ?_|refine bl0 [7] ?_|apply zD<;>intro h<;>try omega)<;>conv=>whnf
   all_goals first
    |omega
    |(refine ⟨hlt,trivial,[some 2],rfl,rfl,⟨d8 (rows:=(P++[y2.map fz]).map a2J) rfl rfl rfl ?_ rfl,trivial⟩,⟨rfl,rfl,rfl,⟨rfl,rfl,?_,fun h=>h⟩,rfl,rfl,rfl,d7 om,trivial⟩⟩
      ·exact u6 (f:=a2J) (x:=y2.map fz) rfl
      ·simp [toC])
  |false=>
   unfold D4 at hb;rw [hb,←hmv] at po;rw [if_neg de];conv=>whnf
   repeat' (first|refine zx ?_|refine f7 hii ?_|refine x5 f0 hf ?_|refine o6 lA zu ?_|refine bl0 [7] ?_|apply zD<;>intro h<;>try omega)<;>conv=>whnf
   all_goals first
    |omega
    |(refine ⟨hlt,trivial,[some 2],rfl,rfl,⟨d8 (rows:=(P++[y1.map fz]).map a2J) rfl rfl rfl ?_ rfl,trivial⟩,⟨rfl,rfl,rfl,⟨rfl,rfl,?_,fun h=>h⟩,rfl,rfl,rfl,d7 om,trivial⟩⟩
      ·exact u6 (f:=a2J) (x:=y1.map fz) rfl
      ·simp [toC])
 ·have hke:k=(n6 t.ev).length:=by omega
  subst hke;rw [lbn (lbS _)] at *;conv=>whnf
  repeat' (first|refine zx ?_|apply zD<;>intro h<;>try omega)<;>conv=>whnf
  all_goals first|omega|exact n9 ⟨(show VC _ (fun id=>G8 [] id=true) (C.own 0 0 _ true) _ from s6 (k:=b1y (a3s t f.kind mv g (n6 t.ev))) rfl rfl (fun h=>h) rfl rfl zq),rz⟩
def a5a (t:j6) (hs:t.Sized) (find:Int):ec 106 [trS t,eI find] [] (j8 (a00 t find)) []:=by
 have ck:=aX5 t hs;have m1:(t.finds.map P5.row).length=t.finds.length:=zq;unfold a00;by_cases h1:y7 t=0
 ·rw [lbI h1,H9];refine ac Tryz.func106 ?_;conv=>whnf
  repeat' (first|refine zx ?_|apply zD<;>intro<;>try omega)<;>conv=>whnf
  all_goals first|omega|(refine g9 ?_;symm;simp only [lbO,lbJ,lbQ,lbL];omega)
 ·rw [lbK h1,a1Z,a1Z];refine ac Tryz.func106 ?_;conv=>whnf
  repeat' (first|refine zx ?_|apply zD<;>intro<;>try omega)<;>conv=>whnf
  all_goals first|omega|exact g9 rfl
def a5i (e:Ev) (i:Nat):Bool:=decide (i ∈ n6 e)
def a9e {e:Ev} {i:Nat} {m:A8} (hm:e.moves[i]? =some m):a5i e i=decide (w9 e m.src=0):=by
 unfold a5i;rw [decide_eq_decide,a0h];constructor
 ·rintro ⟨x,hx,h⟩;rw [hm] at hx;injection hx with hx;rw [hx];exact h
 ·intro h;exact ⟨m,hm,h⟩
def a8p (e:Ev) (h0:F3 e=0) (i:Nat) (hi:i<e.moves.length):ec 107 [evS e,eI i] [] (j8 (a5i e i)) []:=by
 obtain ⟨m,hm⟩:∃m,e.moves[i]? =some m:=⟨_,lbf hi⟩;have ms:=a2t (O9 h0 (lbm hm));obtain ⟨p,hp⟩:∃p,e.places[m.src.toNat]? =some p:=⟨_,lbf om⟩;have hk0:w9 e m.src=p.kind:=by unfold w9;rw [hp];rfl
 rw [a9e hm,hk0];refine ac Tryz.func107 ?_;conv=>whnf
 repeat' (first|refine zx ?_|refine f7 hm ?_|refine x5 ms.1 hp ?_|apply zD<;>intro<;>try omega)<;>conv=>whnf
 all_goals first|omega|(refine g9 ?_;symm;simp;omega)|(refine g9 ?_;symm;simp;assumption)
def au5 (v c:Int) (h0:-9223372036854775808<=c) (h1:c<=9223372036854775807):ec 108 [eI v,eI c] [] (m8 [(v,((c:Int):Rat))]) []:=by
 have ic:=a5s c h0 h1;refine ac Tryz.func108 ?_;conv=>whnf
 repeat' (first|refine zx ?_|apply zD<;>intro<;>try omega)<;>conv=>whnf
 all_goals exact n9 (show a9K [] _ _ _ from rfl)
def b2o (t:j6) (kind:Int) (hs:t.Sized) (h1:y7 t=0) (k0:0<=kind) (k1:kind<8) (H:Hp):a02 Tryz.prog 67 [.agg (bb6 t),eI kind] H (.tup [.agg [.t (ti t.ev.moves.length),.own H.length 0 (U8 (B9 t) kind).rows.length true],eI 0]) [Z0 (U8 (B9 t) kind).rows]:=by
 have hc:¬(y7 (B9 t)≠0∨kind<0∨8<=kind):=by have:=a3V h1;omega
 have h:=ad5 (b1j (B9 t) kind ⟨hs.ev,by simp [B9],hs.c⟩ hc);exact a7O (j:=1) h rfl rfl (e7 _) rfl rfl
def a0l (t:j6) (kind:Int) (i k:Nat):List z7:=(U8 (B9 t) kind).rows++P6 (u0 t.ev k) i
def aS2 {t:j6} {kind:Int} {i k:Nat} {m:A8} (hm:t.ev.moves[k]? =some m):a0l t kind i (k+1)=if k≠i∧a5i t.ev k=true then a0l t kind i k++[y5 k 2 ((0:Int):Rat)] else a0l t kind i k:=by
 unfold a0l;conv=>lhs;unfold u0
 rw [hm,a9e hm];simp only [lbJ];by_cases h1:w9 t.ev m.src=0
 ·rw [if_pos h1];unfold P6;rw [lb9,lbD];by_cases h2:k≠i
  ·rw [if_pos ⟨h2,h1⟩];simp [h2]
  ·rw [if_neg (fun h=>h2 h.1)];simp [h2]
 ·rw [if_neg h1,if_neg (fun h=>h1 h.2)]
def b1q {t:j6} {kind:Int} {i k:Nat} (hm:t.ev.moves.length<=14) (hc:t.cleans.length<=50) (hk:k<=14):(a0l t kind i k).length<=750:=by
 unfold a0l;have hl:=X3 (t:=B9 t) (kind:=kind) t.ev.moves.length;have hl2:t.ev.moves.length*(2+(B9 t).finds.length+(B9 t).cleans.length)<=14*52:=lbU hm (by show 2+0+t.cleans.length<=52;omega);have hl3:=a3o (u0 t.ev k) i;have hl4:=B1 (e:=t.ev) k;have hl7:(U8 (B9 t) kind).rows.length<=14*52:=lbT hl hl2;rw [lbq];omega
def a8k (t:j6) (hs:t.Sized) (find:Int) (f:P5) (hf:t.finds[find.toNat]? =some f) (i:Nat) (h:X5 t find i=true) (hm:t.ev.moves.length<=14):
 d6 Tryz.prog 42 [trS t,c9 .i64 find,c9 .i64 i] [] (.tup [S9 (u4 t f.kind i),c9 .i64 0]) []:=by
 have fi:=a5a t hs find
 unfold X5 at h
 obtain ⟨h1,h2⟩:=(lbO _ _).mp h
 rw [h1] at fi
 obtain ⟨h3,h4,_⟩:=a3P h1
 obtain ⟨q1,q2,q3,q4,q5⟩:=v3 h3
 have hg:=I0 q4 f (lbm hf)
 have h5:=(lbM h2).2
 rw [lbZ] at h5
 have il:i<t.ev.moves.length:=by
  obtain ⟨m,hm,_⟩:=a0h.1 h5
  exact (lbe.1 hm).1
 have m1:(t.ev.moves.map A8.row).length=t.ev.moves.length:=zq
 have lf:=a8p t.ev q1 i il
 have e1:a5i t.ev i=true:=lbI h5
 rw [e1] at lf
 have sy:=fun H:Hp=>b2o t f.kind hs h3 om om H
 have i0:=a5s 0 de de
 have eM0:a0l t f.kind i 0=(U8 (B9 t) f.kind).rows:=by unfold a0l u0 P6;simp
 (refine ac Tryz.func42 ?_;(conv=>whnf);repeat ((first|refine b0x ?_|refine zy ?_);conv=>whnf))
 repeat' (first|refine zx ?_|refine qp fi ?_|refine qp lf ?_|refine x5 h4 hf ?_|refine .inl ⟨_,_,sy _,?_⟩|refine bl0 [10] ?_|refine zd ?_ ?_<;>intro h<;>try omega|fail)<;>conv=>whnf
 all_goals try omega
 refine i7 d9 (fun k=>([J,J,c9 .i64 i,S.c (C.t (T.ptr (trT t))),J,J,S.c (C.ptr 0 0 0),J,J,S.c (C.ptr 1 0 0),J,c9 .i64 k]++Jn 63,[a8n,a8K t.ev.moves.length 2 (a0l t f.kind i k).length,Z0 (a0l t f.kind i k)])) t.ev.moves.length (fun _=>True) [some 0,some 3,some 2] trivial
  ⟨rfl,rfl,⟨⟨rfl,rfl,rfl,.inr ⟨⟨rfl,rfl,trivial⟩,trivial⟩⟩,⟨rfl,rfl,rfl,.inr ⟨⟨rfl,⟨rfl,rfl,by rw [eM0],fun h=>h⟩,trivial⟩,trivial⟩⟩,d8 (rows:=(a0l t f.kind i 0).map w5) rfl rfl rfl (by rw [eM0]) rfl,trivial⟩,⟨rfl,rfl,⟨rfl,rfl,rfl⟩,⟨rfl,rfl,rfl⟩,rfl,trivial⟩⟩ ?_
 intro k hk _
 have lk:=b1q (t:=t) (kind:=f.kind) (i:=i) (k:=k) hm q3 om
 by_cases hlt:k<t.ev.moves.length
 ·obtain ⟨m,hm2⟩:∃m,t.ev.moves[k]? =some m:=⟨_,lbf hlt⟩
  have lfk:=a8p t.ev q1 k hlt
  have on:=au5 k 1 de de
  rw [aS2 hm2]
  have lA:(a0l t f.kind i k).length<=(Z0 (a0l t f.kind i k)).rows.length:=by show _<=(toC _).length;simp [toC]
  generalize a0l t f.kind i k=R at *
  by_cases hki:k=i
  ·rw [if_neg (fun h=>h.1 hki)]
   cases a5i t.ev k<;>
   ·conv=>whnf
    repeat' (first|refine zx ?_|refine qp lfk ?_|refine zd ?_ ?_<;>intro h<;>try omega|fail)<;>conv=>whnf
    all_goals first
     |omega
     |exact ⟨hlt,trivial,[some 0,some 1,some 2],rfl,rfl,⟨⟨rfl,rfl,rfl,.inr ⟨⟨rfl,rfl,trivial⟩,trivial⟩⟩,⟨rfl,rfl,rfl,.inr ⟨⟨rfl,⟨rfl,rfl,rfl,fun h=>h⟩,trivial⟩,trivial⟩⟩,f5 (e7 _),trivial⟩,⟨rfl,rfl,⟨rfl,rfl,rfl⟩,⟨rfl,rfl,rfl⟩,d7 om,trivial⟩⟩
  ·cases hb:a5i t.ev k with
   |false=>
    rw [hb] at lfk
    rw [if_neg (fun h=>by cases h.2)]
    conv=>whnf
    repeat' (first|refine zx ?_|refine qp lfk ?_|refine zd ?_ ?_<;>intro h<;>try omega|fail)<;>conv=>whnf
    all_goals first
     |omega
     |exact ⟨hlt,trivial,[some 0,some 1,some 2],rfl,rfl,⟨⟨rfl,rfl,rfl,.inr ⟨⟨rfl,rfl,trivial⟩,trivial⟩⟩,⟨rfl,rfl,rfl,.inr ⟨⟨rfl,⟨rfl,rfl,rfl,fun h=>h⟩,trivial⟩,trivial⟩⟩,f5 (e7 _),trivial⟩,⟨rfl,rfl,⟨rfl,rfl,rfl⟩,⟨rfl,rfl,rfl⟩,d7 om,trivial⟩⟩
   |true=>
    rw [hb] at lfk
    rw [if_pos ⟨hki,rfl⟩]
    conv=>whnf
    repeat' (first|refine zx ?_|refine qp lfk ?_|refine qp on ?_|refine qp i0 ?_|refine o6 lA (by simp [toC];omega) ?_|refine bl0 [0,1] ?_|refine zd ?_ ?_<;>intro h<;>try omega|fail)<;>conv=>whnf
    all_goals first
     |omega
     |(refine ⟨hlt,trivial,[some 0,some 1,some 3],rfl,rfl,⟨⟨rfl,rfl,rfl,.inr ⟨⟨rfl,rfl,trivial⟩,trivial⟩⟩,⟨rfl,rfl,rfl,.inr ⟨⟨rfl,⟨rfl,rfl,?_,fun h=>h⟩,trivial⟩,trivial⟩⟩,d8 (rows:=(R++[y5 k 2 ((0:Int):Rat)]).map w5) rfl rfl rfl ?_ rfl,trivial⟩,⟨rfl,rfl,⟨rfl,rfl,rfl⟩,⟨rfl,rfl,rfl⟩,d7 om,trivial⟩⟩
       ·simp [toC]
       ·exact u6 (f:=w5) (x:=y5 k 2 ((0:Int):Rat)) rfl)
 ·have hke:k=t.ev.moves.length:=by omega
  subst hke
  have e9:a0l t f.kind i t.ev.moves.length=(u4 t f.kind i).rows:=rfl
  conv=>whnf
  repeat' (first|refine zx ?_|refine zd ?_ ?_<;>intro h<;>try omega|fail)<;>conv=>whnf
  all_goals first
   |omega
   |(rw [e9];exact n9 ⟨⟨rfl,show VC _ (fun id=>G8 [] id=true) _ _ from s6 rfl rfl (by intro h;cases h) rfl rfl (by rw [lbr]),trivial⟩,rfl,trivial⟩)
structure bA7 (s:j2) (g:List (Int × Rat)) (X:List Rat):Prop where
 h:m9 s X=true
 b:∀v ∈ X,rl v<=201
 p:(∃ z,m9 s z=true∧0<n8 g z)->0<n8 g X
abbrev by7 (row:List C):Blk:={ mode:=.live,elem:=174,size:=8,rows:=[row],box:=true }
def bg4 (s:j2) (g:List (Int × Rat)) (hgl:g.length<=100) (hgb:∀t ∈ g,rl t.2<=200) (o:List Rat) (kind:Int) (value:Fr) (X Y R:List Rat) (hk:kind≠2)
 (le:ec 140 [S9 s,m8 (C4 g)] [] (.tup [by2 ⟨kind,value,X,Y,R⟩,eI 0]) []):
 ec 251 [S9 s,m8 g] [] (p5 (X.map fz)) []:=by
 have m1:(g.map k6).length=g.length:=zq
 (refine U1 d9 Tryz.func251 rfl de ?_;refine y4 d9 ?_;(conv=>whnf);repeat ((first|refine b0x ?_|refine zy ?_);conv=>whnf))
 repeat' (first|refine zz ?_|refine b0x ?_|apply zD<;>intro h<;>try omega|refine zy ?_|fail)<;>conv=>whnf
 (refine y4 d9 ?_;conv=>whnf)
 repeat' (first|refine zx ?_|apply zD<;>intro h<;>try omega)<;>conv=>whnf
 refine a1E d9 ([J,m8 g,S.c (C.t (T.ptr (a1F s))),J,J,m8 (C4 g)]++Jn 65) [] ?_ ?_
 ·conv=>whnf
  repeat' (first|refine zx ?_|apply zD<;>intro h<;>try omega)<;>conv=>whnf
  refine i7 d9 (fun k=>([J,m8 g,S.c (C.t (T.ptr (a1F s))),J,J,S.c (C.own 0 0 k true),eI k]++Jn 64,[H4 ((C4 g).take k)])) g.length tT [none] trivial
   ⟨rfl,rfl,rz,⟨rfl,rfl,rz,d7 rfl,trivial⟩⟩ ?_
  intro k hk _;by_cases hlt:k<g.length
  ·obtain ⟨t,ht⟩:∃t,g[k]? =some t:=⟨_,lbf hlt⟩;have bt:=hgb t (lbm ht);have ne:=bk1 t.2 om;have en:-t.2=t.2*((-1:Int):Rat):=by
    have e1:((-1:Int):Rat)=-1:=rfl;rw [e1];grind
   rw [en] at ne;have lk:((C4 g).take k).length=k:=by rw [lbs,a27];omega
   have lA:k<=(H4 ((C4 g).take k)).rows.length:=by show k<=(toC _).length;simp [toC,a27];omega
   conv=>whnf
   repeat' (first|refine zx ?_|refine f7 ht ?_|refine o6 lA zu ?_|apply zD<;>intro h<;>try omega)<;>conv=>whnf
   all_goals first
    |omega
    |(refine ⟨hlt,trivial,[some 1],rfl,rfl,⟨d8 (rows:=((C4 g).take (k+1)).map k6) rfl rfl rfl ?_ rfl,trivial⟩,⟨rfl,rfl,⟨rfl,rfl,rfl,fun h=>h⟩,d7 om,trivial⟩⟩
      rw [show (C4 g).take (k+1)=_ from a3p g _ ht];exact u6 (f:=k6) (x:=(t.1,t.2*((-1:Int):Rat))) lk.symm)
  ·have hke:k=g.length:=by omega
   subst hke;have e9:(C4 g).take g.length=C4 g:=lbn (by rw [a27];exact lbS _);rw [e9];conv=>whnf
   repeat' (first|refine zx ?_|apply zD<;>intro h<;>try omega)<;>conv=>whnf
   all_goals first|omega|exact ⟨[],rfl,rfl,trivial,⟨.inl rfl,.inl (k8 rfl),.inr (.vc (s6 (k:=H4 (C4 g)) rfl rfl (fun h=>h) rfl rfl (by simp [a27]))),trivial⟩⟩
 have m2:((X.map fz).map t5).length=X.length:=zq;refine p6 d9 _ ?_;conv=>whnf
 repeat' (first|refine zx ?_|apply zD<;>intro h<;>try omega)<;>conv=>whnf
 all_goals try omega
 refine i7 d9 (fun k=>(Jn 7++[sP 0 0 0,J,p5 (X.map fz),eI k]++Jn 60,[by7 (C.t (ti kind)::frC value++[C.t (z4 (X.map fz)),C.t (z4 (Y.map fz)),C.t (z4 (R.map fz))])])) 0 tT [some 0] trivial
  ⟨rfl,rfl,⟨f5 (e7 [ti kind::t5 value++[z4 (X.map fz),z4 (Y.map fz),z4 (R.map fz)]]),trivial⟩,rz⟩ ?_
 intro k hk _;have hk0:k=0:=om;subst hk0;conv=>whnf
 repeat' (first|refine zx ?_|apply zD<;>intro h<;>try omega)<;>conv=>whnf
 all_goals first|omega|exact n9 rfl
def b8u (s:j2) (g:List (Int × Rat)) (hgl:g.length<=100) (hgb:∀t ∈ g,rl t.2<=200) (n:Nat) (a b:Nat->Rat) (hn:n<=1000) (ha:∀j,j<n->rl (a j)<=1000) (hb:∀j,j<n->rl (b j)<=1000)
 (le:ec 140 [S9 s,m8 (C4 g)] [] (.tup [.agg (C.t (ti 2)::frC M4++[.own 0 0 n true,C.t (z4 []),C.t (z4 (rF n b))]),eI 0]) [flB (rF n a)]):
 ec 251 [S9 s,m8 g] [] (p5 (rF n fun j=>a j+b j)) []:=by
 have m1:(g.map k6).length=g.length:=zq
 (refine U1 d9 Tryz.func251 rfl de ?_;refine y4 d9 ?_;(conv=>whnf);repeat ((first|refine b0x ?_|refine zy ?_);conv=>whnf))
 repeat' (first|refine zz ?_|refine b0x ?_|apply zD<;>intro h<;>try omega|refine zy ?_|fail)<;>conv=>whnf
 (refine y4 d9 ?_;conv=>whnf)
 repeat' (first|refine zx ?_|apply zD<;>intro h<;>try omega)<;>conv=>whnf
 refine a1E d9 ([J,m8 g,S.c (C.t (T.ptr (a1F s))),J,J,m8 (C4 g)]++Jn 65) [] ?_ ?_
 ·conv=>whnf
  repeat' (first|refine zx ?_|apply zD<;>intro h<;>try omega)<;>conv=>whnf
  refine i7 d9 (fun k=>([J,m8 g,S.c (C.t (T.ptr (a1F s))),J,J,S.c (C.own 0 0 k true),eI k]++Jn 64,[H4 ((C4 g).take k)])) g.length tT [none] trivial
   ⟨rfl,rfl,rz,⟨rfl,rfl,rz,d7 rfl,trivial⟩⟩ ?_
  intro k hk _;by_cases hlt:k<g.length
  ·obtain ⟨t,ht⟩:∃t,g[k]? =some t:=⟨_,lbf hlt⟩;have bt:=hgb t (lbm ht);have ne:=bk1 t.2 om;have en:-t.2=t.2*((-1:Int):Rat):=by
    have e1:((-1:Int):Rat)=-1:=rfl;rw [e1];grind
   rw [en] at ne;have lk:((C4 g).take k).length=k:=by rw [lbs,a27];omega
   have lA:k<=(H4 ((C4 g).take k)).rows.length:=by show k<=(toC _).length;simp [toC,a27];omega
   conv=>whnf
   repeat' (first|refine zx ?_|refine f7 ht ?_|refine o6 lA zu ?_|apply zD<;>intro h<;>try omega)<;>conv=>whnf
   all_goals first
    |omega
    |(refine ⟨hlt,trivial,[some 1],rfl,rfl,⟨d8 (rows:=((C4 g).take (k+1)).map k6) rfl rfl rfl ?_ rfl,trivial⟩,⟨rfl,rfl,⟨rfl,rfl,rfl,fun h=>h⟩,d7 om,trivial⟩⟩
      rw [show (C4 g).take (k+1)=_ from a3p g _ ht];exact u6 (f:=k6) (x:=(t.1,t.2*((-1:Int):Rat))) lk.symm)
  ·have hke:k=g.length:=by omega
   subst hke;have e9:(C4 g).take g.length=C4 g:=lbn (by rw [a27];exact lbS _);rw [e9];conv=>whnf
   repeat' (first|refine zx ?_|apply zD<;>intro h<;>try omega)<;>conv=>whnf
   all_goals first|omega|exact ⟨[],rfl,rfl,trivial,⟨.inl rfl,.inl (k8 rfl),.inr (.vc (s6 (k:=H4 (C4 g)) rfl rfl (fun h=>h) rfl rfl (by simp [a27]))),trivial⟩⟩
 have m3:((rF n b).map t5).length=n:=by simp [K5]
 refine p6 d9 _ ?_;conv=>whnf
 repeat' (first|refine zx ?_|refine .inr ⟨_,_,le,?_⟩|apply zD<;>intro h<;>try omega)<;>conv=>whnf
 all_goals try omega
 refine i7 d9 (fun k=>(Jn 7++[sP 1 0 0,J,S.c (C.own 0 0 n true),eI k]++Jn 60,[flB (rF n (smF a b k)),by7 (C.t (ti 2)::frC M4++[.own 0 0 n true,C.t (z4 []),C.t (z4 (rF n b))])])) n tT [some 0,some 1] trivial
  ⟨rfl,rfl,⟨d8 (rows:=(rF n a).map t5) rfl rfl rfl rfl (by rw [s9 (g:=smF a b 0) (h:=a) fun j hj=>by unfold smF;rw [if_neg om]]),⟨rfl,rfl,rfl,.inr ⟨⟨rfl,rfl,rfl,rfl,rfl,⟨rfl,rfl,rfl,fun h=>h⟩,rz⟩,trivial⟩⟩,trivial⟩,⟨rz,⟨rfl,rfl,rfl,fun h=>h⟩,rz⟩⟩ ?_
 intro k hk _;by_cases hlt:k<n
 ·have eK:0+(k:Int).toNat=k:=by omega
  have ad:=al7 (a k) (b k) (by have:=ha k hlt;omega) (by have:=hb k hlt;omega);have gp:(rF n (smF a b k))[0+(k:Int).toNat]? =some (fz (a k)):=by rw [eK,E6 hlt];unfold smF;rw [if_neg om]
  have e:t4 (flB (rF n (smF a b k))) ((flB (rF n (smF a b k))).rows.set (0+(k:Int).toNat) (frC (fz (a k+b k))))=flB (rF n (smF a b (k+1))):=by
   rw [I5 eK,S4 hlt];refine congrArg flB (s9 fun j hj=>?_);unfold smF;by_cases h:j=k
   ·subst h;rw [if_pos rfl,if_pos om]
   ·rw [if_neg h];have:(j<k)↔(j<k+1):=om;simp only [this]
  conv=>whnf
  repeat' (first|refine zx ?_|refine a55 rfl hlt ?_|refine p8 gp ?_|refine bl0 [12] ?_|refine bl0 [13] ?_|refine bl0 [4] ?_|refine bl0 [4,12] ?_|apply zD<;>intro h<;>try omega)<;>conv=>whnf
  all_goals first|omega|exact ⟨hlt,trivial,[some 0,some 1],rfl,rfl,⟨⟨rfl,rfl,rfl,.inl ⟨congrArg Blk.rows e,(congrArg Blk.rows e) ▸ e7 _⟩⟩,⟨rfl,rfl,rfl,.inr ⟨⟨rfl,rfl,rfl,rfl,rfl,⟨rfl,rfl,rfl,fun h=>h⟩,rz⟩,trivial⟩⟩,trivial⟩,⟨rz,⟨rfl,rfl,rfl,fun h=>h⟩,d7 om,trivial⟩⟩
 ·have hke:k=n:=by omega
  subst hke;have e1:rF k (smF a b k)=rF k fun j=>a j+b j:=s9 fun j hj=>by unfold smF;rw [if_pos hj]
  rw [← e1];conv=>whnf
  repeat' (first|refine zx ?_|apply zD<;>intro h<;>try omega)<;>conv=>whnf
  all_goals first|omega|exact I4 rfl (fun h=>h) rfl rfl (by simp [K5])
def bx1 (s:j2) (g:List (Int × Rat)) (h:I8 s) (hz:∃z,m9 s z=true) (hg:j9 (-1) ((s.n.toNat:Nat):Int) g=true) (hw:z5 g) (hp:∀z,m9 s z=true->0<=n8 g z):
 ∃X,bA7 s g X∧ec 251 [S9 s,m8 g] [] (p5 (X.map fz)) []:=by
 have hL:LJ s (C4 g):=⟨h,a0u hw,Y1 hg⟩;have hn9:=h.n;have hn0:=L3 h.r;have hgl:=v8 hg;have hgb:∀t ∈ g,rl t.2<=200:=fun t ht=>lbT (D5 hw t ht) de
 obtain ⟨z0,hz0⟩:=hz;rcases a6P (j1 s) (C4 g) with hb|⟨r,hr⟩|⟨c,hc⟩
 ·obtain ⟨Y,hY⟩:=b9s s (C4 g) hL hb;have o:=b7e hL.sm hL.w hL.tg hb Y;obtain ⟨o1,o2,o3⟩:=o.found rfl;refine ⟨_,⟨o1,fun v hv=>lbT (o.bx v hv) de,fun ⟨z,hz,hpz⟩=>?_⟩,bg4 s g om hgb [] 0 _ _ Y [] de hY⟩;have this:n8 (C4 g) (u9 (j1 s) (C4 g))<=n8 (C4 g) z:=o3 z hz;rw [a0M (s:=s) (g:=g),a0M (s:=s) (g:=g)] at this;show 0<n8 g (u9 (j1 s) (C4 g));generalize n8 g (u9 (j1 s) (C4 g))=A at *;generalize n8 g z=B at *;grind
 ·rw [b36 hr z0] at hz0;cases hz0
 ·rcases a6P (j1 s) [] with hb|⟨r,hr⟩|⟨c',hc'⟩
  ·have o:=bg3 hL.sm hL.w hL.tg hc hb;obtain ⟨o1,o2,o3⟩:=o.free rfl;have le:=b5R s (C4 g) c hL hc hb;have pl:(u9 (j1 s) []).length=s.n.toNat:=S8;have rlen:(a1W (j1 s) (C4 g) c).length=s.n.toNat:=o2.len;have o1:m9 s (u9 (j1 s) [])=true:=o1;have o2:b5f s (a1W (j1 s) (C4 g) c):=o2;have o3:n8 (C4 g) (a1W (j1 s) (C4 g) c)<0:=o3;have bx:∀v ∈ u9 (j1 s) [],rl v<=100:=o.bx;have br:∀v ∈ a1W (j1 s) (C4 g) c,rl v<=100:=o.br;generalize u9 (j1 s) []=P at *;generalize a1W (j1 s) (C4 g) c=R at *;have gx:∀(x:List Rat),(∀ v ∈ x,rl v<=100)->∀j,j<x.length->rl (x.getD j 0)<=1000:=fun x hx j hj=>by
    rw [lbl,lbf hj];exact lbT (hx _ (lbF hj)) de
   rw [Y6 P,Y6 R,pl,rlen] at le;have fr:=b8u s g om hgb s.n.toNat _ _ om (fun j hj=>gx P bx j om) (fun j hj=>gx R br j om) le;have e:(rF s.n.toNat fun j=>P.getD j 0+R.getD j 0)=(Z3 P R).map fz:=by
    rw [Y6 (Z3 P R),a1G pl rlen];exact s9 fun j hj=>(a4e pl rlen hj).symm
   rw [e] at fr;refine ⟨Z3 P R,⟨aD6 o1 o2,aH2 bx br,fun _=>?_⟩,fr⟩;rw [a2k pl rlen hg];rw [a0M (s:=s) (g:=g)] at o3;have:=hp _ o1;grind
  ·rw [b36 hr z0] at hz0;cases hz0
  ·exact absurd hc' (b3q (by rw [a5T];exact h.r))
def b4U {e:Ev} {m:A8} (h:L2 e m=true):m.src≠m.dst:=by
 unfold L2 at h;simp only [lbO,lbJ] at h;exact h.1.1.1.1.1.2
def b6D (e:Ev) (h0:F3 e=0) (hm:e.moves.length<=1000) (p:Nat):ec 249 [evS e,eI p] [] (m8 (k9 e p e.moves.length)) []:=by
 have m1:(e.moves.map A8.row).length=e.moves.length:=zq;refine ac Tryz.func249 ?_;conv=>whnf
 repeat' (first|refine zz ?_|refine b0x ?_|apply zD<;>intro h<;>try omega|refine zy ?_|fail)<;>conv=>whnf
 refine i7 d9 (fun k=>([J,eI p,S.c (C.t (T.ptr (evT e))),J,J,S.c (C.own 0 0 (k9 e p k).length true),eI k]++Jn 32,[H4 (k9 e p k)])) e.moves.length tT [none] trivial
  rz ?_
 intro k hk _;have l3:=a1I (e:=e) (p:=(p:Int)) k;by_cases hlt:k<e.moves.length
 ·obtain ⟨m,hmm⟩:∃m,e.moves[k]? =some m:=⟨_,lbf hlt⟩;have hne:=b4U (O9 h0 (lbm hmm));have on:=au5 k 1 de de;have on2:=au5 k (-1) de de;have lA:(k9 e p k).length<=(H4 (k9 e p k)).rows.length:=by show _<=(toC _).length;simp [toC]
  have eS:k9 e p (k+1)=if m.dst=p then k9 e p k++[((k:Int),((1:Int):Rat))] else if m.src=p then k9 e p k++[((k:Int),((-1:Int):Rat))] else k9 e p k:=by
   conv=>lhs;unfold k9
   rw [hmm]
  by_cases h1:m.dst=p
  ·rw [if_pos h1] at eS;rw [eS];conv=>whnf
   repeat' (first|refine zx ?_|refine f7 hmm ?_|refine o6 lA zu ?_|apply zD<;>intro h<;>try omega)<;>conv=>whnf
   all_goals first
    |omega
    |(refine ⟨hlt,trivial,[some 1],rfl,rfl,⟨d8 (rows:=(k9 e p k++[((k:Int),((1:Int):Rat))]).map k6) rfl rfl rfl ?_ rfl,trivial⟩,⟨rfl,rfl,⟨rfl,rfl,?_,fun h=>h⟩,d7 om,trivial⟩⟩
      ·exact u6 (f:=k6) (x:=((k:Int),((1:Int):Rat))) rfl
      ·simp [toC])
  rw [if_neg h1] at eS;by_cases h2:m.src=p
  ·rw [if_pos h2] at eS;rw [eS];conv=>whnf
   repeat' (first|refine zx ?_|refine f7 hmm ?_|refine o6 lA zu ?_|apply zD<;>intro h<;>try omega)<;>conv=>whnf
   all_goals first
    |omega
    |(refine ⟨hlt,trivial,[some 1],rfl,rfl,⟨d8 (rows:=(k9 e p k++[((k:Int),((-1:Int):Rat))]).map k6) rfl rfl rfl ?_ rfl,trivial⟩,⟨rfl,rfl,⟨rfl,rfl,?_,fun h=>h⟩,d7 om,trivial⟩⟩
      ·exact u6 (f:=k6) (x:=((k:Int),((-1:Int):Rat))) rfl
      ·simp [toC])
  rw [if_neg h2] at eS;rw [eS];conv=>whnf
  repeat' (first|refine zx ?_|refine f7 hmm ?_|apply zD<;>intro h<;>try omega)<;>conv=>whnf
  all_goals first|omega|exact ⟨hlt,trivial,[some 0],rfl,rfl,⟨f5 (e7 _),trivial⟩,⟨rfl,rfl,⟨rfl,rfl,rfl,fun h=>h⟩,d7 om,trivial⟩⟩
 ·have hke:k=e.moves.length:=by omega
  subst hke;conv=>whnf
  repeat' (first|refine zx ?_|apply zD<;>intro h<;>try omega)<;>conv=>whnf
  all_goals first|omega|exact I4 rfl (fun h=>h) rfl rfl zq
def b74 (e:Ev) (h0:F3 e=0) (hm:e.moves.length<=1000) (hp:e.places.length<=1000):ec 178 [evS e] [] (X0 (v4 e)) []:=by
 have m1:(e.moves.map A8.row).length=e.moves.length:=zq;have m2:(e.places.map K8.row).length=e.places.length:=zq;unfold v4;refine ac Tryz.func178 ?_;conv=>whnf
 repeat' (first|refine zz ?_|refine b0x ?_|apply zD<;>intro h<;>try omega|refine zy ?_|fail)<;>conv=>whnf
 refine i7 d9 (fun k=>([J,S.c (C.t (T.ptr (evT e))),J,S.c (C.own 0 0 k true),eI k]++Jn 37,[a4x (B8 e k 0)])) e.moves.length tT [none] trivial
  rz ?_
 intro k hk _;have l1:=a31 e k 0;by_cases hlt:k<e.moves.length
 ·have on:=au5 k 1 de de;have lA:k<=(a4x (B8 e k 0)).rows.length:=by show _<=(toC _).length;simp [toC,l1]
  rw [aX7];conv=>whnf
  repeat' (first|refine zx ?_|refine o6 lA zu ?_|apply zD<;>intro h<;>try omega)<;>conv=>whnf
  all_goals first
   |omega
   |(refine ⟨hlt,trivial,[some 1],rfl,rfl,⟨d8 (rows:=(B8 e k 0++[D4 k]).map P3) rfl rfl rfl ?_ rfl,trivial⟩,⟨rfl,⟨rfl,rfl,rfl,fun h=>h⟩,d7 om,trivial⟩⟩
     exact u6 (f:=P3) (x:=D4 k) om)
 have hke:k=e.moves.length:=om;subst hke;conv=>whnf
 repeat' (first|refine zx ?_|apply zD<;>intro h<;>try omega)<;>conv=>whnf
 all_goals try omega
 refine i7 d9 (fun p=>([J,S.c (C.t (T.ptr (evT e))),J,S.c (C.own 0 0 (e.moves.length+p) true),J,eI p]++Jn 36,[a4x (B8 e e.moves.length p)])) e.places.length tT [some 0] trivial
  ⟨rfl,rfl,⟨d8 (rows:=(B8 e e.moves.length 0).map P3) rfl rfl rfl rfl rfl,trivial⟩,⟨rfl,⟨rfl,rfl,rfl,fun h=>h⟩,rz⟩⟩ ?_
 intro p hpl _;have l2:=a31 e e.moves.length p;by_cases hlt:p<e.places.length
 ·obtain ⟨pl,hpp⟩:∃pl,e.places[p]? =some pl:=⟨_,lbf hlt⟩;have hkp:w9 e p=pl.kind:=by unfold w9;simp [hpp]
  have lA:e.moves.length+p<=(a4x (B8 e e.moves.length p)).rows.length:=by show _<=(toC _).length;simp [toC,l2]
  have stk:=b6D e h0 hm p;rw [aU6];by_cases hb:pl.kind=0
  ·have e0:x6 e p e.moves.length=[]:=by unfold x6;rw [hkp,if_pos hb]
   rw [e0];conv=>whnf
   repeat' (first|refine zx ?_|refine f7 hpp ?_|refine o6 lA zu ?_|apply zD<;>intro h<;>try omega)<;>conv=>whnf
   all_goals try omega
   have eT:toC ((B8 e e.moves.length p++[([]:List (Int × Rat))]).map P3)=toC ((B8 e e.moves.length p).map P3)++[[C.t (Z5 [])]]:=by simp [toC,P3]
   have eK:List.take (e.moves.length+p) (toC ((B8 e e.moves.length p).map P3))=toC ((B8 e e.moves.length p).map P3):=lbn (by simp [toC,l2]);have eR:∀H:Hp,a4o [some 1] H (List.take (e.moves.length+p) (toC ((B8 e e.moves.length p).map P3))++[[C.t (.sl 0 .nil [])]]) (toC ((B8 e e.moves.length p++[([]:List (Int × Rat))]).map P3)):=fun H=>by
    rw [eT,eK];exact a9P (x:=C.t (T.sl 0 .nil [])) (y:=C.t (Z5 [])) (show a3B (Z5 []) (T.sl 0 .nil [])=Z5 [] from rfl)
   exact ⟨hlt,trivial,[some 1],rfl,rfl,⟨⟨rfl,rfl,rfl,.inr (eR _)⟩,trivial⟩,⟨rfl,⟨rfl,rfl,rfl,fun h=>h⟩,d7 om,trivial⟩⟩
  ·have e0:x6 e p e.moves.length=k9 e p e.moves.length:=by unfold x6;rw [hkp,if_neg hb]
   rw [e0];conv=>whnf
   repeat' (first|refine zx ?_|refine qp stk ?_|refine f7 hpp ?_|refine o6 lA zu ?_|apply zD<;>intro h<;>try omega)<;>conv=>whnf
   all_goals first
    |omega
    |(refine ⟨hlt,trivial,[some 1],rfl,rfl,⟨d8 (rows:=(B8 e e.moves.length p++[k9 e p e.moves.length]).map P3) rfl rfl rfl ?_ rfl,trivial⟩,⟨rfl,⟨rfl,rfl,rfl,fun h=>h⟩,d7 om,trivial⟩⟩
      exact u6 (f:=P3) (x:=k9 e p e.moves.length) om)
 ·have hpe:p=e.places.length:=by omega
  subst hpe;conv=>whnf
  repeat' (first|refine zx ?_|apply zD<;>intro h<;>try omega)<;>conv=>whnf
  all_goals first|omega|exact I4 rfl (fun h=>h) rfl rfl (by simp [l2])
structure b7l (s:j2) (gL:List (List (Int × Rat))) (out:List Bool):Prop where
 l:out.length=gL.length
 s:∀i,i<gL.length->out.getD i false=true->(isF s gL).getD i false=true
def ap1:∀n,k7 (fun _=>0) n=0
 |0=>rfl
 |n+1=>by show k7 _ n+0=0;rw [ap1 n];grind
def ai2 {gL:List (List (Int × Rat))} {out:List Bool} {X:List Rat} {i:Nat} (h:i<gL.length):(a0L gL out X gL.length).getD i false=(out.getD i false || a14 (gL.getD i []) X):=by
 unfold a0L;rw [lbl,lba,T8 h];simp [h]
def b7V {s:j2} {gL:List (List (Int × Rat))} {out:List Bool} {X:List Rat} (h:a1b s gL) (hI:b7l s gL out) (hX:m9 s X=true):b7l s gL (a0L gL out X gL.length):=by
 refine ⟨a0E _ _ _ _,fun i hi ho=>?_⟩;rw [ai2 hi,lbP] at ho;rcases ho with ho|ho
 ·exact hI.s i hi ho
 ·exact (aN5 h hi).2 ⟨X,hX,lbM ho⟩
def b9f {s:j2} {gL:List (List (Int × Rat))} {out:List Bool} {X:List Rat} (h:a1b s gL) (hI:b7l s gL out) (hF:bA7 s (G4 gL out gL.length) X) (hm:a0R gL out X gL.length=false):out=isF s gL:=by
 refine a1r (by rw [hI.l];exact (L6 _ _ _).symm) fun i hi=>?_
 rw [hI.l] at hi;cases ho:out.getD i false with
 |true=>exact (hI.s i hi ho).symm
 |false=>
  cases hf:(isF s gL).getD i false with
  |false=>rfl
  |true=>
   exfalso;obtain ⟨z,hz,hp⟩:=(aN5 h hi).1 hf;have h1:0<n8 (G4 gL out gL.length) z:=by
    rw [a6y h out z _ (lbS _)];have h0:=aU7 (f:=fun i=>if out.getD i false=true then 0 else n8 (gL.getD i []) z) (n:=gL.length) (p:=i) (fun j hj=>by
     show 0<=(if out.getD j false=true then (0:Rat) else n8 (gL.getD j []) z);split
     ·exact lb4
     ·exact h.p _ (N3 hj) z hz) hi
    have h0:(if out.getD i false=true then (0:Rat) else n8 (gL.getD i []) z)<=_:=h0;rw [ho,if_neg de] at h0;grind
   have h2:=hF.p ⟨z,hz,h1⟩;rw [a6y h out X _ (lbS _)] at h2;have h3:∀j,j<gL.length->(if out.getD j false=true then (0:Rat) else n8 (gL.getD j []) X)=0:=fun j hj=>by
    cases hoj:out.getD j false with
    |true=>rw [if_pos rfl]
    |false=>
     rw [if_neg de];have h4:(!out.getD j false && a14 (gL.getD j []) X)=false:=by
      unfold a0R at hm;rw [a9h] at hm;have:=hm j (lbC.2 hj);simpa using this
     rw [hoj] at h4;have h4:a14 (gL.getD j []) X=false:=h4;have h5:¬0<n8 (gL.getD j []) X:=lbN h4;have h6:=h.p _ (N3 hj) X hF.h;grind
   rw [j7 (g:=fun _=>0) h3,ap1] at h2;exact absurd h2 zk
def b6A {s:j2} {gL:List (List (Int × Rat))} {out:List Bool} {X:List Rat} (hI:b7l s gL out) (hm:a0R gL out X gL.length=true):a8r out<a8r (a0L gL out X gL.length):=by
 refine (a9S (by rw [hI.l,a0E]) fun i ho=>?_).2 fun he=>?_
 ·by_cases hi:i<gL.length
  ·rw [ai2 hi,ho];rfl
  ·rw [lbl,lbd (by rw [hI.l];omega)] at ho;cases ho
 ·unfold a0R at hm;obtain ⟨j,hj,hp⟩:=lbx.1 hm;have hj:=lbC.1 hj;rw [lbO] at hp;have h1:=ai2 (out:=out) (X:=X) hj;rw [← he,hp.2,Bool.or_true] at h1;rw [h1] at hp;exact absurd hp.1 de
def b1T (s:j2) (gL:List (List (Int × Rat))) (h:a7E s gL):ec 179 [S9 s,X0 gL] [] (a99 (isF s gL)) []:=by
 have hG:=h;have hL:=h.l;have h9:=h.sm.n;have hn:=L3 h.sm.r;have hz:∃z,m9 s z=true:=⟨_,a6B h.p []⟩;have m1:(gL.map P3).length=gL.length:=zq;have eR:List.replicate (((gL.map P3).length:Nat):Int).toNat [B6 (Value.bool false)]=toC ((List.replicate gL.length false).map V9):=by
  rw [lbZ,m1];simp [toC,V9];exact .inr rfl
 refine ac Tryz.func179 ?_;conv=>whnf
 repeat' (first|refine zz ?_|refine b0x ?_|refine a0x om om om de ?_|apply zD<;>intro h<;>try omega|refine zy ?_|fail)<;>conv=>whnf
 refine o9 d9 (σ:=List Bool) (fun out=>([J,X0 gL,S.c (C.t (T.ptr [ti s.n,J7 s.rows])),J,J,S.c (C.own 0 0 gL.length true)]++Jn 64,[I3 out])) (b7l s gL) (fun out=>gL.length - a8r out) (List.replicate gL.length false) [some 0]
  ⟨zq,fun i hi ho=>by rw [lbl,lbk,if_pos hi] at ho;cases ho⟩
  ⟨rfl,rfl,⟨⟨rfl,rfl,rfl,.inl ⟨eR,eR ▸ e7 _⟩⟩,trivial⟩,⟨rfl,rfl,⟨rfl,rfl,om,fun h=>h⟩,trivial⟩⟩ ?_
 intro out hI;have olen:=hI.l;show a3g _ _ _ _ ([J,X0 gL,S.c (C.t (T.ptr [ti s.n,J7 s.rows])),J,J,S.c (C.own 0 0 gL.length true)]++Jn 64) [I3 out] _;conv=>whnf
 repeat' (first|refine zx ?_|apply zD<;>intro h<;>try omega)<;>conv=>whnf
 refine i7 d9 (fun i=>([J,X0 gL,S.c (C.t (T.ptr [ti s.n,J7 s.rows])),J,J,S.c (C.own 0 0 gL.length true),m8 (G4 gL out i),eI i]++Jn 62,[I3 out])) gL.length tT [some 0] trivial
  ⟨rfl,rfl,⟨f5 (e7 _),trivial⟩,⟨rfl,rfl,⟨rfl,rfl,rfl,fun h=>h⟩,(show a3B (Z5 []) (T.sl 0 .nil [])=Z5 [] from rfl),rz⟩⟩ ?_
 intro i hi _;by_cases hil:i<gL.length
 ·obtain ⟨g,hg⟩:∃g,gL[i]? =some g:=⟨_,lbf hil⟩;have hgd:gL.getD i []=g:=by rw [lbl,hg];rfl
  obtain ⟨b,hb⟩:∃b,out[i]? =some b:=⟨_,lbf om⟩;have hbd:out.getD i false=b:=by rw [lbl,hb];rfl
  have gp:out[0+(i:Int).toNat]? =some b:=by rw [O5,show (i:Int).toNat=i by omega];exact hb
  have eS:G4 gL out (i+1)=if b=true then G4 gL out i else u3 (G4 gL out i) g:=by
   conv=>lhs;unfold G4
   rw [hbd,hgd]
  rw [eS];have pl:=bv9 (G4 gL out i) g (a0w om (W7 h.p out i om)) (a0w om (h.p.g g (lbm hg)))
   (fun t ht=>by have:=D5 (a6e h out i om) t ht;omega) (fun t ht=>by have:=D5 (a2K (h.w g (lbm hg)) de) t ht;omega)
  cases b with
  |true=>
   rw [if_pos rfl];conv=>whnf
   repeat' (first|refine zx ?_|refine f7 hg ?_|refine a5P gp ?_|apply zD<;>intro h<;>try omega)<;>conv=>whnf
   all_goals first
    |omega
    |exact ⟨hil,trivial,[some 0],rfl,rfl,⟨f5 (e7 _),trivial⟩,⟨rfl,rfl,⟨rfl,rfl,rfl,fun h=>h⟩,rfl,d7 om,trivial⟩⟩
  |false=>
   rw [if_neg de];conv=>whnf
   repeat' (first|refine zx ?_|refine f7 hg ?_|refine a5P gp ?_|apply zD<;>intro h<;>try omega)<;>conv=>whnf
   all_goals first|omega|exact ⟨hil,trivial,[some 0],rfl,rfl,⟨f5 (e7 _),trivial⟩,⟨rfl,rfl,⟨rfl,rfl,rfl,fun h=>h⟩,rfl,d7 om,trivial⟩⟩
 have hie:i=gL.length:=om;subst hie;obtain ⟨x,hF,fa⟩:=bx1 s (G4 gL out gL.length) h.sm hz (W7 h.p out _ (lbS _)) (a6e h out _ (lbS _)) (ak1 h.p out).p;have xl:x.length=s.n.toNat:=by have:=(S1 hF.h).2;omega
 have va:∀g ∈ gL,ec 157 [m8 g,p5 (x.map fz)] [] (.tup [frS (fz (n8 g x)),j8 true]) []:=fun g hg=>by
  have hw:=a2K (h.w g hg) de;have hr:=h.p.g g hg;have hl:=v8 hr;exact aH8 g x om (fun t ht=>lbT (D5 hw t ht) de) (fun v hv=>lbT (hF.b v hv) de) (fun k=>by
   have h1:=a2u (D5 hw) hF.b k;have h4:=lbV (201+4) (show g.length<=9 by omega);omega) om (by rw [xl];exact hr)
 have sg:∀g ∈ gL,ec 92 [frS (fz (n8 g x))] [] (eI (sgR (n8 g x))) []:=fun g hg=>by
  have hw:=a2K (h.w g hg) de;have hl:=v8 (h.p.g g hg);have h1:=a2u (D5 hw) hF.b g.length;rw [lbn (lbS _)] at h1;have h4:=lbV (201+4) (show g.length<=9 by omega);exact a6j (n8 g x) om
 conv=>whnf
 repeat' (first|refine zx ?_|apply zD<;>intro h<;>try omega)<;>conv=>whnf
 all_goals try omega
 refine i7 d9 (fun i=>([J,X0 gL,S.c (C.t (T.ptr [ti s.n,J7 s.rows])),J,J,S.c (C.own 0 0 gL.length true),J,J,p5 (x.map fz),j8 (a0R gL out x i),eI i]++Jn 59,[I3 (a0L gL out x i)])) gL.length tT [some 0] trivial
  ⟨rfl,rfl,⟨d8 (rows:=out.map V9) rfl rfl rfl rfl (by rw [az3 olen]),trivial⟩,⟨rfl,rfl,⟨rfl,rfl,rfl,fun h=>h⟩,rz⟩⟩ ?_
 intro i hi _;by_cases hil:i<gL.length
 ·obtain ⟨g,hg⟩:∃g,gL[i]? =some g:=⟨_,lbf hil⟩;have hgd:gL.getD i []=g:=by rw [lbl,hg];rfl
  obtain ⟨b,hb⟩:∃b,out.getD i false=b:=⟨_,rfl⟩;have gp:(a0L gL out x i)[0+(i:Int).toNat]? =some b:=by rw [O5,show (i:Int).toNat=i by omega,aY2 hil,hb]
  have va:=va g (lbm hg);have sg:=sg g (lbm hg);have sp:=a9q (x:=n8 g x);rw [at9,hb,hgd];have eM:0+(i:Int).toNat=i:=om;generalize a0R gL out x i=mo;cases b with
  |true=>
   rw [a6z (.inl hb)];cases mo<;>
   ·conv=>whnf
    repeat' (first|refine zx ?_|refine f7 hg ?_|refine a5P gp ?_|refine bl0 [8] ?_|apply zD<;>intro h<;>try omega)<;>conv=>whnf
    all_goals first
     |omega
     |exact ⟨hil,trivial,[some 0],rfl,rfl,⟨f5 (e7 _),trivial⟩,⟨rfl,rfl,⟨rfl,rfl,rfl,fun h=>h⟩,rfl,rfl,d7 om,trivial⟩⟩
  |false=>
   cases hq:a14 g x with
   |false=>
    have hq0:¬0<n8 g x:=lbN hq;have hs0:¬sgR (n8 g x) > 0:=fun h=>hq0 (sp.1 h)
    rw [a6z (.inr (by rw [hgd];exact hq))];generalize sgR (n8 g x)=U at sg hs0;cases mo<;>
    ·conv=>whnf
     repeat' (first|refine zx ?_|refine f7 hg ?_|refine a5P gp ?_|refine bl0 [8] ?_|apply zD<;>intro h<;>try omega)<;>conv=>whnf
     all_goals first
      |omega
      |exact ⟨hil,trivial,[some 0],rfl,rfl,⟨f5 (e7 _),trivial⟩,⟨rfl,rfl,⟨rfl,rfl,rfl,fun h=>h⟩,rfl,rfl,d7 om,trivial⟩⟩
   |true=>
    have hs0:sgR (n8 g x) > 0:=sp.2 (lbM hq);have eB:=ac5 (l:=a0L gL out x i) eM;rw [b0N hil (by rw [hgd];exact hq)] at eB;generalize sgR (n8 g x)=U at sg hs0;cases mo<;>
    ·conv=>whnf
     repeat' (first|refine zx ?_|refine f7 hg ?_|refine a5P gp ?_|refine bl0 [8] ?_|apply zD<;>intro h<;>try omega)<;>conv=>whnf
     all_goals first|omega|exact ⟨hil,trivial,[some 0],rfl,rfl,⟨⟨rfl,rfl,rfl,.inl ⟨congrArg Blk.rows eB,(congrArg Blk.rows eB) ▸ e7 _⟩⟩,trivial⟩,⟨rfl,rfl,⟨rfl,rfl,rfl,fun h=>h⟩,rfl,rfl,d7 om,trivial⟩⟩
 have hie:i=gL.length:=om;subst hie;cases hmo:a0R gL out x gL.length with
 |true=>
  have hI2:=b7V hG.p hI hF.h;have hc:=b6A hI hmo;have hc2:=aR3 (a0L gL out x gL.length);rw [a0E] at hc2;generalize a0L gL out x gL.length=O2 at hI2 hc hc2;conv=>whnf
  repeat' (first|refine zx ?_|apply zD<;>intro h<;>try omega)<;>conv=>whnf
  all_goals first
   |omega
   |exact ⟨[some 0],O2,⟨rfl,rfl,⟨f5 (e7 _),trivial⟩,⟨rfl,rfl,⟨rfl,rfl,rfl,fun h=>h⟩,trivial⟩⟩,hI2,om⟩
 |false=>
  have e1:=b9f hG.p hI hF hmo;have e2:a0L gL out x gL.length=isF s gL:=by
   rw [← e1];refine a1r (by rw [a0E,olen]) fun j hj=>?_
   rw [a0E] at hj;rw [ai2 hj];unfold a0R at hmo;rw [a9h] at hmo;have h3:=hmo j (lbC.2 hj);cases hoj:out.getD j false with
   |true=>rfl
   |false=>
    rw [hoj] at h3;cases hp:a14 (gL.getD j []) x with
    |false=>rfl
    |true=>rw [hp] at h3;exact absurd rfl h3
  have il:(isF s gL).length=gL.length:=L6 _ _ _;rw [e2];generalize isF s gL=I at il;conv=>whnf
  repeat' (first|refine zx ?_|apply zD<;>intro h<;>try omega)<;>conv=>whnf
  all_goals first|omega|exact I4 rfl (fun h=>h) rfl rfl (by rw [lbr,il])
noncomputable def a3F (t:j6) (kind:Int) (mv k:Nat):List Nat:=(u0 t.ev k).filter fun i=>(isA t kind i).getD mv false
def b4z {t:j6} {kind:Int} {mv k:Nat} (hk:k<t.ev.moves.length):a3F t kind mv (k+1)=if a5i t.ev k=true∧(isA t kind k).getD mv false=true then a3F t kind mv k++[k] else a3F t kind mv k:=by
 obtain ⟨m,hm⟩:∃m,t.ev.moves[k]? =some m:=⟨_,lbf hk⟩;unfold a3F;conv=>lhs;unfold u0
 rw [hm,a9e hm];simp only [lbJ];by_cases h1:w9 t.ev m.src=0
 ·rw [if_pos h1,lb9];cases hb:(isA t kind k).getD mv false with
  |true=>rw [if_pos ⟨h1,rfl⟩,aJ0,if_pos hb];rfl
  |false=>rw [if_neg (fun h=>by cases h.2),aJ0,if_neg (by rw [hb];decide),List.filter_nil,Y7]
 ·rw [if_neg h1,if_neg (fun h=>h1 h.1)]
def b8a (t:j6) (kind:Int) (mv k:Nat):(a3F t kind mv k).length<=k:=lbT (lbt _ _) (B1 _)
def orQ (n:Nat) (o r:List Bool) (j:Nat):List Bool:=(List.range n).map fun g=>if g<j then (o.getD g false || r.getD g false) else o.getD g false
def ai9 (n:Nat) (o r:List Bool) (j:Nat):(orQ n o r j).length=n:=by simp [orQ]
def b7k {n:Nat} {o r:List Bool} (h:o.length=n):orQ n o r 0=o:=by
 refine b37 (by rw [ai9,h]) fun i h1 h2=>?_
 simp [orQ,lbl,lbf h2]
def bi0 {n:Nat} {o r:List Bool} {j:Nat} (h:j<n):(orQ n o r j)[j]? =some (o.getD j false):=by
 unfold orQ;rw [lba,T8 h];simp
def bi9 {n:Nat} {o r:List Bool} {j:Nat} (h:j<n):(orQ n o r j).set j (o.getD j false || r.getD j false)=orQ n o r (j+1):=by
 refine a05 fun i=>?_
 rw [lbg];by_cases hi:i<n
 ·unfold orQ;rw [lba,lba,T8 hi,lbr,lbv];by_cases hij:j=i
  ·subst hij;rw [if_pos rfl,if_pos h];show some _=some (if j<j+1 then (o.getD j false || r.getD j false) else o.getD j false);rw [if_pos (show j<j+1 by omega)]
  ·rw [if_neg hij];show some (if i<j then (o.getD i false || r.getD i false) else o.getD i false)=some (if i<j+1 then (o.getD i false || r.getD i false) else o.getD i false);by_cases hji:i<j
   ·rw [if_pos hji,if_pos om]
   ·rw [if_neg hji,if_neg om]
 ·rw [lbd (by rw [ai9];omega),lbd (by rw [ai9];omega),ai9];by_cases hij:j=i
  ·subst hij;omega
  ·rw [if_neg hij]
def aH6 {l:List Bool} {i n:Nat} {b:Bool} (h:n=i):t4 (I3 l) ((I3 l).rows.set n [C.t (tb b)])=I3 (l.set i b):=by
 subst h;unfold t4;simp [toC,a1R,V9]
noncomputable def a37 (t:j6) (kind:Int) (mv k:Nat):List Bool:=(List.range (v4 t.ev).length).map fun g=>(a3F t kind mv k).any fun i=>(isA t kind i).getD g false
def aX2 (t:j6) (kind:Int) (mv k:Nat):(a37 t kind mv k).length=(v4 t.ev).length:=by simp [a37]
def aB1 {t:j6} {kind:Int} {mv k:Nat} (h:a3F t kind mv (k+1)=a3F t kind mv k):a37 t kind mv (k+1)=a37 t kind mv k:=by unfold a37;rw [h]
def b7v {t:j6} {kind:Int} {mv k:Nat} (h:a3F t kind mv (k+1)=a3F t kind mv k++[k]):orQ (v4 t.ev).length (a37 t kind mv k) (isA t kind k) (v4 t.ev).length=a37 t kind mv (k+1):=by
 unfold orQ;conv=>rhs;unfold a37
 rw [h];refine lbp fun g hg=>?_
 have hg:=lbC.1 hg;rw [if_pos hg,List.any_append]
 congr 1
 ·unfold a37;rw [lbl,lba,T8 hg];rfl
 ·simp
def b54 (t:j6) (kind:Int) (mv:Nat):a37 t kind mv 0=List.replicate (v4 t.ev).length false:=by
 refine a05 fun i=>?_
 unfold a37;rw [lba,lbk];by_cases hi:i<(v4 t.ev).length
 ·rw [T8 hi,if_pos hi];rfl
 ·rw [lbd zo,if_neg hi];rfl
def b8h (t:j6) (hs:t.Sized) (h:QT t) (find:Int) (f:P5) (f0:0<=find) (hf:t.finds[find.toNat]? =some f):
 ec 110 [trS t,eI find] [] (.tup [j3 (D6 (R7 t f.kind f.mv.toNat)),a99 (a37 t f.kind f.mv.toNat t.ev.moves.length)]) []:=by
 have hQ:=h;have hm8:=h.m;have hp20:=h.p;obtain ⟨q1,q2,q3,q4,q5⟩:=v3 h.h;have hg:=I0 q4 f (lbm hf);obtain ⟨mv,hmv⟩:∃mv:Nat,f.mv.toNat=mv:=⟨_,rfl⟩;have hmvl:mv<t.ev.moves.length:=om;have go:=b74 t.ev q1 om om;have gl:=a2j t.ev;have m1:(t.ev.moves.map A8.row).length=t.ev.moves.length:=zq;have m2:((v4 t.ev).map P3).length=(v4 t.ev).length:=zq;have m3:(t.finds.map P5.row).length=t.finds.length:=zq;have eR:List.replicate ((((v4 t.ev).map P3).length:Nat):Int).toNat [B6 (Value.bool false)]=toC ((a37 t f.kind mv 0).map V9):=by
  rw [lbZ,m2,b54];simp [toC,V9];exact .inr rfl
 rw [hmv]
 (refine ac Tryz.func110 ?_;(conv=>whnf);repeat ((first|refine b0x ?_|refine zy ?_);conv=>whnf))
 repeat' (first|refine zx ?_|refine a0x om om om de ?_|apply zD<;>intro h<;>try omega)<;>conv=>whnf
 refine i7 d9 (fun k=>([J,eI find,S.c (C.t (T.ptr (trT t))),J,J,J,sP 0 0 0,S.c (C.own 2 0 (D6 (a3F t f.kind mv k)).length true),X0 (v4 t.ev),S.c (C.own 1 0 (v4 t.ev).length true),eI k]++Jn 66,[evB t.ev,I3 (a37 t f.kind mv k),o8 (D6 (a3F t f.kind mv k))])) t.ev.moves.length tT [some 0,some 1,none] trivial
  ⟨rfl,rfl,⟨⟨rfl,rfl,rfl,.inl ⟨rfl,y6 _⟩⟩,⟨rfl,rfl,rfl,.inl ⟨eR,eR ▸ e7 _⟩⟩,rz⟩,⟨rfl,rfl,rz,rz,rfl,⟨rfl,rfl,om,fun h=>h⟩,rz⟩⟩ ?_
 intro k hk _;have lN:=a03 (a3F t f.kind mv k);have lK:=b8a t f.kind mv k;have lO:=aX2 t f.kind mv k;by_cases hlt:k<t.ev.moves.length
 ·have lf:=a8p t.ev q1 k hlt;have eS:=b4z (t:=t) (kind:=f.kind) (mv:=mv) hlt;cases hb:a5i t.ev k with
  |false=>
   rw [hb] at lf;rw [hb,if_neg (fun h=>by cases h.1)] at eS;rw [aB1 eS,eS];generalize a37 t f.kind mv k=O at lO;generalize D6 (a3F t f.kind mv k)=A at lN;conv=>whnf
   repeat' (first|refine zx ?_|apply zD<;>intro h<;>try omega)<;>conv=>whnf
   all_goals first
    |omega
    |exact ⟨hlt,trivial,[some 0,some 1,some 2],rfl,rfl,⟨⟨rfl,rfl,rfl,.inl ⟨rfl,y6 _⟩⟩,f5 (e7 _),f5 (e7 _),trivial⟩,⟨rfl,rfl,rz,⟨rfl,rfl,rfl,fun h=>h⟩,rfl,⟨rfl,rfl,rfl,fun h=>h⟩,d7 om,trivial⟩⟩
  |true=>
   rw [hb] at lf;have al:=a8k t hs find f hf k (by unfold X5;rw [a1w hQ f0 hf,H9];exact lbI ⟨om,by rw [lbZ];exact lbM hb⟩) om;have re:ec 179 [S9 (u4 t f.kind k),X0 (v4 t.ev)] [] (a99 (isA t f.kind k)) []:=b1T (u4 t f.kind k) (v4 t.ev) (J1 k hQ om om om);have lI:(isA t f.kind k).length=(v4 t.ev).length:=L6 _ _ _;have eA:=b7v (t:=t) (kind:=f.kind) (mv:=mv) (k:=k);have eK:=aB1 (t:=t) (kind:=f.kind) (mv:=mv) (k:=k);have m4:((isA t f.kind k).map V9).length=(v4 t.ev).length:=by rw [lbr,lI]
   obtain ⟨b,hbr⟩:∃b,(isA t f.kind k)[f.mv.toNat]? =some b:=⟨_,lbf om⟩;have hbd:(isA t f.kind k).getD mv false=b:=by rw [lbl,←hmv,hbr];rfl
   rw [hb,hbd] at eS;generalize hr:isA t f.kind k=r at re lI eA m4 hbr;have lA:(D6 (a3F t f.kind mv k)).length<=(o8 (D6 (a3F t f.kind mv k))).rows.length:=by show _<=(toC _).length;simp [toC]
   cases b with
   |false=>
    rw [if_neg (fun h=>by cases h.2)] at eS;rw [eK eS,eS];generalize a37 t f.kind mv k=O at lO;generalize D6 (a3F t f.kind mv k)=A at lN;conv=>whnf
    repeat' (first|refine zx ?_|refine x5 f0 hf ?_|refine x5 hg.1 hbr ?_|refine bl0 [6] ?_|apply zD<;>intro h<;>try omega)<;>conv=>whnf
    all_goals first
     |omega
     |exact ⟨hlt,trivial,[some 0,some 1,some 2],rfl,rfl,⟨⟨rfl,rfl,rfl,.inl ⟨rfl,y6 _⟩⟩,f5 (e7 _),f5 (e7 _),trivial⟩,⟨rfl,rfl,rz,⟨rfl,rfl,rfl,fun h=>h⟩,rfl,⟨rfl,rfl,rfl,fun h=>h⟩,d7 om,trivial⟩⟩
   |true=>
    rw [if_pos rz] at eS;have eA:=eA eS;have eN:D6 (a3F t f.kind mv (k+1))=D6 (a3F t f.kind mv k)++[(k:Int)]:=by rw [eS,a60]
    rw [eN];rw [← eA];generalize a37 t f.kind mv k=O at lO;generalize D6 (a3F t f.kind mv k)=A at lN lA;conv=>whnf
    repeat' (first|refine zx ?_|refine x5 f0 hf ?_|refine x5 hg.1 hbr ?_|refine bl0 [6] ?_|refine o6 lA zu ?_|apply zD<;>intro h<;>try omega)<;>conv=>whnf
    all_goals try omega
    refine i7 d9 (fun j=>([J,eI find,S.c (C.t (T.ptr (trT t))),J,J,J,sP 0 0 0,S.c (C.own 2 0 (A++[(k:Int)]).length true),X0 (v4 t.ev),S.c (C.own 1 0 (v4 t.ev).length true),eI k,J,J,a99 r,eI j]++Jn 62,[evB t.ev,I3 (orQ (v4 t.ev).length O r j),o8 (A++[(k:Int)])])) (v4 t.ev).length tT [some 0,some 1,some 4] trivial
     ⟨rfl,rfl,⟨⟨rfl,rfl,rfl,.inl ⟨rfl,y6 _⟩⟩,d8 (rows:=O.map V9) rfl rfl rfl rfl (by rw [b7k lO]),d8 (rows:=(A++[(k:Int)]).map j0) rfl rfl rfl (u6 (f:=j0) (x:=(k:Int)) rfl) rfl,trivial⟩,⟨rfl,rfl,rz,⟨rfl,rfl,by simp [toC],fun h=>h⟩,rfl,⟨rfl,rfl,rfl,fun h=>h⟩,rz⟩⟩ ?_
    intro j hj _;by_cases hjl:j<(v4 t.ev).length
    ·have eM:0+(j:Int).toNat=j:=by omega
     obtain ⟨c,hc⟩:∃c,r[j]? =some c:=⟨_,lbf om⟩;have hcd:r.getD j false=c:=by rw [lbl,hc];rfl
     obtain ⟨d,hd⟩:∃d,O.getD j false=d:=⟨_,rfl⟩;have gp:(orQ (v4 t.ev).length O r j)[0+(j:Int).toNat]? =some d:=by rw [eM,bi0 hjl,hd]
     have eB:=aH6 (l:=orQ (v4 t.ev).length O r j) (b:=d || c) eM;have eO:=bi9 (o:=O) (r:=r) hjl;rw [hcd,hd] at eO;rw [eO] at eB;cases d<;>cases c<;>
     ·conv=>whnf
      repeat' (first|refine zx ?_|refine f7 hc ?_|refine a5P gp ?_|apply zD<;>intro h<;>try omega)<;>conv=>whnf
      all_goals first|omega|exact ⟨hjl,trivial,[some 0,some 1,some 2],rfl,rfl,⟨⟨rfl,rfl,rfl,.inl ⟨rfl,y6 _⟩⟩,⟨rfl,rfl,rfl,.inl ⟨congrArg Blk.rows eB,(congrArg Blk.rows eB) ▸ e7 _⟩⟩,f5 (e7 _),trivial⟩,⟨rfl,rfl,rz,⟨rfl,rfl,rfl,fun h=>h⟩,rfl,⟨rfl,rfl,rfl,fun h=>h⟩,rfl,rfl,d7 om,trivial⟩⟩
    ·have hje:j=(v4 t.ev).length:=by omega
     rw [hje];generalize orQ (v4 t.ev).length O r (v4 t.ev).length=O2;conv=>whnf
     repeat' (first|refine zx ?_|apply zD<;>intro h<;>try omega)<;>conv=>whnf
     all_goals first|omega|exact ⟨hlt,trivial,[some 0,some 1,some 2],rfl,rfl,⟨⟨rfl,rfl,rfl,.inl ⟨rfl,y6 _⟩⟩,f5 (e7 _),f5 (e7 _),trivial⟩,⟨rfl,rfl,rz,⟨rfl,rfl,rfl,fun h=>h⟩,rfl,⟨rfl,rfl,rfl,fun h=>h⟩,d7 om,trivial⟩⟩
 ·have hke:k=t.ev.moves.length:=by omega
  subst hke;have eE:a3F t f.kind mv t.ev.moves.length=R7 t f.kind mv:=rfl;rw [eE];generalize D6 (R7 t f.kind mv)=A;generalize a37 t f.kind mv t.ev.moves.length=O at lO;conv=>whnf
  repeat' (first|refine zx ?_|apply zD<;>intro h<;>try omega)<;>conv=>whnf
  all_goals first|omega|exact n9 ⟨(show VC _ (fun id=>G8 [] id=true) _ _ from s6 (k:=o8 A) rfl rfl (fun h=>h) rfl rfl zq),(show VC _ (fun id=>G8 [] id=true) _ _ from s6 (k:=I3 O) rfl rfl (fun h=>h) rfl rfl (by rw [lbr,lO])),trivial⟩
def aj0 (t:j6) (hs:t.Sized) (find:Int) (h:a00 t find=false):ec 44 [trS t,eI find] [] (.tup [.c (.t (.sl 0 .nil [])),eI 1]) []:=by
 have fi:=a5a t hs find;rw [h] at fi;refine ac Tryz.func44 ?_;conv=>whnf
 repeat' (first|refine zx ?_|apply zD<;>intro h<;>try omega)<;>conv=>whnf
 all_goals first|omega|exact n9 rz
def b2H (t:j6) (hs:t.Sized) (h:QT t) (find:Int) (f:P5) (f0:0<=find) (hf:t.finds[find.toNat]? =some f):
 ec 44 [trS t,eI find] [] (.tup [j3 (D6 (R7 t f.kind f.mv.toNat)),eI 0]) []:=by
 have fi:=a5a t hs find;rw [a1w h f0 hf] at fi;have al:=b8h t hs h find f f0 hf;refine ac Tryz.func44 ?_;conv=>whnf
 repeat' (first|refine zx ?_|apply zD<;>intro h<;>try omega)<;>conv=>whnf
 all_goals first|omega|exact n9 rz
end Go.Proofs.YtikokmdpigploaaGreat
