/- Part 7. -/
import Derived.RangeFuncBox
import Derived.RangeFuncLeaves
import Derived.Shelf.Abstract
import Derived.Shelf.RegionOpen
import Derived.OwnWalkIn
import Derived.TacticsInMore
import Derived.LoopNIn
import Derived.LoopIn
import Derived.Maps.AppendAt
import Derived.ArgAppend
import Derived.Test.YtikokmdpigploaaGreatProg
import Derived.OrdersIn
import Derived.TacticsIn
import Derived.Test.YtikokmdpigploaaGreatPz6
namespace Go.Proofs.YtikokmdpigploaaGreat
set_option linter.unusedVariables false
set_option linter.unusedSimpArgs false
set_option maxRecDepth 100000
set_option maxHeartbeats 8000000
open Go.RowKit
open St1 St2 St3 St4 St5 St6 St7 St8 StA StB
theorem b5X {e:Ev} {bl:List Bool} {m:Nat} {x:t4} (h:e.moves[m]? =some x):M3 e bl m=m7 (a1N e bl x.dst m) 0 e.moves:=by
 unfold M3;simp [h]
theorem b84 (e:Ev) (hs:e.Sized) (bl:List Bool) (m:Int) (h0:0<=m) (h1:m.toNat<e.moves.length) (hb:bl.length=e.moves.length):
 b9 Tryz.prog 197 [evS e,b7 .i64 m,a2g bl] [] (i7 (M3 e bl m)) []:=by
 obtain ⟨n,rfl⟩:=Int.eq_ofNat_of_zero_le h0
 obtain ⟨x,hx⟩:∃x,e.moves[n]? =some x:=⟨_,lbf (by simpa using h1)⟩
 rw [b5X hx]
 exact bd4 e hs bl n x hx hb
theorem b82 (e:Ev) (hs:e.Sized) (fr t:Nat) (bl:List Bool) (hf:fr<e.moves.length) (ht:t<e.moves.length) (hb:bl.length=e.moves.length) (hbf0:bl.getD fr true=false):
 b9 Tryz.prog 126 [evS e,b7 .i64 fr,b7 .i64 t,a2g bl] [] (i7 (O6 e bl fr t)) []:=by
 have l1:=hs.s2
 have l2:(e.moves.map t4.row).length=e.moves.length:=by simp
 have l3:(bl.map a2t).length=bl.length:=by simp
 have f1:=aj8 e fr bl
 have hfit:a0m e fr bl=true:=a1Z.2 (by omega)
 rw [hfit] at f1
 have f2:=aj8 e t bl
 have hfit2:a0m e t bl=true:=a1Z.2 (by omega)
 rw [hfit2] at f2
 have hbx:bl[fr]? =some false:=by
  obtain ⟨b,hb⟩:∃b,bl[fr]? =some b:=⟨_,lbf (by omega)⟩
  rw [lbl,hb] at hbf0
  rw [hb];exact congrArg some hbf0
 have rp:=b47 (-1) (e.moves.map t4.row).length (by omega) (by omega)
 have hN:((e.moves.map t4.row).length:Int).toNat=e.moves.length:=by omega
 rw [hN] at rp
 (refine ac Tryz.func126 ?_;(conv=>whnf);repeat (refine zy ?_;conv=>whnf))
 repeat' (first|refine zx ?_|refine qp f1 ?_|refine qp f2 ?_|refine i3 hbx ?_|refine zd ?_ ?_<;>intro h<;>try omega|fail)<;>conv=>whnf
 refine .inr ⟨_,_,L6 (H':=[evB e,t8 (List.replicate e.moves.length (-1))]) [] rp rfl rfl rfl List.nodup_nil (by simp) (by simp) (by simp) rfl rfl rfl ?_ ?_,?_⟩
 ·intro i k hk
  match i,hk with
  |0,hk=>
   injection hk with hk
   subst hk
   exact ⟨_,rfl,E4 rfl⟩
 ·intro j hj _
  match j,hj with
  |0,_=>rfl
 conv=>whnf
 have hg0:=a9e (e:=e) (fr:=(fr:Int)) (by omega) (by simpa using hf)
 have hst:(S1 e fr).bef=(List.replicate e.moves.length (-1:Int)).set fr fr:=by simp [S1]
 obtain ⟨a0,ha0⟩:∃a,(List.replicate e.moves.length (-1:Int))[0+(fr:Int).toNat]? =some a:=⟨_,lbf (by simp;omega)⟩
 repeat' (first|refine zz ?_|refine a4m.own ?_|refine q9 ha0 ?_|refine a08 (by omega) (by simp;omega) ?_|refine zd ?_ ?_<;>intro h<;>try omega|refine zy ?_|fail)<;>conv=>whnf
 refine w5 g6 (σ:=Nat × BQ × Nat) (fun|(f,s,b)=>([J,b7 .i64 fr,b7 .i64 t,a2g bl,S.c (C.ptr 0 0 0),J,J,J,J,Z7 1 s.bef,Z7 2 s.que,b7 .i64 b]++Jn 115,[evB e,t8 s.bef,b4D s.que]))
  (fun x=>G7 e.moves.length fr x.2.1∧a8n e bl fr t=a2j e bl t x.1 x.2.1 x.2.2∧x.2.2<=x.2.1.que.length∧e.moves.length<x.1+x.2.2) (fun x=>x.1) (e.moves.length+1,S1 e fr,0) [some 0,some 1,some 2]
  ⟨hg0,rfl,by simp,by simp⟩ ⟨rfl,rfl,⟨⟨rfl,rfl,rfl,.inl ⟨rfl,k8 e⟩⟩,b8 rfl rfl rfl ?_ rfl,b8 rfl rfl rfl rfl rfl,trivial⟩,⟨rfl,rfl,k9 rfl,⟨rfl,rfl,rfl⟩,m8 rfl ?_,m8 rfl rfl,e8 rfl,trivial⟩⟩ ?_
 ·rw [hst]
  show (toC ((List.replicate e.moves.length (-1)).map g9)).set (0+(fr:Int).toNat) [C.t (ti fr)]=_
  rw [show 0+(fr:Int).toNat=fr by omega]
  simp [toC,g9,List.map_set]
 ·rw [hst];simp
 rintro ⟨f,s,b⟩ ⟨hg,hbf,hbl,hfb⟩
 have hbl:b<=s.que.length:=hbl
 have hfb:e.moves.length<f+b:=hfb
 have hg:G7 e.moves.length fr s:=hg
 have hbf:a8n e bl fr t=a2j e bl t f s b:=hbf
 have hsl:=hg.len
 have hroom:=hg.room
 obtain ⟨at0,hat0⟩:∃a,s.bef[0+(t:Int).toNat]? =some a:=⟨_,lbf (by omega)⟩
 have hgt:s.bef.getD (t:Int).toNat 0=at0:=by rw [Nat.zero_add] at hat0;rw [lbl,hat0];rfl
 conv=>whnf
 repeat' (first|refine zz ?_|refine q9 hat0 ?_|refine a08 (by omega) (by show _<((s.bef.length:Nat):Int);omega) ?_|refine ab0 (by omega) (by omega) rfl (by omega) ?_|refine a4m.own ?_|refine zd ?_ ?_<;>intro h<;>try omega|refine zy ?_|fail)<;>conv=>whnf
 ·have hat1:s.bef.getD (t:Int).toNat 0=-1:=by rw [hgt];omega
  have hblt:b<s.que.length:=by have:=‹(b:Int)<_›;omega
  obtain ⟨f,rfl⟩:∃k,f=k+1:=⟨f - 1,by omega⟩
  rw [aP8 ⟨hblt,hat1⟩] at hbf
  let lev:List Int:=s.que.drop b
  have hlev:lev.length=s.que.length - b:=by simp [lev]
  let sa:Nat->BQ:=fun a=>(lev.take a).foldl (a2B e bl) s
  have hga:∀a,G7 e.moves.length fr (sa a)∧∀v,OkQ e.moves.length fr s v->OkQ e.moves.length fr (sa a) v:=fun a=>
   hg.stepMs (fun m hm=>hg.que m (List.mem_of_mem_drop (List.mem_of_mem_take hm)))
  refine j7 g6 (fun a=>([J,b7 .i64 fr,b7 .i64 t,a2g bl,S.c (C.ptr 0 0 0),J,J,J,J,Z7 1 (sa a).bef,Z7 2 (sa a).que,b7 .i64 s.que.length]++Jn 55++[S.c (C.own 3 b (s.que.length - b) false),b7 .i64 ((s.que.length - b:Nat):Int),b7 .i64 a]++Jn 57,[evB e,t8 (sa a).bef,b4D (sa a).que,b8Z s.que])) (s.que.length - b) (fun k=>True) [some 0,some 1,some 2,some 2] trivial
   ⟨rfl,rfl,⟨⟨rfl,rfl,rfl,.inl ⟨rfl,k8 e⟩⟩,b8 rfl rfl rfl rfl rfl,b8 rfl rfl rfl rfl rfl,b8 rfl rfl rfl rfl rfl,trivial⟩,⟨rfl,rfl,k9 rfl,⟨rfl,rfl,rfl⟩,m8 rfl rfl,m8 rfl rfl,e8 rfl,⟨rfl,?_,?_,fun h=>h⟩,e8 ?_,e8 rfl,trivial⟩⟩ ?_
  ·show 0+(b:Int).toNat=b
   omega
  ·omega
  ·omega
  intro a ha hI
  obtain ⟨hgA,hokA⟩:=hga a
  have hroomA:=hgA.room
  conv=>whnf
  repeat' (first|refine zx ?_|refine zd ?_ ?_<;>intro h<;>try omega|fail)<;>conv=>whnf
  ·have hlt:a<s.que.length - b:=by omega
   obtain ⟨v,hv⟩:∃v,s.que[b+(a:Int).toNat]? =some v:=⟨_,lbf (by omega)⟩
   have hva:lev[a]? =some v:=by show (s.que.drop b)[a]? =_;rw [lbj,←hv];congr 1
   have hvq:v ∈ s.que:=lbm hv
   have hov:=hokA v (hg.que v hvq)
   have hsa1:sa (a+1)=a2B e bl (sa a) v:=a4g hva
   let ks:=M3 e bl v
   have nx:=b84 e hs bl v hov.1 hov.2.1 hb
   let tc:Nat->BQ:=fun c=>(ks.take c).foldl (P3 v) (sa a)
   have hgc:∀c,G7 e.moves.length fr (tc c)∧∀u,OkQ e.moves.length fr (sa a) u->OkQ e.moves.length fr (tc c) u:=fun c=>hgA.stepKs hov (fun k hk=>by
    have:=a3r hov.1 (List.mem_of_mem_take hk)
    exact ⟨this.2.1,this.2.2⟩)
   have hkl:ks.length<=e.moves.length:=by
    show (M3 e bl v).length<=_
    unfold M3
    split
    ·exact a4c _ _ _
    ·simp
   have lks:(ks.map g9).length=ks.length:=by simp
   have lks':(((ks.map g9).length:Nat):Int)=(ks.length:Nat):=by rw [lks]
   refine b73 hv ?_
   conv=>whnf
   repeat' (first|refine zx ?_|refine qp nx ?_|refine zd ?_ ?_<;>intro h<;>try omega|fail)<;>conv=>whnf
   refine j7 g6 (fun c=>([J,b7 .i64 fr,b7 .i64 t,a2g bl,S.c (C.ptr 0 0 0),J,J,J,J,Z7 1 (tc c).bef,Z7 2 (tc c).que,b7 .i64 s.que.length,J,J,b7 .i64 v]++Jn 52++[S.c (C.own 3 b (s.que.length - b) false),b7 .i64 ((s.que.length - b:Nat):Int),b7 .i64 a,J,J,J,J,J,J,i7 ks,b7 .i64 ks.length,b7 .i64 c]++Jn 48,[evB e,t8 (tc c).bef,b4D (tc c).que,b8Z s.que])) ks.length (fun k=>True) [some 0,some 1,some 2,some 3] trivial
    ⟨rfl,rfl,⟨⟨rfl,rfl,rfl,.inl ⟨rfl,k8 e⟩⟩,b8 rfl rfl rfl rfl rfl,b8 rfl rfl rfl rfl rfl,b8 rfl rfl rfl rfl rfl,trivial⟩,⟨rfl,rfl,k9 rfl,⟨rfl,rfl,rfl⟩,m8 rfl rfl,m8 rfl rfl,e8 rfl,e8 rfl,⟨rfl,rfl,rfl,fun h=>h⟩,e8 rfl,e8 rfl,k9 rfl,e8 lks',e8 rfl,trivial⟩⟩ ?_
   intro c hc hI
   obtain ⟨hgC,hokC⟩:=hgc c
   have hroomC:=hgC.room
   have hlenC:=hgC.len
   conv=>whnf
   repeat' (first|refine zx ?_|refine zd ?_ ?_<;>intro h<;>try omega|fail)<;>conv=>whnf
   ·have hlt2:c<ks.length:=by omega
    obtain ⟨k,hk⟩:∃k,ks[c]? =some k:=⟨_,lbf hlt2⟩
    have hkm:=a3r hov.1 (lbm hk)
    have htc1:tc (c+1)=P3 v (tc c) k:=a4g hk
    obtain ⟨bk,hbk⟩:∃a,(tc c).bef[0+k.toNat]? =some a:=⟨_,lbf (by omega)⟩
    have hgk:(tc c).bef.getD k.toNat 0=bk:=by rw [Nat.zero_add] at hbk;rw [lbl,hbk];rfl
    repeat' (first|refine zx ?_|refine qp toC ?_|refine qp toC ?_|refine i3 hk ?_|refine q9 hbk ?_|refine a08 (by omega) (by show _<(((tc c).bef.length:Nat):Int);omega) ?_|refine b7S (by simp [toC]) (by simp [toC];omega) ?_|refine zd ?_ ?_<;>intro h<;>try omega|fail)<;>conv=>whnf
    ·have hbk1:(tc c).bef.getD k.toNat 0=-1:=by rw [hgk];assumption
     have hv1:tc (c+1)=⟨(tc c).bef.set k.toNat v,(tc c).que++[k]⟩:=by rw [htc1];unfold P3;rw [if_pos hbk1]
     refine ⟨hlt2,trivial,[some 0,some 1,some 4,some 3],rfl,rfl,⟨⟨rfl,rfl,rfl,.inl ⟨rfl,k8 e⟩⟩,b8 rfl rfl rfl ?_ rfl,b8 rfl rfl rfl ?_ rfl,b8 rfl rfl rfl rfl rfl,trivial⟩,⟨rfl,rfl,rfl,⟨rfl,rfl,rfl⟩,m8 rfl ?_,m8 rfl ?_,rfl,rfl,⟨rfl,rfl,rfl,fun h=>h⟩,rfl,rfl,rfl,rfl,rfl,trivial⟩⟩
     ·rw [hv1];simp [toC,g9,List.map_set,C2]
     ·rw [hv1];simp [toC,g9,a3z,b5H]
     ·rw [hv1];simp
     ·rw [hv1];simp [toC]
    ·have hbk1:¬(tc c).bef.getD k.toNat 0=-1:=by rw [hgk];assumption
     have hv1:tc (c+1)=tc c:=by rw [htc1];unfold P3;rw [if_neg hbk1]
     refine ⟨hlt2,trivial,[some 0,some 1,some 2,some 3],rfl,rfl,⟨⟨rfl,rfl,rfl,.inl ⟨rfl,k8 e⟩⟩,b8 rfl rfl rfl ?_ rfl,b8 rfl rfl rfl ?_ rfl,b8 rfl rfl rfl rfl rfl,trivial⟩,⟨rfl,rfl,rfl,⟨rfl,rfl,rfl⟩,m8 rfl ?_,m8 rfl ?_,rfl,rfl,⟨rfl,rfl,rfl,fun h=>h⟩,rfl,rfl,rfl,rfl,rfl,trivial⟩⟩
     all_goals rw [hv1]
   ·have hck:tc c=sa (a+1):=by
     rw [hsa1]
     show (ks.take c).foldl _ _=ks.foldl _ _
     rw [lbn (by omega)]
    refine ⟨hlt,trivial,[some 0,some 1,some 2,some 3],rfl,rfl,⟨⟨rfl,rfl,rfl,.inl ⟨rfl,k8 e⟩⟩,b8 rfl rfl rfl ?_ rfl,b8 rfl rfl rfl ?_ rfl,b8 rfl rfl rfl rfl rfl,trivial⟩,⟨rfl,rfl,rfl,⟨rfl,rfl,rfl⟩,m8 rfl ?_,m8 rfl ?_,rfl,⟨rfl,rfl,rfl,fun h=>h⟩,rfl,rfl,trivial⟩⟩
    all_goals rw [hck]
  ·have hra:sa a=a4H e bl s b:=by
    show (lev.take a).foldl _ _=lev.foldl _ _
    rw [lbn (by omega)]
   refine ⟨[some 0,some 1,some 2],(f,a4H e bl s b,s.que.length),⟨rfl,rfl,⟨⟨rfl,rfl,rfl,.inl ⟨rfl,k8 e⟩⟩,b8 rfl rfl rfl ?_ rfl,b8 rfl rfl rfl ?_ rfl,trivial⟩,⟨rfl,rfl,rfl,⟨rfl,rfl,rfl⟩,m8 rfl ?_,m8 rfl ?_,rfl,trivial⟩⟩,⟨hg.stepR b,hbf,a8P,?_⟩,?_⟩
   ·rw [hra]
   ·rw [hra]
   ·rw [hra]
   ·rw [hra]
   ·show e.moves.length<f+s.que.length
    omega
   ·show f<f+1
    omega
 all_goals
  have hfs:a8n e bl fr t=s:=by
   rw [hbf]
   refine ai4 ?_
   rw [hgt]
   omega
  have hpf:O6 e bl fr t=if at0=-1 then [] else (I5 s.bef fr (t+1) t).reverse:=by
   unfold O6
   rw [if_pos ⟨hfit,hfit2,by simpa using hbf0⟩,hfs,hgt]
   rfl
  rw [hpf]
 rotate_left
 ·rw [if_pos (by assumption)]
  exact s7 rfl
 all_goals
  have hat2:at0≠-1:=by assumption
  have hgt2:s.bef.getD t 0≠-1:=by have:=hgt;simp only [lbX] at this;rw [this];exact hat2
  rw [if_neg hat2]
  have hokt:OkQ e.moves.length fr s t:=⟨by omega,by simpa using ht,hg.ge t ht hgt2,by simpa using hgt2⟩
  refine w5 g6 (σ:=List Int × Int) (fun|(acc,v)=>([J,b7 .i64 fr,J,J,J,J,J,J,J,Z7 0 s.bef,J,J,J,J,J,J,J,Z7 1 (acc++[v])]++Jn 109,[t8 s.bef,t8 (acc++[v])])) (fun x=>OkQ e.moves.length fr s x.2∧I5 s.bef fr (t+1) t=x.1++I5 s.bef fr (x.2.toNat+1) x.2∧x.1.length+x.2.toNat<=t) (fun x=>x.2.toNat) ([],(t:Int)) [some 1,some 3]
   ⟨hokt,rfl,by simp⟩ ⟨rfl,rfl,⟨b8 rfl rfl rfl rfl rfl,b8 rfl rfl rfl rfl rfl,trivial⟩,⟨rfl,m8 rfl rfl,m8 rfl rfl,trivial⟩⟩ ?_
  rintro ⟨acc,v⟩ ⟨hov,hback,hlen⟩
  have hov:OkQ e.moves.length fr s v:=hov
  have hback:I5 s.bef fr (t+1) t=acc++I5 s.bef fr (v.toNat+1) v:=hback
  have hlen:acc.length+v.toNat<=t:=hlen
  have hov1:=hov.1
  have hov2:=hov.2.1
  have hpl:(acc++[v]).length=acc.length+1:=by simp
  have hpv:(acc++[v])[0+((((acc++[v]).length:Nat):Int) - 1).toNat]? =some v:=by
   rw [show 0+((((acc++[v]).length:Nat):Int) - 1).toNat=acc.length by omega];simp
  obtain ⟨u,hu⟩:∃a,s.bef[0+v.toNat]? =some a:=⟨_,lbf (by omega)⟩
  conv=>whnf
  repeat' (first|refine zx ?_|refine qp toC ?_|refine qp toC ?_|refine q9 hpv ?_|refine q9 hu ?_|refine D5 (by simp [toC]) (by simp [toC];omega) ?_|refine zd ?_ ?_<;>intro h<;>try omega|fail)<;>conv=>whnf
  ·have hne:v≠fr:=by assumption
   have hbv:I5 s.bef fr (v.toNat+1) v=v::I5 s.bef fr v.toNat (s.bef.getD v.toNat 0):=by rw [I5,if_neg hne]
   have hgu:s.bef.getD v.toNat 0=u:=by rw [Nat.zero_add] at hu;rw [lbl,hu];rfl
   rcases hg.bef v.toNat hov.2.1 hov.2.2.2 with h1|⟨h1,h2,h3,h4⟩
   ·omega
   ·rw [hgu] at h1 h2 h3
    obtain ⟨w,rfl⟩:=Int.eq_ofNat_of_zero_le h1
    refine ⟨[some 0,some 2],(acc++[v],(w:Int)),⟨rfl,rfl,⟨b8 rfl rfl rfl rfl rfl,b8 rfl rfl rfl ?_ rfl,trivial⟩,⟨rfl,m8 rfl rfl,m8 rfl ?_,trivial⟩⟩,⟨⟨h1,by omega,?_,h3⟩,?_,?_⟩,?_⟩
    ·exact b1m (f:=g9) (xs:=acc++[v]) (x:=(w:Int))
    ·simp [toC]
    ·exact hg.ge w (by omega) (by simpa using h3)
    ·rw [hback,hbv,hgu,lbD]
     show _=acc++(v::I5 s.bef fr ((w:Int).toNat+1) w)
     rw [ap3 hg w v.toNat ((w:Int).toNat+1) (by omega) (by simpa using h3) (by omega) (by omega)]
    ·show (acc++[v]).length+(w:Int).toNat<=t
     simp;omega
    ·show (w:Int).toNat<v.toNat
     omega
  ·have hvf:v=fr:=by omega
   subst hvf
   refine .inr ⟨_,_,L6 (H':=[t8 s.bef,t8 (acc++[(fr:Int)]).reverse]) [1] (b3c (acc++[(fr:Int)]) (by omega)) rfl rfl rfl (by decide) ?_ (by simp) (by simp) rfl rfl rfl ?_ ?_,?_⟩
   ·intro i k hk
    match i,hk with
    |0,hk=>
     injection hk with hk
     subst hk
     exact ⟨rfl,rfl,a2a _,_,rfl,E4 rfl⟩
   ·intro i k hk
    match i,hk with
    |0,hk=>
     injection hk with hk
     subst hk
     exact ⟨_,rfl,E4 rfl⟩
   ·intro j hj hn
    match j,hj,hn with
    |0,_,_=>rfl
    |1,_,hn=>simp at hn
   conv=>whnf
   repeat' (first|refine zx ?_|refine zd ?_ ?_<;>intro h<;>try omega|fail)<;>conv=>whnf
   refine s7 (b5L (app:=true) rfl rfl (by intro h;cases h) rfl ?_ ?_)
   ·rw [hback]
    show toC (((acc++[(fr:Int)]).reverse).map g9)=toC ((acc++I5 s.bef fr ((fr:Int).toNat+1) fr).reverse.map g9)
    rw [I5,if_pos rfl]
   ·rw [hback,I5,if_pos rfl];simp
theorem b9j (e:Ev) (hs:e.Sized) (fr t:Int) (bl:List Bool):b9 Tryz.prog 126 [evS e,b7 .i64 fr,b7 .i64 t,a2g bl] [] (i7 (O6 e bl fr t)) []:=by
 have f1:=aj8 e fr bl
 have f2:=aj8 e t bl
 cases hfit:a0m e fr bl with
 |false=>
  rw [hfit] at f1
  have hp:O6 e bl fr t=[]:=by unfold O6;rw [if_neg (by simp [hfit])]
  rw [hp]
  (refine ac Tryz.func126 ?_;(conv=>whnf);repeat (refine zy ?_;conv=>whnf))
  repeat' (first|refine zx ?_|refine qp f1 ?_|refine zd ?_ ?_<;>intro h<;>try omega|fail)<;>conv=>whnf
  all_goals first|(exfalso;simp_all;done)|exact s7 rfl
 |true=>
  rw [hfit] at f1
  cases hfit2:a0m e t bl with
  |false=>
   rw [hfit2] at f2
   have hp:O6 e bl fr t=[]:=by unfold O6;rw [if_neg (by simp [hfit2])]
   rw [hp]
   (refine ac Tryz.func126 ?_;(conv=>whnf);repeat (refine zy ?_;conv=>whnf))
   repeat' (first|refine zx ?_|refine qp f1 ?_|refine qp f2 ?_|refine zd ?_ ?_<;>intro h<;>try omega|fail)<;>conv=>whnf
   all_goals first|(exfalso;simp_all;done)|exact s7 rfl
  |true=>
   rw [hfit2] at f2
   obtain ⟨⟨h1,h2⟩,h3⟩:=a1Z.1 hfit
   obtain ⟨⟨h4,h5⟩,_⟩:=a1Z.1 hfit2
   obtain ⟨n,rfl⟩:=Int.eq_ofNat_of_zero_le h1
   obtain ⟨q,rfl⟩:=Int.eq_ofNat_of_zero_le h4
   obtain ⟨b,hb⟩:∃b,bl[n]? =some b:=⟨_,lbf (by omega)⟩
   have hg:bl.getD n true=b:=by rw [lbl,hb];rfl
   cases b with
   |false=>exact b82 e hs n q bl (by omega) (by omega) (by omega) hg
   |true=>
    have hp:O6 e bl n q=[]:=by unfold O6;rw [if_neg (by simp only [lbX,hg];simp)]
    rw [hp]
    (refine ac Tryz.func126 ?_;(conv=>whnf);repeat (refine zy ?_;conv=>whnf))
    repeat' (first|refine zx ?_|refine qp f1 ?_|refine qp f2 ?_|refine i3 hb ?_|refine zd ?_ ?_<;>intro h<;>try omega|fail)<;>conv=>whnf
    all_goals first|(exfalso;simp_all;done)|exact s7 rfl
def a55:List Int->List Int->Bool
 |x::a,y::b=>if x=y then a55 a b else decide (x<y)
 |_,_=>false
def bk9 (a b:List Int):Bool:=if b=[]∨a.length≠b.length then decide (b=[]) || decide (a.length<b.length) else a55 a b
section
def v7 (p:List Int):Int:=p.getLast?.getD 0
theorem H5 {p:List Int} {k:Int}:v7 (p++[k])=k:=by simp [v7]
def ltP (p q:List Int):Prop:=p.length<q.length∨(p.length=q.length∧a55 p q=true)
theorem at9 {a b:Int}:∀{p q:List Int},a55 p q=true->a55 (p++[a]) (q++[b])=true
 |x::p,y::q,h=>by
  rw [a55] at h
  show a55 (x::(p++[a])) (y::(q++[b]))=true
  rw [a55]
  split at h
  ·rename_i hxy;rw [if_pos hxy];exact at9 h
  ·rename_i hxy;rw [if_neg hxy];exact h
 |[],_,h=>by cases h
 |_::_,[],h=>by cases h
theorem ap5 {a b:Int} (h:a<b):∀p,a55 (p++[a]) (p++[b])=true
 |[]=>by show a55 [a] [b]=true;rw [a55,if_neg (by omega)];simpa using h
 |x::p=>by show a55 (x::(p++[a])) (x::(p++[b]))=true;rw [a55,if_pos rfl];exact ap5 h p
theorem aj9:∀{p q r:List Int},a55 p q=true->a55 q r=true->a55 p r=true
 |x::p,y::q,z::r,h,h'=>by
  rw [a55] at h h' ⊢
  split at h
  ·rename_i hxy
   split at h'
   ·rename_i hyz;rw [if_pos (hxy.trans hyz)];exact aj9 h h'
   ·rename_i hyz;rw [if_neg (by rw [hxy];exact hyz)];simp at h' ⊢;omega
  ·rename_i hxy
   split at h'
   ·rename_i hyz;rw [if_neg (by rw [← hyz];exact hxy)];simp at h ⊢;omega
   ·rename_i hyz;simp at h h';rw [if_neg (by omega)];simp;omega
 |[],_,_,h,_=>by cases h
 |_::_,[],_,h,_=>by cases h
 |_::_,_::_,[],_,h=>by cases h
theorem b3t {p q r:List Int} (h:ltP p q) (h':ltP q r):ltP p r:=by
 rcases h with h|⟨h1,h2⟩
 ·rcases h' with h'|⟨h',_⟩<;>exact .inl (by omega)
 ·rcases h' with h'|⟨h3,h4⟩
  ·exact .inl (by omega)
  ·exact .inr ⟨by omega,aj9 h2 h4⟩
theorem aJ8 {p q:List Int} {a b:Int} (h:ltP p q):ltP (p++[a]) (q++[b]):=by
 rcases h with h|⟨h1,h2⟩
 ·exact .inl (by simp;exact h)
 ·exact .inr ⟨by simp [h1],at9 h2⟩
theorem b6F {p:List Int} {a b:Int} (h:a<b):ltP (p++[a]) (p++[b]):=.inr ⟨by simp,ap5 h p⟩
inductive Pa (fr:Int) (nxt:Int->List Int):List Int->Prop
 |one:Pa fr nxt [fr]
 |snoc {p:List Int} {k:Int} (h:Pa fr nxt p) (hk:k ∈ nxt (v7 p)):Pa fr nxt (p++[k])
def a2x (ps:List (List Int)) (k:Int):Bool:=ps.any fun q=>decide (v7 q=k)
def a0h (p:List Int) (ps:List (List Int)) (k:Int):List (List Int):=if a2x ps k=true then ps else ps++[p++[k]]
theorem a5r {ps:List (List Int)} {k:Int}:a2x ps k=true↔∃q ∈ ps,v7 q=k:=by
 unfold a2x
 rw [lbw]
 constructor
 ·rintro ⟨q,h1,h2⟩;exact ⟨q,h1,by simpa using h2⟩
 ·rintro ⟨q,h1,h2⟩;exact ⟨q,h1,by simpa using h2⟩
section
variable {fr:Int} {nxt:Int->List Int}
theorem Pa.pos {p:List Int} (h:Pa fr nxt p):0<p.length:=by cases h<;>simp
theorem b51 {p q:List Int} {a b:Int} (h:p++[a]=q++[b]):p=q∧a=b:=by
 have:=List.append_inj' h rfl
 exact ⟨this.1,by simpa using this.2⟩
theorem Pa.inv {p:List Int} {k:Int} (hp:p≠[]) (h:Pa fr nxt (p++[k])):Pa fr nxt p∧k ∈ nxt (v7 p):=by
 generalize hq:p++[k]=q at h
 cases h with
 |one=>
  have:=congrArg List.length hq
  simp at this
  exact absurd this hp
 |snoc h hk=>
  obtain ⟨rfl,rfl⟩:=b51 hq
  exact ⟨h,hk⟩
theorem Pa.ge (hgt:∀m k,k ∈ nxt m->m<k) {p:List Int} (h:Pa fr nxt p):fr<=v7 p:=by
 induction h with
 |one=>simp [v7]
 |snoc h hk ih=>rw [H5];have:=hgt _ _ hk;omega
structure JJ (fr:Int) (nxt:Int->List Int) (ps:List (List Int)) (b:Nat) (ds:List Int):Prop where
 from0:[fr] ∈ ps
 pa:∀p ∈ ps,Pa fr nxt p
 srt:ps.Pairwise ltP
 dist:ps.Pairwise fun p q=>v7 p≠v7 q
 don:∀(j:Nat) (p:List Int),j<b->ps[j]? =some p->∀k ∈ nxt (v7 p),∃q ∈ ps,v7 q=k∧(q=p++[k]∨ltP q (p++[k]))
 dcur:∀(p:List Int),ps[b]? =some p->∀k ∈ ds,∃q ∈ ps,v7 q=k∧(q=p++[k]∨ltP q (p++[k]))
 par:∀q ∈ ps,q=[fr]∨∃(j:Nat) (p:List Int) (k:Int),ps[j]? =some p∧q=p++[k]∧(j<b∨(j=b∧k ∈ ds))
theorem a6S {α:Type} {R:α->α->Prop} {l:List α} (h:l.Pairwise R) {i j:Nat} {x y:α} (hi:l[i]? =some x) (hj:l[j]? =some y) (hij:i<j):R x y:=by
 obtain ⟨h1,rfl⟩:=lbe.1 hi
 obtain ⟨h2,rfl⟩:=lbe.1 hj
 exact List.pairwise_iff_getElem.1 h i j h1 h2 hij
theorem JJ.step (hgt:∀m k,k ∈ nxt m->m<k) {ps:List (List Int)} {b:Nat} {ds:List Int} (h:JJ fr nxt ps b ds) {p:List Int} (hb:ps[b]? =some p) {k:Int} (hk:k ∈ nxt (v7 p)) (hd:∀d ∈ ds,d<k):
 JJ fr nxt (a0h p ps k) b (ds++[k]):=by
 have hp:=h.pa p (lbm hb)
 have hblt:=(lbe.1 hb).1
 have hfk:fr<k:=by have:=hp.ge hgt;have:=hgt _ _ hk;omega
 have hcmp:∀q ∈ ps,ltP q (p++[k])∨q=p++[k]∨(∃ k',q=p++[k']∧k' ∈ ds)∨q=[fr]:=fun q hq=>by
  rcases h.par q hq with rfl|⟨j,p',k',hj,rfl,hjb|⟨rfl,hjd⟩⟩
  ·exact .inr (.inr (.inr rfl))
  ·exact .inl (aJ8 (a6S h.srt hj hb hjb))
  ·rw [hb] at hj
   injection hj with hj
   subst hj
   exact .inr (.inr (.inl ⟨k',rfl,hjd⟩))
 unfold a0h
 split
 ·rename_i hs
  obtain ⟨q,hq,hqk⟩:=a5r.1 hs
  refine ⟨h.from0,h.pa,h.srt,h.dist,h.don,?_,?_⟩
  ·intro p' hp' k' hk'
   rw [hb] at hp'
   injection hp' with hp'
   subst hp'
   rcases lbz.1 hk' with hk'|hk'
   ·exact h.dcur p hb k' hk'
   ·simp at hk'
    subst hk'
    refine ⟨q,hq,hqk,?_⟩
    rcases hcmp q hq with h1|h1|⟨k2,rfl,h1⟩|rfl
    ·exact .inr h1
    ·exact .inl h1
    ·rw [H5] at hqk;subst hqk;exact .inl rfl
    ·simp [v7] at hqk;omega
  ·intro q hq
   rcases h.par q hq with h1|⟨j,p',k',hj,h2,h3⟩
   ·exact .inl h1
   ·exact .inr ⟨j,p',k',hj,h2,h3.imp id fun h=>⟨h.1,lbz.2 (.inl h.2)⟩⟩
 ·rename_i hs
  have hns:∀q ∈ ps,v7 q≠k:=fun q hq hqk=>hs (a5r.2 ⟨q,hq,hqk⟩)
  have hget:∀(j:Nat) (x:List Int),ps[j]? =some x->(ps++[p++[k]])[j]? =some x:=fun j x hj=>by
   rw [lbb (lbe.1 hj).1];exact hj
  have hget':∀(j:Nat) (x:List Int),j<=b->(ps++[p++[k]])[j]? =some x->ps[j]? =some x:=fun j x hjb hj=>by
   rwa [lbb (by omega)] at hj
  refine ⟨lbz.2 (.inl h.from0),?_,?_,?_,?_,?_,?_⟩
  ·intro q hq
   rcases lbz.1 hq with hq|hq
   ·exact h.pa q hq
   ·simp at hq;subst hq;exact .snoc hp hk
  ·refine lb9.2 ⟨h.srt,by simp,fun q hq r hr=>?_⟩
   simp at hr
   subst hr
   rcases hcmp q hq with h1|h1|⟨k2,rfl,h1⟩|rfl
   ·exact h1
   ·subst h1;exact absurd H5 (hns _ hq)
   ·exact b6F (hd _ h1)
   ·exact .inl (by have:=hp.pos;simp;omega)
  ·refine lb9.2 ⟨h.dist,by simp,fun q hq r hr=>?_⟩
   simp at hr
   subst hr
   rw [H5]
   exact hns q hq
  ·intro j x hj hx k' hk'
   obtain ⟨q,h1,h2⟩:=h.don j x hj (hget' j x (by omega) hx) k' hk'
   exact ⟨q,lbz.2 (.inl h1),h2⟩
  ·intro x hx0 k' hk'
   have hx:=hget' b x (lbQ _) hx0
   clear hx0
   rcases lbz.1 hk' with hk'|hk'
   ·obtain ⟨q,h1,h2⟩:=h.dcur x hx k' hk'
    exact ⟨q,lbz.2 (.inl h1),h2⟩
   ·simp at hk'
    subst hk'
    rw [hb] at hx
    injection hx with hx
    subst hx
    exact ⟨_,lbz.2 (.inr (by simp)),H5,.inl rfl⟩
  ·intro q hq
   rcases lbz.1 hq with hq|hq
   ·rcases h.par q hq with h1|⟨j,p',k',hj,h2,h3⟩
    ·exact .inl h1
    ·exact .inr ⟨j,p',k',hget _ _ hj,h2,h3.imp id fun h=>⟨h.1,lbz.2 (.inl h.2)⟩⟩
   ·simp at hq
    subst hq
    exact .inr ⟨b,p,k,hget _ _ hb,rfl,.inr ⟨rfl,lbz.2 (.inr (by simp))⟩⟩
theorem a4v (p:List Int) (ps:List (List Int)) (k:Int):∃X,a0h p ps k=ps++X:=by
 unfold a0h
 split
 ·exact ⟨[],by simp⟩
 ·exact ⟨_,rfl⟩
theorem a1o (p:List Int):∀(ks:List Int) (ps:List (List Int)),∃X,ks.foldl (a0h p) ps=ps++X
 |[],ps=>⟨[],by simp⟩
 |k::ks,ps=>by
  obtain ⟨X,hX⟩:=a4v p ps k
  obtain ⟨Y,hY⟩:=a1o p ks (a0h p ps k)
  exact ⟨X++Y,by rw [List.foldl_cons,hY,hX,lbD]⟩
theorem JJ.all (hgt:∀m k,k ∈ nxt m->m<k) (hasc:∀m,(nxt m).Pairwise (·<·)) {b:Nat} {p:List Int}:∀(ks ds:List Int) {ps:List (List Int)},nxt (v7 p)=ds++ks->JJ fr nxt ps b ds->ps[b]? =some p->JJ fr nxt (ks.foldl (a0h p) ps) b (ds++ks)
 |[],ds,ps,hn,h,hb=>by simpa using h
 |k::ks,ds,ps,hn,h,hb=>by
  have h1:=h.step hgt hb (k:=k) (by rw [hn];simp) (fun d hd=>by
   have:=hasc (v7 p)
   rw [hn] at this
   exact (lb9.1 this).2.2 d hd k (by simp))
  obtain ⟨X,hX⟩:=a4v p ps k
  have:=JJ.all hgt hasc ks (ds++[k]) (by rw [hn];simp) h1 (by rw [hX,lbb (lbe.1 hb).1];exact hb)
  simpa using this
def a0c (nxt:Int->List Int) (ps:List (List Int)) (p:List Int):List (List Int):=(nxt (v7 p)).foldl (a0h p) ps
theorem JJ.next (hgt:∀m k,k ∈ nxt m->m<k) (hasc:∀m,(nxt m).Pairwise (·<·)) {b:Nat} {p:List Int} {ps:List (List Int)} (h:JJ fr nxt ps b []) (hb:ps[b]? =some p):JJ fr nxt (a0c nxt ps p) (b+1) []:=by
 have h1:=JJ.all hgt hasc (nxt (v7 p)) [] rfl h hb
 obtain ⟨X,hX⟩:=a1o p (nxt (v7 p)) ps
 have hb':(a0c nxt ps p)[b]? =some p:=by unfold a0c;rw [hX,lbb (lbe.1 hb).1];exact hb
 refine ⟨h1.from0,h1.pa,h1.srt,h1.dist,?_,fun _ _ k hk=>(by cases hk),fun q hq=>?_⟩
 ·intro j x hj hx k hk
  by_cases hjb:j=b
  ·subst hjb
   rw [hb'] at hx
   injection hx with hx
   subst hx
   exact h1.dcur p hb' k (by simpa using hk)
  ·exact h1.don j x (by omega) hx k hk
 ·rcases h1.par q hq with h2|⟨j,p',k',hj,h2,h3⟩
  ·exact .inl h2
  ·exact .inr ⟨j,p',k',hj,h2,.inl (by omega)⟩
theorem JJ.run (hgt:∀m k,k ∈ nxt m->m<k) (hasc:∀m,(nxt m).Pairwise (·<·)):∀(l:List (List Int)) {ps:List (List Int)} {b:Nat},(∀ i p,l[i]? =some p->ps[b+i]? =some p)->JJ fr nxt ps b []->
 JJ fr nxt (l.foldl (a0c nxt) ps) (b+l.length) []∧∃X,l.foldl (a0c nxt) ps=ps++X
 |[],ps,b,_,h=>⟨by simpa using h,[],by simp⟩
 |p::l,ps,b,hl,h=>by
  have hb:=hl 0 p rfl
  obtain ⟨X,hX⟩:=a1o p (nxt (v7 p)) ps
  obtain ⟨h1,Y,hY⟩:=JJ.run hgt hasc l (ps:=a0c nxt ps p) (b:=b+1) (fun i q hi=>by
   have:=hl (i+1) q (by simpa using hi)
   unfold a0c
   rw [hX,lbb (by have:=(lbe.1 this).1;omega),show b+1+i=b+(i+1) by omega]
   exact this) (h.next hgt hasc hb)
  refine ⟨?_,X++Y,?_⟩
  ·rw [List.foldl_cons,lbu,show b+(l.length+1)=b+1+l.length by omega];exact h1
  ·rw [List.foldl_cons,hY]
   unfold a0c
   rw [hX,lbD]
def a4G (nxt:Int->List Int) (ps:List (List Int)) (b:Nat):List (List Int):=(ps.drop b).foldl (a0c nxt) ps
def Lev (ps:List (List Int)) (b L:Nat):Prop:=∀(j:Nat) (p:List Int),ps[j]? =some p->(j<b->p.length<L)∧(b<=j->p.length=L)
theorem JJ.round (hgt:∀m k,k ∈ nxt m->m<k) (hasc:∀m,(nxt m).Pairwise (·<·)) {ps:List (List Int)} {b L:Nat} (h:JJ fr nxt ps b []) (hb:b<=ps.length) (hl:Lev ps b L):
 JJ fr nxt (a4G nxt ps b) ps.length []∧Lev (a4G nxt ps b) ps.length (L+1)∧ps.length<=(a4G nxt ps b).length:=by
 obtain ⟨h1,X,hX⟩:=JJ.run hgt hasc (ps.drop b) (ps:=ps) (b:=b) (fun i p hi=>by rwa [lbj] at hi) h
 rw [List.length_drop,show b+(ps.length - b)=ps.length by omega] at h1
 have hX':a4G nxt ps b=ps++X:=hX
 have h1':JJ fr nxt (a4G nxt ps b) ps.length []:=h1
 refine ⟨h1',?_,by rw [hX'];simp⟩
 intro j p hj
 refine ⟨fun hjl=>?_,fun hjl=>?_⟩
 ·rw [hX',lbb hjl] at hj
  obtain ⟨q1,q2⟩:=hl j p hj
  rcases Nat.lt_or_ge j b with hlt|hge
  ·have:=q1 hlt;omega
  ·have:=q2 hge;omega
 ·have hpm:=lbm hj
  have hold:∀(i:Nat) (q:List Int),ps[i]? =some q->(a4G nxt ps b)[i]? =some q:=fun i q hi=>by
   rw [hX',lbb (lbe.1 hi).1];exact hi
  have hclash:∀q ∈ ps,v7 q≠v7 p:=fun q hq=>by
   obtain ⟨i,hi⟩:=List.mem_iff_getElem?.1 hq
   exact a6S h1'.dist (hold i q hi) hj (by have:=(lbe.1 hi).1;omega)
  rcases h1'.par p hpm with rfl|⟨i,q,k,hi,rfl,hib|⟨_,hk⟩⟩
  ·exact absurd rfl (hclash _ h.from0)
  ·have hi':ps[i]? =some q:=by rwa [hX',lbb hib] at hi
   have hqp:=(h.pa q (lbm hi')).pos
   have hk:=((h1'.pa _ hpm).inv (by intro e;subst e;simp at hqp)).2
   obtain ⟨q1,q2⟩:=hl i q hi'
   rcases Nat.lt_or_ge i b with hlt|hge
   ·obtain ⟨q3,h3,h4,_⟩:=h.don i q hlt hi' k hk
    exact absurd (by rw [h4,H5]) (hclash q3 h3)
   ·have:=q2 hge
    simp;omega
  ·cases hk
theorem JJ.found {ps:List (List Int)} {b L:Nat} {t:Int} (h:JJ fr nxt ps b []) (hl:Lev ps b L) {p:List Int} (hp:p ∈ ps) (ht:v7 p=t):∀q,Pa fr nxt q->v7 q=t->p=q∨ltP p q:=by
 have key:∀q,Pa fr nxt q->(∃ p ∈ ps,v7 p=v7 q∧(p=q∨ltP p q))∨L<q.length:=by
  intro q hq
  induction hq with
  |one=>exact .inl ⟨_,h.from0,rfl,.inl rfl⟩
  |@snoc q k hq hk ih=>
   rcases ih with ⟨r,hr,h1,h2⟩|h1
   ·obtain ⟨j,hj⟩:=List.mem_iff_getElem?.1 hr
    rcases Nat.lt_or_ge j b with hlt|hge
    ·obtain ⟨r2,h3,h4,h5⟩:=h.don j r hlt hj k (by rw [h1];exact hk)
     refine .inl ⟨r2,h3,by rw [h4,H5],?_⟩
     have h6:r++[k]=q++[k]∨ltP (r++[k]) (q++[k]):=h2.imp (fun h=>by rw [h]) aJ8
     rcases h5 with rfl|h5
     ·exact h6
     ·rcases h6 with h6|h6
      ·rw [← h6];exact .inr h5
      ·exact .inr (b3t h5 h6)
    ·refine .inr ?_
     have hL:=(hl j r hj).2 hge
     rcases h2 with rfl|h2|⟨h2,_⟩<;>simp<;>omega
   ·exact .inr (by simp;omega)
 intro q hq hqt
 rcases key q hq with ⟨r,hr,h1,h2⟩|h1
 ·have:r=p:=by
   obtain ⟨i,hi⟩:=List.mem_iff_getElem?.1 hr
   obtain ⟨j,hj⟩:=List.mem_iff_getElem?.1 hp
   rcases Nat.lt_trichotomy i j with hlt|heq|hgt
   ·exact absurd (by rw [h1,hqt,ht]) (a6S h.dist hi hj hlt)
   ·subst heq;rw [hi] at hj;injection hj
   ·exact absurd (by rw [h1,hqt,ht]) (a6S h.dist hj hi hgt)
  subst this
  exact h2
 ·obtain ⟨j,hj⟩:=List.mem_iff_getElem?.1 hp
  obtain ⟨q1,q2⟩:=hl j p hj
  refine .inr (.inl ?_)
  rcases Nat.lt_or_ge j b with hlt|hge
  ·have:=q1 hlt;omega
  ·have:=q2 hge;omega
theorem JJ.none {ps:List (List Int)} {b:Nat} {t:Int} (h:JJ fr nxt ps b []) (hb:ps.length<=b) (ht:∀p ∈ ps,v7 p≠t):∀q,Pa fr nxt q->v7 q≠t:=by
 have key:∀q,Pa fr nxt q->∃p ∈ ps,v7 p=v7 q:=by
  intro q hq
  induction hq with
  |one=>exact ⟨_,h.from0,rfl⟩
  |@snoc q k hq hk ih=>
   obtain ⟨r,hr,h1⟩:=ih
   obtain ⟨j,hj⟩:=List.mem_iff_getElem?.1 hr
   obtain ⟨r2,h3,h4,_⟩:=h.don j r (by have:=(lbe.1 hj).1;omega) hj k (by rw [h1];exact hk)
   exact ⟨r2,h3,by rw [h4,H5]⟩
 intro q hq hqt
 obtain ⟨p,h1,h2⟩:=key q hq
 exact ht p h1 (h2.trans hqt)
theorem JJ.start:JJ fr nxt [[fr]] 0 []:=⟨(by simp),(by simp;exact .one),(by simp),(by simp),(fun j p h=>by omega),(fun _ _ k hk=>by cases hk),(by simp)⟩
end
end
theorem a60 {α:Type} (P:Nat->α->Bool):∀(l:List α) (n:Nat),(m7 P n l).Pairwise (·<·)∧∀x ∈ m7 P n l,(n:Int)<=x
 |[],n=>by simp [m7]
 |y::l,n=>by
  obtain ⟨h1,h2⟩:=a60 P l (n+1)
  unfold m7
  split
  ·refine ⟨List.pairwise_cons.2 ⟨fun x hx=>by have:=h2 x hx;omega,h1⟩,fun x hx=>?_⟩
   rcases lbA.1 hx with rfl|hx
   ·omega
   ·have:=h2 x hx;omega
  ·exact ⟨h1,fun x hx=>by have:=h2 x hx;omega⟩
theorem b3q {e:Ev} {bl:List Bool} (m:Int):(M3 e bl m).Pairwise (·<·):=by
 unfold M3
 split
 ·exact (a60 _ _ _).1
 ·simp
theorem al4 {e:Ev} {bl:List Bool} (m k:Int) (h:k ∈ M3 e bl m):m<k:=by
 unfold M3 at h
 split at h
 ·obtain ⟨i,z,hz,hP,rfl⟩:=K0.1 h
  simp [a1N] at hP
  omega
 ·cases h
theorem ad1 {n:Nat} {fr:Int} {s:BQ} (h:G7 n fr s) {k:Nat} {m:Int} (hk:s.bef.getD k 0=-1) (hkn:k<n):∀(f:Nat) (v:Nat),v<n->s.bef.getD v 0≠-1->I5 (s.bef.set k m) fr f v=I5 s.bef fr f v
 |0,_,_,_=>rfl
 |f+1,v,hv,hb=>by
  have hvk:v≠k:=by rintro rfl;exact hb hk
  unfold I5
  by_cases hfr:(v:Int)=fr
  ·rw [if_pos hfr,if_pos hfr]
  ·rw [if_neg hfr,if_neg hfr]
   congr 1
   rw [lbX,K2 (by rw [h.len];exact hkn),if_neg hvk]
   rcases h.bef v hv hb with h1|⟨h1,h2,h3,h4⟩
   ·exact absurd h1.1 hfr
   ·obtain ⟨w,hw⟩:=Int.eq_ofNat_of_zero_le h1
    rw [hw] at h2 h3 ⊢
    exact ad1 h hk hkn f w (by omega) (by simpa using h3)
structure a3E (n:Nat) (fr:Int) (s:BQ) (ps:List (List Int)):Prop where
 que:s.que=ps.map v7
 vis:∀k,k<n->(s.bef.getD k 0=-1↔a2x ps k=false)
 tree:∀p ∈ ps,0<=v7 p∧(v7 p).toNat<n∧I5 s.bef fr ((v7 p).toNat+1) (v7 p)=p.reverse
theorem aV3 {ps:List (List Int)} {p:List Int} {k j:Int}:a2x (ps++[p++[k]]) j=(a2x ps j || decide (k=j)):=by
 unfold a2x
 rw [List.any_append]
 simp [H5]
theorem a3E.step {e:Ev} {bl:List Bool} {fr:Int} {s:BQ} {ps:List (List Int)} (hg:G7 e.moves.length fr s) (h:a3E e.moves.length fr s ps) {p:List Int} (hp:p ∈ ps) {k:Int} (hk:k ∈ M3 e bl (v7 p)):
 a3E e.moves.length fr (P3 (v7 p) s k) (a0h p ps k):=by
 obtain ⟨h0,h1,h2⟩:=h.tree p hp
 obtain ⟨k0,k1,k2⟩:=a3r h0 hk
 have hov:OkQ e.moves.length fr s (v7 p):=hg.que _ (by rw [h.que];exact lbx.2 ⟨p,hp,rfl⟩)
 obtain ⟨kn,rfl⟩:=Int.eq_ofNat_of_zero_le k0
 rw [lbX] at k1
 have hv:=h.vis kn k1
 unfold P3 a0h
 rw [lbX]
 by_cases hb:s.bef.getD kn 0=-1
 ·rw [if_pos hb,if_neg (by rw [hv.1 hb];decide)]
  obtain ⟨m,hm⟩:=Int.eq_ofNat_of_zero_le h0
  rw [hm] at h2 h1 k2 ⊢
  rw [hm] at hov
  rw [lbX] at h1 h2
  have hbm:s.bef.getD m 0≠-1:=by simpa using hov.2.2.2
  refine ⟨?_,?_,?_⟩
  ·show s.que++[(kn:Int)]=_
   rw [h.que,lbC];simp [H5]
  ·intro j hj
   show (s.bef.set kn (m:Int)).getD j 0=-1↔_
   rw [K2 (by rw [hg.len];exact k1),aV3]
   by_cases hjk:j=kn
   ·subst hjk
    rw [if_pos rfl]
    simp
   ·rw [if_neg hjk,h.vis j hj]
    have:decide ((kn:Int)=(j:Int))=false:=by simp;omega
    rw [this,Bool.or_false]
  ·intro q hq
   rcases lbz.1 hq with hq|hq
   ·obtain ⟨q0,q1,q2⟩:=h.tree q hq
    refine ⟨q0,q1,?_⟩
    have hoq:OkQ e.moves.length fr s (v7 q):=hg.que _ (by rw [h.que];exact lbx.2 ⟨q,hq,rfl⟩)
    obtain ⟨v,hvq⟩:=Int.eq_ofNat_of_zero_le q0
    rw [hvq] at q1 q2 ⊢
    rw [hvq] at hoq
    show I5 (s.bef.set kn (m:Int)) fr _ _=_
    rw [ad1 hg hb k1 _ v (by simpa using q1) (by simpa using hoq.2.2.2)]
    exact q2
   ·simp at hq
    subst hq
    rw [H5]
    refine ⟨by omega,by simpa using k1,?_⟩
    show I5 (s.bef.set kn (m:Int)) fr _ _=_
    have hfr:¬(kn:Int)=fr:=by have:=hov.2.2.1;omega
    rw [I5,if_neg hfr,List.reverse_append]
    show _=(kn:Int)::p.reverse
    congr 1
    rw [lbX,K2 (by rw [hg.len];exact k1),if_pos rfl,ad1 hg hb k1 _ m h1 hbm,ap3 hg m kn (m+1) h1 hbm (by omega) (by omega)]
    exact h2
 ·have hs:a2x ps kn=true:=by
   cases hq:a2x ps kn with
   |true=>rfl
   |false=>exact absurd (hv.2 hq) hb
  rw [if_neg hb,if_pos hs]
  exact h
theorem a3E.ks {e:Ev} {bl:List Bool} {fr:Int} {p:List Int}:∀(ks:List Int) {s:BQ} {ps:List (List Int)},G7 e.moves.length fr s->a3E e.moves.length fr s ps->p ∈ ps->(∀ k ∈ ks,k ∈ M3 e bl (v7 p))->
 G7 e.moves.length fr (ks.foldl (P3 (v7 p)) s)∧a3E e.moves.length fr (ks.foldl (P3 (v7 p)) s) (ks.foldl (a0h p) ps)
 |[],s,ps,hg,h,_,_=>⟨hg,h⟩
 |k::ks,s,ps,hg,h,hp,hk=>by
  have hov:OkQ e.moves.length fr s (v7 p):=hg.que _ (by rw [h.que];exact lbx.2 ⟨p,hp,rfl⟩)
  have hkm:=a3r hov.1 (hk k (by simp))
  obtain ⟨X,hX⟩:=a4v p ps k
  exact a3E.ks ks (hg.stepK hov.1 hov.2.1 hov.2.2.2 hkm.2.1 hkm.2.2 hov.2.2.1) (h.step hg hp (hk k (by simp))) (by rw [hX];exact lbz.2 (.inl hp)) (fun k' hk'=>hk k' (by simp [hk']))
theorem a3E.run {e:Ev} {bl:List Bool} {fr:Int}:∀(l:List (List Int)) {s:BQ} {ps:List (List Int)},G7 e.moves.length fr s->a3E e.moves.length fr s ps->(∀ p ∈ l,p ∈ ps)->
 G7 e.moves.length fr ((l.map v7).foldl (a2B e bl) s)∧a3E e.moves.length fr ((l.map v7).foldl (a2B e bl) s) (l.foldl (a0c (M3 e bl)) ps)
 |[],s,ps,hg,h,_=>⟨hg,h⟩
 |p::l,s,ps,hg,h,hl=>by
  obtain ⟨h1,h2⟩:=a3E.ks (bl:=bl) (M3 e bl (v7 p)) hg h (hl p (by simp)) (fun k hk=>hk)
  obtain ⟨X,hX⟩:=a1o p (M3 e bl (v7 p)) ps
  exact a3E.run l h1 h2 (fun q hq=>by
   unfold a0c;rw [hX];exact lbz.2 (.inl (hl q (by simp [hq]))))
theorem a3E.round {e:Ev} {bl:List Bool} {fr:Int} {s:BQ} {ps:List (List Int)} (hg:G7 e.moves.length fr s) (h:a3E e.moves.length fr s ps) (b:Nat):
 G7 e.moves.length fr (a4H e bl s b)∧a3E e.moves.length fr (a4H e bl s b) (a4G (M3 e bl) ps b):=by
 have:=a3E.run (bl:=bl) (ps.drop b) hg h (fun p hp=>List.mem_of_mem_drop hp)
 unfold a4H a4G
 rw [h.que,←List.map_drop]
 exact this
theorem aO9 {e:Ev} {bl:List Bool} {fr t:Int} (ht:t.toNat<e.moves.length) (ht0:0<=t):∀(f:Nat) (s:BQ) (ps:List (List Int)) (b L:Nat),G7 e.moves.length fr s->a3E e.moves.length fr s ps->JJ fr (M3 e bl) ps b []->Lev ps b L->b<=ps.length->e.moves.length<f+b->
 ∃ps' b' L',G7 e.moves.length fr (a2j e bl t f s b)∧a3E e.moves.length fr (a2j e bl t f s b) ps'∧JJ fr (M3 e bl) ps' b' []∧Lev ps' b' L'∧(a2x ps' t=true∨ps'.length<=b')
 |0,s,ps,b,L,hg,h,hj,hl,hb,hf=>by
  have h1:=hg.room
  rw [h.que,lbr] at h1
  omega
 |f+1,s,ps,b,L,hg,h,hj,hl,hb,hf=>by
  have hlen:s.que.length=ps.length:=by rw [h.que,lbr]
  by_cases hc:b<s.que.length∧s.bef.getD t.toNat 0=-1
  ·rw [aP8 hc]
   obtain ⟨h1,h2⟩:=h.round hg (bl:=bl) b
   obtain ⟨h3,h4,h5⟩:=hj.round al4 b3q hb hl
   rw [hlen]
   exact aO9 ht ht0 f _ _ _ _ h1 h2 h3 h4 h5 (by omega)
  ·rw [ai4 hc]
   refine ⟨ps,b,L,hg,h,hj,hl,?_⟩
   by_cases hbl:b<ps.length
   ·left
    have hv:=h.vis t.toNat ht
    rw [lbY ht0] at hv
    cases hq:a2x ps t with
    |true=>rfl
    |false=>exact absurd ⟨by omega,hv.2 hq⟩ hc
   ·right;omega
theorem aV5 {e:Ev} {fr:Int} (h0:0<=fr) (h1:fr.toNat<e.moves.length):a3E e.moves.length fr (S1 e fr) [[fr]]:=by
 have hl:fr.toNat<(List.replicate e.moves.length (-1:Int)).length:=by simpa using h1
 refine ⟨by simp [S1,v7],fun k hk=>?_,fun p hp=>?_⟩
 ·unfold S1
  simp only [K2 hl]
  by_cases hkf:k=fr.toNat
  ·rw [if_pos hkf]
   have e1:(k:Int)=fr:=by omega
   simp [a2x,v7,e1]
   omega
  ·rw [if_neg hkf]
   have e1:¬fr=(k:Int):=by omega
   simp [a2x,v7,e1,lbl,lbk,hk]
 ·simp at hp
  subst hp
  have e1:v7 [fr]=fr:=rfl
  rw [e1]
  refine ⟨h0,h1,?_⟩
  rw [I5,if_pos rfl];rfl
theorem b05 {e:Ev} {bl:List Bool} {fr t:Int} (hf:a0m e fr bl=true) (ht:a0m e t bl=true) (hb:bl.getD fr.toNat true=false):
 (Pa fr (M3 e bl) (O6 e bl fr t)∧v7 (O6 e bl fr t)=t∧∀q,Pa fr (M3 e bl) q->v7 q=t->O6 e bl fr t=q∨ltP (O6 e bl fr t) q)∨(O6 e bl fr t=[]∧∀q,Pa fr (M3 e bl) q->v7 q≠t):=by
 have f1:(0<=fr∧fr<e.moves.length)∧(bl.length:Int)=e.moves.length:=by simpa [a0m] using hf
 have f2:(0<=t∧t<e.moves.length)∧(bl.length:Int)=e.moves.length:=by simpa [a0m] using ht
 obtain ⟨ps,b,L,hg,hr,hj,hl,hs⟩:=aO9 (e:=e) (bl:=bl) (fr:=fr) (t:=t) (by omega) f2.1.1 (e.moves.length+1) (S1 e fr) [[fr]] 0 1 (a9e f1.1.1 (by omega)) (aV5 f1.1.1 (by omega)) JJ.start
  (fun j p hj=>⟨fun h=>by omega,fun _=>by
    match j,hj with
    |0,hj=>simp at hj;subst hj;rfl⟩) (by simp) (by omega)
 have hv:=hr.vis t.toNat (by omega)
 rw [lbY f2.1.1] at hv
 have hpf:O6 e bl fr t=if (a2j e bl t (e.moves.length+1) (S1 e fr) 0).bef.getD t.toNat 0=-1 then [] else (I5 (a2j e bl t (e.moves.length+1) (S1 e fr) 0).bef fr (t.toNat+1) t).reverse:=by
  unfold O6 a8n;rw [if_pos ⟨hf,ht,hb⟩]
 cases hq:a2x ps t with
 |true=>
  left
  obtain ⟨p,hp,hpt⟩:=a5r.1 hq
  have hne:¬(a2j e bl t (e.moves.length+1) (S1 e fr) 0).bef.getD t.toNat 0=-1:=fun h=>by rw [hv.1 h] at hq;cases hq
  have htr:=(hr.tree p hp).2.2
  rw [hpt] at htr
  have hpp:O6 e bl fr t=p:=by rw [hpf,if_neg hne,htr,List.reverse_reverse]
  rw [hpp]
  exact ⟨hj.pa p hp,hpt,hj.found hl hp hpt⟩
 |false=>
  right
  refine ⟨by rw [hpf,if_pos (hv.2 hq)],hj.none ?_ ?_⟩
  ·rcases hs with h|h
   ·rw [hq] at h;cases h
   ·exact h
  ·intro p hp hpt
   have:=a5r.2 ⟨p,hp,hpt⟩
   rw [hq] at this;cases this
def a61 (e:Ev) (i k:Nat):Bool:=match e.moves[i]?,e.moves[k]? with
 |some u,some v=>decide (i<k) && decide (v.src=u.dst) && a0n e u.dst i k
 |_,_=>false
def a8N (e:Ev) (pf:Int->List Int) (i:Nat) (x:t4):Bool:=decide (B6 e x.src=0) && decide (0<(pf i).length)
def a1a (e:Ev) (bl:List Bool) (t:Int):List Int:=if a0m e t bl=true then m7 (a8N e fun i=>O6 e bl i t) 0 e.moves else []
theorem b2X (e:Ev) (hs:e.Sized) (h0:J4 e=0) (t:Int) (bl:List Bool):b9 Tryz.prog 59 [evS e,b7 .i64 t,a2g bl] [] (i7 (a1a e bl t)) []:=by
 have f1:=aj8 e t bl
 cases hfit:a0m e t bl with
 |false=>
  rw [hfit] at f1
  have hp:a1a e bl t=[]:=by unfold a1a;rw [if_neg (by simp [hfit])]
  rw [hp]
  (refine ac Tryz.func59 ?_;(conv=>whnf);repeat (refine zy ?_;conv=>whnf))
  repeat' (first|refine zx ?_|refine qp f1 ?_|refine zd ?_ ?_<;>intro h<;>try omega|fail)<;>conv=>whnf
  all_goals first|(exfalso;simp_all;done)|exact s7 rfl
 |true=>
  rw [hfit] at f1
  have hp:a1a e bl t=m7 (a8N e fun i=>O6 e bl i t) 0 e.moves:=by unfold a1a;rw [if_pos hfit]
  rw [hp]
  have l1:=hs.s2
  have l2:(e.moves.map t4.row).length=e.moves.length:=by simp
  let P:Nat->t4->Bool:=a8N e fun i=>O6 e bl i t
  have hpP:(a8N e fun i=>O6 e bl i t)=P:=rfl
  rw [hpP]
  (refine ac Tryz.func59 ?_;(conv=>whnf);repeat (refine zy ?_;conv=>whnf))
  repeat' (first|refine zx ?_|refine qp f1 ?_|refine zd ?_ ?_<;>intro h<;>try omega|fail)<;>conv=>whnf
  refine j7 g6 (fun k=>([J,b7 .i64 t,a2g bl,S.c (C.ptr 0 0 0),J,J,J,Z7 1 (D8 P e.moves k),J,J,J,J,J,J,J,J,S.c (C.t (a2P e.moves)),b7 .i64 e.moves.length,b7 .i64 k]++Jn 27,[evB e,t8 (D8 P e.moves k)])) e.moves.length (fun k=>True) [some 0,none] trivial
   ⟨rfl,rfl,⟨⟨rfl,rfl,rfl,.inl ⟨rfl,k8 e⟩⟩,⟨rfl,rfl⟩,trivial⟩,⟨rfl,k9 rfl,⟨rfl,rfl,rfl⟩,⟨rfl,rfl,rfl⟩,k9 rfl,e8 (by simp),e8 rfl,trivial⟩⟩ ?_
  intro k hk hI
  have hpl:=a2C P e.moves k
  conv=>whnf
  repeat' (first|refine zx ?_|refine zd ?_ ?_<;>intro h<;>try omega|fail)<;>conv=>whnf
  ·have hlt:k<e.moves.length:=by omega
   obtain ⟨x,hx⟩:∃x,e.moves[k]? =some x:=⟨_,lbf hlt⟩
   obtain ⟨i,p,hsrc,hpl2,-⟩:=b4u h0 (lbm hx)
   have hkx:B6 e x.src=p.kind:=by rw [hsrc,ax0 hpl2]
   have pa:=b9j e hs k t bl
   have lpa:((O6 e bl k t).map g9).length=(O6 e bl k t).length:=by simp
   have hP:P k x=(decide (p.kind=0) && decide (0<(O6 e bl k t).length)):=by show a8N _ _ _ _=_;unfold a8N;rw [hkx]
   repeat' (first|refine zx ?_|refine qp pa ?_|refine qp toC ?_|refine qp toC ?_|refine i3 hx ?_|refine a7c hsrc hpl2 ?_|refine D5 (by simp [toC]) (by simp [toC];omega) ?_|refine zd ?_ ?_<;>intro h<;>try omega|fail)<;>conv=>whnf
   ·have hP':P k x=true:=by rw [hP,lbM,decide_eq_true_iff,decide_eq_true_iff];exact ⟨by assumption,by omega⟩
    have hy:=a20 P hx hP'
    refine ⟨by omega,trivial,[some 0,some 3],rfl,rfl,⟨⟨rfl,rfl,rfl,.inl ⟨rfl,k8 e⟩⟩,b8 (rows:=(D8 P e.moves (k+1)).map g9) rfl rfl rfl ?_ rfl,trivial⟩,⟨rfl,rfl,⟨rfl,rfl,rfl⟩,m8 rfl ?_,rfl,rfl,rfl,trivial⟩⟩
    ·rw [hy,lbC]
     exact (congrArg (fun n=>List.take n (toC ((D8 P e.moves k).map g9))++toC [[ti (k:Nat)]]) (by simp)).trans a7t
    ·show _=(D8 P e.moves (k+1)).length
     rw [hy];simp [toC]
   all_goals
    have hP':P k x=false:=by
     rw [hP,lbO,lbK,lbK]
     first|(refine .inr ?_;omega)|(refine .inl ?_;assumption)
    have hy:=Z0 P hx hP'
    refine ⟨by omega,trivial,[some 0,some 1],rfl,rfl,⟨⟨rfl,rfl,rfl,.inl ⟨rfl,k8 e⟩⟩,b8 rfl rfl rfl ?_ rfl,trivial⟩,⟨rfl,rfl,⟨rfl,rfl,rfl⟩,m8 rfl ?_,rfl,rfl,rfl,trivial⟩⟩
    ·exact congrArg (fun l=>toC (l.map g9)) hy.symm
    ·exact congrArg List.length hy.symm
  ·have hk':m7 P 0 e.moves=D8 P e.moves k:=(a6m P (by omega)).symm
   show Fin 0 _ _ (i7 (m7 P 0 e.moves)) []
   rw [hk']
   exact R3 rfl (by intro h;cases h) rfl rfl (by simp)
theorem av8 {e:Ev} {bl:List Bool} {i j:Nat}:(j:Int) ∈ M3 e bl i↔a61 e i j=true∧bl.getD j true=false:=by
 unfold M3 a61
 rw [lbX]
 cases hi:e.moves[i]? with
 |none=>simp
 |some u=>
  simp only
  constructor
  ·intro h
   obtain ⟨k,z,hz,hP,hk⟩:=K0.1 h
   have:k=j:=by omega
   subst this
   rw [Nat.zero_add] at hP
   simp only [a1N,lbM,Bool.not_eq_true'] at hP
   rw [hz]
   exact ⟨by simp only [lbM];exact hP.1,hP.2⟩
  ·rintro ⟨h1,h2⟩
   cases hj:e.moves[j]? with
   |none=>rw [hj] at h1;cases h1
   |some v=>
    rw [hj] at h1
    refine K0.2 ⟨j,v,hj,?_,by omega⟩
    rw [Nat.zero_add]
    simp only [a1N,lbM,Bool.not_eq_true']
    simp only [lbM] at h1
    exact ⟨h1,h2⟩
theorem b5T {e:Ev} {i j:Nat} (h:a61 e i j=true):i<j∧j<e.moves.length:=by
 unfold a61 at h
 split at h
 ·rename_i u v hu hv
  simp only [lbM,lbI] at h
  exact ⟨h.1.1,(lbe.1 hv).1⟩
 ·cases h
theorem Pa.case {e:Ev} {bl:List Bool} {fr:Nat} {q:List Int} (h:Pa fr (M3 e bl) q) {k:Nat} (hk:v7 q=k):(q=[(fr:Int)]∧k=fr)∨∃(p:List Int) (i:Nat),q=p++[(k:Int)]∧Pa fr (M3 e bl) p∧v7 p=i∧fr<=i∧a61 e i k=true∧bl.getD k true=false:=by
 cases h with
 |one=>left;simp [v7] at hk;exact ⟨rfl,by omega⟩
 |@snoc p j hp hj=>
  right
  rw [H5] at hk
  subst hk
  have hge:=hp.ge al4
  obtain ⟨i,hi⟩:=Int.eq_ofNat_of_zero_le (show 0<=v7 p by omega)
  rw [hi] at hj
  obtain ⟨h1,h2⟩:=av8.1 hj
  exact ⟨p,i,rfl,hp,hi,by omega,h1,h2⟩
theorem ar0 {a:List Bool} {i j:Nat} {v:Bool} (h:i<a.length):(a.set i v).getD j false=if j=i then v else a.getD j false:=by
 rw [lbl,lbl]
 by_cases hj:j=i
 ·subst hj;rw [List.getElem?_set_self h,if_pos rfl];rfl
 ·rw [List.getElem?_set_ne (Ne.symm hj),if_neg hj]
def Rch (e:Ev) (bl:List Bool) (m v:Nat):Prop:=∃q,Pa m (M3 e bl) q∧v7 q=(v:Int)
theorem Rch.self {e:Ev} {bl:List Bool} {m:Nat}:Rch e bl m m:=⟨_,.one,rfl⟩
theorem Rch.ge {e:Ev} {bl:List Bool} {m v:Nat} (h:Rch e bl m v):m<=v:=by
 obtain ⟨q,h1,h2⟩:=h
 have:=h1.ge al4
 omega
theorem Rch.step {e:Ev} {bl:List Bool} {m v k:Nat} (h:Rch e bl m v) (hs:a61 e v k=true) (hb:bl.getD k true=false):Rch e bl m k:=by
 obtain ⟨q,h1,h2⟩:=h
 exact ⟨q++[(k:Int)],.snoc h1 (by rw [h2];exact av8.2 ⟨hs,hb⟩),H5⟩
theorem Rch.case {e:Ev} {bl:List Bool} {m k:Nat} (h:Rch e bl m k):k=m∨∃v,Rch e bl m v∧a61 e v k=true∧bl.getD k true=false:=by
 obtain ⟨q,h1,h2⟩:=h
 rcases h1.case h2 with ⟨_,h⟩|⟨p,i,_,h4,h5,_,h7,h8⟩
 ·exact .inl h
 ·exact .inr ⟨i,⟨p,h4,h5⟩,h7,h8⟩
def a5Y (e:Ev) (bl:List Bool) (m i p:Nat):Prop:=∃(v:Nat) (u:t4),v<i∧e.moves[v]? =some u∧Rch e bl m v∧u.dst=(p:Int)∧a0n e u.dst v i=true
theorem a5Y.reach {e:Ev} {bl:List Bool} {m i:Nat} {x:t4} (hx:e.moves[i]? =some x) (hm:m<i) {p:Nat} (hp:x.src=(p:Int)) (hb:bl.getD i true=false):Rch e bl m i↔a5Y e bl m i p:=by
 constructor
 ·intro h
  rcases h.case with h|⟨v,h1,h2,_⟩
  ·omega
  ·have h3:=b5T h2
   unfold a61 at h2
   split at h2
   ·rename_i u w hu hw
    rw [hx] at hw
    injection hw with hw
    subst hw
    simp only [lbM,lbI] at h2
    exact ⟨v,u,h3.1,hu,h1,by rw [← h2.1.2,hp],h2.2⟩
   ·cases h2
 ·rintro ⟨v,u,h1,h2,h3,h4,h5⟩
  refine h3.step ?_ hb
  unfold a61
  rw [h2,hx]
  simp only [lbM,lbI]
  exact ⟨⟨h1,by rw [hp,h4]⟩,h5⟩
theorem ap2 {a:List Bool} {i j:Nat} (h:i<a.length):(a.set i true).getD j false=true↔j=i∨a.getD j false=true:=by
 rw [ar0 h]
 split
 ·rename_i hq;simp [hq]
 ·rename_i hq;simp [hq]
theorem b3G {a:List Bool} {i j:Nat} (h:i<a.length):(a.set i false).getD j false=true↔j≠i∧a.getD j false=true:=by
 rw [ar0 h]
 split
 ·rename_i hq;simp [hq]
 ·rename_i hq;simp [hq]
theorem atTo_holds {e:Ev} (h0:J4 e=0) {bl:List Bool} {m:Nat} {x0:t4} (hm:e.moves[m]? =some x0):∀k,m+1+k<=e.moves.length->∀p,(a5V e bl m x0.dst.toNat k).getD p false=true↔a5Y e bl m (m+1+k) p
 |0,_,p=>by
  have hd:=a6y (K6 h0 (lbm hm))
  have hl:x0.dst.toNat<(List.replicate e.places.length false).length:=by simp;omega
  rw [a5V,ap2 hl]
  have hr:(List.replicate e.places.length false).getD p false=false:=by simp [lbl,lbk];split<;>rfl
  rw [hr]
  constructor
  ·rintro (h|h)
   ·exact ⟨m,x0,by omega,hm,.self,by omega,a3G⟩
   ·cases h
  ·rintro ⟨v,u,h1,h2,h3,h4,h5⟩
   have:=h3.ge
   obtain rfl:v=m:=by omega
   rw [hm] at h2
   injection h2 with h2
   subst h2
   exact .inl (by omega)
 |k+1,hk,p=>by
  have hlt:m+1+k<e.moves.length:=by omega
  obtain ⟨x,hx⟩:∃x,e.moves[m+1+k]? =some x:=⟨_,lbf hlt⟩
  have hmo:=K6 h0 (lbm hx)
  have hsr:=Y2 hmo
  have hdr:=a6y hmo
  have hne:=b3g hmo
  have ih:=atTo_holds h0 (bl:=bl) hm k (by omega)
  have hal:=aa4 (e:=e) (bl:=bl) (m:=m) (d:=x0.dst.toNat) k
  obtain ⟨s,hs⟩:=Int.eq_ofNat_of_zero_le hsr.1
  obtain ⟨d,hd⟩:=Int.eq_ofNat_of_zero_le hdr.1
  rw [b2T hx]
  unfold a4Z
  rw [hs,hd,lbX,lbX]
  have hsd:s≠d:=by omega
  -- what holds before the next move
  have old:∀q:Nat,(∃ (v:Nat) (u:t4),v<m+1+k∧e.moves[v]? =some u∧Rch e bl m v∧u.dst=(q:Int)∧a0n e u.dst v (m+1+(k+1))=true)↔a5Y e bl m (m+1+k) q∧¬(s=q∧x.all=true):=fun q=>by
   constructor
   ·rintro ⟨v,u,h1,h2,h3,h4,h5⟩
    have:=h3.ge
    rw [show m+1+(k+1)=m+1+k+1 by omega,a2q hx (by omega),lbM] at h5
    refine ⟨⟨v,u,h1,h2,h3,h4,h5.1⟩,?_⟩
    rintro ⟨rfl,ha⟩
    have h6:=h5.2
    rw [ha,h4,hs] at h6
    simp at h6
   ·rintro ⟨⟨v,u,h1,h2,h3,h4,h5⟩,h6⟩
    refine ⟨v,u,h1,h2,h3,h4,?_⟩
    rw [show m+1+(k+1)=m+1+k+1 by omega,a2q hx (by omega),h5,Bool.true_and]
    cases ha:x.all with
    |false=>simp
    |true=>
     have:¬s=q:=fun h=>h6 ⟨h,ha⟩
     simp [hs,h4]
     omega
  have new:∀q:Nat,a5Y e bl m (m+1+(k+1)) q↔(a5Y e bl m (m+1+k) q∧¬(s=q∧x.all=true))∨(d=q∧Rch e bl m (m+1+k)):=fun q=>by
   rw [← old q]
   constructor
   ·rintro ⟨v,u,h1,h2,h3,h4,h5⟩
    by_cases hv:v=m+1+k
    ·subst hv
     rw [hx] at h2
     injection h2 with h2
     subst h2
     exact .inr ⟨by omega,h3⟩
    ·exact .inl ⟨v,u,by omega,h2,h3,h4,h5⟩
   ·rintro (⟨v,u,h1,h2,h3,h4,h5⟩|⟨rfl,h⟩)
    ·exact ⟨v,u,by omega,h2,h3,h4,h5⟩
    ·exact ⟨m+1+k,x,by omega,hx,h,hd,a3G⟩
  have hrch:Rch e bl m (m+1+k)↔(a5V e bl m x0.dst.toNat k).getD s false=true∧bl.getD (m+1+k) true=false:=by
   constructor
   ·intro h
    have hb:bl.getD (m+1+k) true=false:=by
     rcases h.case with h'|⟨v,_,_,h'⟩
     ·omega
     ·exact h'
    exact ⟨(ih s).2 ((a5Y.reach hx (by omega) hs hb).1 h),hb⟩
   ·rintro ⟨h1,h2⟩
    exact (a5Y.reach hx (by omega) hs h2).2 ((ih s).1 h1)
  rw [new p]
  cases ha:(a5V e bl m x0.dst.toNat k).getD s false with
  |false=>
   rw [cond_false]
   have hnr:¬Rch e bl m (m+1+k):=fun h=>by have:=(hrch.1 h).1;rw [ha] at this;cases this
   have hnh:¬a5Y e bl m (m+1+k) s:=fun h=>by have:=(ih s).2 h;rw [ha] at this;cases this
   rw [ih p]
   constructor
   ·intro h
    exact .inl ⟨h,fun hq=>hnh (hq.1 ▸ h)⟩
   ·rintro (h|h)
    ·exact h.1
    ·exact absurd h.2 hnr
  |true=>
   rw [cond_true]
   have hr2:Rch e bl m (m+1+k)↔bl.getD (m+1+k) true=false:=by rw [hrch,ha];simp
   have h1:∀q:Nat,(cond (bl.getD (m+1+k) true) (a5V e bl m x0.dst.toNat k) ((a5V e bl m x0.dst.toNat k).set d true)).getD q false=true↔a5Y e bl m (m+1+k) q∨(d=q∧Rch e bl m (m+1+k)):=fun q=>by
    rw [hr2]
    cases hb:bl.getD (m+1+k) true with
    |true=>rw [cond_true,ih q];simp
    |false=>
     rw [cond_false,ap2 (by rw [hal];omega),ih q]
     constructor
     ·rintro (h|h)
      ·exact .inr ⟨h.symm,rfl⟩
      ·exact .inl h
     ·rintro (h|h)
      ·exact .inr h
      ·exact .inl h.1.symm
   have hlen:(cond (bl.getD (m+1+k) true) (a5V e bl m x0.dst.toNat k) ((a5V e bl m x0.dst.toNat k).set d true)).length=e.places.length:=by
    cases bl.getD (m+1+k) true<;>simp [hal]
   cases hall:x.all with
   |false=>
    rw [cond_false,h1 p]
    simp
   |true=>
    rw [cond_true,b3G (by rw [hlen];omega),h1 p]
    constructor
    ·rintro ⟨h2,h3|h3⟩
     ·exact .inl ⟨h3,fun h=>h2 h.1.symm⟩
     ·exact .inr h3
    ·rintro (⟨h2,h3⟩|⟨h2,h3⟩)
     ·exact ⟨fun h=>h3 ⟨h.symm,rfl⟩,.inl h2⟩
     ·exact ⟨by omega,.inr ⟨h2,h3⟩⟩
theorem b0m {e:Ev} {bl:List Bool} (hl:bl.length=e.moves.length) {m k:Nat} {x0:t4} (hx:e.moves[m]? =some x0) (hk:k<e.moves.length):((m:Int) ∈ a1a e bl k↔B6 e x0.src=0∧0<(O6 e bl m k).length):=by
 have f2:a0m e k bl=true:=a1Z.2 (by omega)
 unfold a1a
 rw [if_pos f2]
 constructor
 ·intro h
  obtain ⟨i,z,hz,hP,hi⟩:=K0.1 h
  obtain rfl:i=m:=by omega
  rw [hx] at hz
  injection hz with hz
  subst hz
  rw [Nat.zero_add] at hP
  unfold a8N at hP
  simpa only [lbM,lbI] using hP
 ·intro h
  refine K0.2 ⟨m,x0,hx,?_,by omega⟩
  rw [Nat.zero_add]
  unfold a8N
  simpa only [lbM,lbI] using h
structure aQ2 (t u:g7) (kind:Int) (n:Nat):Prop where
 s:∀z,i6 (n8 u kind) z=true↔i6 (n8 t kind) z=true
 g:∀h,F5 u h=F5 t h
theorem b09 {t u:g7} {kind:Int} {n:Nat} (ht:ExP t kind n) (hu:ExP u kind n) (h:aQ2 t u kind n) (i:Nat):U6 u kind i=U6 t kind i:=by
 have hz:=(ht.vd 0).has
 generalize p7 (n8 t kind) []=z0 at hz
 unfold U6
 rcases a1T (ht.vd (i:Int)) (i:Int) with ⟨a1,a2⟩|⟨a1,a2⟩|⟨a1,⟨z,a2,a3⟩,y,a4,a5⟩
 ·rw [a1]
  exact b8c hu i fun z hz=>by rw [h.g];exact a2 z ((h.s z).1 hz)
 ·rw [a1]
  exact b66 hu i fun z hz=>by rw [h.g];exact a2 z ((h.s z).1 hz)
 ·rw [a1]
  refine b9Z hu i ((h.s z).2 a2) ((h.s y).2 a4) ?_ ?_
  ·rw [h.g];grind
  ·rw [h.g,a5];decide +kernel
theorem b2z {t u:g7} {kind:Int} {n:Nat} (h:aQ2 t u kind n) (set:List Int):pX u kind n set=pX t kind n set:=by
 rw [Bool.eq_iff_iff,a7U,a7U]
 constructor
 ·rintro ⟨z,h1,h2⟩;exact ⟨z,(h.s z).1 h1,fun i hi hn=>by rw [← h.g];exact h2 i hi hn⟩
 ·rintro ⟨z,h1,h2⟩;exact ⟨z,(h.s z).2 h1,fun i hi hn=>by rw [h.g];exact h2 i hi hn⟩
theorem a7f {t u:g7} {kind:Int} {n:Nat} (ht:ExP t kind n) (hu:ExP u kind n) (h:aQ2 t u kind n) (short:Bool):S8 u kind n short=S8 t kind n short:=by
 have e1:C4 u kind n=C4 t kind n:=by unfold C4;simp only [b09 ht hu h]
 have e2:pX u kind n=pX t kind n:=funext fun set=>b2z h set
 unfold S8
 rw [e1,e2]
theorem ah6 {t:g7} {kind:Int} {mv:Nat} {z:List Rat} (hk:n9 (A7 t ⟨mv,kind,1⟩)=0) (ht:n9 t=0) (hm:mv<t.ev.moves.length):a4j (A7 t ⟨mv,kind,1⟩) kind z↔a4j t kind z∧1<=z.getD mv 0:=by
 constructor
 ·intro h
  obtain ⟨x,hx⟩:∃x,t.ev.moves[mv]? =some x:=⟨_,lbf hm⟩
  refine ⟨b0z ht h,?_⟩
  have:=(h.step mv x hx).2.fin 1 (by
   show 1 ∈ j9 (t.finds++[⟨mv,kind,1⟩]) kind mv
   rw [a1i,if_pos ⟨rfl,rfl⟩];simp)
  exact this
 ·rintro ⟨h,h1⟩
  refine ⟨hk,h.k0,h.k1,h.len,fun i x hx=>?_⟩
  obtain ⟨s1,s2⟩:=h.step i x hx
  refine ⟨s1,s2.cap,fun g hg=>?_,s2.cln⟩
  have hg:g ∈ j9 (t.finds++[⟨mv,kind,1⟩]) kind i:=hg
  rw [a1i] at hg
  rcases lbz.1 hg with hg|hg
  ·exact s2.fin g hg
  ·split at hg
   ·rename_i hc
    have e:mv=i:=by have:((mv:Nat):Int)=(i:Int):=hc.2;omega
    rw [List.mem_singleton.1 hg,←e];exact h1
   ·cases hg
theorem ad2 {t:g7} {kind:Int} {mv:Nat} {z:List Rat} (hk:n9 (A9 t ⟨mv,kind⟩)=0) (ht:n9 t=0) (hm:mv<t.ev.moves.length):a4j (A9 t ⟨mv,kind⟩) kind z↔a4j t kind z∧z.getD mv 0=0:=by
 constructor
 ·intro h
  obtain ⟨x,hx⟩:∃x,t.ev.moves[mv]? =some x:=⟨_,lbf hm⟩
  refine ⟨aZ0 ht h,(h.step mv x hx).2.cln ?_⟩
  show 0<p8 (t.cleans++[⟨mv,kind⟩]) kind mv
  rw [Q7,if_pos ⟨rfl,rfl⟩];omega
 ·rintro ⟨h,h1⟩
  refine ⟨hk,h.k0,h.k1,h.len,fun i x hx=>?_⟩
  obtain ⟨s1,s2⟩:=h.step i x hx
  refine ⟨s1,s2.cap,s2.fin,fun hc=>?_⟩
  have hc:0<p8 (t.cleans++[⟨mv,kind⟩]) kind i:=hc
  rw [Q7] at hc
  split at hc
  ·rename_i hq
   have e:mv=i:=by have:((mv:Nat):Int)=(i:Int):=hq.2;omega
   rw [← e];exact h1
  ·exact s2.cln (by omega)
theorem a3H {t:g7} {kind:Int} {z:List Rat} (h:a4j t kind z):∀k p:Nat,k<=t.ev.moves.length->B6 t.ev p≠0->0<H8 t.ev z k p->∃(v:Nat) (u:t4),v<k∧t.ev.moves[v]? =some u∧u.dst=(p:Int)∧0<z.getD v 0∧∀j w,v<j->j<k->t.ev.moves[j]? =some w->¬(w.src=(p:Int)∧w.all=true)
 |0,p,_,_,hs=>absurd (show (0:Rat)<0 from hs) (by decide +kernel)
 |k+1,p,hk,hp,hs=>by
  obtain ⟨x,hx⟩:∃x,t.ev.moves[k]? =some x:=⟨_,lbf (by omega)⟩
  have hmo:=K6 (z6 h.tr).1 (lbm hx)
  have tk:=(h.step k x hx).1
  rw [a81 hx] at hs
  by_cases c1:x.src=(p:Int)
  ·rw [if_pos c1] at hs
   have hpos:=tk.pos
   have e:x.src.toNat=p:=by omega
   have hall:¬x.all=true:=fun ha=>by
    have:=tk.all ha
    rw [e] at this
    rw [this] at hs
    exact absurd hs (by grind)
   obtain ⟨v,u,h1,h2,h3,h4,h5⟩:=a3H h k p (by omega) hp (by grind)
   refine ⟨v,u,by omega,h2,h3,h4,fun j w hj hjk hw=>?_⟩
   by_cases hjk2:j=k
   ·subst hjk2
    rw [hx] at hw;injection hw with hw;subst hw
    exact fun hq=>hall hq.2
   ·exact h5 j w hj (by omega) hw
  ·rw [if_neg c1] at hs
   by_cases c2:x.dst=(p:Int)
   ·rw [if_pos c2] at hs
    by_cases hz:0<z.getD k 0
    ·exact ⟨k,x,by omega,hx,c2,hz,fun j w hj hjk _=>by omega⟩
    ·have hpos:=tk.pos
     obtain ⟨v,u,h1,h2,h3,h4,h5⟩:=a3H h k p (by omega) hp (by grind)
     refine ⟨v,u,by omega,h2,h3,h4,fun j w hj hjk hw=>?_⟩
     by_cases hjk2:j=k
     ·subst hjk2
      rw [hx] at hw;injection hw with hw;subst hw
      exact fun hq=>c1 hq.1
     ·exact h5 j w hj (by omega) hw
   ·rw [if_neg c2] at hs
    obtain ⟨v,u,h1,h2,h3,h4,h5⟩:=a3H h k p (by omega) hp hs
    refine ⟨v,u,by omega,h2,h3,h4,fun j w hj hjk hw=>?_⟩
    by_cases hjk2:j=k
    ·subst hjk2
     rw [hx] at hw;injection hw with hw;subst hw
     exact fun hq=>c1 hq.1
    ·exact h5 j w hj (by omega) hw
theorem b03 {t:g7} {kind:Int} {z:List Rat} {bl:List Bool} (h:a4j t kind z) (hb:∀i,i<t.ev.moves.length->bl.getD i true=false):∀(k:Nat) (x:t4),t.ev.moves[k]? =some x->0<z.getD k 0->∃m,az6 t.ev m∧Rch t.ev bl m k:=by
 intro k
 induction k using Nat.strongRecOn with
 |ind k ih=>
  intro x hx hz
  have hk:=(lbe.1 hx).1
  have hmo:=K6 (z6 h.tr).1 (lbm hx)
  by_cases hbin:B6 t.ev x.src=0
  ·exact ⟨k,⟨x,hx,hbin⟩,Rch.self⟩
  ·have tk:=(h.step k x hx).1.most hbin
   have ms:=Y2 hmo
   have e:((x.src.toNat:Nat):Int)=x.src:=by omega
   obtain ⟨v,u,v1,v2,v3,v4,v5⟩:=a3H h k x.src.toNat (by omega) (by rw [e];exact hbin) (by grind)
   obtain ⟨m,m1,m2⟩:=ih v v1 u v2 v4
   refine ⟨m,m1,m2.step ?_ (hb k hk)⟩
   unfold a61
   rw [v2,hx]
   simp only [lbM,lbI]
   refine ⟨⟨v1,by rw [v3,e]⟩,?_⟩
   unfold a0n
   rw [lbv]
   intro w hw
   obtain ⟨j,hj⟩:=List.getElem?_of_mem hw
   rw [lbj,lbi] at hj
   split at hj
   ·have:=v5 (v+1+j) w (by omega) (by omega) hj
    rw [Bool.not_eq_true',←lbP]
    intro hq
    simp only [lbM,lbI] at hq
    exact this ⟨by rw [hq.1,v3],hq.2⟩
   ·cases hj
theorem b3m {s:l9} {g:List (Int × Rat)} {Y:List Rat} (hr:p5 s=true) (hg:k7 (-1) ((s.n.toNat:Nat):Int) g=true) (h:b5a s (F6 g) Y=true) (h0:b3P s (yN Y)=0) {z:List Rat} (hz:i6 s z=true):n7 g z<=0:=by
 have hb:=ap7 (g:=F6 g) (b2p hr h) hz
 have e:j8 (fun l=>L1 (F6 g) l*z.getD l 0) s.n.toNat=n7 (F6 g) z:=(R6 (a3h hg) z).symm
 rw [e,a03 (s:=s) (g:=g),h0] at hb
 grind
theorem ba9 {s:l9} (h:a67 s):∀w ∈ s.rows,b2H 11 w:=fun w hw=>by
 obtain ⟨a,b⟩:=h.i w hw
 exact ⟨a,by have:=ai7 b;omega⟩
theorem b3C {s:l9} {x:List Rat} {B:Nat} (h:a67 s) (hB:B<=2000) (hl:x.length<=1000000) (hx:∀v ∈ x,rl v<=B):PtB s x:=by
 have h9:=h.n
 have:=lbS (show s.n.toNat<=9 by omega) (show B+4<=2004 by omega)
 exact ba3 h.r (ba9 h) (B:=B) (by omega) (by omega) hl hx
def be9 {α:Type} (F:Fence) (n:Nat) (P:Program) (g:Nat) (lb:Array Value) (encs:α->Array Value) (G:α->World->Prop) (Kp:World->World->Prop) (S:List α->Prop) (N:Nat) (w:World):Prop:=
 ∀(l:Nat) (J:List α->World->Prop) (W:World),Below w.heap.size w W->AbidesFrom W.heap.size J->
  (∀ pre x W1,J pre W1->G x W1->pre.length<N->YieldAt F (n - 1) P l (encs x) W1 fun e W'=>e=.returned (.bool true)∧J (pre++[x]) W'∧Kp W1 W')->
  J [] W->CallsIn F n P g (#[.func (.yield l) #[] #[]]++lb) W fun e W'=>(∃ v,e=.returned v)∧∃xs,S xs∧J xs W'
theorem a8K (w:World) (ι:Io) (M:Ms):p9 w ι M []:=
 ⟨fun id k h=>by simp at h,fun id k h=>by simp at h,fun id k h=>by simp at h,fun id id' k k' h=>by simp at h,fun id id' k k' h=>by simp at h⟩
theorem aA9 {P:Program} {g:FuncId} {args:List S} {r:S} (h:b9 P g args [] r []) {w:World} {ι:Io} {M:Ms} {vals:List Value} (hl:vals.length=args.length)
 (hv:∀j s,args[j]? =some s->RS w ι M s (vals.getD j undef)) (hMB:MB w M) (hF:Z1 ι 0):
 Calls P g vals.toArray w fun e w'=>∃v,e=.returned v∧(∃ ι' M',RS w' ι' M' r v∧(∀ b,M b->M' b))∧Below w.heap.size w w':=by
 have:=h.2 w ι M vals hl hv (a8K _ _ _) hMB hF
 refine Calls.mono this ?_
 rintro e w' ⟨v,rfl,ι',M',h1,h2,h3,h4,h5⟩
 have nl:∀b,¬a34 ι [] b:=by rintro b ⟨id,k,c,s,hk,_⟩;simp at hk
 refine ⟨v,rfl,⟨ι',M',h1,fun b hb=>?_⟩,⟨h5.os,h5.tape,h5.output,h5.size,fun b hb=>h5.keep b hb (nl b)⟩⟩
 rcases h5.mold b hb with h|h
 ·exact h
 ·exact absurd h (nl b)
theorem aK2 {w w':World} {ι:Io} {M:Ms} {s:S} {v:Value} (h:RS w' ι M s v) (hb:Below w.heap.size w w') (hMB:MB w M) (hF:Z1 ι 0):H3 w ι M [] s [] v w':=
 ⟨ι,M,h,a8K _ _ _,fun b hm=>Nat.lt_of_lt_of_le (hMB b hm) hb.size,hF,
   ⟨hb.os,hb.tape,hb.output,hb.size,fun b hb' _=>hb.block b hb',fun _ _=>rfl,fun b h=>.inl h,fun b h=>.inl h,fun b h=>by obtain ⟨id,k,c,s,hk,_⟩:=h;simp at hk,lbQ _⟩⟩
theorem a3o {w w':World} {ι:Io} {M:Ms} (hb:Below w.heap.size w w') {s:S} {v:Value} (h:RS w ι M s v):RS w' ι M s v:=
 h.keep (fun b hb' _=>hb.block b hb') (fun b h=>.inl h) (fun _ _ h=>h)
section
open Go.RowKit Go.Shelf
attribute [local go_sem] Oper.semAt_some
theorem aC3 {F:Fence} (hd:F.depth=none) (k:Nat):F.room k:=fun d h=>by rw [hd] at h;cases h
theorem RoundIn.anyDepth {F:Fence} (hd:F.depth=none) {m m':Nat} {P:Program} {l:Nat} {f:FuncId} {tmps:Array Value} {assign body:Code} {w:World} {R:Ending->World->Prop}
 (h:RoundIn F m P l f tmps assign body w R):RoundIn F m' P l f tmps assign body w R:=⟨h.1,fun c cs _=>h.2 c cs (aC3 hd _)⟩
theorem YieldAt.anyDepth {F:Fence} (hd:F.depth=none) {m:Nat} (m':Nat) {P:Program} {l:Nat} {args:Array Value} {W:World} {R:Ending->World->Prop} (h:YieldAt F m P l args W R):YieldAt F m' P l args W R:=by
 obtain ⟨fn,tmps,assign,body,hy,hR⟩:=h
 exact ⟨fn,tmps,assign,body,hy,RoundIn.anyDepth hd hR⟩
theorem ar8 {F:Fence} {n:Nat} {P:Program} {c:Code} {K:Act->World->Prop} {Q:Exit->Act->World->Prop} {a:Act} {w:World} (h:c.wpIn F n P (Exit.then K (fun _ _ _=>False)) a w):c.wpIn F n P (Exit.then K Q) a w:=
 wpIn_mono h (fun e a w h=>by cases e<;>first|exact h|exact h.elim)
abbrev tI:TypeId:=3
abbrev tIs:TypeId:=33
abbrev a2J:TypeId:=36
def b5I (l:List Int):List Value:=l.map fun x=>.int .i64 x
theorem b71 (l:List Int):(b5I l).length=l.length:=by simp [b5I]
theorem aK4 {l:List Int} {i:Nat} {x:Int} (h:l[i]? =some x):(b5I l)[i]? =some (.int .i64 x):=by simp [b5I,h]
structure KpX (X ns:Nat) (A B:World):Prop where
 size:A.heap.size<=B.heap.size
 keep:∀(b:Nat) (vs:Array Value) (t:TypeId) (fl:Nat × Nat),A.heap[b]? =some (.cells vs t fl)->b≠X->(b<ns∨t≠tIs)->B.heap[b]? =some (.cells vs t fl)
theorem KpX.refl (X ns:Nat) (A:World):KpX X ns A A:=⟨lbQ _,fun _ _ _ _ h _ _=>h⟩
theorem KpX.trans {X ns:Nat} {A B C:World} (h:KpX X ns A B) (k:KpX X ns B C):KpX X ns A C:=⟨lbR h.size k.size,fun b vs t fl h1 h2 h3=>k.keep b vs t fl (h.keep b vs t fl h1 h2 h3) h2 h3⟩
theorem KpX.below {X ns:Nat} {A B:World} (h:Below A.heap.size A B):KpX X ns A B:=⟨h.size,fun b vs t fl h1 _ _=>(h.block b (v6 h1)).trans h1⟩
theorem KpX.grown {X ns:Nat} {A B:World} (h:A.grownBy B none):KpX X ns A B:=⟨h.size,fun b vs t fl h1 _ _=>(h.block b (v6 h1) (by simp)).trans h1⟩
theorem KpX.drew (X ns:Nat) (A:World):KpX X ns A A.drew:=⟨lbQ _,fun _ _ _ _ h _ _=>h⟩
theorem KpX.alloc (X ns:Nat) (A:World) (o:Obj):KpX X ns A (A.alloc o):=KpX.grown (World.grownBy_alloc A o none)
theorem KpX.boxed {X ns:Nat} {A B:World} (h:KpX X ns A B) {b:Nat} {t:TypeId} {v:Value} (hb:Boxed A b t v) (hX:b≠X) (ht:b<ns∨t≠tIs):Boxed B b t v:=h.keep _ _ _ _ hb hX ht
theorem aO4 {W:World} {a:Addr} {v:Value} (h:W.cell? a=some v):∃vs t fl,W.heap[a.block]? =some (.cells vs t fl):=by
 obtain ⟨o,ho,hc⟩:=cells_of_cell h
 cases o with
 |cells vs t fl=>exact ⟨vs,t,fl,ho⟩
 |_=>cases hc
theorem KpX.cell {X ns:Nat} {A B:World} (h:KpX X ns A B) {a:Addr} {v:Value} (hb:A.cell? a=some v) (hX:a.block≠X) (ht:a.block<ns):B.cell? a=some v:=by
 obtain ⟨vs,t,fl,ho⟩:=aO4 hb
 exact (World.cell?_of_block ((h.keep _ _ _ _ ho hX (.inl ht)).trans ho.symm)).trans hb
structure DnC (X ns Bn By Bl Bd lp n:Nat) (l:List Int) (A:Option Addr) (cap:Nat) (W:World):Prop where
 bn:Boxed W Bn tI (.int .i64 (n:Int))
 yd:Boxed W By 166 (.func (.yield lp) #[] #[])
 bl:Boxed W Bl tIs (.slice A l.length cap)
 bd:Boxed W Bd 219 (.func (.func 200) #[] #[.pointer (some ⟨Bn,0,none⟩),.pointer (some ⟨By,0,none⟩),.pointer (some ⟨Bl,0,none⟩),.pointer (some ⟨Bd,0,none⟩)])
 row:∀i x,l[i]? =some x->∃b off,A=some ⟨b,off,none⟩∧W.cell? ⟨b,off+i,none⟩=some (.int .i64 x)∧b<ns∧b≠X
 nX:Bn≠X∧By≠X∧Bl≠X∧Bd≠X∧Bl<ns∧X<ns
 lc:l.length<=cap∧cap<=maxLen
theorem DnC.keep {X ns Bn By Bl Bd lp n:Nat} {l:List Int} {A:Option Addr} {cap:Nat} {W W':World} (h:DnC X ns Bn By Bl Bd lp n l A cap W) (k:KpX X ns W W'):DnC X ns Bn By Bl Bd lp n l A cap W':=by
 obtain ⟨n1,n2,n3,n4,n5,n6⟩:=h.nX
 refine ⟨k.boxed h.bn n1 (.inr (by decide)),k.boxed h.yd n2 (.inr (by decide)),k.boxed h.bl n3 (.inl n5),k.boxed h.bd n4 (.inr (by decide)),fun i x hx=>?_,h.nX,h.lc⟩
 obtain ⟨b,off,h1,h2,h3,h4⟩:=h.row i x hx
 exact ⟨b,off,h1,k.cell h2 h4 h3,h3,h4⟩
theorem DnC.rt {X ns Bn By Bl Bd lp n:Nat} {l:List Int} {A:Option Addr} {cap:Nat} {W:World} (h:DnC X ns Bn By Bl Bd lp n l A cap W):RT W (fun _=>False) (E1 l) (.slice A l.length cap):=by
 have hl:(l.map g9).length=l.length:=by simp
 have at1:∀i j t,at2 (l.map g9) i j=some t->∃x,l[i]? =some x∧j=0∧t=ti x:=by
  intro i j t h
  unfold at2 at h
  rw [lba] at h
  cases hx:l[i]? with
  |none=>rw [hx] at h;cases h
  |some x=>
   rw [hx] at h
   cases j with
   |zero=>refine ⟨x,rfl,rfl,?_⟩;simp [g9] at h;exact h.symm
   |succ j=>simp [g9] at h
 obtain ⟨b,off,hA,hr⟩:∃b off,(l≠[]->A=some ⟨b,off,none⟩)∧∀i x,l[i]? =some x->W.cell? ⟨b,off+i,none⟩=some (.int .i64 x):=by
  cases hl0:l with
  |nil=>exact ⟨0,0,fun h=>absurd rfl h,fun i x h=>by simp at h⟩
  |cons x0 r=>
   obtain ⟨b,off,h1,h2,_⟩:=h.row 0 x0 (by rw [hl0];rfl)
   refine ⟨b,off,fun _=>h1,fun i x hx=>?_⟩
   obtain ⟨b2,off2,h3,h4,_⟩:=h.row i x (by rw [hl0];exact hx)
   rw [h1] at h3
   injection h3 with h3
   injection h3 with h5 h6
   subst h5;subst h6
   exact h4
 rw [← hl]
 refine .sl (size:=1) (k:=.any) (b:=b) (off:=off) (fun i j=>.int .i64 (l.getD i 0)) (fun r hr=>by obtain ⟨x,_,rfl⟩:=lbx.1 hr;rfl) (by rw [hl];exact h.lc.1) h.lc.2 (fun h=>nomatch h) (fun h=>nomatch h) (fun hne=>hA (by simpa using hne)) (fun i j t ht=>?_) (fun i j t ht=>?_)
 ·obtain ⟨x,hx,rfl,rfl⟩:=at1 i j t ht
  refine ⟨?_,fun h=>h⟩
  have:=hr i x hx
  rw [lbl,hx]
  simpa using this
 ·obtain ⟨x,hx,rfl,rfl⟩:=at1 i j t ht
  rw [lbl,hx]
  exact .atm rfl
def a1p (n0:Nat) (W:World) (s:List Int) (v:Value):Prop:=
 (s=[]∧∃A,v=.slice A 0 0)∨∃g cap cur,v=.slice (some ⟨g,0,none⟩) s.length cap∧n0<=g∧W.heap[g]? =some (.cells cur tI (0,0))∧s.length<=cap∧cap<=maxLen∧cur.toList.take s.length=b5I s
theorem KpX.irow {X ns n0:Nat} {A B:World} (h:KpX X ns A B) {s:List Int} {v:Value} (hX:X<n0) (hr:a1p n0 A s v):a1p n0 B s v:=by
 rcases hr with hr|⟨g,cap,cur,h1,h2,h3,h4⟩
 ·exact .inl hr
 ·exact .inr ⟨g,cap,cur,h1,h2,h.keep _ _ _ _ h3 (by omega) (.inr (by decide)),h4⟩
theorem a1p.below {n0:Nat} {A B:World} (h:Below A.heap.size A B) {s:List Int} {v:Value} (hr:a1p n0 A s v):a1p n0 B s v:=by
 rcases hr with hr|⟨g,cap,cur,h1,h2,h3,h4⟩
 ·exact .inl hr
 ·exact .inr ⟨g,cap,cur,h1,h2,(h.block g (v6 h3)).trans h3,h4⟩
theorem a1p.mono {n0 m0:Nat} {A:World} (h:m0<=n0) {s:List Int} {v:Value} (hr:a1p n0 A s v):a1p m0 A s v:=by
 rcases hr with hr|⟨g,cap,cur,h1,h2,h3,h4⟩
 ·exact .inl hr
 ·exact .inr ⟨g,cap,cur,h1,by omega,h3,h4⟩
theorem a1p.one {n0:Nat} {A:World} {s:List Int} {v:Value} (hr:a1p n0 A s v):v.oneCell'=true:=by
 rcases hr with ⟨_,A,rfl⟩|⟨g,cap,cur,rfl,_⟩<;>rfl
theorem a1p.rt {n0:Nat} {W:World} {M:Ms} {s:List Int} {v:Value} (hr:a1p n0 W s v) (hM:∀b,M b->b<n0):RT W M (E1 s) v:=by
 rcases hr with ⟨rfl,A,rfl⟩|⟨g,cap,cur,rfl,h2,h3,h4,h5,h6⟩
 ·exact .sl (size:=1) (k:=.any) (rows:=[]) (b:=0) (off:=0) (cap:=0) (fun _ _=>undef) (fun r hr=>by cases hr) (Nat.zero_le _) (Nat.zero_le _) (fun h=>nomatch h) (fun h=>nomatch h) (fun h=>absurd rfl h) (fun i j c h=>by simp [at2] at h) (fun i j c h=>by simp [at2] at h)
 ·have hl:(s.map g9).length=s.length:=by simp
  have at1:∀i j t,at2 (s.map g9) i j=some t->∃x,s[i]? =some x∧j=0∧t=ti x:=by
   intro i j t h
   unfold at2 at h
   rw [lba] at h
   cases hx:s[i]? with
   |none=>rw [hx] at h;cases h
   |some x=>
    rw [hx] at h
    cases j with
    |zero=>refine ⟨x,rfl,rfl,?_⟩;simp [g9] at h;exact h.symm
    |succ j=>simp [g9] at h
  have hc:∀i x,s[i]? =some x->W.cell? ⟨g,0+(i*1+0),none⟩=some (.int .i64 x):=by
   intro i x hx
   have e:(cur.toList.take s.length)[i]? =some (.int .i64 x):=by rw [h6];exact aK4 hx
   have hi:=(lbe.1 hx).1
   rw [lbi,if_pos hi] at e
   have e2:cur[i]? =some (.int .i64 x):=by simpa using e
   simp [World.cell?,h3,e2]
  rw [← hl]
  refine .sl (size:=1) (k:=.any) (b:=g) (off:=0) (fun i j=>.int .i64 (s.getD i 0)) (fun r hr=>by obtain ⟨x,_,rfl⟩:=lbx.1 hr;rfl) (by omega) h5 (fun h=>nomatch h) (fun h=>nomatch h) (fun _=>rfl) (fun i j t h=>?_) (fun i j t h=>?_)
  ·obtain ⟨x,hx,rfl,rfl⟩:=at1 i j t h
   refine ⟨?_,fun hm=>by have:=hM _ hm;omega⟩
   rw [hc i x hx,lbl,hx];rfl
  ·obtain ⟨x,hx,rfl,rfl⟩:=at1 i j t h
   rw [lbl,hx]
   exact .atm rfl
theorem aR6 {n0:Nat} {w:World} {ι:Io} {M:Ms} {H:Hp} {id:Nat} {s:List Int} {v:Value} (hH:p9 w ι M H) (hk:H[id]? =some (t8 s)) (hv:RS w ι M (.c (.own id 0 s.length true)) v)
 (hb:∀b cap size,ι id=some (.blk b cap size)->n0<=b):a1p n0 w s v:=by
 generalize hlen:s.length=len at hv
 cases hv with|c hv=>
 cases hv with
 |nil h=>exact .inl ⟨lbF hlen,_,rfl⟩
 |@own _ _ _ _ b cap size A cap' h h1 h2 h3 h4 h5=>
  obtain ⟨_,hA,hc⟩:=h5 rfl
  subst hA hc
  obtain ⟨q1,q2,q3,q4,q5,cur,q6,q7,q8⟩:=hH.blk id _ hk (by intro h;cases h) _ h
  have q1:1=size:=q1
  subst q1
  refine .inr ⟨b,cap',cur,by rw [hlen],hb _ _ _ h,q6,by omega,h4,?_⟩
  refine List.ext_getElem? fun i=>?_
  rw [lbi]
  by_cases hi:i<s.length
  ·rw [if_pos hi]
   have hx:s[i]? =some s[i]:=lbf hi
   rw [aK4 hx]
   obtain ⟨u,hu,hr⟩:=q8 i 0 (.t (ti s[i])) (by show at2 (toC (s.map g9)) i 0=_;simp [at2,toC,g9,hx])
   cases hr with|t hr=>cases hr with|atm=>
   simpa using hu
  ·rw [if_neg hi,lbd (by rw [b71];omega)]
end
def aK7 (ops:List Oper) (k:Nat):Bool:=a0J ops && ((List.range ops.length).all fun i=>Nat.blt i k || (List.range k).all fun j=>((a0t ops).getD i 0).testBit j) && ((ops.take k).all fun o=>o.guard.isNone) && Nat.ble k ops.length
theorem b2x {n:Nat} {P:Program} {row:String} {args:Array Value} {w:World} {R:Value->World->Prop} (h:Rows P row args w R):RowsIn Fence.wide n P row args w R:=fun c cs _=>by
 obtain ⟨v,w',h1,h2⟩:=h c cs
 exact ⟨v,w',h1,stepsIn_wide.2 h2⟩
theorem b36 {n:Nat} {P:Program} {o:Oper} {a:Act} {w:World} {K K':Act->World->Prop} {Q Q':Exit->Act->World->Prop} (hK:∀a' w',K a' w'->(∀ t,o.dst≠some t->a'.tmps.getD t undef=a.tmps.getD t undef)->K' a' w') (hQ:∀e a w,e≠.normal->¬Q e a w)
 (h:o.wp P a w K Q):o.wpIn Fence.wide n P a w K' Q':=by
 have hput:∀(b:Act) (v:Value),b.tmps=a.tmps->∀t,o.dst≠some t->(b.put o.dst v).tmps.getD t undef=a.tmps.getD t undef:=fun b v hb t ht=>by
  cases hd:o.dst with
  |none=>show b.tmps.getD t undef=_;rw [hb]
  |some d=>
   have hdt:d≠t:=fun e=>ht (by rw [hd,e])
   show (b.tmps.setIfInBounds d v).getD t undef=_
   rw [hb,Array.getD_eq_getD_getElem?,Array.getElem?_setIfInBounds_ne hdt,←Array.getD_eq_getD_getElem?]
 unfold Oper.wp at h
 unfold Oper.wpIn
 refine ⟨fun _ _=>trivial,?_⟩
 show o.uponIn Fence.wide n P a K' Q' ((execOp a.eval o).run P w)
 generalize (execOp a.eval o).run P w=r at h
 have hout:¬LetsOut Q:=fun ⟨a,w,h⟩=>hQ _ a w (by intro h;cases h) h
 cases r with
 |ok x w'=>
  cases x<;>simp only [Oper.upon,Oper.uponIn] at h ⊢<;>
   first
    |exact hK _ _ h (hput _ _ rfl)
    |exact ⟨fun h=>by simp [Fence.wide] at h,callsIn_wide.2 (Calls.mono h fun e w'' he=>by
      cases e with
      |returned v=>exact hK _ _ he (hput _ _ rfl)
      |panicked c=>exact absurd he (hQ _ _ _ (by intro h;cases h))
      |outgrown=>exact absurd he hout)⟩
    |exact ⟨fun h=>by simp [Fence.wide] at h,b2x (Rows.mono h fun _ _ he=>hK _ _ he (hput _ _ rfl))⟩
    |exact h.elim
 |halt x w'=>
  cases x<;>simp only [Oper.upon,Oper.uponIn] at h ⊢<;>
   first
    |exact absurd h (hQ _ _ _ (by intro h;cases h))
    |exact h
theorem a7y {F:Fence} {n:Nat} {P:Program} {md:Region.Mode} {ops:Array Oper} {Q:Exit->Act->World->Prop}:∀(f:Nat) (listed:Array Bool) (a:Act) (w:World),wpAnyIn F n P md ops Q f listed a w->wpAnyIn F n P md ops Q (f+1) listed a w
 |0,listed,a,w,h=>⟨fun _=>h.2,fun i hi=>by rw [h.1] at hi;cases hi⟩
 |f+1,listed,a,w,h=>⟨h.1,fun i hi=>wpOpIn_mono (fun a w h=>a7y f _ a w h) (h.2 i hi)⟩
theorem a7k {F:Fence} {n:Nat} {P:Program} {md:Region.Mode} {ops:Array Oper} {Q:Exit->Act->World->Prop} {f:Nat} {listed:Array Bool} {a:Act} {w:World} (h:wpAnyIn F n P md ops Q f listed a w):∀m,wpAnyIn F n P md ops Q (f+m) listed a w
 |0=>h
 |m+1=>a7y _ _ _ _ (a7k h m)
def O4 (k n:Nat):Array Bool:=((List.range n).map fun i=>Nat.blt i k).toArray
theorem a2u (k n:Nat):(O4 k n).size=n:=by simp [O4]
theorem a2f {k n i:Nat} (h:i<n):(O4 k n)[i]? =some (Nat.blt i k):=by simp [O4,h]
theorem aS5 {l:Array Bool} {i:Nat} (h:i<l.size):l[i]? =some (l.getD i false):=by simp [h]
theorem b7n {P:Program} {n k m:Nat} {ops:Array Oper} {Q:Exit->Act->World->Prop} {K:Act->World->Prop} (hc:aK7 ops.toList k=true) {a0:Act}
 (hK:∀a w,K a w->(∀ t,(∀ o ∈ ops.toList.take k,o.dst≠some t)->a.tmps.getD t undef=a0.tmps.getD t undef)->wpAnyIn Fence.wide n P .any ops Q m (O4 k ops.size) a w):
 ∀(fuel:Nat) (listed l':Array Bool) (a:Act) (w:World),listed.size=ops.size->l'.size=k->(∀ i,i<k->l'.getD i false=listed.getD i false)->(∀ i,k<=i->listed.getD i false=false)->
  (∀ i o,ops.toList[i]? =some o->listed.getD i false=true->∀e ∈ o.after.toList,Region.binds .any e=true->listed.getD e.on false=true)->
  (∀ t,(∀ o ∈ ops.toList.take k,o.dst≠some t)->a.tmps.getD t undef=a0.tmps.getD t undef)->
  wpAny P .any (ops.toList.take k).toArray (fun e a w=>e=.normal∧K a w) fuel l' a w->wpAnyIn Fence.wide n P .any ops Q (fuel+m) listed a w:=by
 unfold aK7 at hc
 simp only [lbM] at hc
 obtain ⟨⟨⟨hb,hm⟩,hg⟩,hkn⟩:=hc
 have hkn:k<=ops.size:=by simpa using Nat.le_of_ble_eq_true hkn
 have hsz:((ops.toList.take k).toArray).size=k:=by simp;omega
 have hget:∀i,i<k->((ops.toList.take k).toArray)[i]? =ops[i]?:=fun i hi=>by simp [lbi,hi]
 have hb':a0J ((ops.toList.take k).toArray).toList=true:=by
  unfold a0J at hb ⊢
  rw [lbv] at hb ⊢
  rintro ⟨o,i⟩ hx
  rw [List.mem_zipIdx_iff_getElem?] at hx
  simp only [lbi] at hx
  split at hx
  ·exact hb (o,i) (by rw [List.mem_zipIdx_iff_getElem?];exact hx)
  ·cases hx
 intro fuel
 induction fuel with
 |zero=>
  rintro listed l' a w hls hl's hag hhi hcl hfr ⟨hr,_,hKk⟩
  have hall:=U0 hb' (by rw [hl's,hsz]) hr
  have e:listed=O4 k ops.size:=by
   refine Array.ext (by rw [hls,a2u]) fun i h1 h2=>?_
   have h3:=a2f (k:=k) (n:=ops.size) (i:=i) (by omega)
   rw [Array.getElem?_eq_getElem h2] at h3
   injection h3 with h3
   rw [h3]
   have h4:=aS5 h1
   rw [Array.getElem?_eq_getElem h1] at h4
   injection h4 with h4
   rw [h4]
   by_cases hik:i<k
   ·rw [← hag i hik,hall i (by rw [hsz];exact hik)];symm;simpa using hik
   ·rw [hhi i (by omega)];symm;rw [← lbP];simpa using hik
  rw [e,Nat.zero_add]
  exact hK a w hKk hfr
 |succ fuel ih=>
  rintro listed l' a w hls hl's hag hhi hcl hfr ⟨hnil,hstep⟩
  by_cases hall:∀i,i<k->listed.getD i false=true
  ·have e:listed=O4 k ops.size:=by
    refine Array.ext (by rw [hls,a2u]) fun i h1 h2=>?_
    have h3:=a2f (k:=k) (n:=ops.size) (i:=i) (by omega)
    rw [Array.getElem?_eq_getElem h2] at h3
    injection h3 with h3
    rw [h3]
    have h4:=aS5 h1
    rw [Array.getElem?_eq_getElem h1] at h4
    injection h4 with h4
    rw [h4]
    by_cases hik:i<k
    ·rw [hall i hik];symm;simpa using hik
    ·rw [hhi i (by omega)];symm;rw [← lbP];simpa using hik
   have hr:Region.ready .any (ops.toList.take k).toArray l'=[]:=by
    cases hr:Region.ready .any (ops.toList.take k).toArray l' with
    |nil=>rfl
    |cons i r=>
     have hi:i ∈ Region.ready .any (ops.toList.take k).toArray l':=by rw [hr];simp
     rw [mem_ready] at hi
     obtain ⟨h1,o,ho,_⟩:=hi
     have hlt:=(lb4.1 ho).1
     rw [hsz] at hlt
     have h2:=hall i hlt
     rw [← hag i hlt] at h2
     simp [hl's,hlt] at h1 h2
     rw [h1] at h2;cases h2
   rw [e,show fuel+1+m=m+(fuel+1) by omega]
   exact a7k (hK a w (hnil hr).2 hfr) _
  ·rw [show fuel+1+m=(fuel+m)+1 by omega]
   refine ⟨fun hr=>absurd (fun i hi=>U0 hb hls hr i (by omega)) hall,fun i hi=>?_⟩
   have hi0:=hi
   rw [mem_ready] at hi
   obtain ⟨hl,o,ho,hready⟩:=hi
   have hlt:=(lb4.1 ho).1
   have ho':ops.toList[i]? =some o:=by simpa using ho
   have hready':∀e ∈ o.after.toList,Region.binds .any e=true->listed.getD e.on false=true:=fun e he=>hready e (by simpa using he)
   have hun:listed.getD i false=false:=by simp [hls,hlt] at hl ⊢;exact hl
   have hik:i<k:=by
    apply a1f
    intro hge
    refine hall fun j hj=>?_
    have h1:=lbv.1 hm i (lbB.2 (by simpa using hlt))
    have h2:Nat.blt i k=false:=by rw [← lbP];simpa using hge
    rw [h2,Bool.false_or] at h1
    have h3:=lbv.1 h1 j (lbB.2 hj)
    exact Y4 hb (S:=fun j=>listed.getD j false=true) hcl ho' hready' h3
   have hmem:i ∈ Region.ready .any (ops.toList.take k).toArray l':=by
    rw [mem_ready]
    refine ⟨?_,o,(hget i hik).trans ho,fun e he hbi=>?_⟩
    ·have:=hag i hik
     rw [hun] at this
     simp [hl's,hik] at this ⊢;exact this
    ·have h1:=hready' e (by simpa using he) hbi
     have h2:=a6R hb ho' (e:=e) (by simpa using he) hbi
     rw [← hag e.on (by omega)] at h1
     exact h1
   have h:=hstep i hmem
   unfold wpOp at h
   unfold wpOpIn
   rw [hget i hik,ho] at h
   rw [ho]
   simp only at h ⊢
   have hog:o.guard=none:=by
    have:=lbv.1 hg o (lbm (i:=i) (by rw [lbi,if_pos hik];exact ho'))
    cases hq:o.guard with
    |none=>rfl
    |some x=>rw [hq] at this;cases this
   have hw:∀y,Region.wanted o y=true:=fun y=>by unfold Region.wanted;rw [hog]
   rw [hw] at h ⊢
   simp only [if_true] at h ⊢
   rcases h with h|⟨_,a',w',h,_⟩
   ·refine b36 (fun a w h hfa=>ih (listed.setIfInBounds i true) (l'.setIfInBounds i true) a w (by simpa using hls) (by simpa using hl's) (fun j hj=>?_) (fun j hj=>?_) (fun j oj hoj hl e he hbi=>?_) (fun t ht=>(hfa t (ht o (lbm (i:=i) (by rw [lbi,if_pos hik];exact ho')))).trans (hfr t ht)) h) (fun e a w he hq=>he hq.1) h
    ·by_cases hji:i=j
     ·subst hji
      rw [X3 (by omega),X3 (by omega)]
     ·rw [getD_set_ne false hji,getD_set_ne false hji];exact hag j hj
    ·rw [getD_set_ne false (by omega)];exact hhi j hj
    ·rcases S4 hl with rfl|hl
     ·rw [ho'] at hoj
      injection hoj with hoj
      subst hoj
      exact getD_set_true (hready' e he hbi)
     ·exact getD_set_true (hcl j oj hoj hl e he hbi)
   ·cases h
theorem a7m (n i:Nat):(Array.replicate n false).getD i false=false:=by
 rw [Array.getD_eq_getD_getElem?,Array.getElem?_replicate]
 split<;>rfl
def b8Y (ops:List Oper) (k:Nat):Bool:=(List.range ops.length).all fun i=>Nat.blt i k || ((List.range i).all fun j=>((a0t ops).getD i 0).testBit j) && (match ops[i]? with|some o=>o.guard.isNone|none=>true)
theorem b8d {P:Program} {n k:Nat} {ops:Array Oper} {Q:Exit->Act->World->Prop} (hb:a0J ops.toList=true) (hs:b8Y ops.toList k=true):∀(m j:Nat) (a:Act) (w:World),j+m=ops.size->k<=j->
 wpListIn Fence.wide n P ops Q (ops.toList.drop j) a w->wpAnyIn Fence.wide n P .any ops Q m (O4 j ops.size) a w:=by
 have hget:∀j i,i<ops.size->(O4 j ops.size).getD i false=Nat.blt i j:=fun j i hi=>by
  rw [Array.getD_eq_getD_getElem?,a2f hi];rfl
 have hnr:∀j i,j<=ops.size->k<=j->i ∈ Region.ready .any ops (O4 j ops.size)->i=j:=fun j i hj hk hi=>by
  rw [mem_ready] at hi
  obtain ⟨hl,o,ho,hready⟩:=hi
  have hlt:=(lb4.1 ho).1
  have ho':ops.toList[i]? =some o:=by simpa using ho
  have h1:(O4 j ops.size).getD i false=false:=by
   have:=a2u j ops.size
   simp [this,hlt] at hl ⊢;exact hl
  rw [hget j i hlt] at h1
  have hge:j<=i:=by
   apply a1f
   intro h
   have:Nat.blt i j=true:=by simp;omega
   rw [this] at h1;cases h1
  apply a1f
  intro hne
  have h2:=lbv.1 hs i (lbB.2 (by simpa using hlt))
  have h3:Nat.blt i k=false:=by rw [← lbP];simp;omega
  rw [h3,Bool.false_or,lbM] at h2
  have h4:=lbv.1 h2.1 j (lbB.2 (by omega))
  have h5:=Y4 hb (S:=fun i=>(O4 j ops.size).getD i false=true) (fun i2 o2 ho2 hi2 e he hbi=>by
   have hl2:=(lbe.1 ho2).1
   have hl3:i2<ops.size:=by simpa using hl2
   rw [hget j i2 hl3] at hi2
   have h6:=a6R hb ho2 he hbi
   rw [hget j e.on (by omega)]
   simp at hi2 ⊢;omega) ho' (fun e he=>hready e (by simpa using he)) h4
  rw [hget j j (by omega)] at h5
  simp at h5
 intro m
 induction m with
 |zero=>
  intro j a w hj hk h
  have hd:ops.toList.drop j=[]:=by rw [List.drop_eq_nil_iff];simp;omega
  rw [hd] at h
  refine ⟨?_,h⟩
  cases hr:Region.ready .any ops (O4 j ops.size) with
  |nil=>rfl
  |cons i r=>
   have hi:=hnr j i (by omega) hk (by rw [hr];simp)
   have hm:i ∈ Region.ready .any ops (O4 j ops.size):=by rw [hr];simp
   rw [mem_ready] at hm
   obtain ⟨_,o,ho,_⟩:=hm
   have:=(lb4.1 ho).1
   omega
 |succ m ih=>
  intro j a w hj hk h
  have hjl:j<ops.size:=by omega
  have hd:ops.toList.drop j=ops[j]::ops.toList.drop (j+1):=by rw [List.drop_eq_getElem_cons (by simpa using hjl)];simp
  rw [hd] at h
  have h2:=lbv.1 hs j (lbB.2 (by simpa using hjl))
  have h3:Nat.blt j k=false:=by rw [← lbP];simp;omega
  have hoj:ops.toList[j]? =some ops[j]:=by simp [hjl]
  rw [h3,Bool.false_or,lbM,hoj] at h2
  have hgn:ops[j].guard=none:=by
   have:=h2.2
   simp only at this
   cases hq:ops[j].guard with
   |none=>rfl
   |some x=>rw [hq] at this;cases this
  have hw:∀y,Region.wanted ops[j] y=true:=fun y=>by unfold Region.wanted;rw [hgn]
  refine ⟨fun hr=>?_,fun i hi=>?_⟩
  ·have:=U0 hb (a2u _ _) hr j hjl
   rw [hget j j hjl] at this
   simp at this
  ·obtain rfl:=hnr j i (by omega) hk hi
   unfold wpOpIn
   rw [Array.getElem?_eq_getElem hjl]
   simp only [hw,if_true]
   unfold wpListIn at h
   simp only [hw,if_true] at h
   have e:(O4 i ops.size).setIfInBounds i true=O4 (i+1) ops.size:=by
    refine Array.ext (by simp [O4]) fun x h1 h2=>?_
    have hx:x<ops.size:=by simpa [O4] using h1
    have a1:=a2f (k:=i+1) (n:=ops.size) hx
    rw [Array.getElem?_eq_getElem h2] at a1
    injection a1 with a1
    rw [a1]
    by_cases hix:i=x
    ·subst hix;simp
    ·rw [Array.getElem_setIfInBounds_ne (by simpa [O4] using hx) hix]
     have a2:=a2f (k:=i) (n:=ops.size) hx
     rw [Array.getElem?_eq_getElem (by simpa [O4] using hx)] at a2
     injection a2 with a2
     rw [a2]
     rw [Bool.eq_iff_iff];simp;omega
   rw [e]
   exact Oper.wpIn_mono (fun a w h=>ih (i+1) a w (by omega) (by omega) h) h
theorem aR2 {P:Program} {τ:Tab} (hτ:D3 P τ) {n k id:Nat} {opl:List Oper} {Q:Exit->Act->World->Prop} {K:Env->Hp->Prop} {env:Env} {a0:Act} {w0:World} (hmx:P.follows .mixedOrders=true)
 (hr:a7o (opl.take k)=true) (hc:aK7 opl k=true) (hsq:b8Y opl k=true) (h:a73 P τ (opl.take k) true 0 (opl.take k) env [] K) (hs:Sim w0 (fun _=>none) (fun _=>False) [] a0 w0 env [])
 (hK:∀env' H' a' w',K env' H'->Sim w0 (fun _=>none) (fun _=>False) [] a' w' env' H'->(∀ t,(∀ o ∈ opl.take k,o.dst≠some t)->a'.tmps.getD t undef=a0.tmps.getD t undef)->wpListIn Fence.wide n P opl.toArray Q (opl.drop k) a' w'):
 (Code.region id opl.toArray true).wpIn Fence.wide n P Q a0 w0:=by
 refine wpIn_region_any hmx ?_
 have hb:a0J opl=true:=by
  unfold aK7 at hc
  simp only [lbM] at hc
  exact hc.1.1.1
 have hkn:k<=opl.length:=by
  unfold aK7 at hc
  simp only [lbM] at hc
  exact Nat.le_of_ble_eq_true hc.2
 have e:opl.toArray.size=k+(opl.length - k):=by simp;omega
 have hd:=a4K (H0:=[]) (ι0:=fun _=>none) hτ (ops:=(opl.take k).toArray) (Q:=fun e a w=>e=.normal∧∃env' H',K env' H'∧Sim w0 (fun _=>none) (fun _=>False) [] a w env' H') (w0:=w0) (M0:=fun _=>False) (fun b hb=>hb.elim) (fun env H a w h1 h2=>⟨rfl,env,H,h1,h2⟩) hr h hs
 have hsz:((opl.take k).toArray).size=k:=by simp;omega
 rw [hsz] at hd
 have key:=b7n (k:=k) (m:=opl.length - k) (n:=n) (Q:=Q) (ops:=opl.toArray) (a0:=a0) (K:=fun a' w'=>∃env' H',K env' H'∧Sim w0 (fun _=>none) (fun _=>False) [] a' w' env' H') (by simpa using hc)
  (fun a w ⟨env',H',h1,h2⟩ hfr=>b8d (ops:=opl.toArray) (by simpa using hb) (by simpa using hsq) (opl.length - k) k a w (by simp;omega) (lbQ _) (by simpa using hK env' H' a w h1 h2 (by simpa using hfr))) k (Array.replicate (k+(opl.length - k)) false) (Array.replicate k false) a0 _ (by simp;omega) (by simp) (fun i hi=>by rw [a7m,a7m]) (fun i hi=>a7m _ _) (fun i o _ hl=>by rw [a7m] at hl;cases hl) (fun _ _=>rfl) (by simpa using hd)
 rw [e]
 exact key
section
open Go.RowKit Go.Shelf
attribute [local go_sem] Oper.semAt_some
theorem b9D (l:List Int):b9 Tryz.prog 202 [i7 l] [] (.c (.t (.sl 1 .full (l.map g9)))) []:=by
 have m1:(l.map g9).length=l.length:=by simp
 (refine ac Tryz.func202 ?_;(conv=>whnf);repeat (refine zy ?_;conv=>whnf))
 repeat' (first|refine zx ?_|refine ⟨⟨by omega,by omega,by omega,by omega⟩,?_⟩|refine zd ?_ ?_<;>intro h<;>try omega|fail)<;>conv=>whnf
 all_goals first
  |exact s7 (show a9p [] _ _ _ from by rw [lbX,lbn (lbQ _)];rfl)
theorem ap6 {w:World} {a:Act} {env:Env} (hd:a.defers=[]) (hs:a.tmps.size=env.length) (he:∀t s,env[t]? =some s->RS w (fun _=>none) (fun _=>False) s (a.tmps.getD t undef)):
 Sim w (fun _=>none) (fun _=>False) [] a w env []:=
 ⟨_,_,hd,hs,he,⟨fun id k h=>by simp at h,fun id k h=>by simp at h,fun id k h=>by simp at h,fun id id' k k' h=>by simp at h,fun id id' k k' h=>by simp at h⟩,fun b h=>h.elim,fun _ _=>rfl,a37.refl _ _ _ _⟩
theorem b00 {w w':World} {ι':Io} {M':Ms} {H':Hp} (h:a37 w (fun _=>none) (fun _=>False) [] w' ι' M' H'):w.grownBy w' none:=
 ⟨h.os,h.tape,h.output,h.size,fun b hb _=>h.keep b hb (by rintro ⟨id,k,c,s,hk,_⟩;simp at hk)⟩
theorem b1t {w w':World} {a:Act} {env:Env} {H:Hp} (h:Sim w (fun _=>none) (fun _=>False) [] a w' env H):a.defers=[]∧a.tmps.size=env.length∧w.grownBy w' none∧
 ∃ι M,a2G w' ι M env a∧p9 w' ι M H∧∀id k b cap size,H[id]? =some k->k.mode=.live->ι id=some (.blk b cap size)->w.heap.size<=b:=by
 obtain ⟨ι,M,h1,h2,h3,h4,h5,h6,h7⟩:=h
 refine ⟨h1,h2,b00 h7,ι,M,h3,h4,fun id k b cap size hk hm hi=>?_⟩
 rcases h7.live b ⟨id,k,cap,size,hk,hm,hi⟩ with ⟨id',k',c,s,hk',_⟩|h
 ·simp at hk'
 ·exact h
theorem ak0 {w:World} {ι:Io} {M:Ms} {v u:Value} (h:RS w ι M (.c (.t (.atm v))) u):u=v:=by
 cases h with|c h=>cases h with|t h=>cases h with|atm=>rfl
theorem b9F (l:List Value) (h:l.length=38):l=(List.range 38).map fun i=>l.getD i undef:=by
 refine List.ext_getElem? fun i=>?_
 by_cases hi:i<38
 ·have hl:i<l.length:=by omega
  simp [hi,lbl,hl]
 ·rw [lbd (by omega),lbd (by simp;omega)]
def S.isJunk:S->Bool
 |.junk=>true
 |_=>false
theorem b1r {l:List S} (ks:List Nat) (h:(l.zipIdx.all fun p=>ks.any (Nat.beq p.2) || p.1.isJunk)=true) {t:Nat} {x:S} (hx:l[t]? =some x):t ∈ ks∨x=J:=by
 have h1:=lbv.1 h (x,t) (by rw [List.mem_zipIdx_iff_getElem?];exact hx)
 rw [lbN] at h1
 rcases h1 with h1|h1
 ·obtain ⟨k,hk,he⟩:=lbw.1 h1
  have:t=k:=Nat.eq_of_beq_eq_true he
  subst this;exact .inl hk
 ·right
  cases x with
  |junk=>rfl
  |_=>cases h1
theorem b9g (a:Act) (h:a.tmps.size=38) (hd:a.defers=[]):a=⟨((List.range 38).map fun i=>a.tmps.getD i undef).toArray,[]⟩:=by
 obtain ⟨tm,ds⟩:=a
 have hd:ds=[]:=hd
 subst hd
 congr 1
 have:=b9F tm.toList (by simpa using h)
 obtain ⟨l⟩:=tm
 simpa using congrArg List.toArray this
section
variable {X ns Bn By Bl Bd lp n:Nat} {l:List Int} {A:Option Addr} {cap:Nat}
abbrev b4L (Bn By Bl Bd:Nat):List Value:=[.pointer (some ⟨Bn,0,none⟩),.pointer (some ⟨By,0,none⟩),.pointer (some ⟨Bl,0,none⟩),.pointer (some ⟨Bd,0,none⟩)]
abbrev dnF (Bn By Bl Bd:Nat):Value:=.func (.func 200) #[] #[.pointer (some ⟨Bn,0,none⟩),.pointer (some ⟨By,0,none⟩),.pointer (some ⟨Bl,0,none⟩),.pointer (some ⟨Bd,0,none⟩)]
abbrev XE:=List Int × Value
def GX (n0:Nat) (x:XE) (W:World):Prop:=a1p n0 W x.1 x.2∧x.1.length<=1000
theorem a3C {n0:Nat} {W:World} {s:List Int} {v:Value} (h:a1p n0 W s v):∃A cap,v=.slice A s.length cap:=by
 rcases h with ⟨rfl,A,rfl⟩|⟨g,cap,cur,rfl,_⟩
 ·exact ⟨A,0,rfl⟩
 ·exact ⟨_,cap,rfl⟩
theorem b0o {W:World} {b:Nat} {t:TypeId} {v:Value} {x:T} (h:Boxed W b t v) (hx:RT W (fun _=>False) x v):RT W (fun _=>False) (.ptr [x]) (.pointer (some ⟨b,0,none⟩)):=by
 refine .ptr (b:=b) (off:=0) (fun _=>v) (fun j c hj=>?_) (fun j c hj=>?_)
 ·cases j with
  |zero=>exact ⟨h.cell,fun h=>h⟩
  |succ j=>simp at hj
 ·cases j with
  |zero=>injection hj with hj;subst hj;exact hx
  |succ j=>simp at hj
theorem b32 (hCl:∀l:List Int,l.length<=100000->b9 Tryz.prog 201 [i7 l] [] (.c (.own 0 0 l.length true)) [t8 l])
 (JJ:List XE->World->Prop) (hJk:∀pre A B,JJ pre A->A.grownBy B none->JJ pre B) (n0 N:Nat)
 (hY:∀m pre x W,JJ pre W->GX n0 x W->pre.length<N->YieldAt Fence.wide m Tryz.prog lp #[x.2] W fun e W'=>e=.returned (.bool true)∧JJ (pre++[x]) W'∧KpX X ns W W')
 (m:Nat) (s:List Int) (sv:Value) (i:Int) (pre:List XE) (W:World) (hs:s.length=n) (h1000:s.length<=1000) (hD:DnC X ns Bn By Bl Bd lp n l A cap W) (hsv:a1p ns W s sv) (hJ:JJ pre W) (hN:pre.length<N) (hW:n0<=W.heap.size):
 CallsIn Fence.wide m Tryz.prog 200 (#[.int .i64 i,sv]++(b4L Bn By Bl Bd).toArray) W fun e W'=>e=.returned (.bool true)∧∃v,JJ (pre++[(s,v)]) W'∧KpX X ns W W':=by
 obtain ⟨As,cs,hsv2⟩:=a3C hsv
 have hrt:RT W (fun _=>False) (E1 s) sv:=hsv.rt fun b h=>h.elim
 subst hsv2
 have c1:=hD.bn.cell
 have hcl:=fun H:Hp=>a0C (H:=H) (hCl s (by omega)) rfl rfl (i8 _)
 have hmx:Tryz.prog.follows .mixedOrders=true:=by kernel_rfl
 refine callsIn_of_wp Tryz.func200 rfl trivial ?_ rfl
 simp only [Tryz.ntmps200,List.size_toArray,lbu,List.length_nil,Nat.reduceAdd,Nat.reduceSub,Array.replicate_succ,Array.replicate_zero,List.push_toArray,List.append_toArray,List.nil_append,List.cons_append]
 gi_wp2
 all_goals try omega
 refine ar8 ?_
 refine aR2 (k:=3) (env:=[J,i7 s,J,S.c (C.t (T.ptr [T.atm (.func (.yield lp) #[] #[])]))]++Jn 34) g6 hmx (by decide +kernel) (by decide +kernel) (by decide +kernel) (K:=fun env' H'=>env'[14]? =some (.c (.t (.atm (.func (.yield lp) #[] #[]))))∧env'[16]? =some (.c (.own 0 0 s.length true))∧H'=[t8 s]∧env'.length=38) ?h ?s ?k
 case h=>
  conv=>whnf
  repeat' (first|refine zx ?_|refine .inl ⟨_,_,hcl _,?_⟩|refine zd ?_ ?_<;>intro h<;>try omega|fail)<;>conv=>whnf
  all_goals first
   |exact ⟨rfl,rfl,rfl,rfl⟩
 case s=>
  refine ap6 rfl rfl fun t x hx=>?_
  rcases b1r [1,3] rfl hx with ht|rfl
  ·have ht:t=1∨t=3:=by simpa using ht
   rcases ht with rfl|rfl
   ·injection hx with hx;subst hx;exact .c (.t hrt)
   ·injection hx with hx;subst hx;exact .c (.t (b0o hD.yd (.atm rfl)))
  ·exact .junk
 case k=>
  rintro env' H' a' w' ⟨k1,k2,rfl,k4⟩ hS hfr
  clear hfr
  obtain ⟨e1,e2,e3,ι,M,e4,e5,e6⟩:=b1t hS
  have e14:=ak0 (e4 14 _ k1)
  have e16:=aR6 (n0:=n0) e5 rfl (e4 16 _ k2) (fun b c z hb=>by have:=e6 0 _ b c z rfl rfl hb;omega)
  rw [b9g a' (by omega) e1]
  simp only [List.range,List.range.loop,List.map]
  rw [e14]
  generalize a'.tmps.getD 16 undef=v at e16
  generalize a'.tmps.getD 0 undef=x0
  generalize a'.tmps.getD 1 undef=x1
  generalize a'.tmps.getD 2 undef=x2
  generalize a'.tmps.getD 3 undef=x3
  generalize a'.tmps.getD 4 undef=x4
  generalize a'.tmps.getD 5 undef=x5
  generalize a'.tmps.getD 6 undef=x6
  generalize a'.tmps.getD 7 undef=x7
  generalize a'.tmps.getD 8 undef=x8
  generalize a'.tmps.getD 9 undef=x9
  generalize a'.tmps.getD 10 undef=x10
  generalize a'.tmps.getD 11 undef=x11
  generalize a'.tmps.getD 12 undef=x12
  generalize a'.tmps.getD 13 undef=x13
  generalize a'.tmps.getD 15 undef=x15
  generalize a'.tmps.getD 17 undef=x17
  generalize a'.tmps.getD 18 undef=x18
  generalize a'.tmps.getD 19 undef=x19
  generalize a'.tmps.getD 20 undef=x20
  generalize a'.tmps.getD 21 undef=x21
  generalize a'.tmps.getD 22 undef=x22
  generalize a'.tmps.getD 23 undef=x23
  generalize a'.tmps.getD 24 undef=x24
  generalize a'.tmps.getD 25 undef=x25
  generalize a'.tmps.getD 26 undef=x26
  generalize a'.tmps.getD 27 undef=x27
  generalize a'.tmps.getD 28 undef=x28
  generalize a'.tmps.getD 29 undef=x29
  generalize a'.tmps.getD 30 undef=x30
  generalize a'.tmps.getD 31 undef=x31
  generalize a'.tmps.getD 32 undef=x32
  generalize a'.tmps.getD 33 undef=x33
  generalize a'.tmps.getD 34 undef=x34
  generalize a'.tmps.getD 35 undef=x35
  generalize a'.tmps.getD 36 undef=x36
  generalize a'.tmps.getD 37 undef=x37
  obtain ⟨fn,tmps,assign,body,hy,hR⟩:=hY (m - 1) pre (s,v) w' (hJk _ _ _ hJ e3) ⟨e16,h1000⟩ hN
  gi_wp2
  refine ⟨fun h=>by simp [Fence.wide] at h,?_⟩
  refine hR.mono ?_
  rintro e W3 ⟨rfl,hJ3,hk3⟩
  gi_wp2
  go_ret
  exact ⟨rfl,v,hJ3,(KpX.grown e3).trans hk3⟩
theorem af9 {l:List Int} {j k:Nat} {x:Int} (h:l[j]? =some x):G0 (l.drop j) (k+1)=(G0 (l.drop (j+1)) k).map (x::·)++G0 (l.drop (j+1)) (k+1):=by
 have hlt:=(lbe.1 h).1
 rw [lbf hlt] at h
 injection h with h
 rw [List.drop_eq_getElem_cons hlt,G0,h]
theorem b8e (hCl:∀l:List Int,l.length<=100000->b9 Tryz.prog 201 [i7 l] [] (.c (.own 0 0 l.length true)) [t8 l])
 (JJ:List XE->World->Prop) (hJk:∀pre A B,JJ pre A->A.grownBy B none->JJ pre B) (n0 N:Nat) (hl:l.length<=1000) (h1000:n<=1000)
 (hY:∀m pre x W,JJ pre W->GX n0 x W->pre.length<N->YieldAt Fence.wide m Tryz.prog lp #[x.2] W fun e W'=>e=.returned (.bool true)∧JJ (pre++[x]) W'∧KpX X ns W W') (hn0:n0<=ns):
 ∀(k m:Nat) (s:List Int) (sv:Value) (i:Nat) (pre:List XE) (W:World),s.length+k=n->i<=l.length->DnC X ns Bn By Bl Bd lp n l A cap W->a1p ns W s sv->JJ pre W->pre.length+(G0 (l.drop i) k).length<=N->ns<=W.heap.size->
 CallsIn Fence.wide m Tryz.prog 200 (#[.int .i64 (i:Int),sv]++(b4L Bn By Bl Bd).toArray) W fun e W'=>e=.returned (.bool true)∧∃xs:List XE,xs.map Prod.fst=(G0 (l.drop i) k).map (s++·)∧JJ (pre++xs) W'∧KpX X ns W W':=by
 intro k
 induction k with
 |zero=>
  intro m s sv i pre W hs hi hD hsv hJ hN hW
  refine (b32 hCl JJ hJk n0 N hY m s sv i pre W (by omega) (by omega) hD hsv hJ (by simp [G0] at hN;omega) (by omega)).mono ?_
  rintro e W' ⟨rfl,v,h1,h2⟩
  exact ⟨rfl,[(s,v)],by simp [G0],h1,h2⟩
 |succ k ih=>
  intro m s sv i pre W hs hi hD hsv hJ hN hW
  obtain ⟨As,cs,hsv2⟩:=a3C hsv
  subst hsv2
  have c1:=hD.bn.cell
  have hmx:Tryz.prog.follows .mixedOrders=true:=by kernel_rfl
  have hsn:¬(s.length:Int)=(n:Int):=by omega
  refine callsIn_of_wp Tryz.func200 rfl trivial ?_ rfl
  simp only [Tryz.ntmps200,List.size_toArray,lbu,List.length_nil,Nat.reduceAdd,Nat.reduceSub,Array.replicate_succ,Array.replicate_zero,List.push_toArray,List.append_toArray,List.nil_append,List.cons_append]
  gi_wp2
  all_goals try omega
  gi_loopw [9] (fun iv wr=>∃j:Nat,i<=j∧j<=l.length∧iv=.int .i64 (j:Int)∧∃xs:List XE,xs.map Prod.fst++(G0 (l.drop j) (k+1)).map (s++·)=(G0 (l.drop i) (k+1)).map (s++·)∧JJ (pre++xs) wr∧KpX X ns W wr) (fun iv _=>l.length - (intOf iv).toNat)
  case atStart=>exact ⟨i,lbQ _,hi,rfl,[],by simp,by simpa using hJ,KpX.refl _ _ _⟩
  case round=>
   obtain ⟨j,hij,hjl,rfl,xs,hxs,hJj,hkj⟩:=hrel
   have hDr:=hD.keep hkj
   have hXn:=hD.nX.2.2.2.2.2
   have hsr:=hkj.irow hXn hsv
   have d2:=hDr.bl.cell
   by_cases hlt:j<l.length
   ·obtain ⟨x,hx⟩:∃x,l[j]? =some x:=⟨_,lbf hlt⟩
    have hrt:RT wr (fun _=>False) (E1 s) (.slice As s.length cs):=hsr.rt fun b h=>h.elim
    have hrl:=hDr.rt
    have hcp:=b9D s
    gi_wp2
    all_goals try omega
    refine ar8 ?_
    refine aR2 (k:=11) (env:=[J,i7 s,J,J,S.c (C.t (T.ptr [E1 l])),S.c (C.t (T.ptr [T.atm (dnF Bn By Bl Bd)])),J,J,J,b7 .i64 j]++Jn 28) g6 hmx (by decide +kernel) (by decide +kernel) (by decide +kernel) (K:=fun env' H'=>env'[25]? =some (.c (.t (.atm (dnF Bn By Bl Bd))))∧env'[27]? =some (b7 .i64 ((j+1:Nat):Int))∧env'[35]? =some (.c (.own 0 0 (s++[x]).length true))∧H'=[t8 (s++[x])]∧env'.length=38) ?h ?s ?k
    case h=>
     conv=>whnf
     repeat' (first|refine zx ?_|refine qp hcp ?_|refine qp toC ?_|refine qp toC ?_|refine i3 hx ?_|refine b4n (by simp [toC]) rfl (by simp [toC];omega) ?_|refine zd ?_ ?_<;>intro h<;>try omega|fail)<;>conv=>whnf
     all_goals first
      |omega
      |skip
     refine ⟨rfl,?_,?_,?_,rfl⟩
     ·show some (b7 .i64 ((j:Int)+1))=_
      rw [show ((j+1:Nat):Int)=(j:Int)+1 by omega]
     ·show some (S.c (C.own 0 0 ((s.map g9).length+(toC [[T.atm (Value.int .i64 x)]]).length) true))=_
      rw [show (s.map g9).length+(toC [[T.atm (Value.int .i64 x)]]).length=(s++[x]).length by simp [toC]]
     ·show [I1 _ _ _ _]=[t8 _]
      unfold I1
      congr 2
      simp [toC,g9]
    case s=>
     refine ap6 rfl rfl fun t x hx=>?_
     rcases b1r [1,4,5,9] rfl hx with ht|rfl
     ·have ht:t=1∨t=4∨t=5∨t=9:=by simpa using ht
      rcases ht with rfl|rfl|rfl|rfl
      ·injection hx with hx;subst hx;exact .c (.t hrt)
      ·injection hx with hx;subst hx;exact .c (.t (b0o hDr.bl hrl))
      ·injection hx with hx;subst hx;exact .c (.t (b0o hDr.bd (.atm rfl)))
      ·injection hx with hx;subst hx;exact .c (.t (.atm rfl))
     ·exact .junk
    case k=>
     rintro env' H' a' w' ⟨k1,k2,k3,rfl,k4⟩ hS hfr
     have f0:=hfr 0 (by decide +kernel)
     have f1:=hfr 1 (by decide +kernel)
     have f2:=hfr 2 (by decide +kernel)
     have f3:=hfr 3 (by decide +kernel)
     have f4:=hfr 4 (by decide +kernel)
     have f5:=hfr 5 (by decide +kernel)
     have f6:=hfr 6 (by decide +kernel)
     have f7:=hfr 7 (by decide +kernel)
     have f8:=hfr 8 (by decide +kernel)
     have f9:=hfr 9 (by decide +kernel)
     have f10:=hfr 10 (by decide +kernel)
     have f11:=hfr 11 (by decide +kernel)
     have f12:=hfr 12 (by decide +kernel)
     have f13:=hfr 13 (by decide +kernel)
     have f14:=hfr 14 (by decide +kernel)
     have f15:=hfr 15 (by decide +kernel)
     have f16:=hfr 16 (by decide +kernel)
     have f17:=hfr 17 (by decide +kernel)
     have f18:=hfr 18 (by decide +kernel)
     have f19:=hfr 19 (by decide +kernel)
     have f20:=hfr 20 (by decide +kernel)
     have f21:=hfr 21 (by decide +kernel)
     have f22:=hfr 22 (by decide +kernel)
     have f23:=hfr 23 (by decide +kernel)
     have f24:=hfr 24 (by decide +kernel)
     have f36:=hfr 36 (by decide +kernel)
     have f37:=hfr 37 (by decide +kernel)
     clear hfr
     simp only [Array.getD_eq_getD_getElem?,List.getElem?_toArray,List.getElem?_cons_zero,List.getElem?_cons_succ,Option.getD_some] at f0 f1 f2 f3 f4 f5 f6 f7 f8 f9 f10 f11 f12 f13 f14 f15 f16 f17 f18 f19 f20 f21 f22 f23 f24 f36 f37
     obtain ⟨e1,e2,e3,ι,M,e4,e5,e6⟩:=b1t hS
     have e25:=ak0 (e4 25 _ k1)
     have e27:=ak0 (e4 27 _ k2)
     have e35:=aR6 (n0:=ns) e5 rfl (e4 35 _ k3) (fun b c z hb=>by have:=e6 0 _ b c z rfl rfl hb;have:=hkj.size;omega)
     rw [b9g a' (by omega) e1]
     simp only [List.range,List.range.loop,List.map]
     generalize a'.tmps.getD 35 undef=v35 at e35 ⊢
     generalize a'.tmps.getD 26 undef=x26
     generalize a'.tmps.getD 28 undef=x28
     generalize a'.tmps.getD 29 undef=x29
     generalize a'.tmps.getD 30 undef=x30
     generalize a'.tmps.getD 31 undef=x31
     generalize a'.tmps.getD 32 undef=x32
     generalize a'.tmps.getD 33 undef=x33
     generalize a'.tmps.getD 34 undef=x34
     simp only [Array.getD_eq_getD_getElem?] at e25 e27 ⊢
     rw [e25,e27,f0,f1,f2,f3,f4,f5,f6,f7,f8,f9,f10,f11,f12,f13,f14,f15,f16,f17,f18,f19,f20,f21,f22,f23,f24,f36,f37]
     have hdd:∀k:Nat,(Fence.wide.depth.isSome=true->1<=k):=fun k h=>by simp [Fence.wide] at h
     have hJ':=hJk _ _ _ hJj e3
     have hN':(pre++xs).length+(G0 (l.drop (j+1)) k).length<=N:=by
      have q:=congrArg List.length hxs
      rw [af9 hx] at q
      simp only [lbq,lbr] at q ⊢
      omega
     have hk':=hkj.trans (KpX.grown e3)
     have hD':=hD.keep hk'
     gi_wp2_with (refine ⟨trivial,hdd _,?_⟩;refine (ih (m - 1) (s++[x]) _ (j+1) (pre++xs) w' (by simp;omega) (by omega) hD' e35 hJ' hN' (by have:=hk'.size;omega)).mono ?_;rintro e W3 ⟨rfl,ys,hys,hJ3,hk3⟩)
     have hbq:((s.length:Int) == (n:Int))=false:=by simpa using hsn
     simp only [hbq]
     refine ⟨⟨_,_,_,_,_,_,_,_,_,_,_,_,_,_,_,_,_,_,_,_,_,⟨j+1,by omega,by omega,?_,xs++ys,?_,by rw [← lbD];exact hJ3,hk'.trans hk3⟩,rfl⟩,?_⟩
     ·rw [show ((j+1:Nat):Int)=(j:Int)+1 by omega]
     ·rw [← hxs,af9 hx,lbC,lbC,lbD,hys,List.map_map]
      congr 2
      refine lbp fun q _=>?_
      simp
     ·simp [intOf];omega
   ·have hje:j=l.length:=by omega
    subst hje
    gi_wp2
    all_goals try omega
    go_ret
    refine ⟨rfl,xs,?_,hJj,hkj⟩
    rw [List.drop_length] at hxs
    simpa [G0] using hxs
end
end
section
open Go.RowKit Go.Shelf
attribute [local go_sem] Oper.semAt_some
theorem aB2 {P:Program} {w:World} {a:Addr} {m:Mode} (fn:Fn) (first captured:Array Value):(store a (.func fn first captured) m).run P w=stored P w a (.func fn first captured) m:=run_store P w a _ m rfl
attribute [local go_sem] aB2
section
variable {X ns Bn Bl n:Nat} {l:List Int} {A:Option Addr} {cap:Nat}
theorem b50 (hCl:∀l:List Int,l.length<=100000->b9 Tryz.prog 201 [i7 l] [] (.c (.own 0 0 l.length true)) [t8 l])
 (JJ:List XE->World->Prop) (hJk:∀pre A B,JJ pre A->A.grownBy B none->JJ pre B) (lp m N:Nat) (hN:(G0 l n).length<=N) (hl:l.length<=1000) (h1000:n<=1000)
 (hY:∀m pre x W,JJ pre W->GX ns x W->pre.length<N->YieldAt Fence.wide m Tryz.prog lp #[x.2] W fun e W'=>e=.returned (.bool true)∧JJ (pre++[x]) W'∧KpX X ns W W')
 (W:World) (hW:ns<=W.heap.size) (hbn:Boxed W Bn tI (.int .i64 (n:Int))) (hbl:Boxed W Bl tIs (.slice A l.length cap)) (row:∀i x,l[i]? =some x->∃b off,A=some ⟨b,off,none⟩∧W.cell? ⟨b,off+i,none⟩=some (.int .i64 x)∧b<ns∧b≠X)
 (nX:Bn≠X∧Bl≠X∧Bl<ns∧X<ns) (lc:l.length<=cap∧cap<=maxLen) (hJ:JJ [] W):
 CallsIn Fence.wide m Tryz.prog 199 (#[.func (.yield lp) #[] #[]]++#[.pointer (some ⟨Bn,0,none⟩),.pointer (some ⟨Bl,0,none⟩)]) W fun e W'=>(∃ v,e=.returned v)∧∃xs:List XE,xs.map Prod.fst=G0 l n∧JJ xs W':=by
 have g1:W.grownBy (W.alloc (.cells #[.func (.yield lp) #[] #[]] 166)) none:=World.grownBy_alloc W _ none
 have bD0:=Boxed.new (W.alloc (.cells #[.func (.yield lp) #[] #[]] 166)) 219 .nilFunc
 rw [World.size_alloc] at bD0
 have cD:=bD0.cell
 have fD:=bD0.frozen
 have bD:=Boxed.new (W.alloc (.cells #[.func (.yield lp) #[] #[]] 166)) 219 (dnF Bn W.heap.size Bl (W.heap.size+1))
 have bY:=(Boxed.new W 166 (.func (.yield lp) #[] #[])).alloc (.cells #[dnF Bn W.heap.size Bl (W.heap.size+1)] 219)
 rw [World.size_alloc] at bD
 have g2:W.grownBy ((W.alloc (.cells #[.func (.yield lp) #[] #[]] 166)).alloc (.cells #[dnF Bn W.heap.size Bl (W.heap.size+1)] 219)) none:=by
  refine ⟨rfl,rfl,rfl,by simp;omega,fun k hk _=>?_⟩
  exact (Below.heap_alloc _ _ _ (by simp;omega)).trans (Below.heap_alloc _ _ _ hk)
 have hJ2:=hJk _ _ _ hJ g2
 have k2:=KpX.grown (X:=X) (ns:=ns) g2
 have s2:ns<=((W.alloc (.cells #[.func (.yield lp) #[] #[]] 166)).alloc (.cells #[dnF Bn W.heap.size Bl (W.heap.size+1)] 219)).heap.size:=by have:=k2.size;omega
 obtain ⟨n1,n2,n3,n4⟩:=nX
 have hD:DnC X ns Bn W.heap.size Bl (W.heap.size+1) lp n l A cap ((W.alloc (.cells #[.func (.yield lp) #[] #[]] 166)).alloc (.cells #[dnF Bn W.heap.size Bl (W.heap.size+1)] 219)):=
  ⟨k2.boxed hbn n1 (.inr (by decide)),bY,k2.boxed hbl n2 (.inl n3),bD,fun i x hx=>by
    obtain ⟨b,off,h1,h2,h3,h4⟩:=row i x hx
    exact ⟨b,off,h1,k2.cell h2 h4 h3,h3,h4⟩,⟨n1,by omega,n2,by omega,n3,n4⟩,lc⟩
 have hdd:∀k:Nat,(Fence.wide.depth.isSome=true->1<=k):=fun k h=>by simp [Fence.wide] at h
 refine callsIn_of_wp Tryz.func199 rfl trivial ?_ rfl
 simp only [Tryz.ntmps199,List.size_toArray,lbu,List.length_nil,Nat.reduceAdd,Nat.reduceSub,Array.replicate_succ,Array.replicate_zero,List.push_toArray,List.append_toArray,List.nil_append,List.cons_append]
 gi_wp2_with (refine ⟨trivial,hdd _,?_⟩;refine (b8e hCl JJ hJk ns N hl h1000 hY (lbQ _) n (m - 1) [] (.slice none 0 0) 0 [] _ (by simp) (Nat.zero_le _) hD (.inl ⟨rfl,none,rfl⟩) hJ2 (by simpa using hN) s2).mono ?_;rintro e W3 ⟨rfl,ys,hys,hJ3,hk3⟩)
 go_end0
 exact ⟨⟨_,rfl⟩,ys,by simpa using hys,by simpa using hJ3⟩
theorem b5A (hCl:∀l:List Int,l.length<=100000->b9 Tryz.prog 201 [i7 l] [] (.c (.own 0 0 l.length true)) [t8 l]) (m:Nat) (hl:l.length<=1000) (h1000:n<=1000)
 (w:World) (hw:ns<=w.heap.size) (hbn:Boxed w Bn tI (.int .i64 (n:Int))) (hbl:Boxed w Bl tIs (.slice A l.length cap)) (row:∀i x,l[i]? =some x->∃b off,A=some ⟨b,off,none⟩∧w.cell? ⟨b,off+i,none⟩=some (.int .i64 x)∧b<ns∧b≠X)
 (nX:Bn≠X∧Bl≠X∧Bn<ns∧Bl<ns∧X<ns) (lc:l.length<=cap∧cap<=maxLen):
 be9 Fence.wide m Tryz.prog 199 #[.pointer (some ⟨Bn,0,none⟩),.pointer (some ⟨Bl,0,none⟩)] (fun x:XE=>#[x.2]) (GX ns) (KpX X ns) (fun xs=>xs.map Prod.fst=G0 l n) (G0 l n).length w:=by
 intro lp JJ W hW hJ hY h0
 obtain ⟨n1,n2,n3,n4,n5⟩:=nX
 refine b50 hCl JJ (fun pre A B h hg=>hJ pre A B none h hg (fun r e=>by cases e)) lp m _ (lbQ _) hl h1000 (fun m' pre x W1 h1 h2 h3=>YieldAt.anyDepth rfl m' (hY pre x W1 h1 h2 h3)) W (by have:=hW.size;omega)
  ((hW.block Bn (by omega)).trans hbn) ((hW.block Bl (by omega)).trans hbl) (fun i x hx=>?_) ⟨n1,n2,n4,n5⟩ lc h0
 obtain ⟨b,off,h1,h2,h3,h4⟩:=row i x hx
 exact ⟨b,off,h1,(hW.cell (p:=⟨b,off+i,none⟩) (by show b<_;omega)).trans h2,h3,h4⟩
theorem b3p (m:Nat) (A:Option Addr) (len cap:Nat) (n:Int) (w:World):
 CallsIn Fence.wide m Tryz.prog 128 #[.slice A len cap,.int .i64 n] w fun e w'=>e=.returned (.func (.func 199) #[] #[.pointer (some ⟨w.heap.size+1,0,none⟩),.pointer (some ⟨w.heap.size,0,none⟩)])∧
  w'=(w.alloc (.cells #[.slice A len cap] tIs)).alloc (.cells #[.int .i64 n] tI):=by
 refine callsIn_of_wp Tryz.func128 rfl trivial ?_ rfl
 simp only [Tryz.ntmps128,List.size_toArray,lbu,List.length_nil,Nat.reduceAdd,Nat.reduceSub,Array.replicate_succ,Array.replicate_zero,List.push_toArray,List.append_toArray,List.nil_append,List.cons_append]
 gi_wp2
 go_ret
 exact ⟨rfl,rfl⟩
end
end
def G8 (l:List Int):List H4:=l.map fun i=>⟨[(i,((1:Int):Rat))],2,((0:Int):Rat)⟩
def a2c (t:g7) (h:Int):List Int:=Q2 t.ev h (-1) 0 100000
def a07 (set:List Int) (h:Int):Bool:=set.any fun x=>decide (x=h)
theorem al8 {set:List Int} {h:Int}:a07 set h=true↔h ∈ set:=by
 unfold a07
 rw [lbw]
 constructor
 ·rintro ⟨x,hx,e⟩;rw [← lbL e];exact hx
 ·intro hx;exact ⟨h,hx,lbH rfl⟩
def D4 (t:g7) (set:List Int):Nat->List H4
 |0=>[]
 |h+1=>if a07 set (h:Int)=true then D4 t set h else D4 t set h++G8 (a2c t (h:Int))
theorem a14 {t:g7} {set:List Int} {w:H4}:∀{n:Nat},w ∈ D4 t set n↔∃h:Nat,h<n∧(h:Int) ∉ set∧∃i ∈ a2c t (h:Int),w=⟨[(i,((1:Int):Rat))],2,((0:Int):Rat)⟩
 |0=>by simp [D4]
 |n+1=>by
  have ih:=a14 (t:=t) (set:=set) (w:=w) (n:=n)
  unfold D4
  by_cases hs:a07 set (n:Int)=true
  ·rw [if_pos hs,ih]
   constructor
   ·rintro ⟨h,h1,h2⟩;exact ⟨h,by omega,h2⟩
   ·rintro ⟨h,h1,h2,h3⟩
    refine ⟨h,?_,h2,h3⟩
    by_cases e:h=n
    ·subst e;exact absurd (al8.1 hs) h2
    ·omega
  ·rw [if_neg hs,lbz,ih]
   have hns:(n:Int) ∉ set:=fun h=>hs (al8.2 h)
   constructor
   ·rintro (⟨h,h1,h2⟩|h)
    ·exact ⟨h,by omega,h2⟩
    ·obtain ⟨i,hi,rfl⟩:=lbx.1 h
     exact ⟨n,by omega,hns,i,hi,rfl⟩
   ·rintro ⟨h,h1,h2,i,hi,rfl⟩
    by_cases e:h=n
    ·subst e;exact .inr (lbx.2 ⟨i,hi,rfl⟩)
    ·exact .inl ⟨h,by omega,h2,i,hi,rfl⟩
theorem a4F {t:g7} {set:List Int}:∀n,(D4 t set n).length<=n*t.ev.moves.length
 |0=>by simp [D4]
 |n+1=>by
  have ih:=a4F (t:=t) (set:=set) n
  have hl:(a2c t (n:Int)).length<=t.ev.moves.length:=a6J
  unfold D4
  rw [lbU]
  split
  ·omega
  ·rw [lbq]
   have:(G8 (a2c t (n:Int))).length=(a2c t (n:Int)).length:=by simp [G8]
   omega
def a5X (t:g7) (kind:Int) (n:Nat) (set:List Int):List H4:=(n8 t kind).rows++D4 t set n
def a3c (t:g7) (kind:Int) (n:Nat) (set:List Int):l9:=⟨t.ev.moves.length,a5X t kind n set⟩
structure XT (t:g7) (kind:Int) (n:Nat):Prop where
 s:t.Sized
 e:n9 t=0
 k0:0<=kind
 k1:kind<8
 m:t.ev.moves.length<=8
 h:t.ev.hhs=(n:Nat)
 h4:n<=6
 f:t.finds.length<=20
theorem XT.c {t:g7} {kind:Int} {n:Nat} (h:XT t kind n):t.cleans.length<=50:=(z6 h.e).2.2.1
theorem XT.len {t:g7} {kind:Int} {n:Nat} (h:XT t kind n) (set:List Int):(a5X t kind n set).length<=700:=by
 have h1:=T2 (t:=t) (kind:=kind) t.ev.moves.length
 have h2:=a4F (t:=t) (set:=set) n
 have h3:t.ev.moves.length*(2+t.finds.length+t.cleans.length)<=8*72:=lbS h.m (by have:=h.f;have:=h.c;omega)
 have h4:n*t.ev.moves.length<=6*8:=lbS h.h4 h.m
 have h5:(n8 t kind).rows.length<=8*72:=lbR h1 h3
 show ((n8 t kind).rows++D4 t set n).length<=_
 rw [lbq]
 omega
theorem XT.right {t:g7} {kind:Int} {n:Nat} (h:XT t kind n) (set:List Int):p5 (a3c t kind n set)=true:=by
 have hs:=a0D (t:=t) (kind:=kind) (by have:=h.m;omega) h.f h.c
 have hl:=h.len set
 unfold p5 at hs ⊢
 simp only [lbM,lbI] at hs ⊢
 obtain ⟨⟨⟨h1,h2⟩,h3⟩,h4⟩:=hs
 refine ⟨⟨⟨h1,h2⟩,?_⟩,?_⟩
 ·show (a5X t kind n set).length<=6000
  omega
 ·show ((n8 t kind).rows++D4 t set n).all (B2 (t.ev.moves.length:Nat))=true
  rw [List.all_append]
  have h5:(n8 t kind).rows.all (B2 (t.ev.moves.length:Nat))=true:=h4
  rw [h5,Bool.true_and,lbv]
  intro w hw
  obtain ⟨hh,_,_,i,hi,rfl⟩:=a14.1 hw
  have hi:=ak1 hi
  unfold B2
  simp only [lbM,lbI]
  exact ⟨⟨a3P (by omega) (by omega) a46,by decide⟩,by decide⟩
theorem a99 {i:Int} (h:0<=i) {z:List Rat}:V4 ⟨[(i,((1:Int):Rat))],2,((0:Int):Rat)⟩ z=true↔z.getD i.toNat 0=0:=by
 have:=a2Z (i:=i.toNat) (v:=((0:Int):Rat)) (z:=z)
 unfold w7 at this
 rw [lbY h] at this
 exact this
theorem XT.holds {t:g7} {kind:Int} {n:Nat} (h:XT t kind n) (set:List Int) {z:List Rat}:i6 (a3c t kind n set) z=true↔i6 (n8 t kind) z=true∧∀i:Nat,i<n->(i:Int) ∉ set->n7 (F5 t i) z=0:=by
 have hr1:=h.right set
 have hr2:=a0D (t:=t) (kind:=kind) (by have:=h.m;omega) h.f h.c
 have e:i6 (a3c t kind n set) z=(i6 (n8 t kind) z && (D4 t set n).all fun w=>V4 w z):=by
  unfold i6
  rw [hr1,hr2]
  show (true && decide ((z.length:Int)=(t.ev.moves.length:Nat)) && _ && ((n8 t kind).rows++D4 t set n).all _)=_
  rw [List.all_append]
  simp only [Bool.true_and,Bool.and_assoc]
  rfl
 rw [e,lbM]
 refine and_congr_right fun hz=>?_
 have hp:=a8F hz
 rw [lbv]
 have key:∀i:Nat,n7 (F5 t (i:Int)) z=0↔∀j ∈ a2c t (i:Int),z.getD j.toNat 0=0:=fun i=>by
  have h0:∀j,0<=z.getD j 0:=fun j=>by
   by_cases hj:j<z.length
   ·exact hp _ (lbm (getD_some hj))
   ·rw [lbl,lbd (by omega)];exact lb1
  have h1:0<=n7 (F5 t (i:Int)) z:=a7b hp _ (a7X t _)
  have h2:=b6I hp (a2c t (i:Int))
  have h2:0<n7 (F5 t (i:Int)) z↔_:=h2
  constructor
  ·intro h3 j hj
   have h4:=h0 j.toNat
   apply a1f
   intro hne
   have:0<n7 (F5 t (i:Int)) z:=h2.2 ⟨j,hj,by grind⟩
   grind
  ·intro h3
   have:¬0<n7 (F5 t (i:Int)) z:=fun h4=>by
    obtain ⟨j,hj,h5⟩:=h2.1 h4
    rw [h3 j hj] at h5
    exact absurd h5 (by decide +kernel)
   grind
 constructor
 ·intro hw i hi hn
  refine (key i).2 fun j hj=>?_
  exact (a99 (ak1 hj).1).1 (hw _ (a14.2 ⟨i,hi,hn,j,hj,rfl⟩))
 ·intro hg w hw
  obtain ⟨i,hi,hn,j,hj,rfl⟩:=a14.1 hw
  exact (a99 (ak1 hj).1).2 ((key i).1 (hg i hi hn) j hj)
theorem XT.expl {t:g7} {kind:Int} {n:Nat} (h:XT t kind n) (set:List Int):pX t kind n set=true↔∃z,i6 (a3c t kind n set) z=true:=by
 rw [a7U]
 constructor
 ·rintro ⟨z,h1,h2⟩;exact ⟨z,(h.holds set).2 ⟨h1,h2⟩⟩
 ·rintro ⟨z,hz⟩;exact ⟨z,(h.holds set).1 hz⟩
theorem XT.small {t:g7} {kind:Int} {n:Nat} (h:XT t kind n) (set:List Int):a67 (a3c t kind n set):=by
 refine ⟨h.right set,fun w hw=>?_,by have:=h.m;show ((t.ev.moves.length:Nat):Int)<=9;omega,by have:=h.len set;show (a5X t kind n set).length<=999;omega⟩
 rcases lbz.1 hw with hw|hw
 ·exact bf8 h.e w hw
 ·obtain ⟨hh,_,_,i,hi,rfl⟩:=a14.1 hw
  exact ⟨N6 (by decide) (by decide),a6H⟩
theorem XT.best {t:g7} {kind:Int} {n:Nat} (h:XT t kind n) (set:List Int):(pX t kind n set=true∧J2 (a3c t kind n set) []=.best)∨(pX t kind n set=false∧∃r,J2 (a3c t kind n set) []=.row r):=by
 have hr:=h.right set
 rcases a9x hr with ho|⟨r,ho⟩
 ·exact .inl ⟨(h.expl set).2 ⟨_,(W6 hr rfl ho).1⟩,ho⟩
 ·refine .inr ⟨?_,r,ho⟩
  rw [← lbP]
  intro hp
  obtain ⟨z,hz⟩:=(h.expl set).1 hp
  rw [a5s ho z] at hz
  cases hz
theorem aX9 {t:g7} {set:List Int} {h:Nat} (hs:a07 set (h:Int)=true):D4 t set (h+1)=D4 t set h:=by rw [D4,if_pos hs]
theorem aN5 {t:g7} {set:List Int} {h:Nat} (hs:a07 set (h:Int)=false):D4 t set (h+1)=D4 t set h++G8 (a2c t (h:Int)):=by rw [D4,if_neg (by rw [hs];decide)]
theorem am1 {l:List Int} {k:Nat} {i:Int} (h:l[k]? =some i):G8 (l.take (k+1))=G8 (l.take k)++[⟨[(i,((1:Int):Rat))],2,((0:Int):Rat)⟩]:=by
 rw [a6h h];simp [G8]
theorem aZ8 (t:g7) (kind:Int) (n:Nat) (hx:XT t kind n) (set:List Int) (hl:set.length<=1000000):
 b9 Tryz.prog 66 [trS t,a1s (n8 t kind),i7 set] [] (j0 (pX t kind n set)) []:=by
 have hs:=hx.s
 have hh:=hx.h
 have hn4:=hx.h4
 have hm:=hx.m
 have hlen:=hx.len set
 have i0:=I3 0 (by decide) (by decide)
 have i1:=I3 1 (by decide) (by decide)
 have rl0:(n8 t kind).rows.length<=700:=by
  have:(n8 t kind).rows.length<=(a5X t kind n set).length:=by unfold a5X;rw [lbq];omega
  omega
 have cl:=fun H:Hp=>a0C (H:=H) (b6o (n8 t kind).rows (by omega)) rfl rfl (i8 _)
 have e9:(n8 t kind).rows++D4 t set n=a5X t kind n set:=rfl
 have e0:(n8 t kind).rows++D4 t set 0=(n8 t kind).rows:=by simp [D4]
 refine a1I g6 Tryz.func66 rfl (by decide) ?_
 refine C5 g6 ?_
 conv=>whnf
 refine b0x ?_
 conv=>whnf
 refine zy ?_
 conv=>whnf
 (refine C5 g6 ?_;conv=>whnf)
 repeat' (first|refine zx ?_|refine qp (0,1) ?_|refine .inl ⟨_,_,cl _,?_⟩|refine bl0 [0,1] ?_|refine zd ?_ ?_<;>intro h<;>try omega|fail)<;>conv=>whnf
 refine b4T g6 ([J,J,J,J,S.c (C.t (T.ptr [ti t.ev.moves.length,a0d (a5X t kind n set)]))]++Jn 55) ?_ ?_
 ·conv=>whnf
  repeat' (first|refine zx ?_|refine zd ?_ ?_<;>intro h<;>try omega|fail)<;>conv=>whnf
  refine j7 g6 (fun q=>([J,J,i7 set,S.c (C.t (T.ptr (trT t))),S.c (C.ptr 0 0 0)]++Jn 14++[b7 .i64 n,b7 .i64 q]++Jn 39,[a3V t.ev.moves.length 1 ((n8 t kind).rows++D4 t set q).length,V5 ((n8 t kind).rows++D4 t set q)])) n (fun _=>True) [some 0,some 1] trivial
   ⟨rfl,rfl,⟨⟨rfl,rfl,rfl,.inr ⟨⟨rfl,⟨rfl,rfl,by rw [e0],fun h=>h⟩,trivial⟩,trivial⟩⟩,b8 (rows:=((n8 t kind).rows++D4 t set 0).map D9) rfl rfl rfl (by rw [e0]) rfl,trivial⟩,⟨rfl,rfl,⟨rfl,rfl,rfl⟩,e8 hh,rfl,trivial⟩⟩ ?_
  intro q hk _
  by_cases hlt:q<n
  ·have sc:=a8Z set (q:Int) hl
   have li:=b0N t.ev hs.ev (q:Int) (-1) 0 100000
   cases hin:a07 set (q:Int) with
   |true=>
    have hin':=hin
    unfold a07 at hin'
    rw [hin'] at sc
    rw [aX9 hin]
    conv=>whnf
    repeat' (first|refine zx ?_|refine qp sc ?_|refine zd ?_ ?_<;>intro h<;>try omega|fail)<;>conv=>whnf
    all_goals first
     |omega
     |exact ⟨hlt,trivial,[some 0,some 1],rfl,rfl,⟨⟨rfl,rfl,rfl,.inr ⟨⟨rfl,⟨rfl,rfl,rfl,fun h=>h⟩,trivial⟩,trivial⟩⟩,m6 (i8 _),trivial⟩,⟨rfl,rfl,⟨rfl,rfl,rfl⟩,rfl,e8 (by omega),trivial⟩⟩
   |false=>
    have hin':=hin
    unfold a07 at hin'
    rw [hin'] at sc
    rw [aN5 hin,←lbD]
    have hll:(a2c t (q:Int)).length<=t.ev.moves.length:=a6J
    have hrl:((n8 t kind).rows++D4 t set q).length<=700:=by
     have h1:=a4F (t:=t) (set:=set) q
     have h2:=T2 (t:=t) (kind:=kind) t.ev.moves.length
     have h3:t.ev.moves.length*(2+t.finds.length+t.cleans.length)<=8*72:=lbS hx.m (by have:=hx.f;have:=hx.c;omega)
     have h4:q*t.ev.moves.length<=6*8:=lbS (by omega) hx.m
     have h5:(n8 t kind).rows.length<=8*72:=lbR h2 h3
     rw [lbq];omega
    have li:b9 Tryz.prog 78 [evS t.ev,b7 .i64 (q:Int),b7 .i64 (-1),b7 .i64 0,b7 .i64 100000] [] (i7 (a2c t (q:Int))) []:=li
    generalize a2c t (q:Int)=l at li hll
    have m2:(l.map g9).length=l.length:=by simp
    generalize hR:(n8 t kind).rows++D4 t set q=R at hrl
    conv=>whnf
    repeat' (first|refine zx ?_|refine qp sc ?_|refine qp li ?_|refine zd ?_ ?_<;>intro h<;>try omega|fail)<;>conv=>whnf
    all_goals try omega
    refine j7 g6 (fun i=>([J,J,i7 set,S.c (C.t (T.ptr (trT t))),S.c (C.ptr 0 0 0)]++Jn 14++[b7 .i64 n,b7 .i64 q,J,J,J,J,J,J,J,J,i7 l,b7 .i64 l.length,b7 .i64 i]++Jn 28,[a3V t.ev.moves.length 1 (R++G8 (l.take i)).length,V5 (R++G8 (l.take i))])) l.length (fun _=>True) [some 0,some 1] trivial
     ⟨rfl,rfl,⟨⟨rfl,rfl,rfl,.inr ⟨⟨rfl,⟨rfl,rfl,by simp [G8],fun h=>h⟩,trivial⟩,trivial⟩⟩,b8 (rows:=(R++G8 (l.take 0)).map D9) rfl rfl rfl (by simp [G8]) rfl,trivial⟩,⟨rfl,rfl,⟨rfl,rfl,rfl⟩,rfl,rfl,rfl,e8 (by rw [m2]),rfl,trivial⟩⟩ ?_
    intro i hik _
    have hzl:(G8 (l.take i)).length<=l.length:=by simp [G8];omega
    by_cases hil:i<l.length
    ·obtain ⟨x,hxi⟩:∃x,l[i]? =some x:=⟨_,lbf hil⟩
     rw [am1 hxi,←lbD]
     have lA:(R++G8 (l.take i)).length<=(V5 (R++G8 (l.take i))).rows.length:=by show _<=(toC _).length;simp [toC]
     have lB:(R++G8 (l.take i)).length<=800:=by rw [lbq];omega
     generalize R++G8 (l.take i)=R2 at lA lB
     conv=>whnf
     repeat' (first|refine zz ?_|refine qp i0 ?_|refine qp i1 ?_|refine qp toC ?_|refine qp (0,1) ?_|refine a4m.weak ?_|refine i3 hxi ?_|refine D5 lA (by simp [toC];omega) ?_|refine bl0 [0,1] ?_|refine zd ?_ ?_<;>intro h<;>try omega|refine zy ?_|fail)<;>conv=>whnf
     all_goals first
      |omega
      |skip
     all_goals
      (refine ⟨hil,trivial,[some 0,some 2],rfl,rfl,⟨⟨rfl,rfl,rfl,.inr ⟨⟨rfl,⟨rfl,rfl,?_,fun h=>h⟩,trivial⟩,trivial⟩⟩,b8 (rows:=(R2++[(⟨[(x,((1:Int):Rat))],2,((0:Int):Rat)⟩:H4)]).map D9) rfl rfl rfl ?_ rfl,trivial⟩,⟨rfl,rfl,⟨rfl,rfl,rfl⟩,rfl,rfl,rfl,rfl,e8 (by omega),trivial⟩⟩
       ·simp [toC]
       ·exact a0W (f:=D9) (x:=(⟨[(x,((1:Int):Rat))],2,((0:Int):Rat)⟩:H4)) rfl)
    ·have hie:i=l.length:=by omega
     subst hie
     rw [lbn (lbQ _)]
     conv=>whnf
     repeat' (first|refine zx ?_|refine zd ?_ ?_<;>intro h<;>try omega|fail)<;>conv=>whnf
     all_goals first
      |omega
      |exact ⟨hlt,trivial,[some 0,some 1],rfl,rfl,⟨⟨rfl,rfl,rfl,.inr ⟨⟨rfl,⟨rfl,rfl,rfl,fun h=>h⟩,trivial⟩,trivial⟩⟩,m6 (i8 _),trivial⟩,⟨rfl,rfl,⟨rfl,rfl,rfl⟩,rfl,e8 (by omega),trivial⟩⟩
  ·have hqe:q=n:=by omega
   subst hqe
   rw [e9]
   generalize a5X t kind q set=R
   conv=>whnf
   repeat' (first|refine zx ?_|refine zd ?_ ?_<;>intro h<;>try omega|fail)<;>conv=>whnf
   all_goals first
    |omega
    |(refine ⟨trivial,trivial,trivial,trivial,?_,?_⟩
      ·exact a6F (k:=a3V t.ev.moves.length 1 R.length) trivial rfl (fun h=>h) rfl ⟨a2h,.vc (B7 (k:=V5 R) trivial rfl (fun h=>h) rfl rfl (by simp)),trivial⟩
      ·simp only [a0O,VYS];repeat (first|exact trivial|refine ⟨trivial,?_⟩))
 ·have ss:=hx.small set
  have lz:=aH0 ss (g:=[]) rfl (fun t ht=>by cases ht)
  have nT:(a3c t kind n set).n=t.ev.moves.length:=rfl
  have rT:(a3c t kind n set).rows=a5X t kind n set:=rfl
  rcases hx.best set with ⟨hp,ho⟩|⟨hp,r,ho⟩
  ·rw [hp]
   have hb15:=bm4 ss (g:=[]) rfl (fun t ht=>by cases ht)
   have so:=a4o _ _ _ lz ho (fun v hv=>by have:=hb15 v hv;omega)
   have sl:=(W6 (hx.right set) rfl ho).1
   have hd:=b4A _ (b01 ss) (hx.right set) (p7 (a3c t kind n set) []) (b3C (B:=15) ss (by decide) (by rw [a6x lz];have:(a3c t kind n set).n.toNat=t.ev.moves.length:=rfl;omega) hb15)
   rw [sl] at hd
   refine y3 g6 _ ?_
   conv=>whnf
   repeat' (first|refine zx ?_|refine qp so ?_|refine qp hd ?_|refine qp (4,6) ?_|refine qp 4 ?_|refine bl0 [4,6] ?_|refine bl0 [4] ?_|refine zd ?_ ?_<;>intro h<;>try omega|fail)<;>conv=>whnf
   all_goals first
    |exact i4 rfl
  ·rw [hp]
   have so:=a65 _ _ _ r lz ho
   refine y3 g6 _ ?_
   conv=>whnf
   repeat' (first|refine zx ?_|refine qp so ?_|refine zd ?_ ?_<;>intro h<;>try omega|fail)<;>conv=>whnf
   all_goals first
    |exact i4 rfl
theorem N8 {t:g7} {kind:Int}:a1k t kind=0↔n9 t=0∧0<=kind∧kind<8:=by
 unfold a1k
 split<;>omega
def Y5 (s:List Int):List T:=[E1 s]
abbrev aT9 (l:List (List Int)):T:=.sl 1 .any (l.map Y5)
abbrev a4i (l:List (List Int)):S:=.c (.t (aT9 l))
theorem ao3 (xs:List Int) (hl:xs.length<=1000000) (fg:FuncId) (caps:List T) (q:Int->Bool) (hg:∀x ∈ xs,b9 Tryz.prog fg (b7 .i64 x::caps.map fun x=>.c (.t x)) [] (j0 (q x)) []):
 b9 Tryz.prog 204 [i7 xs,.c (.t (.fn (.func fg) caps))] [] (j0 (xs.any q)) []:=by
 have ix:=aW4 xs hl fg caps q hg
 (refine ac Tryz.func204 ?_;(conv=>whnf);repeat (refine zy ?_;conv=>whnf))
 repeat' (first|refine zx ?_|refine qp ix ?_|refine zd ?_ ?_<;>intro h<;>try omega|fail)<;>conv=>whnf
 all_goals (refine i4 ?_;rw [← a28 q xs 0];simp;omega)
theorem b7j (b:List Int) (hl:b.length<=1000000) (x:Int):b9 Tryz.prog 205 (b7 .i64 x::[T.ptr [E1 b]].map fun x=>.c (.t x)) [] (j0 (!(a07 b x))) []:=by
 have sc:=a8Z b x hl
 unfold a07
 cases hq:b.any fun y=>decide (y=x)<;>rw [hq] at sc<;>
 ·(refine ac Tryz.func205 ?_;(conv=>whnf);repeat (refine zy ?_;conv=>whnf))
  repeat' (first|refine zx ?_|refine qp sc ?_|refine zd ?_ ?_<;>intro h<;>try omega|fail)<;>conv=>whnf
  all_goals first
   |exact i4 rfl
theorem b2N (a b:List Int):H6 a b=!(a.any fun x=>!(a07 b x)):=by
 unfold H6 a07
 rw [List.not_any_eq_all_not]
 simp
theorem bd2 (a b:List Int) (ha:a.length<=1000000) (hb:b.length<=1000000):b9 Tryz.prog 131 [i7 a,i7 b] [] (j0 (H6 a b)) []:=by
 have ct:=ao3 a ha 205 [T.ptr [E1 b]] _ (fun x _=>b7j b hb x)
 rw [b2N]
 cases hq:a.any fun x=>!(a07 b x)<;>rw [hq] at ct<;>
 ·(refine ac Tryz.func131 ?_;(conv=>whnf);repeat ((first|refine b0x ?_|refine zy ?_);conv=>whnf))
  repeat' (first|refine zx ?_|refine qp ct ?_|refine zd ?_ ?_<;>intro h<;>try omega|fail)<;>conv=>whnf
  all_goals first
   |exact i4 rfl
theorem aT4 (rs:List (List Int)) (hl:rs.length<=1000000) (g:FuncId) (caps:List T) (q:List Int->Bool) (hg:∀r ∈ rs,b9 Tryz.prog g (i7 r::caps.map fun x=>.c (.t x)) [] (j0 (q r)) []):
 b9 Tryz.prog 203 [a4i rs,.c (.t (.fn (.func g) caps))] [] (b7 .i64 (J8 q rs 0)) []:=by
 have l1:(rs.map Y5).length=rs.length:=by simp
 (refine ac Tryz.func203 ?_;(conv=>whnf);repeat (refine zy ?_;conv=>whnf))
 repeat' (first|refine zx ?_|refine zd ?_ ?_<;>intro h<;>try omega|fail)<;>conv=>whnf
 refine j7 g6 (fun k=>([a4i rs,S.c (C.t (T.fn (.func g) caps)),J,J,J,J,J,b7 .i64 rs.length,b7 .i64 k]++Jn 10,[])) rs.length (fun k=>J8 q (rs.drop k) k=J8 q rs 0) [] rfl
  ⟨rfl,rfl,trivial,⟨k9 rfl,k9 rfl,e8 (by simp),rfl,trivial⟩⟩ ?_
 intro k hk hI
 by_cases hlt:k<rs.length
 ·obtain ⟨r,hr⟩:∃r,rs[k]? =some r:=⟨_,lbf hlt⟩
  have hd:rs.drop k=r::rs.drop (k+1):=by
   rw [List.drop_eq_getElem_cons hlt]
   rw [lbf hlt] at hr
   injection hr with hr
   rw [hr]
  have hgr:=hg r (lbm hr)
  have ha:(i7 r::caps.map fun x=>S.c (C.t x)).all S.isT=true:=by simp [S.isT,C.isT]
  rw [hd] at hI
  have hI:(if q r then (k:Int) else J8 q (rs.drop (k+1)) (k+1))=J8 q rs 0:=hI
  cases hq:q r with
  |true=>
   rw [hq] at hgr hI
   conv=>whnf
   repeat' (first|refine zx ?_|refine .inl ⟨_,_,E9 hgr ha rfl,?_⟩|refine i3 hr ?_|refine zd ?_ ?_<;>intro h<;>try omega|fail)<;>conv=>whnf
   all_goals first
    |omega
    |exact t6 hI
  |false=>
   rw [hq] at hgr hI
   conv=>whnf
   repeat' (first|refine zx ?_|refine .inl ⟨_,_,E9 hgr ha rfl,?_⟩|refine i3 hr ?_|refine zd ?_ ?_<;>intro h<;>try omega|fail)<;>conv=>whnf
   all_goals first
    |omega
    |exact ⟨hlt,by simpa using hI,[],rfl,rfl,trivial,⟨rfl,rfl,rfl,rfl,trivial⟩⟩
 ·have hke:k=rs.length:=by omega
  subst hke
  rw [lbo (lbQ _)] at hI
  conv=>whnf
  repeat' (first|refine zx ?_|refine zd ?_ ?_<;>intro h<;>try omega|fail)<;>conv=>whnf
  all_goals first
   |omega
   |exact t6 hI
theorem am8 (rs:List (List Int)) (hl:rs.length<=1000000) (g:FuncId) (caps:List T) (q:List Int->Bool) (hg:∀r ∈ rs,b9 Tryz.prog g (i7 r::caps.map fun x=>.c (.t x)) [] (j0 (q r)) []):
 b9 Tryz.prog 129 [a4i rs,.c (.t (.fn (.func g) caps))] [] (j0 (rs.any q)) []:=by
 have ix:=aT4 rs hl g caps q hg
 (refine ac Tryz.func129 ?_;(conv=>whnf);repeat (refine zy ?_;conv=>whnf))
 repeat' (first|refine zx ?_|refine qp ix ?_|refine zd ?_ ?_<;>intro h<;>try omega|fail)<;>conv=>whnf
 all_goals (refine i4 ?_;rw [← a28 q rs 0];simp;omega)
theorem b7o (set a:List Int) (hs:set.length<=1000000) (ha:a.length<=1000000):b9 Tryz.prog 130 (i7 a::[T.ptr [E1 set]].map fun x=>.c (.t x)) [] (j0 (H6 a set)) []:=by
 have p:=bd2 a set ha hs
 (refine ac Tryz.func130 ?_;(conv=>whnf);repeat (refine zy ?_;conv=>whnf))
 repeat' (first|refine zx ?_|refine qp p ?_|refine zd ?_ ?_<;>intro h<;>try omega|fail)<;>conv=>whnf
 all_goals first
  |exact i4 (Eq.symm (by assumption))
theorem b35 (out:List (List Int)) (hl:out.length<=1000000) (h2:∀a ∈ out,a.length<=1000000) (set:List Int) (hs:set.length<=1000000):
 b9 Tryz.prog 129 [a4i out,.c (.t (.fn (.func 130) [T.ptr [E1 set]]))] [] (j0 (out.any fun a=>H6 a set)) []:=
 am8 out hl _ _ _ fun a ha=>b7o set a hs (h2 a ha)
theorem b2Z:b9 Tryz.prog 201 [.c (.t (.sl 1 .any []))] [] (.c (.own 0 0 0 true)) [t8 []]:=by
 refine a2k ?_ ?_
 ·(refine ac Tryz.func201 ?_;(conv=>whnf);repeat (refine zy ?_;conv=>whnf))
  repeat' (first|refine zx ?_|refine zd ?_ ?_<;>intro h<;>try omega|fail)<;>conv=>whnf
  all_goals first
   |exact ⟨[none],rfl,rfl,⟨⟨rfl,rfl⟩,trivial⟩,⟨rfl,rfl,rfl⟩⟩
 ·(refine ac Tryz.func201 ?_;(conv=>whnf);repeat (refine zy ?_;conv=>whnf))
  repeat' (first|refine zx ?_|refine P6 rfl (by decide) ?_|refine zd ?_ ?_<;>intro h<;>try omega|fail)<;>conv=>whnf
  all_goals first
   |exact ⟨[some 0],rfl,rfl,⟨b8 (rows:=([]:List Int).map g9) rfl rfl rfl rfl rfl,trivial⟩,⟨rfl,rfl,rfl,fun h=>h⟩⟩
theorem b2O (l:List Int) (h1:l.length<=100000):b9 Tryz.prog 201 [i7 l] [] (.c (.own 0 0 l.length true)) [t8 l]:=by
 have m1:(l.map g9).length=l.length:=by simp
 by_cases h0:l.length=0
 ·have:l=[]:=List.length_eq_zero_iff.1 h0
  subst this
  exact b2Z
 have hl:0<(l.map g9).length:=by omega
 (refine ac Tryz.func201 ?_;(conv=>whnf);repeat (refine zy ?_;conv=>whnf))
 repeat' (first|refine zx ?_|refine qp (toC,lbr,List.length_nil) ?_|refine qp (toC,lbr) ?_|refine ⟨hl,?_⟩|refine zz ?_|refine P6 rfl (by simp only [toC,lbr,List.length_nil];omega) ?_|refine D5 (Nat.zero_le _) (by simp only [toC,lbr];omega) ?_|refine zd ?_ ?_<;>intro h<;>try omega|fail)<;>conv=>whnf
 all_goals first
  |omega
  |exact ⟨[some 0],rfl,rfl,⟨b8 (rows:=l.map g9) rfl rfl rfl rfl rfl,trivial⟩,⟨rfl,rfl,by simp [toC],fun h=>h⟩⟩
theorem b2Q (t:g7) (kind:Int) (k:Nat):C4 t kind (k+1)=if U6 t kind k≠0 then C4 t kind k++[(k:Int)] else C4 t kind k:=by
 unfold C4
 rw [List.range_succ,lb8,lbC]
 by_cases h:U6 t kind k≠0
 ·rw [if_pos h];simp [h]
 ·rw [if_neg h]
  have:U6 t kind k=0:=Classical.not_not.1 h
  simp [this]
theorem am7 (t:g7) (kind:Int) (n:Nat) (h:ExP t kind n) (hn:n<=8):b9 Tryz.prog 127 [trS t,b7 .i64 kind] [] (.tup [i7 (C4 t kind n),b7 .i64 0]) []:=by
 have ve:=an0 t kind h.s h.e h.k0 h.k1 h.m n h.h (by omega) h.z
 have vl:=a3R t kind n
 have m1:((a06 t kind n).map a4l.row).length=n:=by simp [vl]
 have sl:=a57 t kind n
 have m2:((C4 t kind n).map g9).length=(C4 t kind n).length:=by simp
 (refine ac Tryz.func127 ?_;conv=>whnf)
 refine b0x ?_
 conv=>whnf
 repeat' (first|refine zx ?_|refine qp ve ?_|refine zd ?_ ?_<;>intro h<;>try omega|fail)<;>conv=>whnf
 all_goals try omega
 refine j7 g6 (fun k=>(Jn 8++[S.c (C.own 0 0 (C4 t kind k).length true)]++Jn 11++[b1q (a06 t kind n),b7 .i64 n,b7 .i64 k]++Jn 16,[t8 (C4 t kind k)])) n (fun _=>True) [none] trivial
  ⟨rfl,rfl,⟨⟨rfl,rfl⟩,trivial⟩,⟨⟨rfl,rfl,rfl⟩,rfl,e8 (by omega),rfl,trivial⟩⟩ ?_
 intro k hk _
 have slk:=a57 t kind k
 have lA:(C4 t kind k).length<=(t8 (C4 t kind k)).rows.length:=by show _<=(toC _).length;simp [toC]
 by_cases hlt:k<n
 ·have hv:(a06 t kind n)[k]? =some (a0s (n8 t kind) (F5 t (k:Int)) (k:Int)):=by unfold a06;simp [hlt]
  have kh:(a0s (n8 t kind) (F5 t (k:Int)) (k:Int)).hh=k:=b8i _
  have e1:=b2Q t kind k
  unfold U6 at e1
  rw [e1]
  generalize a0s (n8 t kind) (F5 t (k:Int)) (k:Int)=v at hv kh e1
  by_cases hst:v.state≠0
  ·rw [if_pos hst]
   conv=>whnf
   repeat' (first|refine zz ?_|refine qp toC ?_|refine i3 hv ?_|refine b0x ?_|refine D5 lA (by simp [toC];omega) ?_|refine zd ?_ ?_<;>intro h<;>try omega|refine zy ?_|fail)<;>conv=>whnf
   all_goals first
    |omega
    |(refine ⟨hlt,trivial,[some 2],rfl,rfl,⟨b8 (rows:=(C4 t kind k++[(k:Int)]).map g9) rfl rfl rfl ?_ rfl,trivial⟩,⟨⟨rfl,rfl,?_,fun h=>h⟩,rfl,rfl,e8 (by omega),trivial⟩⟩
      ·rw [kh];exact a0W (f:=g9) (x:=(k:Int)) rfl
      ·simp [toC])
  ·rw [if_neg hst]
   conv=>whnf
   repeat' (first|refine zz ?_|refine i3 hv ?_|refine b0x ?_|refine zd ?_ ?_<;>intro h<;>try omega|refine zy ?_|fail)<;>conv=>whnf
   all_goals first
    |omega
    |exact ⟨hlt,trivial,[some 0],rfl,rfl,⟨b8 (rows:=(C4 t kind k).map g9) rfl rfl rfl rfl rfl,trivial⟩,⟨⟨rfl,rfl,rfl,fun h=>h⟩,rfl,rfl,e8 (by omega),trivial⟩⟩
 ·have hke:k=n:=by omega
  subst hke
  conv=>whnf
  repeat' (first|refine zx ?_|refine zd ?_ ?_<;>intro h<;>try omega|fail)<;>conv=>whnf
  all_goals first
   |omega
   |exact s7 ⟨show VC _ (fun id=>O3 [] id=true) (C.own 0 0 _ true) _ from B7 (k:=t8 (C4 t kind k)) rfl rfl (fun h=>h) rfl rfl (by simp),rfl,trivial⟩
theorem aM6 {F:Fence} {n:Nat} {P:Program} {α:Type} {g:Operand} {ps:Array Tmp} {assign body:Code} {Q:Exit->Act->World->Prop} {a:Act} {w:World}
 (hro:F.round=none) (h1:1<=n) {gf:Nat} {lb:Array Value} (hg:a.eval g=.func (.func gf) #[] lb) (hFg:F.fn gf) (eg:∀args w,(callFunc gf args).run P w=.ok (.enter gf args) w)
 {encs:α->Array Value} {G:α->World->Prop} {Kp:World->World->Prop} {S:List α->Prop} {N:Nat} {w0:World} (hseq:be9 F (n - 1) P gf lb encs G Kp S N w0)
 (hKt:∀{A B C:World},Kp A B->Kp B C->Kp A C) (hKb:∀(W:World) (l:Nat) (o o':Obj),w.heap.size<=l->W.heap[l]? =some o->o.isCells=false->o.isWalk=false->Kp W (W.putObj l o'))
 (hb0:Below w0.heap.size w0 w) (hps:∀x,(encs x).size=ps.size)
 (I:List α->World->Prop) (hI:OwnFrom w.heap.size I) (h0:I [] w) (A:List α->α->Act->World->Prop)
 (hAb:∀(pre:List α) (x:α) (a1:Act) (W:World) (l:Nat) (o o':Obj),w.heap.size<=l->W.heap[l]? =some o->o.isCells=false->A pre x a1 W->A pre x a1 (W.putObj l o'))
 (hassign:∀(l:Nat) (pre:List α) (x:α) (W:World) (K:Act->World->Prop),I pre W->G x W->pre.length<N->(∀ a1 W1,A pre x a1 W1->KeepsFrom w.heap.size W W1->Kp W W1->K a1 W1)->
   assign.wpIn (F.inRound l) (n - 1 - 1) P (Exit.then K (fun _ _ _=>False)) { tmps:=(ps.zip (encs x)).foldl (fun t (p,v)=>t.setIfInBounds p v) a.tmps,defers:=[] } W)
 (hbody:∀(l:Nat) (pre:List α) (x:α) (a1:Act) (W:World),A pre x a1 W->body.wpIn (F.inRound l) (n - 1 - 1) P (Exit.then (fun _ W'=>KeepsFrom w.heap.size W W'∧Kp W W'∧I (pre++[x]) W') (fun _ _ _=>False)) a1 W)
 (hdone:∀(D:Nat) (xs:List α) (W:World),w.heap.size<=D->S xs->I xs W->W.heap[D]? =some (.deferred (some []))->Q .normal { a with defers:={ target:=.collected D,args:=#[] }::a.defers } W):
 (Code.rangeFunc g ps assign body).wpIn F n P Q a w:=by
 refine wpIn_rangeFunc fun fn hfn=>?_
 rw [hro]
 let rec0:LoopState->Loop:=fun st=>{ state:=st,pending:=none,fn,tmps:=a.tmps,params:=ps,assign,body,defers:=w.heap.size }
 let W1:=(w.alloc (.deferred (some []))).alloc (.loop (rec0 .ready))
 have s1:W1.heap.size=w.heap.size+1+1:=by simp [W1]
 have hL:W1.heap[w.heap.size+1]? =some (.loop (rec0 .ready)):=by
  have:=World.alloc_heap_new (w.alloc (.deferred (some []))) (.loop (rec0 .ready))
  rwa [World.size_alloc] at this
 have hD:W1.heap[w.heap.size]? =some (.deferred (some [])):=(Below.heap_alloc _ _ _ (by simp)).trans (World.alloc_heap_new w _)
 have hI1:I [] W1:=hI.alloc _ (hI.alloc _ h0)
 have hb1:Below w0.heap.size w0 W1:=hb0.trans ((((Below.refl _ w).alloc (lbQ _) _).alloc (by simp) _).mono hb0.size)
 refine ⟨w.heap.size+1,[{ target:=.collected w.heap.size,args:=#[] }],W1,{ target:=.fn (.func gf) lb,args:=#[.func (.yield (w.heap.size+1)) #[] #[]] },W1,gf,
  #[.func (.yield (w.heap.size+1)) #[] #[]]++lb,W1,run_enterLoop_outer _ _ _ _ _,?_,?_,?_,fun _=>h1,?_⟩
 ·simp only [resolve,hg]
  simp [go_sem]
 ·intro f' hf'
  simp [Target.leads] at hf'
  subst hf';exact hFg
 ·simp [invoke,go_sem,eg]
 ·have walk:∀{A:World} {row:Option Nat},(∀ r,row=some r->W1.heap.size<=r∧∃o:Obj,A.heap[r]? =some o∧o.isWalk=true)->∀r,row=some r->w.heap.size<=r∧∃o:Obj,A.heap[r]? =some o∧o.isCells=false:=by
   intro A row hr r e
   obtain ⟨hB,o,ho,hw⟩:=hr r e
   exact ⟨by omega,o,ho,Obj.not_cells_of_walk hw⟩
  refine (hseq (w.heap.size+1) (fun pre W=>I pre W∧W.heap[w.heap.size+1]? =some (.loop (rec0 .ready))∧W.heap[w.heap.size]? =some (.deferred (some []))) W1 hb1
   (fun s A B row hs hgr hr=>⟨hI s A B row hs.1 hgr (walk hr),(grownBy_keeps hgr (fun r e=>(hr r e).2) hs.2.1 rfl).trans hs.2.1,(grownBy_keeps hgr (fun r e=>(hr r e).2) hs.2.2 rfl).trans hs.2.2⟩)
   ?_ ⟨hI1,hL,hD⟩).mono ?_
  ·rintro pre x W ⟨hi,hl,hk⟩ hx hN
   have hy:=run_yield (P:=P) (args:=encs x) hl (hps x)
   refine ⟨fn,_,assign,body,hy,roundIn_of_wpIn hfn (hassign _ pre x W _ hi hx hN fun a1 W2 hA hk1 hkp1=>?_)⟩
   have hl1:=hk1.same _ _ (by omega) hl rfl
   have hD1:=hk1.same _ _ (lbQ _) hk rfl
   have hlt:w.heap.size+1<W2.heap.size:=(lb4.1 hl1).1
   refine ⟨_,run_beginRound hl1 rfl,?_⟩
   have hl2:(W2.putObj (w.heap.size+1) (.loop { rec0 .ready with state:=.busy })).heap[w.heap.size+1]? =some (.loop { rec0 .ready with state:=.busy }):=World.putObj_heap_same hlt
   have hk2:(W2.putObj (w.heap.size+1) (.loop { rec0 .ready with state:=.busy })).heap[w.heap.size]? =some (.deferred (some [])):=(World.putObj_heap_other (by omega)).trans hD1
   refine wpIn_mono (hbody _ pre x a1 _ (hAb pre x a1 W2 _ _ _ (by omega) hl1 rfl hA)) ?_
   rintro e a3 W3 hp
   cases e with
   |normal=>
    obtain ⟨hk3,hkp3,hi3⟩:=hp
    have hl3:=hk3.same _ _ (by omega) hl2 rfl
    have hk4:=hk3.same _ _ (lbQ _) hk2 rfl
    refine ⟨_,_,run_endRound (P:=P) none hl3,rfl,⟨hI.putObj _ hi3 (by omega) hl3 rfl,World.putObj_heap_same (lb4.1 hl3).1,(World.putObj_heap_other (by omega)).trans hk4⟩,?_⟩
    exact hKt hkp1 (hKt (hKt (hKb _ _ _ _ (by omega) hl1 rfl rfl) hkp3) (hKb _ _ _ _ (by omega) hl3 rfl rfl))
   |ret=>exact hp.elim
   |exit id=>exact hp.elim
   |goto t=>exact hp.elim
   |panic ch=>exact hp.elim
   |outgrown=>exact hp.elim
  ·rintro e W2 ⟨⟨v,rfl⟩,xs,hS,hi,hl,hk⟩
   exact ⟨none,_,run_endLoop (P:=P) hl (by simp [rec0]),hdone _ xs _ (lbQ _) hS (hI.putObj _ hi (by omega) hl rfl) ((World.putObj_heap_other (by omega)).trans hk)⟩
open Go.RowKit Go.Shelf
structure a1O (B n:Nat) (w w':World):Prop where
 os:w'.os=w.os
 tape:w'.tape=w.tape
 output:w'.output=w.output
 size:w.heap.size<=w'.heap.size
 block:∀k,k<n->k≠B->w'.heap[k]? =w.heap[k]?
theorem a1O.trans {B n:Nat} {a b c:World} (h:a1O B n a b) (k:a1O B n b c):a1O B n a c:=
 ⟨k.os.trans h.os,k.tape.trans h.tape,k.output.trans h.output,lbR h.size k.size,fun i hi hB=>(k.block i hi hB).trans (h.block i hi hB)⟩
theorem a1O.of {B n:Nat} {a b:World} (h:Below n a b):a1O B n a b:=⟨h.os,h.tape,h.output,h.size,fun k hk _=>h.block k hk⟩
theorem a1O.low {B n:Nat} {w w':World} (h:a1O B n w w') {m:Nat} (hm:m<=n) (hB:m<=B):Below m w w':=⟨h.os,h.tape,h.output,h.size,fun k hk=>h.block k (by omega) (by omega)⟩
theorem b2e {W:World} {base:Nat} {e:TypeId} {size:Nat} {v:Value} {k:Nat} {xs:List Value} (h:W.ownsRow base e size v k xs):W.ownsRow 0 e size v k xs:=
 ⟨h.1,h.2.imp id fun ⟨g,cap,cur,h1,_,h2⟩=>⟨g,cap,cur,h1,Nat.zero_le _,h2⟩⟩
theorem b4l {A B:World} (hb:Below A.heap.size A B) {base:Nat} {e:TypeId} {size:Nat} {v:Value} {k:Nat} {xs:List Value} (h:A.ownsRow base e size v k xs):B.ownsRow base e size v k xs:=
 ⟨h.1,h.2.imp id fun ⟨g,cap,cur,h1,h3,h4,h2⟩=>⟨g,cap,cur,h1,h3,(hb.block g (v6 h4)).trans h4,h2⟩⟩
theorem ab6 {A B:World} (hb:Below A.heap.size A B) {b:Nat} {t:TypeId} {v:Value} (h:Boxed A b t v):Boxed B b t v:=(hb.block b h.lt).trans h
theorem b2E {W w1:World} {n₀ B:Nat} {v v':Value} {k m:Nat} {xs ys:List Value} {tmp:Obj}
 (hv:Boxed W B a2J v) (hrow:W.ownsRow n₀ tIs 1 v k xs) (hn₀:n₀<=W.heap.size)
 (hown':w1.ownsRow n₀ tIs 1 v' m ys) (hgrow:(W.alloc tmp).grownBy w1 v.ownBlock):
 Boxed w1 B a2J v∧Boxed (w1.setCell ⟨B,0,none⟩ v') B a2J v'∧(w1.setCell ⟨B,0,none⟩ v').ownsRow n₀ tIs 1 v' m ys∧KeepsOthers W (w1.setCell ⟨B,0,none⟩ v')∧a1O B n₀ W (w1.setCell ⟨B,0,none⟩ v')∧KpX B n₀ W (w1.setCell ⟨B,0,none⟩ v'):=by
 obtain ⟨h1,h2,_,h4,_⟩:=hv.appended (n₀:=0) (by decide) (b2e hrow) (Nat.zero_le _) (Nat.zero_le _) (b2e hown') hgrow
 have hrb:∀j,v.ownBlock=some j->n₀<=j∧∃cur,W.heap[j]? =some (.cells cur tIs (0,0)):=by
  intro j ej
  rcases hrow.2 with ⟨rfl,_⟩|⟨g,cap,cur,rfl,hb,hc,_⟩
  ·simp [Value.ownBlock] at ej
  ·obtain rfl:g=j:=by simpa [Value.ownBlock] using ej
   exact ⟨hb,cur,hc⟩
 have hsz:W.heap.size<=(w1.setCell ⟨B,0,none⟩ v').heap.size:=h4.size
 refine ⟨h1,h2,hown'.kept (grownBy_setCell' w1 B v') (.inr (h1.not_row (by decide) hown').symm),h4,?_,hsz,?_⟩
 ·exact (a1O.of (((Below.refl n₀ W).alloc hn₀ tmp).grown hgrow (by simp;omega) fun j ej=>(hrb j ej).1)).trans ⟨rfl,rfl,rfl,by simp [World.setCell],fun k _ hk=>Below.heap_setCell _ _ _ _ hk⟩
 ·intro b vs t fl hb hX ht
  have hlt:=v6 hb
  have e1:(W.alloc tmp).heap[b]? =W.heap[b]?:=Below.heap_alloc _ _ _ hlt
  have hne:some b≠v.ownBlock:=fun e=>by
   obtain ⟨q1,cur,q2⟩:=hrb b e.symm
   rw [hb] at q2
   injection q2 with q2
   injection q2 with _ q2 _
   rcases ht with ht|ht
   ·omega
   ·exact ht q2
  have e2:=hgrow.block b (by simp;omega) hne
  exact (Below.heap_setCell _ _ _ _ hX).trans (e2.trans (e1.trans hb))
theorem b6j {W:World} {base:Nat} {e:TypeId} {size:Nat} {v:Value} {k:Nat} {xs:List Value} (h:W.ownsRow base e size v k xs):∃A c,v=.slice A k c:=by
 rcases h.2 with ⟨rfl,rfl⟩|⟨g,cap,cur,rfl,_⟩
 ·exact ⟨none,0,rfl⟩
 ·exact ⟨_,cap,rfl⟩
theorem b2R {W w1:World} {n₀ B:Nat} {v v':Value} {k m:Nat} {xs ys:List Value}
 (hv:Boxed W B a2J v) (hrow:W.ownsRow n₀ tIs 1 v k xs)
 (hn₀:n₀<=W.heap.size) (hown':w1.ownsRow n₀ tIs 1 v' m ys) (hgrow:W.grownBy w1 v.ownBlock):
 Boxed w1 B a2J v∧Boxed (w1.setCell ⟨B,0,none⟩ v') B a2J v'∧(w1.setCell ⟨B,0,none⟩ v').ownsRow n₀ tIs 1 v' m ys∧KeepsOthers W (w1.setCell ⟨B,0,none⟩ v')∧a1O B n₀ W (w1.setCell ⟨B,0,none⟩ v')∧KpX B n₀ W (w1.setCell ⟨B,0,none⟩ v'):=by
 have hrb:∀j,v.ownBlock=some j->n₀<=j∧∃cur,W.heap[j]? =some (.cells cur tIs (0,0)):=by
  intro j ej
  rcases hrow.2 with ⟨rfl,_⟩|⟨g,cap,cur,rfl,hb,hc,_⟩
  ·simp [Value.ownBlock] at ej
  ·obtain rfl:g=j:=by simpa [Value.ownBlock] using ej
   exact ⟨hb,cur,hc⟩
 have hB1:Boxed w1 B a2J v:=by
  refine (hgrow.block B hv.lt fun e=>?_).trans hv
  obtain ⟨_,cur,hc⟩:=hrb B e.symm
  have hv:W.heap[B]? =some (.cells #[v] a2J (0,0)):=hv
  rw [hc] at hv
  injection hv with hv
  injection hv with _ hv
  cases hv
 have hs:w1.heap.size=(w1.setCell ⟨B,0,none⟩ v').heap.size:=by simp [World.setCell]
 have hsz:W.heap.size<=(w1.setCell ⟨B,0,none⟩ v').heap.size:=by have:=hgrow.size;omega
 refine ⟨hB1,hB1.set v',hown'.kept (grownBy_setCell' w1 B v') (.inr (hB1.not_row (by decide) hown').symm),⟨hsz,fun j o hj ho=>?_⟩,⟨hgrow.os,hgrow.tape,hgrow.output,hsz,fun j hj hX=>?_⟩,hsz,?_⟩
 ·have h1:w1.heap[j]? =some o:=(hgrow.block j (v6 hj) fun e=>by
   obtain ⟨_,cur,hc⟩:=hrb j e.symm
   rw [hj] at hc
   injection hc with hc
   subst hc
   simp [Obj.isCells] at ho).trans hj
  refine (Below.heap_setCell _ _ _ _ fun e=>?_).trans h1
  have e:j=B:=e
  rw [e] at h1
  have hB1:w1.heap[B]? =some (.cells #[v] a2J (0,0)):=hB1
  rw [hB1] at h1
  injection h1 with h1
  subst h1
  simp [Obj.isCells] at ho
 ·refine (Below.heap_setCell _ _ _ _ hX).trans ?_
  exact hgrow.block j (by omega) fun e=>by have:=(hrb j e.symm).1;omega
 ·intro b vs t fl hb hX ht
  refine (Below.heap_setCell _ _ _ _ hX).trans ((hgrow.block b (v6 hb) fun e=>?_).trans hb)
  obtain ⟨q1,cur,q2⟩:=hrb b e.symm
  rw [hb] at q2
  injection q2 with q2
  injection q2 with _ q2 _
  rcases ht with ht|ht
  ·omega
  ·exact ht q2
theorem RT.keepC {w w':World} {M M':Ms} (hk:∀b vs t fl,w.heap[b]? =some (.cells vs t fl)->¬M b->w'.heap[b]? =some (.cells vs t fl)) (hm:∀b,M' b->M b∨¬∃vs t fl,w.heap[b]? =some (.cells vs t fl))
 {x:T} {v:Value} (h:RT w M x v):RT w' M' x v:=by
 have key:∀(a:Addr) (u:Value),w.cell? a=some u->¬M a.block->w'.cell? a=some u∧¬M' a.block:=fun a u hc hM=>by
  obtain ⟨vs,t,fl,ho⟩:=aO4 hc
  refine ⟨(World.cell?_of_block ((hk _ _ _ _ ho hM).trans ho.symm)).trans hc,fun h2=>?_⟩
  rcases hm _ h2 with h3|h3
  ·exact hM h3
  ·exact h3 ⟨vs,t,fl,ho⟩
 induction h with
 |atm h=>exact .atm h
 |sl f hrow hcap hmax hk1 hn hA hc hr hx ih=>exact .sl f hrow hcap hmax hk1 hn hA (fun i j c hc'=>key _ _ (hc i j c hc').1 (hc i j c hc').2) ih hx
 |ptr f hc hr ih=>exact .ptr f (fun j c hc'=>key _ _ (hc j c hc').1 (hc j c hc').2) ih
 |fn vs hl hr ih=>exact .fn vs hl ih
theorem b6H {W:World} {M:Ms} {n0:Nat} {l:List XE} {v:Value} (hrow:W.ownsRow n0 tIs 1 v l.length (l.map Prod.snd)) (hM:∀b,M b->b<n0) (hx:∀x ∈ l,RT W M (E1 x.1) x.2):RT W M (aT9 (l.map Prod.fst)) v:=by
 have hl:((l.map Prod.fst).map Y5).length=l.length:=by simp
 have at1:∀i j t,at2 ((l.map Prod.fst).map Y5) i j=some t->∃x,l[i]? =some x∧j=0∧t=E1 x.1:=by
  intro i j t h
  unfold at2 at h
  rw [lba,lba] at h
  cases hx:l[i]? with
  |none=>rw [hx] at h;cases h
  |some x=>
   rw [hx] at h
   cases j with
   |zero=>refine ⟨x,rfl,rfl,?_⟩;simp [Y5] at h;exact h.symm
   |succ j=>simp [Y5] at h
 have sz:∀r ∈ (l.map Prod.fst).map Y5,r.length=1:=fun r hr=>by
  obtain ⟨x,_,rfl⟩:=lbx.1 hr;rfl
 rcases hrow.2 with ⟨rfl,h0⟩|⟨g,cap,cur,rfl,hg,hcur,hcap,hcm,hcs,htake⟩
 ·have:l=[]:=lbF h0
  subst this
  exact .sl (size:=1) (k:=.any) (rows:=[]) (b:=0) (off:=0) (cap:=0) (fun _ _=>undef) (fun r hr=>by cases hr) (Nat.zero_le _) (Nat.zero_le _) (fun h=>nomatch h) (fun h=>nomatch h) (fun h=>absurd rfl h) (fun i j c h=>by simp [at2] at h) (fun i j c h=>by simp [at2] at h)
 ·have hcell:∀i x,l[i]? =some x->W.cell? ⟨g,0+(i*1+0),none⟩=some x.2:=fun i x hxi=>by
   have hlt:=(lbe.1 hxi).1
   have e:(cur.toList.take (l.length*1))[i]? =some x.2:=by rw [htake,lba,hxi];rfl
   rw [lbi,if_pos (by omega)] at e
   have e2:cur[i]? =some x.2:=by simpa using e
   simp [World.cell?,hcur,e2]
  rw [← hl]
  refine .sl (size:=1) (k:=.any) (b:=g) (off:=0) (fun i _=>(l[i]?.map Prod.snd).getD undef) sz (by omega) hcm (fun h=>nomatch h) (fun h=>nomatch h) (fun _=>rfl) (fun i j t h=>?_) (fun i j t h=>?_)
  ·obtain ⟨x,hxi,rfl,rfl⟩:=at1 i j t h
   rw [hxi]
   exact ⟨hcell i x hxi,fun hm=>by have:=hM _ hm;omega⟩
  ·obtain ⟨x,hxi,rfl,rfl⟩:=at1 i j t h
   rw [hxi]
   exact hx x (lbm hxi)
def b6h (D:Nat):Deferred:={ target:=.collected D,args:=#[] }
theorem a7e {n:Nat} {P:Program} {fn:Func} {tmps:Array Value} {R:Ending->World->Prop}:∀(Ds:List Nat) (W:World),Ds.Nodup->(∀ D ∈ Ds,W.heap[D]? =some (.deferred (some [])))->
 (∀ W',W'.os=W.os->W'.tape=W.tape->W'.output=W.output->W.heap.size<=W'.heap.size->(∀ b,b ∉ Ds->W'.heap[b]? =W.heap[b]?)->LeavesIn Fence.wide n P fn tmps R [] .returning W')->
 LeavesInM Fence.wide n P fn tmps R (Ds.map b6h) .returning W
 |[],W,_,_,h=>h W rfl rfl rfl (lbQ _) fun _ _=>rfl
 |D::Ds,W,hn,hD,h=>by
  obtain ⟨hn1,hn2⟩:=List.nodup_cons.1 hn
  have h1:=hD D (by simp)
  refine ⟨by simp,.inl ⟨D,_,rfl,run_takeDeferred h1,a7e Ds _ hn2 (fun D2 h2=>?_) fun W' a1 a2 a3 a4 a5=>?_⟩⟩
  ·exact (World.putObj_heap_other (by rintro rfl;exact hn1 h2)).trans (hD D2 (by simp [h2]))
  ·refine h W' a1 a2 a3 (by have e:(W.putObj D (.deferred none)).heap.size=W.heap.size:=(by simp [World.putObj]);omega) fun b hb=>?_
   have hb:b≠D∧b ∉ Ds:=by simpa using hb
   exact (a5 b hb.2).trans (World.putObj_heap_other hb.1)
structure FI (X1:Nat) (W4:World) (outs:List XE) (outv:Value) (Ds:List Nat) (W:World):Prop where
 bel:Below X1 W4 W
 bx:Boxed W X1 a2J outv
 row:W.ownsRow (X1+1) tIs 1 outv outs.length (outs.map Prod.snd)
 ir:∀x ∈ outs,a1p (X1+1) W x.1 x.2
 nd:Ds.Nodup
 dm:∀D ∈ Ds,X1<D∧W.heap[D]? =some (.deferred (some []))
theorem FI.below {X1:Nat} {W4:World} {outs:List XE} {outv:Value} {Ds:List Nat} {W W':World} (h:FI X1 W4 outs outv Ds W) (hb:Below W.heap.size W W'):FI X1 W4 outs outv Ds W':=
 ⟨h.bel.trans (hb.mono (Nat.le_of_lt h.bx.lt)),ab6 hb h.bx,b4l hb h.row,fun x hx=>(h.ir x hx).below hb,h.nd,fun D hD=>⟨(h.dm D hD).1,(hb.block D (v6 (h.dm D hD).2)).trans (h.dm D hD).2⟩⟩
structure FP (X ns:Nat) (Wh:World) (q:List Int->Bool) (pre:List XE) (W:World):Prop where
 bel:Below X Wh W
 sz:ns<=W.heap.size
 pr:∃fv,Boxed W X a2J fv∧W.ownsRow ns tIs 1 fv (pre.filter fun x=>q x.1).length ((pre.filter fun x=>q x.1).map Prod.snd)
 ir:∀x ∈ pre.filter (fun x=>q x.1),a1p ns W x.1 x.2
theorem FP.kept {X ns:Nat} {Wh:World} {q:List Int->Bool} {pre:List XE} {W W':World} (h:FP X ns Wh q pre W) (hb:Below X W W') (hk:∀(b:Nat) (vs:Array Value) (t:TypeId) (fl:Nat × Nat),W.heap[b]? =some (Obj.cells vs t fl)->W'.heap[b]? =some (Obj.cells vs t fl)):FP X ns Wh q pre W':=by
 obtain ⟨fv,h1,h2⟩:=h.pr
 refine ⟨h.bel.trans hb,lbR h.sz hb.size,⟨fv,hk _ _ _ _ h1,h2.1,h2.2.imp id fun ⟨g,cap,cur,a1,a2,a3,a4⟩=>⟨g,cap,cur,a1,a2,hk _ _ _ _ a3,a4⟩⟩,fun x hx=>?_⟩
 rcases h.ir x hx with hr|⟨g,cap,cur,a1,a2,a3,a4⟩
 ·exact .inl hr
 ·exact .inr ⟨g,cap,cur,a1,a2,hk _ _ _ _ a3,a4⟩
theorem ax3 {o:Obj} {vs:Array Value} {t:TypeId} {fl:Nat × Nat} (h:o=Obj.cells vs t fl):o.isCells≠false:=by subst h;simp [Obj.isCells]
theorem FP.own {X ns:Nat} {Wh:World} {q:List Int->Bool} (hX:X<=ns):OwnFrom ns (FP X ns Wh q):=by
 intro s A B row hs hg hr
 refine hs.kept ⟨hg.os,hg.tape,hg.output,hg.size,fun k hk=>hg.block k (by have:=hs.sz;omega) fun e=>by have:=(hr k e.symm).1;omega⟩ fun b vs t fl hb=>?_
 refine (hg.block b (v6 hb) fun e=>?_).trans hb
 obtain ⟨_,o,ho,hc⟩:=hr b e.symm
 rw [hb] at ho
 injection ho with ho
 exact ax3 ho.symm hc
section
open Go.RowKit Go.Shelf
theorem a5l {P:Program} {g:FuncId} {args:List S} {r:S} (h:b9 P g args [] r []) (m:Nat) {W:World} {ι:Io} {M:Ms} {vals:List Value} (hl:vals.length=args.length)
 (hv:∀j s,args[j]? =some s->RS W ι M s (vals.getD j undef)) (hMB:MB W M) (hF:Z1 ι 0):
 CallsIn Fence.wide m P g vals.toArray W fun e W'=>∃v,e=.returned v∧(∃ ι',RS W' ι' M r v)∧Below W.heap.size W W':=by
 refine callsIn_wide.2 ((aA9 h hl hv hMB hF).mono ?_)
 rintro e W' ⟨v,rfl,⟨ι',M',h1,h2⟩,h3⟩
 exact ⟨v,rfl,⟨ι',h1.keep (fun _ _ _=>rfl) (fun b hb=>.inl (h2 b hb)) (fun _ _ h=>h)⟩,h3⟩
theorem b21 {w:World} {ι:Io} {M:Ms} {a b:S} {v:Value} (h:RS w ι M (.tup [a,b]) v):∃x y,v=.tuple #[x,y]∧RS w ι M a x∧RS w ι M b y:=by
 cases h with
 |tup vs hl hr=>
  match vs,hl,hr with
  |[x,y],_,hr=>exact ⟨x,y,rfl,hr 0 _ rfl,hr 1 _ rfl⟩
theorem aU4 {w:World} {ι:Io} {M:Ms} {n:Int} {v:Value} (h:RS w ι M (b7 .i64 n) v):v=.int .i64 n:=ak0 h
theorem aC1 {w:World} {ι:Io} {M:Ms} {b:Bool} {v:Value} (h:RS w ι M (j0 b) v):v=.bool b:=ak0 h
theorem b1g {w:World} {ι:Io} {M:Ms} {l:List Int} {v:Value} (h:RS w ι M (i7 l) v):RT w M (E1 l) v:=by
 cases h with|c h=>cases h with|t h=>exact h
theorem b0I {w:World} {M:Ms} {l:List Int} {v:Value} (h:RT w M (E1 l) v):∃A cap,v=.slice A l.length cap∧l.length<=cap∧cap<=maxLen∧∀i x,l[i]? =some x->∃b off,A=some ⟨b,off,none⟩∧w.cell? ⟨b,off+i,none⟩=some (.int .i64 x):=by
 have ml:(l.map g9).length=l.length:=by simp
 generalize hrows:l.map g9=rows at h
 cases h with
 |@sl _ _ _ b off cap A f hrow hcap hmax hk hn hA hc hr hx=>
  subst hrows
  refine ⟨A,cap,by rw [ml],by omega,hmax,fun i x hi=>?_⟩
  have hne:l.map g9≠[]:=by intro h;rw [List.map_eq_nil_iff] at h;subst h;simp at hi
  have h2:at2 (l.map g9) i 0=some (ti x):=by simp [at2,hi,g9]
  have h3:=(hc i 0 _ h2).1
  have h4:=hr i 0 _ h2
  have h5:f i 0=.int .i64 x:=by
   generalize f i 0=u at h4
   cases h4 with|atm=>rfl
  refine ⟨b,off,hA hne,?_⟩
  rw [show off+i=off+(i*1+0) by omega,h3,h5]
theorem b6K {W:World} {ι:Io} {M:Ms} {a b:S} {x y:Value} (h1:RS W ι M a x) (h2:RS W ι M b y):∀j s,[a,b][j]? =some s->RS W ι M s ([x,y].getD j undef):=fun j s hj=>by
 match j,hj with
 |0,hj=>injection hj with hj;subst hj;exact h1
 |1,hj=>injection hj with hj;subst hj;exact h2
 |j+2,hj=>simp at hj
theorem bj2 {W:World} {ι:Io} {M:Ms} {a b c:S} {x y z:Value} (h1:RS W ι M a x) (h2:RS W ι M b y) (h3:RS W ι M c z):∀j s,[a,b,c][j]? =some s->RS W ι M s ([x,y,z].getD j undef):=fun j s hj=>by
 match j,hj with
 |0,hj=>injection hj with hj;subst hj;exact h1
 |1,hj=>injection hj with hj;subst hj;exact h2
 |2,hj=>injection hj with hj;subst hj;exact h3
 |j+3,hj=>simp at hj
theorem ae1 {w W:World} {M:Ms} (h:MB w M) (hb:Below w.heap.size w W):MB W M:=fun b hm=>Nat.lt_of_lt_of_le (h b hm) hb.size
section
variable {w:World} {ι:Io} {M:Ms} {t:g7} {kind:Int} {n:Nat} {v0:Value}
theorem b5D (hMB:MB w M) (hF:Z1 ι 0) (hE:ExP t kind n) (hn:n<=8) (h0:RS w ι M (trS t) v0) (m:Nat) {W:World} (hW:Below w.heap.size w W):
 CallsIn Fence.wide m Tryz.prog 127 #[v0,.int .i64 kind] W fun e W'=>∃lv,e=.returned (.tuple #[lv,.int .i64 0])∧RT W' M (E1 (C4 t kind n)) lv∧Below W.heap.size W W':=by
 refine (a5l (am7 t kind n hE hn) m (vals:=[v0,.int .i64 kind]) rfl (b6K (a3o hW h0) (.c (.t (.atm rfl)))) (ae1 hMB hW) hF).mono ?_
 rintro e W' ⟨v,rfl,⟨ι',hr⟩,hb⟩
 obtain ⟨x,y,rfl,h1,h2⟩:=b21 hr
 rw [aU4 h2]
 exact ⟨x,rfl,b1g h1,hb⟩
theorem b5Q (hMB:MB w M) (hF:Z1 ι 0) (hE:ExP t kind n) (h0:RS w ι M (trS t) v0) (m:Nat) {W:World} (hW:Below w.heap.size w W):
 CallsIn Fence.wide m Tryz.prog 64 #[v0,.int .i64 kind] W fun e W'=>∃(A:Option Addr) (len cap:Nat),e=.returned (.tuple #[.agg #[.int .i64 (t.ev.moves.length:Int),.slice A len cap],.int .i64 0])∧RS W' (fun _=>none) M (a1s (n8 t kind)) (.agg #[.int .i64 (t.ev.moves.length:Int),.slice A len cap])∧Below W.heap.size W W':=by
 have sy:=a7g t kind hE.s
 have e1:a1k t kind=0:=N8.2 ⟨hE.e,hE.k0,hE.k1⟩
 have hc:¬(n9 t≠0∨kind<0∨8<=kind):=by have:=N8.1 e1;omega
 have e2:aP0 t kind=n8 t kind:=if_neg hc
 rw [e1,e2] at sy
 refine (a5l sy m (vals:=[v0,.int .i64 kind]) rfl (b6K (a3o hW h0) (.c (.t (.atm rfl)))) (ae1 hMB hW) hF).mono ?_
 rintro e W' ⟨v,rfl,⟨ι',hr⟩,hb⟩
 obtain ⟨x,y,rfl,h1,h2⟩:=b21 hr
 rw [aU4 h2]
 cases h1 with
 |agg vs hl hq=>
  match vs,hl,hq with
  |[a,b],_,hq=>
   have g0:=hq 0 _ rfl
   have g1:=hq 1 _ rfl
   simp only [lb5,lb6] at g0 g1
   cases g0 with|t g0=>cases g1 with|t g1=>
   cases g0 with|atm=>
   obtain ⟨A,len,cap,rfl⟩:∃(A:Option Addr) (len cap:Nat),b=.slice A len cap:=by
    cases g1 with|sl=>exact ⟨_,_,_,rfl⟩
   refine ⟨A,len,cap,rfl,?_,hb⟩
   refine .agg [_,_] rfl fun j c hj=>?_
   match j,hj with
   |0,hj=>injection hj with hj;subst hj;exact .t (.atm rfl)
   |1,hj=>injection hj with hj;subst hj;exact .t g1
   |j+2,hj=>simp at hj
theorem b3V (hMB:MB w M) (hx:XT t kind n) (h0:RS w (fun _=>none) M (trS t) v0) (m:Nat) {W2 W:World} (hw2:Below w.heap.size w W2) {sv:Value} (hs:RS W2 (fun _=>none) M (a1s (n8 t kind)) sv) (hW:Below W2.heap.size W2 W) {set:List Int} (hl:set.length<=1000) {v:Value} (hv:RT W M (E1 set) v):
 CallsIn Fence.wide m Tryz.prog 66 #[v0,sv,v] W fun e W'=>e=.returned (.bool (pX t kind n set))∧Below W.heap.size W W':=by
 have hwW:Below w.heap.size w W:=hw2.trans (hW.mono hw2.size)
 refine (a5l (aZ8 t kind n hx set (by omega)) m (vals:=[v0,sv,v]) rfl (bj2 (a3o hwW h0) (a3o hW hs) (.c (.t hv))) (ae1 hMB hwW) (fun _ _=>rfl)).mono ?_
 rintro e W' ⟨u,rfl,⟨ι',hr⟩,hb⟩
 rw [aC1 hr]
 exact ⟨rfl,hb⟩
theorem b4w (m:Nat) {W:World} (hMB:MB W M) {outs:List XE} {outv:Value} (ho:RT W M (aT9 (outs.map Prod.fst)) outv) (h1:outs.length<=1000000) (h2:∀a ∈ outs,a.1.length<=1000000) {set:List Int} (hs:set.length<=1000000) {v:Value} (hv:RT W M (E1 set) v) {b:Nat} (hb:Boxed W b tIs v) (hbM:¬M b):
 CallsIn Fence.wide m Tryz.prog 129 #[outv,.func (.func 130) #[] #[.pointer (some ⟨b,0,none⟩)]] W fun e W'=>e=.returned (.bool (outs.any fun a=>H6 a.1 set))∧Below W.heap.size W W':=by
 have hc:=b35 (outs.map Prod.fst) (by simpa using h1) (fun a ha=>by obtain ⟨x,hx,rfl⟩:=lbx.1 ha;exact h2 x hx) set hs
 rw [List.any_map] at hc
 refine (a5l hc m (ι:=fun _=>none) (M:=M) (vals:=[outv,.func (.func 130) #[] #[.pointer (some ⟨b,0,none⟩)]]) rfl (b6K (.c (.t ho)) (.c (.t (.fn [_] rfl fun j c hj=>?_)))) hMB (fun _ _=>rfl)).mono ?_
 ·match j,hj with
  |0,hj=>
   injection hj with hj;subst hj
   refine .ptr (b:=b) (off:=0) (fun _=>v) (fun j c hj=>?_) (fun j c hj=>?_)
   ·match j,hj with
    |0,hj=>exact ⟨hb.cell,hbM⟩
    |j+1,hj=>simp at hj
   ·match j,hj with
    |0,hj=>injection hj with hj;subst hj;exact hv
    |j+1,hj=>simp at hj
  |j+1,hj=>simp at hj
 ·rintro e W' ⟨u,rfl,⟨ι',hr⟩,hb⟩
  rw [aC1 hr]
  exact ⟨rfl,hb⟩
end
theorem bl9 {w:World} {ι:Io} {M:Ms} {t:g7} {v:Value} (h:RS w ι M (trS t) v):∃a0 a1 a2 a3 a4 a5 a6 a7 a8 a9,v=.agg #[a0,a1,a2,a3,a4,a5,a6,a7,a8,a9]∧
 a0.oneCell'=true∧a1.oneCell'=true∧a2.oneCell'=true∧a3.oneCell'=true∧a4.oneCell'=true∧a5.oneCell'=true∧a6.oneCell'=true∧a7.oneCell'=true∧a8.oneCell'=true∧a9.oneCell'=true:=by
 cases h with
 |agg vs hl hr=>
  match vs,hl,hr with
  |[u0,u1,u2,u3,u4,u5,u6,u7,u8,u9],_,hr=>
   have h0:=hr 0 _ rfl
   have h1:=hr 1 _ rfl
   have h2:=hr 2 _ rfl
   have h3:=hr 3 _ rfl
   have h4:=hr 4 _ rfl
   have h5:=hr 5 _ rfl
   have h6:=hr 6 _ rfl
   have h7:=hr 7 _ rfl
   have h8:=hr 8 _ rfl
   have h9:=hr 9 _ rfl
   simp only [lb5,lb6] at h0 h1 h2 h3 h4 h5 h6 h7 h8 h9
   exact ⟨u0,u1,u2,u3,u4,u5,u6,u7,u8,u9,rfl,h0.one,h1.one,h2.one,h3.one,h4.one,h5.one,h6.one,h7.one,h8.one,h9.one⟩
theorem b9A (l:List Value) (h:l.length=68):l=(List.range 68).map fun i=>l.getD i undef:=by
 refine List.ext_getElem? fun i=>?_
 by_cases hi:i<68
 ·have hl:i<l.length:=by omega
  simp [hi,lbl,hl]
 ·rw [lbd (by omega),lbd (by simp;omega)]
theorem bf9 (a:Act) (h:a.tmps.size=68) (hd:a.defers=[]):a=⟨((List.range 68).map fun i=>a.tmps.getD i undef).toArray,[]⟩:=by
 obtain ⟨tm,ds⟩:=a
 have hd:ds=[]:=hd
 subst hd
 congr 1
 have:=b9A tm.toList (by simpa using h)
 obtain ⟨l⟩:=tm
 simpa using congrArg List.toArray this
theorem aX1 {W:World} {b l:Nat} {vs:Array Value} {t:TypeId} {fl:Nat × Nat} {o:Obj} (hb:W.heap[b]? =some (Obj.cells vs t fl)) (hl:W.heap[l]? =some o) (ho:o.isCells=false):b≠l:=by
 rintro rfl
 rw [hb] at hl
 injection hl with hl
 exact ax3 hl.symm ho
theorem KpX.putObj {X ns:Nat} {W:World} {l:Nat} {o o':Obj} (hl:W.heap[l]? =some o) (ho:o.isCells=false):KpX X ns W (W.putObj l o'):=
 ⟨by simp [World.putObj],fun b vs t fl hb _ _=>(World.putObj_heap_other (aX1 hb hl ho)).trans hb⟩
theorem bd5 {W:World} {l b:Nat} {t:TypeId} {v:Value} {o o':Obj} (hb:Boxed W b t v) (hl:W.heap[l]? =some o) (ho:o.isCells=false):Boxed (W.putObj l o') b t v:=(World.putObj_heap_other (aX1 hb hl ho)).trans hb
theorem a1p.put {n0:Nat} {W:World} {s:List Int} {v:Value} {l:Nat} {o o':Obj} (h:a1p n0 W s v) (hl:W.heap[l]? =some o) (ho:o.isCells=false):a1p n0 (W.putObj l o') s v:=by
 rcases h with hr|⟨g,cap,cur,a1,a2,a3,a4⟩
 ·exact .inl hr
 ·exact .inr ⟨g,cap,cur,a1,a2,(World.putObj_heap_other (aX1 a3 hl ho)).trans a3,a4⟩
end
section
open Go.RowKit Go.Shelf
attribute [local go_sem] Oper.semAt_some
theorem ao9 {p:List Int->Bool} {l:List Int}:∀(m k:Nat),I9 p l true k≠[]->I9 p l true (k+m)=I9 p l true k
 |0,k,_=>rfl
 |m+1,k,h=>by
  have ih:=ao9 m k h
  rw [show k+(m+1)=(k+m)+1 by omega,I9,if_pos ⟨rfl,by rw [ih];exact h⟩,ih]
theorem b6B {P:Program} {w:World} {base:Nat} {t ty e:TypeId} {i:TypeInfo} {size:Nat} (ht:P.underlying t=some (.slice e)) (hi:P.info? e=some i) {v:Value} {n:Nat} {xs:List Value} (hown:w.ownsRow base e size v n xs) (c:Nat):
 (Builtin.append_ #[t,t] ty #[v,.slice none 0 c]).run P w=.ok v w:=by
 rcases hown.2 with ⟨rfl,rfl⟩|⟨g,cap,cur,rfl,_,_,hnc,_⟩
 ·simp [Builtin.append_,run_underlying ht,sizeOf,typeInfo,hi,Builtin.lenOf,Builtin.firstCells]
 ·simp [Builtin.append_,run_underlying ht,sizeOf,typeInfo,hi,Builtin.lenOf,Builtin.firstCells,hnc,storeCells]
theorem a5Q {F:Fence} {n:Nat} {P:Program} {w:World} {ops:Array Oper} {rest:List Oper} {o:Oper} {a:Act} {Q:Exit->Act->World->Prop} (hg:o.guard=none) (s x:Operand) (t:TypeId) (hop:o.op=Op.call { callee:=Callee.builtin Builtin.append,args:=#[s,x],argTypes:=#[t,t] })
 {v:Value} {c:Nat} (hs:a.eval s=v) (hx:a.eval x=.slice none 0 c) (hrun:(Builtin.append_ #[t,t] o.type #[v,.slice none 0 c]).run P w=.ok v w) (hK:wpListIn F n P ops Q rest (a.put o.dst v) w):wpListIn F n P ops Q (o::rest) a w:=by
 refine wpListIn_plain hg fun K hK'=>?_
 unfold Oper.wpIn
 refine ⟨?_,?_⟩
 ·simp [Oper.about,hop,resolve,Target.leads,Sem.run_pure]
 ·rw [Oper.semAt_plain F _ _ (by rw [hop];intro c hc';cases hc')]
  simp [execOp,hop,resolve,invoke,builtin,hs,hx,hrun,Result.andThen]
  exact hK' _ _ hK
theorem b2d:(Tryz.prog.info? 33).map (fun i=>(i.zero,i.size,i.bytes))=some (some (.slice none 0 0),1,24):=by kernel_rfl
theorem a1w {F:Fence} {n:Nat} {P:Program} {f:FuncId} {args:Array Value} {w:World} {R:Ending->World->Prop} (l:Nat) (h:CallsIn F n P f args w R):CallsIn (F.inRound l) n P f args w R:=h
theorem a6W:∀(l:List Int) (n:Nat),(G0 l n).length<=2 ^ l.length
 |l,0=>by simp [G0];exact Nat.one_le_two_pow
 |[],n+1=>by simp [G0]
 |x::r,n+1=>by
  have h1:=a6W r n
  have h2:=a6W r (n+1)
  rw [G0,lbq,lbr,lbu,Nat.pow_succ]
  omega
theorem b0y (W:World) (o:Obj):Below W.heap.size W (W.alloc o):=(Below.refl _ W).alloc (lbQ _) o
theorem ap1 {W:World} {b:Nat} {x y:Value} {t:TypeId} (h:W.heap[b]? =some (.cells #[x,y] t (0,0))):W.cell? ⟨b,0,none⟩=some x∧W.cell? ⟨b,1,none⟩=some y∧W.frozen? ⟨b,0,none⟩=false∧W.frozen? ⟨b,1,none⟩=false:=by
 refine ⟨?_,?_,?_,?_⟩<;>simp [World.cell?,World.frozen?,h]
theorem b3Q {w:World} {M:Ms} (hMB:MB w M) {t:g7} {kind:Int} {n:Nat} (hE:ExP t kind n) (hx:XT t kind n) (short:Bool) {v0:Value} (h0:RS w (fun _=>none) M (trS t) v0):
 Calls Tryz.prog 61 #[v0,.int .i64 kind,.bool short] w fun e w'=>∃v,e=.returned (.tuple #[v,.int .i64 0])∧RT w' M (aT9 (S8 t kind n short)) v∧Below w.heap.size w w':=by
 have hsus:=fun m W hW=>b5D (m:=m) (W:=W) hMB (fun _ _=>rfl) hE (by have:=hx.h4;omega) h0 hW
 have hsys:=fun m W hW=>b5Q (m:=m) (W:=W) hMB (fun _ _=>rfl) hE h0 hW
 have hexp:=fun m W2 W hw2 sv hs hW set hl v hv=>b3V (m:=m) (W2:=W2) (W:=W) (sv:=sv) (set:=set) (v:=v) hMB hx h0 hw2 hs hW hl hv
 obtain ⟨a0,a1,a2,a3,a4,a5,a6,a7,a8,a9,rfl,o0,o1,o2,o3,o4,o5,o6,o7,o8,o9⟩:=bl9 h0
 have hsl:=a57 t kind n
 have hn6:=hx.h4
 have hdd:∀k:Nat,(Fence.wide.depth.isSome=true->1<=k):=fun k h=>by simp [Fence.wide] at h
 refine (callsIn_wide (n:=9)).1 ?_
 refine callsIn_of_wp_marks Tryz.func61 rfl trivial ?_ rfl
 simp only [Tryz.ntmps61,List.size_toArray,lbu,List.length_nil,Nat.reduceAdd,Nat.reduceSub,Array.replicate_succ,Array.replicate_zero,List.push_toArray,List.append_toArray,List.nil_append,List.cons_append]
 obtain ⟨W0,hW0⟩:∃W0,w.alloc (.cells #[a0,a1,a2,a3,a4,a5,a6,a7,a8,a9] 32)=W0:=⟨_,rfl⟩
 have b0:W0.heap[w.heap.size]? =some (.cells #[a0,a1,a2,a3,a4,a5,a6,a7,a8,a9] 32 (0,0)):=by rw [← hW0];exact World.alloc_heap_new w _
 have hB0:Below w.heap.size w W0:=by rw [← hW0];exact (Below.refl _ w).alloc (lbQ _) _
 have s0:W0.heap.size=w.heap.size+1:=by rw [← hW0];simp
 have ten:∀W:World,Below W0.heap.size W0 W->W.heap[w.heap.size]? =some (.cells #[a0,a1,a2,a3,a4,a5,a6,a7,a8,a9] 32 (0,0)):=fun W hW=>(hW.block _ (by omega)).trans b0
 have cells10:∀W:World,W.heap[w.heap.size]? =some (.cells #[a0,a1,a2,a3,a4,a5,a6,a7,a8,a9] 32 (0,0))->W.cell? ⟨w.heap.size,0,none⟩=some a0∧W.cell? ⟨w.heap.size,1,none⟩=some a1∧W.cell? ⟨w.heap.size,2,none⟩=some a2∧W.cell? ⟨w.heap.size,3,none⟩=some a3∧W.cell? ⟨w.heap.size,4,none⟩=some a4∧W.cell? ⟨w.heap.size,5,none⟩=some a5∧W.cell? ⟨w.heap.size,6,none⟩=some a6∧W.cell? ⟨w.heap.size,7,none⟩=some a7∧W.cell? ⟨w.heap.size,8,none⟩=some a8∧W.cell? ⟨w.heap.size,9,none⟩=some a9:=fun W hb=>by
  refine ⟨?_,?_,?_,?_,?_,?_,?_,?_,?_,?_⟩<;>simp [World.cell?,hb]
 obtain ⟨c0,c1,c2,c3,c4,c5,c6,c7,c8,c9⟩:=cells10 W0 b0
 gi_wp2_with (first
  |(refine ⟨trivial,?_⟩;gi_at_call 127;(try rw [hW0]);refine (hsus _ _ hB0).mono ?_;rintro e W1 ⟨lv,rfl,hlv,hB1⟩;obtain ⟨d0,d1,d2,d3,d4,d5,d6,d7,d8,d9⟩:=cells10 W1 (ten W1 hB1);have hB1w:=hB0.trans (hB1.mono (by omega)))
  |(refine ⟨trivial,?_⟩;gi_at_call 64;refine (hsys _ _ hB1w).mono ?_;rintro e W2 ⟨A2,len2,cap2,rfl,hsv,hB2⟩;have g2:=ap1 (World.alloc_heap_new W2 (.cells #[.int .i64 0,.slice none 0 0] 70));obtain ⟨g20,g21,g22,g23⟩:=g2))
 obtain ⟨Al,capl,rfl,lc1,lc2,lrow⟩:=b0I hlv
 have hB2w:Below w.heap.size w W2:=hB1w.trans (hB2.mono hB1w.size)
 obtain ⟨W3,hW3⟩:∃W3,W2.alloc (.cells #[.int .i64 (t.ev.moves.length:Int),.slice A2 len2 cap2] 70)=W3:=⟨_,rfl⟩
 have bS3:W3.heap[W2.heap.size]? =some (.cells #[.int .i64 (t.ev.moves.length:Int),.slice A2 len2 cap2] 70 (0,0)):=by rw [← hW3];exact World.alloc_heap_new W2 _
 have hB3:Below W2.heap.size W2 W3:=by rw [← hW3];exact (Below.refl _ _).alloc (lbQ _) _
 have s3:W3.heap.size=W2.heap.size+1:=by rw [← hW3];simp
 rw [hW3]
 have bO:=Boxed.new W3 a2J (.slice none 0 0)
 obtain ⟨W4,hW4⟩:∃W4,W3.alloc (.cells #[.slice none 0 0] a2J)=W4:=⟨_,rfl⟩
 have hB4:Below W3.heap.size W3 W4:=by rw [← hW4];exact (Below.refl _ _).alloc (lbQ _) _
 have s4:W4.heap.size=W3.heap.size+1:=by rw [← hW4];simp
 rw [hW4] at bO
 rw [hW4]
 have hB34:Below W2.heap.size W2 W4:=hB3.trans (hB4.mono (by omega))
 have hB4w:Below w.heap.size w W4:=hB2w.trans (hB34.mono hB2w.size)
 have hs01:w.heap.size<W2.heap.size:=by have:=hB1.size;have:=hB2.size;omega
 have ten4:W4.heap[w.heap.size]? =some (.cells #[a0,a1,a2,a3,a4,a5,a6,a7,a8,a9] 32 (0,0)):=(hB34.block _ hs01).trans (ten W2 (hB1.trans (hB2.mono hB1.size)))
 have bS4:W4.heap[W2.heap.size]? =some (.cells #[.int .i64 (t.ev.moves.length:Int),.slice A2 len2 cap2] 70 (0,0)):=(hB4.block _ (by omega)).trans bS3
 clear hW0 hW3 hW4
 obtain ⟨X1,hX1⟩:∃X1,W2.heap.size+1=X1:=⟨_,rfl⟩
 rw [hX1]
 rw [hX1] at s3
 rw [s3] at bO s4 hB4
 obtain ⟨b10,hb10⟩:∃b,W2.heap.size=b:=⟨_,rfl⟩
 obtain ⟨b3,hb3⟩:∃b,w.heap.size=b:=⟨_,rfl⟩
 rw [hb10] at bS4 ⊢
 rw [hb3] at ten4 ⊢
 rw [hb10,hb3] at hs01
 rw [hb3] at cells10
 clear bS3 s0 b0 hB0 c0 c1 c2 c3 c4 c5 c6 c7 c8 c9
 refine wpIn_loop (fun a W=>∃(k:Nat) (outs:List XE) (outv:Value) (Ds:List Nat) (x13 x14 x30 x31 x32 x33 x34 x35 x36 x37 x38 x39 x40 x41 x42 x43 x44 x45 x46 x47 x48 x49 x50 x51 x52 x53 x54 x55 x56 x57 x58 x59 x60 x61 x62 x63 x64 x65 x66 x67:Value),a=⟨(Value.agg #[a0,a1,a2,a3,a4,a5,a6,a7,a8,a9]::Value.int .i64 kind::Value.bool short::Value.pointer (some ⟨b3,0,none⟩)::undef::undef::Value.slice none 0 0::Value.int .i64 0::Value.slice Al (C4 t kind n).length capl::Value.int .i64 0::Value.pointer (some ⟨b10,0,none⟩)::Value.pointer (some ⟨X1,0,none⟩)::Value.int .i64 (k:Int)::x13::x14::Value.tuple #[.slice Al (C4 t kind n).length capl,.int .i64 0]::Value.agg #[a0,a1,a2,a3,a4,a5,a6,a7,a8,a9]::Value.int .i64 kind::Value.tuple #[.slice Al (C4 t kind n).length capl,.int .i64 0]::Value.slice Al (C4 t kind n).length capl::Value.int .i64 0::Value.int .i64 0::Value.bool false::undef::Value.tuple #[.agg #[.int .i64 (t.ev.moves.length:Int),.slice A2 len2 cap2],.int .i64 0]::Value.agg #[a0,a1,a2,a3,a4,a5,a6,a7,a8,a9]::Value.int .i64 kind::Value.tuple #[.agg #[.int .i64 (t.ev.moves.length:Int),.slice A2 len2 cap2],.int .i64 0]::Value.agg #[.int .i64 (t.ev.moves.length:Int),.slice A2 len2 cap2]::Value.int .i64 0::x30::x31::x32::x33::x34::x35::x36::x37::x38::x39::x40::x41::x42::x43::x44::x45::x46::x47::x48::x49::x50::x51::x52::x53::x54::x55::x56::x57::x58::x59::x60::x61::x62::x63::x64::x65::x66::x67::[]).toArray,Ds.map b6h⟩∧k<=(C4 t kind n).length+1∧outs.map Prod.fst=I9 (pX t kind n) (C4 t kind n) short k∧outs.length<=k*64∧(∀ a ∈ outs,a.1.length<=1000)∧FI X1 W4 outs outv Ds W) (fun a W=>(C4 t kind n).length+2 - (intOf (a.tmps.getD 12 undef)).toNat) ?start ?round
 case start=>
  refine ⟨0,[],.slice none 0 0,[],undef,undef,undef,undef,undef,undef,undef,undef,undef,undef,undef,undef,undef,undef,undef,undef,undef,undef,undef,undef,undef,undef,undef,undef,undef,undef,undef,undef,undef,undef,undef,undef,undef,undef,undef,undef,undef,undef,undef,undef,rfl,Nat.zero_le _,rfl,Nat.zero_le _,fun a ha=>(by cases ha),?_⟩
  exact ⟨Below.refl _ _,bO,World.ownsRow_nil _ _ _ _,fun x hx=>(by cases hx),List.nodup_nil,fun D hD=>(by cases hD)⟩
 case round=>
  rintro a W ⟨k,outs,outv,Ds,x13,x14,x30,x31,x32,x33,x34,x35,x36,x37,x38,x39,x40,x41,x42,x43,x44,x45,x46,x47,x48,x49,x50,x51,x52,x53,x54,x55,x56,x57,x58,x59,x60,x61,x62,x63,x64,x65,x66,x67,rfl,hk,ho,ho2,ho3,hFI⟩
  obtain ⟨Ao,capo,rfl⟩:∃Ao capo,outv=.slice Ao outs.length capo:=by
   rcases hFI.row.2 with ⟨rfl,h⟩|⟨g,cap,cur,rfl,_⟩
   ·exact ⟨none,0,by rw [h]⟩
   ·exact ⟨_,_,rfl⟩
  have cO:=hFI.bx.cell
  have hk64:k*64<=7*64:=lbT _ (by omega)
  have hpow:∀q,(G0 (C4 t kind n) q).length<=64:=fun q=>lbR (a6W _ q) (lbR (Nat.pow_le_pow_right (by decide) (show (C4 t kind n).length<=6 by omega)) (by decide))
  by_cases hstop:k<=(C4 t kind n).length∧(short=true->outs=[])
  ·have hcase:short=false∨(short=true∧(outs.length:Int)=0):=by
    cases short with
    |false=>exact .inl rfl
    |true=>exact .inr ⟨rfl,by rw [hstop.2 rfl];rfl⟩
   have hkI:(k:Int)<=((C4 t kind n).length:Int):=by have:=hstop.1;omega
   have hnext:I9 (pX t kind n) (C4 t kind n) short (k+1)=I9 (pX t kind n) (C4 t kind n) short k++(G0 (C4 t kind n) k).filter fun s=>!((I9 (pX t kind n) (C4 t kind n) short k).any fun a=>H6 a s) && pX t kind n s:=by
    rw [I9,if_neg]
    rintro ⟨h1,h2⟩
    rw [← ho,hstop.2 h1] at h2
    exact h2 rfl
   rw [← ho] at hnext
   rcases hcase with rfl|⟨rfl,hl0⟩
   all_goals
    gi_wp2_with (refine ⟨trivial,?_⟩;gi_at_call 128;refine (b3p 8 _ _ _ _ _).mono ?_;rintro e Wb ⟨rfl,hWb⟩)
    all_goals try omega
    try clear hl0
    clear hstop
    obtain ⟨X,hX⟩:∃X,W.heap.size=X:=⟨_,rfl⟩
    have hX1X:X1<X:=by have:=hFI.bx.lt;omega
    have bX:Boxed Wb X a2J (.slice none 0 0):=by
     rw [hWb,←hX]
     exact ((Boxed.new W a2J (.slice none 0 0)).alloc _).alloc _
    have bL:Boxed Wb (X+1) tIs (.slice Al (C4 t kind n).length capl):=by
     have:=Boxed.new (W.alloc (.cells #[.slice none 0 0] a2J)) tIs (.slice Al (C4 t kind n).length capl)
     rw [World.size_alloc] at this
     rw [hWb,←hX]
     exact this.alloc _
    have bN:Boxed Wb (X+2) tI (.int .i64 (k:Int)):=by
     have:=Boxed.new ((W.alloc (.cells #[.slice none 0 0] a2J)).alloc (.cells #[.slice Al (C4 t kind n).length capl] tIs)) tI (.int .i64 (k:Int))
     rw [World.size_alloc,World.size_alloc] at this
     rw [hWb,←hX]
     exact this
    have sb:Wb.heap.size=X+3:=by rw [hWb,←hX];simp
    have hBb:Below X W Wb:=by
     rw [hWb,←hX]
     exact (((Below.refl _ W).alloc (lbQ _) _).alloc (by simp) _).alloc (by simp;omega) _
    rw [← hWb,hX]
    clear hWb
    have q1:∀i x,(C4 t kind n)[i]? =some x->∃b off,Al=some ⟨b,off,none⟩∧Wb.cell? ⟨b,off+i,none⟩=some (.int .i64 x)∧b<X+3∧b≠X:=fun i x hx=>by
     obtain ⟨b,off,h1,h2⟩:=lrow i x hx
     have hb:b<W1.heap.size:=aG3 h2
     have z2:=hB2.size
     have c1:Below W1.heap.size W1 Wb:=hB2.trans ((hB34.mono z2).trans ((hFI.bel.mono (by omega)).trans (hBb.mono (by omega))))
     exact ⟨b,off,h1,(c1.cell (p:=⟨b,off+i,none⟩) hb).trans h2,by omega,by omega⟩
    refine aM6 (n:=9) rfl (by omega) (gf:=199) (lb:=#[.pointer (some ⟨X+2,0,none⟩),.pointer (some ⟨X+1,0,none⟩)]) rfl trivial (enters_of Tryz.func199 (by kernel_rfl) rfl)
     (b5A (X:=X) (ns:=X+3) b2O 8 (by omega) (by omega) Wb (by omega) bN bL q1 ⟨by omega,by omega,by omega,by omega,by omega⟩ ⟨lc1,lc2⟩) KpX.trans (fun W l o o' _ h1 h2 _=>KpX.putObj h1 h2) (Below.refl _ _) (fun _=>rfl)
     (FP X (X+3) W (fun s=>!(outs.any fun a=>H6 a.1 s) && pX t kind n s)) (by rw [sb];exact FP.own (by omega))
     ⟨hBb,by omega,⟨_,bX,World.ownsRow_nil _ _ _ _⟩,fun x hx=>(by cases hx)⟩
     (fun pre x a1 W1=>a1.defers=[]∧a1.tmps.size=68∧a1.tmps.getD 3 undef=.pointer (some ⟨b3,0,none⟩)∧a1.tmps.getD 10 undef=.pointer (some ⟨b10,0,none⟩)∧a1.tmps.getD 11 undef=.pointer (some ⟨X1,0,none⟩)∧a1.tmps.getD 13 undef=.pointer (some ⟨X,0,none⟩)∧pre.length<(G0 (C4 t kind n) k).length∧
       ∃b14,a1.tmps.getD 14 undef=.pointer (some ⟨b14,0,none⟩)∧FP X (X+3) W (fun s=>!(outs.any fun a=>H6 a.1 s) && pX t kind n s) pre W1∧a1p (X+3) W1 x.1 x.2∧Boxed W1 b14 tIs x.2∧X+3<=b14∧x.1.length<=1000) ?Ab ?assign ?body ?done
    case Ab=>
     rintro pre x ac W1 l o o' hle hl hc ⟨d1,d2,d3,d10,d11,d13,hlt,b14,d14,hFP,hI,hb14,hge,hsl3⟩
     exact ⟨d1,d2,d3,d10,d11,d13,hlt,b14,d14,(FP.own (by omega)).putObj _ hFP (by omega) hl hc,hI.put hl hc,bd5 hb14 hl hc,hge,hsl3⟩
    case assign=>
     rintro l pre ⟨s,v⟩ W1 K hFP ⟨hI,hsl3⟩ hlt hK
     obtain ⟨Av,cv,hv⟩:=a3C hI
     simp only at hv hI
     subst hv
     have bn0:=Boxed.new W1 tIs (.slice none 0 0)
     have bn1:=bn0.cell
     have bn2:=bn0.frozen
     gi_wp2
     have hBa:=b0y W1 (.cells #[.slice Av s.length cv] tIs)
     exact hK _ _ ⟨rfl,rfl,rfl,rfl,rfl,rfl,hlt,W1.heap.size,rfl,hFP.kept (hBa.mono (by have:=hFP.sz;omega)) (fun b vs ty fl hb=>(hBa.block b (v6 hb)).trans hb),hI.below hBa,Boxed.new _ _ _,hFP.sz,hsl3⟩ ((KeepsOthers.alloc _ _).from _) (KpX.alloc _ _ _ _)
    case body=>
     rintro l pre ⟨s,v⟩ ac Wc ⟨d1,d2,d3,d10,d11,d13,hlt,b14,d14,hFP,hI,hb14,hge,hsl3⟩
     rw [bf9 ac d2 d1]
     simp only [List.range,List.range.loop,List.map]
     rw [d3,d10,d11,d13,d14]
     clear d1 d2 d3 d10 d11 d13 d14
     generalize ac.tmps.getD 0 undef=y0
     generalize ac.tmps.getD 1 undef=y1
     generalize ac.tmps.getD 2 undef=y2
     generalize ac.tmps.getD 4 undef=y4
     generalize ac.tmps.getD 5 undef=y5
     generalize ac.tmps.getD 6 undef=y6
     generalize ac.tmps.getD 7 undef=y7
     generalize ac.tmps.getD 8 undef=y8
     generalize ac.tmps.getD 9 undef=y9
     generalize ac.tmps.getD 12 undef=y12
     generalize ac.tmps.getD 15 undef=y15
     generalize ac.tmps.getD 16 undef=y16
     generalize ac.tmps.getD 17 undef=y17
     generalize ac.tmps.getD 18 undef=y18
     generalize ac.tmps.getD 19 undef=y19
     generalize ac.tmps.getD 20 undef=y20
     generalize ac.tmps.getD 21 undef=y21
     generalize ac.tmps.getD 22 undef=y22
     generalize ac.tmps.getD 23 undef=y23
     generalize ac.tmps.getD 24 undef=y24
     generalize ac.tmps.getD 25 undef=y25
     generalize ac.tmps.getD 26 undef=y26
     generalize ac.tmps.getD 27 undef=y27
     generalize ac.tmps.getD 28 undef=y28
     generalize ac.tmps.getD 29 undef=y29
     generalize ac.tmps.getD 30 undef=y30
     generalize ac.tmps.getD 31 undef=y31
     generalize ac.tmps.getD 32 undef=y32
     generalize ac.tmps.getD 33 undef=y33
     generalize ac.tmps.getD 34 undef=y34
     generalize ac.tmps.getD 35 undef=y35
     generalize ac.tmps.getD 36 undef=y36
     generalize ac.tmps.getD 37 undef=y37
     generalize ac.tmps.getD 38 undef=y38
     generalize ac.tmps.getD 39 undef=y39
     generalize ac.tmps.getD 40 undef=y40
     generalize ac.tmps.getD 41 undef=y41
     generalize ac.tmps.getD 42 undef=y42
     generalize ac.tmps.getD 43 undef=y43
     generalize ac.tmps.getD 44 undef=y44
     generalize ac.tmps.getD 45 undef=y45
     generalize ac.tmps.getD 46 undef=y46
     generalize ac.tmps.getD 47 undef=y47
     generalize ac.tmps.getD 48 undef=y48
     generalize ac.tmps.getD 49 undef=y49
     generalize ac.tmps.getD 50 undef=y50
     generalize ac.tmps.getD 51 undef=y51
     generalize ac.tmps.getD 52 undef=y52
     generalize ac.tmps.getD 53 undef=y53
     generalize ac.tmps.getD 54 undef=y54
     generalize ac.tmps.getD 55 undef=y55
     generalize ac.tmps.getD 56 undef=y56
     generalize ac.tmps.getD 57 undef=y57
     generalize ac.tmps.getD 58 undef=y58
     generalize ac.tmps.getD 59 undef=y59
     generalize ac.tmps.getD 60 undef=y60
     generalize ac.tmps.getD 61 undef=y61
     generalize ac.tmps.getD 62 undef=y62
     generalize ac.tmps.getD 63 undef=y63
     generalize ac.tmps.getD 64 undef=y64
     generalize ac.tmps.getD 65 undef=y65
     generalize ac.tmps.getD 66 undef=y66
     generalize ac.tmps.getD 67 undef=y67
     obtain ⟨Av,cv,hv⟩:=a3C hI
     simp only at hv hI hb14 hsl3
     subst hv
     obtain ⟨i0,hi,hz0,hz1,hz2⟩:=info_parts b2d
     have hFPb:=hFP.bel
     rw [← hX] at hFPb
     have hFIc:=hFI.below hFPb
     rw [hX] at hFPb
     obtain ⟨fv,hfb,hfrow⟩:=hFP.pr
     have hMc:∀b,M b->b<b3:=fun b hb=>by have:=hMB b hb;omega
     have hwc:Below b3 w Wc:=by rw [← hb3];exact hB4w.trans (hFIc.bel.mono (by omega))
     have hMBc:MB Wc M:=fun b hb=>Nat.lt_of_lt_of_le (hMB b hb) hwc.size
     have hrtO:RT Wc M (aT9 (outs.map Prod.fst)) (.slice Ao outs.length capo):=b6H hFIc.row (fun b hb=>by have:=hMc b hb;omega) fun x hx=>(hFIc.ir x hx).rt fun b hb=>by have:=hMc b hb;omega
     have hsl2:∀a ∈ outs,a.1.length<=1000000:=fun a ha=>lbR (ho3 a ha) (by decide)
     have hrtS:RT Wc M (E1 s) (.slice Av s.length cv):=hI.rt fun b hb=>by have:=hMc b hb;omega
     have hcon:=b4w 6 hMBc hrtO (by omega) hsl2 (set:=s) (by omega) hrtS hb14 (fun hb=>by have:=hMc b14 hb;omega)
     have e11:=hFIc.bx.cell
     have e14:=hb14.cell
     have hBdAll:∀Wd:World,Below Wc.heap.size Wc Wd->Below b3 w Wd∧Below W2.heap.size W2 Wd∧Wd.heap[b3]? =some (.cells #[a0,a1,a2,a3,a4,a5,a6,a7,a8,a9] 32 (0,0))∧Wd.heap[b10]? =some (.cells #[.int .i64 (t.ev.moves.length:Int),.slice A2 len2 cap2] 70 (0,0)):=fun Wd hBd=>by
      have h1:Below X1 W4 Wd:=(hFIc.below hBd).bel
      refine ⟨hwc.trans (hBd.mono (by have:=hwc.size;omega)),?_,(h1.block b3 (by omega)).trans ten4,(h1.block b10 (by omega)).trans bS4⟩
      rw [hb10]
      rw [hb10] at hB34
      exact hB34.trans (h1.mono (by omega))
     have stepFP:∀Wd:World,Below Wc.heap.size Wc Wd->FP X (X+3) W (fun s=>!(outs.any fun a=>H6 a.1 s) && pX t kind n s) pre Wd:=fun Wd hBd=>hFP.kept (hBd.mono (by have:=hFP.sz;omega)) fun b vs ty fl hb=>(hBd.block b (v6 hb)).trans hb
     have keepO:∀Wd:World,Below Wc.heap.size Wc Wd->KeepsFrom Wb.heap.size Wc Wd:=fun Wd hBd=>⟨hBd.size,fun k o _ hk _=>(hBd.block k (v6 hk)).trans hk⟩
     cases hq1:(outs.any fun a=>H6 a.1 s) with
     |true=>
      rw [hq1] at hcon
      have hqf:(!(outs.any fun a=>H6 a.1 s) && pX t kind n s)=false:=by rw [hq1];rfl
      gi_wp2
      refine ⟨trivial,?_⟩
      refine (a1w l hcon).mono ?_
      rintro e Wd ⟨rfl,hBd⟩
      gi_wp2
      refine ⟨trivial,?_⟩
      gi_wp2
      have hf:=stepFP Wd hBd
      obtain ⟨fv2,f1,f2⟩:=hf.pr
      refine ⟨keepO Wd hBd,KpX.below hBd,hf.bel,hf.sz,⟨fv2,f1,?_⟩,?_⟩
      ·rw [lb8];simpa [hqf] using f2
      ·rw [lb8];simpa [hqf] using hf.ir
     |false=>
      rw [hq1] at hcon
      gi_wp2
      refine ⟨trivial,?_⟩
      refine (a1w l hcon).mono ?_
      rintro e Wd ⟨rfl,hBd⟩
      obtain ⟨g1,g2,g3,g4⟩:=hBdAll Wd hBd
      obtain ⟨d0,d1,d2,d3,d4,d5,d6,d7,d8,d9⟩:=cells10 Wd g3
      obtain ⟨m0,m1,m2,m3⟩:=ap1 g4
      have e14d:=(ab6 hBd hb14).cell
      have hxp:=hexp 6 W2 Wd hB2w _ hsv g2 s hsl3 _ (b1g (a3o hBd (RS.c (RC.t hrtS)):RS Wd (fun _=>none) M (i7 s) _))
      cases hq2:pX t kind n s with
      |true=>
       rw [hq2] at hxp
       gi_wp2
       refine ⟨trivial,?_⟩
       refine (a1w l hxp).mono ?_
       rintro e We ⟨rfl,hBe⟩
       have hBce:=hBd.trans (hBe.mono hBd.size)
       have hqt:(!(outs.any fun a=>H6 a.1 s) && pX t kind n s)=true:=by rw [hq1,hq2];rfl
       have hf:=stepFP We hBce
       obtain ⟨fv2,f1,f2⟩:=hf.pr
       have fc:=f1.cell
       have e14e:=(ab6 hBce hb14).cell
       have hcnt:(pre.filter fun x=>!(outs.any fun a=>H6 a.1 x.1) && pX t kind n x.1).length+1<=64:=by
        have h1:=lbt (fun x:XE=>!(outs.any fun a=>H6 a.1 x.1) && pX t kind n x.1) pre
        have h2:=hpow k
        omega
       have hml:(64:Nat)<=maxLen:=by decide
       have hsz:=hf.sz
       gi_wp2_with (gi_at_builtin;refine wpListIn_append_own _ rfl _ _ a2J rfl (X+3) tIs i0 (.slice none 0 0) 1 24 Tryz.underlying36 hi hz0 hz1 hz2 rfl (by decide) _ _ _ rfl (f2.alloc _) ⟨We.heap.size,0,none⟩ 1 1 [.slice Av s.length cv] rfl rfl (cell_one_new _ _ _) (by simp [Value.oneCell']) (by omega) (by omega) (by simp;omega) ?_;intro v' w1 hown' hgrow _;obtain ⟨g',cap',rfl⟩:=ownsRow_succ hown';obtain ⟨hv1,hv2,hr2,hk2,hbx2,hkp2⟩:=b2E f1 f2 hsz hown' hgrow;have hc1:=hv1.cell;have hf1:=hv1.frozen)
       refine ⟨(keepO We hBce).trans (hk2.from _),(KpX.below hBce).trans hkp2,hf.bel.trans (hbx2.low (by omega) (lbQ _)),lbR hsz hk2.size,⟨_,hv2,?_⟩,?_⟩
       ·rw [lb8];simpa [hqt] using hr2
       ·rw [lb8]
        intro x hx
        rcases lbz.1 hx with hx|hx
        ·exact hkp2.irow (by omega) (hf.ir x hx)
        ·have hx:x=(s,.slice Av s.length cv):=by simpa [hqt] using hx
         subst hx
         exact hkp2.irow (by omega) (hI.below hBce)
      |false=>
       rw [hq2] at hxp
       have hqf:(!(outs.any fun a=>H6 a.1 s) && pX t kind n s)=false:=by rw [hq1,hq2];rfl
       gi_wp2
       refine ⟨trivial,?_⟩
       refine (a1w l hxp).mono ?_
       rintro e We ⟨rfl,hBe⟩
       have hBce:=hBd.trans (hBe.mono hBd.size)
       gi_wp2
       have hf:=stepFP We hBce
       obtain ⟨fv2,f1,f2⟩:=hf.pr
       refine ⟨keepO We hBce,KpX.below hBce,hf.bel,hf.sz,⟨fv2,f1,?_⟩,?_⟩
       ·rw [lb8];simpa [hqf] using f2
       ·rw [lb8];simpa [hqf] using hf.ir
    case done=>
     rintro D xs Wr hD hxs hFP hdef
     have hFPb:=hFP.bel
     rw [← hX] at hFPb
     have hFIr:=hFI.below hFPb
     obtain ⟨i0,hi,hz0,hz1,hz2⟩:=info_parts b2d
     obtain ⟨fv,hfb,hfrow⟩:=hFP.pr
     have e11:=hFIr.bx.cell
     have f11:=hFIr.bx.frozen
     have eX:=hfb.cell
     have hlen:(xs.filter fun x=>!(outs.any fun a=>H6 a.1 x.1) && pX t kind n x.1).length<=64:=by
      have h1:=lbt (fun x:XE=>!(outs.any fun a=>H6 a.1 x.1) && pX t kind n x.1) xs
      have h2:=hpow k
      have h3:=congrArg List.length hxs
      rw [lbr] at h3
      omega
     have hout:(outs++xs.filter fun x=>!(outs.any fun a=>H6 a.1 x.1) && pX t kind n x.1).map Prod.fst=outs.map Prod.fst++(G0 (C4 t kind n) k).filter fun s=>!((outs.map Prod.fst).any fun a=>H6 a s) && pX t kind n s:=by
      rw [lbC,←hxs,List.filter_map]
      congr 2
      refine List.filter_congr fun x _=>?_
      show _=(!((outs.map Prod.fst).any fun a=>H6 a x.1) && pX t kind n x.1)
      rw [List.any_map]
      rfl
     have hlen3:∀a ∈ outs++xs.filter (fun x=>!(outs.any fun a=>H6 a.1 x.1) && pX t kind n x.1),a.1.length<=1000:=fun a ha=>by
      rcases lbz.1 ha with ha|ha
      ·exact ho3 a ha
      ·have h1:a.1 ∈ xs.map Prod.fst:=lbx.2 ⟨a,(lby.1 ha).1,rfl⟩
       rw [hxs] at h1
       have:=(O2.1 h1).2
       omega
     have hX1r:X1+1<=Wr.heap.size:=hFIr.bx.lt
     have hDs:D ∉ Ds:=fun hm=>by
      have h1:=v6 (hFI.dm D hm).2
      omega
     generalize hvals:(xs.filter fun x=>!(outs.any fun a=>H6 a.1 x.1) && pX t kind n x.1)=sel at hlen hout hlen3 hfrow
     have hirs:∀x ∈ sel,a1p (X+3) Wr x.1 x.2:=by rw [← hvals];exact hFP.ir
     have hml:(100000:Nat)<=maxLen:=by decide
     have fin:∀(w1:World) (v':Value) (ac:Act),w1.ownsRow (X1+1) tIs 1 v' (outs.length+sel.length) (outs.map Prod.snd++sel.map Prod.snd)->Wr.grownBy w1 (Value.slice Ao outs.length capo).ownBlock->
      Boxed w1 X1 a2J (.slice Ao outs.length capo)∧FI X1 W4 (outs++sel) v' (D::Ds) (w1.setCell ⟨X1,0,none⟩ v'):=fun w1 v' ac hown' hgrow=>by
      obtain ⟨hv1,hv2,hr2,hk2,hbx2,hkp2⟩:=b2R hFIr.bx hFIr.row hX1r hown' hgrow
      refine ⟨hv1,hFIr.bel.trans (hbx2.low (by omega) (lbQ _)),hv2,by rw [lbq,lbC];exact hr2,fun x hx=>?_,List.nodup_cons.2 ⟨hDs,hFIr.nd⟩,fun D2 h2=>?_⟩
      ·rcases lbz.1 hx with hx|hx
       ·exact hkp2.irow (by omega) (hFIr.ir x hx)
       ·exact hkp2.irow (by omega) ((hirs x hx).mono (by omega))
      ·rcases lbA.1 h2 with rfl|h2
       ·exact ⟨by omega,hk2.same _ _ hdef rfl⟩
       ·exact ⟨(hFIr.dm D2 h2).1,hk2.same _ _ (hFIr.dm D2 h2).2 rfl⟩
     rcases hfrow.2 with ⟨rfl,hsel0⟩|⟨g,capf,cur,rfl,hg1,hg2,hg3,hg4,hg5,hg6⟩
     ·have hsel:sel=[]:=lbF hsel0
      subst hsel
      gi_wp2_with (gi_at_builtin;refine a5Q rfl _ _ a2J rfl rfl rfl (b6B Tryz.underlying36 hi hFIr.row _) ?_)
      have hk1:(k:Int)+1=((k+1:Nat):Int):=by omega
      simp only [hk1]
      refine ⟨⟨k+1,outs++[],.slice Ao outs.length capo,D::Ds,_,_,_,_,_,_,_,_,_,_,_,_,_,_,_,_,_,_,_,_,_,_,_,_,_,_,_,_,_,_,_,_,_,_,_,_,_,_,_,_,rfl,by omega,?_,?_,hlen3,?_⟩,?_⟩
      ·rw [hout,hnext]
      ·rw [lbq,lbU];simp only [List.length_nil];omega
      ·exact (fin Wr _ ⟨#[],[]⟩ (by simpa using hFIr.row) (World.grownBy.refl Wr _)).2
      ·simp [intOf];omega
     ·have hgc:∀(j:Nat) (u:Value),(sel.map Prod.snd)[j]? =some u->Wr.cell? ((⟨g,0,none⟩:Addr).add j)=some u:=fun j u hj=>by
       have hlt:=(lbe.1 hj).1
       rw [← hg6,lbi,if_pos (by simp at hlt;omega)] at hj
       have e2:cur[j]? =some u:=by simpa using hj
       have hadd:(⟨g,0,none⟩:Addr).add j=⟨g,0+j,none⟩:=by unfold Addr.add;split<;>simp_all
       rw [hadd]
       simp [World.cell?,hg2,e2]
      have hone:∀u ∈ sel.map Prod.snd,u.oneCell'=true:=fun u hu=>by
       obtain ⟨x,hx,rfl⟩:=lbx.1 hu
       exact (hirs x hx).one
      gi_wp2_with (gi_at_builtin;refine wpListIn_append_own _ rfl _ _ a2J rfl (X1+1) tIs i0 (.slice none 0 0) 1 24 Tryz.underlying36 hi hz0 hz1 hz2 rfl (by decide) _ _ _ rfl hFIr.row ⟨g,0,none⟩ sel.length capf (sel.map Prod.snd) rfl (by simp) hgc hone (by omega) (by omega) hX1r ?_;intro v' w1 hown' hgrow _;obtain ⟨A',c',rfl⟩:=b6j hown';obtain ⟨hv1,hFIn⟩:=fin w1 _ ⟨#[],[]⟩ hown' hgrow;have hc1:=hv1.cell;have hf1:=hv1.frozen)
      have hk1:(k:Int)+1=((k+1:Nat):Int):=by omega
      simp only [hk1]
      refine ⟨⟨k+1,outs++sel,.slice A' (outs.length+sel.length) c',D::Ds,_,_,_,_,_,_,_,_,_,_,_,_,_,_,_,_,_,_,_,_,_,_,_,_,_,_,_,_,_,_,_,_,_,_,_,_,_,_,_,_,rfl,by omega,?_,?_,hlen3,?_⟩,?_⟩
      ·rw [hout,hnext]
      ·rw [lbq,lbU];omega
      ·exact hFIn
      ·simp [intOf];omega
  ·have hfin:outs.map Prod.fst=S8 t kind n short:=by
    rw [ho]
    unfold S8 az0
    by_cases hkL:k<=(C4 t kind n).length
    ·have hsh:short=true∧outs≠[]:=by
      apply a1f
      intro hh
      exact hstop ⟨hkL,fun h1=>a1f fun h2=>hh ⟨h1,h2⟩⟩
     obtain ⟨rfl,hne⟩:=hsh
     rw [show (C4 t kind n).length+1=k+((C4 t kind n).length+1 - k) by omega]
     exact (ao9 _ k (by rw [← ho];simpa using hne)).symm
    ·rw [show k=(C4 t kind n).length+1 by omega]
   have hgo:∀tm:Array Value,tm.getD 6 undef=.slice Ao outs.length capo->tm.getD 7 undef=.int .i64 0->LeavesInM Fence.wide 9 Tryz.prog Tryz.f61 tm (fun e w'=>∃v,e=.returned (.tuple #[v,.int .i64 0])∧RT w' M (aT9 (S8 t kind n short)) v∧Below b3 w w') (Ds.map b6h) .returning W:=fun tm h6 h7=>by
    have hrt:RT W M (aT9 (outs.map Prod.fst)) (.slice Ao outs.length capo):=b6H hFI.row (fun b hb=>by have:=hMB b hb;omega) fun x hx=>(hFI.ir x hx).rt fun b hb=>by have:=hMB b hb;omega
    refine a7e Ds W hFI.nd (fun D hD=>(hFI.dm D hD).2) fun W' z1 z2 z3 z4 z5=>?_
    refine ⟨_,results_tmp2 rfl _ _ _,_,by rw [h6,h7],?_,?_⟩
    ·rw [← hfin]
     refine hrt.keepC (fun b vs ty fl hb _=>?_) (fun b hb=>.inl hb)
     refine (z5 b fun hD=>?_).trans hb
     rw [(hFI.dm b hD).2] at hb
     cases hb
    ·have hBw:Below b3 w W:=by rw [← hb3];exact hB4w.trans (hFI.bel.mono (by have:=hB4w.size;omega))
     exact hBw.trans ⟨z1,z2,z3,z4,fun b hb=>z5 b fun hD=>by have:=(hFI.dm b hD).1;omega⟩
   by_cases hkL:k<=(C4 t kind n).length
   ·have hsh:short=true∧¬(outs.length:Int)=0:=by
     refine ⟨a1f fun h1=>hstop ⟨hkL,fun h2=>absurd h2 h1⟩,fun h0=>hstop ⟨hkL,fun _=>lbF (by omega)⟩⟩
    obtain ⟨rfl,hne⟩:=hsh
    have hkI:(k:Int)<=((C4 t kind n).length:Int):=by omega
    gi_wp2
    all_goals try omega
    exact hgo _ rfl rfl
   ·have hkI:¬(k:Int)<=((C4 t kind n).length:Int):=by omega
    gi_wp2
    all_goals try omega
    all_goals first
     |exact hgo _ rfl rfl
     |(have hu:∃b,some undef=some (Value.bool b):=⟨_,by assumption⟩
       obtain ⟨b,hu⟩:=hu
       simp [undef] at hu)
theorem b9r {ι:Io} (h:Z1 ι 0):ι=fun _=>none:=funext fun id=>h id (Nat.zero_le _)
theorem b9S (t:g7) (kind:Int) (n:Nat) (hE:ExP t kind n) (hx:XT t kind n) (short:Bool):b9 Tryz.prog 61 [trS t,b7 .i64 kind,j0 short] [] (.tup [a4i (S8 t kind n short),b7 .i64 0]) []:=by
 refine ⟨⟨_,Tryz.func61,rfl,by decide⟩,fun w ι M vals hl hv hH hM hF=>?_⟩
 match vals,hl,hv with
 |[v0,v1,v2],_,hv=>
  have h0:=hv 0 _ rfl
  have h1:=aU4 (hv 1 _ rfl)
  have h2:=aC1 (hv 2 _ rfl)
  simp only [lb5,lb6] at h0 h1 h2
  subst h1 h2
  have hi:=b9r hF
  subst hi
  refine Calls.mono (b3Q hM hE hx short h0) ?_
  rintro e w' ⟨v,rfl,h3,h4⟩
  refine ⟨_,rfl,aK2 (.tup [v,.int .i64 0] rfl fun j s hj=>?_) h4 hM hF⟩
  match j,hj with
  |0,hj=>injection hj with hj;subst hj;exact .c (.t h3)
  |1,hj=>injection hj with hj;subst hj;exact .c (.t (.atm rfl))
  |j+2,hj=>simp at hj
end
theorem aj2 (t:g7) (kind:Int) (hs:t.Sized) (h:a1k t kind≠0):b9 Tryz.prog 127 [trS t,b7 .i64 kind] [] (.tup [i7 [],b7 .i64 1]) []:=by
 have ve:=ac1 t kind hs h
 (refine ac Tryz.func127 ?_;(conv=>whnf);repeat ((first|refine b0x ?_|refine zy ?_);conv=>whnf))
 repeat' (first|refine zx ?_|refine qp ve ?_|refine zd ?_ ?_<;>intro h<;>try omega|fail)<;>conv=>whnf
 all_goals first
  |omega
  |exact s7 ⟨rfl,rfl,trivial⟩
theorem a8A (t:g7) (kind:Int) (hs:t.Sized) (ht:n9 t=0) (k0:0<=kind) (k1:kind<8) (hm:t.ev.moves.length<=8) (r:Nat) (hz:J2 (n8 t kind) []=.row r):b9 Tryz.prog 127 [trS t,b7 .i64 kind] [] (.tup [i7 [],b7 .i64 15]) []:=by
 have ve:=a7W t kind hs ht k0 k1 hm r hz
 (refine ac Tryz.func127 ?_;(conv=>whnf);repeat ((first|refine b0x ?_|refine zy ?_);conv=>whnf))
 repeat' (first|refine zx ?_|refine qp ve ?_|refine zd ?_ ?_<;>intro h<;>try omega|fail)<;>conv=>whnf
 all_goals first
  |omega
  |exact s7 ⟨rfl,rfl,trivial⟩
theorem ab2 (t:g7) (kind e:Int) (he:e≠0) (hsu:b9 Tryz.prog 127 [trS t,b7 .i64 kind] [] (.tup [i7 [],b7 .i64 e]) []) (short:Bool):b9 Tryz.prog 61 [trS t,b7 .i64 kind,j0 short] [] (.tup [a4i [],b7 .i64 e]) []:=by
 (refine ac Tryz.func61 ?_;(conv=>whnf);repeat ((first|refine b0x ?_|refine zy ?_);conv=>whnf))
 repeat' (first|refine zx ?_|refine qp hsu ?_|refine zd ?_ ?_<;>intro h<;>try omega|fail)<;>conv=>whnf
 all_goals first
  |omega
  |exact s7 ⟨rfl,rfl,trivial⟩
inductive XK (t:g7) (kind:Int):Prop
 |arg (h:a1k t kind≠0)
 |unsat (h:a1k t kind=0) (r:Nat) (hr:J2 (n8 t kind) []=.row r)
 |ok (n:Nat) (hE:ExP t kind n) (hx:XT t kind n)
theorem aQ5 {t:g7} {kind:Int} (hs:t.Sized) (hm:t.ev.moves.length<=8) (hh:t.ev.hhs<=6) (hf:t.finds.length<=20):XK t kind:=by
 by_cases h:a1k t kind=0
 ·obtain ⟨k1,k2,k3⟩:=N8.1 h
  have hhs:=(a3N (z6 k1).1).2.2.1
  have p:=L5 (kind:=kind) k1 hm (g:=[]) rfl (fun t ht=>by cases ht)
  rcases a9x p.o.r with ho|⟨r,hr⟩
  ·exact .ok t.ev.hhs.toNat ⟨hs,k1,k2,k3,hm,by omega,ho⟩ ⟨hs,k1,k2,k3,hm,by omega,by omega,hf⟩
  ·exact .unsat h r hr
 ·exact .arg h
noncomputable def O0 (t:g7) (kind:Int):Int:=open Classical in if a1k t kind≠0 then 1 else if ∃z,i6 (n8 t kind) z=true then 0 else 15
noncomputable def D7 (t:g7) (kind:Int) (short:Bool):List (List Int):=open Classical in if O0 t kind=0 then S8 t kind t.ev.hhs.toNat short else []
theorem a3m {t:g7} {kind:Int} (h:a1k t kind≠0):O0 t kind=1:=by unfold O0;rw [if_pos h]
theorem a0z {t:g7} {kind:Int} (h:a1k t kind=0) {r:Nat} (hr:J2 (n8 t kind) []=.row r):O0 t kind=15:=by
 unfold O0
 rw [if_neg (by omega),if_neg]
 rintro ⟨z,hz⟩
 rw [a5s hr z] at hz;cases hz
theorem a1m {t:g7} {kind:Int} {n:Nat} (h:ExP t kind n):O0 t kind=0:=by
 unfold O0
 rw [if_neg (by rw [N8.2 ⟨h.e,h.k0,h.k1⟩];omega),if_pos ⟨_,(h.vd 0).has⟩]
theorem T9 {t:g7} {kind:Int} {n:Nat} (h:ExP t kind n) (short:Bool):D7 t kind short=S8 t kind n short:=by
 unfold D7
 rw [if_pos (a1m h)]
 congr 1
 have:=h.h
 omega
theorem a5F {t:g7} {kind:Int} (h:O0 t kind≠0) (short:Bool):D7 t kind short=[]:=by unfold D7;rw [if_neg h]
theorem b0J (t:g7) (kind:Int) (hs:t.Sized) (hm:t.ev.moves.length<=8) (hh:t.ev.hhs<=6) (hf:t.finds.length<=20) (short:Bool):b9 Tryz.prog 61 [trS t,b7 .i64 kind,j0 short] [] (.tup [a4i (D7 t kind short),b7 .i64 (O0 t kind)]) []:=by
 rcases aQ5 (kind:=kind) hs hm hh hf with h|⟨h,r,hr⟩|⟨n,hE,hx⟩
 ·rw [a5F (by rw [a3m h];decide),a3m h]
  exact ab2 t kind 1 (by decide) (aj2 t kind hs h) short
 ·rw [a5F (by rw [a0z h hr];decide),a0z h hr]
  obtain ⟨k1,k2,k3⟩:=N8.1 h
  exact ab2 t kind 15 (by decide) (a8A t kind hs k1 k2 k3 hm r hr) short
 ·rw [T9 hE,a1m hE]
  exact b9S t kind n hE hx short
theorem a0X (t:g7) (kind:Int) (hs:t.Sized) (hm:t.ev.moves.length<=8) (hh:t.ev.hhs<=6) (hf:t.finds.length<=20):b9 Tryz.prog 15 [trS t,b7 .i64 kind] [] (.tup [a4i (D7 t kind true),b7 .i64 (O0 t kind)]) []:=by
 have fi:=b0J t kind hs hm hh hf true
 generalize D7 t kind true=L at fi
 generalize O0 t kind=E at fi
 (refine ac Tryz.func15 ?_;(conv=>whnf);repeat ((first|refine b0x ?_|refine zy ?_);conv=>whnf))
 repeat' (first|refine zx ?_|refine qp fi ?_|refine qp 4 ?_|refine qp 5 ?_|refine bl0 [4] ?_|refine bl0 [5] ?_|refine zd ?_ ?_<;>intro h<;>try omega|fail)<;>conv=>whnf
 all_goals first
  |exact s7 ⟨rfl,rfl,trivial⟩
end Go.Proofs.YtikokmdpigploaaGreat
