/- Part 6. -/
import Derived.RangeFuncWrites
import Derived.RangeFuncBox
import Derived.RangeFuncLeaves
import Derived.Shelf.Abstract
import Derived.Shelf.RegionOpen
import Derived.OwnWalkIn
import Derived.TacticsInMore
import Derived.LoopNIn
import Derived.LoopIn
import Derived.Maps.AppendAt
import Derived.ArgAppend
import Derived.Test.YtikokmdpigploaaGreatProg
import Derived.OrdersIn
import Derived.TacticsIn
import Derived.Test.YtikokmdpigploaaGreatMz5
namespace Go.Proofs.YtikokmdpigploaaGreat
set_option linter.unusedVariables false
set_option linter.unusedSimpArgs false
set_option maxRecDepth 100000
set_option maxHeartbeats 8000000
open Go.RowKit
open St1 St2 St3 St4 St5 St6 St7 St8 StA StB
theorem a0I {H:Hp} {id len:Nat} {n:Int} {rows:List H6} {rs:List (List C)} {f:Fr} {v:Rat} (hf:f=fz v) (hs:H[2]? =some (a3y n id len)) (hid:H[id]? =some { mode:=.live,elem:=133,size:=6,rows:=rs,box:=false })
 (hlen:len=rows.length) (hrs:rs=toC (rows.map E1)) (hne:id≠2) (hr:rows.length<=1000000) (mv:Nat) (kind:Int):
 e7 Tryz.prog 132 [b7 .i64 mv,b7 .i64 kind,frS f,.c (.ptr 2 0 0)] H (.tup []) (((H.set 2 (a3y n H.length (rows.length+1))).set id (b1q 133 6))++[U6 (rows++[A0 mv kind v])]):=by
 subst hf;subst hlen;subst hrs;exact b94 hs hid hne hr mv kind v
theorem aa0 {t:g7} {kind:Int} {k:Nat} (hk:k<=200) (hf:t.finds.length<=20) (hc:t.cleans.length<=50):(z6 t kind k).length<=14400:=by
 have h1:=S7 (t:=t) (kind:=kind) k
 have h2:=lbT hk (show 2+t.finds.length+t.cleans.length<=72 by omega)
 omega
abbrev aw7 (t:g7) (kind:Int) (i:Nat):Blk:={ mode:=.live,elem:=147,size:=7,rows:=[(T8 t kind i).map .t],box:=true }
theorem T6 {ρ:List (Option Nat)} {H:Hp}:∀rows:List (List T),a43 ρ H (rows.map (·.map C.t)) (rows.map (·.map C.t))
 |[]=>trivial
 |r::rs=>⟨Q4 r,T6 rs⟩
def a16 (t:g7) (kind:Int):Int:=if s6 t≠0∨kind<0∨8<=kind then 1 else 0
def aB0 (t:g7) (kind:Int):k7:=if s6 t≠0∨kind<0∨8<=kind then ⟨0,[]⟩ else m7 t kind
abbrev a7i:FuncId:=132
abbrev a6W:Blk:={ mode:=.live,elem:=70,size:=2,rows:=[[.t (ti 0),.t (a06 [])]],box:=true }
theorem b2p {P:Program} {f:FuncId} {args:List S} {H H1 H':Hp} {r s:S} (h:e7 P f args H r H1) (hf:Fin H.length r H1 s H'):e7 P f args H s H':=by
 refine ⟨h.1,fun w ι M vals hl hr hH hM hF=>?_⟩
 refine Calls.mono (h.2 w ι M vals hl hr hH hM hF) ?_
 rintro e w' ⟨v,rfl,ι',M',h4,hH',hM',hF',hst⟩
 obtain ⟨ρ,f1,f2,f3,f4⟩:=hf
 obtain ⟨g1,g2,g3⟩:=a2U.all f1 f2 f3 rfl hM hH' hst
 exact ⟨v,rfl,O6 ρ ι',_,f4.rs hH' h4,g1,fun b hb=>hM' b hb.1,g2,g3⟩
theorem b2b (t:g7) (kind:Int) (hs:t.Sized) (h1:¬(s6 t≠0∨kind<0∨8<=kind)):e7 Tryz.prog 64 [trS t,b7 .i64 kind] [] (.tup [.agg [.t (ti t.ev.moves.length),.own 0 0 (m7 t kind).rows.length true],b7 .i64 0]) [U6 (m7 t kind).rows]:=by
 have ck:=a6G t hs
 have m2:(t.ev.moves.map v7.row).length=t.ev.moves.length:=by simp
 obtain ⟨k1,k2,k3⟩:s6 t=0∧0<=kind∧kind<8:=by omega
 rw [k1] at ck
 obtain ⟨q1,q2,q3,q4,q5⟩:=B4 k1
 obtain ⟨b1,b2,b3,b4⟩:=a17 q1
 have kn:=b13 t kind hs q1 (fun f hf=>by have:=P3 q4 f hf;omega) (fun c hc=>a4o q5 c hc)
 (refine ac Tryz.func64 ?_;(conv=>whnf);repeat ((first|refine b0x ?_|refine zy ?_);conv=>whnf))
 repeat' (first|refine zx ?_|refine qp ck ?_|refine qp kn ?_|refine zd ?_ ?_<;>intro h<;>try omega|fail)<;>conv=>whnf
 all_goals try omega
 refine j5 e8 (fun k=>([J,J,J,J,S.c (C.ptr 0 0 0),J,S.c (C.ptr 1 0 0),S.c (C.ptr 2 0 0),S.c (C.fn (Fn.func a7i) [C.ptr 2 0 0])]++Jn 25++[S.c (C.t (a1C t kind)),b7 .i64 t.ev.moves.length,b7 .i64 k]++Jn 47,[a6W,evB t.ev,a3y t.ev.moves.length 3 (z6 t kind k).length,U6 (z6 t kind k)])) t.ev.moves.length (fun _=>True) [some 0,some 1,some 2,none] trivial ?_ ?_
 ·refine ⟨rfl,rfl,⟨⟨rfl,rfl,rfl,.inr ⟨⟨rfl,rfl,trivial⟩,trivial⟩⟩,⟨rfl,rfl,rfl,.inl ⟨rfl,n8 _⟩⟩,⟨rfl,rfl,rfl,.inr ⟨⟨?_,⟨rfl,rfl,rfl⟩,trivial⟩,trivial⟩⟩,⟨rfl,rfl⟩,trivial⟩,⟨⟨rfl,rfl,rfl⟩,⟨rfl,rfl,rfl⟩,⟨rfl,rfl,rfl⟩,⟨rfl,⟨rfl,rfl,rfl⟩,trivial⟩,rfl,g9 (by simp),rfl,trivial⟩⟩
  exact az6 (by rw [m2])
 intro k hk _
 by_cases hlt:k<t.ev.moves.length
 ·obtain ⟨x,hx⟩:∃x,t.ev.moves[k]? =some x:=⟨_,lbf hlt⟩
  have bn:=b7P t.ev q1 hx
  have st:=b6b t.ev q1 hx
  have gk:(List.range t.ev.moves.length)[k]? =some k:=lbh hlt
  have iv:a0d t.ev k=N3 t.ev x:=a6J hx
  have rl0:=aa0 (t:=t) (kind:=kind) (k:=k) (by omega) q2 q3
  have gl:(j8 t.finds kind k).length<=20:=by unfold j8;rw [lbr];exact lbS (lbt _ _) q2
  have cl:n9 t.cleans kind k<=50:=lbS (lbt _ _) q3
  have i0:=J4 0 (by decide) (by decide)
  obtain ⟨R1,hR1⟩:∃R1:List H6,R1=z6 t kind k++(if z7 t.ev x.src=0 then [] else [D7 t.ev k x])++O7 (N3 t.ev x) k:=⟨_,rfl⟩
  have l5:(z6 t kind k).length+1=(z6 t kind k++[D7 t.ev k x]).length:=by simp
  have r5:List.take (z6 t kind k).length (toC ((z6 t kind k).map E1))++toC [E1 (D7 t.ev k x)]=toC ((z6 t kind k++[D7 t.ev k x]).map E1):=aq2 rfl
  have b5:(z6 t kind k++[D7 t.ev k x]).length<=1000000:=by simp;omega
  have b3:(z6 t kind k).length<=1000000:=by omega
  obtain ⟨G,hG⟩:∃G:Nat->List H6,∀j,G j=R1++((j8 t.finds kind k).take j).map (fun g:Int=>A0 k 0 (g:Rat)):=⟨_,fun _=>rfl⟩
  obtain ⟨K,hK⟩:∃K:Nat->List H6,∀j,K j=(R1++(j8 t.finds kind k).map (fun g:Int=>A0 k 0 (g:Rat)))++List.replicate j (A0 k 2 ((0:Int):Rat)):=⟨_,fun _=>rfl⟩
  have hG0:G 0=R1:=by rw [hG];simp
  have hK0:K 0=R1++(j8 t.finds kind k).map (fun g:Int=>A0 k 0 (g:Rat)):=by rw [hK];simp
  have hKe:z6 t kind (k+1)=K (n9 t.cleans kind k):=by
   rw [hK,hR1]
   show (match t.ev.moves[k]? with|none=>z6 t kind k|some x=>z6 t kind k++M6 t kind k x)=_
   rw [hx]
   unfold M6
   simp [lbE]
  have hKs:toC ((K (n9 t.cleans kind k)).map E1)=toC ((z6 t kind (k+1)).map E1)∧(K (n9 t.cleans kind k)).length=(z6 t kind (k+1)).length:=by rw [hKe];exact ⟨rfl,rfl⟩
  have hgr:∀g ∈ j8 t.finds kind k,1<=g∧g<=1099511627776:=fun g hg=>by
   unfold j8 at hg
   obtain ⟨f,hf,rfl⟩:=lby.1 hg
   have:=P3 q4 f (lbz.1 hf).1
   omega
  have hcr:O7 (N3 t.ev x) k=if (N3 t.ev x).isSome then [A0 k 1 (hiR (N3 t.ev x))] else []:=by cases N3 t.ev x<;>rfl
  cases hc:(N3 t.ev x).isSome<;>cases hb:decide (z7 t.ev x.src=0)<;>rw [hb] at bn
  ·have hci:(a0d t.ev k).isSome=false:=by rw [iv];exact hc
   rw [hc] at hcr
   have hcr:O7 (N3 t.ev x) k=[]:=hcr
   have eR:R1=z6 t kind k++[D7 t.ev k x]:=by rw [hR1,hcr];simp only [lbL,lbJ] at hb;simp [hb,lbE]
   have hRl:R1.length<=14500:=by rw [eR];(try simp);omega
   conv=>whnf
   repeat' (first|refine zx ?_|refine qp bn ?_|refine qp st ?_|refine qp toC ?_|refine qp toC ?_|refine g6 gk ?_|refine E4 (by simp [toC]) (by simp [toC];omega) ?_|refine zd ?_ ?_<;>intro h<;>try omega|fail)<;>conv=>whnf
   all_goals try omega
   all_goals try (rw [hci] at h;exact absurd h (by decide))
   refine j5 e8 (fun j=>([J,J,J,J,S.c (C.ptr 0 0 0),J,S.c (C.ptr 1 0 0),S.c (C.ptr 2 0 0),S.c (C.fn (Fn.func a7i) [C.ptr 2 0 0]),b7 .i64 k,S.c (C.ptr 4 0 0)]++Jn 23++[S.c (C.t (a1C t kind)),b7 .i64 t.ev.moves.length,b7 .i64 k]++Jn 24++[S.c (C.t (E5 (j8 t.finds kind k))),b7 .i64 (j8 t.finds kind k).length,b7 .i64 j]++Jn 20,[a6W,evB t.ev,a3y t.ev.moves.length 3 (G j).length,U6 (G j),aw7 t kind k])) (j8 t.finds kind k).length (fun _=>True) [some 0,some 1,some 2,some 5,some 4] trivial ⟨rfl,rfl,⟨⟨rfl,rfl,rfl,.inr ⟨⟨rfl,rfl,trivial⟩,trivial⟩⟩,⟨rfl,rfl,rfl,.inl ⟨rfl,n8 _⟩⟩,⟨rfl,rfl,rfl,.inr ⟨⟨rfl,⟨rfl,rfl,?_,fun h=>h⟩,trivial⟩,trivial⟩⟩,b8 rfl rfl rfl ?_ rfl,⟨rfl,rfl,rfl,.inr (T6 [T8 t kind k])⟩,trivial⟩,⟨⟨rfl,rfl,rfl⟩,⟨rfl,rfl,rfl⟩,⟨rfl,rfl,rfl⟩,⟨rfl,⟨rfl,rfl,rfl⟩,trivial⟩,rfl,⟨rfl,rfl,rfl⟩,rfl,rfl,rfl,rfl,g9 (by simp),rfl,trivial⟩⟩ ?_
   ·simp [hG0,eR,toC]
   ·rw [hG0,eR];exact r5
   intro j hj _
   have hGl:(G j).length<=1000000:=by rw [hG];simp [lbq];omega
   by_cases hjt:j<(j8 t.finds kind k).length
   ·obtain ⟨g,hg⟩:∃g,(j8 t.finds kind k)[j]? =some g:=⟨_,lbf hjt⟩
    have gb:=hgr g (lbm hg)
    have ig:=J4 g (by omega) (by omega)
    have eG:G (j+1)=G j++[A0 k 0 (g:Rat)]:=by rw [hG,hG,lbH,hg];simp
    conv=>whnf
    repeat' (first|refine zx ?_|refine qp ig ?_|refine g6 hg ?_|refine .inr ⟨_,_,a0I (id:=3) rfl rfl rfl rfl rfl (by decide) hGl _ _,?_⟩|refine zd ?_ ?_<;>intro h<;>try omega|fail)<;>conv=>whnf
    all_goals try omega
    refine ⟨hjt,trivial,[some 0,some 1,some 2,some 5,some 4],rfl,rfl,⟨⟨rfl,rfl,rfl,.inr ⟨⟨rfl,rfl,trivial⟩,trivial⟩⟩,⟨rfl,rfl,rfl,.inl ⟨rfl,n8 _⟩⟩,⟨rfl,rfl,rfl,.inr ⟨⟨rfl,⟨rfl,rfl,?_,fun h=>h⟩,trivial⟩,trivial⟩⟩,b8 rfl rfl rfl ?_ rfl,⟨rfl,rfl,rfl,.inr (T6 [T8 t kind k])⟩,trivial⟩,⟨⟨rfl,rfl,rfl⟩,⟨rfl,rfl,rfl⟩,⟨rfl,rfl,rfl⟩,⟨rfl,⟨rfl,rfl,rfl⟩,trivial⟩,rfl,⟨rfl,rfl,rfl⟩,rfl,rfl,rfl,rfl,rfl,rfl,trivial⟩⟩
    ·rw [eG];simp
    ·rw [eG]
   have hje:j=(j8 t.finds kind k).length:=by omega
   subst hje
   have hGe:G (j8 t.finds kind k).length=R1++(j8 t.finds kind k).map (fun g:Int=>A0 k 0 (g:Rat)):=by rw [hG,lbn (lbR _)]
   conv=>whnf
   repeat' (first|refine zx ?_|refine zd ?_ ?_<;>intro h<;>try omega|fail)<;>conv=>whnf
   all_goals try omega
   refine j5 e8 (fun j=>([J,J,J,J,S.c (C.ptr 0 0 0),J,S.c (C.ptr 1 0 0),S.c (C.ptr 2 0 0),S.c (C.fn (Fn.func a7i) [C.ptr 2 0 0]),b7 .i64 k]++Jn 24++[S.c (C.t (a1C t kind)),b7 .i64 t.ev.moves.length,b7 .i64 k]++Jn 37++[b7 .i64 (n9 t.cleans kind k),b7 .i64 j]++Jn 8,[a6W,evB t.ev,a3y t.ev.moves.length 3 (K j).length,U6 (K j)])) (n9 t.cleans kind k) (fun _=>True) [some 0,some 1,some 2,some 3] trivial ⟨rfl,rfl,⟨⟨rfl,rfl,rfl,.inr ⟨⟨rfl,rfl,trivial⟩,trivial⟩⟩,⟨rfl,rfl,rfl,.inl ⟨rfl,n8 _⟩⟩,⟨rfl,rfl,rfl,.inr ⟨⟨rfl,⟨rfl,rfl,?_,fun h=>h⟩,trivial⟩,trivial⟩⟩,b8 rfl rfl rfl ?_ rfl,trivial⟩,⟨⟨rfl,rfl,rfl⟩,⟨rfl,rfl,rfl⟩,⟨rfl,rfl,rfl⟩,⟨rfl,⟨rfl,rfl,rfl⟩,trivial⟩,rfl,rfl,rfl,rfl,rfl,rfl,trivial⟩⟩ ?_
   ·rw [hK0,hGe]
   ·rw [hK0,hGe]
   clear hj hjt
   intro j hj _
   have hKl:(K j).length<=1000000:=by rw [hK];simp [lbq];omega
   by_cases hjt:j<n9 t.cleans kind k
   ·have eK:K (j+1)=K j++[A0 k 2 ((0:Int):Rat)]:=by rw [hK,hK,List.replicate_succ'];simp
    conv=>whnf
    repeat' (first|refine zx ?_|refine qp i0 ?_|refine .inr ⟨_,_,a0I (id:=3) rfl rfl rfl rfl rfl (by decide) hKl _ _,?_⟩|refine zd ?_ ?_<;>intro h<;>try omega|fail)<;>conv=>whnf
    all_goals try omega
    refine ⟨hjt,trivial,[some 0,some 1,some 2,some 4],rfl,rfl,⟨⟨rfl,rfl,rfl,.inr ⟨⟨rfl,rfl,trivial⟩,trivial⟩⟩,⟨rfl,rfl,rfl,.inl ⟨rfl,n8 _⟩⟩,⟨rfl,rfl,rfl,.inr ⟨⟨rfl,⟨rfl,rfl,?_,fun h=>h⟩,trivial⟩,trivial⟩⟩,b8 rfl rfl rfl ?_ rfl,trivial⟩,⟨⟨rfl,rfl,rfl⟩,⟨rfl,rfl,rfl⟩,⟨rfl,rfl,rfl⟩,⟨rfl,⟨rfl,rfl,rfl⟩,trivial⟩,rfl,rfl,rfl,rfl,rfl,rfl,trivial⟩⟩
    ·rw [eK];simp
    ·rw [eK]
   have hje:j=n9 t.cleans kind k:=by omega
   subst hje
   conv=>whnf
   repeat' (first|refine zx ?_|refine zd ?_ ?_<;>intro h<;>try omega|fail)<;>conv=>whnf
   all_goals try omega
   exact ⟨hlt,trivial,[some 0,some 1,some 2,some 3],rfl,rfl,⟨⟨rfl,rfl,rfl,.inr ⟨⟨rfl,rfl,trivial⟩,trivial⟩⟩,⟨rfl,rfl,rfl,.inl ⟨rfl,n8 _⟩⟩,⟨rfl,rfl,rfl,.inr ⟨⟨rfl,⟨rfl,rfl,hKs.2,fun h=>h⟩,trivial⟩,trivial⟩⟩,b8 rfl rfl rfl hKs.1 rfl,trivial⟩,⟨⟨rfl,rfl,rfl⟩,⟨rfl,rfl,rfl⟩,⟨rfl,rfl,rfl⟩,⟨rfl,⟨rfl,rfl,rfl⟩,trivial⟩,rfl,rfl,rfl,trivial⟩⟩
  ·have hci:(a0d t.ev k).isSome=false:=by rw [iv];exact hc
   rw [hc] at hcr
   have hcr:O7 (N3 t.ev x) k=[]:=hcr
   have eR:R1=z6 t kind k:=by rw [hR1,hcr];simp only [lbL,lbJ] at hb;simp [hb,lbE]
   have hRl:R1.length<=14500:=by rw [eR];(try simp);omega
   conv=>whnf
   repeat' (first|refine zx ?_|refine qp bn ?_|refine qp st ?_|refine qp toC ?_|refine qp toC ?_|refine g6 gk ?_|refine E4 (by simp [toC]) (by simp [toC];omega) ?_|refine zd ?_ ?_<;>intro h<;>try omega|fail)<;>conv=>whnf
   all_goals try omega
   all_goals try (rw [hci] at h;exact absurd h (by decide))
   refine j5 e8 (fun j=>([J,J,J,J,S.c (C.ptr 0 0 0),J,S.c (C.ptr 1 0 0),S.c (C.ptr 2 0 0),S.c (C.fn (Fn.func a7i) [C.ptr 2 0 0]),b7 .i64 k,S.c (C.ptr 4 0 0)]++Jn 23++[S.c (C.t (a1C t kind)),b7 .i64 t.ev.moves.length,b7 .i64 k]++Jn 24++[S.c (C.t (E5 (j8 t.finds kind k))),b7 .i64 (j8 t.finds kind k).length,b7 .i64 j]++Jn 20,[a6W,evB t.ev,a3y t.ev.moves.length 3 (G j).length,U6 (G j),aw7 t kind k])) (j8 t.finds kind k).length (fun _=>True) [some 0,some 1,some 2,some 3,some 4] trivial ⟨rfl,rfl,⟨⟨rfl,rfl,rfl,.inr ⟨⟨rfl,rfl,trivial⟩,trivial⟩⟩,⟨rfl,rfl,rfl,.inl ⟨rfl,n8 _⟩⟩,⟨rfl,rfl,rfl,.inr ⟨⟨rfl,⟨rfl,rfl,?_,fun h=>h⟩,trivial⟩,trivial⟩⟩,b8 rfl rfl rfl ?_ rfl,⟨rfl,rfl,rfl,.inr (T6 [T8 t kind k])⟩,trivial⟩,⟨⟨rfl,rfl,rfl⟩,⟨rfl,rfl,rfl⟩,⟨rfl,rfl,rfl⟩,⟨rfl,⟨rfl,rfl,rfl⟩,trivial⟩,rfl,⟨rfl,rfl,rfl⟩,rfl,rfl,rfl,rfl,g9 (by simp),rfl,trivial⟩⟩ ?_
   ·simp [hG0,eR,toC]
   ·rw [hG0,eR]<;>rfl
   intro j hj _
   have hGl:(G j).length<=1000000:=by rw [hG];simp [lbq];omega
   by_cases hjt:j<(j8 t.finds kind k).length
   ·obtain ⟨g,hg⟩:∃g,(j8 t.finds kind k)[j]? =some g:=⟨_,lbf hjt⟩
    have gb:=hgr g (lbm hg)
    have ig:=J4 g (by omega) (by omega)
    have eG:G (j+1)=G j++[A0 k 0 (g:Rat)]:=by rw [hG,hG,lbH,hg];simp
    conv=>whnf
    repeat' (first|refine zx ?_|refine qp ig ?_|refine g6 hg ?_|refine .inr ⟨_,_,a0I (id:=3) rfl rfl rfl rfl rfl (by decide) hGl _ _,?_⟩|refine zd ?_ ?_<;>intro h<;>try omega|fail)<;>conv=>whnf
    all_goals try omega
    refine ⟨hjt,trivial,[some 0,some 1,some 2,some 5,some 4],rfl,rfl,⟨⟨rfl,rfl,rfl,.inr ⟨⟨rfl,rfl,trivial⟩,trivial⟩⟩,⟨rfl,rfl,rfl,.inl ⟨rfl,n8 _⟩⟩,⟨rfl,rfl,rfl,.inr ⟨⟨rfl,⟨rfl,rfl,?_,fun h=>h⟩,trivial⟩,trivial⟩⟩,b8 rfl rfl rfl ?_ rfl,⟨rfl,rfl,rfl,.inr (T6 [T8 t kind k])⟩,trivial⟩,⟨⟨rfl,rfl,rfl⟩,⟨rfl,rfl,rfl⟩,⟨rfl,rfl,rfl⟩,⟨rfl,⟨rfl,rfl,rfl⟩,trivial⟩,rfl,⟨rfl,rfl,rfl⟩,rfl,rfl,rfl,rfl,rfl,rfl,trivial⟩⟩
    ·rw [eG];simp
    ·rw [eG]
   have hje:j=(j8 t.finds kind k).length:=by omega
   subst hje
   have hGe:G (j8 t.finds kind k).length=R1++(j8 t.finds kind k).map (fun g:Int=>A0 k 0 (g:Rat)):=by rw [hG,lbn (lbR _)]
   conv=>whnf
   repeat' (first|refine zx ?_|refine zd ?_ ?_<;>intro h<;>try omega|fail)<;>conv=>whnf
   all_goals try omega
   refine j5 e8 (fun j=>([J,J,J,J,S.c (C.ptr 0 0 0),J,S.c (C.ptr 1 0 0),S.c (C.ptr 2 0 0),S.c (C.fn (Fn.func a7i) [C.ptr 2 0 0]),b7 .i64 k]++Jn 24++[S.c (C.t (a1C t kind)),b7 .i64 t.ev.moves.length,b7 .i64 k]++Jn 37++[b7 .i64 (n9 t.cleans kind k),b7 .i64 j]++Jn 8,[a6W,evB t.ev,a3y t.ev.moves.length 3 (K j).length,U6 (K j)])) (n9 t.cleans kind k) (fun _=>True) [some 0,some 1,some 2,some 3] trivial ⟨rfl,rfl,⟨⟨rfl,rfl,rfl,.inr ⟨⟨rfl,rfl,trivial⟩,trivial⟩⟩,⟨rfl,rfl,rfl,.inl ⟨rfl,n8 _⟩⟩,⟨rfl,rfl,rfl,.inr ⟨⟨rfl,⟨rfl,rfl,?_,fun h=>h⟩,trivial⟩,trivial⟩⟩,b8 rfl rfl rfl ?_ rfl,trivial⟩,⟨⟨rfl,rfl,rfl⟩,⟨rfl,rfl,rfl⟩,⟨rfl,rfl,rfl⟩,⟨rfl,⟨rfl,rfl,rfl⟩,trivial⟩,rfl,rfl,rfl,rfl,rfl,rfl,trivial⟩⟩ ?_
   ·rw [hK0,hGe]
   ·rw [hK0,hGe]
   clear hj hjt
   intro j hj _
   have hKl:(K j).length<=1000000:=by rw [hK];simp [lbq];omega
   by_cases hjt:j<n9 t.cleans kind k
   ·have eK:K (j+1)=K j++[A0 k 2 ((0:Int):Rat)]:=by rw [hK,hK,List.replicate_succ'];simp
    conv=>whnf
    repeat' (first|refine zx ?_|refine qp i0 ?_|refine .inr ⟨_,_,a0I (id:=3) rfl rfl rfl rfl rfl (by decide) hKl _ _,?_⟩|refine zd ?_ ?_<;>intro h<;>try omega|fail)<;>conv=>whnf
    all_goals try omega
    refine ⟨hjt,trivial,[some 0,some 1,some 2,some 4],rfl,rfl,⟨⟨rfl,rfl,rfl,.inr ⟨⟨rfl,rfl,trivial⟩,trivial⟩⟩,⟨rfl,rfl,rfl,.inl ⟨rfl,n8 _⟩⟩,⟨rfl,rfl,rfl,.inr ⟨⟨rfl,⟨rfl,rfl,?_,fun h=>h⟩,trivial⟩,trivial⟩⟩,b8 rfl rfl rfl ?_ rfl,trivial⟩,⟨⟨rfl,rfl,rfl⟩,⟨rfl,rfl,rfl⟩,⟨rfl,rfl,rfl⟩,⟨rfl,⟨rfl,rfl,rfl⟩,trivial⟩,rfl,rfl,rfl,rfl,rfl,rfl,trivial⟩⟩
    ·rw [eK];simp
    ·rw [eK]
   have hje:j=n9 t.cleans kind k:=by omega
   subst hje
   conv=>whnf
   repeat' (first|refine zx ?_|refine zd ?_ ?_<;>intro h<;>try omega|fail)<;>conv=>whnf
   all_goals try omega
   exact ⟨hlt,trivial,[some 0,some 1,some 2,some 3],rfl,rfl,⟨⟨rfl,rfl,rfl,.inr ⟨⟨rfl,rfl,trivial⟩,trivial⟩⟩,⟨rfl,rfl,rfl,.inl ⟨rfl,n8 _⟩⟩,⟨rfl,rfl,rfl,.inr ⟨⟨rfl,⟨rfl,rfl,hKs.2,fun h=>h⟩,trivial⟩,trivial⟩⟩,b8 rfl rfl rfl hKs.1 rfl,trivial⟩,⟨⟨rfl,rfl,rfl⟩,⟨rfl,rfl,rfl⟩,⟨rfl,rfl,rfl⟩,⟨rfl,⟨rfl,rfl,rfl⟩,trivial⟩,rfl,rfl,rfl,trivial⟩⟩
  ·have hci:(a0d t.ev k).isSome=true:=by rw [iv];exact hc
   rw [hc] at hcr
   have hcr:O7 (N3 t.ev x) k=[A0 k 1 (hiR (N3 t.ev x))]:=hcr
   have eR:R1=(z6 t kind k++[D7 t.ev k x])++[A0 k 1 (hiR (N3 t.ev x))]:=by rw [hR1,hcr];simp only [lbL,lbJ] at hb;simp [hb,lbE]
   have hRl:R1.length<=14500:=by rw [eR];(try simp);omega
   have hfv:hiF (a0d t.ev k)=fz (hiR (N3 t.ev x)):=by rw [iv];exact (a6t hc).1
   conv=>whnf
   repeat' (first|refine zx ?_|refine qp bn ?_|refine qp st ?_|refine qp toC ?_|refine qp toC ?_|refine g6 gk ?_|refine E4 (by simp [toC]) (by simp [toC];omega) ?_|refine .inr ⟨_,_,a0I (id:=5) hfv rfl rfl l5 r5 (by decide) b5 _ _,?_⟩|refine zd ?_ ?_<;>intro h<;>try omega|fail)<;>conv=>whnf
   all_goals try omega
   all_goals try (rw [hci] at h;exact absurd h (by decide))
   refine j5 e8 (fun j=>([J,J,J,J,S.c (C.ptr 0 0 0),J,S.c (C.ptr 1 0 0),S.c (C.ptr 2 0 0),S.c (C.fn (Fn.func a7i) [C.ptr 2 0 0]),b7 .i64 k,S.c (C.ptr 4 0 0)]++Jn 23++[S.c (C.t (a1C t kind)),b7 .i64 t.ev.moves.length,b7 .i64 k]++Jn 24++[S.c (C.t (E5 (j8 t.finds kind k))),b7 .i64 (j8 t.finds kind k).length,b7 .i64 j]++Jn 20,[a6W,evB t.ev,a3y t.ev.moves.length 3 (G j).length,U6 (G j),aw7 t kind k])) (j8 t.finds kind k).length (fun _=>True) [some 0,some 1,some 2,some 6,some 4] trivial ⟨rfl,rfl,⟨⟨rfl,rfl,rfl,.inr ⟨⟨rfl,rfl,trivial⟩,trivial⟩⟩,⟨rfl,rfl,rfl,.inl ⟨rfl,n8 _⟩⟩,⟨rfl,rfl,rfl,.inr ⟨⟨rfl,⟨rfl,rfl,?_,fun h=>h⟩,trivial⟩,trivial⟩⟩,b8 rfl rfl rfl ?_ rfl,⟨rfl,rfl,rfl,.inr (T6 [T8 t kind k])⟩,trivial⟩,⟨⟨rfl,rfl,rfl⟩,⟨rfl,rfl,rfl⟩,⟨rfl,rfl,rfl⟩,⟨rfl,⟨rfl,rfl,rfl⟩,trivial⟩,rfl,⟨rfl,rfl,rfl⟩,rfl,rfl,rfl,rfl,g9 (by simp),rfl,trivial⟩⟩ ?_
   ·simp [hG0,eR,toC]
   ·rw [hG0,eR]<;>rfl
   intro j hj _
   have hGl:(G j).length<=1000000:=by rw [hG];simp [lbq];omega
   by_cases hjt:j<(j8 t.finds kind k).length
   ·obtain ⟨g,hg⟩:∃g,(j8 t.finds kind k)[j]? =some g:=⟨_,lbf hjt⟩
    have gb:=hgr g (lbm hg)
    have ig:=J4 g (by omega) (by omega)
    have eG:G (j+1)=G j++[A0 k 0 (g:Rat)]:=by rw [hG,hG,lbH,hg];simp
    conv=>whnf
    repeat' (first|refine zx ?_|refine qp ig ?_|refine g6 hg ?_|refine .inr ⟨_,_,a0I (id:=3) rfl rfl rfl rfl rfl (by decide) hGl _ _,?_⟩|refine zd ?_ ?_<;>intro h<;>try omega|fail)<;>conv=>whnf
    all_goals try omega
    refine ⟨hjt,trivial,[some 0,some 1,some 2,some 5,some 4],rfl,rfl,⟨⟨rfl,rfl,rfl,.inr ⟨⟨rfl,rfl,trivial⟩,trivial⟩⟩,⟨rfl,rfl,rfl,.inl ⟨rfl,n8 _⟩⟩,⟨rfl,rfl,rfl,.inr ⟨⟨rfl,⟨rfl,rfl,?_,fun h=>h⟩,trivial⟩,trivial⟩⟩,b8 rfl rfl rfl ?_ rfl,⟨rfl,rfl,rfl,.inr (T6 [T8 t kind k])⟩,trivial⟩,⟨⟨rfl,rfl,rfl⟩,⟨rfl,rfl,rfl⟩,⟨rfl,rfl,rfl⟩,⟨rfl,⟨rfl,rfl,rfl⟩,trivial⟩,rfl,⟨rfl,rfl,rfl⟩,rfl,rfl,rfl,rfl,rfl,rfl,trivial⟩⟩
    ·rw [eG];simp
    ·rw [eG]
   have hje:j=(j8 t.finds kind k).length:=by omega
   subst hje
   have hGe:G (j8 t.finds kind k).length=R1++(j8 t.finds kind k).map (fun g:Int=>A0 k 0 (g:Rat)):=by rw [hG,lbn (lbR _)]
   conv=>whnf
   repeat' (first|refine zx ?_|refine zd ?_ ?_<;>intro h<;>try omega|fail)<;>conv=>whnf
   all_goals try omega
   refine j5 e8 (fun j=>([J,J,J,J,S.c (C.ptr 0 0 0),J,S.c (C.ptr 1 0 0),S.c (C.ptr 2 0 0),S.c (C.fn (Fn.func a7i) [C.ptr 2 0 0]),b7 .i64 k]++Jn 24++[S.c (C.t (a1C t kind)),b7 .i64 t.ev.moves.length,b7 .i64 k]++Jn 37++[b7 .i64 (n9 t.cleans kind k),b7 .i64 j]++Jn 8,[a6W,evB t.ev,a3y t.ev.moves.length 3 (K j).length,U6 (K j)])) (n9 t.cleans kind k) (fun _=>True) [some 0,some 1,some 2,some 3] trivial ⟨rfl,rfl,⟨⟨rfl,rfl,rfl,.inr ⟨⟨rfl,rfl,trivial⟩,trivial⟩⟩,⟨rfl,rfl,rfl,.inl ⟨rfl,n8 _⟩⟩,⟨rfl,rfl,rfl,.inr ⟨⟨rfl,⟨rfl,rfl,?_,fun h=>h⟩,trivial⟩,trivial⟩⟩,b8 rfl rfl rfl ?_ rfl,trivial⟩,⟨⟨rfl,rfl,rfl⟩,⟨rfl,rfl,rfl⟩,⟨rfl,rfl,rfl⟩,⟨rfl,⟨rfl,rfl,rfl⟩,trivial⟩,rfl,rfl,rfl,rfl,rfl,rfl,trivial⟩⟩ ?_
   ·rw [hK0,hGe]
   ·rw [hK0,hGe]
   clear hj hjt
   intro j hj _
   have hKl:(K j).length<=1000000:=by rw [hK];simp [lbq];omega
   by_cases hjt:j<n9 t.cleans kind k
   ·have eK:K (j+1)=K j++[A0 k 2 ((0:Int):Rat)]:=by rw [hK,hK,List.replicate_succ'];simp
    conv=>whnf
    repeat' (first|refine zx ?_|refine qp i0 ?_|refine .inr ⟨_,_,a0I (id:=3) rfl rfl rfl rfl rfl (by decide) hKl _ _,?_⟩|refine zd ?_ ?_<;>intro h<;>try omega|fail)<;>conv=>whnf
    all_goals try omega
    refine ⟨hjt,trivial,[some 0,some 1,some 2,some 4],rfl,rfl,⟨⟨rfl,rfl,rfl,.inr ⟨⟨rfl,rfl,trivial⟩,trivial⟩⟩,⟨rfl,rfl,rfl,.inl ⟨rfl,n8 _⟩⟩,⟨rfl,rfl,rfl,.inr ⟨⟨rfl,⟨rfl,rfl,?_,fun h=>h⟩,trivial⟩,trivial⟩⟩,b8 rfl rfl rfl ?_ rfl,trivial⟩,⟨⟨rfl,rfl,rfl⟩,⟨rfl,rfl,rfl⟩,⟨rfl,rfl,rfl⟩,⟨rfl,⟨rfl,rfl,rfl⟩,trivial⟩,rfl,rfl,rfl,rfl,rfl,rfl,trivial⟩⟩
    ·rw [eK];simp
    ·rw [eK]
   have hje:j=n9 t.cleans kind k:=by omega
   subst hje
   conv=>whnf
   repeat' (first|refine zx ?_|refine zd ?_ ?_<;>intro h<;>try omega|fail)<;>conv=>whnf
   all_goals try omega
   exact ⟨hlt,trivial,[some 0,some 1,some 2,some 3],rfl,rfl,⟨⟨rfl,rfl,rfl,.inr ⟨⟨rfl,rfl,trivial⟩,trivial⟩⟩,⟨rfl,rfl,rfl,.inl ⟨rfl,n8 _⟩⟩,⟨rfl,rfl,rfl,.inr ⟨⟨rfl,⟨rfl,rfl,hKs.2,fun h=>h⟩,trivial⟩,trivial⟩⟩,b8 rfl rfl rfl hKs.1 rfl,trivial⟩,⟨⟨rfl,rfl,rfl⟩,⟨rfl,rfl,rfl⟩,⟨rfl,rfl,rfl⟩,⟨rfl,⟨rfl,rfl,rfl⟩,trivial⟩,rfl,rfl,rfl,trivial⟩⟩
  ·have hci:(a0d t.ev k).isSome=true:=by rw [iv];exact hc
   rw [hc] at hcr
   have hcr:O7 (N3 t.ev x) k=[A0 k 1 (hiR (N3 t.ev x))]:=hcr
   have eR:R1=z6 t kind k++[A0 k 1 (hiR (N3 t.ev x))]:=by rw [hR1,hcr];simp only [lbL,lbJ] at hb;simp [hb,lbE]
   have hRl:R1.length<=14500:=by rw [eR];(try simp);omega
   have hfv:hiF (a0d t.ev k)=fz (hiR (N3 t.ev x)):=by rw [iv];exact (a6t hc).1
   conv=>whnf
   repeat' (first|refine zx ?_|refine qp bn ?_|refine qp st ?_|refine qp toC ?_|refine qp toC ?_|refine g6 gk ?_|refine E4 (by simp [toC]) (by simp [toC];omega) ?_|refine .inr ⟨_,_,a0I (id:=3) hfv rfl rfl rfl rfl (by decide) b3 _ _,?_⟩|refine zd ?_ ?_<;>intro h<;>try omega|fail)<;>conv=>whnf
   all_goals try omega
   all_goals try (rw [hci] at h;exact absurd h (by decide))
   refine j5 e8 (fun j=>([J,J,J,J,S.c (C.ptr 0 0 0),J,S.c (C.ptr 1 0 0),S.c (C.ptr 2 0 0),S.c (C.fn (Fn.func a7i) [C.ptr 2 0 0]),b7 .i64 k,S.c (C.ptr 4 0 0)]++Jn 23++[S.c (C.t (a1C t kind)),b7 .i64 t.ev.moves.length,b7 .i64 k]++Jn 24++[S.c (C.t (E5 (j8 t.finds kind k))),b7 .i64 (j8 t.finds kind k).length,b7 .i64 j]++Jn 20,[a6W,evB t.ev,a3y t.ev.moves.length 3 (G j).length,U6 (G j),aw7 t kind k])) (j8 t.finds kind k).length (fun _=>True) [some 0,some 1,some 2,some 5,some 4] trivial ⟨rfl,rfl,⟨⟨rfl,rfl,rfl,.inr ⟨⟨rfl,rfl,trivial⟩,trivial⟩⟩,⟨rfl,rfl,rfl,.inl ⟨rfl,n8 _⟩⟩,⟨rfl,rfl,rfl,.inr ⟨⟨rfl,⟨rfl,rfl,?_,fun h=>h⟩,trivial⟩,trivial⟩⟩,b8 rfl rfl rfl ?_ rfl,⟨rfl,rfl,rfl,.inr (T6 [T8 t kind k])⟩,trivial⟩,⟨⟨rfl,rfl,rfl⟩,⟨rfl,rfl,rfl⟩,⟨rfl,rfl,rfl⟩,⟨rfl,⟨rfl,rfl,rfl⟩,trivial⟩,rfl,⟨rfl,rfl,rfl⟩,rfl,rfl,rfl,rfl,g9 (by simp),rfl,trivial⟩⟩ ?_
   ·simp [hG0,eR,toC]
   ·rw [hG0,eR]<;>rfl
   intro j hj _
   have hGl:(G j).length<=1000000:=by rw [hG];simp [lbq];omega
   by_cases hjt:j<(j8 t.finds kind k).length
   ·obtain ⟨g,hg⟩:∃g,(j8 t.finds kind k)[j]? =some g:=⟨_,lbf hjt⟩
    have gb:=hgr g (lbm hg)
    have ig:=J4 g (by omega) (by omega)
    have eG:G (j+1)=G j++[A0 k 0 (g:Rat)]:=by rw [hG,hG,lbH,hg];simp
    conv=>whnf
    repeat' (first|refine zx ?_|refine qp ig ?_|refine g6 hg ?_|refine .inr ⟨_,_,a0I (id:=3) rfl rfl rfl rfl rfl (by decide) hGl _ _,?_⟩|refine zd ?_ ?_<;>intro h<;>try omega|fail)<;>conv=>whnf
    all_goals try omega
    refine ⟨hjt,trivial,[some 0,some 1,some 2,some 5,some 4],rfl,rfl,⟨⟨rfl,rfl,rfl,.inr ⟨⟨rfl,rfl,trivial⟩,trivial⟩⟩,⟨rfl,rfl,rfl,.inl ⟨rfl,n8 _⟩⟩,⟨rfl,rfl,rfl,.inr ⟨⟨rfl,⟨rfl,rfl,?_,fun h=>h⟩,trivial⟩,trivial⟩⟩,b8 rfl rfl rfl ?_ rfl,⟨rfl,rfl,rfl,.inr (T6 [T8 t kind k])⟩,trivial⟩,⟨⟨rfl,rfl,rfl⟩,⟨rfl,rfl,rfl⟩,⟨rfl,rfl,rfl⟩,⟨rfl,⟨rfl,rfl,rfl⟩,trivial⟩,rfl,⟨rfl,rfl,rfl⟩,rfl,rfl,rfl,rfl,rfl,rfl,trivial⟩⟩
    ·rw [eG];simp
    ·rw [eG]
   have hje:j=(j8 t.finds kind k).length:=by omega
   subst hje
   have hGe:G (j8 t.finds kind k).length=R1++(j8 t.finds kind k).map (fun g:Int=>A0 k 0 (g:Rat)):=by rw [hG,lbn (lbR _)]
   conv=>whnf
   repeat' (first|refine zx ?_|refine zd ?_ ?_<;>intro h<;>try omega|fail)<;>conv=>whnf
   all_goals try omega
   refine j5 e8 (fun j=>([J,J,J,J,S.c (C.ptr 0 0 0),J,S.c (C.ptr 1 0 0),S.c (C.ptr 2 0 0),S.c (C.fn (Fn.func a7i) [C.ptr 2 0 0]),b7 .i64 k]++Jn 24++[S.c (C.t (a1C t kind)),b7 .i64 t.ev.moves.length,b7 .i64 k]++Jn 37++[b7 .i64 (n9 t.cleans kind k),b7 .i64 j]++Jn 8,[a6W,evB t.ev,a3y t.ev.moves.length 3 (K j).length,U6 (K j)])) (n9 t.cleans kind k) (fun _=>True) [some 0,some 1,some 2,some 3] trivial ⟨rfl,rfl,⟨⟨rfl,rfl,rfl,.inr ⟨⟨rfl,rfl,trivial⟩,trivial⟩⟩,⟨rfl,rfl,rfl,.inl ⟨rfl,n8 _⟩⟩,⟨rfl,rfl,rfl,.inr ⟨⟨rfl,⟨rfl,rfl,?_,fun h=>h⟩,trivial⟩,trivial⟩⟩,b8 rfl rfl rfl ?_ rfl,trivial⟩,⟨⟨rfl,rfl,rfl⟩,⟨rfl,rfl,rfl⟩,⟨rfl,rfl,rfl⟩,⟨rfl,⟨rfl,rfl,rfl⟩,trivial⟩,rfl,rfl,rfl,rfl,rfl,rfl,trivial⟩⟩ ?_
   ·rw [hK0,hGe]
   ·rw [hK0,hGe]
   clear hj hjt
   intro j hj _
   have hKl:(K j).length<=1000000:=by rw [hK];simp [lbq];omega
   by_cases hjt:j<n9 t.cleans kind k
   ·have eK:K (j+1)=K j++[A0 k 2 ((0:Int):Rat)]:=by rw [hK,hK,List.replicate_succ'];simp
    conv=>whnf
    repeat' (first|refine zx ?_|refine qp i0 ?_|refine .inr ⟨_,_,a0I (id:=3) rfl rfl rfl rfl rfl (by decide) hKl _ _,?_⟩|refine zd ?_ ?_<;>intro h<;>try omega|fail)<;>conv=>whnf
    all_goals try omega
    refine ⟨hjt,trivial,[some 0,some 1,some 2,some 4],rfl,rfl,⟨⟨rfl,rfl,rfl,.inr ⟨⟨rfl,rfl,trivial⟩,trivial⟩⟩,⟨rfl,rfl,rfl,.inl ⟨rfl,n8 _⟩⟩,⟨rfl,rfl,rfl,.inr ⟨⟨rfl,⟨rfl,rfl,?_,fun h=>h⟩,trivial⟩,trivial⟩⟩,b8 rfl rfl rfl ?_ rfl,trivial⟩,⟨⟨rfl,rfl,rfl⟩,⟨rfl,rfl,rfl⟩,⟨rfl,rfl,rfl⟩,⟨rfl,⟨rfl,rfl,rfl⟩,trivial⟩,rfl,rfl,rfl,rfl,rfl,rfl,trivial⟩⟩
    ·rw [eK];simp
    ·rw [eK]
   have hje:j=n9 t.cleans kind k:=by omega
   subst hje
   conv=>whnf
   repeat' (first|refine zx ?_|refine zd ?_ ?_<;>intro h<;>try omega|fail)<;>conv=>whnf
   all_goals try omega
   exact ⟨hlt,trivial,[some 0,some 1,some 2,some 3],rfl,rfl,⟨⟨rfl,rfl,rfl,.inr ⟨⟨rfl,rfl,trivial⟩,trivial⟩⟩,⟨rfl,rfl,rfl,.inl ⟨rfl,n8 _⟩⟩,⟨rfl,rfl,rfl,.inr ⟨⟨rfl,⟨rfl,rfl,hKs.2,fun h=>h⟩,trivial⟩,trivial⟩⟩,b8 rfl rfl rfl hKs.1 rfl,trivial⟩,⟨⟨rfl,rfl,rfl⟩,⟨rfl,rfl,rfl⟩,⟨rfl,rfl,rfl⟩,⟨rfl,⟨rfl,rfl,rfl⟩,trivial⟩,rfl,rfl,rfl,trivial⟩⟩
 ·have hke:k=t.ev.moves.length:=by omega
  subst hke
  conv=>whnf
  repeat' (first|refine zx ?_|refine zd ?_ ?_<;>intro h<;>try omega|fail)<;>conv=>whnf
  all_goals try omega
  exact ⟨[some 3],rfl,rfl,⟨b8 (rows:=(z6 t kind t.ev.moves.length).map E1) rfl rfl rfl rfl rfl,trivial⟩,⟨⟨rfl,⟨rfl,rfl,rfl,fun h=>h⟩,trivial⟩,rfl,trivial⟩⟩
theorem a2O (t:g7) (kind:Int) (hs:t.Sized):e7 Tryz.prog 64 [trS t,b7 .i64 kind] [] (.tup [a1b (aB0 t kind),b7 .i64 (a16 t kind)]) []:=by
 have ck:=a6G t hs
 have m2:(t.ev.moves.map v7.row).length=t.ev.moves.length:=by simp
 by_cases h1:s6 t≠0∨kind<0∨8<=kind
 ·have e1:a16 t kind=1:=by unfold a16;rw [if_pos h1]
  have e2:aB0 t kind=⟨0,[]⟩:=by unfold aB0;rw [if_pos h1]
  rw [e1,e2]
  (refine ac Tryz.func64 ?_;(conv=>whnf);repeat ((first|refine b0x ?_|refine zy ?_);conv=>whnf))
  repeat' (first|refine zx ?_|refine qp ck ?_|refine zd ?_ ?_<;>intro h<;>try omega|fail)<;>conv=>whnf
  all_goals first
   |omega
   |exact v8 ⟨⟨rfl,rfl,trivial⟩,rfl,trivial⟩
 have e1:a16 t kind=0:=by unfold a16;rw [if_neg h1]
 have e2:aB0 t kind=m7 t kind:=by unfold aB0;rw [if_neg h1]
 rw [e1,e2]
 exact b2p (b2b t kind hs h1) (v8 ⟨⟨rfl,show VC _ (fun id=>Q2 [] id=true) _ _ from D6 rfl rfl (by intro h;cases h) rfl rfl (by rw [lbr]),trivial⟩,rfl,trivial⟩)
theorem aE5 {P:Program} {g:FuncId} {x:S} {H H':Hp} {r:S} (h:e7 P g [x,z9 []] H r H'):e7 P g [x,.c (.t (.sl 0 .nil []))] H r H':=by
 refine a9B h rfl fun w ι M j a b v hx hy hr=>?_
 rcases j with _|_|j
 ·injection hx with hx;injection hy with hy;subst hx hy;exact hr
 ·injection hx with hx;injection hy with hy;subst hx hy
  cases hr with
  |c hr=>cases hr with
   |t hr=>exact .c (.t (hr.weak rfl))
 ·simp at hx
theorem aG0 (z:List Rat):m6 [] z=0:=rfl
theorem av6 {s:k7} (hr:m8 s=true):J9 s []=.best∨∃r,J9 s []=.row r:=by
 rcases a82 s [] with h|h|⟨c,h⟩
 ·exact .inl h
 ·exact .inr h
 ·have:=(a9b hr rfl h).2
  rw [aG0] at this
  exact absurd this (by decide)
theorem a3Z (s:k7) (n B:Nat) (h:F4 s [] n B) (hout:J9 s []=.best) (hpt:∀v ∈ n7 s [],rl v<=40000):
 e7 Tryz.prog 74 [a1b s] [] (.tup [F3 ((n7 s []).map fz),.c (.t (.sl 0 .nil [])),i8 true]) []:=by
 have le:=aE5 (a3h s [] n B h hout (fun k=>by rw [List.take_nil,aG0];have:=rl0;omega) hpt)
 (refine ac Tryz.func74 ?_;(conv=>whnf);repeat ((first|refine b0x ?_|refine zy ?_);conv=>whnf))
 repeat' (first|refine zx ?_|refine qp 4 ?_|refine qp (4,6) ?_|refine .inr ⟨_,_,le,?_⟩|refine bl0 [4] ?_|refine bl0 [4,6] ?_|refine zd ?_ ?_<;>intro h<;>try omega|fail)<;>conv=>whnf
 all_goals first
  |omega
  |exact v8 ⟨rfl,rfl,rfl,trivial⟩
theorem a5D (s:k7) (n B r:Nat) (h:F4 s [] n B) (hout:J9 s []=.row r):
 e7 Tryz.prog 74 [a1b s] [] (.tup [.c (.t (.sl 0 .nil [])),F3 (rF s.rows.length (a8E s (G4 s []) r)),i8 false]) []:=by
 have le:=aE5 (aG9 s [] n B r h hout)
 (refine ac Tryz.func74 ?_;(conv=>whnf);repeat ((first|refine b0x ?_|refine zy ?_);conv=>whnf))
 repeat' (first|refine zx ?_|refine qp 4 ?_|refine qp (4,6) ?_|refine .inr ⟨_,_,le,?_⟩|refine bl0 [4] ?_|refine bl0 [4,6] ?_|refine zd ?_ ?_<;>intro h<;>try omega|fail)<;>conv=>whnf
 all_goals first
  |omega
  |exact v8 ⟨rfl,(show VC _ (fun id=>Q2 [] id=true) (C.own 0 0 s.rows.length true) _ from D6 (k:=flB (rF s.rows.length (a8E s (G4 s []) r))) rfl rfl (fun h=>h) rfl rfl (by simp [P4])),rfl,trivial⟩
theorem a2D {α:Type} {f:α->List T} {l:List α} {x:α} {n:Nat} (h:n=l.length):List.take n (toC (l.map f))++toC [f x]=toC ((l++[x]).map f):=by
 rw [lbn (by simp [toC,h])]
 simp [toC]
def a0V (l:List (Int × Rat)) (f:Rat):List (Int × Rat):=l.map fun t=>(t.1,t.2*f)
theorem a8P (l:List (Int × Rat)) (f:Rat) {k:Nat} {t:Int × Rat} (h:l[k]? =some t):(a0V l f).take (k+1)=(a0V l f).take k++[(t.1,t.2*f)]:=by
 rw [lbH]
 congr 1
 unfold a0V
 rw [lba,h];rfl
theorem a1B (l:List (Int × Rat)) (f:Rat):(a0V l f).length=l.length:=by simp [a0V]
theorem b6S (l:List (Int × Rat)) (f:Rat) (hf:f≠0) (hr:k6 (-1) 1500 l=true) (hb:∀t ∈ l,rl t.2<=200) (hfb:rl f<=200):
 e7 Tryz.prog 156 [z9 l,frS (fz f)] [] (z9 (a0V l f)) []:=by
 have hl:=J6 hr
 have m1:(l.map I4).length=l.length:=by simp
 have rt:=T9 l 1500 (by omega) hb
 rw [lbI (by omega),hr] at rt
 have sg:=X7 f (by omega)
 have sz:=af3 (x:=f)
 have hs0:sgR f≠0:=fun h=>hf (sz.1 h)
 (refine ac Tryz.func156 ?_;(conv=>whnf);repeat ((first|refine b0x ?_|refine zy ?_);conv=>whnf))
 repeat' (first|refine zx ?_|refine qp rt ?_|refine qp sg ?_|refine zd ?_ ?_<;>intro h<;>try omega|fail)<;>conv=>whnf
 all_goals try omega
 all_goals try (exfalso;simp_all;done)
 refine j5 e8 (fun k=>([J,J,J,S.c (C.t (T.ptr (q9 (fz f)))),J,S.c (C.own 0 0 k true)]++Jn 12++[z9 l,b7 .i64 l.length,b7 .i64 k]++Jn 19,[ac1 ((a0V l f).take k)])) l.length (fun _=>True) [none] trivial
  ⟨rfl,rfl,⟨⟨rfl,rfl⟩,trivial⟩,⟨k8 rfl,⟨rfl,rfl,rfl⟩,k8 rfl,g9 (by omega),g9 rfl,trivial⟩⟩ ?_
 intro k hk _
 by_cases hlt:k<l.length
 ·obtain ⟨t,ht⟩:∃t,l[k]? =some t:=⟨_,lbf hlt⟩
  have bt:=hb t (lbm ht)
  have mu:=aY8 t.2 f (by omega) (by omega)
  have lk:((a0V l f).take k).length=k:=by rw [lbs,a1B];omega
  have lA:k<=(ac1 ((a0V l f).take k)).rows.length:=by show k<=(toC _).length;simp [toC,a1B];omega
  conv=>whnf
  repeat' (first|refine zx ?_|refine qp mu ?_|refine qp toC ?_|refine qp 6 ?_|refine g6 ht ?_|refine E4 lA (by simp [toC];omega) ?_|refine bl0 [6] ?_|refine zd ?_ ?_<;>intro h<;>try omega|fail)<;>conv=>whnf
  all_goals first
   |omega
   |(refine ⟨hlt,trivial,[some 3],rfl,rfl,⟨b8 (rows:=((a0V l f).take (k+1)).map I4) rfl rfl rfl ?_ rfl,trivial⟩,⟨rfl,⟨rfl,rfl,rfl,fun h=>h⟩,rfl,rfl,g9 (by omega),trivial⟩⟩
     rw [a8P l f ht]
     exact a2D (f:=I4) (x:=(t.1,t.2*f)) lk.symm)
 ·have hke:k=l.length:=by omega
  subst hke
  conv=>whnf
  repeat' (first|refine zx ?_|refine zd ?_ ?_<;>intro h<;>try omega|fail)<;>conv=>whnf
  all_goals first
   |omega
   |exact X5 rfl (fun h=>h) rfl (by rw [lbn (by rw [a1B];exact lbR _)]) (by simp [a1B])
theorem a8G {n n':Int} (h:n<=n'):∀{last:Int} {l:List (Int × Rat)},k6 last n l=true->k6 last n' l=true
 |_,[],_=>rfl
 |last,a::r,hr=>by
  unfold k6 at hr ⊢
  simp only [lbN,lbJ] at hr ⊢
  exact ⟨⟨⟨hr.1.1.1,by omega⟩,hr.1.2⟩,a8G h hr.2⟩
def G1 (l:List (Int × Rat)):List (Int × Rat):=a0V l ((-1:Int):Rat)
theorem a5R (l:List (Int × Rat)) (hr:k6 (-1) 1500 l=true) (hb:∀t ∈ l,rl t.2<=200):e7 Tryz.prog 86 [z9 l] [] (z9 (G1 l)) []:=by
 have i1:=J4 (-1) (by decide) (by decide)
 have tm:=b6S l ((-1:Int):Rat) (by decide) hr hb (by have:=B9 (x:=-1) (by decide) (by decide);have:=B9 (x:=1) (by decide) (by decide);show max (bl (-1)) (bl 1)<=200;omega)
 (refine ac Tryz.func86 ?_;(conv=>whnf);repeat ((first|refine b0x ?_|refine zy ?_);conv=>whnf))
 repeat' (first|refine zx ?_|refine qp i1 ?_|refine qp tm ?_|refine zd ?_ ?_<;>intro h<;>try omega|fail)<;>conv=>whnf
 exact v8 (H1:=[]) (k8 (ρ:=[]) (H:=[]) rfl)
def a4t (l:List Int):List (Int × Rat):=l.map fun i=>(i,((1:Int):Rat))
def E9 (t:g7) (h:Int):List (Int × Rat):=a4t (L2 t.ev h (-1) 0 100000)
def b1d (t:g7) (h:Int):List (Int × Rat):=if s6 t=0∧0<=h∧h<t.ev.hhs then E9 t h else []
theorem b4C {H1:Hp}:Fin 0 (.c (.t (.sl 0 .nil []))) H1 (z9 []) []:=v8 (show a90 [] H1 (.c (.t (.sl 0 .nil []))) (z9 []) from rfl)
theorem ar7 {l:List Int} {k:Nat} {x:Int} (h:l[k]? =some x):a4t (l.take (k+1))=a4t (l.take k)++[(x,((1:Int):Rat))]:=by
 rw [lbH,h];unfold a4t;simp
theorem b6W (t:g7) (hs:t.Sized) (hh:Int) (hl:(L2 t.ev hh (-1) 0 100000).length<=100000):e7 Tryz.prog 31 [trS t,b7 .i64 hh] [] (z9 (b1d t hh)) []:=by
 have ck:=a6G t hs
 have li:=au5 t.ev hs.ev hh (-1) 0 100000
 have i1:=J4 1 (by decide) (by decide)
 by_cases hc:s6 t=0∧0<=hh∧hh<t.ev.hhs
 ·have e:b1d t hh=E9 t hh:=if_pos hc
  rw [e]
  obtain ⟨c1,c2,c3⟩:=hc
  have m1:((L2 t.ev hh (-1) 0 100000).map i5).length=(L2 t.ev hh (-1) 0 100000).length:=by simp
  (refine ac Tryz.func31 ?_;(conv=>whnf);repeat ((first|refine b0x ?_|refine zy ?_);conv=>whnf))
  repeat' (first|refine zx ?_|refine qp ck ?_|refine qp li ?_|refine zd ?_ ?_<;>intro h<;>try omega|fail)<;>conv=>whnf
  all_goals try omega
  refine j5 e8 (fun k=>([J,J,J,J,J,S.c (C.own 0 0 k true)]++Jn 19++[i6 (L2 t.ev hh (-1) 0 100000),b7 .i64 (L2 t.ev hh (-1) 0 100000).length,b7 .i64 k]++Jn 11,[ac1 (a4t ((L2 t.ev hh (-1) 0 100000).take k))])) (L2 t.ev hh (-1) 0 100000).length (fun _=>True) [none] trivial
   ⟨rfl,rfl,⟨⟨rfl,rfl⟩,trivial⟩,⟨⟨rfl,rfl,rfl⟩,k8 rfl,g9 (by omega),g9 rfl,trivial⟩⟩ ?_
  intro k hk _
  by_cases hlt:k<(L2 t.ev hh (-1) 0 100000).length
  ·obtain ⟨x,hx⟩:∃x,(L2 t.ev hh (-1) 0 100000)[k]? =some x:=⟨_,lbf hlt⟩
   have lk:(a4t ((L2 t.ev hh (-1) 0 100000).take k)).length=k:=by unfold a4t;rw [lbr,lbs];omega
   have lA:k<=(ac1 (a4t ((L2 t.ev hh (-1) 0 100000).take k))).rows.length:=by show k<=(toC _).length;rw [toC,lbr,lbr,lk];exact lbR _
   conv=>whnf
   repeat' (first|refine zx ?_|refine qp i1 ?_|refine qp toC ?_|refine g6 hx ?_|refine E4 lA (by simp [toC];omega) ?_|refine zd ?_ ?_<;>intro h<;>try omega|fail)<;>conv=>whnf
   all_goals first
    |omega
    |(refine ⟨hlt,trivial,[some 1],rfl,rfl,⟨b8 (rows:=(a4t ((L2 t.ev hh (-1) 0 100000).take (k+1))).map I4) rfl rfl rfl ?_ rfl,trivial⟩,⟨⟨rfl,rfl,rfl,fun h=>h⟩,rfl,rfl,g9 (by omega),trivial⟩⟩
      rw [ar7 hx]
      exact a2D (f:=I4) (x:=(x,((1:Int):Rat))) lk.symm)
  ·have hke:k=(L2 t.ev hh (-1) 0 100000).length:=by omega
   subst hke
   conv=>whnf
   repeat' (first|refine zx ?_|refine zd ?_ ?_<;>intro h<;>try omega|fail)<;>conv=>whnf
   all_goals first
    |omega
    |exact X5 rfl (fun h=>h) rfl (by rw [lbn (lbR _)];rfl) (by simp [E9,a4t])
 ·have e:b1d t hh=[]:=if_neg hc
  rw [e]
  (refine ac Tryz.func31 ?_;(conv=>whnf);repeat ((first|refine b0x ?_|refine zy ?_);conv=>whnf))
  repeat' (first|refine zx ?_|refine qp ck ?_|refine qp li ?_|refine zd ?_ ?_<;>intro h<;>try omega|fail)<;>conv=>whnf
  all_goals first
   |omega
   |exact b4C
theorem b30 (l:List Fr) (h0:0<l.length) (h1:l.length<=100000):e7 Tryz.prog 224 [F3 l] [] (.c (.own 0 0 l.length true)) [flB l]:=by
 have m1:(l.map q9).length=l.length:=by simp
 have hl:0<(l.map q9).length:=by omega
 (refine ac Tryz.func224 ?_;(conv=>whnf);repeat (refine zy ?_;conv=>whnf))
 repeat' (first|refine zx ?_|refine qp (toC,lbr,List.length_nil) ?_|refine qp (toC,lbr) ?_|refine ⟨hl,?_⟩|refine zz ?_|refine Y0 rfl (by simp only [toC,lbr,List.length_nil];omega) ?_|refine E4 (Nat.zero_le _) (by simp only [toC,lbr];omega) ?_|refine zd ?_ ?_<;>intro h<;>try omega|fail)<;>conv=>whnf
 all_goals first
  |omega
  |exact ⟨[some 0],rfl,rfl,⟨b8 (rows:=l.map q9) rfl rfl rfl rfl rfl,trivial⟩,⟨rfl,rfl,by simp [toC],fun h=>h⟩⟩
def smF (a b:Nat->Rat) (k:Nat):Nat->Rat:=fun j=>if j<k then a j+b j else a j
theorem b8i (n:Nat) (a b:Nat->Rat) (h0:0<n) (hn:n<=1000) (ha:∀j,j<n->rl (a j)<=60000) (hb:∀j,j<n->rl (b j)<=60000):
 e7 Tryz.prog 142 [F3 (rF n a),F3 (rF n b)] [] (F3 (rF n fun j=>a j+b j)) []:=by
 have m1:((rF n b).map q9).length=n:=by simp [P4]
 have cl:=b30 (rF n a) (by rw [P4];exact h0) (by rw [P4];omega)
 rw [P4] at cl
 have e9:rF n (fun j=>a j+b j)=rF n (smF a b n):=G5 fun j hj=>by unfold smF;rw [if_pos hj]
 rw [e9]
 (refine ac Tryz.func142 ?_;(conv=>whnf);repeat (refine zy ?_;conv=>whnf))
 repeat' (first|refine zx ?_|refine .inr ⟨_,_,cl,?_⟩|refine zd ?_ ?_<;>intro h<;>try omega|fail)<;>conv=>whnf
 refine j5 e8 (fun k=>([J,J,J,J,J,S.c (C.own 0 0 n true),J,J,J,J,F3 (rF n b),b7 .i64 n,b7 .i64 k]++Jn 18,[flB (rF n (smF a b k))])) n (fun _=>True) [some 0] trivial
  ⟨rfl,rfl,⟨b8 (rows:=(rF n a).map q9) rfl rfl rfl rfl (by rw [G5 (g:=smF a b 0) (h:=a) fun j hj=>by unfold smF;rw [if_neg (by omega)]]),trivial⟩,⟨⟨rfl,rfl,rfl,fun h=>h⟩,k8 rfl,g9 (by omega),g9 rfl,trivial⟩⟩ ?_
 intro k hk _
 by_cases hlt:k<n
 ·have eK:0+(k:Int).toNat=k:=by omega
  have ad:=a4S (a k) (b k) (ha k hlt) (hb k hlt)
  have gp:(rF n (smF a b k))[0+(k:Int).toNat]? =some (fz (a k)):=by rw [eK,L4 hlt];unfold smF;rw [if_neg (by omega)]
  have e:C9 (flB (rF n (smF a b k))) ((flB (rF n (smF a b k))).rows.set (0+(k:Int).toNat) (frC (fz (a k+b k))))=flB (rF n (smF a b (k+1))):=by
   rw [O8 eK,a03 hlt]
   refine congrArg flB (G5 fun j hj=>?_)
   unfold smF
   by_cases h:j=k
   ·subst h;rw [if_pos rfl,if_pos (by omega)]
   ·rw [if_neg h]
    have:(j<k)↔(j<k+1):=by omega
    simp only [this]
  conv=>whnf
  repeat' (first|refine zx ?_|refine qp ad ?_|refine qp 10 ?_|refine a3C rfl hlt ?_|refine t6 gp ?_|refine bl0 [10] ?_|refine zd ?_ ?_<;>intro h<;>try omega|fail)<;>conv=>whnf
  all_goals first
   |omega
   |exact ⟨hlt,trivial,[some 0],rfl,rfl,⟨⟨rfl,rfl,rfl,.inl ⟨congrArg Blk.rows e,(congrArg Blk.rows e) ▸ j6 _⟩⟩,trivial⟩,⟨⟨rfl,rfl,rfl,fun h=>h⟩,rfl,rfl,g9 (by omega),trivial⟩⟩
 ·have hke:k=n:=by omega
  subst hke
  conv=>whnf
  repeat' (first|refine zx ?_|refine zd ?_ ?_<;>intro h<;>try omega|fail)<;>conv=>whnf
  all_goals first
   |omega
   |exact X5 rfl (fun h=>h) rfl rfl (by simp [P4])
theorem aW0 {P:Program} {g:FuncId} {args:List S} {H:Hp} {b:Blk} {r r':S} {rows:List (List T)} (h:e7 P g args [] r [b]) (ha:args=args.map (a5r [])) (hok:args.all (okS 0)=true) (hm:b.mode=.live) (hb:b.rows=toC rows) (hr:ar9 r=true)
 (hr':r'=a5r [H.length] r):e7 P g args H r' (H++[b]):=by
 have ex:a3v [] H.length (([b]:Hp).length - ([]:Hp).length)=[H.length]:=rfl
 refine R8 [] h ha hok rfl List.nodup_nil (by simp) (fun k hk=>?_) (by simp) hr (by rw [ex];exact hr') (by simp) ?_ ?_
 ·simp at hk;subst hk;rw [hm];intro h;cases h
 ·intro i k hk
  rw [ex]
  rcases i with _|i
  ·injection hk with hk;subst hk
   refine ⟨b,?_,H9 hb⟩
   show (H++[b])[H.length]? =_
   rw [lbc (lbR _)];simp
  ·simp at hk
 ·intro j hj _
  rw [lbb hj]
theorem aY9 {P:Program} {g:FuncId} {args:List S} {H:Hp} {b:Blk} {cs:List C} {s2:S} {j lo len:Nat} {app:Bool} (h:e7 P g args [] (.tup [.agg cs,s2]) [b]) (ha:args.all S.isT=true) (hm:b.mode=.live) (hb:K7 b.rows)
 (hf:ar9 (.tup [.agg cs,s2])=true) (hj:cs[j]? =some (.own 0 lo len app)):W5 P g args H (a5r [H.length] (.tup [.agg cs,s2])) [b]:=by
 refine ⟨h.1,fun w ι M vals hl hv hH hM hf0=>?_⟩
 have:=h.2 w (fun _=>none) M vals hl (fun j s hj=>(hv j s hj).tree (lbw.1 ha s (lbm hj)))
  ⟨by simp,by simp,by simp,by simp,by simp⟩ hM (fun _ _=>rfl)
 refine Calls.mono this ?_
 rintro e w' ⟨v,rfl,ι',M',h1,h2,h3,h4,h5⟩
 have hnl:∀x,¬a2I (fun _=>none) ([]:Hp) x:=by rintro x ⟨id,k,_,_,hk,_⟩;simp at hk
 obtain ⟨l,hl0⟩:∃l,ι' 0=some l:=by
  cases h1 with
  |tup vs hl hr=>
   have h0:=hr 0 _ rfl
   generalize vs.getD 0 undef=v0 at h0
   cases h0 with
   |agg us hl hr=>
    have h9:=hr j _ hj
    generalize us.getD j undef=v9 at h9
    cases h9 with
    |own hi=>exact ⟨_,hi⟩
    |nil hi=>exact ⟨_,hi⟩
 have hnew:C8 ι H.length [b].length (fun _=>l) H.length=some l:=by unfold C8;simp
 have hMM:∀x,a4F M [b].length (fun _=>l) x->M' x:=by
  intro x hx
  rcases hx with hx|⟨k,hk,cap,size,he⟩
  ·rcases h5.mold x hx with h|h
   ·exact h
   ·exact absurd h (hnl x)
  ·have he:l=.blk x cap size:=he
   subst he
   exact h2.liv 0 b rfl hm x cap size hl0
 refine ⟨v,rfl,fun _=>l,?_,⟨h5.os,h5.tape,h5.output,h5.size,fun x hx=>h5.keep x hx (hnl x)⟩,?_,?_,?_⟩
 ·refine RS.keep (w:=w') (ι:=C8 ι H.length [b].length (fun _=>l)) (M:=M') (fun _ _ _=>rfl) (fun x hx=>.inl (hMM x hx)) (fun _ _ h=>h) (RS.ren (σ:=[H.length]) (fun id l' hi=>?_) hf h1)
  rcases id with _|id
  ·rw [hl0] at hi;injection hi with hi;subst hi;exact hnew
  ·rw [h4 (id+1) (by simp)] at hi;cases hi
 ·intro k blk hk
  cases k with
  |succ k=>simp at hk
  |zero=>
   simp at hk
   subst hk
   refine ⟨hm,?_⟩
   have hbr:=h2.blk 0 b rfl (by rw [hm];intro h;cases h) l hl0
   cases l with
   |nil=>exact hbr
   |blk x cap size=>
    obtain ⟨r1,r2,r3,r4,r5,cur,r6,r7,r8⟩:=hbr
    refine ⟨r1,r2,r3,r4,r5,cur,r6,r7,fun i j c hc=>?_⟩
    obtain ⟨u,u1,u2⟩:=r8 i j c hc
    exact ⟨u,u1,ai1 hMM hb hc u2⟩
 ·intro k x cap size hk he
  have he:l=.blk x cap size:=he
  subst he
  refine ⟨?_,h3 x (h2.liv 0 b rfl hm x cap size hl0)⟩
  rcases h5.live x ⟨0,b,cap,size,rfl,hm,hl0⟩ with h|h
  ·exact absurd h (hnl x)
  ·exact h
 ·intro k k' x cap size cap' size' hk hk' _ _
  simp at hk hk'
  omega
structure a3k where
 hh:Int
 state:Int
 w:List Rat
 wo:List Rat
 pr:List Rat
def a3k.row (v:a3k):List T:=[ti v.hh,ti v.state,Q8 (v.w.map fz),Q8 (v.wo.map fz),Q8 (v.pr.map fz)]
abbrev b4Z (v:a3k):S:=.agg (v.row.map C.t)
theorem ax0 {x:Rat}:sgR x > 0↔0<x:=by unfold sgR;split<;>(try split)<;>simp_all<;>grind
theorem b4L {x:Rat}:sgR x<0↔x<0:=by unfold sgR;split<;>(try split)<;>simp_all
structure b20 (s:k7) (g:List (Int × Rat)) (n B B1 B0:Nat):Prop where
 p:F4 s g n B
 q:F4 s (G1 g) n B1
 z:F4 s [] n B0
 g5:k6 (-1) 1500 g=true
 v:∀k,rl (m6 (g.take k) (n7 s g))<=50000
 u:∀k,rl (m6 ((G1 g).take k) (n7 s (G1 g)))<=50000
theorem a7u {s:k7} {g:List (Int × Rat)} {n B:Nat} (h:F4 s g n B):∀v ∈ n7 s g,rl v<=17000:=by
 intro v hv
 have hb:=a8j h
 have hn:=h.nn
 have hB:=h.bb
 obtain ⟨j,hj,rfl⟩:=aA5 hv
 have hp:Y3 (g8 s).length s.n.toNat (G4 s g):=W9.p
 rw [hn] at hj hp ⊢
 rw [← aS7 hp hj]
 have key:∀k,k<=(g8 s).length->rl (ptK n (G4 s g).O (G4 s g).V (fun _=>0) k j)<=17000:=by
  intro k
  induction k with
  |zero=>intro _;have:=rl0;show rl 0<=_;omega
  |succ k ih=>
   intro hk
   rw [R5]
   simp only
   split
   ·have:=hb.v k (by omega);omega
   ·exact ih (by omega)
 exact key _ (lbR _)
noncomputable def b7L (s:k7) (g:List (Int × Rat)) (hh:Int):a3k:=⟨hh,2,n7 s g,[],zOf s.rows.length (a2d s (G4 s g))++[((-1:Int):Rat)]⟩
theorem a9c {s:k7} {g:List (Int × Rat)} {n B:Nat} (h:F4 s g n B) (hout:J9 s g=.best) (hS:∀k,rl (m6 (g.take k) (n7 s g))<=50000) (H:Hp):
 e7 Tryz.prog 141 [a1b s,z9 g] H (.tup [.agg (C.t (ti 0)::frC (fz (m6 g (n7 s g)))++[.t (Q8 ((n7 s g).map fz)),.own H.length 0 s.rows.length true,.t (.sl 0 .nil [])]),b7 .i64 0]) (H++[flB (rF s.rows.length (a2d s (G4 s g)))]):=
 aW0 (a3h s g n B h hout (fun k=>by have:=hS k;omega) (fun v hv=>by have:=a7u h v hv;omega)) rfl rfl rfl rfl rfl rfl
theorem aX4 {R:Nat} {y:Nat->Rat} {x:Rat}:(toC ((rF R y).map q9)).take R++toC [q9 (fz x)]=toC (((zOf R y++[x]).map fz).map q9):=by
 have e:(zOf R y++[x]).map fz=rF R y++[fz x]:=by rw [lbD,a5U];rfl
 rw [a2D (f:=q9) (l:=rF R y) (x:=fz x) (P4 R y).symm,e]
theorem b5n {s:k7} {g:List (Int × Rat)} {n B:Nat} (h:F4 s g n B) (hout:J9 s g=.best) (hS:∀k,rl (m6 (g.take k) (n7 s g))<=50000) (H:Hp):
 W5 Tryz.prog 141 [a1b s,z9 g] H (.tup [.agg (C.t (ti 0)::frC (fz (m6 g (n7 s g)))++[.t (Q8 ((n7 s g).map fz)),.own H.length 0 s.rows.length true,.t (.sl 0 .nil [])]),b7 .i64 0]) [flB (rF s.rows.length (a2d s (G4 s g)))]:=
 aY9 (j:=6) (lo:=0) (len:=s.rows.length) (app:=true) (a3h s g n B h hout (fun k=>by have:=hS k;omega) (fun v hv=>by have:=a7u h v hv;omega)) rfl rfl (j6 _) rfl rfl
theorem a9Q (s:k7) (g:List (Int × Rat)) (n B B1 B0:Nat) (h:b20 s g n B B1 B0) (hh:Int) (hout:J9 s g=.best) (hv:0<m6 g (n7 s g)):
 e7 Tryz.prog 75 [a1b s,z9 g,b7 .i64 hh] [] (b4Z (b7L s g hh)) []:=by
 have le:=a9c h.p hout h.v
 have vb:=h.v g.length
 rw [List.take_length] at vb
 have sg:=X7 (m6 g (n7 s g)) (by omega)
 have sp:=ax0.2 hv
 have i1:=J4 (-1) (by decide) (by decide)
 have hR:=h.p.r
 (refine ac Tryz.func75 ?_;(conv=>whnf);repeat ((first|refine b0x ?_|refine zy ?_);conv=>whnf))
 repeat' (first|refine ad6 [0,1,2,3,4,5,7,6,8,9,10,11,12] (by decide +kernel) (by decide +kernel) ?_|refine zz ?_|refine zz ?_|refine zz ?_|refine zz ?_|refine zz ?_|refine zz ?_|refine qp sg ?_|refine qp i1 ?_|refine qp 5 ?_|refine qp (toC,P4) ?_|refine qp toC ?_|refine qp (0,1,2,3,4,5,7,6,8,9,10,11,12) ?_|refine qp (0,1,6) ?_|refine qp (0,1) ?_|refine .inr ⟨_,_,le _,?_⟩|refine bl0 [5] ?_|refine E4 (by simp [toC,P4]) (by simp [toC];omega) ?_|refine bl0 [0,1,6] ?_|refine bl0 [0,1] ?_|refine zd ?_ ?_<;>intro h<;>try omega|refine zy ?_|fail)<;>conv=>whnf
 all_goals first
  |omega
  |exact v8 ⟨rfl,rfl,rfl,rfl,(show VC _ (fun id=>Q2 [] id=true) (C.own 4 0 (s.rows.length+1) true) _ from D6 (k:={ mode:=.live,elem:=86,size:=4,rows:=(toC ((rF s.rows.length (a2d s (G4 s g))).map q9)).take s.rows.length++toC [q9 (fz ((-1:Int):Rat))],box:=false }) rfl rfl (fun h=>h) rfl aX4 (by simp [zOf])),trivial⟩
noncomputable def aC3 (s:k7) (g:List (Int × Rat)) (c:Nat) (hh:Int):a3k:=⟨hh,1,zOf s.n.toNat fun j=>N4 (g8 s).length s.n.toNat (G4 s []) 1 (fun _=>0) j+N4 (g8 s).length s.n.toNat (G4 s (G1 g)) 0 (fun q=>if q=c then 1 else 0) j,n7 s g,[]⟩
noncomputable def b7O (s:k7) (g:List (Int × Rat)) (hh:Int):a3k:=⟨hh,1,n7 s (G1 g),n7 s g,[]⟩
noncomputable def ax3 (s:k7) (g:List (Int × Rat)) (hh:Int):a3k:=⟨hh,0,[],n7 s g,zOf s.rows.length (a2d s (G4 s (G1 g)))⟩
theorem b6K {s:k7} {g:List (Int × Rat)} {n B B0 c:Nat} (h:F4 s g n B) (h0:F4 s [] n B0) (hout:J9 s g=.col c) (hout0:J9 s []=.best) (H:Hp):
 W5 Tryz.prog 141 [a1b s,z9 g] H (.tup [.agg (C.t (ti 2)::b93++[.t (Q8 ((n7 s []).map fz)),.t (.sl 0 .nil []),.t (Q8 ((a8W s g c).map fz))]),b7 .i64 0]) []:=
 F5 (ax8 s g n B B0 c h h0 hout hout0) rfl rfl
theorem b8p {s:k7} {g:List (Int × Rat)} {n B c:Nat} (h:F4 s g n B) (hc:c<n) {j:Nat} (hj:j<n):rl (N4 (g8 s).length n (G4 s g) 0 (fun q=>if q=c then 1 else 0) j)<=17000:=by
 have hb:=a8j h
 have hB:=h.bb
 have hp:Y3 (g8 s).length n (G4 s g):=by have hn:=h.nn;subst hn;exact W9.p
 rw [← b0J hp hc hj]
 have key:∀k,k<=(g8 s).length->rl (ptK n (G4 s g).O (fun i=>-((G4 s g).A i c)) (fun j=>if (G4 s g).F c<n∧j=(G4 s g).F c then 1 else 0) k j)<=17000:=by
  intro k
  induction k with
  |zero=>
   intro _
   have:=rl0;have:=rl1
   show rl (if _ then (1:Rat) else 0)<=_
   split<;>omega
  |succ k ih=>
   intro hk
   rw [R5]
   simp only
   split
   ·rw [a2w];have:=hb.a k (by omega) c hc;omega
   ·exact ih (by omega)
 exact key _ (lbR _)
theorem ak7 (s:k7) (g:List (Int × Rat)) (n B B1 B0 c:Nat) (h:b20 s g n B B1 B0) (hh:Int) (hout:J9 s g=.best) (hv:¬0<m6 g (n7 s g)) (hq:J9 s (G1 g)=.col c) (hz:J9 s []=.best):
 e7 Tryz.prog 75 [a1b s,z9 g,b7 .i64 hh] [] (b4Z (aC3 s g c hh)) []:=by
 have le:=a9c h.p hout h.v
 have vb:=h.v g.length
 rw [List.take_length] at vb
 have sg:=X7 (m6 g (n7 s g)) (by omega)
 have sp:¬sgR (m6 g (n7 s g)) > 0:=fun e=>hv (ax0.1 e)
 have hR:=h.p.r
 have op:=a5R g h.g5 h.p.gb
 have l2:=b6K h.q h.z hq hz
 have hn:=h.p.nn
 have hcn:c<n:=by have:=(ai2 hq).1;omega
 have e1:(n7 s []).map fz=rF n (N4 (g8 s).length n (G4 s []) 1 (fun _=>0)):=by unfold n7;rw [a5U,hn]
 have e2:(a8W s (G1 g) c).map fz=rF n (N4 (g8 s).length n (G4 s (G1 g)) 0 (fun q=>if q=c then 1 else 0)):=by unfold a8W;rw [a5U,hn]
 have sm:=b8i n (N4 (g8 s).length n (G4 s []) 1 (fun _=>0)) (N4 (g8 s).length n (G4 s (G1 g)) 0 (fun q=>if q=c then 1 else 0)) (by omega) h.p.o.n1
  (fun j hj=>by
    have:rl (N4 (g8 s).length n (G4 s []) 1 (fun _=>0) j)<=17000:=a7u h.z _ (by unfold n7;rw [hn];exact lby.2 ⟨j,lbC.2 hj,rfl⟩)
    omega)
  (fun j hj=>by have:=b8p h.q hcn hj;omega)
 rw [← e1,←e2] at sm
 have e3:rF n (fun j=>N4 (g8 s).length n (G4 s []) 1 (fun _=>0) j+N4 (g8 s).length n (G4 s (G1 g)) 0 (fun q=>if q=c then 1 else 0) j)=(aC3 s g c hh).w.map fz:=by
  unfold aC3;simp only;rw [a5U,hn]
 rw [e3] at sm
 (refine ac Tryz.func75 ?_;(conv=>whnf);repeat ((first|refine b0x ?_|refine zy ?_);conv=>whnf))
 repeat' (first|refine zx ?_|refine qp sg ?_|refine qp op ?_|refine qp sm ?_|refine qp 5 ?_|refine qp 6 ?_|refine qp 0 ?_|refine .inr ⟨_,_,le _,?_⟩|refine .inl ⟨_,_,l2 _,?_⟩|refine bl0 [5] ?_|refine bl0 [6] ?_|refine bl0 [0] ?_|refine zd ?_ ?_<;>intro h<;>try omega|fail)<;>conv=>whnf
 all_goals first
  |omega
  |exact v8 ⟨rfl,rfl,rfl,rfl,rfl,trivial⟩
theorem aD2 (s:k7) (g:List (Int × Rat)) (n B B1 B0:Nat) (h:b20 s g n B B1 B0) (hh:Int) (hout:J9 s g=.best) (hv:¬0<m6 g (n7 s g)) (hq:J9 s (G1 g)=.best) (hv2:m6 (G1 g) (n7 s (G1 g))<0):
 e7 Tryz.prog 75 [a1b s,z9 g,b7 .i64 hh] [] (b4Z (b7O s g hh)) []:=by
 have le:=a9c h.p hout h.v
 have vb:=h.v g.length
 rw [List.take_length] at vb
 have ub:=h.u (G1 g).length
 rw [List.take_length] at ub
 have sg:=X7 (m6 g (n7 s g)) (by omega)
 have sp:¬sgR (m6 g (n7 s g)) > 0:=fun e=>hv (ax0.1 e)
 have sg2:=X7 (m6 (G1 g) (n7 s (G1 g))) (by omega)
 have sp2:=b4L.2 hv2
 have hR:=h.p.r
 have op:=a5R g h.g5 h.p.gb
 have l2:=b5n h.q hq h.u
 (refine ac Tryz.func75 ?_;(conv=>whnf);repeat ((first|refine b0x ?_|refine zy ?_);conv=>whnf))
 repeat' (first|refine zx ?_|refine qp sg ?_|refine qp op ?_|refine qp sg2 ?_|refine qp 5 ?_|refine qp 6 ?_|refine qp 0 ?_|refine qp (0,1) ?_|refine .inr ⟨_,_,le _,?_⟩|refine .inl ⟨_,_,l2 _,?_⟩|refine bl0 [5] ?_|refine bl0 [6] ?_|refine bl0 [0] ?_|refine bl0 [0,1] ?_|refine zd ?_ ?_<;>intro h<;>try omega|fail)<;>conv=>whnf
 all_goals first
  |omega
  |exact v8 ⟨rfl,rfl,rfl,rfl,rfl,trivial⟩
theorem ai8 (s:k7) (g:List (Int × Rat)) (n B B1 B0:Nat) (h:b20 s g n B B1 B0) (hh:Int) (hout:J9 s g=.best) (hv:¬0<m6 g (n7 s g)) (hq:J9 s (G1 g)=.best) (hv2:¬m6 (G1 g) (n7 s (G1 g))<0):
 e7 Tryz.prog 75 [a1b s,z9 g,b7 .i64 hh] [] (b4Z (ax3 s g hh)) []:=by
 have le:=a9c h.p hout h.v
 have vb:=h.v g.length
 rw [List.take_length] at vb
 have ub:=h.u (G1 g).length
 rw [List.take_length] at ub
 have sg:=X7 (m6 g (n7 s g)) (by omega)
 have sp:¬sgR (m6 g (n7 s g)) > 0:=fun e=>hv (ax0.1 e)
 have sg2:=X7 (m6 (G1 g) (n7 s (G1 g))) (by omega)
 have sp2:¬sgR (m6 (G1 g) (n7 s (G1 g)))<0:=fun e=>hv2 (b4L.1 e)
 have hR:=h.p.r
 have op:=a5R g h.g5 h.p.gb
 have l2:=b5n h.q hq h.u
 (refine ac Tryz.func75 ?_;(conv=>whnf);repeat ((first|refine b0x ?_|refine zy ?_);conv=>whnf))
 repeat' (first|refine zx ?_|refine qp sg ?_|refine qp op ?_|refine qp sg2 ?_|refine qp 5 ?_|refine qp 6 ?_|refine qp 0 ?_|refine qp (0,1) ?_|refine .inr ⟨_,_,le _,?_⟩|refine .inl ⟨_,_,l2 _,?_⟩|refine bl0 [5] ?_|refine bl0 [6] ?_|refine bl0 [0] ?_|refine bl0 [0,1] ?_|refine zd ?_ ?_<;>intro h<;>try omega|fail)<;>conv=>whnf
 all_goals first
  |omega
  |exact v8 ⟨rfl,rfl,rfl,rfl,(show VC _ (fun id=>Q2 [] id=true) (C.own 4 0 s.rows.length true) _ from D6 (k:=flB (rF s.rows.length (a2d s (G4 s (G1 g))))) rfl rfl (fun h=>h) rfl (by show toC ((rF s.rows.length (a2d s (G4 s (G1 g)))).map q9)=toC (((zOf s.rows.length (a2d s (G4 s (G1 g)))).map fz).map q9);rw [a5U]) (by simp [zOf,ax3])),trivial⟩
structure ba3 where
 mv:Int
 mat:Int
def ba3.row (p:ba3):List T:=[ti p.mv,ti p.mat]
def aQ4 (n:Int) (f:Fr):Bool:=decide ((f.p.dl.length:Int)<=n) && decide ((f.q.dl.length:Int)<=n)
theorem b82 (f:Fr) (n:Int):e7 Tryz.prog 113 [frS f,b7 .i64 n] [] (i8 (aQ4 n f)) []:=by
 have l1:(f.p.dl.map i5).length=f.p.dl.length:=by simp
 have l2:(f.q.dl.map i5).length=f.q.dl.length:=by simp
 (refine ac Tryz.func113 ?_;(conv=>whnf);repeat ((first|refine b0x ?_|refine zy ?_);conv=>whnf))
 repeat' (first|refine zx ?_|refine zd ?_ ?_<;>intro h<;>try omega|fail)<;>conv=>whnf
 all_goals (refine i3 ?_;unfold aQ4;simp;omega)
abbrev ir (n:Int):Rat:=((n:Int):Rat)
theorem b4T {n:Int} (h:-1000<=n∧n<=1000):rl (ir n)<=1:=by rw [a0W];have:=B9 (x:=n) (by omega) (by omega);omega
instance:DecidableEq H6:=fun a b=>decidable_of_iff (a.terms=b.terms∧a.kind=b.kind∧a.value=b.value) ⟨fun ⟨h1,h2,h3⟩=>by cases a;cases b;simp_all,fun h=>by subst h;exact ⟨rfl,rfl,rfl⟩⟩
instance:DecidableEq k7:=fun a b=>decidable_of_iff (a.n=b.n∧a.rows=b.rows) ⟨fun ⟨h1,h2⟩=>by cases a;cases b;simp_all,fun h=>by subst h;exact ⟨rfl,rfl⟩⟩
theorem aQ8:rl ((1:Int):Rat)<=200∧rl ((-1:Int):Rat)<=200∧rl ((0:Int):Rat)<=200:=by
 refine ⟨?_,?_,?_⟩
 ·have:=b4T (n:=1) (by decide);unfold ir at this;omega
 ·have:=b4T (n:=-1) (by decide);unfold ir at this;omega
 ·have:=b4T (n:=0) (by decide);unfold ir at this;omega
def an1 (w:H6):Bool:=decide (w.terms.length<=100) && w.terms.all (fun t=>decide (rl t.2<=200)) && decide (rl w.value<=200)
theorem ac6 {e:Ev} {p:Int}:∀k,(t7 e p k).all (fun t=>decide (rl t.2<=200))=true
 |0=>rfl
 |k+1=>by
  have ih:=ac6 (e:=e) (p:=p) k
  unfold t7
  obtain ⟨p1,p2,p3⟩:=aQ8
  split
  ·exact ih
  ·split
   ·rw [List.all_append,ih];simpa using p1
   ·split
    ·rw [List.all_append,ih];simpa using p2
    ·exact ih
theorem b0e {i:Nat} {kind:Int} {v:Rat} (h:rl v<=200):an1 (A0 i kind v)=true:=by
 obtain ⟨p1,p2,p3⟩:=aQ8
 unfold an1 A0
 simp [h];simpa using p1
theorem b6h {t:g7} {kind:Int} {i:Nat} {x:v7} (hx:t.ev.moves[i]? =some x) (hf:N9 t.ev t.finds=0) (hm:t.ev.moves.length<=14):(M6 t kind i x).all an1=true:=by
 obtain ⟨p1,p2,p3⟩:=aQ8
 have hi:i<t.ev.moves.length:=(lbe.1 hx).1
 unfold M6
 rw [List.all_append,List.all_append,List.all_append]
 simp only [lbN]
 refine ⟨⟨⟨?_,?_⟩,?_⟩,?_⟩
 ·split
  ·rfl
  ·simp only [List.all_cons,List.all_nil,Bool.and_true]
   unfold an1 D7
   simp only [lbN,lbJ]
   have hl:=a4y (e:=t.ev) (p:=x.src) i
   refine ⟨⟨?_,?_⟩,p3⟩
   ·rw [lbq];simp;omega
   ·rw [List.all_append,ac6];simpa using p2
 ·unfold O7
  split
  ·rfl
  ·rename_i lo hi' hiv
   have h:=a6t (e:=t.ev) (x:=x) (by rw [hiv];rfl)
   have e:hiR (N3 t.ev x)=hi':=by rw [hiv];rfl
   rw [e] at h
   simpa using b0e h.2
 ·rw [List.all_map,lbw]
  intro g hg
  unfold j8 at hg
  obtain ⟨f,hf',rfl⟩:=lby.1 hg
  have:=P3 hf f (lbz.1 hf').1
  have hb:=a0Y (x:=f.grams) (by omega) (by omega)
  exact b0e (by rw [a0W];omega)
 ·rw [lbw]
  intro w hw
  rw [List.mem_replicate] at hw
  rw [hw.2]
  exact b0e p3
theorem bb0 {t:g7} {kind:Int} (ht:s6 t=0) (hm:t.ev.moves.length<=14):b3n (m7 t kind):=by
 obtain ⟨q1,q2,q3,q4,q5⟩:=B4 ht
 have hall:(z6 t kind t.ev.moves.length).all an1=true:=(S6 _ (lbR _)).2 fun i x hi hx=>b6h hx q4 hm
 refine ⟨?_,fun w hw=>?_⟩
 ·have:=aa0 (t:=t) (kind:=kind) (k:=t.ev.moves.length) (by omega) q2 q3
  show (z6 t kind t.ev.moves.length).length<=_
  omega
 ·have:=lbw.1 hall w hw
  unfold an1 at this
  simp only [lbN,lbJ,lbw] at this
  exact ⟨this.1.1,this.1.2,this.2⟩
section
theorem ak9 {e:Ev} {l:List v7}:∀{last:Int},I5 e last l=0->l.Pairwise (fun a b=>a.day<=b.day)∧∀m ∈ l,last<=m.day∧m.day<=100000:=by
 induction l with
 |nil=>intro last _;simp
 |cons m r ih=>
  intro last h
  unfold I5 at h
  split at h
  ·simp at h
  ·rename_i hd
   split at h
   ·obtain ⟨h1,h2⟩:=ih h
    refine ⟨List.pairwise_cons.2 ⟨fun x hx=>(h2 x hx).1,h1⟩,fun x hx=>?_⟩
    rcases lbB.1 hx with rfl|hx
    ·omega
    ·have:=h2 x hx;omega
   ·simp at h
theorem b3a {e:Ev} (h0:J8 e=0) {m:v7} (hm:m ∈ e.moves):0<=m.day∧m.day<=100000:=(ak9 (a0u h0).2.2.2.2.2.1).2 m hm
theorem b2M {e:Ev} (h0:J8 e=0) {hh mat lo hi x:Int}:x ∈ L2 e hh mat lo hi↔∃(j:Nat) (m:v7),e.moves[j]? =some m∧a6d e hh mat lo hi m=true∧x=(j:Int):=by
 unfold L2
 rw [if_pos h0,U4]
 constructor
 ·rintro ⟨i,m,h1,h2,h3⟩
  exact ⟨i,m,h1,h2,by simpa using h3⟩
 ·rintro ⟨i,m,h1,h2,h3⟩
  exact ⟨i,m,h1,h2,by simpa using h3⟩
section
variable {e:Ev} (h0:J8 e=0)
include h0
end
end
theorem a46 {x:Int} (h0:-1000000000000000000<=x) (h1:x<=1000000000000000000):bl x<=3:=O1 (by simp only [pw];omega)
theorem b6n {c:P2} {reading day:Int} (h:a0c c day=true) (hr:btw reading 0 1099511627776=true):rl (a6i c reading day)<=7:=by
 unfold a0c a0w at h
 rw [a0F] at hr
 simp only [lbN,lbJ,a0F] at h
 obtain ⟨⟨⟨⟨⟨⟨⟨h1,h2⟩,h3⟩,_⟩,h4⟩,h5⟩,h6⟩,h7⟩:=h
 have e1:0<=c.permille*reading:=lb0 (by omega) (by omega)
 have e2:c.permille*reading<=1000*1099511627776:=Int.mul_le_mul (by omega) (by omega) (by omega) (by omega)
 have e3:0<=c.drift*(day - c.since):=lb0 (by omega) (by omega)
 have e4:c.drift*(day - c.since)<=10000000*100000:=Int.mul_le_mul (by omega) (by omega) (by omega) (by omega)
 have b1:=a46 (x:=c.permille*reading) (by omega) (by omega)
 have b2:=a46 (x:=1000) (by decide) (by decide)
 have b3:=a46 (x:=c.grams+c.drift*(day - c.since)) (by omega) (by omega)
 have l1:=a0m (p:=c.permille*reading) (q:=1000) (by decide)
 have l2:=a2s (Rat.divInt (c.permille*reading) 1000) ((c.grams+c.drift*(day - c.since):Int):Rat)
 have l3:rl ((c.grams+c.drift*(day - c.since):Int):Rat)<=3:=by
  rw [a0W];omega
 unfold a6i
 omega
theorem b5D {cs:List P2} {rs:List J3} {scale reading day:Int} {lo hi:Rat} (h:T4 cs rs scale reading day=some (lo,hi)):rl hi<=11:=by
 unfold T4 at h
 split at h
 ·cases h
 ·rename_i i hi
  obtain ⟨hb,c,hc,_,hcv⟩:=T1 hi
  have e:a2r cs i=c:=by unfold a2r;rw [hc];rfl
  rw [e] at h
  split at h
  ·cases h
  ·split at h
   ·rename_i hr
    injection h with h
    injection h with h1 h2
    have l1:=b6n hcv hr
    rw [a0F] at hr
    have l2:rl (reading:Rat)<=3:=by rw [a0W];have:=a46 (x:=reading) (by omega) (by omega);omega
    have l3:=a2s (reading:Rat) (a6i c reading day)
    rw [← h2];omega
   ·cases h
def S8 (l:List (Int × Rat)):Prop:=∀t ∈ l,∃c:Int,t.2=((c:Int):Rat)∧bl c<=1
theorem N7 {i:Int} {c:Int} (h0:-1048575<=c) (h1:c<=1048575):S8 [(i,((c:Int):Rat))]:=by
 intro t ht
 simp at ht
 subst ht
 exact ⟨c,rfl,B9 h0 h1⟩
theorem a4V {a b:List (Int × Rat)} (ha:S8 a) (hb:S8 b):S8 (a++b):=by
 intro t ht
 rcases lbA.1 ht with h|h
 ·exact ha t h
 ·exact hb t h
theorem a2u {e:Ev} {p:Int}:∀k,S8 (t7 e p k)
 |0=>by intro t ht;cases ht
 |k+1=>by
  have ih:=a2u (e:=e) (p:=p) k
  unfold t7
  split
  ·exact ih
  ·split
   ·exact a4V ih (N7 (by decide) (by decide))
   ·split
    ·exact a4V ih (N7 (by decide) (by decide))
    ·exact ih
theorem b9E {t:g7} {kind:Int} (ht:s6 t=0):∀w ∈ (m7 t kind).rows,b1Z 11 w:=by
 classical
 obtain ⟨q1,q2,q3,q4,q5⟩:=B4 ht
 have z1:rl ((0:Int):Rat)<=11:=by have:=rl0;show rl 0<=_;omega
 have key:(z6 t kind t.ev.moves.length).all (fun w=>decide (b1Z 11 w))=true:=(S6 _ (lbR _)).2 fun i x hi hx=>by
  rw [lbw]
  intro w hw
  refine lbI ?_
  unfold M6 at hw
  rw [lbA,lbA,lbA] at hw
  rcases hw with ((hw|hw)|hw)|hw
  ·split at hw
   ·cases hw
   ·simp at hw;subst hw
    exact ⟨a4V (a2u _) (N7 (by decide) (by decide)),z1⟩
  ·unfold O7 at hw
   split at hw
   ·cases hw
   ·rename_i lo hi' hiv
    simp at hw;subst hw
    refine ⟨N7 (by decide) (by decide),?_⟩
    unfold N3 at hiv
    split at hiv
    ·cases hiv
    ·exact b5D hiv
  ·obtain ⟨g,hg,rfl⟩:=lby.1 hw
   unfold j8 at hg
   obtain ⟨f,hf',rfl⟩:=lby.1 hg
   have:=P3 q4 f (lbz.1 hf').1
   refine ⟨N7 (by decide) (by decide),?_⟩
   show rl ((f.grams:Int):Rat)<=11
   rw [a0W]
   have:=a46 (x:=f.grams) (by omega) (by omega)
   have h1:bl 1<=1:=B9 (by decide) (by decide)
   omega
  ·rw [List.mem_replicate] at hw
   rw [hw.2]
   exact ⟨N7 (by decide) (by decide),z1⟩
 intro w hw
 exact lbM (lbw.1 key w hw)
theorem b9S {s:k7} {g:List (Int × Rat)} {B0:Nat} (hI:∀w ∈ s.rows,b1Z B0 w) (hg:S8 g):∀D,U9 (g8 s).length s.n.toNat (k5 s g) D->BdD (g8 s).length s.n.toNat (2 ^ s.n.toNat*(B0+4)) D:=by
 rintro D ⟨k,hk⟩
 have inv:=a1n a1o hk
 have h0:=b2u (g:=g) hI
 refine ⟨fun i hi=>b77 h0 (by omega) inv.p inv.i hi,fun i hi j hj=>b6p h0 (by omega) inv.p inv.i hi hj,fun j hj=>?_⟩
 obtain ⟨z,hz⟩:=inv.g
 have hc:∀j,∃c:Int,L3 g j=((c:Int):Rat)∧bl c<=1:=fun j=>a2N hg g.length j
 refine b6f h0 (by omega) inv.p inv.i hz (q:=1) (b:=fun l=>-(Classical.choose (hc l))) (by decide) (by have:=B9 (x:=1) (by decide) (by decide);omega) (fun l hl=>?_) (fun l hl=>?_) hj
 ·have:=(Classical.choose_spec (hc l)).2
  show bl (-(Classical.choose (hc l)))<=_
  rw [a5c];omega
 ·have hs:=(Classical.choose_spec (hc l)).1
  show ((1:Int):Rat)*-(L3 g l)=((-(Classical.choose (hc l)):Int):Rat)
  generalize Classical.choose (hc l)=x at hs ⊢
  rw [hs]
  have e:((-x:Int):Rat)=-((x:Int):Rat):=by push_cast;rfl
  rw [e]
  have h1:((1:Int):Rat)=1:=rfl
  rw [h1];grind
theorem a9A {l:List (Int × Rat)} {z:List Rat} {B:Nat} (h1:∀t ∈ l,rl t.2<=1) (h2:∀v ∈ z,rl v<=B):∀k,rl (m6 (l.take k) z)<=l.length*(B+4)+1:=by
 have key:∀k,k<=l.length->rl (m6 (l.take k) z)<=k*(B+4)+1:=by
  intro k
  induction k with
  |zero=>intro _;rw [List.take_zero];have:=rl0;show rl 0<=_;omega
  |succ k ih=>
   intro hk
   have ih:=ih (by omega)
   rw [List.take_succ_eq_append_getElem (show k<l.length by omega),Q5]
   have a1:=h1 l[k] (lbF _)
   have a2:rl (z.getD l[k].1.toNat 0)<=B+1:=by
    by_cases hz:l[k].1.toNat<z.length
    ·have:=h2 _ (lbm (getD_some hz));omega
    ·rw [lbl,lbd (by omega)]
     have:=rl0
     show rl 0<=_
     omega
   have a3:=aZ6 l[k].2 (z.getD l[k].1.toNat 0)
   have a4:=a2s (m6 (l.take k) z) (l[k].2*z.getD l[k].1.toNat 0)
   rw [lbV]
   omega
 intro k
 by_cases hk:k<=l.length
 ·have h3:=key k hk
  have h4:=lbU (B+4) hk
  omega
 ·have h3:=key l.length (lbR _)
  rw [lbn (lbR _)] at h3
  rw [lbn (by omega)];exact h3
theorem a1U {l:List (Int × Rat)} (h:S8 l):∀t ∈ l,rl t.2<=1:=by
 intro t ht
 obtain ⟨c,hc,hb⟩:=h t ht
 rw [hc,a0W]
 have h1:bl 1<=1:=B9 (by decide) (by decide)
 omega
theorem aZ5:∀n,n<=8->(n+3)*(2 ^ n*15+2)<=50000∧n*(2 ^ n*15+4)+1<=50000∧1<=2 ^ n*15:=by
 intro n hn
 have:∀n,n<9->(n+3)*(2 ^ n*15+2)<=50000∧n*(2 ^ n*15+4)+1<=50000∧1<=2 ^ n*15:=by decide
 exact this n (by omega)
theorem O4 {t:g7} {kind:Int} (ht:s6 t=0) (hm:t.ev.moves.length<=8) {g:List (Int × Rat)} (hg:k6 (-1) (t.ev.moves.length:Nat) g=true) (hw:S8 g):
 F4 (m7 t kind) g t.ev.moves.length (2 ^ t.ev.moves.length*15):=by
 obtain ⟨q1,q2,q3,q4,q5⟩:=B4 ht
 have hB:=bb0 (kind:=kind) ht (by omega)
 have hl:(m7 t kind).rows.length<=576:=by
  have h1:=S7 (t:=t) (kind:=kind) t.ev.moves.length
  have h2:t.ev.moves.length*(2+t.finds.length+t.cleans.length)<=8*72:=lbT hm (by omega)
  show (z6 t kind t.ev.moves.length).length<=_
  omega
 have hwr:=a1U hw
 refine ⟨⟨a1k (by omega) q2 q3,hg,rfl,by omega,fun w hw=>?_,fun t ht=>by have:=hwr t ht;omega,by omega⟩,hB,fun t ht=>by have:=hwr t ht;omega,?_,(aZ5 _ hm).2.2,(aZ5 _ hm).1,by omega⟩
 ·obtain ⟨a1,a2,a3⟩:=hB.t w hw
  exact ⟨by omega,fun t ht=>by have:=a2 t ht;omega⟩
 ·exact b9S (B0:=11) (b9E ht) hw
theorem a7J {s:k7} {g:List (Int × Rat)} {n B:Nat} (h:F4 s g n B):∀v ∈ n7 s g,rl v<=B:=by
 intro v hv
 have hb:=a8j h
 have hn:=h.nn
 have h1:=h.b1
 obtain ⟨j,hj,rfl⟩:=aA5 hv
 have hp:Y3 (g8 s).length s.n.toNat (G4 s g):=W9.p
 rw [hn] at hj hp ⊢
 rw [← aS7 hp hj]
 have key:∀k,k<=(g8 s).length->rl (ptK n (G4 s g).O (G4 s g).V (fun _=>0) k j)<=B:=by
  intro k
  induction k with
  |zero=>intro _;have:=rl0;show rl 0<=_;omega
  |succ k ih=>
   intro hk
   rw [R5]
   simp only
   split
   ·exact hb.v k (by omega)
   ·exact ih (by omega)
 exact key _ (lbR _)
theorem ao8 {l:List (Int × Rat)} (h:S8 l):S8 (G1 l):=by
 intro t ht
 obtain ⟨u,hu,rfl⟩:=lby.1 ht
 obtain ⟨c,hc,hb⟩:=h u hu
 refine ⟨-c,?_,by rw [a5c];exact hb⟩
 show u.2*((-1:Int):Rat)=((-c:Int):Rat)
 rw [hc]
 have e:((-c:Int):Rat)=-((c:Int):Rat):=by push_cast;rfl
 have e1:((-1:Int):Rat)=-1:=rfl
 rw [e,e1];grind
theorem a2T {n:Int}:∀{l:List (Int × Rat)} {last:Int},k6 last n l=true->k6 last n (G1 l)=true
 |[],_,_=>rfl
 |a::r,last,h=>by
  unfold k6 at h
  show k6 last n ((a.1,a.2*((-1:Int):Rat))::G1 r)=true
  unfold k6
  simp only [lbN,lbJ] at h ⊢
  refine ⟨⟨⟨h.1.1.1,h.1.1.2⟩,fun e=>h.1.2 ?_⟩,a2T h.2⟩
  have e1:((-1:Int):Rat)=-1:=rfl
  rw [e1] at e
  grind
theorem b0y (l:List (Int × Rat)):(G1 l).length=l.length:=a1B _ _
theorem aV7 {t:g7} {kind:Int} (ht:s6 t=0) (hm:t.ev.moves.length<=8) {g:List (Int × Rat)} (hg:k6 (-1) (t.ev.moves.length:Nat) g=true) (hw:S8 g):
 b20 (m7 t kind) g t.ev.moves.length (2 ^ t.ev.moves.length*15) (2 ^ t.ev.moves.length*15) (2 ^ t.ev.moves.length*15):=by
 have p:=O4 (kind:=kind) ht hm hg hw
 have q:=O4 (kind:=kind) ht hm (a2T hg) (ao8 hw)
 have z:=O4 (kind:=kind) ht hm (g:=[]) rfl (fun t ht=>by cases ht)
 have hl:g.length<=t.ev.moves.length:=by
  have:=J6 hg
  omega
 have hp:=(aZ5 _ hm).2.1
 have hmul:=lbU (2 ^ t.ev.moves.length*15+4) hl
 refine ⟨p,q,z,a8G (by omega) hg,fun k=>?_,fun k=>?_⟩
 ·have:=a9A (a1U hw) (a7J p) k
  omega
 ·have:=a9A (a1U (ao8 hw)) (a7J q) k
  rw [b0y] at this
  omega
noncomputable def W7 (s:k7) (g:List (Int × Rat)) (hh:Int):a3k:=
 open Classical in
 if 0<m6 g (n7 s g) then b7L s g hh else match J9 s (G1 g) with
 |.col c=>aC3 s g c hh
 |_=>if m6 (G1 g) (n7 s (G1 g))<0 then b7O s g hh else ax3 s g hh
theorem a6L {z:List Rat} (hz:∀v ∈ z,0<=v):∀l:List (Int × Rat),(∀ t ∈ l,0<=t.2)->0<=m6 l z:=by
 intro l hl
 have key:∀k,k<=l.length->0<=m6 (l.take k) z:=by
  intro k
  induction k with
  |zero=>intro _;rw [List.take_zero];exact lb2
  |succ k ih=>
   intro hk
   have ih:=ih (by omega)
   rw [List.take_succ_eq_append_getElem (show k<l.length by omega),Q5]
   have h1:=hl l[k] (lbF _)
   have h2:0<=z.getD l[k].1.toNat 0:=by
    by_cases hlt:l[k].1.toNat<z.length
    ·exact hz _ (lbm (getD_some hlt))
    ·rw [lbl,lbd (by omega)];exact lb2
   have h3:=lb1 h1 h2
   grind
 have:=key l.length (lbR _)
 rwa [List.take_length] at this
theorem aq6 {s:k7} {g:List (Int × Rat)} (hr:m8 s=true) (hg:k6 (-1) ((s.n.toNat:Nat):Int) g=true) (hp:∀t ∈ g,0<=t.2) (hz:J9 s []=.best):J9 s g=.best:=by
 rcases a82 s g with h|⟨r,h⟩|⟨c,h⟩
 ·exact h
 ·have h1:=(a00 hr rfl hz).1
  rw [a3j h] at h1;cases h1
 ·obtain ⟨h1,h2⟩:=a9b hr hg h
  have:=a6L h1.pos g hp
  exact absurd h2 (by grind)
theorem not_row {s:k7} {g:List (Int × Rat)} (hr:m8 s=true) (hz:J9 s []=.best):J9 s g=.best∨∃c,J9 s g=.col c:=by
 rcases a82 s g with h|⟨r,h⟩|h
 ·exact .inl h
 ·have h1:=(a00 hr rfl hz).1
  rw [a3j h] at h1;cases h1
 ·exact .inr h
theorem b2Z (s:k7) (g:List (Int × Rat)) (n B B1 B0:Nat) (h:b20 s g n B B1 B0) (hh:Int) (hp:∀t ∈ g,0<=t.2) (hz:J9 s []=.best):
 e7 Tryz.prog 75 [a1b s,z9 g,b7 .i64 hh] [] (b4Z (W7 s g hh)) []:=by
 have hn:=h.p.nn
 have hg:k6 (-1) ((s.n.toNat:Nat):Int) g=true:=by rw [hn];exact h.p.o.tg
 have hb:=aq6 h.p.o.r hg hp hz
 unfold W7
 by_cases h1:0<m6 g (n7 s g)
 ·rw [if_pos h1];exact a9Q s g n B B1 B0 h hh hb h1
 ·rw [if_neg h1]
  rcases not_row (g:=G1 g) h.p.o.r hz with h2|⟨c,h2⟩
  ·rw [h2];simp only
   by_cases h3:m6 (G1 g) (n7 s (G1 g))<0
   ·rw [if_pos h3];exact aD2 s g n B B1 B0 h hh hb h1 h2 h3
   ·rw [if_neg h3];exact ai8 s g n B B1 B0 h hh hb h1 h2 h3
  ·rw [h2];exact ak7 s g n B B1 B0 c h hh hb h1 h2 hz
theorem a8u {n:Int}:∀{l:List Int} {last:Int},(∀ (i:Nat) (x:Int),l[i]? =some x->last<x∧x<n)->(∀ (i:Nat) (x y:Int),l[i]? =some x->l[i+1]? =some y->x<y)->k6 last n (a4t l)=true
 |[],_,_,_=>rfl
 |a::r,last,h1,h2=>by
  show k6 last n ((a,((1:Int):Rat))::a4t r)=true
  unfold k6
  simp only [lbN,lbJ]
  have h3:=h1 0 a rfl
  refine ⟨⟨h3,by decide⟩,a8u (fun i x hx=>?_) (fun i x y hx hy=>h2 (i+1) x y (by simpa using hx) (by simpa using hy))⟩
  have h4:=h1 (i+1) x (by simpa using hx)
  refine ⟨?_,h4.2⟩
  have key:∀(i:Nat) (x:Int),r[i]? =some x->a<x:=by
   intro i
   induction i with
   |zero=>intro x hx;exact h2 0 a x rfl (by simpa using hx)
   |succ i ih=>
    intro x hx
    obtain ⟨y,hy⟩:∃y,r[i]? =some y:=⟨_,lbf (by have:=(lbe.1 hx).1;omega)⟩
    have:=ih y hy
    have:=h2 (i+1) y x (by simpa using hy) (by simpa using hx)
    omega
  exact key i x hx
theorem a4s (t:g7) (h:Int):k6 (-1) (t.ev.moves.length:Nat) (E9 t h)=true:=by
 obtain ⟨a1,a2⟩:=ao7 t.ev h (-1) 0 100000
 exact a8u (fun i x hx=>by have:=a1 i x hx;omega) a2
theorem aN9 (t:g7) (h:Int):S8 (E9 t h):=by
 intro u hu
 obtain ⟨i,_,rfl⟩:=lby.1 hu
 exact ⟨1,rfl,B9 (by decide) (by decide)⟩
theorem a7E (t:g7) (h:Int):∀u ∈ E9 t h,0<=u.2:=by
 intro u hu
 obtain ⟨i,_,rfl⟩:=lby.1 hu
 show (0:Rat)<=((1:Int):Rat)
 decide
theorem a3H {t:g7} {h:Int}:(L2 t.ev h (-1) 0 100000).length<=t.ev.moves.length:=by
 have:=J6 (a4s t h)
 have e:(E9 t h).length=(L2 t.ev h (-1) 0 100000).length:=by simp [E9,a4t]
 omega
noncomputable def O9 (t:g7) (kind:Int) (k:Nat):List a3k:=(List.range k).map fun i:Nat=>W7 (m7 t kind) (E9 t (i:Int)) (i:Int)
theorem a1N (t:g7) (kind:Int) (k:Nat):(O9 t kind k).length=k:=by simp [O9]
theorem aI6 (t:g7) (kind:Int) (k:Nat):O9 t kind (k+1)=O9 t kind k++[W7 (m7 t kind) (E9 t k) k]:=by simp [O9,List.range_succ]
abbrev ba7 (l:List a3k):T:=.sl 5 .any (l.map a3k.row)
abbrev ao5 (l:List a3k):S:=.c (.t (ba7 l))
abbrev b9f (l:List a3k):Blk:={ mode:=.live,elem:=51,size:=5,rows:=toC (l.map a3k.row),box:=false }
abbrev b7K (s:k7):Blk:={ mode:=.live,elem:=70,size:=2,rows:=[[.t (ti s.n),.t (a06 s.rows)]],box:=true }
theorem b1C (s:k7):K7 (b7K s).rows:=j6 [[ti s.n,a06 s.rows]]
theorem a9R (t:g7) (kind:Int) (hs:t.Sized) (h:a16 t kind≠0):e7 Tryz.prog 28 [trS t,b7 .i64 kind] [] (.tup [ao5 [],b7 .i64 1]) []:=by
 have sy:=a2O t kind hs
 (refine ac Tryz.func28 ?_;(conv=>whnf);repeat ((first|refine b0x ?_|refine zy ?_);conv=>whnf))
 repeat' (first|refine zx ?_|refine qp sy ?_|refine qp 5 ?_|refine bl0 [5] ?_|refine zd ?_ ?_<;>intro h<;>try omega|fail)<;>conv=>whnf
 all_goals first
  |omega
  |exact v8 ⟨rfl,rfl,trivial⟩
theorem a7D (t:g7) (kind:Int) (hs:t.Sized) (ht:s6 t=0) (k0:0<=kind) (k1:kind<8) (hm:t.ev.moves.length<=8) (r:Nat) (hz:J9 (m7 t kind) []=.row r):
 e7 Tryz.prog 28 [trS t,b7 .i64 kind] [] (.tup [ao5 [],b7 .i64 15]) []:=by
 have sy:=a2O t kind hs
 have hc:¬(s6 t≠0∨kind<0∨8<=kind):=by omega
 have e1:a16 t kind=0:=if_neg hc
 have e2:aB0 t kind=m7 t kind:=if_neg hc
 rw [e1,e2] at sy
 have so:=a5D (m7 t kind) _ _ r (O4 (kind:=kind) ht hm (g:=[]) rfl (fun t ht=>by cases ht)) hz
 (refine ac Tryz.func28 ?_;(conv=>whnf);repeat ((first|refine b0x ?_|refine zy ?_);conv=>whnf))
 repeat' (first|refine zx ?_|refine qp sy ?_|refine qp so ?_|refine qp 5 ?_|refine bl0 [5] ?_|refine zd ?_ ?_<;>intro h<;>try omega|fail)<;>conv=>whnf
 all_goals first
  |omega
  |exact v8 ⟨rfl,rfl,trivial⟩
theorem a5A (t:g7) (kind:Int) (hs:t.Sized) (ht:s6 t=0) (k0:0<=kind) (k1:kind<8) (hm:t.ev.moves.length<=8) (hh:Nat) (hhs:t.ev.hhs=hh) (h100:hh<=1000) (hz:J9 (m7 t kind) []=.best):
 e7 Tryz.prog 28 [trS t,b7 .i64 kind] [] (.tup [ao5 (O9 t kind hh),b7 .i64 0]) []:=by
 have sy:=a2O t kind hs
 have hc:¬(s6 t≠0∨kind<0∨8<=kind):=by omega
 have e1:a16 t kind=0:=if_neg hc
 have e2:aB0 t kind=m7 t kind:=if_neg hc
 rw [e1,e2] at sy
 have lz:=O4 (kind:=kind) ht hm (g:=[]) rfl (fun t ht=>by cases ht)
 have so:=a3Z (m7 t kind) _ _ lz hz (fun v hv=>by have:=a7u lz v hv;omega)
 (refine ac Tryz.func28 ?_;(conv=>whnf);repeat ((first|refine b0x ?_|refine zy ?_);conv=>whnf))
 repeat' (first|refine zx ?_|refine qp sy ?_|refine qp so ?_|refine qp 5 ?_|refine bl0 [5] ?_|refine zd ?_ ?_<;>intro h<;>try omega|fail)<;>conv=>whnf
 all_goals try omega
 refine j5 e8 (fun k=>([J,J,S.c (C.t (T.ptr (trT t))),J,J,J,S.c (C.ptr 0 0 0),J,J,J,J,S.c (C.own 1 0 k true)]++Jn 19++[b7 .i64 hh,b7 .i64 k]++Jn 13,[b7K (m7 t kind),b9f (O9 t kind k)])) hh (fun _=>True) [some 0,none] trivial
  ⟨rfl,rfl,⟨k9 (b1C _),⟨rfl,rfl⟩,trivial⟩,⟨k8 rfl,⟨rfl,rfl,rfl⟩,⟨rfl,rfl,rfl⟩,g9 hhs,g9 rfl,trivial⟩⟩ ?_
 intro k hk _
 by_cases hlt:k<hh
 ·have go:=b6W t hs k (by have:=a3H (t:=t) (h:=k);omega)
  have eg:b1d t k=E9 t k:=if_pos ⟨ht,by omega,by omega⟩
  rw [eg] at go
  have ve:=b2Z (m7 t kind) (E9 t k) _ _ _ _ (aV7 (kind:=kind) ht hm (a4s t k) (aN9 t k)) k (a7E t k) hz
  have lA:k<=(b9f (O9 t kind k)).rows.length:=by show k<=(toC _).length;simp [toC,a1N]
  conv=>whnf
  repeat' (first|refine zx ?_|refine qp go ?_|refine qp ve ?_|refine qp toC ?_|refine E4 lA (by simp [toC];omega) ?_|refine zd ?_ ?_<;>intro h<;>try omega|fail)<;>conv=>whnf
  all_goals first
   |omega
   |(refine ⟨hlt,trivial,[some 0,some 2],rfl,rfl,⟨k9 (b1C _),b8 (rows:=(O9 t kind (k+1)).map a3k.row) rfl rfl rfl ?_ rfl,trivial⟩,⟨rfl,⟨rfl,rfl,rfl⟩,⟨rfl,rfl,rfl,fun h=>h⟩,rfl,g9 (by omega),trivial⟩⟩
     rw [aI6]
     exact a2D (f:=a3k.row) (x:=W7 (m7 t kind) (E9 t k) k) (a1N t kind k).symm)
 ·have hke:k=hh:=by omega
  subst hke
  conv=>whnf
  repeat' (first|refine zx ?_|refine zd ?_ ?_<;>intro h<;>try omega|fail)<;>conv=>whnf
  all_goals first
   |omega
   |exact v8 ⟨(show VC _ (fun id=>Q2 [] id=true) (C.own 1 0 k true) _ from D6 (k:=b9f (O9 t kind k)) rfl rfl (fun h=>h) rfl rfl (by simp [a1N])),rfl,trivial⟩
structure PtB (s:k7) (z:List Rat):Prop where
 v:∀v ∈ z,rl v<=40000
 S:∀w ∈ s.rows,∀k,rl (m6 (w.terms.take k) z)<=50000
 l:z.length<=1000000
theorem b3K (s:k7) (hb:b3n s) (hr:m8 s=true) (Z:List Rat) (hp:PtB s Z):
 e7 Tryz.prog 135 [a1b s,F3 (Z.map fz)] [] (i8 (i7 s Z)) []:=by
 have m1:(s.rows.map E1).length=s.rows.length:=by simp
 have m2:((Z.map fz).map q9).length=Z.length:=by simp
 have l1:=hb.n0
 have l2:=hp.l
 have lr:=a6K s hb
 rw [hr] at lr
 have pt:=b1c (Z.map fz) (by simpa using hp.l) (fun f hf=>by
  obtain ⟨x,hx,rfl⟩:=lby.1 hf
  have:=hp.v x hx
  have a:=U8 x
  have b:=V3 x
  exact ⟨by show bl x.num<=_;omega,by show bl x.den<=_;omega⟩)
 rw [ap2] at pt
 by_cases hn:(Z.length:Int)≠s.n
 ·have e2:i7 s Z=false:=by unfold i7;rw [lbK hn];simp
  rw [e2]
  (refine ac Tryz.func135 ?_;(conv=>whnf);repeat ((first|refine b0x ?_|refine zy ?_);conv=>whnf))
  repeat' (first|refine zx ?_|refine qp lr ?_|refine qp pt ?_|refine zd ?_ ?_<;>intro h<;>try omega|fail)<;>conv=>whnf
  all_goals first
   |omega
   |exact i3 rfl
 have hn:(Z.length:Int)=s.n:=by omega
 have e2:i7 s Z=(Z.all (fun v=>decide (0<=v)) && s.rows.all (fun w=>U5 w Z)):=by unfold i7;rw [hr,lbI hn];simp
 rw [e2]
 (refine ac Tryz.func135 ?_;(conv=>whnf);repeat ((first|refine b0x ?_|refine zy ?_);conv=>whnf))
 repeat' (first|refine zx ?_|refine qp lr ?_|refine qp pt ?_|refine zd ?_ ?_<;>intro h<;>try omega|fail)<;>conv=>whnf
 all_goals try omega
 refine j5 e8 (fun k=>([J,F3 (Z.map fz),S.c (C.t (T.ptr [ti s.n,a06 s.rows]))]++Jn 22++[F3 (Z.map fz),b7 .i64 Z.length,b7 .i64 k]++Jn 38,[])) Z.length (fun k=>(Z.take k).all (fun v=>decide (0<=v))=true) [] rfl
  ⟨rfl,rfl,trivial,⟨rfl,rfl,rfl,g9 (by simp),rfl,trivial⟩⟩ ?_
 intro k hk hI
 by_cases hlt:k<Z.length
 ·obtain ⟨x,hx⟩:∃x,Z[k]? =some x:=⟨_,lbf hlt⟩
  have bx:=hp.v x (lbm hx)
  have sg:=X7 x (by omega)
  have sn:=b0H (x:=x)
  conv=>whnf
  repeat' (first|refine zx ?_|refine qp sg ?_|refine g6 (aL3 Z hx) ?_|refine zd ?_ ?_<;>intro h<;>try omega|fail)<;>conv=>whnf
  all_goals first
   |omega
   |(have h0:¬sgR x<0:=by omega
     exact ⟨hlt,by rw [G3 hx,hI];simpa using lb3.1 (fun h=>h0 (sn.2 h)),[],rfl,rfl,trivial,⟨rfl,rfl,rfl,rfl,rfl,trivial⟩⟩)
   |(have h0:sgR x<0:=by omega
     have hF:Z.all (fun v=>decide (0<=v))=false:=K6 hx (lbK (Rat.not_le.2 (sn.1 h0)))
     refine i3 ?_;rw [hF];rfl)
 ·have hA:Z.all (fun v=>decide (0<=v))=true:=by rw [← hI,lbn (by omega)]
  rw [hA,Bool.true_and]
  conv=>whnf
  repeat' (first|refine zx ?_|refine zd ?_ ?_<;>intro h<;>try omega|fail)<;>conv=>whnf
  all_goals try omega
  clear hI hlt hk
  refine j5 e8 (fun k=>([J,F3 (Z.map fz)]++Jn 34++[S.c (C.t (a06 s.rows)),b7 .i64 s.rows.length,b7 .i64 k]++Jn 27,[])) s.rows.length (fun k=>(s.rows.take k).all (fun w=>U5 w Z)=true) [] rfl
   ⟨rfl,rfl,trivial,⟨rfl,rfl,g9 (by simp),rfl,trivial⟩⟩ ?_
  intro k hk hI
  by_cases hlt:k<s.rows.length
  ·obtain ⟨w,hw⟩:∃w,s.rows[k]? =some w:=⟨_,lbf hlt⟩
   obtain ⟨b1,b2,b3⟩:=hb.t w (lbm hw)
   have hrw:B5 s.n w=true:=by
    unfold m8 at hr
    simp only [lbN,lbw] at hr
    exact hr.2 w (lbm hw)
   have hrt:k6 (-1) Z.length w.terms=true:=by
    unfold B5 at hrw
    simp only [lbN] at hrw
    rw [hn];exact hrw.1.1
   have hS:=hp.S w (lbm hw)
   have va:=aM2 w.terms Z (by omega) (fun t ht=>by have:=b2 t ht;omega) hp.v (fun k=>by have:=hS k;omega) (by omega) hrt
   have bv:=hS w.terms.length
   rw [lbn (lbR _)] at bv
   have c:=a20 (m6 w.terms Z) w.value (by omega) (by omega)
   have k1:=a70 (x:=m6 w.terms Z) (y:=w.value)
   have k2:=ad4 (x:=m6 w.terms Z) (y:=w.value)
   have hro:=a2Z (w:=w) (z:=Z)
   rw [← k1,←k2] at hro
   generalize a1Y (m6 w.terms Z) w.value=U at c hro
   by_cases hok:(U<0->w.kind=1)∧(U > 0->w.kind=0)
   ·have hT:=hro.2 hok
    obtain ⟨q1,q2⟩:=hok
    conv=>whnf
    repeat' (first|refine zx ?_|refine qp va ?_|refine qp c ?_|refine g6 hw ?_|refine zd ?_ ?_<;>intro h<;>try omega|fail)<;>conv=>whnf
    all_goals first
     |omega
     |exact ⟨hlt,by rw [G3 hw,hI,hT];rfl,[],rfl,rfl,trivial,⟨rfl,rfl,rfl,rfl,trivial⟩⟩
   ·have hF:U5 w Z=false:=by rw [← lbQ];exact fun h=>hok (hro.1 h)
    rw [K6 hw hF]
    have hor:(U<0∧w.kind≠1)∨(U > 0∧w.kind≠0):=by omega
    clear hro hok
    conv=>whnf
    repeat' (first|refine zx ?_|refine qp va ?_|refine qp c ?_|refine g6 hw ?_|refine zd ?_ ?_<;>intro h<;>try omega|fail)<;>conv=>whnf
    all_goals first
     |omega
     |exact i3 rfl
  ·rw [lbn (by omega)] at hI
   rw [hI]
   conv=>whnf
   repeat' (first|refine zx ?_|refine zd ?_ ?_<;>intro h<;>try omega|fail)<;>conv=>whnf
   all_goals first
    |omega
    |exact i3 rfl
def yN (Y:List Rat) (i:Nat):Rat:=Y.getD i 0
def sgB (s:k7) (Y:List Rat) (i:Nat):Bool:=!((decide ((R0 s i).kind=0) && decide (yN Y i<0)) || (decide ((R0 s i).kind=1) && decide (0<yN Y i)))
def b7M (s:k7) (Y:List Rat):Bool:=decide (Y.length=s.rows.length) && (List.range s.rows.length).all (sgB s Y)
def bd3 (s:k7) (y:Nat->Rat) (l k:Nat):Rat:=i9 (fun i=>y i*L3 (R0 s i).terms l) k
def bd4 (s:k7) (y:Nat->Rat) (k:Nat):Rat:=i9 (fun i=>y i*(R0 s i).value) k
def b4d (s:k7) (g:List (Int × Rat)) (Y:List Rat):Bool:=b7M s Y && k6 (-1) s.n g && (List.range s.n.toNat).all fun v=>decide (aW3 s (yN Y) v<=L3 g v)
def b8I (s:k7) (Y:List Rat):Bool:=b4d s [] Y && decide (0<b35 s (yN Y))
def aW5 (s:k7) (g:List (Int × Rat)):k7:=⟨s.n,s.rows++[⟨g,2,((0:Int):Rat)⟩]⟩
theorem aL6 {s:k7} {g:List (Int × Rat)} (hr:m8 s=true) (hl:s.rows.length<6000) (hg:k6 (-1) s.n g=true):m8 (aW5 s g)=true:=by
 unfold m8 at hr ⊢
 simp only [lbN,lbJ] at hr ⊢
 refine ⟨⟨hr.1.1,by simp [aW5];omega⟩,?_⟩
 show (s.rows++[_]).all (B5 s.n)=true
 rw [List.all_append,hr.2]
 simp [B5,hg]
theorem a01 {s:k7} {g:List (Int × Rat)} (z:List Rat):∀l:List (Int × Rat),m6 (G1 l) z=-(m6 l z):=by
 intro l
 have key:∀k,k<=l.length->m6 ((G1 l).take k) z=-(m6 (l.take k) z):=by
  intro k
  induction k with
  |zero=>intro _;rw [List.take_zero,List.take_zero];show (0:Rat)=-0;grind
  |succ k ih=>
   intro hk
   have ih:=ih (by omega)
   have ht:l[k]? =some l[k]:=lbf (by omega)
   rw [show (G1 l).take (k+1)=_ from a8P l _ ht,Q5,List.take_succ_eq_append_getElem (show k<l.length by omega),Q5,show (a0V l ((-1:Int):Rat)).take k=(G1 l).take k from rfl,ih]
   have e1:((-1:Int):Rat)=-1:=rfl
   rw [e1];simp only;grind
 have:=key l.length (lbR _)
 rwa [lbn (by rw [b0y];exact lbR _),lbn (lbR _)] at this
structure VdP (s:k7) (g:List (Int × Rat)):Prop where
 r:m8 s=true
 p:∀t ∈ g,0<=t.2
 z:J9 s []=.best
 g:k6 (-1) ((s.n.toNat:Nat):Int) g=true
theorem VdP.og {s:k7} {g:List (Int × Rat)} (h:VdP s g):k6 (-1) ((s.n.toNat:Nat):Int) (G1 g)=true:=a2T h.g
theorem VdP.pos {s:k7} {g:List (Int × Rat)} (h:VdP s g) {z:List Rat} (hz:i7 s z=true):0<=m6 g z:=a6L (a1u hz) g h.p
theorem VdP.least {s:k7} {g:List (Int × Rat)} (h:VdP s g):i7 s (n7 s g)=true∧∀z,i7 s z=true->m6 g (n7 s g)<=m6 g z:=a00 h.r h.g (aq6 h.r h.g h.p h.z)
theorem VdP.has {s:k7} {g:List (Int × Rat)} (h:VdP s g):i7 s (n7 s [])=true:=(a00 h.r rfl h.z).1
theorem VdP.ray {s:k7} {g:List (Int × Rat)} (h:VdP s g) {c:Nat} (hc:J9 s (G1 g)=.col c):i7 s (a7S (n7 s []) (a8W s (G1 g) c))=true∧0<m6 g (a7S (n7 s []) (a8W s (G1 g) c)):=by
 obtain ⟨h1,h2⟩:=a9b h.r h.og hc
 refine ⟨ar1 h.has h1,?_⟩
 have h3:=Z2 h.has
 have hn:=a4h h.r
 rw [a5e (n:=s.n.toNat) (by omega) h1.len h.g]
 rw [a01 (s:=s) (g:=g)] at h2
 have:=h.pos h.has
 grind
theorem a1E {s:k7} {g:List (Int × Rat)} (h:VdP s g) (hh:Int):
 ((W7 s g hh).state=2∧(∀ z,i7 s z=true->0<m6 g z))∨((W7 s g hh).state=0∧(∀ z,i7 s z=true->m6 g z=0))∨((W7 s g hh).state=1∧(∃ z,i7 s z=true∧0<m6 g z)∧∃z,i7 s z=true∧m6 g z=0):=by
 obtain ⟨h1,h2⟩:=h.least
 unfold W7
 by_cases hp:0<m6 g (n7 s g)
 ·rw [if_pos hp]
  exact .inl ⟨rfl,fun z hz=>by have:=h2 z hz;grind⟩
 ·rw [if_neg hp]
  have hz0:m6 g (n7 s g)=0:=by have:=h.pos h1;grind
  rcases not_row (g:=G1 g) h.r h.z with ho|⟨c,ho⟩
  ·rw [ho]
   simp only
   obtain ⟨p1,p2⟩:=a00 h.r h.og ho
   by_cases hn:m6 (G1 g) (n7 s (G1 g))<0
   ·rw [if_pos hn]
    rw [a01 (s:=s) (g:=g)] at hn
    exact .inr (.inr ⟨rfl,⟨_,p1,by grind⟩,⟨_,h1,hz0⟩⟩)
   ·rw [if_neg hn]
    refine .inr (.inl ⟨rfl,fun z hz=>?_⟩)
    have:=p2 z hz
    rw [a01 (s:=s) (g:=g),a01 (s:=s) (g:=g)] at this
    rw [a01 (s:=s) (g:=g)] at hn
    have:=h.pos p1
    have:=h.pos hz
    grind
  ·rw [ho]
   simp only
   obtain ⟨r1,r2⟩:=h.ray ho
   exact .inr (.inr ⟨rfl,⟨_,r1,r2⟩,⟨_,h1,hz0⟩⟩)
theorem b6T {s:k7} {g:List (Int × Rat)} (hh:Int):(W7 s g hh).hh=hh:=by
 unfold W7
 split
 ·rfl
 ·split
  ·rfl
  ·split<;>rfl
theorem b8H {s:k7} {x:List Rat} {B:Nat} (hr:m8 s=true) (hI:∀w ∈ s.rows,b1Z 11 w) (hB:B<=40000) (hn:s.n.toNat*(B+4)+1<=50000) (hl:x.length<=1000000) (hx:∀v ∈ x,rl v<=B):PtB s x:=by
 refine ⟨fun v hv=>lbS (hx v hv) hB,fun w hw k=>?_,hl⟩
 obtain ⟨i,hi,rfl⟩:=List.getElem_of_mem hw
 have hrt:=(a1c hr (lbf hi)).1
 have h1:=a9A (a1U (hI _ hw).1) hx k
 have h2:=J6 hrt
 have h3:s.rows[i].terms.length<=s.n.toNat:=by omega
 have h4:=lbU (B+4) h3
 omega
structure ExP (t:g7) (kind:Int) (n:Nat):Prop where
 s:t.Sized
 e:s6 t=0
 k0:0<=kind
 k1:kind<8
 m:t.ev.moves.length<=8
 h:t.ev.hhs=(n:Nat)
 z:J9 (m7 t kind) []=.best
theorem ExP.vd {t:g7} {kind:Int} {n:Nat} (h:ExP t kind n) (hh:Int):VdP (m7 t kind) (E9 t hh):=by
 have p:=O4 (kind:=kind) h.e h.m (g:=[]) rfl (fun t ht=>by cases ht)
 exact ⟨p.o.r,a7E t hh,h.z,a4s t hh⟩
theorem b0Q {t:g7} {kind:Int} (ht:s6 t=0) (hm:t.ev.moves.length<=8) {z:List Rat} (hz:i7 (m7 t kind) z=true):J9 (m7 t kind) []=.best:=by
 have p:=O4 (kind:=kind) ht hm (g:=[]) rfl (fun t ht=>by cases ht)
 rcases av6 p.o.r with h|⟨r,h⟩
 ·exact h
 ·rw [a3j h z] at hz;cases hz
def f22:List L1:=[⟨2,0,5⟩]
theorem b1b {t:g7} {kind:Int} {n:Nat} (h:ExP t kind n) (i:Nat) (hA:∀z,i7 (m7 t kind) z=true->0<m6 (E9 t (i:Int)) z):(W7 (m7 t kind) (E9 t (i:Int)) (i:Int)).state=2:=by
 rcases a1E (h.vd (i:Int)) (i:Int) with ⟨h2,_⟩|⟨_,h2⟩|⟨_,_,y,h3,h4⟩
 ·exact h2
 ·have h3:=(h.vd (i:Int)).has
  have:=hA _ h3
  rw [h2 _ h3] at this
  exact absurd this (by decide +kernel)
 ·have:=hA _ h3
  rw [h4] at this
  exact absurd this (by decide +kernel)
theorem b51 {t:g7} {kind:Int} {n:Nat} (h:ExP t kind n) (i:Nat) (hA:∀z,i7 (m7 t kind) z=true->m6 (E9 t (i:Int)) z=0):(W7 (m7 t kind) (E9 t (i:Int)) (i:Int)).state=0:=by
 rcases a1E (h.vd (i:Int)) (i:Int) with ⟨_,h2⟩|⟨h2,_⟩|⟨_,⟨y,h3,h4⟩,_⟩
 ·have h3:=(h.vd (i:Int)).has
  have:=h2 _ h3
  rw [hA _ h3] at this
  exact absurd this (by decide +kernel)
 ·exact h2
 ·rw [hA _ h3] at h4
  exact absurd h4 (by decide +kernel)
def a6I (e:Ev) (m k:Int):Bool:=decide (e.mats<=k) && decide (e.hhs<=6) && decide (e.scs<=6) && decide (e.places.length<=12) && decide ((e.moves.length:Int)<=m) && decide (e.certs.length<=10) && decide (e.recalls.length<=4) && decide (e.purities.length<=6)
theorem b3j (e:Ev) (m k:Int):e7 Tryz.prog 73 [evS e,b7 .i64 m,b7 .i64 k] [] (i8 (a6I e m k)) []:=by
 have m1:(e.places.map a0i.row).length=e.places.length:=by simp
 have m2:(e.moves.map v7.row).length=e.moves.length:=by simp
 have m3:(e.certs.map P2.row).length=e.certs.length:=by simp
 have m4:(e.recalls.map J3.row).length=e.recalls.length:=by simp
 have m5:(e.purities.map a2x.row).length=e.purities.length:=by simp
 (refine ac Tryz.func73 ?_;(conv=>whnf);repeat ((first|refine b0x ?_|refine zy ?_);conv=>whnf))
 repeat' (first|refine zx ?_|refine zd ?_ ?_<;>intro h<;>try omega|fail)<;>conv=>whnf
 all_goals
  refine i3 ?_
  unfold a6I
  simp only [m1,m2,m3,m4,m5] at *
  first
   |(symm;simp only [lbN,lbJ];omega)
   |(symm;rw [← lbQ];simp only [lbN,lbJ];omega)
def a3J (t:g7) (m:Int):Bool:=a6I t.ev m 3 && decide (t.ev.hhs<=4) && decide (t.finds.length<=6) && decide (t.cleans.length<=6)
theorem b53 (t:g7) (m:Int):e7 Tryz.prog 26 [trS t,b7 .i64 m] [] (i8 (a3J t m)) []:=by
 have r:=b3j t.ev m 3
 have m1:(t.finds.map L1.row).length=t.finds.length:=by simp
 have m2:(t.cleans.map F2.row).length=t.cleans.length:=by simp
 unfold a3J
 cases hq:a6I t.ev m 3<;>rw [hq] at r<;>
 ·(refine ac Tryz.func26 ?_;(conv=>whnf);repeat ((first|refine b0x ?_|refine zy ?_);conv=>whnf))
  repeat' (first|refine zx ?_|refine qp r ?_|refine zd ?_ ?_<;>intro h<;>try omega|fail)<;>conv=>whnf
  all_goals
   refine i3 ?_
   simp only [m1,m2] at *
   first
    |rfl
    |(symm;simp only [Bool.true_and,lbN,lbJ];omega)
    |(symm;rw [← lbQ];simp only [lbN,lbJ];omega)
theorem al1 {t:g7} {m:Int} (hm:m<=100) (h:a3J t m=true):t.Sized∧(t.ev.moves.length:Int)<=m∧t.ev.hhs<=4:=by
 unfold a3J a6I at h
 simp only [lbN,lbJ] at h
 exact ⟨⟨⟨by omega,by omega,by omega,by omega,by omega⟩,by omega,by omega⟩,by omega,by omega⟩
def ag7 (z:List Fr) (n:Nat) (d:Int):Bool:=(z.take (n+1)).all (aQ4 d) && decide (z.length<=n)
theorem aY7 (z:List Fr) (n:Nat) (d:Int) (hn:n<=1000):e7 Tryz.prog 49 [F3 z,b7 .i64 n,b7 .i64 d] [] (i8 (ag7 z n d)) []:=by
 have m1:(z.map q9).length=z.length:=by simp
 (refine ac Tryz.func49 ?_;(conv=>whnf);repeat ((first|refine b0x ?_|refine zy ?_);conv=>whnf))
 repeat' (first|refine zx ?_|refine zd ?_ ?_<;>intro h<;>try omega|fail)<;>conv=>whnf
 refine j5 e8 (fun k=>([F3 z,b7 .i64 n,b7 .i64 d,J,J,J,J,b7 .i64 k]++Jn 22,[])) (n+1) (fun k=>k<=z.length∧(z.take k).all (aQ4 d)=true) [] ⟨Nat.zero_le _,rfl⟩
  ⟨rfl,rfl,trivial,⟨rfl,rfl,rfl,rfl,trivial⟩⟩ ?_
 rintro k hk ⟨hle,hI⟩
 by_cases hlt:k<z.length∧k<n+1
 ·obtain ⟨f,hf⟩:∃f,z[k]? =some f:=⟨_,lbf hlt.1⟩
  have hf2:(z.take (n+1))[k]? =some f:=by rw [lbi,if_pos hlt.2];exact hf
  have r:=b82 f d
  cases hff:aQ4 d f with
  |true=>
   rw [hff] at r
   conv=>whnf
   repeat' (first|refine zx ?_|refine qp r ?_|refine g6 hf ?_|refine zd ?_ ?_<;>intro h<;>try omega|fail)<;>conv=>whnf
   all_goals first
    |omega
    |exact ⟨hlt.2,⟨by omega,by rw [G3 hf,hI,hff];rfl⟩,[],rfl,rfl,trivial,⟨rfl,rfl,rfl,rfl,trivial⟩⟩
  |false=>
   rw [hff] at r
   have e1:ag7 z n d=false:=by unfold ag7;rw [K6 hf2 hff];rfl
   rw [e1]
   conv=>whnf
   repeat' (first|refine zx ?_|refine qp r ?_|refine g6 hf ?_|refine zd ?_ ?_<;>intro h<;>try omega|fail)<;>conv=>whnf
   all_goals first
    |omega
    |exact i3 rfl
 ·have hk2:z.length=k∨k=n+1:=by omega
  have hall:(z.take (n+1)).all (aQ4 d)=true:=by
   rcases hk2 with h|h
   ·have e:z.take (n+1)=z.take k:=by rw [lbn (by omega),lbn (by omega)]
    rw [e];exact hI
   ·rw [← h];exact hI
  conv=>whnf
  repeat' (first|refine zx ?_|refine zd ?_ ?_<;>intro h<;>try omega|fail)<;>conv=>whnf
  all_goals first
   |omega
   |(refine i3 ?_;unfold ag7;rw [hall];simp;omega)
theorem a7r {Z:List Rat} (hZ:∀v ∈ Z,0<=v):∀l:List Int,0<m6 (a4t l) Z↔∃i ∈ l,0<Z.getD i.toNat 0:=by
 have h0:∀i,0<=Z.getD i 0:=fun i=>by
  by_cases h:i<Z.length
  ·exact hZ _ (lbm (getD_some h))
  ·rw [lbl,lbd (by omega)];exact lb2
 intro l
 have pos:∀l,0<=m6 (a4t l) Z:=fun l=>a6L hZ _ fun u hu=>by
  obtain ⟨i,_,rfl⟩:=lby.1 hu
  show (0:Rat)<=((1:Int):Rat);decide
 have key:∀k,k<=l.length->(0<m6 (a4t (l.take k)) Z↔∃i ∈ l.take k,0<Z.getD i.toNat 0):=by
  intro k
  induction k with
  |zero=>
   intro _
   rw [List.take_zero]
   constructor
   ·intro h
    have:(0:Rat)<0:=h
    exact absurd this (by decide +kernel)
   ·rintro ⟨i,hi,_⟩;cases hi
  |succ k ih=>
   intro hk
   have ih:=ih (by omega)
   have hx:l[k]? =some l[k]:=lbf (by omega)
   rw [ar7 hx,Q5,a3g hx]
   have e1:((1:Int):Rat)=1:=rfl
   have a1:=pos (l.take k)
   have a2:=h0 l[k].toNat
   simp only [e1]
   constructor
   ·intro h
    by_cases h2:0<Z.getD l[k].toNat 0
    ·exact ⟨_,List.mem_append_right _ (List.mem_singleton.2 rfl),h2⟩
    ·obtain ⟨i,hi,hp⟩:=ih.1 (by grind)
     exact ⟨i,List.mem_append_left _ hi,hp⟩
   ·rintro ⟨i,hi,hp⟩
    rcases lbA.1 hi with h|h
    ·have:=ih.2 ⟨i,h,hp⟩;grind
    ·rw [List.mem_singleton.1 h] at hp;grind
 have:=key l.length (lbR _)
 rwa [List.take_length] at this
theorem a7n {t:g7} {h i:Int} (hi:i ∈ L2 t.ev h (-1) 0 100000):0<=i∧i<t.ev.moves.length:=by
 obtain ⟨a1,_⟩:=ao7 t.ev h (-1) 0 100000
 obtain ⟨k,hk,he⟩:=List.getElem_of_mem hi
 have:=a1 k i (by rw [lbf hk,he])
 omega
theorem aG6 {z:List Fr} {n:Nat} {d:Int} (h:ag7 z n d=true):z.length<=n∧∀f ∈ z,(f.p.dl.length:Int)<=d∧(f.q.dl.length:Int)<=d:=by
 unfold ag7 at h
 simp only [lbN,lbJ] at h
 obtain ⟨h1,h2⟩:=h
 rw [lbn (by omega),lbw] at h1
 refine ⟨h2,fun f hf=>?_⟩
 have:=h1 f hf
 unfold aQ4 at this
 simp only [lbN,lbJ] at this
 exact this
theorem ExP.poss {t:g7} {kind:Int} {n:Nat} (h:ExP t kind n) {z:List Rat} (hz:i7 (m7 t kind) z=true):a3U t kind z:=(sys_holds h.e h.k0 h.k1 (by have:=h.m;omega)).1 hz
theorem ExP.sol {t:g7} {kind:Int} {n:Nat} (h:ExP t kind n) {z:List Rat} (hz:a3U t kind z):i7 (m7 t kind) z=true:=(sys_holds h.e h.k0 h.k1 (by have:=h.m;omega)).2 hz
def a4M (t:g7) (kind:Int):Bool:=t.finds.any fun f=>decide (f.kind=kind)
theorem b1D {f:Nat->Rat}:∀{n:Nat},0<i9 f n->∃j,j<n∧0<f j
 |0,h=>absurd (show (0:Rat)<0 from h) (by decide +kernel)
 |n+1,h=>by
  simp only [i9] at h
  by_cases h1:0<f n
  ·exact ⟨n,by omega,h1⟩
  ·obtain ⟨j,hj,hp⟩:=b1D (f:=f) (n:=n) (by grind)
   exact ⟨j,by omega,hp⟩
theorem b2G {t:g7} {kind:Int} {n:Nat} (h:ExP t kind n) (hs:a4M t kind=true) {z:List Rat} (hz:i7 (m7 t kind) z=true):∃i,i<n∧0<m6 (E9 t (i:Int)) z:=by
 obtain ⟨f,hf,hk⟩:=lbx.1 hs
 have hk:=lbM hk
 have hp:=h.poss hz
 obtain ⟨q1,q2,q3,q4,q5⟩:=B4 h.e
 have hg:=P3 q4 f hf
 obtain ⟨x,hx⟩:∃x,t.ev.moves[f.mv.toNat]? =some x:=⟨_,lbf (by omega)⟩
 have h1:=b50 hp hx hf (by omega) hk
 have h2:((1:Int):Rat)<=(f.grams:Rat):=by exact_mod_cast hg.2.2.2.2.1
 have e1:((1:Int):Rat)=1:=rfl
 rw [e1] at h2
 obtain ⟨j,hj,hlj⟩:=b1D (f:=a1K t.ev z) (n:=f.mv.toNat+1) (by grind)
 unfold a1K at hlj
 cases hm:t.ev.moves[j]? with
 |none=>rw [hm] at hlj;exact absurd (show (0:Rat)<0 from hlj) (by decide +kernel)
 |some m=>
  rw [hm] at hlj
  simp only at hlj
  by_cases hb:z7 t.ev m.src=0
  ·rw [if_pos hb] at hlj
   have hmo:=K8 q1 (lbm hm)
   have ms:=R6 hmo
   obtain ⟨p,hpl⟩:∃p,t.ev.places[m.src.toNat]? =some p:=⟨_,lbf (by omega)⟩
   have hk0:p.kind=0:=by
    have:=au0 hpl
    rw [show ((m.src.toNat:Nat):Int)=m.src by omega,hb] at this
    exact this.symm
   have hpo:=lbw.1 (a0u q1).2.2.2.2.1 p (lbm hpl)
   unfold a18 at hpo
   rw [if_pos hk0] at hpo
   simp only [lbN,idx,lbJ] at hpo
   have hd:=b3a q1 (lbm hm)
   have hn:=h.h
   have eh:((p.hh.toNat:Nat):Int)=p.hh:=by omega
   refine ⟨p.hh.toNat,by omega,?_⟩
   refine (a7r (a1u hz) _).2 ⟨(j:Int),?_,by simpa using hlj⟩
   refine (b2M q1).2 ⟨j,m,hm,?_,rfl⟩
   unfold a6d
   rw [hpl]
   have hb2:btw m.day 0 100000=true:=a0F.2 hd
   simp only [hb2,Bool.and_true]
   rw [eh]
   simp [hk0]
  ·rw [if_neg hb] at hlj
   exact absurd hlj (by decide +kernel)
def cnt (p:Nat->Bool):Nat->Nat
 |0=>0
 |k+1=>cnt p k+if p k then 1 else 0
noncomputable def I3 (t:g7) (kind:Int) (i:Nat):Int:=(W7 (m7 t kind) (E9 t (i:Int)) (i:Int)).state
theorem as1 {t:Int × Rat} {r:List (Int × Rat)} (h:∀u ∈ r,u.1.toNat≠t.1.toNat) (v:Nat):∀k,k<=r.length->Q1 (t::r) (k+1) v=if v=t.1.toNat then t.2 else Q1 r k v
 |0,_=>by
  rw [U0 (l:=t::r) (k:=0) (t:=t) rfl]
  simp only
  by_cases h1:v=t.1.toNat
  ·rw [if_pos h1,if_pos h1]
  ·rw [if_neg h1,if_neg h1]
   rfl
 |k+1,hk=>by
  have hx:r[k]? =some r[k]:=lbf (by omega)
  have hne:=h _ (lbm hx)
  rw [U0 (l:=t::r) (k:=k+1) (t:=r[k]) (by simp),U0 hx]
  have ih:=as1 h v k (by omega)
  simp only
  rw [ih]
  by_cases h1:v=t.1.toNat
  ·rw [if_pos h1,if_pos h1,if_neg (by omega)]
  ·rw [if_neg h1,if_neg h1]
theorem T7 {last n:Int} {t:Int × Rat} {r:List (Int × Rat)} (h0:-1<=last) (h:k6 last n (t::r)=true) (v:Nat):L3 (t::r) v=if v=t.1.toNat then t.2 else L3 r v:=by
 refine as1 (fun u hu=>?_) v r.length (lbR _)
 obtain ⟨j,hj,he⟩:=List.getElem_of_mem hu
 have h1:=a6j h 0 (j+1) t u (by omega) rfl (by simp [he,hj])
 have h2:=L0 h t (List.mem_cons_self ..)
 omega
theorem a0r {last n:Int} {t:Int × Rat} {r:List (Int × Rat)} (h:k6 last n (t::r)=true):k6 t.1 n r=true:=by
 unfold k6 at h
 simp only [lbN] at h
 exact h.2
theorem aH6 {last last' n:Int} (hl:last'<=last) {l:List (Int × Rat)} (h:k6 last n l=true):k6 last' n l=true:=by
 cases l with
 |nil=>rfl
 |cons t r=>
  unfold k6 at h ⊢
  simp only [lbN,lbJ] at h ⊢
  exact ⟨⟨⟨by omega,h.1.1.2⟩,h.1.2⟩,h.2⟩
theorem a9H {last n:Int} {l:List (Int × Rat)} (h0:-1<=last) (h:k6 last n l=true) {v:Nat} (hv:(v:Int)<=last):L3 l v=0:=by
 refine a8f _ fun i t hi ht e=>?_
 have:=L0 h t (lbm ht)
 omega
theorem a8p {P:Program} {g:FuncId} {n:Nat} {H H':Hp} {r:S} (h1:e7 P g [.c (.t (.sl n .nul []))] H r H') (h2:e7 P g [.c (.t (.sl n .non []))] H r H'):e7 P g [.c (.t (.sl n .any []))] H r H':=by
 refine ⟨h1.1,fun w ι M vals hl hv hH hM hf=>?_⟩
 have h0:=hv 0 _ rfl
 have key:RS w ι M (.c (.t (.sl n .nul []))) (vals.getD 0 undef)∨RS w ι M (.c (.t (.sl n .non []))) (vals.getD 0 undef):=by
  generalize vals.getD 0 undef=v at h0
  cases h0 with
  |c h=>cases h with
   |t h=>cases h with
    |@sl _ _ _ b off cap A f hrow hcap hmax hk hn hA hc hr hx=>
     cases A with
     |none=>exact .inl (.c (.t (.sl (b:=b) (off:=off) f hrow hcap hmax (fun h=>nomatch h) (fun h=>nomatch h) hA hc hr ⟨fun _=>⟨rfl,rfl⟩,fun h=>nomatch h⟩)))
     |some a=>exact .inr (.c (.t (.sl (b:=b) (off:=off) f hrow hcap hmax (fun h=>nomatch h) (fun h=>nomatch h) hA hc hr ⟨(fun h=>nomatch h),fun _=>(fun h=>nomatch h)⟩)))
 have one:∀s,RS w ι M s (vals.getD 0 undef)->∀j s',[s][j]? =some s'->RS w ι M s' (vals.getD j undef):=fun s hs j s' hj=>by
  cases j with
  |zero=>injection hj with hj;subst hj;exact hs
  |succ j=>simp at hj
 rcases key with k|k
 ·exact h1.2 w ι M vals hl (one _ k) hH hM hf
 ·exact h2.2 w ι M vals hl (one _ k) hH hM hf
theorem b2z:e7 Tryz.prog 134 [.c (.t (.sl 6 .any []))] [] (.c (.own 0 0 0 true)) [U6 []]:=by
 refine a8p ?_ ?_
 ·(refine ac Tryz.func134 ?_;(conv=>whnf);repeat (refine zy ?_;conv=>whnf))
  repeat' (first|refine zx ?_|refine zd ?_ ?_<;>intro h<;>try omega|fail)<;>conv=>whnf
  all_goals first
   |exact ⟨[none],rfl,rfl,⟨⟨rfl,rfl⟩,trivial⟩,⟨rfl,rfl,rfl⟩⟩
 ·(refine ac Tryz.func134 ?_;(conv=>whnf);repeat (refine zy ?_;conv=>whnf))
  repeat' (first|refine zx ?_|refine Y0 rfl (by decide) ?_|refine zd ?_ ?_<;>intro h<;>try omega|fail)<;>conv=>whnf
  all_goals first
   |exact ⟨[some 0],rfl,rfl,⟨b8 (rows:=([]:List H6).map E1) rfl rfl rfl rfl rfl,trivial⟩,⟨rfl,rfl,rfl,fun h=>h⟩⟩
theorem b5h (l:List H6) (h1:l.length<=100000):e7 Tryz.prog 134 [.c (.t (a06 l))] [] (.c (.own 0 0 l.length true)) [U6 l]:=by
 have m1:(l.map E1).length=l.length:=by simp
 by_cases h0:l.length=0
 ·have:l=[]:=List.length_eq_zero_iff.1 h0
  subst this
  exact b2z
 have hl:0<(l.map E1).length:=by omega
 (refine ac Tryz.func134 ?_;(conv=>whnf);repeat (refine zy ?_;conv=>whnf))
 repeat' (first|refine zx ?_|refine qp (toC,lbr,List.length_nil) ?_|refine qp (toC,lbr) ?_|refine ⟨hl,?_⟩|refine zz ?_|refine Y0 rfl (by simp only [toC,lbr,List.length_nil];omega) ?_|refine E4 (Nat.zero_le _) (by simp only [toC,lbr];omega) ?_|refine zd ?_ ?_<;>intro h<;>try omega|fail)<;>conv=>whnf
 all_goals first
  |omega
  |exact ⟨[some 0],rfl,rfl,⟨b8 (rows:=l.map E1) rfl rfl rfl rfl rfl,trivial⟩,⟨rfl,rfl,by simp [toC],fun h=>h⟩⟩
structure b6z where
 hh:Int
 state:Int
 w:List Fr
 wo:List Fr
 pr:List Fr
def b6z.row (v:b6z):List T:=[ti v.hh,ti v.state,Q8 v.w,Q8 v.wo,Q8 v.pr]
def b6z.val (v:b6z):a3k:=⟨v.hh,v.state,v.w.map fv,v.wo.map fv,v.pr.map fv⟩
theorem b1J {s:k7} {g:List (Int × Rat)} {Y:List Rat} (hr:m8 s=true) (h:b4d s g Y=true):ba8 s (L3 g) (yN Y) (b35 s (yN Y)):=by
 unfold b4d b7M at h
 simp only [lbN,lbJ,lbw] at h
 obtain ⟨⟨⟨h1,h2⟩,h3⟩,h4⟩:=h
 refine ⟨fun i w hw=>?_,fun l hl=>?_,rfl⟩
 ·have:=h2 i (lbC.2 (lbe.1 hw).1)
  unfold sgB at this
  rw [aT8 hw] at this
  simp only [Bool.not_eq_true',Bool.or_eq_false_iff,lbP,lbL] at this
  obtain ⟨a,b⟩:=this
  exact ⟨fun hk=>by
   rcases a with a|a
   ·exact absurd hk a
   ·exact lb3.1 a,fun hk=>by
   rcases b with b|b
   ·exact absurd hk b
   ·exact lb3.1 b⟩
 ·exact h4 l (lbC.2 hl)
theorem never_holds {s:k7} {g:List (Int × Rat)} {z:List Rat} (hr:m8 s=true) (hl:s.rows.length<6000) (hg:k6 (-1) s.n g=true) (hz:i7 s z=true) (h0:m6 g z=0):i7 (aW5 s g) z=true:=by
 obtain ⟨h1,h2,h3,h4⟩:=a1p.1 hz
 refine a1p.2 ⟨aL6 hr hl hg,h2,h3,fun w hw=>?_⟩
 rcases lbA.1 hw with h|h
 ·exact h4 w h
 ·have h:=List.mem_singleton.1 h
  subst h
  have e1:((0:Int):Rat)=0:=rfl
  simp only
  rw [h0,e1]
  exact ⟨fun _=>lb2,fun _=>lb2⟩
theorem b4p {s:k7} {Y:List Rat} (hr:m8 s=true) (h:b8I s Y=true) (z:List Rat):i7 s z=false:=by
 cases hz:i7 s z with
 |false=>rfl
 |true=>
  exfalso
  unfold b8I at h
  rw [lbN,lbJ] at h
  have hb:=am4 (g:=[]) (b1J hr h.1) hz
  rw [A7 fun j hj=>by show (0:Rat)*_=0;grind] at hb
  have:=h.2
  grind
def a0J (e:Ev):Nat->List Nat
 |0=>[]
 |k+1=>match e.moves[k]? with
  |some m=>if z7 e m.src=0 then a0J e k++[k] else a0J e k
  |none=>a0J e k
def a3w (e:Ev):List Nat:=a0J e e.moves.length
def aT2 (e:Ev) (i:Nat):Prop:=∃m,e.moves[i]? =some m∧z7 e m.src=0
theorem a4H {e:Ev} {i:Nat}:∀{k:Nat},i ∈ a0J e k↔i<k∧aT2 e i
 |0=>by simp [a0J]
 |k+1=>by
  have ih:=a4H (e:=e) (i:=i) (k:=k)
  unfold a0J
  cases hm:e.moves[k]? with
  |none=>
   simp only
   rw [ih]
   constructor
   ·rintro ⟨h1,h2⟩;exact ⟨by omega,h2⟩
   ·rintro ⟨h1,h2⟩
    refine ⟨?_,h2⟩
    obtain ⟨m,h3,_⟩:=h2
    by_cases h:i=k
    ·subst h;rw [hm] at h3;cases h3
    ·omega
  |some m=>
   simp only
   by_cases hk:z7 e m.src=0
   ·rw [if_pos hk,lbA,ih,List.mem_singleton]
    constructor
    ·rintro (⟨h1,h2⟩|h)
     ·exact ⟨by omega,h2⟩
     ·subst h;exact ⟨by omega,m,hm,hk⟩
    ·rintro ⟨h1,h2⟩
     by_cases h:i=k
     ·exact .inr h
     ·exact .inl ⟨by omega,h2⟩
   ·rw [if_neg hk,ih]
    constructor
    ·rintro ⟨h1,h2⟩;exact ⟨by omega,h2⟩
    ·rintro ⟨h1,h2⟩
     refine ⟨?_,h2⟩
     obtain ⟨m',h3,h4⟩:=h2
     by_cases h:i=k
     ·subst h;rw [hm] at h3;injection h3 with h3;subst h3;exact absurd h4 hk
     ·omega
theorem a9V {e:Ev} {i:Nat}:i ∈ a3w e↔aT2 e i:=by
 unfold a3w
 rw [a4H]
 constructor
 ·exact fun h=>h.2
 ·intro h
  have h':=h
  obtain ⟨m,h1,_⟩:=h'
  exact ⟨(lbe.1 h1).1,h⟩
theorem a8v {e:Ev}:∀k,(a0J e k).length<=k
 |0=>by simp [a0J]
 |k+1=>by
  have ih:=a8v (e:=e) k
  unfold a0J
  split
  ·split
   ·simp;omega
   ·omega
  ·omega
def a36 (l:List Nat) (i:Nat):List H6:=(l.filter fun j=>decide (j≠i)).map fun j=>A0 j 2 ((0:Int):Rat)
def aR3 (t:g7) (kind:Int) (i:Nat):k7:=⟨t.ev.moves.length,(m7 (Z8 t) kind).rows++a36 (a3w t.ev) i⟩
theorem aO9 (l:List Nat) (i:Nat):(a36 l i).length<=l.length:=by unfold a36;rw [lbr];exact lbt _ _
structure b9H (t:g7) (kind:Int) (i:Nat) (z:List Rat):Prop where
 p:a3U (Z8 t) kind z
 o:∀j,aT2 t.ev j->j≠i->z.getD j 0=0
theorem aO4 {t:g7} {kind:Int} {i:Nat} (hm:t.ev.moves.length<=14) (hc:t.cleans.length<=50):m8 (aR3 t kind i)=true:=by
 have h:=a1k (t:=Z8 t) (kind:=kind) hm (by simp [Z8]) hc
 unfold m8 at h ⊢
 simp only [lbN,lbJ] at h ⊢
 obtain ⟨⟨⟨h1,h2⟩,h3⟩,h4⟩:=h
 have hl:=S7 (t:=Z8 t) (kind:=kind) t.ev.moves.length
 have hl2:t.ev.moves.length*(2+(Z8 t).finds.length+(Z8 t).cleans.length)<=14*52:=lbT hm (by show 2+0+t.cleans.length<=52;omega)
 have hl3:=aO9 (a3w t.ev) i
 have hl4:=a8v (e:=t.ev) t.ev.moves.length
 refine ⟨⟨⟨h1,h2⟩,?_⟩,?_⟩
 ·show ((z6 (Z8 t) kind t.ev.moves.length++a36 (a3w t.ev) i).length)<=6000
  rw [lbq]
  have:(a3w t.ev).length<=t.ev.moves.length:=hl4
  omega
 ·show ((m7 (Z8 t) kind).rows++a36 (a3w t.ev) i).all (B5 (t.ev.moves.length:Nat))=true
  rw [List.all_append]
  have h5:(m7 (Z8 t) kind).rows.all (B5 (t.ev.moves.length:Nat))=true:=h4
  rw [h5,Bool.true_and,lbw]
  intro w hw
  obtain ⟨j,hj,rfl⟩:=lby.1 hw
  have hj:=(a4H.1 (lbz.1 hj).1).1
  unfold B5 A0
  simp only [lbN,lbJ]
  exact ⟨⟨a3t (by omega) (by omega) a3K,by decide⟩,by decide⟩
theorem alone_holds {t:g7} {kind:Int} {i:Nat} {z:List Rat} (ht:s6 t=0) (k0:0<=kind) (k1:kind<8) (hm:t.ev.moves.length<=14):i7 (aR3 t kind i) z=true↔b9H t kind i z:=by
 have hc:=(B4 ht).2.2.1
 have hb:=sys_holds (t:=Z8 t) (kind:=kind) (z:=z) (ap5 ht) k0 k1 hm
 have hr1:=aO4 (t:=t) (kind:=kind) (i:=i) hm hc
 have hr2:=a1k (t:=Z8 t) (kind:=kind) hm (by simp [Z8]) hc
 have e:i7 (aR3 t kind i) z=(i7 (m7 (Z8 t) kind) z && (a36 (a3w t.ev) i).all fun w=>U5 w z):=by
  unfold i7
  rw [hr1,hr2]
  show (true && decide ((z.length:Int)=(t.ev.moves.length:Nat)) && _ && ((m7 (Z8 t) kind).rows++a36 (a3w t.ev) i).all _)=_
  rw [List.all_append]
  simp only [Bool.true_and,Bool.and_assoc]
  rfl
 rw [e,lbN,hb]
 constructor
 ·rintro ⟨h1,h2⟩
  refine ⟨h1,fun j hj hji=>?_⟩
  exact a2B.1 (lbw.1 h2 (A0 j 2 ((0:Int):Rat)) (lby.2 ⟨j,lbz.2 ⟨a9V.2 hj,lbI hji⟩,rfl⟩))
 ·rintro ⟨h1,h2⟩
  refine ⟨h1,lbw.2 fun w hw=>?_⟩
  obtain ⟨j,hj,rfl⟩:=lby.1 hw
  have hj:=lbz.1 hj
  exact a2B.2 (h2 j (a9V.1 hj.1) (lbM hj.2))
theorem b5q (n i:Nat):(List.replicate n (0:Rat)).getD i 0=0:=by
 rw [lbl]
 by_cases h:i<n
 ·simp [h]
 ·rw [lbd (by simp;omega)];rfl
def a3T:List (Int × Rat)->List (Int × Rat)->List (Int × Rat)
 |[],b=>b
 |t::r,[]=>t::r
 |t::r,u::q=>if t.1<u.1 then t::a3T r (u::q) else if u.1<t.1 then u::a3T (t::r) q else if t.2+u.2=0 then a3T r q else (t.1,t.2+u.2)::a3T r q
termination_by a b=>a.length+b.length
theorem a1v {last n:Int} {t:Int × Rat} {r:List (Int × Rat)} (h1:last<t.1) (h2:t.1<n) (h3:t.2≠0) (h4:k6 t.1 n r=true):k6 last n (t::r)=true:=by
 unfold k6
 simp only [lbN,lbJ]
 exact ⟨⟨⟨h1,h2⟩,h3⟩,h4⟩
theorem a9O {n:Int}:∀(k:Nat) {last:Int} {a b:List (Int × Rat)},a.length+b.length<=k->-1<=last->k6 last n a=true->k6 last n b=true->
 k6 last n (a3T a b)=true∧∀v,L3 (a3T a b) v=L3 a v+L3 b v:=by
 intro k
 induction k with
 |zero=>
  intro last a b hk h0 ha hb
  have:a=[]:=List.length_eq_zero_iff.1 (by omega)
  have:b=[]:=List.length_eq_zero_iff.1 (by omega)
  subst a b
  rw [a3T]
  exact ⟨rfl,fun v=>by show (0:Rat)=0+0;grind⟩
 |succ k ih=>
  intro last a b hk h0 ha hb
  match a,b with
  |[],b=>rw [a3T];exact ⟨hb,fun v=>by show _=(0:Rat)+_;grind⟩
  |t::r,[]=>rw [a3T];exact ⟨ha,fun v=>by show _=_+(0:Rat);grind⟩
  |t::r,u::q=>
   have mt:=L0 ha t (List.mem_cons_self ..)
   have mu:=L0 hb u (List.mem_cons_self ..)
   simp only [lbu] at hk
   rw [a3T]
   by_cases h1:t.1<u.1
   ·rw [if_pos h1]
    have hb':k6 t.1 n (u::q)=true:=a1v h1 mu.2.1 mu.2.2 (a0r hb)
    obtain ⟨i1,i2⟩:=ih (last:=t.1) (a:=r) (b:=u::q) (by simp only [lbu];omega) (by omega) (a0r ha) hb'
    have hr:=a1v mt.1 mt.2.1 mt.2.2 i1
    refine ⟨hr,fun v=>?_⟩
    rw [T7 h0 hr,T7 h0 ha,i2]
    by_cases hv:v=t.1.toNat
    ·rw [if_pos hv,if_pos hv,a9H (v:=v) (by omega) hb' (by omega)];grind
    ·rw [if_neg hv,if_neg hv]
   ·rw [if_neg h1]
    by_cases h2:u.1<t.1
    ·rw [if_pos h2]
     have ha':k6 u.1 n (t::r)=true:=a1v h2 mt.2.1 mt.2.2 (a0r ha)
     obtain ⟨i1,i2⟩:=ih (last:=u.1) (a:=t::r) (b:=q) (by simp only [lbu];omega) (by omega) ha' (a0r hb)
     have hr:=a1v mu.1 mu.2.1 mu.2.2 i1
     refine ⟨hr,fun v=>?_⟩
     rw [T7 h0 hr,T7 h0 hb,i2]
     by_cases hv:v=u.1.toNat
     ·rw [if_pos hv,if_pos hv,a9H (v:=v) (by omega) ha' (by omega)];grind
     ·rw [if_neg hv,if_neg hv]
    ·rw [if_neg h2]
     have he:t.1=u.1:=by omega
     have hq':=a0r hb
     rw [← he] at hq'
     obtain ⟨i1,i2⟩:=ih (last:=t.1) (a:=r) (b:=q) (by omega) (by omega) (a0r ha) hq'
     by_cases h3:t.2+u.2=0
     ·rw [if_pos h3]
      refine ⟨aH6 (by omega) i1,fun v=>?_⟩
      rw [T7 h0 ha,T7 h0 hb,←he]
      by_cases hv:v=t.1.toNat
      ·rw [if_pos hv,if_pos hv,a9H (v:=v) (by omega) i1 (by omega)];grind
      ·rw [if_neg hv,if_neg hv,i2]
     ·rw [if_neg h3]
      have hr:=a1v (t:=(t.1,t.2+u.2)) mt.1 mt.2.1 h3 i1
      refine ⟨hr,fun v=>?_⟩
      rw [T7 h0 hr,T7 h0 ha,T7 h0 hb,←he,i2]
      by_cases hv:v=t.1.toNat
      ·simp only [if_pos hv]
      ·simp only [if_neg hv]
theorem b4N {n:Nat} {a b:List (Int × Rat)} (ha:k6 (-1) (n:Int) a=true) (hb:k6 (-1) (n:Int) b=true) (z:List Rat):m6 (a3T a b) z=m6 a z+m6 b z:=by
 obtain ⟨h1,h2⟩:=a9O (a.length+b.length) (lbR _) (Int.le_refl _) ha hb
 rw [R4 h1,R4 ha,R4 hb,←a1a]
 exact j0 fun j hj=>by rw [h2];grind
noncomputable def b0o (s:k7) (g:List (Int × Rat)):List Rat:=match J9 s (G1 g) with
 |.col c=>a7S (n7 s []) (a8W s (G1 g) c)
 |_=>n7 s (G1 g)
structure b1n (s:k7) (g:List (Int × Rat)):Prop where
 r:m8 s=true
 z:J9 s []=.best
 t:k6 (-1) ((s.n.toNat:Nat):Int) g=true
 p:∀z,i7 s z=true->0<=m6 g z
theorem b1n.og {s:k7} {g:List (Int × Rat)} (h:b1n s g):k6 (-1) ((s.n.toNat:Nat):Int) (G1 g)=true:=a2T h.t
theorem b45 {s:k7} {g:List (Int × Rat)} (h:b1n s g):i7 s (b0o s g)=true∧((∃ z,i7 s z=true∧0<m6 g z)->0<m6 g (b0o s g)):=by
 have h0:=(a00 h.r rfl h.z).1
 unfold b0o
 rcases not_row (g:=G1 g) h.r h.z with ho|⟨c,ho⟩
 ·rw [ho]
  simp only
  obtain ⟨p1,p2⟩:=a00 h.r h.og ho
  refine ⟨p1,fun ⟨z,hz,hp⟩=>?_⟩
  have:=p2 z hz
  rw [a01 (s:=s) (g:=g),a01 (s:=s) (g:=g)] at this
  grind
 ·rw [ho]
  simp only
  obtain ⟨h1,h2⟩:=a9b h.r h.og ho
  refine ⟨ar1 h0 h1,fun _=>?_⟩
  have h3:=Z2 h0
  have hn:=a4h h.r
  rw [a5e (n:=s.n.toNat) (by omega) h1.len h.t]
  rw [a01 (s:=s) (g:=g)] at h2
  have:=h.p _ h0
  grind
def a4v (gL:List (List (Int × Rat))) (out:List Bool):Nat->List (Int × Rat)
 |0=>[]
 |k+1=>if out.getD k false=true then a4v gL out k else a3T (a4v gL out k) (gL.getD k [])
noncomputable def b7t (s:k7) (gL:List (List (Int × Rat))) (out:List Bool):List Rat:=b0o s (a4v gL out gL.length)
def bb8 (g:List (Int × Rat)) (x:List Rat):Bool:=decide (0<m6 g x)
noncomputable def bb1 (s:k7) (gL:List (List (Int × Rat))) (out:List Bool):List Bool:=(List.range gL.length).map fun i=>out.getD i false || bb8 (gL.getD i []) (b7t s gL out)
noncomputable def b70 (s:k7) (gL:List (List (Int × Rat))):Nat->List Bool
 |0=>List.replicate gL.length false
 |k+1=>bb1 s gL (b70 s gL k)
noncomputable def ba5 (s:k7) (gL:List (List (Int × Rat))):Nat->List Rat
 |0=>b7t s gL (b70 s gL 0)
 |k+1=>a7S (ba5 s gL k) (b7t s gL (b70 s gL (k+1)))
structure a9J (s:k7) (gL:List (List (Int × Rat))):Prop where
 r:m8 s=true
 z:J9 s []=.best
 g:∀g ∈ gL,k6 (-1) ((s.n.toNat:Nat):Int) g=true
 p:∀g ∈ gL,∀z,i7 s z=true->0<=m6 g z
theorem a7R {gL:List (List (Int × Rat))} {k:Nat} (h:k<gL.length):gL.getD k [] ∈ gL:=by
 rw [lbl,lbf h];exact lbF h
theorem a5Y {s:k7} {gL:List (List (Int × Rat))} (h:a9J s gL) (out:List Bool):∀k,k<=gL.length->k6 (-1) ((s.n.toNat:Nat):Int) (a4v gL out k)=true
 |0,_=>rfl
 |k+1,hk=>by
  have ih:=a5Y h out k (by omega)
  unfold a4v
  split
  ·exact ih
  ·exact (a9O _ (lbR _) (Int.le_refl _) ih (h.g _ (a7R (by omega)))).1
theorem b0I {s:k7} {gL:List (List (Int × Rat))} (h:a9J s gL) (out:List Bool) (z:List Rat):∀k,k<=gL.length->m6 (a4v gL out k) z=i9 (fun i=>if out.getD i false=true then 0 else m6 (gL.getD i []) z) k
 |0,_=>rfl
 |k+1,hk=>by
  have ih:=b0I h out z k (by omega)
  show _=i9 _ k+(if out.getD k false=true then 0 else m6 (gL.getD k []) z)
  unfold a4v
  by_cases ho:out.getD k false=true
  ·rw [if_pos ho,if_pos ho,ih];grind
  ·rw [if_neg ho,if_neg ho,b4N (a5Y h out k (by omega)) (h.g _ (a7R (by omega))),ih]
theorem b3o {s:k7} {gL:List (List (Int × Rat))} (h:a9J s gL) (out:List Bool):b1n s (a4v gL out gL.length):=
 ⟨h.r,h.z,a5Y h out _ (lbR _),fun z hz=>by
   rw [b0I h out z _ (lbR _)]
   exact a1D fun i hi=>by
    split
    ·exact lb2
    ·exact h.p _ (a7R hi) z hz⟩
theorem b0Y {s:k7} {gL:List (List (Int × Rat))} (h:a9J s gL) (out:List Bool):i7 s (b7t s gL out)=true:=(b45 (b3o h out)).1
structure ad2 (s:k7) (c:Rat) (z:List Rat):Prop where
 r:m8 s=true
 l:(z.length:Int)=s.n
 p:∀v ∈ z,0<=v
 w:∀w ∈ s.rows,(w.kind≠1->c*w.value<=m6 w.terms z)∧(w.kind≠0->m6 w.terms z<=c*w.value)
theorem af0 {s:k7} {z:List Rat} (h:i7 s z=true):ad2 s 1 z:=by
 obtain ⟨h1,h2,h3,h4⟩:=a1p.1 h
 exact ⟨h1,h2,h3,fun w hw=>by
  obtain ⟨a,b⟩:=h4 w hw
  have e:(1:Rat)*w.value=w.value:=by grind
  rw [e];exact ⟨a,b⟩⟩
theorem aX7 {s:k7} {c d:Rat} {x y:List Rat} (hx:ad2 s c x) (hy:ad2 s d y):ad2 s (c+d) (a7S x y):=by
 have hn:=a4h hx.r
 have lx:x.length=s.n.toNat:=by have:=hx.l;omega
 have ly:y.length=s.n.toNat:=by have:=hy.l;omega
 have ll:=ac0 lx ly
 refine ⟨hx.r,by omega,fun v hv=>?_,fun w hw=>?_⟩
 ·obtain ⟨j,hj,rfl⟩:=List.getElem_of_mem hv
  have e:=at9 lx ly (j:=j) (by omega)
  rw [lbl,lbf hj] at e
  have e:(a7S x y)[j]=x.getD j 0+y.getD j 0:=e
  rw [e]
  have h1:0<=x.getD j 0:=by rw [lbl,lbf (by omega)];exact hx.p _ (lbF _)
  have h2:0<=y.getD j 0:=by rw [lbl,lbf (by omega)];exact hy.p _ (lbF _)
  grind
 ·obtain ⟨i,hi,rfl⟩:=List.getElem_of_mem hw
  have hrt:=(a1c hx.r (lbf hi)).1
  rw [a5e lx ly hrt]
  obtain ⟨a1,a2⟩:=hx.w _ (lbF hi)
  obtain ⟨b1,b2⟩:=hy.w _ (lbF hi)
  have e:(c+d)*s.rows[i].value=c*s.rows[i].value+d*s.rows[i].value:=by grind
  rw [e]
  exact ⟨fun h=>by have:=a1 h;have:=b1 h;grind,fun h=>by have:=a2 h;have:=b2 h;grind⟩
theorem sumX_holds {s:k7} {gL:List (List (Int × Rat))} (h:a9J s gL):∀k,ad2 s ((k+1:Nat):Rat) (ba5 s gL k)
 |0=>af0 (b0Y h _)
 |k+1=>by
  have:=aX7 (sumX_holds h k) (af0 (b0Y h (b70 s gL (k+1))))
  have e:(((k+1+1:Nat)):Rat)=((k+1:Nat):Rat)+1:=by push_cast;rfl
  rw [e];exact this
def a8S (i:Nat):Rat:=if i % 2=0 then 1 else -1
theorem b1R (i:Nat):a8S (i+1)=-(a8S i):=by
 unfold a8S
 by_cases h:i % 2=0
 ·rw [if_pos h,if_neg (by omega)]
 ·rw [if_neg h,if_pos (by omega)];grind
def B8 (i:Nat) (M:Nat->Nat->Rat):Nat->Nat->Rat:=fun r c=>M (if r<i then r else r+1) (c+1)
def K0:Nat->(Nat->Nat->Rat)->Rat
 |0,_=>1
 |n+1,M=>i9 (fun i=>a8S i*M i 0*K0 n (B8 i M)) (n+1)
theorem N8 (n:Nat) (M:Nat->Nat->Rat):K0 (n+1) M=i9 (fun i=>a8S i*M i 0*K0 n (B8 i M)) (n+1):=rfl
theorem a1S:∀{n:Nat} {M N:Nat->Nat->Rat},(∀ i j,i<n->j<n->M i j=N i j)->K0 n M=K0 n N
 |0,_,_,_=>rfl
 |n+1,M,N,h=>by
  rw [N8,N8]
  refine j0 fun i hi=>?_
  rw [h i 0 hi (by omega),a1S (n:=n) (M:=B8 i M) (N:=B8 i N) fun r c hr hc=>?_]
  unfold B8
  split
  ·exact h _ _ (by omega) (by omega)
  ·exact h _ _ (by omega) (by omega)
def G2 (M:Nat->Nat->Rat) (r:Nat) (v:Nat->Rat):Nat->Nat->Rat:=fun i=>if i=r then v else M i
theorem a7Y {M:Nat->Nat->Rat} {r:Nat}:G2 M r (M r)=M:=by
 funext i;unfold G2;by_cases h:i=r
 ·rw [if_pos h,h]
 ·rw [if_neg h]
theorem a9v {M:Nat->Nat->Rat} {r:Nat} {v:Nat->Rat}:B8 r (G2 M r v)=B8 r M:=by
 funext a c;unfold B8 G2
 by_cases h:a<r
 ·rw [if_pos h,if_neg (by omega)]
 ·rw [if_neg h,if_neg (by omega)]
theorem ae1 {M:Nat->Nat->Rat} {i r:Nat} {v:Nat->Rat} (h:i<r):B8 i (G2 M r v)=G2 (B8 i M) (r - 1) (fun c=>v (c+1)):=by
 funext a c;unfold B8 G2
 by_cases ha:a<i
 ·simp only [if_pos ha]
  rw [if_neg (by omega),if_neg (by omega)]
 ·simp only [if_neg ha]
  by_cases h2:a+1=r
  ·rw [if_pos h2,if_pos (by omega)]
  ·rw [if_neg h2,if_neg (by omega)]
theorem ab1 {M:Nat->Nat->Rat} {i r:Nat} {v:Nat->Rat} (h:r<i):B8 i (G2 M r v)=G2 (B8 i M) r (fun c=>v (c+1)):=by
 funext a c;unfold B8 G2
 by_cases ha:a<i
 ·simp only [if_pos ha]
  by_cases h2:a=r
  ·rw [if_pos h2,if_pos h2]
  ·rw [if_neg h2,if_neg h2]
 ·simp only [if_neg ha]
  rw [if_neg (by omega),if_neg (by omega)]
theorem a55:∀{n:Nat} {M:Nat->Nat->Rat} {r:Nat} {a b:Rat} {v w:Nat->Rat},r<n->K0 n (G2 M r fun c=>a*v c+b*w c)=a*K0 n (G2 M r v)+b*K0 n (G2 M r w)
 |0,_,_,_,_,_,_,h=>by omega
 |n+1,M,r,a,b,v,w,h=>by
  rw [N8,N8,N8,←G7,←G7,←a1a]
  refine j0 fun i hi=>?_
  by_cases e:i=r
  ·subst e
   rw [a9v,a9v,a9v]
   unfold G2
   simp only [if_true]
   grind
  ·have e2:∀u:Nat->Rat,G2 M r u i 0=M i 0:=fun u=>by unfold G2;rw [if_neg e]
   rw [e2,e2,e2]
   by_cases h2:i<r
   ·rw [ae1 h2,ae1 h2,ae1 h2,a55 (n:=n) (M:=B8 i M) (r:=r - 1) (a:=a) (b:=b) (v:=fun c=>v (c+1)) (w:=fun c=>w (c+1)) (by omega)]
    grind
   ·rw [ab1 (by omega),ab1 (by omega),ab1 (by omega),a55 (n:=n) (M:=B8 i M) (r:=r) (a:=a) (b:=b) (v:=fun c=>v (c+1)) (w:=fun c=>w (c+1)) (by omega)]
    grind
theorem b1L {f:Nat->Rat} {r:Nat}:∀{n:Nat},r+1<n->(∀ i,i<n->i≠r->i≠r+1->f i=0)->i9 f n=f r+f (r+1)
 |0,h,_=>by omega
 |n+1,h,h0=>by
  show i9 f n+f n=_
  by_cases e:n=r+1
  ·subst e
   show i9 f r+f r+f (r+1)=_
   rw [A7 fun j hj=>h0 j (by omega) (by omega) (by omega)];grind
  ·rw [b1L (r:=r) (by omega) (fun i hi=>h0 i (by omega)),h0 n (by omega) (by omega) e];grind
theorem a5a:∀{n:Nat} {M:Nat->Nat->Rat} {r:Nat},r+1<n->M r=M (r+1)->K0 n M=0
 |0,_,_,h,_=>by omega
 |n+1,M,r,h,he=>by
  rw [N8,b1L h fun i hi h1 h2=>?_]
  ·have em:B8 r M=B8 (r+1) M:=by
    funext a c;unfold B8
    by_cases h1:a<r
    ·rw [if_pos h1,if_pos (by omega)]
    ·rw [if_neg h1]
     by_cases h2:a<r+1
     ·have:a=r:=by omega
      subst this
      rw [if_pos h2,he]
     ·rw [if_neg h2]
   rw [em,he,b1R];grind
  ·by_cases hlt:i<r
   ·rw [a5a (n:=n) (M:=B8 i M) (r:=r - 1) (by omega) (by
     funext c;unfold B8
     rw [if_neg (by omega),if_neg (by omega),show r - 1+1=r by omega,he])]
    grind
   ·rw [a5a (n:=n) (M:=B8 i M) (r:=r) (by omega) (by
     funext c;unfold B8
     rw [if_pos (by omega),if_pos (by omega),he])]
    grind
theorem a5j {M:Nat->Nat->Rat} {r s:Nat} {v w:Nat->Rat} (h:r≠s):G2 (G2 M r v) s w=G2 (G2 M s w) r v:=by
 funext i;unfold G2
 by_cases h1:i=r
 ·subst h1;rw [if_neg h,if_pos rfl,if_pos rfl]
 ·rw [if_neg h1]
  by_cases h2:i=s
  ·simp only [if_pos h2,if_neg h1]
  ·simp only [if_neg h2,if_neg h1]
theorem a0E {M:Nat->Nat->Rat} {r:Nat} {v:Nat->Rat}:G2 M r v r=v:=by unfold G2;rw [if_pos rfl]
theorem Z7 {M:Nat->Nat->Rat} {r i:Nat} {v:Nat->Rat} (h:i≠r):G2 M r v i=M i:=by unfold G2;rw [if_neg h]
theorem aD4 {n:Nat} {M:Nat->Nat->Rat} {r:Nat} (v w:Nat->Rat) (h:r<n):K0 n (G2 M r fun c=>v c+w c)=K0 n (G2 M r v)+K0 n (G2 M r w):=by
 have:=a55 (M:=M) (a:=1) (b:=1) (v:=v) (w:=w) h
 have e:(fun c=>(1:Rat)*v c+1*w c)=fun c=>v c+w c:=by funext c;grind
 rw [e] at this;grind
theorem b3V {n:Nat} {M:Nat->Nat->Rat} {r:Nat} (h:r+1<n) (v w:Nat->Rat):K0 n (G2 (G2 M r v) (r+1) w)=-(K0 n (G2 (G2 M r w) (r+1) v)):=by
 have key:K0 n (G2 (G2 M r fun c=>v c+w c) (r+1) fun c=>v c+w c)=0:=a5a h (by rw [a0E,Z7 (by omega),a0E])
 rw [aD4 v w h,a5j (show r≠r+1 by omega),a5j (show r≠r+1 by omega),aD4 v w (by omega),aD4 v w (by omega)] at key
 have z1:K0 n (G2 (G2 M (r+1) v) r v)=0:=a5a h (by rw [a0E,Z7 (by omega),a0E])
 have z2:K0 n (G2 (G2 M (r+1) w) r w)=0:=a5a h (by rw [a0E,Z7 (by omega),a0E])
 rw [z1,z2] at key
 rw [a5j (show r≠r+1 by omega),a5j (show r≠r+1 by omega)]
 grind
theorem b0h:∀(d:Nat) {n:Nat} {M:Nat->Nat->Rat} {r s:Nat},s=r+1+d->s<n->M r=M s->K0 n M=0
 |0,n,M,r,s,hs,hn,he=>by subst hs;exact a5a hn he
 |d+1,n,M,r,s,hs,hn,he=>by
  obtain ⟨q,rfl⟩:∃q,s=q+1:=⟨s - 1,by omega⟩
  have e1:M=G2 (G2 M q (M q)) (q+1) (M (q+1)):=by rw [a7Y,a7Y]
  rw [e1,b3V hn]
  have:=b0h d (n:=n) (M:=G2 (G2 M q (M (q+1))) (q+1) (M q)) (r:=r) (s:=q) (by omega) (by omega) (by
   rw [Z7 (by omega),Z7 (by omega),Z7 (by omega),a0E,he])
  rw [this];grind
theorem b4m {n:Nat} {M:Nat->Nat->Rat} {r s:Nat} (hr:r<n) (hs:s<n) (h:r≠s) (he:M r=M s):K0 n M=0:=by
 by_cases hlt:r<s
 ·exact b0h (s - r - 1) (by omega) hs he
 ·exact b0h (r - s - 1) (r:=s) (s:=r) (by omega) hr he.symm
theorem b0T {n:Nat} {M:Nat->Nat->Rat} {r:Nat} (hr:r<n) (c:Nat->Rat) (v:Nat->Nat->Rat):∀k,K0 n (G2 M r fun l=>i9 (fun i=>c i*v i l) k)=i9 (fun i=>c i*K0 n (G2 M r (v i))) k
 |0=>by
  have:=a55 (M:=M) (a:=0) (b:=0) (v:=fun _=>0) (w:=fun _=>0) hr
  have e:(fun l:Nat=>i9 (fun i=>c i*v i l) 0)=fun _=>(0:Rat)*0+0*0:=by funext l;show (0:Rat)=_;grind
  rw [e,this];show _=(0:Rat);grind
 |k+1=>by
  have ih:=b0T (M:=M) hr c v k
  have:=a55 (M:=M) (a:=1) (b:=c k) (v:=fun l=>i9 (fun i=>c i*v i l) k) (w:=v k) hr
  have e:(fun l=>i9 (fun i=>c i*v i l) (k+1))=fun l=>(1:Rat)*i9 (fun i=>c i*v i l) k+c k*v k l:=by funext l;show i9 _ k+_=_;grind
  rw [e,this,ih];show _=i9 _ k+_;grind
theorem ad9 {n:Nat} {M:Nat->Nat->Rat} {c:Nat->Rat} {u:Nat->Rat} (hu:∀l,l<n->u l=i9 (fun k=>c k*M k l) n) {j:Nat} (hj:j<n):K0 n (G2 M j u)=c j*K0 n M:=by
 have e:K0 n (G2 M j u)=K0 n (G2 M j fun l=>i9 (fun k=>c k*M k l) n):=a1S fun a b ha hb=>by
  unfold G2
  split
  ·exact hu b hb
  ·rfl
 rw [e,b0T hj,E6 hj,a7Y,A7 fun k hk=>?_]
 ·grind
 ·by_cases h:k=j
  ·rw [if_pos h]
  ·rw [if_neg h,b4m (r:=k) (s:=j) hk hj h (by rw [Z7 h,a0E])];grind
theorem b02 (i:Nat):∃z:Int,a8S i=((z:Int):Rat)∧z.natAbs=1:=by
 unfold a8S
 split
 ·exact ⟨1,rfl,rfl⟩
 ·exact ⟨-1,rfl,rfl⟩
def a6x:Nat->(Nat->Nat)->Nat
 |0,_=>1
 |n+1,B=>(n+1)*(B 0*a6x n fun c=>B (c+1))
theorem aI5 {f:Nat->Rat} {B:Nat}:∀{n:Nat},(∀ i,i<n->∃z:Int,f i=((z:Int):Rat)∧z.natAbs<=B)->∃z:Int,i9 f n=((z:Int):Rat)∧z.natAbs<=n*B
 |0,_=>⟨0,rfl,by simp⟩
 |n+1,h=>by
  obtain ⟨a,ha,ha2⟩:=aI5 (n:=n) fun i hi=>h i (by omega)
  obtain ⟨b,hb,hb2⟩:=h n (by omega)
  refine ⟨a+b,by show i9 f n+f n=_;rw [ha,hb];push_cast;rfl,?_⟩
  have:=Int.natAbs_add_le a b
  rw [lbV];omega
theorem a56:∀{n:Nat} {M:Nat->Nat->Rat} {B:Nat->Nat},(∀ i j,i<n->j<n->∃z:Int,M i j=((z:Int):Rat)∧z.natAbs<=B j)->∃z:Int,K0 n M=((z:Int):Rat)∧z.natAbs<=a6x n B
 |0,_,_,_=>⟨1,rfl,by simp [a6x]⟩
 |n+1,M,B,h=>by
  rw [N8]
  refine aI5 fun i hi=>?_
  obtain ⟨a,ha,ha2⟩:=b02 i
  obtain ⟨b,hb,hb2⟩:=h i 0 hi (by omega)
  obtain ⟨c,hc,hc2⟩:=a56 (n:=n) (M:=B8 i M) (B:=fun c=>B (c+1)) fun r c hr hc=>by
   unfold B8
   split
   ·exact h _ _ (by omega) (by omega)
   ·exact h _ _ (by omega) (by omega)
  refine ⟨a*b*c,by rw [ha,hb,hc];push_cast;rfl,?_⟩
  rw [Int.natAbs_mul,Int.natAbs_mul,ha2,Nat.one_mul]
  exact lbT hb2 hc2
theorem a1X {f:Nat->Rat}:∀n:Nat,i9 f (n+1)=f 0+i9 (fun l=>f (l+1)) n
 |0=>by simp only [i9];grind
 |n+1=>by
  have ih:=a1X (f:=f) n
  have e:i9 f (n+1+1)=i9 f (n+1)+f (n+1):=rfl
  rw [e,ih]
  simp only [i9];grind
def a3V:Nat->Nat->Rat:=fun i j=>if i=j then 1 else 0
theorem b1g:∀n,K0 n a3V=1
 |0=>rfl
 |n+1=>by
  rw [N8,a1X (f:=fun i=>a8S i*a3V i 0*K0 n (B8 i a3V)),A7 fun i hi=>?_]
  ·have e:B8 0 a3V=a3V:=by
    funext a c;unfold B8 a3V
    simp
   rw [e,b1g n]
   have:a8S 0=1:=rfl
   have h2:a3V 0 0=1:=rfl
   rw [this,h2];grind
  ·have:a3V (i+1) 0=0:=by unfold a3V;rw [if_neg (by omega)]
   rw [this];grind
section
def uV (n:Nat) (D0:Fd) (w:Nat):Nat->Rat
 |0=>if w<n then 0 else D0.V (w - n)
 |l+1=>if w<n then (if w=l then 1 else 0) else -(D0.A (w - n) l)
def uG (g0:Nat->Rat):Nat->Rat
 |0=>0
 |l+1=>g0 l
structure a1y (m n:Nat) (D:Fd):Prop where
 o:∀i,i<m->D.O i=n+i
 f:∀j,j<n->D.F j=j
def muF (n:Nat) (D0 D:Fd):Nat->Nat->Rat
 |0=>a3V 0
 |j+1=>uV n D0 (D.F j)
theorem b5a {m n:Nat} {D0:Fd} (h0:a1y m n D0) (l:Nat) (hl:l<n+1):Ids m n D0 (fun w=>uV n D0 w l) (a3V 0 l):=by
 intro i hi
 rw [h0.o i hi]
 rw [j0 (g:=fun j=>D0.A i j*uV n D0 j l) fun j hj=>by rw [h0.f j hj]]
 cases l with
 |zero=>
  rw [A7 fun j hj=>by show D0.A i j*(if j<n then (0:Rat) else _)=0;rw [if_pos hj];grind]
  show (if n+i<n then (0:Rat) else D0.V (n+i - n))=a3V 0 0*D0.V i - 0
  rw [if_neg (by omega),show n+i - n=i by omega]
  have:a3V 0 0=1:=rfl
  rw [this];grind
 |succ l=>
  rw [j0 (g:=fun j=>if j=l then D0.A i l else 0) fun j hj=>by
   show D0.A i j*(if j<n then (if j=l then (1:Rat) else 0) else _)=_
   rw [if_pos hj]
   by_cases h:j=l
   ·subst h;rw [if_pos rfl,if_pos rfl];grind
   ·rw [if_neg h,if_neg h];grind]
  rw [E6 (s:=l) (by omega),if_pos rfl,A7 fun j hj=>by
   by_cases h:j=l
   ·rw [if_pos h]
   ·rw [if_neg h,if_neg h]]
  show (if n+i<n then _ else -(D0.A (n+i - n) l))=a3V 0 (l+1)*D0.V i - _
  rw [if_neg (by omega),show n+i - n=i by omega]
  have:a3V 0 (l+1)=0:=rfl
  rw [this];grind
section
variable {m n:Nat} {D0 D:Fd}
def coV (D:Fd) (i:Nat):Nat->Rat
 |0=>D.V i
 |j+1=>-(D.A i j)
def coG (z:Rat) (D:Fd):Nat->Rat
 |0=>z
 |j+1=>D.G j
theorem b1H (h0:a1y m n D0) (hI:∀y c,Ids m n D0 y c↔Ids m n D y c) {i:Nat} (hi:i<m):∀l,l<n+1->uV n D0 (D.O i) l=i9 (fun k=>coV D i k*muF n D0 D k l) (n+1):=by
 intro l hl
 have h:=(hI _ _).1 (b5a h0 l hl) i hi
 rw [h,a1X]
 show _=D.V i*a3V 0 l+i9 (fun j=>-(D.A i j)*uV n D0 (D.F j) l) n
 rw [j0 (f:=fun j=>-(D.A i j)*uV n D0 (D.F j) l) (g:=fun j=>(-1:Rat)*(D.A i j*uV n D0 (D.F j) l)) fun j hj=>by grind,G7]
 grind
theorem b69 (h0:a1y m n D0) (hI:∀y c,Ids m n D0 y c↔Ids m n D y c) {g0:Nat->Rat} {z:Rat} (hg:Z9 n D g0 m z):∀l,l<n+1->uG g0 l=i9 (fun k=>coG z D k*muF n D0 D k l) (n+1):=by
 intro l hl
 have h:=hg _ _ ((hI _ _).1 (b5a h0 l hl))
 rw [a1X]
 show _=z*a3V 0 l+i9 (fun j=>D.G j*uV n D0 (D.F j) l) n
 have e:i9 (fun j=>g0 j*uV n D0 j l) n=uG g0 l:=by
  cases l with
  |zero=>rw [A7 fun j hj=>by show g0 j*(if j<n then (0:Rat) else _)=0;rw [if_pos hj];grind];rfl
  |succ l=>
   rw [j0 (g:=fun j=>if j=l then g0 l else 0) fun j hj=>by
    show g0 j*(if j<n then (if j=l then (1:Rat) else 0) else _)=_
    rw [if_pos hj]
    by_cases h:j=l
    ·subst h;rw [if_pos rfl,if_pos rfl];grind
    ·rw [if_neg h,if_neg h];grind]
   rw [E6 (s:=l) (by omega),if_pos rfl,A7 fun j hj=>by
    by_cases h:j=l
    ·rw [if_pos h]
    ·rw [if_neg h,if_neg h]]
   show _=g0 l
   grind
 rw [← e,h]
 grind
theorem b9I (h0:a1y m n D0) (hI:∀y c,Ids m n D0 y c↔Ids m n D y c) {i:Nat} (hi:i<m):K0 (n+1) (G2 (muF n D0 D) 0 (uV n D0 (D.O i)))=D.V i*K0 (n+1) (muF n D0 D):=ad9 (b1H h0 hI hi) (j:=0) (by omega)
theorem b7y (h0:a1y m n D0) (hI:∀y c,Ids m n D0 y c↔Ids m n D y c) {i j:Nat} (hi:i<m) (hj:j<n):K0 (n+1) (G2 (muF n D0 D) (j+1) (uV n D0 (D.O i)))=-(D.A i j)*K0 (n+1) (muF n D0 D):=ad9 (b1H h0 hI hi) (j:=j+1) (by omega)
theorem b9A (h0:a1y m n D0) (hI:∀y c,Ids m n D0 y c↔Ids m n D y c) {g0:Nat->Rat} {z:Rat} (hg:Z9 n D g0 m z) {j:Nat} (hj:j<n):K0 (n+1) (G2 (muF n D0 D) (j+1) (uG g0))=D.G j*K0 (n+1) (muF n D0 D):=ad9 (b69 h0 hI hg) (j:=j+1) (by omega)
theorem b2j (h0:a1y m n D0):K0 (n+1) (muF n D0 D0)=1:=by
 rw [← b1g (n+1)]
 refine a1S fun i j hi hj=>?_
 cases i with
 |zero=>rfl
 |succ i=>
  show uV n D0 (D0.F i) j=_
  rw [h0.f i (by omega)]
  cases j with
  |zero=>show (if i<n then (0:Rat) else _)=_;rw [if_pos (by omega)];rfl
  |succ j=>
   show (if i<n then (if i=j then (1:Rat) else 0) else _)=_
   rw [if_pos (by omega)]
   unfold a3V
   by_cases h:i=j
   ·rw [if_pos h,if_pos (by omega)]
   ·rw [if_neg h,if_neg (by omega)]
theorem b3l (h0:a1y m n D0) (hI:∀y c,Ids m n D0 y c↔Ids m n D y c) {r s:Nat} (hr:r<m) (hs:s<n):K0 (n+1) (muF n D0 (D.exch r s))=-(D.A r s)*K0 (n+1) (muF n D0 D):=by
 rw [← b7y h0 hI hr hs]
 refine a1S fun i j hi hj=>?_
 cases i with
 |zero=>rfl
 |succ i=>
  show uV n D0 ((D.exch r s).F i) j=G2 (muF n D0 D) (s+1) (uV n D0 (D.O r)) (i+1) j
  rw [a1G]
  by_cases h:i=s
  ·subst h;rw [if_pos rfl,a0E]
  ·rw [if_neg h,Z7 (by omega)];rfl
end
theorem b4G {m n:Nat} {D0:Fd} {g0:Nat->Rat} (h0:a1y m n D0) (hv:a5V m n D0 g0 D0):∀{k:Nat} {D:Fd},itS m n k D0=some D->K0 (n+1) (muF n D0 D)≠0
 |0,D,h=>by injection h with h;subst h;rw [b2j h0];decide
 |k+1,D,h=>by
  rw [a07] at h
  cases hk:itS m n k D0 with
  |none=>rw [hk] at h;cases h
  |some D1=>
   rw [hk] at h
   have h:I9 m n D1=some D:=h
   obtain ⟨r,s,hs,rfl⟩:=a68 h
   obtain ⟨h1,h2,h3⟩:=a5b hs
   have hp:=a6P h3
   rw [b3l h0 (a1n hv hk).i h1 h2]
   intro e
   rcases Rat.mul_eq_zero.1 e with e|e
   ·exact hp (by grind)
   ·exact b4G h0 hv hk e
def b6j (K:Rat) (M:Nat->Nat->Rat):Nat->Nat->Rat:=fun i j=>if j=0 then K*M i 0 else M i j
theorem b7m (n:Nat) (K:Rat) (M:Nat->Nat->Rat):K0 (n+1) (b6j K M)=K*K0 (n+1) M:=by
 rw [N8,N8,←G7]
 refine j0 fun i hi=>?_
 have e:B8 i (b6j K M)=B8 i M:=by
  funext a c;unfold B8 b6j;rw [if_neg (by omega)]
 rw [e]
 show a8S i*(if (0:Nat)=0 then K*M i 0 else _)*_=_
 rw [if_pos rfl];grind
theorem aw0 {n:Nat} {M:Nat->Nat->Rat} {r:Nat} (hr:r<n) (h:∀c,c<n->M r c=0):K0 n M=0:=by
 have e:K0 n M=K0 n (G2 M r fun c=>(0:Rat)*0+0*0):=a1S fun i j hi hj=>by
  unfold G2
  by_cases hir:i=r
  ·subst hir;rw [if_pos rfl,h j hj];grind
  ·rw [if_neg hir]
 rw [e,a55 (v:=fun _=>0) (w:=fun _=>0) hr];grind
theorem b0F {n:Nat} {M:Nat->Nat->Rat} (h1:M 0 0=1) (h0:∀c,c<n->M 0 (c+1)=0):K0 (n+1) M=K0 n (B8 0 M):=by
 rw [N8,a1X (f:=fun i=>a8S i*M i 0*K0 n (B8 i M)),A7 fun i hi=>?_]
 ·have:a8S 0=1:=rfl
  rw [this,h1];grind
 ·rw [aw0 (n:=n) (M:=B8 (i+1) M) (r:=0) (by omega) fun c hc=>by
   unfold B8;rw [if_pos (by omega)];exact h0 c hc]
  grind
structure b0j (m n K BV BA BG:Nat) (D0:Fd) (g0:Nat->Rat):Prop where
 k:0<K
 v:∀i,i<m->∃z:Int,(K:Rat)*D0.V i=((z:Int):Rat)∧z.natAbs<=BV
 a:∀i j,i<m->j<n->∃z:Int,D0.A i j=((z:Int):Rat)∧z.natAbs<=BA
 g:∀j,j<n->∃z:Int,g0 j=((z:Int):Rat)∧z.natAbs<=BG
 a1:1<=BA
 ag:BA<=BG
theorem ay7 {m n K BV BA BG:Nat} {D0:Fd} {g0:Nat->Rat} (h:b0j m n K BV BA BG D0 g0) {w l:Nat} (hw:w<n+m) (hl:l<n):∃z:Int,uV n D0 w (l+1)=((z:Int):Rat)∧z.natAbs<=BA:=by
 have:=h.a1
 show ∃z:Int,(if w<n then (if w=l then (1:Rat) else 0) else -(D0.A (w - n) l))=_∧_
 by_cases h1:w<n
 ·rw [if_pos h1]
  by_cases h2:w=l
  ·rw [if_pos h2];exact ⟨1,rfl,by simpa using this⟩
  ·rw [if_neg h2];exact ⟨0,rfl,by simp⟩
 ·rw [if_neg h1]
  obtain ⟨z,hz,hb⟩:=h.a (w - n) l (by omega) hl
  exact ⟨-z,by rw [hz];push_cast;rfl,by rw [Int.natAbs_neg];exact hb⟩
theorem b71 {m n K BV BA BG:Nat} {D0:Fd} {g0:Nat->Rat} (h:b0j m n K BV BA BG D0 g0) {w:Nat} (hw:w<n+m):∃z:Int,(K:Rat)*uV n D0 w 0=((z:Int):Rat)∧z.natAbs<=BV:=by
 show ∃z:Int,(K:Rat)*(if w<n then (0:Rat) else D0.V (w - n))=_∧_
 by_cases h1:w<n
 ·rw [if_pos h1];exact ⟨0,by show _=(0:Rat);grind,by simp⟩
 ·rw [if_neg h1];exact h.v _ (by omega)
theorem b6a {m n K BV BA BG:Nat} {D0 D:Fd} {g0:Nat->Rat} (h:b0j m n K BV BA BG D0 g0) (hf:∀j,j<n->D.F j<n+m):∃z:Int,K0 (n+1) (muF n D0 D)=((z:Int):Rat)∧z.natAbs<=a6x n fun _=>BA:=by
 rw [b0F (M:=muF n D0 D) rfl fun c hc=>rfl]
 refine a56 fun i j hi hj=>?_
 unfold B8
 rw [if_neg (by omega)]
 exact ay7 h (hf i hi) hj
theorem aH4 {m n K BV BA BG:Nat} {D0 D:Fd} {g0:Nat->Rat} (h:b0j m n K BV BA BG D0 g0) (hf:∀j,j<n->D.F j<n+m) {B:Nat} {u:Nat->Rat} (hB:BA<=B) (hu:∀l,l<n->∃z:Int,u (l+1)=((z:Int):Rat)∧z.natAbs<=B) (j:Nat):∃z:Int,K0 (n+1) (G2 (muF n D0 D) (j+1) u)=((z:Int):Rat)∧z.natAbs<=a6x n fun _=>B:=by
 rw [b0F (M:=G2 (muF n D0 D) (j+1) u) (by rw [Z7 (by omega)];rfl) fun c hc=>by rw [Z7 (by omega)];rfl]
 refine a56 fun i k hi hk=>?_
 have em:B8 0 (G2 (muF n D0 D) (j+1) u) i k=G2 (muF n D0 D) (j+1) u (i+1) (k+1):=by unfold B8;rw [if_neg (by omega)]
 rw [em]
 by_cases e:i+1=j+1
 ·rw [e,a0E];exact hu k hk
 ·rw [Z7 e]
  obtain ⟨z,hz,hb⟩:=ay7 h (hf i hi) hk
  exact ⟨z,hz,by omega⟩
theorem b3y {m n K BV BA BG:Nat} {D0 D:Fd} {g0:Nat->Rat} (h:b0j m n K BV BA BG D0 g0) (hf:∀j,j<n->D.F j<n+m) {w:Nat} (hw:w<n+m):∃z:Int,(K:Rat)*K0 (n+1) (G2 (muF n D0 D) 0 (uV n D0 w))=((z:Int):Rat)∧z.natAbs<=a6x (n+1) fun c=>if c=0 then BV else BA:=by
 rw [← b7m]
 refine a56 fun i j hi hj=>?_
 have key:∀w,w<n+m->∃z:Int,(if j=0 then (K:Rat)*uV n D0 w 0 else uV n D0 w j)=((z:Int):Rat)∧z.natAbs<=if j=0 then BV else BA:=fun w hw=>by
  by_cases h1:j=0
  ·rw [if_pos h1,if_pos h1];exact b71 h hw
  ·rw [if_neg h1,if_neg h1]
   obtain ⟨l,rfl⟩:∃l,j=l+1:=⟨j - 1,by omega⟩
   exact ay7 h hw (by omega)
 unfold b6j G2
 cases i with
 |zero=>simp only [if_true];exact key w hw
 |succ i=>
  simp only [if_neg (show i+1≠0 by omega)]
  exact key (D.F i) (hf i (by omega))
theorem a9k {x:Rat} {p q:Int} (hq:q≠0) (h:((q:Int):Rat)*x=((p:Int):Rat)):rl x<=max (bl p) (bl q):=by
 have hqn:((q:Int):Rat)≠0:=by intro e;exact hq (by exact_mod_cast e)
 have e:x=Rat.divInt p q:=by
  rw [Rat.divInt_eq_div,←h]
  rw [Rat.mul_comm,Rat.div_def,Rat.mul_assoc,Rat.mul_inv_cancel _ hqn];grind
 rw [e];exact a0m hq
theorem a5G {z:Int} {X k:Nat} (h:z.natAbs<=X) (hX:(X:Int)<pw k):bl z<=k:=O1 (by omega)
theorem b0a {m n K BV BA BG b:Nat} {D0 D:Fd} {g0:Nat->Rat} (h0:a1y m n D0) (h:b0j m n K BV BA BG D0 g0) (hv:a5V m n D0 g0 D0) (hD:U9 m n D0 D)
 (b1:((a6x (n+1) fun c=>if c=0 then BV else BA:Nat):Int)<pw b) (b2:((a6x n fun _=>BG:Nat):Int)<pw b) (b3:((K*a6x n fun _=>BA:Nat):Int)<pw b) (b4:((a6x n fun _=>BA:Nat):Int)<pw b):
 (∀ i,i<m->rl (D.V i)<=b)∧(∀ i j,i<m->j<n->rl (D.A i j)<=b)∧∀j,j<n->rl (D.G j)<=b:=by
 obtain ⟨k,hk⟩:=hD
 have hi:=a1n hv hk
 have hn:=b4G h0 hv hk
 obtain ⟨d,hd,hdb⟩:=b6a h (D:=D) hi.p.fb
 rw [hd] at hn
 have hd0:d≠0:=fun e=>hn (by rw [e];rfl)
 refine ⟨fun i him=>?_,fun i j him hj=>?_,fun j hj=>?_⟩
 ·obtain ⟨p,hp,hpb⟩:=b3y h (D:=D) hi.p.fb (hi.p.ob i him)
  rw [b9I h0 hi.i him,hd] at hp
  have hK:=h.k
  have e:=a9k (x:=D.V i) (p:=p) (q:=(K:Int)*d) (by
   intro e
   rcases Int.mul_eq_zero.1 e with e|e
   ·omega
   ·exact hd0 e) (by rw [← hp];push_cast;grind)
  have q1:=a5G hpb b1
  have q2:bl ((K:Int)*d)<=b:=a5G (X:=K*a6x n fun _=>BA) (by rw [Int.natAbs_mul];exact lbT (by simp) hdb) b3
  omega
 ·obtain ⟨p,hp,hpb⟩:=aH4 h (D:=D) hi.p.fb (lbR _) (u:=uV n D0 (D.O i)) (fun l hl=>ay7 h (hi.p.ob i him) hl) j
  rw [b7y h0 hi.i him hj,hd] at hp
  have e:=a9k (x:=-(D.A i j)) (p:=p) (q:=d) hd0 (by rw [← hp];grind)
  rw [a2w] at e
  have q1:=a5G hpb b4
  have q2:=a5G hdb b4
  omega
 ·obtain ⟨z,hz⟩:=hi.g
  obtain ⟨p,hp,hpb⟩:=aH4 h (D:=D) hi.p.fb h.ag (u:=uG g0) (fun l hl=>h.g l hl) j
  rw [b9A h0 hi.i hz hj,hd] at hp
  have e:=a9k (x:=D.G j) (p:=p) (q:=d) hd0 (by rw [← hp];grind)
  have q1:=a5G hpb b2
  have q2:=a5G hdb b4
  omega
end
def ag1 (v:Rat):Prop:=∃z:Int,((1000:Nat):Rat)*v=((z:Int):Rat)∧z.natAbs<=2305843009213693952
def b7r (w:H6):Prop:=S8 w.terms∧ag1 w.value
theorem b2T {x:Int} (h0:-1000000000000000<=x) (h1:x<=1000000000000000):ag1 ((x:Int):Rat):=⟨1000*x,by push_cast;rfl,by omega⟩
theorem a6g:ag1 0:=⟨0,by show _=(0:Rat);grind,by decide⟩
theorem b24 {x:Rat} (h:ag1 x):ag1 (-x):=by
 obtain ⟨z,h1,h2⟩:=h
 exact ⟨-z,by push_cast;rw [← h1];grind,by rw [Int.natAbs_neg];exact h2⟩
theorem b4K {cs:List P2} {rs:List J3} {scale reading day:Int} {lo hi:Rat} (h:T4 cs rs scale reading day=some (lo,hi)):ag1 hi:=by
 unfold T4 at h
 split at h
 ·cases h
 ·rename_i i hi
  obtain ⟨hb,c,hc,_,hcv⟩:=T1 hi
  have e:a2r cs i=c:=by unfold a2r;rw [hc];rfl
  rw [e] at h
  split at h
  ·cases h
  ·split at h
   ·rename_i hr
    injection h with h
    injection h with h1 h2
    rw [← h2]
    unfold a0c a0w at hcv
    rw [a0F] at hr
    simp only [lbN,lbJ,a0F] at hcv
    obtain ⟨⟨⟨⟨⟨⟨⟨h1,h2⟩,h3⟩,_⟩,h4⟩,h5⟩,h6⟩,h7⟩:=hcv
    have e1:0<=c.permille*reading:=lb0 (by omega) (by omega)
    have e2:c.permille*reading<=1000*1099511627776:=Int.mul_le_mul (by omega) (by omega) (by omega) (by omega)
    have e3:0<=c.drift*(day - c.since):=lb0 (by omega) (by omega)
    have e4:c.drift*(day - c.since)<=10000000*100000:=Int.mul_le_mul (by omega) (by omega) (by omega) (by omega)
    refine ⟨1000*reading+(c.permille*reading+1000*(c.grams+c.drift*(day - c.since))),?_,by omega⟩
    unfold a6i
    have e5:((1000:Nat):Rat)*Rat.divInt (c.permille*reading) 1000=((c.permille*reading:Int):Rat):=by
     rw [Rat.divInt_eq_div]
     have:((1000:Nat):Rat)=((1000:Int):Rat):=rfl
     rw [this]
     rw [Rat.div_def,←Rat.mul_assoc,Rat.mul_comm (((1000:Int):Rat)),Rat.mul_assoc,Rat.mul_inv_cancel _ (by decide)];grind
    have e6:((1000:Nat):Rat)*((reading:Rat)+(Rat.divInt (c.permille*reading) 1000+((c.grams+c.drift*(day - c.since):Int):Rat)))=((1000:Nat):Rat)*(reading:Rat)+(((1000:Nat):Rat)*Rat.divInt (c.permille*reading) 1000+((1000:Nat):Rat)*((c.grams+c.drift*(day - c.since):Int):Rat)):=by grind
    rw [e6,e5];push_cast;rfl
   ·cases h
theorem b9y {t:g7} {kind:Int} (ht:s6 t=0):∀w ∈ (m7 t kind).rows,b7r w:=by
 classical
 obtain ⟨q1,q2,q3,q4,q5⟩:=B4 ht
 have key:(z6 t kind t.ev.moves.length).all (fun w=>decide (b7r w))=true:=(S6 _ (lbR _)).2 fun i x hi hx=>by
  rw [lbw]
  intro w hw
  refine lbI ?_
  unfold M6 at hw
  rw [lbA,lbA,lbA] at hw
  rcases hw with ((hw|hw)|hw)|hw
  ·split at hw
   ·cases hw
   ·simp at hw;subst hw
    exact ⟨a4V (a2u _) (N7 (by decide) (by decide)),a6g⟩
  ·unfold O7 at hw
   split at hw
   ·cases hw
   ·rename_i lo hi' hiv
    simp at hw;subst hw
    refine ⟨N7 (by decide) (by decide),?_⟩
    unfold N3 at hiv
    split at hiv
    ·cases hiv
    ·exact b4K hiv
  ·obtain ⟨g,hg,rfl⟩:=lby.1 hw
   unfold j8 at hg
   obtain ⟨f,hf',rfl⟩:=lby.1 hg
   have:=P3 q4 f (lbz.1 hf').1
   exact ⟨N7 (by decide) (by decide),b2T (by omega) (by omega)⟩
  ·rw [List.mem_replicate] at hw
   rw [hw.2]
   exact ⟨N7 (by decide) (by decide),a6g⟩
 intro w hw
 exact lbM (lbw.1 key w hw)
theorem af2 {c:Int} (h:bl c<=1):c.natAbs<=1048575:=by
 have h1:=P9 c.natAbs
 have h2:(dg c.natAbs).length<=1:=h
 have h3:pw (dg c.natAbs).length<=pw 1:=by
  have:(dg c.natAbs).length=0∨(dg c.natAbs).length=1:=by omega
  rcases this with h|h<;>rw [h]
  ·decide
  ·exact Int.le_refl _
 have h4:pw 1=1048576:=by decide
 omega
theorem b7u {b:Bool} {x:Rat} {c:Int} (h:x=((c:Int):Rat)):∃c':Int,Z3 b x=((c':Int):Rat)∧c'.natAbs=c.natAbs:=by
 cases b with
 |false=>exact ⟨c,h,rfl⟩
 |true=>exact ⟨-c,by show -x=_;rw [h];push_cast;rfl,Int.natAbs_neg c⟩
theorem b7d {s:k7} {g:List (Int × Rat)}:a1y (g8 s).length s.n.toNat (k5 s g):=⟨fun _ _=>rfl,fun _ _=>rfl⟩
theorem b2r {s:k7} {g:List (Int × Rat)} (hI:∀w ∈ s.rows,b7r w) (hg:S8 g):b0j (g8 s).length s.n.toNat 1000 2305843009213693952 1048575 1048575 (k5 s g) (fun j=>-(L3 g j)) where
 k:=by decide
 v:=fun i hi=>by
  obtain ⟨f,hf⟩:∃f,(g8 s)[i]? =some f:=⟨_,lbf hi⟩
  obtain ⟨x,hx,_⟩:=a0o.1 (lbm hf)
  have h2:=(hI x (lbm hx)).2
  have hfd:(g8 s).getD i (0,false)=f:=by rw [lbl,hf];rfl
  have eV:(k5 s g).V i=Z3 f.2 x.value:=by show a3R s ((g8 s).getD i (0,false))=_;rw [hfd];unfold a3R;rw [hx]
  rw [eV]
  cases f.2 with
  |false=>exact h2
  |true=>exact b24 h2
 a:=fun i j hi hj=>by
  obtain ⟨f,hf⟩:∃f,(g8 s)[i]? =some f:=⟨_,lbf hi⟩
  obtain ⟨x,hx,_⟩:=a0o.1 (lbm hf)
  have h1:=(hI x (lbm hx)).1
  have hfd:(g8 s).getD i (0,false)=f:=by rw [lbl,hf];rfl
  have eA:(k5 s g).A i j=Z3 f.2 (L3 x.terms j):=by show a3N s ((g8 s).getD i (0,false)) j=_;rw [hfd];unfold a3N;rw [hx]
  rw [eA]
  obtain ⟨c,hc,hb⟩:=a2N h1 x.terms.length j
  obtain ⟨c',hc',hb'⟩:=b7u (b:=f.2) (x:=L3 x.terms j) hc
  exact ⟨c',hc',by rw [hb'];exact af2 hb⟩
 g:=fun j hj=>by
  obtain ⟨c,hc,hb⟩:=a2N hg g.length j
  exact ⟨-c,by rw [show L3 g j=((c:Int):Rat) from hc];push_cast;rfl,by rw [Int.natAbs_neg];exact af2 hb⟩
 a1:=by decide
 ag:=by decide
theorem b2C:∀n,n<10->((a6x (n+1) fun c=>if c=0 then 2305843009213693952 else 1048575:Nat):Int)<pw 15∧((a6x n fun _=>1048575:Nat):Int)<pw 15∧((1000*a6x n fun _=>1048575:Nat):Int)<pw 15:=by decide +kernel
structure a5F (s:k7):Prop where
 r:m8 s=true
 i:∀w ∈ s.rows,b7r w
 n:s.n<=9
 l:s.rows.length<=999
theorem b3D {s:k7} {g:List (Int × Rat)} (h:a5F s) (hg:S8 g):∀D,U9 (g8 s).length s.n.toNat (k5 s g) D->BdD (g8 s).length s.n.toNat 15 D:=by
 intro D hD
 have hn:=a4h h.r
 have:=h.n
 obtain ⟨p1,p2,p3⟩:=b2C s.n.toNat (by omega)
 obtain ⟨b1,b2,b3⟩:=b0a b7d (b2r h.i hg) a1o hD p1 p2 p3 p2
 exact ⟨b1,fun i hi j hj=>b2 i j hi hj,b3⟩
theorem ag0 {v:Rat} (h:ag1 v):rl v<=4:=by
 obtain ⟨z,h1,h2⟩:=h
 have:=a9k (x:=v) (p:=z) (q:=1000) (by decide) (by rw [← h1];rfl)
 have b1:bl z<=4:=a5G h2 (by decide)
 have b2:bl 1000<=4:=by have:=B9 (x:=1000) (by decide) (by decide);omega
 omega
theorem aE6 {s:k7} {g:List (Int × Rat)} (h:a5F s) (hg:k6 (-1) ((s.n.toNat:Nat):Int) g=true) (hw:S8 g):F4 s g s.n.toNat 15:=by
 have hn:=a4h h.r
 have h9:=h.n
 have hl:=h.l
 have hwr:=a1U hw
 have rows:∀w ∈ s.rows,w.terms.length<=100∧(∀ t ∈ w.terms,rl t.2<=200)∧rl w.value<=200:=fun w hw=>by
  obtain ⟨i,hi,rfl⟩:=List.getElem_of_mem hw
  have hrt:=(a1c h.r (lbf hi)).1
  have h1:=J6 hrt
  have h2:=h.i _ (lbF hi)
  exact ⟨by omega,fun t ht=>by have:=a1U h2.1 t ht;omega,by have:=ag0 h2.2;omega⟩
 refine ⟨⟨h.r,hg,hn.symm,by omega,fun w hw=>?_,fun t ht=>by have:=hwr t ht;omega,by omega⟩,⟨by omega,rows⟩,fun t ht=>by have:=hwr t ht;omega,b3D h hw,by decide,?_,by omega⟩
 ·obtain ⟨a1,a2,a3⟩:=rows w hw
  exact ⟨by omega,fun t ht=>by have:=a2 t ht;omega⟩
 ·have:s.n.toNat<=9:=by omega
  have:=lbU (15+2) (show s.n.toNat+3<=12 by omega)
  omega
theorem bd1 {s:k7} {g:List (Int × Rat)} (h:a5F s) (hg:k6 (-1) ((s.n.toNat:Nat):Int) g=true) (hw:S8 g):∀v ∈ n7 s g,rl v<=15:=a7J (aE6 h hg hw)
structure QT (t:g7):Prop where
 h:s6 t=0
 m:t.ev.moves.length<=8
 p:t.ev.places.length<=20
theorem QT.c {t:g7} (h:QT t):t.cleans.length<=50:=(B4 h.h).2.2.1
theorem aU0 (xs:List Int) (hl:xs.length<=1000000) (fg:FuncId) (caps:List T) (q:Int->Bool) (hg:∀x ∈ xs,e7 Tryz.prog fg (b7 .i64 x::caps.map fun x=>.c (.t x)) [] (i8 (q x)) []):
 e7 Tryz.prog 245 [i6 xs,.c (.t (.fn (.func fg) caps))] [] (b7 .i64 (K3 q xs 0)) []:=by
 have l1:(xs.map i5).length=xs.length:=by simp
 (refine ac Tryz.func245 ?_;(conv=>whnf);repeat (refine zy ?_;conv=>whnf))
 repeat' (first|refine zx ?_|refine zd ?_ ?_<;>intro h<;>try omega|fail)<;>conv=>whnf
 refine j5 e8 (fun k=>([i6 xs,S.c (C.t (T.fn (.func fg) caps)),J,J,J,J,J,b7 .i64 xs.length,b7 .i64 k]++Jn 10,[])) xs.length (fun k=>K3 q (xs.drop k) k=K3 q xs 0) [] rfl
  ⟨rfl,rfl,trivial,⟨k8 rfl,k8 rfl,g9 (by simp),rfl,trivial⟩⟩ ?_
 intro k hk hI
 by_cases hlt:k<xs.length
 ·obtain ⟨r,hr⟩:∃r,xs[k]? =some r:=⟨_,lbf hlt⟩
  have hd:xs.drop k=r::xs.drop (k+1):=by
   rw [List.drop_eq_getElem_cons hlt]
   rw [lbf hlt] at hr
   injection hr with hr
   rw [hr]
  have hgr:=hg r (lbm hr)
  have ha:(b7 .i64 r::caps.map fun x=>S.c (C.t x)).all S.isT=true:=by simp [S.isT,C.isT,b7]
  rw [hd] at hI
  have hI:(if q r then (k:Int) else K3 q (xs.drop (k+1)) (k+1))=K3 q xs 0:=hI
  cases hq:q r with
  |true=>
   rw [hq] at hgr hI
   conv=>whnf
   repeat' (first|refine zx ?_|refine .inl ⟨_,_,F5 hgr ha rfl,?_⟩|refine g6 hr ?_|refine zd ?_ ?_<;>intro h<;>try omega|fail)<;>conv=>whnf
   all_goals first
    |omega
    |exact s9 hI
  |false=>
   rw [hq] at hgr hI
   conv=>whnf
   repeat' (first|refine zx ?_|refine .inl ⟨_,_,F5 hgr ha rfl,?_⟩|refine g6 hr ?_|refine zd ?_ ?_<;>intro h<;>try omega|fail)<;>conv=>whnf
   all_goals first
    |omega
    |exact ⟨hlt,by simpa using hI,[],rfl,rfl,trivial,⟨rfl,rfl,rfl,rfl,trivial⟩⟩
 ·have hke:k=xs.length:=by omega
  subst hke
  rw [lbo (lbR _)] at hI
  conv=>whnf
  repeat' (first|refine zx ?_|refine zd ?_ ?_<;>intro h<;>try omega|fail)<;>conv=>whnf
  all_goals first
   |omega
   |exact s9 hI
theorem H7 {α:Type} {l:List α} {k:Nat} {x:α} (h:l[k]? =some x):l.take (k+1)=l.take k++[x]:=by
 rw [lbH,h];rfl
theorem ae9 (a b:List Int) (ha:a.length<=1000000) (hb:b.length<=1000000):e7 Tryz.prog 24 [i6 a,i6 b] [] (i8 (decide (a=b))) []:=by
 have l1:(a.map i5).length=a.length:=by simp
 have l2:(b.map i5).length=b.length:=by simp
 (refine ac Tryz.func24 ?_;(conv=>whnf);repeat (refine zy ?_;conv=>whnf))
 repeat' (first|refine zx ?_|refine zd ?_ ?_<;>intro h<;>try omega|fail)<;>conv=>whnf
 ·refine i3 (lbK ?_).symm
  intro hab;subst hab;exact h rfl
 have hab:a.length=b.length:=by omega
 refine j5 e8 (fun k=>([i6 a,i6 b,J,J,J,b7 .i64 k]++Jn 20,[])) a.length (fun k=>a.take k=b.take k) [] rfl
  ⟨rfl,rfl,trivial,⟨k8 rfl,k8 rfl,g9 rfl,trivial⟩⟩ ?_
 intro k hk hI
 conv=>whnf
 repeat' (first|refine zx ?_|refine zd ?_ ?_<;>intro h<;>try omega|fail)<;>conv=>whnf
 ·have hlt:k<a.length:=by omega
  obtain ⟨x,hx⟩:∃x,a[k]? =some x:=⟨_,lbf hlt⟩
  obtain ⟨y,hy⟩:∃y,b[k]? =some y:=⟨_,lbf (by omega)⟩
  repeat' (first|refine zx ?_|refine g6 hx ?_|refine g6 hy ?_|refine zd ?_ ?_<;>intro h<;>try omega|fail)<;>conv=>whnf
  ·have hne:x≠y:=‹x≠y›
   refine i3 (lbK ?_).symm
   intro hq;subst hq;rw [hx] at hy;injection hy with hy;exact hne hy
  ·have hxy:x=y:=by omega
   refine ⟨hlt,?_,[],rfl,rfl,trivial,⟨k8 rfl,k8 rfl,rfl,trivial⟩⟩
   rw [H7 hx,H7 hy,hI,hxy]
 ·refine i3 (lbI ?_).symm
  rw [lbn (by omega),lbn (by omega)] at hI
  exact hI
def a3M (e:Ev) (d:Int) (m i:Nat):Bool:=((e.moves.take i).drop (m+1)).all fun x=>!(decide (x.src=d) && x.all)
def av1 (e:Ev) (bl:List Bool) (d:Int) (m i:Nat) (x:v7):Bool:=decide (m<i) && decide (x.src=d) && a3M e d m i && !(bl.getD i true)
theorem a6N {e:Ev} {d:Int} {m:Nat}:a3M e d m (m+1)=true:=by
 unfold a3M;rw [List.drop_eq_nil_of_le (by simp;omega)];rfl
theorem a8z {e:Ev} {d:Int} {m k:Nat} {x:v7} (h:e.moves[k]? =some x) (hm:m<k):a3M e d m (k+1)=(a3M e d m k && !(decide (x.src=d) && x.all)):=by
 unfold a3M
 have hlt:=(lbe.1 h).1
 rw [H7 h,List.drop_append_of_le_length (by simp;omega),List.all_append]
 simp
theorem b3T (l:List Int) (n:Int) (ha:l.length<=1000000):e7 Tryz.prog 175 [i6 l,b7 .i64 n] [] (b7 .i64 (if (l.any fun x=>decide (x=n)) then (l.findIdx fun x=>decide (x=n)) else -1)) []:=by
 have l1:(l.map i5).length=l.length:=by simp
 (refine ac Tryz.func175 ?_;(conv=>whnf);repeat (refine zy ?_;conv=>whnf))
 refine j5 e8 (fun k=>([i6 l,b7 .i64 n,J,J,J,J,i6 l,b7 .i64 l.length,b7 .i64 k]++Jn 10,[])) l.length (fun k=>(l.take k).any (fun x=>decide (x=n))=false) [] rfl
  ⟨rfl,rfl,trivial,⟨k8 rfl,rfl,k8 rfl,g9 (by simp),g9 rfl,trivial⟩⟩ ?_
 intro k hk hI
 conv=>whnf
 repeat' (first|refine zx ?_|refine zd ?_ ?_<;>intro h<;>try omega|fail)<;>conv=>whnf
 ·have hlt:k<l.length:=by omega
  obtain ⟨x,hx⟩:∃x,l[k]? =some x:=⟨_,lbf hlt⟩
  have hxg:l[k]=x:=(lbe.1 hx).2
  repeat' (first|refine zx ?_|refine g6 hx ?_|refine zd ?_ ?_<;>intro h<;>try omega|fail)<;>conv=>whnf
  ·have hxn:x=n:=by omega
   refine s9 ?_
   rw [if_pos (a60 hx (by simpa using hxn)),(List.findIdx_eq hlt).2 ⟨by simp [hxg,hxn],fun j hj=>?_⟩]
   rw [List.any_eq_false] at hI
   have:=hI l[j] (List.mem_take_iff_getElem.2 ⟨j,by omega,rfl⟩)
   simpa using this
  ·have hne:¬x=n:=by omega
   refine ⟨hlt,?_,[],rfl,rfl,trivial,⟨rfl,rfl,rfl,rfl,rfl,trivial⟩⟩
   rw [a2v hx,hI]
   simpa using hne
 ·refine s9 ?_
  rw [lbn (by omega)] at hI
  rw [hI];rfl
theorem a8C (l:List Int) (n:Int) (ha:l.length<=1000000):e7 Tryz.prog 104 [i6 l,b7 .i64 n] [] (i8 (l.any fun x=>decide (x=n))) []:=by
 (refine ac Tryz.func104 ?_;(conv=>whnf);repeat (refine zy ?_;conv=>whnf))
 repeat' (first|refine zx ?_|refine qp (b3T _ _ ha) ?_|refine zd ?_ ?_<;>intro h<;>try omega|fail)<;>conv=>whnf
 all_goals
  refine i3 ?_
  cases hb:(l.any fun x=>decide (x=n)) with
  |true=>simp_all
  |false=>simp_all
theorem aY3 {s:k7} (h:a5F s):b3n s:=by
 have hn:=a4h h.r
 have h9:=h.n
 refine ⟨by have:=h.l;omega,fun w hw=>?_⟩
 obtain ⟨i,hi,rfl⟩:=List.getElem_of_mem hw
 have h1:=J6 (a1c h.r (lbf hi)).1
 have h2:=h.i _ (lbF hi)
 exact ⟨by omega,fun t ht=>by have:=a1U h2.1 t ht;omega,by have:=ag0 h2.2;omega⟩
def E8:List Int->Nat->List (List Int)
 |_,0=>[[]]
 |[],_+1=>[]
 |x::r,n+1=>(E8 r n).map (x::·)++E8 r (n+1)
def C5 (a b:List Int):Bool:=a.all fun x=>b.any fun y=>decide (y=x)
theorem a1m {a b:List Int}:C5 a b=true↔∀x ∈ a,x ∈ b:=by
 unfold C5
 rw [lbw]
 constructor
 ·intro h x hx
  obtain ⟨y,hy,e⟩:=lbx.1 (h x hx)
  rw [← lbM e];exact hy
 ·intro h x hx
  exact lbx.2 ⟨x,h x hx,lbI rfl⟩
theorem H8:∀{l:List Int} {n:Nat} {s:List Int},s ∈ E8 l n↔s.Sublist l∧s.length=n
 |l,0,s=>by
  simp only [E8,List.mem_singleton]
  constructor
  ·rintro rfl;exact ⟨List.nil_sublist _,rfl⟩
  ·rintro ⟨_,h⟩;exact lbG h
 |[],n+1,s=>by
  simp only [E8]
  constructor
  ·intro h;cases h
  ·rintro ⟨h1,h2⟩
   rw [List.sublist_nil.1 h1] at h2;cases h2
 |x::r,n+1,s=>by
  simp only [E8,lbA,lby]
  constructor
  ·rintro (⟨q,hq,rfl⟩|h)
   ·obtain ⟨h1,h2⟩:=H8.1 hq
    exact ⟨h1.cons_cons x,by simp [h2]⟩
   ·obtain ⟨h1,h2⟩:=H8.1 h
    exact ⟨h1.cons x,h2⟩
  ·rintro ⟨h1,h2⟩
   cases h1 with
   |cons _ h1=>exact .inr (H8.2 ⟨h1,h2⟩)
   |cons_cons _ h1=>exact .inl ⟨_,H8.2 ⟨h1,by simpa using h2⟩,rfl⟩
def aj3:List Int->List Int->Bool
 |a::p,b::q=>decide (a<b) || (decide (a=b) && aj3 p q)
 |_,_=>false
def a1e (a b:List Int):Bool:=if a.length≠b.length then decide (a.length<b.length) else aj3 a b
theorem a7G:∀{l:List Int} {n:Nat},l.Pairwise (·<·)->(E8 l n).Pairwise fun a b=>aj3 a b=true
 |l,0,_=>by simp [E8]
 |[],n+1,_=>by simp [E8]
 |x::r,n+1,h=>by
  obtain ⟨h1,h2⟩:=List.pairwise_cons.1 h
  simp only [E8]
  rw [aq8]
  refine ⟨?_,a7G h2,fun a ha b hb=>?_⟩
  ·rw [List.pairwise_map]
   refine (a7G (n:=n) h2).imp fun {a b} hab=>?_
   simp [aj3,hab]
  ·obtain ⟨q,hq,rfl⟩:=lby.1 ha
   obtain ⟨h3,h4⟩:=H8.1 hb
   cases b with
   |nil=>simp at h4
   |cons y b=>
    have:x<y:=h1 y (h3.subset (by simp))
    simp [aj3,this]
def I8 (p:List Int->Bool) (l:List Int) (short:Bool):Nat->List (List Int)
 |0=>[]
 |n+1=>if short=true∧I8 p l short n≠[] then I8 p l short n
  else I8 p l short n++(E8 l n).filter fun s=>!((I8 p l short n).any fun a=>C5 a s) && p s
def aw3 (p:List Int->Bool) (l:List Int) (short:Bool):List (List Int):=I8 p l short (l.length+1)
theorem at3 {p:List Int->Bool} {l:List Int} {n:Nat}:I8 p l false (n+1)=I8 p l false n++(E8 l n).filter fun s=>!((I8 p l false n).any fun a=>C5 a s) && p s:=by
 rw [I8,if_neg (by simp)]
theorem a0L {p:List Int->Bool} {l:List Int}:∀{n:Nat} {s:List Int},s ∈ I8 p l false n↔s.Sublist l∧s.length<n∧p s=true∧∀a ∈ I8 p l false s.length,C5 a s=false
 |0,s=>by simp [I8]
 |n+1,s=>by
  have ih:=a0L (p:=p) (l:=l) (n:=n) (s:=s)
  rw [at3,lbA,ih,lbz,H8]
  simp only [lbN,Bool.not_eq_true',←lbQ]
  constructor
  ·rintro (⟨h1,h2,h3⟩|⟨⟨h1,h2⟩,h3,h4⟩)
   ·exact ⟨h1,by omega,h3⟩
   ·refine ⟨h1,by omega,h4,fun a ha h=>h3 ?_⟩
    rw [← h2]
    exact lbx.2 ⟨a,ha,h⟩
  ·rintro ⟨h1,h2,h3,h4⟩
   by_cases hn:s.length<n
   ·exact .inl ⟨h1,hn,h3,h4⟩
   ·have hn:s.length=n:=by omega
    refine .inr ⟨⟨h1,hn⟩,fun h=>?_,h3⟩
    obtain ⟨a,ha,hp⟩:=lbx.1 h
    rw [← hn] at ha
    exact h4 a ha hp
theorem a71 {l s:List Int} (hl:l.Pairwise (·<·)) (h:s.Sublist l):s.Pairwise (·<·):=hl.sublist h
theorem a5g:∀{a b:List Int},a.Pairwise (·<·)->b.Pairwise (·<·)->(∀ x ∈ a,x ∈ b)->a.Sublist b
 |[],b,_,_,_=>List.nil_sublist b
 |x::a,[],_,_,h=>by have:=h x (by simp);cases this
 |x::a,y::b,ha,hb,h=>by
  obtain ⟨a1,a2⟩:=List.pairwise_cons.1 ha
  obtain ⟨b1,b2⟩:=List.pairwise_cons.1 hb
  rcases lbB.1 (h x (by simp)) with rfl|hx
  ·refine (a5g a2 b2 fun z hz=>?_).cons_cons x
   rcases lbB.1 (h z (by simp [hz])) with rfl|hz2
   ·exact absurd (a1 z hz) (by omega)
   ·exact hz2
  ·refine (a5g ha b2 fun z hz=>?_).cons y
   rcases lbB.1 (h z hz) with rfl|hz2
   ·rcases lbB.1 hz with rfl|hz3
    ·exact hx
    ·have:=a1 z hz3;have:=b1 x hx;omega
   ·exact hz2
theorem b0W {p:List Int->Bool} {l:List Int} (hl:l.Pairwise (·<·)) {s:List Int}:s ∈ aw3 p l false↔s.Sublist l∧p s=true∧∀a,a.Sublist s->a≠s->p a=false:=by
 have key:∀(n:Nat) (s:List Int),s.length=n->s.Sublist l->(s ∈ aw3 p l false↔p s=true∧∀a,a.Sublist s->a≠s->p a=false):=by
  intro n
  induction n using Nat.strongRecOn with
  |ind n ih=>
   intro s hn hs
   unfold aw3
   rw [a0L]
   constructor
   ·rintro ⟨_,h2,h3,h4⟩
    refine ⟨h3,fun a ha hne=>?_⟩
    rw [← lbQ]
    intro hp
    -- a smallest part of a with the property
    have hlt:a.length<s.length:=by
     rcases Nat.lt_or_ge a.length s.length with h|h
     ·exact h
     ·exact absurd (ha.eq_of_length_le h) hne
    have ex:∀(k:Nat) (b:List Int),b.length=k->b.Sublist s->b.length<s.length->p b=true->∃c,c.Sublist b∧c ∈ aw3 p l false:=by
     intro k
     induction k using Nat.strongRecOn with
     |ind k ihk=>
      intro b hb hbs hbl hpb
      by_cases hm:∀a,a.Sublist b->a≠b->p a=false
      ·exact ⟨b,List.Sublist.refl _,(ih b.length (by omega) b rfl (hbs.trans hs)).2 ⟨hpb,hm⟩⟩
      ·have ⟨c,hc⟩:∃c,c.Sublist b∧c≠b∧p c=true:=by
        apply a0k
        intro hno
        exact hm fun a h1 h2=>by
         rw [← lbQ];intro h3;exact hno ⟨a,h1,h2,h3⟩
       obtain ⟨c1,c2,c3⟩:=hc
       have hcl:c.length<b.length:=by
        rcases Nat.lt_or_ge c.length b.length with h|h
        ·exact h
        ·exact absurd (c1.eq_of_length_le h) c2
       obtain ⟨d,d1,d2⟩:=ihk c.length (by omega) c rfl (c1.trans hbs) (by omega) c3
       exact ⟨d,d1.trans c1,d2⟩
    obtain ⟨c,c1,c2⟩:=ex a.length a rfl ha hlt hp
    obtain ⟨m1,m2,m3,m4⟩:=a0L.1 c2
    have hc3:c ∈ I8 p l false s.length:=a0L.2 ⟨m1,by have:=c1.length_le;omega,m3,m4⟩
    have:=h4 c hc3
    rw [a1m.2 fun x hx=>ha.subset (c1.subset hx)] at this
    cases this
   ·rintro ⟨h1,h2⟩
    refine ⟨hs,by have:=hs.length_le;omega,h1,fun a ha=>?_⟩
    obtain ⟨m1,m2,m3,m4⟩:=a0L.1 ha
    rw [← lbQ]
    intro hp
    have hsub:=a5g (a71 hl m1) (a71 hl hs) (a1m.1 hp)
    have:=h2 a hsub (by intro e;rw [e] at m2;omega)
    rw [this] at m3;cases m3
 constructor
 ·intro h
  have h1:=(a0L.1 h).1
  exact ⟨h1,(key _ s rfl h1).1 h⟩
 ·rintro ⟨h1,h2⟩
  exact (key _ s rfl h1).2 h2
theorem aM3 {p:List Int->Bool} {l:List Int} (hl:l.Pairwise (·<·)):∀(n:Nat) (s:List Int),s.length=n->s.Sublist l->p s=true->∃c,c.Sublist s∧c ∈ aw3 p l false:=by
 intro n
 induction n using Nat.strongRecOn with
 |ind n ih=>
  intro s hn hs hp
  by_cases hm:∀a,a.Sublist s->a≠s->p a=false
  ·exact ⟨s,List.Sublist.refl _,(b0W hl).2 ⟨hs,hp,hm⟩⟩
  ·have ⟨c,hc⟩:∃c,c.Sublist s∧c≠s∧p c=true:=by
    apply a0k
    intro hno
    exact hm fun a h1 h2=>by
     rw [← lbQ];intro h3;exact hno ⟨a,h1,h2,h3⟩
   obtain ⟨c1,c2,c3⟩:=hc
   have hcl:c.length<s.length:=by
    rcases Nat.lt_or_ge c.length s.length with h|h
    ·exact h
    ·exact absurd (c1.eq_of_length_le h) c2
   obtain ⟨d,d1,d2⟩:=ih c.length (by omega) c rfl (c1.trans hs) c3
   exact ⟨d,d1.trans c1,d2⟩
theorem aF6 {p:List Int->Bool} {l:List Int} (hl:l.Pairwise (·<·)):∀n,(I8 p l false n).Pairwise fun a b=>a1e a b=true
 |0=>by simp [I8]
 |n+1=>by
  rw [at3,aq8]
  refine ⟨aF6 hl n,?_,fun a ha b hb=>?_⟩
  ·refine List.Pairwise.imp_of_mem ?_ ((a7G (n:=n) hl).sublist List.filter_sublist)
   intro a b ha hb h
   have h1:=(H8.1 (lbz.1 ha).1).2
   have h2:=(H8.1 (lbz.1 hb).1).2
   unfold a1e
   rw [if_neg (by omega)];exact h
  ·have h1:=(a0L.1 ha).2.1
   have h2:=(H8.1 (lbz.1 hb).1).2
   unfold a1e
   rw [if_pos (by omega)]
   exact lbI (by omega)
theorem aG5 {p:List Int->Bool} {l:List Int}:∀n,∃rest,I8 p l false n=I8 p l true n++rest∧(I8 p l true n=[]->rest=[])∧(∀ a ∈ I8 p l true n,∀b ∈ I8 p l true n,a.length=b.length)∧(∀ a ∈ I8 p l true n,∀b ∈ rest,a.length<b.length)
 |0=>⟨[],rfl,fun _=>rfl,by simp [I8],by simp [I8]⟩
 |n+1=>by
  obtain ⟨rest,h1,h2,h3,h4⟩:=aG5 (p:=p) (l:=l) n
  by_cases hs:I8 p l true n=[]
  ·have hr:=h2 hs
   rw [hs,hr] at h1
   have e1:I8 p l true (n+1)=(E8 l n).filter fun s=>!((([]:List (List Int))).any fun a=>C5 a s) && p s:=by
    rw [I8,if_neg (by rw [hs];simp),hs];rfl
   have e2:I8 p l false (n+1)=(E8 l n).filter fun s=>!((([]:List (List Int))).any fun a=>C5 a s) && p s:=by
    rw [I8,if_neg (by simp),h1];rfl
   refine ⟨[],by rw [e1,e2,List.append_nil],fun _=>rfl,fun a ha b hb=>?_,fun _ _ b hb=>by cases hb⟩
   rw [e1] at ha hb
   rw [(H8.1 (lbz.1 ha).1).2,(H8.1 (lbz.1 hb).1).2]
  ·have e1:I8 p l true (n+1)=I8 p l true n:=by rw [I8,if_pos ⟨rfl,hs⟩]
   refine ⟨rest++(E8 l n).filter fun s=>!((I8 p l false n).any fun a=>C5 a s) && p s,?_,fun h=>absurd (e1 ▸ h) hs,by rw [e1];exact h3,?_⟩
   ·rw [e1]
    conv=>lhs;rw [I8,if_neg (by simp)]
    rw [h1,lbE]
   ·rw [e1]
    intro a ha b hb
    rcases lbA.1 hb with hb|hb
    ·exact h4 a ha b hb
    ·have q1:a ∈ I8 p l false n:=by rw [h1];exact lbA.2 (.inl ha)
     have:=(a0L.1 q1).2.1
     rw [(H8.1 (lbz.1 hb).1).2];exact this
abbrev b5K (t:g7):Blk:={ mode:=.live,elem:=32,size:=10,rows:=[(trT t).map .t],box:=true }
def I0 (t:g7) (f:L1) (c:F2) (cl:Bool):g7:=if cl then b7D t c else b7H t f
theorem a1g {t:g7} {f:L1} {c:F2} {cl:Bool}:(I0 t f c cl).ev=t.ev:=by cases cl<;>rfl
theorem a8i {t:g7} {f:L1} {c:F2} {cl:Bool} {kind:Int} {z:List Rat} (h0:s6 t=0) (h:a3U (I0 t f c cl) kind z):a3U t kind z:=by
 cases cl with
 |true=>exact aX0 h0 h
 |false=>exact b0d h0 h
theorem a8l {t:g7} {f:L1} {c:F2} {cl:Bool} (h:Int):E9 (I0 t f c cl) h=E9 t h:=by unfold E9;rw [a1g]
theorem aX8 {t:g7} {f:L1} {c:F2} {cl:Bool} {kind:Int} {n:Nat} (h1:ExP t kind n) (h2:ExP (I0 t f c cl) kind n) (i:Nat):I3 t kind i=1∨I3 (I0 t f c cl) kind i=I3 t kind i:=by
 have sub:∀z,i7 (m7 (I0 t f c cl) kind) z=true->i7 (m7 t kind) z=true:=fun z hz=>h1.sol (a8i h1.e (h2.poss hz))
 rcases a1E (h1.vd (i:Int)) (i:Int) with ⟨s1,h⟩|⟨s1,h⟩|⟨s1,_⟩
 ·refine .inr ?_
  show _=(W7 _ _ _).state
  rw [s1]
  exact b1b h2 i fun z hz=>by rw [a8l];exact h z (sub z hz)
 ·refine .inr ?_
  show _=(W7 _ _ _).state
  rw [s1]
  exact b51 h2 i fun z hz=>by rw [a8l];exact h z (sub z hz)
 ·exact .inl s1
theorem aP3 {t:g7} {f:L1} {c:F2} {cl:Bool} {kind:Int} {n:Nat} (hs:t.Sized) (ht:s6 t=0) (h2:ExP (I0 t f c cl) kind n):ExP t kind n:=by
 have hm:=h2.m
 rw [a1g] at hm
 have hh:=h2.h
 rw [a1g] at hh
 have hp:=a8i ht (h2.poss (h2.vd 0).has)
 exact ⟨hs,ht,h2.k0,h2.k1,hm,hh,b0Q ht hm ((sys_holds ht h2.k0 h2.k1 (by omega)).2 hp)⟩
section
open Go.RowKit
def b7E (t:g7) (kind:Int) (n:Nat) (set:List Int):Prop:=∃z,i7 (m7 t kind) z=true∧∀h:Nat,h<n->(h:Int) ∉ set->m6 (E9 t h) z=0
noncomputable def pX (t:g7) (kind:Int) (n:Nat) (set:List Int):Bool:=
 open Classical in decide (b7E t kind n set)
theorem a2g {t:g7} {kind:Int} {n:Nat} {set:List Int}:pX t kind n set=true↔b7E t kind n set:=by unfold pX;exact @decide_eq_true_iff _ (Classical.propDecidable _)
theorem a7g {t:g7} {kind:Int} {n:Nat} {a b:List Int} (h:∀x ∈ a,x ∈ b) (ha:pX t kind n a=true):pX t kind n b=true:=by
 obtain ⟨z,h1,h2⟩:=a2g.1 ha
 exact a2g.2 ⟨z,h1,fun i hi hn=>h2 i hi fun hc=>hn (h _ hc)⟩
noncomputable def D8 (t:g7) (kind:Int) (n:Nat):List Int:=((List.range n).filter fun i=>decide (I3 t kind i≠0)).map fun i=>((i:Nat):Int)
theorem a4O {t:g7} {kind:Int} {n:Nat} {x:Int}:x ∈ D8 t kind n↔∃i:Nat,x=i∧i<n∧I3 t kind i≠0:=by
 unfold D8
 rw [lby]
 constructor
 ·rintro ⟨i,hi,rfl⟩
  obtain ⟨h1,h2⟩:=lbz.1 hi
  exact ⟨i,rfl,lbC.1 h1,lbM h2⟩
 ·rintro ⟨i,rfl,h1,h2⟩
  exact ⟨i,lbz.2 ⟨lbC.2 h1,lbI h2⟩,rfl⟩
theorem X0 (t:g7) (kind:Int) (n:Nat):(D8 t kind n).Pairwise (·<·):=by
 unfold D8
 rw [List.pairwise_map]
 refine (List.Pairwise.filter _ List.pairwise_lt_range).imp fun {a b} h=>?_
 show ((a:Nat):Int)<((b:Nat):Int);omega
theorem a4I (t:g7) (kind:Int) (n:Nat):(D8 t kind n).length<=n:=by
 unfold D8
 rw [lbr]
 have:=lbt (fun i=>decide (I3 t kind i≠0)) (List.range n)
 rwa [lbv] at this
section
variable {t:g7} {kind:Int} {n:Nat}
theorem af7 (h:ExP t kind n) {i:Nat} (h0:I3 t kind i=0) {z:List Rat} (hz:i7 (m7 t kind) z=true):m6 (E9 t (i:Int)) z=0:=by
 rcases a1E (h.vd (i:Int)) (i:Int) with ⟨h2,_⟩|⟨_,h2⟩|⟨h2,_⟩
 ·unfold I3 at h0;omega
 ·exact h2 z hz
 ·unfold I3 at h0;omega
theorem aQ9 (h:ExP t kind n) {i:Nat}:I3 t kind i=2↔∀z,i7 (m7 t kind) z=true->0<m6 (E9 t (i:Int)) z:=by
 constructor
 ·intro h2 z hz
  rcases a1E (h.vd (i:Int)) (i:Int) with ⟨_,h3⟩|⟨h3,_⟩|⟨h3,_⟩
  ·exact h3 z hz
  ·unfold I3 at h2;omega
  ·unfold I3 at h2;omega
 ·intro hA;exact b1b h i hA
noncomputable def ay5 (t:g7) (n:Nat) (z:List Rat):List Int:=((List.range n).filter fun i=>open Classical in decide (0<m6 (E9 t ((i:Nat):Int)) z)).map fun i=>((i:Nat):Int)
theorem ai0 {z:List Rat} {x:Int}:x ∈ ay5 t n z↔∃i:Nat,x=i∧i<n∧0<m6 (E9 t ((i:Nat):Int)) z:=by
 unfold ay5
 rw [lby]
 constructor
 ·rintro ⟨i,hi,rfl⟩
  obtain ⟨h1,h2⟩:=lbz.1 hi
  exact ⟨i,rfl,lbC.1 h1,lbM h2⟩
 ·rintro ⟨i,rfl,h1,h2⟩
  exact ⟨i,lbz.2 ⟨lbC.2 h1,lbI h2⟩,rfl⟩
theorem b5B (z:List Rat):(ay5 t n z).Pairwise (·<·):=by
 unfold ay5
 rw [List.pairwise_map]
 refine (List.Pairwise.filter _ List.pairwise_lt_range).imp fun {a b} h=>?_
 show ((a:Nat):Int)<((b:Nat):Int);omega
theorem aq5 (h:ExP t kind n) {z:List Rat} (hz:i7 (m7 t kind) z=true):pX t kind n (ay5 t n z)=true:=by
 refine a2g.2 ⟨z,hz,fun i hi hn=>?_⟩
 have h1:=(h.vd (i:Int)).pos hz
 have h2:¬0<m6 (E9 t (i:Int)) z:=fun hp=>hn (ai0.2 ⟨i,rfl,hi,hp⟩)
 grind
theorem aL2 (h:ExP t kind n) {z:List Rat} (hz:i7 (m7 t kind) z=true):(ay5 t n z).Sublist (D8 t kind n):=by
 refine a5g (b5B z) (X0 t kind n) fun x hx=>?_
 obtain ⟨i,rfl,h1,h2⟩:=ai0.1 hx
 refine a4O.2 ⟨i,rfl,h1,fun h0=>?_⟩
 rw [af7 h h0 hz] at h2
 exact absurd h2 (by decide +kernel)
noncomputable def J0 (t:g7) (kind:Int) (n:Nat) (short:Bool):List (List Int):=aw3 (pX t kind n) (D8 t kind n) short
theorem a08 {s:List Int}:s ∈ J0 t kind n false↔s.Sublist (D8 t kind n)∧pX t kind n s=true∧∀a,a.Sublist s->a≠s->pX t kind n a=false:=b0W (X0 t kind n)
theorem ah9 (h:ExP t kind n) {z:List Rat} (hz:i7 (m7 t kind) z=true):∃c ∈ J0 t kind n false,c.Sublist (ay5 t n z):=by
 obtain ⟨c,h1,h2⟩:=aM3 (X0 t kind n) _ _ rfl (aL2 h hz) (aq5 h hz)
 exact ⟨c,h2,h1⟩
theorem b0r (h:ExP t kind n):J0 t kind n false≠[]:=by
 obtain ⟨c,hc,_⟩:=ah9 h (h.vd 0).has
 exact List.ne_nil_of_mem hc
theorem b4M (h:ExP t kind n) {i:Nat} (hi:i<n):I3 t kind i=2↔∀s ∈ J0 t kind n false,(i:Int) ∈ s:=by
 rw [aQ9 h]
 constructor
 ·intro hA s hs
  obtain ⟨z,h1,h2⟩:=a2g.1 (a08.1 hs).2.1
  apply a0k
  intro hn
  have:=hA z h1
  rw [h2 i hi hn] at this
  exact absurd this (by decide +kernel)
 ·intro hA z hz
  obtain ⟨c,hc,hs⟩:=ah9 h hz
  obtain ⟨j,hj,_,hp⟩:=ai0.1 (hs.subset (hA c hc))
  have:i=j:=by omega
  subst this;exact hp
theorem aO1 {i:Nat} (h0:I3 t kind i=0):∀s ∈ J0 t kind n false,(i:Int) ∉ s:=by
 intro s hs hm
 obtain ⟨j,hj,_,hp⟩:=a4O.1 ((a08.1 hs).1.subset hm)
 have:i=j:=by omega
 subst this;exact hp h0
theorem aK3:∀a:List Int,aj3 a a=false
 |[]=>rfl
 |x::r=>by simp [aj3,aK3 r]
theorem a67 (a:List Int):a1e a a=false:=by unfold a1e;rw [if_neg (by simp)];exact aK3 a
theorem aP6:(J0 t kind n false).Pairwise fun a b=>a1e a b=true:=aF6 (X0 t kind n) _
theorem aV5 {a b:List Int} (ha:a ∈ J0 t kind n false) (hb:b ∈ J0 t kind n false) (hne:a≠b):C5 a b=false:=by
 rw [← lbQ]
 intro hp
 have a1:=a08.1 ha
 have b1:=a08.1 hb
 have hs:=a5g (a71 (X0 t kind n) a1.1) (a71 (X0 t kind n) b1.1) (a1m.1 hp)
 have:=b1.2.2 a hs hne
 rw [a1.2.1] at this;cases this
theorem b4D (h:ExP t kind n) (hs:a4M t kind=false):i7 (m7 t kind) (List.replicate t.ev.moves.length 0)=true:=by
 have hno:∀j,j8 t.finds kind j=[]:=fun j=>by
  unfold j8
  rw [List.map_eq_nil_iff,List.filter_eq_nil_iff]
  intro f hf hc
  simp only [lbN,lbJ] at hc
  have:a4M t kind=true:=lbx.2 ⟨f,hf,lbI hc.1⟩
  rw [hs] at this;cases this
 have hz:=h.poss (h.vd 0).has
 generalize n7 (m7 t kind) []=z at hz
 have hb:=b2l (w:=List.replicate t.ev.moves.length 0) (s:=0) hz lb2 (by decide +kernel) (by rw [hz.len];simp) fun j hj=>by
  simp [lbl,hj]
 refine h.sol ⟨h.e,h.k0,h.k1,by simp,fun j x hx=>?_⟩
 obtain ⟨b1,b2⟩:=hb.step j x hx
 exact ⟨b1,b2.cap,fun g hg=>(by rw [hno j] at hg;cases hg),b2.cln⟩
theorem aW9 (h:ExP t kind n):pX t kind n []=!a4M t kind:=by
 cases hs:a4M t kind with
 |true=>
  show _=false
  rw [← lbQ]
  intro hp
  obtain ⟨z,h1,h2⟩:=a2g.1 hp
  obtain ⟨i,hi,hpos⟩:=b2G h hs h1
  rw [h2 i hi (by simp)] at hpos
  exact absurd hpos (by decide +kernel)
 |false=>
  have hsol:=b4D h hs
  refine a2g.2 ⟨_,hsol,fun i hi _=>?_⟩
  have h1:=(h.vd (i:Int)).pos hsol
  have h2:¬0<m6 (E9 t (i:Int)) (List.replicate t.ev.moves.length 0):=fun hp=>by
   obtain ⟨x,hx,hp0⟩:=(a7r (a1u hsol) _).1 hp
   rw [b5q] at hp0
   exact absurd hp0 (by decide +kernel)
  grind
theorem b3E (h:ExP t kind n):∃rest,J0 t kind n false=J0 t kind n true++rest∧J0 t kind n true≠[]∧(∀ a ∈ J0 t kind n true,∀b ∈ J0 t kind n true,a.length=b.length)∧(∀ a ∈ J0 t kind n true,∀b ∈ rest,a.length<b.length):=by
 obtain ⟨rest,h1,h2,h3,h4⟩:=aG5 (p:=pX t kind n) (l:=D8 t kind n) ((D8 t kind n).length+1)
 refine ⟨rest,h1,fun he=>?_,h3,h4⟩
 have hr:=h2 he
 have hne:=b0r h
 have:J0 t kind n false=J0 t kind n true++rest:=h1
 rw [he,hr] at this
 exact hne this
theorem b32 (h:ExP t kind n) {s:List Int} (hs:s.Sublist (D8 t kind n)) (hp:pX t kind n s=true) {a:List Int} (ha:a ∈ J0 t kind n true):a.length<=s.length:=by
 obtain ⟨c,h1,h2⟩:=aM3 (X0 t kind n) _ _ rfl hs hp
 obtain ⟨rest,f1,f2,f3,f4⟩:=b3E h
 have h2:c ∈ J0 t kind n false:=h2
 rw [f1] at h2
 have hl:=h1.length_le
 rcases lbA.1 h2 with h2|h2
 ·have:=f3 a ha c h2;omega
 ·have:=f4 a ha c h2;omega
end
theorem ap4 {t:g7} {f:L1} {c:F2} {cl:Bool} {kind:Int} {n:Nat} (h1:ExP t kind n) (h2:ExP (I0 t f c cl) kind n) {s:List Int} (hp:pX (I0 t f c cl) kind n s=true):pX t kind n s=true:=by
 obtain ⟨z,hz,hn⟩:=a2g.1 hp
 exact a2g.2 ⟨z,h1.sol (a8i h1.e (h2.poss hz)),fun i hi hm=>by have:=hn i hi hm;rwa [a8l] at this⟩
theorem b2X {t:g7} {f:L1} {c:F2} {cl:Bool} {kind:Int} {n:Nat} (h1:ExP t kind n) (h2:ExP (I0 t f c cl) kind n):(D8 (I0 t f c cl) kind n).Sublist (D8 t kind n):=by
 refine a5g (X0 _ _ _) (X0 _ _ _) fun x hx=>?_
 obtain ⟨i,rfl,hi,hs⟩:=a4O.1 hx
 refine a4O.2 ⟨i,rfl,hi,fun h0=>hs ?_⟩
 rcases aX8 h1 h2 i with h|h
 ·rw [h0] at h;cases h
 ·rw [h,h0]
theorem b3f {t:g7} {f:L1} {c:F2} {cl:Bool} {kind:Int} {n:Nat} (h1:ExP t kind n) (h2:ExP (I0 t f c cl) kind n) {a b:List Int} (ha:a ∈ J0 t kind n true) (hb:b ∈ J0 (I0 t f c cl) kind n true):a.length<=b.length:=by
 obtain ⟨rest,f1,_⟩:=b3E h2
 have hb':b ∈ J0 (I0 t f c cl) kind n false:=by rw [f1];exact lbA.2 (.inl hb)
 obtain ⟨m1,m2,_⟩:=a08.1 hb'
 exact b32 h1 (m1.trans (b2X h1 h2)) (ap4 h1 h2 m2) ha
end
def a4C (bl:List Bool) (i:Nat) (x:v7) (a:List Bool):List Bool:=
 cond (a.getD x.src.toNat false) (cond x.all ((cond (bl.getD i true) a (a.set x.dst.toNat true)).set x.src.toNat false) (cond (bl.getD i true) a (a.set x.dst.toNat true))) a
def a5s (e:Ev) (bl:List Bool) (m:Nat) (d:Nat):Nat->List Bool
 |0=>(List.replicate e.places.length false).set d true
 |k+1=>match e.moves[m+1+k]? with
  |some x=>a4C bl (m+1+k) x (a5s e bl m d k)
  |none=>a5s e bl m d k
theorem ax5 {bl:List Bool} {i:Nat} {x:v7} {a:List Bool}:(a4C bl i x a).length=a.length:=by
 unfold a4C
 cases a.getD x.src.toNat false<;>cases x.all<;>cases bl.getD i true<;>simp
theorem a9D {e:Ev} {bl:List Bool} {m d:Nat}:∀k,(a5s e bl m d k).length=e.places.length
 |0=>by simp [a5s]
 |k+1=>by
  unfold a5s
  split
  ·rw [ax5,a9D k]
  ·exact a9D k
theorem b2c {e:Ev} {bl:List Bool} {m d k:Nat} {x:v7} (h:e.moves[m+1+k]? =some x):a5s e bl m d (k+1)=a4C bl (m+1+k) x (a5s e bl m d k):=by
 rw [a5s,h]
def aa1 (e:Ev) (bl:List Bool) (m:Int):List Int:=match e.moves[m.toNat]? with
 |some x=>y3 (av1 e bl x.dst m.toNat) 0 e.moves
 |none=>[]
structure BQ where
 bef:List Int
 que:List Int
theorem b2x {e:Ev} {m:v7} (h:O0 e m=true):m.src≠m.dst:=by
 simp [O0] at h;exact h.1.1.1.1.1.2
def b95:List Int->List Int->Bool
 |x::a,y::b=>if x=y then b95 a b else decide (x<y)
 |_,_=>false
def bb4 (a b:List Int):Bool:=if b=[]∨a.length≠b.length then decide (b=[]) || decide (a.length<b.length) else b95 a b
section
def a3S (p:List Int):Int:=p.getLast?.getD 0
theorem a5O {p:List Int} {k:Int}:a3S (p++[k])=k:=by simp [a3S]
def ltP (p q:List Int):Prop:=p.length<q.length∨(p.length=q.length∧b95 p q=true)
inductive Pa (fr:Int) (nxt:Int->List Int):List Int->Prop
 |one:Pa fr nxt [fr]
 |snoc {p:List Int} {k:Int} (h:Pa fr nxt p) (hk:k ∈ nxt (a3S p)):Pa fr nxt (p++[k])
def b9Y (ps:List (List Int)) (k:Int):Bool:=ps.any fun q=>decide (a3S q=k)
def b74 (p:List Int) (ps:List (List Int)) (k:Int):List (List Int):=if b9Y ps k=true then ps else ps++[p++[k]]
section
variable {fr:Int} {nxt:Int->List Int}
theorem Pa.pos {p:List Int} (h:Pa fr nxt p):0<p.length:=by cases h<;>simp
theorem Pa.ge (hgt:∀m k,k ∈ nxt m->m<k) {p:List Int} (h:Pa fr nxt p):fr<=a3S p:=by
 induction h with
 |one=>simp [a3S]
 |snoc h hk ih=>rw [a5O];have:=hgt _ _ hk;omega
def b6P (nxt:Int->List Int) (ps:List (List Int)) (p:List Int):List (List Int):=(nxt (a3S p)).foldl (b74 p) ps
def bc3 (nxt:Int->List Int) (ps:List (List Int)) (b:Nat):List (List Int):=(ps.drop b).foldl (b6P nxt) ps
end
end
theorem aP9 {e:Ev} {bl:List Bool} (m k:Int) (h:k ∈ aa1 e bl m):m<k:=by
 unfold aa1 at h
 split at h
 ·obtain ⟨i,z,hz,hP,rfl⟩:=U4.1 h
  simp [av1] at hP
  omega
 ·cases h
def a6X (e:Ev) (i k:Nat):Bool:=match e.moves[i]?,e.moves[k]? with
 |some u,some v=>decide (i<k) && decide (v.src=u.dst) && a3M e u.dst i k
 |_,_=>false
theorem as5 {e:Ev} {bl:List Bool} {i j:Nat}:(j:Int) ∈ aa1 e bl i↔a6X e i j=true∧bl.getD j true=false:=by
 unfold aa1 a6X
 rw [lbY]
 cases hi:e.moves[i]? with
 |none=>simp
 |some u=>
  simp only
  constructor
  ·intro h
   obtain ⟨k,z,hz,hP,hk⟩:=U4.1 h
   have:k=j:=by omega
   subst this
   rw [Nat.zero_add] at hP
   simp only [av1,lbN,Bool.not_eq_true'] at hP
   rw [hz]
   exact ⟨by simp only [lbN];exact hP.1,hP.2⟩
  ·rintro ⟨h1,h2⟩
   cases hj:e.moves[j]? with
   |none=>rw [hj] at h1;cases h1
   |some v=>
    rw [hj] at h1
    refine U4.2 ⟨j,v,hj,?_,by omega⟩
    rw [Nat.zero_add]
    simp only [av1,lbN,Bool.not_eq_true']
    simp only [lbN] at h1
    exact ⟨h1,h2⟩
theorem b4R {e:Ev} {i j:Nat} (h:a6X e i j=true):i<j∧j<e.moves.length:=by
 unfold a6X at h
 split at h
 ·rename_i u v hu hv
  simp only [lbN,lbJ] at h
  exact ⟨h.1.1,(lbe.1 hv).1⟩
 ·cases h
theorem Pa.case {e:Ev} {bl:List Bool} {fr:Nat} {q:List Int} (h:Pa fr (aa1 e bl) q) {k:Nat} (hk:a3S q=k):(q=[(fr:Int)]∧k=fr)∨∃(p:List Int) (i:Nat),q=p++[(k:Int)]∧Pa fr (aa1 e bl) p∧a3S p=i∧fr<=i∧a6X e i k=true∧bl.getD k true=false:=by
 cases h with
 |one=>left;simp [a3S] at hk;exact ⟨rfl,by omega⟩
 |@snoc p j hp hj=>
  right
  rw [a5O] at hk
  subst hk
  have hge:=hp.ge aP9
  obtain ⟨i,hi⟩:=Int.eq_ofNat_of_zero_le (show 0<=a3S p by omega)
  rw [hi] at hj
  obtain ⟨h1,h2⟩:=as5.1 hj
  exact ⟨p,i,rfl,hp,hi,by omega,h1,h2⟩
theorem an6 {a:List Bool} {i j:Nat} {v:Bool} (h:i<a.length):(a.set i v).getD j false=if j=i then v else a.getD j false:=by
 rw [lbl,lbl]
 by_cases hj:j=i
 ·subst hj;rw [List.getElem?_set_self h,if_pos rfl];rfl
 ·rw [List.getElem?_set_ne (Ne.symm hj),if_neg hj]
def Rch (e:Ev) (bl:List Bool) (m v:Nat):Prop:=∃q,Pa m (aa1 e bl) q∧a3S q=(v:Int)
theorem Rch.self {e:Ev} {bl:List Bool} {m:Nat}:Rch e bl m m:=⟨_,.one,rfl⟩
theorem Rch.ge {e:Ev} {bl:List Bool} {m v:Nat} (h:Rch e bl m v):m<=v:=by
 obtain ⟨q,h1,h2⟩:=h
 have:=h1.ge aP9
 omega
theorem Rch.step {e:Ev} {bl:List Bool} {m v k:Nat} (h:Rch e bl m v) (hs:a6X e v k=true) (hb:bl.getD k true=false):Rch e bl m k:=by
 obtain ⟨q,h1,h2⟩:=h
 exact ⟨q++[(k:Int)],.snoc h1 (by rw [h2];exact as5.2 ⟨hs,hb⟩),a5O⟩
theorem Rch.case {e:Ev} {bl:List Bool} {m k:Nat} (h:Rch e bl m k):k=m∨∃v,Rch e bl m v∧a6X e v k=true∧bl.getD k true=false:=by
 obtain ⟨q,h1,h2⟩:=h
 rcases h1.case h2 with ⟨_,h⟩|⟨p,i,_,h4,h5,_,h7,h8⟩
 ·exact .inl h
 ·exact .inr ⟨i,⟨p,h4,h5⟩,h7,h8⟩
def a5y (e:Ev) (bl:List Bool) (m i p:Nat):Prop:=∃(v:Nat) (u:v7),v<i∧e.moves[v]? =some u∧Rch e bl m v∧u.dst=(p:Int)∧a3M e u.dst v i=true
theorem a5y.reach {e:Ev} {bl:List Bool} {m i:Nat} {x:v7} (hx:e.moves[i]? =some x) (hm:m<i) {p:Nat} (hp:x.src=(p:Int)) (hb:bl.getD i true=false):Rch e bl m i↔a5y e bl m i p:=by
 constructor
 ·intro h
  rcases h.case with h|⟨v,h1,h2,_⟩
  ·omega
  ·have h3:=b4R h2
   unfold a6X at h2
   split at h2
   ·rename_i u w hu hw
    rw [hx] at hw
    injection hw with hw
    subst hw
    simp only [lbN,lbJ] at h2
    exact ⟨v,u,h3.1,hu,h1,by rw [← h2.1.2,hp],h2.2⟩
   ·cases h2
 ·rintro ⟨v,u,h1,h2,h3,h4,h5⟩
  refine h3.step ?_ hb
  unfold a6X
  rw [h2,hx]
  simp only [lbN,lbJ]
  exact ⟨⟨h1,by rw [hp,h4]⟩,h5⟩
theorem am1 {a:List Bool} {i j:Nat} (h:i<a.length):(a.set i true).getD j false=true↔j=i∨a.getD j false=true:=by
 rw [an6 h]
 split
 ·rename_i hq;simp [hq]
 ·rename_i hq;simp [hq]
theorem b2W {a:List Bool} {i j:Nat} (h:i<a.length):(a.set i false).getD j false=true↔j≠i∧a.getD j false=true:=by
 rw [an6 h]
 split
 ·rename_i hq;simp [hq]
 ·rename_i hq;simp [hq]
theorem atTo_holds {e:Ev} (h0:J8 e=0) {bl:List Bool} {m:Nat} {x0:v7} (hm:e.moves[m]? =some x0):∀k,m+1+k<=e.moves.length->∀p,(a5s e bl m x0.dst.toNat k).getD p false=true↔a5y e bl m (m+1+k) p
 |0,_,p=>by
  have hd:=a3s (K8 h0 (lbm hm))
  have hl:x0.dst.toNat<(List.replicate e.places.length false).length:=by simp;omega
  rw [a5s,am1 hl]
  have hr:(List.replicate e.places.length false).getD p false=false:=by simp [lbl,lbk];split<;>rfl
  rw [hr]
  constructor
  ·rintro (h|h)
   ·exact ⟨m,x0,by omega,hm,.self,by omega,a6N⟩
   ·cases h
  ·rintro ⟨v,u,h1,h2,h3,h4,h5⟩
   have:=h3.ge
   obtain rfl:v=m:=by omega
   rw [hm] at h2
   injection h2 with h2
   subst h2
   exact .inl (by omega)
 |k+1,hk,p=>by
  have hlt:m+1+k<e.moves.length:=by omega
  obtain ⟨x,hx⟩:∃x,e.moves[m+1+k]? =some x:=⟨_,lbf hlt⟩
  have hmo:=K8 h0 (lbm hx)
  have hsr:=R6 hmo
  have hdr:=a3s hmo
  have hne:=b2x hmo
  have ih:=atTo_holds h0 (bl:=bl) hm k (by omega)
  have hal:=a9D (e:=e) (bl:=bl) (m:=m) (d:=x0.dst.toNat) k
  obtain ⟨s,hs⟩:=Int.eq_ofNat_of_zero_le hsr.1
  obtain ⟨d,hd⟩:=Int.eq_ofNat_of_zero_le hdr.1
  rw [b2c hx]
  unfold a4C
  rw [hs,hd,lbY,lbY]
  have hsd:s≠d:=by omega
  -- what holds before the next move
  have old:∀q:Nat,(∃ (v:Nat) (u:v7),v<m+1+k∧e.moves[v]? =some u∧Rch e bl m v∧u.dst=(q:Int)∧a3M e u.dst v (m+1+(k+1))=true)↔a5y e bl m (m+1+k) q∧¬(s=q∧x.all=true):=fun q=>by
   constructor
   ·rintro ⟨v,u,h1,h2,h3,h4,h5⟩
    have:=h3.ge
    rw [show m+1+(k+1)=m+1+k+1 by omega,a8z hx (by omega),lbN] at h5
    refine ⟨⟨v,u,h1,h2,h3,h4,h5.1⟩,?_⟩
    rintro ⟨rfl,ha⟩
    have h6:=h5.2
    rw [ha,h4,hs] at h6
    simp at h6
   ·rintro ⟨⟨v,u,h1,h2,h3,h4,h5⟩,h6⟩
    refine ⟨v,u,h1,h2,h3,h4,?_⟩
    rw [show m+1+(k+1)=m+1+k+1 by omega,a8z hx (by omega),h5,Bool.true_and]
    cases ha:x.all with
    |false=>simp
    |true=>
     have:¬s=q:=fun h=>h6 ⟨h,ha⟩
     simp [hs,h4]
     omega
  have new:∀q:Nat,a5y e bl m (m+1+(k+1)) q↔(a5y e bl m (m+1+k) q∧¬(s=q∧x.all=true))∨(d=q∧Rch e bl m (m+1+k)):=fun q=>by
   rw [← old q]
   constructor
   ·rintro ⟨v,u,h1,h2,h3,h4,h5⟩
    by_cases hv:v=m+1+k
    ·subst hv
     rw [hx] at h2
     injection h2 with h2
     subst h2
     exact .inr ⟨by omega,h3⟩
    ·exact .inl ⟨v,u,by omega,h2,h3,h4,h5⟩
   ·rintro (⟨v,u,h1,h2,h3,h4,h5⟩|⟨rfl,h⟩)
    ·exact ⟨v,u,by omega,h2,h3,h4,h5⟩
    ·exact ⟨m+1+k,x,by omega,hx,h,hd,a6N⟩
  have hrch:Rch e bl m (m+1+k)↔(a5s e bl m x0.dst.toNat k).getD s false=true∧bl.getD (m+1+k) true=false:=by
   constructor
   ·intro h
    have hb:bl.getD (m+1+k) true=false:=by
     rcases h.case with h'|⟨v,_,_,h'⟩
     ·omega
     ·exact h'
    exact ⟨(ih s).2 ((a5y.reach hx (by omega) hs hb).1 h),hb⟩
   ·rintro ⟨h1,h2⟩
    exact (a5y.reach hx (by omega) hs h2).2 ((ih s).1 h1)
  rw [new p]
  cases ha:(a5s e bl m x0.dst.toNat k).getD s false with
  |false=>
   rw [cond_false]
   have hnr:¬Rch e bl m (m+1+k):=fun h=>by have:=(hrch.1 h).1;rw [ha] at this;cases this
   have hnh:¬a5y e bl m (m+1+k) s:=fun h=>by have:=(ih s).2 h;rw [ha] at this;cases this
   rw [ih p]
   constructor
   ·intro h
    exact .inl ⟨h,fun hq=>hnh (hq.1 ▸ h)⟩
   ·rintro (h|h)
    ·exact h.1
    ·exact absurd h.2 hnr
  |true=>
   rw [cond_true]
   have hr2:Rch e bl m (m+1+k)↔bl.getD (m+1+k) true=false:=by rw [hrch,ha];simp
   have h1:∀q:Nat,(cond (bl.getD (m+1+k) true) (a5s e bl m x0.dst.toNat k) ((a5s e bl m x0.dst.toNat k).set d true)).getD q false=true↔a5y e bl m (m+1+k) q∨(d=q∧Rch e bl m (m+1+k)):=fun q=>by
    rw [hr2]
    cases hb:bl.getD (m+1+k) true with
    |true=>rw [cond_true,ih q];simp
    |false=>
     rw [cond_false,am1 (by rw [hal];omega),ih q]
     constructor
     ·rintro (h|h)
      ·exact .inr ⟨h.symm,rfl⟩
      ·exact .inl h
     ·rintro (h|h)
      ·exact .inr h
      ·exact .inl h.1.symm
   have hlen:(cond (bl.getD (m+1+k) true) (a5s e bl m x0.dst.toNat k) ((a5s e bl m x0.dst.toNat k).set d true)).length=e.places.length:=by
    cases bl.getD (m+1+k) true<;>simp [hal]
   cases hall:x.all with
   |false=>
    rw [cond_false,h1 p]
    simp
   |true=>
    rw [cond_true,b2W (by rw [hlen];omega),h1 p]
    constructor
    ·rintro ⟨h2,h3|h3⟩
     ·exact .inl ⟨h3,fun h=>h2 h.1.symm⟩
     ·exact .inr h3
    ·rintro (⟨h2,h3⟩|⟨h2,h3⟩)
     ·exact ⟨fun h=>h3 ⟨h.symm,rfl⟩,.inl h2⟩
     ·exact ⟨by omega,.inr ⟨h2,h3⟩⟩
theorem b2D {s:k7} {g:List (Int × Rat)} {Y:List Rat} (hr:m8 s=true) (hg:k6 (-1) ((s.n.toNat:Nat):Int) g=true) (h:b4d s (G1 g) Y=true) (h0:b35 s (yN Y)=0) {z:List Rat} (hz:i7 s z=true):m6 g z<=0:=by
 have hb:=am4 (g:=G1 g) (b1J hr h) hz
 have e:i9 (fun l=>L3 (G1 g) l*z.getD l 0) s.n.toNat=m6 (G1 g) z:=(R4 (a2T hg) z).symm
 rw [e,a01 (s:=s) (g:=g),h0] at hb
 grind
theorem b8O {s:k7} (h:a5F s):∀w ∈ s.rows,b1Z 11 w:=fun w hw=>by
 obtain ⟨a,b⟩:=h.i w hw
 exact ⟨a,by have:=ag0 b;omega⟩
theorem b2R {s:k7} {x:List Rat} {B:Nat} (h:a5F s) (hB:B<=2000) (hl:x.length<=1000000) (hx:∀v ∈ x,rl v<=B):PtB s x:=by
 have h9:=h.n
 have:=lbT (show s.n.toNat<=9 by omega) (show B+4<=2004 by omega)
 exact b8H h.r (b8O h) (B:=B) (by omega) (by omega) hl hx
def b9r {α:Type} (F:Fence) (n:Nat) (P:Program) (g:Nat) (lb:Array Value) (encs:α->Array Value) (G:α->World->Prop) (Kp:World->World->Prop) (S:List α->Prop) (N:Nat) (w:World):Prop:=
 ∀(l:Nat) (J:List α->World->Prop) (W:World),Below w.heap.size w W->AbidesFrom W.heap.size J->
  (∀ pre x W1,J pre W1->G x W1->pre.length<N->YieldAt F (n - 1) P l (encs x) W1 fun e W'=>e=.returned (.bool true)∧J (pre++[x]) W'∧Kp W1 W')->
  J [] W->CallsIn F n P g (#[.func (.yield l) #[] #[]]++lb) W fun e W'=>(∃ v,e=.returned v)∧∃xs,S xs∧J xs W'
theorem a8q (w:World) (ι:Io) (M:Ms):p7 w ι M []:=
 ⟨fun id k h=>by simp at h,fun id k h=>by simp at h,fun id k h=>by simp at h,fun id id' k k' h=>by simp at h,fun id id' k k' h=>by simp at h⟩
theorem ay2 {P:Program} {g:FuncId} {args:List S} {r:S} (h:e7 P g args [] r []) {w:World} {ι:Io} {M:Ms} {vals:List Value} (hl:vals.length=args.length)
 (hv:∀j s,args[j]? =some s->RS w ι M s (vals.getD j undef)) (hMB:MB w M) (hF:Y9 ι 0):
 Calls P g vals.toArray w fun e w'=>∃v,e=.returned v∧(∃ ι' M',RS w' ι' M' r v∧(∀ b,M b->M' b))∧Below w.heap.size w w':=by
 have:=h.2 w ι M vals hl hv (a8q _ _ _) hMB hF
 refine Calls.mono this ?_
 rintro e w' ⟨v,rfl,ι',M',h1,h2,h3,h4,h5⟩
 have nl:∀b,¬a2I ι [] b:=by rintro b ⟨id,k,c,s,hk,_⟩;simp at hk
 refine ⟨v,rfl,⟨ι',M',h1,fun b hb=>?_⟩,⟨h5.os,h5.tape,h5.output,h5.size,fun b hb=>h5.keep b hb (nl b)⟩⟩
 rcases h5.mold b hb with h|h
 ·exact h
 ·exact absurd h (nl b)
theorem aH7 {w w':World} {ι:Io} {M:Ms} {s:S} {v:Value} (h:RS w' ι M s v) (hb:Below w.heap.size w w') (hMB:MB w M) (hF:Y9 ι 0):H4 w ι M [] s [] v w':=
 ⟨ι,M,h,a8q _ _ _,fun b hm=>Nat.lt_of_lt_of_le (hMB b hm) hb.size,hF,
   ⟨hb.os,hb.tape,hb.output,hb.size,fun b hb' _=>hb.block b hb',fun _ _=>rfl,fun b h=>.inl h,fun b h=>.inl h,fun b h=>by obtain ⟨id,k,c,s,hk,_⟩:=h;simp at hk,lbR _⟩⟩
theorem a30 {w w':World} {ι:Io} {M:Ms} (hb:Below w.heap.size w w') {s:S} {v:Value} (h:RS w ι M s v):RS w' ι M s v:=
 h.keep (fun b hb' _=>hb.block b hb') (fun b h=>.inl h) (fun _ _ h=>h)
section
open Go.RowKit Go.Shelf
attribute [local go_sem] Oper.semAt_some
theorem az7 {F:Fence} (hd:F.depth=none) (k:Nat):F.room k:=fun d h=>by rw [hd] at h;cases h
theorem RoundIn.anyDepth {F:Fence} (hd:F.depth=none) {m m':Nat} {P:Program} {l:Nat} {f:FuncId} {tmps:Array Value} {assign body:Code} {w:World} {R:Ending->World->Prop}
 (h:RoundIn F m P l f tmps assign body w R):RoundIn F m' P l f tmps assign body w R:=⟨h.1,fun c cs _=>h.2 c cs (az7 hd _)⟩
theorem YieldAt.anyDepth {F:Fence} (hd:F.depth=none) {m:Nat} (m':Nat) {P:Program} {l:Nat} {args:Array Value} {W:World} {R:Ending->World->Prop} (h:YieldAt F m P l args W R):YieldAt F m' P l args W R:=by
 obtain ⟨fn,tmps,assign,body,hy,hR⟩:=h
 exact ⟨fn,tmps,assign,body,hy,RoundIn.anyDepth hd hR⟩
theorem ao6 {F:Fence} {n:Nat} {P:Program} {c:Code} {K:Act->World->Prop} {Q:Exit->Act->World->Prop} {a:Act} {w:World} (h:c.wpIn F n P (Exit.then K (fun _ _ _=>False)) a w):c.wpIn F n P (Exit.then K Q) a w:=
 wpIn_mono h (fun e a w h=>by cases e<;>first|exact h|exact h.elim)
abbrev tI:TypeId:=3
abbrev tIs:TypeId:=33
abbrev a2n:TypeId:=36
def b4J (l:List Int):List Value:=l.map fun x=>.int .i64 x
theorem b5Q (l:List Int):(b4J l).length=l.length:=by simp [b4J]
theorem aH9 {l:List Int} {i:Nat} {x:Int} (h:l[i]? =some x):(b4J l)[i]? =some (.int .i64 x):=by simp [b4J,h]
structure KpX (X ns:Nat) (A B:World):Prop where
 size:A.heap.size<=B.heap.size
 keep:∀(b:Nat) (vs:Array Value) (t:TypeId) (fl:Nat × Nat),A.heap[b]? =some (.cells vs t fl)->b≠X->(b<ns∨t≠tIs)->B.heap[b]? =some (.cells vs t fl)
theorem KpX.refl (X ns:Nat) (A:World):KpX X ns A A:=⟨lbR _,fun _ _ _ _ h _ _=>h⟩
theorem KpX.trans {X ns:Nat} {A B C:World} (h:KpX X ns A B) (k:KpX X ns B C):KpX X ns A C:=⟨lbS h.size k.size,fun b vs t fl h1 h2 h3=>k.keep b vs t fl (h.keep b vs t fl h1 h2 h3) h2 h3⟩
theorem KpX.below {X ns:Nat} {A B:World} (h:Below A.heap.size A B):KpX X ns A B:=⟨h.size,fun b vs t fl h1 _ _=>(h.block b (t9 h1)).trans h1⟩
theorem KpX.grown {X ns:Nat} {A B:World} (h:A.grownBy B none):KpX X ns A B:=⟨h.size,fun b vs t fl h1 _ _=>(h.block b (t9 h1) (by simp)).trans h1⟩
theorem KpX.drew (X ns:Nat) (A:World):KpX X ns A A.drew:=⟨lbR _,fun _ _ _ _ h _ _=>h⟩
theorem KpX.alloc (X ns:Nat) (A:World) (o:Obj):KpX X ns A (A.alloc o):=KpX.grown (World.grownBy_alloc A o none)
theorem KpX.boxed {X ns:Nat} {A B:World} (h:KpX X ns A B) {b:Nat} {t:TypeId} {v:Value} (hb:Boxed A b t v) (hX:b≠X) (ht:b<ns∨t≠tIs):Boxed B b t v:=h.keep _ _ _ _ hb hX ht
theorem aL9 {W:World} {a:Addr} {v:Value} (h:W.cell? a=some v):∃vs t fl,W.heap[a.block]? =some (.cells vs t fl):=by
 obtain ⟨o,ho,hc⟩:=cells_of_cell h
 cases o with
 |cells vs t fl=>exact ⟨vs,t,fl,ho⟩
 |_=>cases hc
theorem KpX.cell {X ns:Nat} {A B:World} (h:KpX X ns A B) {a:Addr} {v:Value} (hb:A.cell? a=some v) (hX:a.block≠X) (ht:a.block<ns):B.cell? a=some v:=by
 obtain ⟨vs,t,fl,ho⟩:=aL9 hb
 exact (World.cell?_of_block ((h.keep _ _ _ _ ho hX (.inl ht)).trans ho.symm)).trans hb
structure DnC (X ns Bn By Bl Bd lp n:Nat) (l:List Int) (A:Option Addr) (cap:Nat) (W:World):Prop where
 bn:Boxed W Bn tI (.int .i64 (n:Int))
 yd:Boxed W By 166 (.func (.yield lp) #[] #[])
 bl:Boxed W Bl tIs (.slice A l.length cap)
 bd:Boxed W Bd 219 (.func (.func 200) #[] #[.pointer (some ⟨Bn,0,none⟩),.pointer (some ⟨By,0,none⟩),.pointer (some ⟨Bl,0,none⟩),.pointer (some ⟨Bd,0,none⟩)])
 row:∀i x,l[i]? =some x->∃b off,A=some ⟨b,off,none⟩∧W.cell? ⟨b,off+i,none⟩=some (.int .i64 x)∧b<ns∧b≠X
 nX:Bn≠X∧By≠X∧Bl≠X∧Bd≠X∧Bl<ns∧X<ns
 lc:l.length<=cap∧cap<=maxLen
theorem DnC.keep {X ns Bn By Bl Bd lp n:Nat} {l:List Int} {A:Option Addr} {cap:Nat} {W W':World} (h:DnC X ns Bn By Bl Bd lp n l A cap W) (k:KpX X ns W W'):DnC X ns Bn By Bl Bd lp n l A cap W':=by
 obtain ⟨n1,n2,n3,n4,n5,n6⟩:=h.nX
 refine ⟨k.boxed h.bn n1 (.inr (by decide)),k.boxed h.yd n2 (.inr (by decide)),k.boxed h.bl n3 (.inl n5),k.boxed h.bd n4 (.inr (by decide)),fun i x hx=>?_,h.nX,h.lc⟩
 obtain ⟨b,off,h1,h2,h3,h4⟩:=h.row i x hx
 exact ⟨b,off,h1,k.cell h2 h4 h3,h3,h4⟩
theorem DnC.rt {X ns Bn By Bl Bd lp n:Nat} {l:List Int} {A:Option Addr} {cap:Nat} {W:World} (h:DnC X ns Bn By Bl Bd lp n l A cap W):RT W (fun _=>False) (E5 l) (.slice A l.length cap):=by
 have hl:(l.map i5).length=l.length:=by simp
 have at1:∀i j t,at2 (l.map i5) i j=some t->∃x,l[i]? =some x∧j=0∧t=ti x:=by
  intro i j t h
  unfold at2 at h
  rw [lba] at h
  cases hx:l[i]? with
  |none=>rw [hx] at h;cases h
  |some x=>
   rw [hx] at h
   cases j with
   |zero=>refine ⟨x,rfl,rfl,?_⟩;simp [i5] at h;exact h.symm
   |succ j=>simp [i5] at h
 obtain ⟨b,off,hA,hr⟩:∃b off,(l≠[]->A=some ⟨b,off,none⟩)∧∀i x,l[i]? =some x->W.cell? ⟨b,off+i,none⟩=some (.int .i64 x):=by
  cases hl0:l with
  |nil=>exact ⟨0,0,fun h=>absurd rfl h,fun i x h=>by simp at h⟩
  |cons x0 r=>
   obtain ⟨b,off,h1,h2,_⟩:=h.row 0 x0 (by rw [hl0];rfl)
   refine ⟨b,off,fun _=>h1,fun i x hx=>?_⟩
   obtain ⟨b2,off2,h3,h4,_⟩:=h.row i x (by rw [hl0];exact hx)
   rw [h1] at h3
   injection h3 with h3
   injection h3 with h5 h6
   subst h5;subst h6
   exact h4
 rw [← hl]
 refine .sl (size:=1) (k:=.any) (b:=b) (off:=off) (fun i j=>.int .i64 (l.getD i 0)) (fun r hr=>by obtain ⟨x,_,rfl⟩:=lby.1 hr;rfl) (by rw [hl];exact h.lc.1) h.lc.2 (fun h=>nomatch h) (fun h=>nomatch h) (fun hne=>hA (by simpa using hne)) (fun i j t ht=>?_) (fun i j t ht=>?_)
 ·obtain ⟨x,hx,rfl,rfl⟩:=at1 i j t ht
  refine ⟨?_,fun h=>h⟩
  have:=hr i x hx
  rw [lbl,hx]
  simpa using this
 ·obtain ⟨x,hx,rfl,rfl⟩:=at1 i j t ht
  rw [lbl,hx]
  exact .atm rfl
def a19 (n0:Nat) (W:World) (s:List Int) (v:Value):Prop:=
 (s=[]∧∃A,v=.slice A 0 0)∨∃g cap cur,v=.slice (some ⟨g,0,none⟩) s.length cap∧n0<=g∧W.heap[g]? =some (.cells cur tI (0,0))∧s.length<=cap∧cap<=maxLen∧cur.toList.take s.length=b4J s
theorem KpX.irow {X ns n0:Nat} {A B:World} (h:KpX X ns A B) {s:List Int} {v:Value} (hX:X<n0) (hr:a19 n0 A s v):a19 n0 B s v:=by
 rcases hr with hr|⟨g,cap,cur,h1,h2,h3,h4⟩
 ·exact .inl hr
 ·exact .inr ⟨g,cap,cur,h1,h2,h.keep _ _ _ _ h3 (by omega) (.inr (by decide)),h4⟩
theorem a19.below {n0:Nat} {A B:World} (h:Below A.heap.size A B) {s:List Int} {v:Value} (hr:a19 n0 A s v):a19 n0 B s v:=by
 rcases hr with hr|⟨g,cap,cur,h1,h2,h3,h4⟩
 ·exact .inl hr
 ·exact .inr ⟨g,cap,cur,h1,h2,(h.block g (t9 h3)).trans h3,h4⟩
theorem a19.mono {n0 m0:Nat} {A:World} (h:m0<=n0) {s:List Int} {v:Value} (hr:a19 n0 A s v):a19 m0 A s v:=by
 rcases hr with hr|⟨g,cap,cur,h1,h2,h3,h4⟩
 ·exact .inl hr
 ·exact .inr ⟨g,cap,cur,h1,by omega,h3,h4⟩
theorem a19.one {n0:Nat} {A:World} {s:List Int} {v:Value} (hr:a19 n0 A s v):v.oneCell'=true:=by
 rcases hr with ⟨_,A,rfl⟩|⟨g,cap,cur,rfl,_⟩<;>rfl
theorem a19.rt {n0:Nat} {W:World} {M:Ms} {s:List Int} {v:Value} (hr:a19 n0 W s v) (hM:∀b,M b->b<n0):RT W M (E5 s) v:=by
 rcases hr with ⟨rfl,A,rfl⟩|⟨g,cap,cur,rfl,h2,h3,h4,h5,h6⟩
 ·exact .sl (size:=1) (k:=.any) (rows:=[]) (b:=0) (off:=0) (cap:=0) (fun _ _=>undef) (fun r hr=>by cases hr) (Nat.zero_le _) (Nat.zero_le _) (fun h=>nomatch h) (fun h=>nomatch h) (fun h=>absurd rfl h) (fun i j c h=>by simp [at2] at h) (fun i j c h=>by simp [at2] at h)
 ·have hl:(s.map i5).length=s.length:=by simp
  have at1:∀i j t,at2 (s.map i5) i j=some t->∃x,s[i]? =some x∧j=0∧t=ti x:=by
   intro i j t h
   unfold at2 at h
   rw [lba] at h
   cases hx:s[i]? with
   |none=>rw [hx] at h;cases h
   |some x=>
    rw [hx] at h
    cases j with
    |zero=>refine ⟨x,rfl,rfl,?_⟩;simp [i5] at h;exact h.symm
    |succ j=>simp [i5] at h
  have hc:∀i x,s[i]? =some x->W.cell? ⟨g,0+(i*1+0),none⟩=some (.int .i64 x):=by
   intro i x hx
   have e:(cur.toList.take s.length)[i]? =some (.int .i64 x):=by rw [h6];exact aH9 hx
   have hi:=(lbe.1 hx).1
   rw [lbi,if_pos hi] at e
   have e2:cur[i]? =some (.int .i64 x):=by simpa using e
   simp [World.cell?,h3,e2]
  rw [← hl]
  refine .sl (size:=1) (k:=.any) (b:=g) (off:=0) (fun i j=>.int .i64 (s.getD i 0)) (fun r hr=>by obtain ⟨x,_,rfl⟩:=lby.1 hr;rfl) (by omega) h5 (fun h=>nomatch h) (fun h=>nomatch h) (fun _=>rfl) (fun i j t h=>?_) (fun i j t h=>?_)
  ·obtain ⟨x,hx,rfl,rfl⟩:=at1 i j t h
   refine ⟨?_,fun hm=>by have:=hM _ hm;omega⟩
   rw [hc i x hx,lbl,hx];rfl
  ·obtain ⟨x,hx,rfl,rfl⟩:=at1 i j t h
   rw [lbl,hx]
   exact .atm rfl
theorem aP1 {n0:Nat} {w:World} {ι:Io} {M:Ms} {H:Hp} {id:Nat} {s:List Int} {v:Value} (hH:p7 w ι M H) (hk:H[id]? =some (C0 s)) (hv:RS w ι M (.c (.own id 0 s.length true)) v)
 (hb:∀b cap size,ι id=some (.blk b cap size)->n0<=b):a19 n0 w s v:=by
 generalize hlen:s.length=len at hv
 cases hv with|c hv=>
 cases hv with
 |nil h=>exact .inl ⟨lbG hlen,_,rfl⟩
 |@own _ _ _ _ b cap size A cap' h h1 h2 h3 h4 h5=>
  obtain ⟨_,hA,hc⟩:=h5 rfl
  subst hA hc
  obtain ⟨q1,q2,q3,q4,q5,cur,q6,q7,q8⟩:=hH.blk id _ hk (by intro h;cases h) _ h
  have q1:1=size:=q1
  subst q1
  refine .inr ⟨b,cap',cur,by rw [hlen],hb _ _ _ h,q6,by omega,h4,?_⟩
  refine List.ext_getElem? fun i=>?_
  rw [lbi]
  by_cases hi:i<s.length
  ·rw [if_pos hi]
   have hx:s[i]? =some s[i]:=lbf hi
   rw [aH9 hx]
   obtain ⟨u,hu,hr⟩:=q8 i 0 (.t (ti s[i])) (by show at2 (toC (s.map i5)) i 0=_;simp [at2,toC,i5,hx])
   cases hr with|t hr=>cases hr with|atm=>
   simpa using hu
  ·rw [if_neg hi,lbd (by rw [b5Q];omega)]
end
end Go.Proofs.YtikokmdpigploaaGreat
